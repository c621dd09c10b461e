/- Helper text: every plain operation that is taken is the model's. -/
import Derived.Test.YtimonbmadmfhfaaALl
namespace Go.AL

variable {P : Program}

theorem sound_builtin (c : Call) (b : Builtin) (hb : c.callee = .builtin b) : Sound P (.call c) := by
  intro ai β rom h h' w nt nx' env a v o ho hc hE H hx
  obtain ⟨callee, args, ts⟩ := c
  simp only at hb
  subst hb
  simp only [compOp] at hc
  obtain ⟨args⟩ := args
  obtain ⟨ts⟩ := ts
  simp only at hc
  unfold compBuiltin at hc
  split at hc
  · rename_i x t
    split at hc
    · rename_i y e h1 h2
      injection hc with hc; subst hc
      exact sound_lenS h2 h1 o ho hE H hx
    · rename_i y h1 h2
      injection hc with hc; subst hc
      exact sound_lenStr h2 h1 o ho hE H hx
    · rename_i y k e h1 h2
      injection hc with hc; subst hc
      exact sound_lenM h2 h1 o ho hE H hx
    · cases hc
  · rename_i s x t t'
    split at hc
    · rename_i p q e u h1 h2 h3 h4
      split at hc
      · rename_i n k z g1 g2 g3
        split at hc
        · rename_i hz
          injection hc with hc; subst hc
          exact sound_append h3 h4 g1 g2 g3 hz h1 h2 o ho hE H hx
        · cases hc
      · cases hc
    · cases hc
  · rename_i x y _
    split at hc
    · rename_i p q h1 h2
      injection hc with hc; subst hc
      exact sound_min h1 h2 _ o ho hE H hx
    · cases hc
  · rename_i x y _
    split at hc
    · rename_i p q h1 h2
      injection hc with hc; subst hc
      exact sound_max h1 h2 _ o ho hE H hx
    · cases hc
  · cases hc

theorem comp_sound (op : Op) : Sound P op := by
  cases op with
  | move x => exact sound_move x
  | assign x => exact sound_assign x
  | pick c a b => exact sound_pick c a b
  | alloc t => exact sound_alloc t
  | box t x => exact sound_box t x
  | build t ps => exact sound_build t ps
  | buildSlice t n ps => exact sound_buildSlice t n ps
  | load t x => exact sound_load t x
  | store t a x => exact sound_store t a x
  | nilCheck x => exact sound_nilCheck x
  | binOp op t x y u => exact sound_binOp op t x y u
  | unOp op t x =>
    cases op with
    | not => exact sound_not t x
    | neg => exact sound_neg t x
    | _ => intro ai β rom h h' w nt nx' env a v o ho hc; simp [compOp] at hc
  | convert s d x => exact sound_convert s d x
  | makeFunc f first caps =>
    cases f with
    | func f => exact sound_makeFunc f first caps
    | _ => intro ai β rom h h' w nt nx' env a v o ho hc; simp [compOp] at hc
  | makeMap t r =>
    cases r with
    | none => exact sound_makeMap t
    | some r => intro ai β rom h h' w nt nx' env a v o ho hc; simp [compOp] at hc
  | makeSlice t l c => exact sound_makeSlice t l c
  | slice t x lo hi mx =>
    cases mx with
    | none => exact sound_slice t x lo hi
    | some m => intro ai β rom h h' w nt nx' env a v o ho hc; simp [compOp] at hc
  | fieldAddr t x f => exact sound_fieldAddr t x f
  | field t x f => exact sound_field t x f
  | indexAddr t x i => exact sound_indexAddr t x i
  | index t x i => exact sound_index t x i
  | extract x i => exact sound_extract x i
  | call c =>
    cases hcl : c.callee with
    | builtin b => exact sound_builtin c b hcl
    | value f => intro ai β rom h h' w nt nx' env a v o ho hc; obtain ⟨_, _, _⟩ := c; simp only at hcl; subst hcl; simp [compOp] at hc
    | invoke r m => intro ai β rom h h' w nt nx' env a v o ho hc; obtain ⟨_, _, _⟩ := c; simp only at hcl; subst hcl; simp [compOp] at hc
  | _ => intro ai β rom h h' w nt nx' env a v o ho hc; simp [compOp] at hc

end Go.AL
