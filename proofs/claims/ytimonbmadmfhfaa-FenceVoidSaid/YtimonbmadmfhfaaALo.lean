/- Helper text: pieces of code. -/
import Derived.Test.YtimonbmadmfhfaaALn
namespace Go.AL

variable {P : Program} {rom : Rom} {nt : Nat} {rd : Option Bid} {s : St} {K : Exit → St → Prop}

theorem T.mono {c : Code} {K' : Exit → St → Prop} (h : T P rom rd nt c s K) (hk : ∀ e s', K e s' → K' e s') : T P rom rd nt c s K' :=
  fun β a w R hb => wpIn_mono (h β a w R hb) fun _ _ _ ⟨β', s', k, r⟩ => ⟨β', s', hk _ _ k, r⟩

theorem FF_ext {β β' : Beta} (e : Ext β β') (hb : ∀ b, rd = some b → β.ok b) : FF β' rd = FF β rd := by
  cases rd with
  | none => rfl
  | some b => simp [FF, e.blk (hb b rfl)]
theorem ok_ext {β β' : Beta} (e : Ext β β') (hb : ∀ b, rd = some b → β.ok b) : ∀ b, rd = some b → β'.ok b := fun b h => e.okb (hb b h)

theorem Post.trans {β β₁ : Beta} {h h₁ : Heap} {w w₁ : World} (m : Mv β h w β₁ h₁ w₁) {e : Exit} {a' : Act} {w' : World} (p : Post P rom nt β₁ h₁ w₁ K e a' w') : Post P rom nt β h w K e a' w' := by
  obtain ⟨β', s', k, r, m'⟩ := p
  exact ⟨β', s', k, r, m.trans m'⟩

theorem T_skip (h : K .normal s) : T P rom rd nt .skip s K := fun β a w R _ => wpIn_skip ⟨β, s, h, R, Mv.refl _ _ _⟩
theorem T_label {l : Nat} (h : K .normal s) : T P rom rd nt (.label l) s K := fun β a w R _ => wpIn_label ⟨β, s, h, R, Mv.refl _ _ _⟩
theorem T_exit {id : Nat} (h : K (.exit id) s) : T P rom rd nt (.exit id) s K := fun β a w R _ => wpIn_exit ⟨β, s, h, R, Mv.refl _ _ _⟩
theorem T_ret (h : K .ret s) : T P rom rd nt .ret s K := fun β a w R _ => wpIn_ret ⟨β, s, h, R, Mv.refl _ _ _⟩

/-- What follows a normal end. -/
def andThen (k : St → Prop) (K : Exit → St → Prop) : Exit → St → Prop
  | .normal, s => k s
  | e, s => K e s

theorem T_seq {x y : Code} (h : T P rom rd nt x s (andThen (fun s' => T P rom rd nt y s' K) K)) : T P rom rd nt (.seq x y) s K := by
  intro β a w R hb
  refine wpIn_seq (wpIn_mono (h β a w R hb) ?_)
  rintro e a' w' ⟨β', s', k, r, m⟩
  cases e with
  | normal =>
    have k : T P rom rd nt y s' K := k
    have h2 := k β' a' w' r (ok_ext m.ext hb)
    rw [FF_ext m.ext hb] at h2
    exact wpIn_mono h2 fun e a₂ w₂ p => Post.trans m p
  | _ => exact ⟨β', s', k, r, m⟩

theorem T_cond {c : Operand} {c' : AOpd} {x y : Code} {t : Bool} (hc : compOpd c = some c') (hv : c'.ev s.env = some (.bool t)) (h : T P rom rd nt (bif t then x else y) s K) : T P rom rd nt (.cond c x y) s K := by
  intro β a w R hb
  have hv' := ev_rel hc R.env hv
  simp only [VRel] at hv'
  refine wpIn_cond hv' ?_
  have := h β a w R hb
  cases t <;> exact this

def inBlk (id : Nat) (K : Exit → St → Prop) : Exit → St → Prop
  | .exit id', s => if id' = id then K .normal s else K (.exit id') s
  | e, s => K e s

theorem T_block {id : Nat} {c : Code} (h : T P rom rd nt c s (inBlk id K)) : T P rom rd nt (.block id c) s K := by
  intro β a w R hb
  refine wpIn_block (wpIn_mono (h β a w R hb) ?_)
  rintro e a' w' ⟨β', s', k, r, m⟩
  cases e with
  | exit id' =>
    simp only [inBlk] at k
    simp only [Exit.inBlock]
    split
    · rename_i hid; rw [if_pos hid] at k; exact ⟨β', s', k, r, m⟩
    · rename_i hid; rw [if_neg hid] at k; exact ⟨β', s', k, r, m⟩
  | _ => exact ⟨β', s', k, r, m⟩

theorem least {p : Nat → Prop} (h : ∃ n, p n) : ∃ n, p n ∧ ∀ m, p m → n ≤ m := by
  obtain ⟨n, hn⟩ := h
  induction n using Nat.strongRecOn with
  | _ n ih =>
    by_cases h : ∃ m, m < n ∧ p m
    · obtain ⟨m, h1, h2⟩ := h; exact ih m h1 h2
    · exact ⟨n, hn, fun m hm => Nat.le_of_not_lt fun hl => h ⟨m, hl, hm⟩⟩

open Classical in
theorem T_loop {c : Code} (J : Nat → St → Prop) (n : Nat) (h0 : J n s) (hr : ∀ n s, J n s → T P rom rd nt c s (andThen (fun s' => ∃ m, m < n ∧ J m s') K)) : T P rom rd nt (.loop c) s K := by
  intro β a w R hb
  let J' (n : Nat) (a' : Act) (w' : World) : Prop := ∃ β' s', J n s' ∧ SRel P β' rom nt s' a' w' ∧ Mv β s.h w β' s'.h w'
  let μ (a' : Act) (w' : World) : Nat := if h : ∃ n, J' n a' w' then Classical.choose (least h) else 0
  refine wpIn_loop (fun a' w' => ∃ n, J' n a' w') μ ⟨n, β, s, h0, R, Mv.refl _ _ _⟩ ?_
  intro a₁ w₁ hI
  have hμ : μ a₁ w₁ = Classical.choose (least hI) := by simp only [μ]; rw [dif_pos hI]
  obtain ⟨g1, g2⟩ := Classical.choose_spec (least hI)
  rw [← hμ] at g1
  obtain ⟨β₁, s₁, j, r, m⟩ := g1
  have h2 := hr _ _ j β₁ a₁ w₁ r (ok_ext m.ext hb)
  rw [FF_ext m.ext hb] at h2
  refine wpIn_mono h2 ?_
  rintro e a₂ w₂ ⟨β₂, s₂, k, r₂, m₂⟩
  cases e with
  | normal =>
    obtain ⟨n₂, hlt, j₂⟩ := k
    have hI2 : ∃ n, J' n a₂ w₂ := ⟨n₂, β₂, s₂, j₂, r₂, m.trans m₂⟩
    refine ⟨hI2, ?_⟩
    have hμ2 : μ a₂ w₂ = Classical.choose (least hI2) := by simp only [μ]; rw [dif_pos hI2]
    rw [hμ2]
    exact Nat.lt_of_le_of_lt ((Classical.choose_spec (least hI2)).2 n₂ ⟨β₂, s₂, j₂, r₂, m.trans m₂⟩) hlt
  | _ => exact ⟨β₂, s₂, k, r₂, m.trans m₂⟩

theorem ops_sound {cv : CV} (hcv : CVOk P rom cv) {ops : Array Oper} {β₀ : Beta} {h₀ : Heap} {w₀ : World} (hb : ∀ b, rd = some b → β₀.ok b) : ∀ (l : List Nat) (os : List Oper) (xs : List AOp) (β : Beta) (s : St) (a : Act) (w : World),
    l.map (ops[·]?) = os.map some → compOpers P ops nt os = some xs → SRel P β rom nt s a w → Mv β₀ h₀ w₀ β s.h w → EOps rom cv rd xs s (K .normal) →
    wpOpsIn (FF β₀ rd) 0 P ops (Post P rom nt β₀ h₀ w₀ K) l a w
  | [], os, xs, β, s, a, w, hl, hc, R, M, hE => by
    cases os with
    | nil =>
      simp [compOpers] at hc; subst hc
      exact ⟨β, s, hE, R, M⟩
    | cons o os => simp at hl
  | i :: l, os, xs, β, s, a, w, hl, hc, R, M, hE => by
    cases os with
    | nil => simp at hl
    | cons o os =>
      simp only [List.map_cons, List.cons.injEq] at hl
      simp only [compOpers] at hc
      split at hc
      · rename_i x xs' h1 h2
        injection hc with hc; subst hc
        rw [wpOpsIn_cons, ← FF_ext M.ext hb]
        refine EOp_sound hcv hl.1 h1 R hE ?_
        intro β' s' a' w' hk R' M'
        rw [FF_ext M.ext hb]
        exact ops_sound hcv hb l os xs' β' s' a' w' hl.2 h2 R' (M.trans M') hk
      · cases hc

theorem T_ops {cv : CV} (hcv : CVOk P rom cv) {id : Nat} {ops : Array Oper} {xs : List AOp} (hc : compOpers P ops nt ops.toList = some xs) (h : EOps rom cv rd xs s (K .normal)) : T P rom rd nt (.region id ops false) s K := by
  intro β a w R hb
  refine wpIn_region (ops_sound hcv hb _ ops.toList xs β s a w ?_ hc R (Mv.refl _ _ _) h)
  apply List.ext_getElem
  · simp
  · intro i h1 h2
    simp at h1
    simp [h1]

end Go.AL
