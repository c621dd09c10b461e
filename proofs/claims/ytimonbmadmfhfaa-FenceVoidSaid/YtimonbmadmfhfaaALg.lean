/- Helper text: the abstract operations are the model's, operation for operation. -/
import Derived.Test.YtimonbmadmfhfaaALe
namespace Go.AL

variable {P : Program} {β : Beta} {rom : Rom} {h h' : Heap} {w : World} {nt nx' : Nat} {env : Env} {a : Act} {v : AVal} {ai : AI}

/-- What is to be shown of an operation. -/
def Sound (P : Program) (op : Op) : Prop :=
  ∀ (ai : AI) (β : Beta) (rom : Rom) (h h' : Heap) (w : World) (nt nx' : Nat) (env : Env) (a : Act) (v : AVal) (o : Oper), o.op = op → compOp P op = some ai → ERel β nt env a.tmps → HRel P β rom h w →
    ai.exec rom env h β.nx = some (v, h', nx') → OpOk P β rom h w ((execOp a.eval o).run P w) v h' nx'

theorem sound_move (x : Operand) : Sound P (.move x) := by
  intro ai β rom h h' w nt nx' env a v o ho hc hE H hx
  simp only [compOp, Option.map_eq_some_iff] at hc
  obtain ⟨y, hy, rfl⟩ := hc
  obtain ⟨e1, rfl, rfl⟩ := okOut hx
  exact .val H (by simp [execOp, ho]) (ev_rel hy hE e1)
theorem sound_assign (x : Operand) : Sound P (.assign x) := by
  intro ai β rom h h' w nt nx' env a v o ho hc hE H hx
  simp only [compOp, Option.map_eq_some_iff] at hc
  obtain ⟨y, hy, rfl⟩ := hc
  obtain ⟨e1, rfl, rfl⟩ := okOut hx
  exact .val H (by simp [execOp, ho]) (ev_rel hy hE e1)
theorem sound_pick (c x y : Operand) : Sound P (.pick c x y) := by
  intro ai β rom h h' w nt nx' env a v o ho hc hE H hx
  simp only [compOp] at hc
  split at hc
  · rename_i c' x' y' h1 h2 h3
    injection hc with hc; subst hc
    simp only [AI.exec] at hx
    split at hx
    · rename_i t ht
      have hcv := ev_rel h1 hE ht
      simp only [VRel] at hcv
      obtain ⟨e1, rfl, rfl⟩ := okOut hx
      cases t with
      | true => exact .val H (by simp [execOp, ho, hcv, asBool]) (ev_rel h2 hE e1)
      | false => exact .val H (by simp [execOp, ho, hcv, asBool]) (ev_rel h3 hE e1)
    · cases hx
  · cases hc

theorem intBin_run {op : BinOp} {k : IntKind} {m n : Int} {r : AVal} (t : TypeId) (hop : op ≠ .shl) (hop' : op ≠ .shr) (hr : intBin op k m n = some r) (w : World) :
    ∃ rv, (binOp op t (.int k m) (.int k n)).run P w = .ok rv w ∧ VRel β r rv := by
  cases op <;> simp [intBin] at hr <;> first
    | contradiction
    | (subst hr; exact ⟨_, by simp [binOp, Op.intArith, Op.intCmp, Op.intBits]; rfl, by simp [VRel]⟩)
    | (obtain ⟨h0, rfl⟩ := hr; exact ⟨_, by simp [binOp, Op.intDiv, h0]; rfl, by simp [VRel]⟩)
theorem strBin_run {op : BinOp} {m n : ByteArray} {r : AVal} (t : TypeId) (hr : strBin op m n = some r) (w : World) :
    ∃ rv, (binOp op t (.string m) (.string n)).run P w = .ok rv w ∧ VRel β r rv := by
  cases op <;> simp [strBin] at hr <;> first
    | contradiction
    | (subst hr; exact ⟨_, by simp [binOp, Op.stringOp]; rfl, by simp [VRel]⟩)
theorem eqGuard_int (op : BinOp) (t : TypeId) (x y : Operand) (k k' : IntKind) (m n : Int) : (eqGuard op t x y (.int k m) (.int k' n)).run P w = .ok () w := by
  unfold eqGuard
  split <;> simp
theorem eqGuard_str (op : BinOp) (t : TypeId) (x y : Operand) (m n : ByteArray) : (eqGuard op t x y (.string m) (.string n)).run P w = .ok () w := by
  unfold eqGuard
  split <;> simp
theorem eqGuard_bool (op : BinOp) (t : TypeId) (x y : Operand) (m n : Bool) : (eqGuard op t x y (.bool m) (.bool n)).run P w = .ok () w := by
  unfold eqGuard
  split <;> simp

theorem binV_run {op : BinOp} {x y r : AVal} {rx ry : Value} (t : TypeId) (px py : Operand) (hop : op ≠ .shl) (hop' : op ≠ .shr) (hx : VRel β x rx) (hy : VRel β y ry) (hr : binV op x y = some r) (w : World) :
    ∃ rv, (do eqGuard op t px py rx ry; binOp op t rx ry : Sem Value).run P w = .ok rv w ∧ VRel β r rv := by
  unfold binV at hr
  split at hr
  · simp only [VRel] at hx hy
    subst hx hy
    split at hr
    · rename_i hk; subst hk
      obtain ⟨rv, h1, h2⟩ := intBin_run (P := P) (β := β) t hop hop' hr w
      exact ⟨rv, by simp [eqGuard_int, h1], h2⟩
    · cases hr
  · simp only [VRel] at hx hy
    subst hx hy
    obtain ⟨rv, h1, h2⟩ := strBin_run (P := P) (β := β) t hr w
    exact ⟨rv, by simp [eqGuard_str, h1], h2⟩
  · cases hr

theorem shiftV_run {op : BinOp} {x y r : AVal} {rx ry : Value} (t : TypeId) (px py : Operand) (hop : op = .shl ∨ op = .shr) (hx : VRel β x rx) (hy : VRel β y ry) (hr : shiftV op x y = some r) (w : World) :
    ∃ rv, (do eqGuard op t px py rx ry; binOp op t rx ry : Sem Value).run P w = .ok rv w ∧ VRel β r rv := by
  unfold shiftV at hr
  split at hr
  · simp only [VRel] at hx hy
    subst hx hy
    split at hr
    · cases hr
    · rename_i hneg
      rcases hop with rfl | rfl <;> (simp at hr; subst hr; exact ⟨_, by simp [eqGuard_int, binOp, Op.shift, hneg]; rfl, by simp [VRel]⟩)
  · cases hr

theorem equal_step (t : TypeId) (x y : Value) : Op.equal t x y = Op.equalIn (Nat.succ 9999) t x y := rfl
theorem equal_bool {t : TypeId} (ht : P.underlying t = some .bool) (x y : Bool) : (Op.equal t (.bool x) (.bool y)).run P w = .ok (x == y) w := by
  rw [equal_step, Op.equalIn, Sem.run_bind, run_und ht]; rfl
theorem equal_nil {t : TypeId} {d : TypeDesc} {cls : NilCls} (ht : P.underlying t = some d) (hd : nilClsOf d = some cls) (rx ry : Value) (r : Bool)
    (hc : (cls = .ptr ∧ ((rx = .pointer none ∧ ∃ b, ry = .pointer b ∧ r = b.isNone) ∨ (∃ b, rx = .pointer (some b) ∧ ry = .pointer none ∧ r = false))) ∨
      (cls = .slc ∧ ((rx = .slice none 0 0 ∧ ∃ b l c, ry = .slice b l c ∧ r = b.isNone) ∨ (∃ b l c, rx = .slice (some b) l c ∧ ry = .slice none 0 0 ∧ r = false))) ∨
      (cls = .map ∧ ((rx = .map none ∧ ∃ b, ry = .map b ∧ r = b.isNone) ∨ (∃ b, rx = .map (some b) ∧ ry = .map none ∧ r = false))) ∨
      (cls = .fn ∧ ((rx = .nilFunc ∧ ((ry = .nilFunc ∧ r = true) ∨ ∃ f g c, ry = .func f g c ∧ r = false)) ∨ (∃ f g c, rx = .func f g c ∧ ry = .nilFunc ∧ r = false)))) :
    (Op.equal t rx ry).run P w = .ok r w := by
  rw [equal_step, Op.equalIn, Sem.run_bind, run_und ht]
  rcases hc with ⟨rfl, h⟩ | ⟨rfl, h⟩ | ⟨rfl, h⟩ | ⟨rfl, h⟩ <;> cases d <;> simp [nilClsOf] at hd
  · rcases h with ⟨rfl, b, rfl, rfl⟩ | ⟨b, rfl, rfl, rfl⟩ <;> rfl
  · rcases h with ⟨rfl, b, l, c, rfl, rfl⟩ | ⟨b, l, c, rfl, rfl, rfl⟩ <;> rfl
  · rcases h with ⟨rfl, b, rfl, rfl⟩ | ⟨b, rfl, rfl, rfl⟩ <;> rfl
  · rcases h with ⟨rfl, ⟨rfl, rfl⟩ | ⟨f, g, c, rfl, rfl⟩⟩ | ⟨f, g, c, rfl, rfl, rfl⟩ <;> rfl

theorem eqb_run {neg : Bool} {x y : Bool} {rx ry : Value} {t : TypeId} (ht : P.underlying t = some .bool) (px py : Operand) (hx : VRel β (.bool x) rx) (hy : VRel β (.bool y) ry) (w : World) :
    ∃ rv, (do eqGuard (if neg then .neq else .eql) t px py rx ry; binOp (if neg then .neq else .eql) t rx ry : Sem Value).run P w = .ok rv w ∧ VRel β (.bool (xor neg (x == y))) rv := by
  simp only [VRel] at hx hy
  subst hx hy
  cases neg
  · refine ⟨.bool (x == y), ?_, by simp [VRel]⟩
    rw [Sem.run_bind, eqGuard_bool]
    show (do pure (.bool (← Op.equal t (.bool x) (.bool y))) : Sem Value).run P w = _
    rw [Sem.run_bind, equal_bool ht]; rfl
  · refine ⟨.bool (!(x == y)), ?_, by simp [VRel]⟩
    rw [Sem.run_bind, eqGuard_bool]
    show (do pure (.bool (!(← Op.equal t (.bool x) (.bool y)))) : Sem Value).run P w = _
    rw [Sem.run_bind, equal_bool ht]; rfl

theorem nilV_cases {cls : NilCls} {x : AVal} {b : Bool} (hn : nilV cls x = some b) {rx : Value} (hx : VRel β x rx) :
    (cls = .ptr ∧ ((b = true ∧ rx = .pointer none) ∨ (b = false ∧ ∃ a, rx = .pointer (some a)))) ∨
    (cls = .slc ∧ ((b = true ∧ rx = .slice none 0 0) ∨ (b = false ∧ ∃ a l c, rx = .slice (some a) l c))) ∨
    (cls = .map ∧ ((b = true ∧ rx = .map none) ∨ (b = false ∧ ∃ a, rx = .map (some a)))) ∨
    (cls = .fn ∧ ((b = true ∧ rx = .nilFunc) ∨ (b = false ∧ ∃ f g c, rx = .func f g c))) := by
  unfold nilV at hn
  split at hn <;> (try split at hn) <;> (try cases hn) <;> rename_i hc <;> subst hc <;> simp only [VRel] at hx <;> first
    | (subst hx; simp)
    | (obtain ⟨_, rfl⟩ := hx; simp)
    | (obtain ⟨_, _, _, rfl, _⟩ := hx; simp)
    | (obtain ⟨_, _, rfl, _⟩ := hx; simp)

theorem eqGuard_nil {cls : NilCls} {x : AVal} {b : Bool} (hn : nilV cls x = some b) {rx : Value} (hx : VRel β x rx) (op : BinOp) (t : TypeId) (px py : Operand) (ry : Value) : (eqGuard op t px py rx ry).run P w = .ok () w := by
  have hc := nilV_cases hn hx
  rcases hc with ⟨_, ⟨_, rfl⟩ | ⟨_, _, rfl⟩⟩ | ⟨_, ⟨_, rfl⟩ | ⟨_, _, _, _, rfl⟩⟩ | ⟨_, ⟨_, rfl⟩ | ⟨_, _, rfl⟩⟩ | ⟨_, ⟨_, rfl⟩ | ⟨_, _, _, _, rfl⟩⟩ <;>
    (unfold eqGuard; split <;> rfl)

theorem eqnV_run {cls : NilCls} {neg : Bool} {x y : AVal} {r : Bool} {rx ry : Value} {t : TypeId} {d : TypeDesc} (ht : P.underlying t = some d) (hd : nilClsOf d = some cls) (px py : Operand) (hx : VRel β x rx) (hy : VRel β y ry)
    (hr : eqnV cls x y = some r) (w : World) :
    ∃ rv, (do eqGuard (if neg then .neq else .eql) t px py rx ry; binOp (if neg then .neq else .eql) t rx ry : Sem Value).run P w = .ok rv w ∧ VRel β (.bool (xor neg r)) rv := by
  have fin : ∀ b, nilV cls x = some b → (Op.equal t rx ry).run P w = .ok r w → (∀ op, (op = .eql ∨ op = .neq) → binOp op t rx ry = (if op = .eql then (do pure (.bool (← Op.equal t rx ry)) : Sem Value) else do pure (.bool (!(← Op.equal t rx ry))))) →
      ∃ rv, (do eqGuard (if neg then .neq else .eql) t px py rx ry; binOp (if neg then .neq else .eql) t rx ry : Sem Value).run P w = .ok rv w ∧ VRel β (.bool (xor neg r)) rv := by
    intro b hb he hbin
    cases neg
    · refine ⟨.bool r, ?_, by simp [VRel]⟩
      rw [Sem.run_bind, eqGuard_nil hb hx]
      show (binOp .eql t rx ry).run P w = _
      rw [hbin _ (.inl rfl), if_pos rfl, Sem.run_bind, he]; rfl
    · refine ⟨.bool (!r), ?_, by simp [VRel]⟩
      rw [Sem.run_bind, eqGuard_nil hb hx]
      show (binOp .neq t rx ry).run P w = _
      rw [hbin _ (.inr rfl), if_neg (by simp), Sem.run_bind, he]; rfl
  have hbin : ∀ b c, nilV cls x = some b → nilV cls y = some c → ∀ op, (op = .eql ∨ op = .neq) → binOp op t rx ry = (if op = .eql then (do pure (.bool (← Op.equal t rx ry)) : Sem Value) else do pure (.bool (!(← Op.equal t rx ry)))) := by
    intro b c hb hc op hop
    have h1 := nilV_cases hb hx
    have h2 := nilV_cases hc hy
    rcases h1 with ⟨rfl, h1⟩ | ⟨rfl, h1⟩ | ⟨rfl, h1⟩ | ⟨rfl, h1⟩ <;> simp at h2
    · rcases h1 with ⟨_, rfl⟩ | ⟨_, _, rfl⟩ <;> rcases h2 with ⟨_, rfl⟩ | ⟨_, _, rfl⟩ <;> rcases hop with rfl | rfl <;> rfl
    · rcases h1 with ⟨_, rfl⟩ | ⟨_, _, _, _, rfl⟩ <;> rcases h2 with ⟨_, rfl⟩ | ⟨_, _, _, _, rfl⟩ <;> rcases hop with rfl | rfl <;> rfl
    · rcases h1 with ⟨_, rfl⟩ | ⟨_, _, rfl⟩ <;> rcases h2 with ⟨_, rfl⟩ | ⟨_, _, rfl⟩ <;> rcases hop with rfl | rfl <;> rfl
    · rcases h1 with ⟨_, rfl⟩ | ⟨_, _, _, _, rfl⟩ <;> rcases h2 with ⟨_, rfl⟩ | ⟨_, _, _, _, rfl⟩ <;> rcases hop with rfl | rfl <;> rfl
  unfold eqnV at hr
  split at hr
  · rename_i c hb hc
    injection hr with hr; subst hr
    refine fin _ hb ?_ (hbin _ _ hb hc)
    have h1 := nilV_cases hb hx
    have h2 := nilV_cases hc hy
    refine equal_nil ht hd _ _ _ ?_
    rcases h1 with ⟨rfl, h1⟩ | ⟨rfl, h1⟩ | ⟨rfl, h1⟩ | ⟨rfl, h1⟩ <;> simp at h1 <;> subst h1 <;> simp at h2
    · rcases h2 with ⟨rfl, rfl⟩ | ⟨rfl, _, rfl⟩ <;> simp
    · rcases h2 with ⟨rfl, rfl⟩ | ⟨rfl, _, _, _, rfl⟩ <;> simp
    · rcases h2 with ⟨rfl, rfl⟩ | ⟨rfl, _, rfl⟩ <;> simp
    · rcases h2 with ⟨rfl, rfl⟩ | ⟨rfl, _, _, _, rfl⟩ <;> simp
  · rename_i hb hc
    injection hr with hr; subst hr
    refine fin _ hb ?_ (hbin _ _ hb hc)
    have h1 := nilV_cases hb hx
    have h2 := nilV_cases hc hy
    refine equal_nil ht hd _ _ _ ?_
    rcases h1 with ⟨rfl, h1⟩ | ⟨rfl, h1⟩ | ⟨rfl, h1⟩ | ⟨rfl, h1⟩ <;> simp at h1 <;> simp at h2 <;> subst h2
    · obtain ⟨_, rfl⟩ := h1; simp
    · obtain ⟨_, _, _, rfl⟩ := h1; simp
    · obtain ⟨_, rfl⟩ := h1; simp
    · obtain ⟨_, _, _, rfl⟩ := h1; simp
  · cases hr

theorem sound_binOp (op : BinOp) (t : TypeId) (x y : Operand) (u : TypeId) : Sound P (.binOp op t x y u) := by
  intro ai β rom h h' w nt nx' env a v o ho hc hE H hx
  simp only [compOp] at hc
  split at hc
  · rename_i x' y' h1 h2
    have hrun : (execOp a.eval o).run P w = ((do eqGuard op t x y (a.eval x) (a.eval y); binOp op t (a.eval x) (a.eval y) : Sem Value).run P w).andThen fun r w' => .ok (.value r) w' := by
      simp only [execOp, ho]
      rw [Sem.run_bind]; rfl
    have fin : ∀ r, (∃ rv, (do eqGuard op t x y (a.eval x) (a.eval y); binOp op t (a.eval x) (a.eval y) : Sem Value).run P w = .ok rv w ∧ VRel β r rv) → OpOk P β rom h w ((execOp a.eval o).run P w) r h β.nx := by
      rintro r ⟨rv, e1, e2⟩
      exact .val H (by rw [hrun, e1]; rfl) e2
    have two : ∀ {f : AVal → AVal → Option AVal}, (match x'.ev env, y'.ev env with
        | some p, some q => (match f p q with | some v => some (v, h, β.nx) | none => none : Out)
        | _, _ => none) = some (v, h', nx') → ∃ p q, VRel β p (a.eval x) ∧ VRel β q (a.eval y) ∧ f p q = some v ∧ h' = h ∧ nx' = β.nx := by
      intro f hh
      split at hh
      · rename_i p q hp hq
        obtain ⟨e1, e2, e3⟩ := okOut hh
        exact ⟨p, q, ev_rel h1 hE hp, ev_rel h2 hE hq, e1, e2, e3⟩
      · cases hh
    unfold compBin at hc
    split at hc
    · -- whole numbers
      split at hc
      · injection hc with hc; subst hc
        obtain ⟨p, q, hp, hq, e1, rfl, rfl⟩ := two hx
        exact fin _ (shiftV_run t x y (.inl rfl) hp hq e1 w)
      · injection hc with hc; subst hc
        obtain ⟨p, q, hp, hq, e1, rfl, rfl⟩ := two hx
        exact fin _ (shiftV_run t x y (.inr rfl) hp hq e1 w)
      · cases hc
      · rename_i n1 n2 n3
        injection hc with hc; subst hc
        obtain ⟨p, q, hp, hq, e1, rfl, rfl⟩ := two hx
        exact fin _ (binV_run t x y (fun e => n1 e) (fun e => n2 e) hp hq e1 w)
    · split at hc
      · injection hc with hc; subst hc
        obtain ⟨p, q, hp, hq, e1, rfl, rfl⟩ := two hx
        exact fin _ (binV_run t x y (by simp) (by simp) hp hq e1 w)
      · injection hc with hc; subst hc
        obtain ⟨p, q, hp, hq, e1, rfl, rfl⟩ := two hx
        exact fin _ (binV_run t x y (by simp) (by simp) hp hq e1 w)
      · cases hc
    · rename_i ht
      split at hc
      · injection hc with hc; subst hc
        simp only [AI.exec] at hx
        split at hx
        · rename_i p q hp hq
          obtain ⟨e1, rfl, rfl⟩ := okOut (o := some _) hx
          injection e1 with e1; subst e1
          exact fin _ (eqb_run (neg := false) ht x y (ev_rel h1 hE hp) (ev_rel h2 hE hq) w)
        · cases hx
      · injection hc with hc; subst hc
        simp only [AI.exec] at hx
        split at hx
        · rename_i p q hp hq
          obtain ⟨e1, rfl, rfl⟩ := okOut (o := some _) hx
          injection e1 with e1; subst e1
          exact fin _ (eqb_run (neg := true) ht x y (ev_rel h1 hE hp) (ev_rel h2 hE hq) w)
        · cases hx
      · cases hc
    · rename_i d _ _ _ ht
      split at hc
      · rename_i c hcl
        injection hc with hc; subst hc
        simp only [AI.exec] at hx
        split at hx
        · rename_i p q hp hq
          split at hx
          · rename_i r hr
            obtain ⟨e1, rfl, rfl⟩ := okOut (o := some _) hx
            injection e1 with e1; subst e1
            exact fin _ (eqnV_run (neg := false) ht hcl x y (ev_rel h1 hE hp) (ev_rel h2 hE hq) hr w)
          · cases hx
        · cases hx
      · rename_i c hcl
        injection hc with hc; subst hc
        simp only [AI.exec] at hx
        split at hx
        · rename_i p q hp hq
          split at hx
          · rename_i r hr
            obtain ⟨e1, rfl, rfl⟩ := okOut (o := some _) hx
            injection e1 with e1; subst e1
            exact fin _ (eqnV_run (neg := true) ht hcl x y (ev_rel h1 hE hp) (ev_rel h2 hE hq) hr w)
          · cases hx
        · cases hx
      · cases hc
    · cases hc
  · cases hc

end Go.AL
