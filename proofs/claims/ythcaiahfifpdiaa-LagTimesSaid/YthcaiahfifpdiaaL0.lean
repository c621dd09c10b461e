import Derived.RangeFuncIn
import Derived.OrdersIn
import Derived.Laws.Sem
import Derived.Laws.World
import Derived.Laws.StructEq
import Derived.Laws.Tables
import Derived.WideKeyRuns
set_option linter.unusedVariables false

/- Helper text: abstract values and heaps, and how they stand for the model's values and worlds. -/
namespace Go.AL

/-- A block's name: of the run's own memory, or of what came in (read only). -/
inductive Bid where
  | own (i : Nat)
  | arg (i : Nat)
  deriving DecidableEq, Inhabited

/-- Abstract values. 'any' stands for whatever value. A slice's 'cap' is what it surely has; one of 'cap' 0 may be nil. -/
inductive AVal where
  | any
  | bool (b : Bool)
  | int (k : IntKind) (n : Int)
  | str (s : ByteArray)
  | nilp
  | ptr (b : Bid) (off : Nat)
  | nils
  | slice (b : Bid) (off esz len cap : Nat)
  | nilm
  | map (b : Bid)
  | nilf
  | func (f : FuncId) (first caps : List AVal)
  | yld (b : Bid)
  | nili
  | iface (t : TypeId) (v : AVal)
  | agg (cs : List AVal)
  | tup (cs : List AVal)
  deriving Inhabited

/-- What abstract names stand for. -/
structure Beta where
  nx : Nat
  blk : Bid → Nat
  off : Nat → Nat
  tot : Nat → Nat
  fp : Nat → Nat → Prop

def Beta.offOf (β : Beta) : Bid → Nat
  | .own _ => 0
  | .arg i => β.off i

def Beta.ok (β : Beta) : Bid → Prop
  | .own i => i < β.nx
  | .arg _ => True

/-- A slice's places lie in its block. -/
def Beta.fits (β : Beta) : Bid → Nat → Nat → Prop
  | .own i, off, n => off + n ≤ β.tot i
  | .arg _, _, _ => True

mutual
def VRel (β : Beta) : AVal → Value → Prop
  | .any, _ => True
  | .bool b, v => v = .bool b
  | .int k n, v => v = .int k n
  | .str s, v => v = .string s
  | .nilp, v => v = .pointer none
  | .ptr b off, v => β.ok b ∧ v = .pointer (some ⟨β.blk b, β.offOf b + off, none⟩)
  | .nils, v => v = .slice none 0 0
  | .slice b off esz len cap, v => β.ok b ∧ ((v = .slice none 0 0 ∧ len = 0 ∧ cap = 0) ∨ ∃ roff rcap, v = .slice (some ⟨β.blk b, roff, none⟩) len rcap ∧ len ≤ rcap ∧ cap ≤ rcap ∧ (0 < rcap → roff = β.offOf b + off ∧ β.fits b off (rcap * esz)))
  | .nilm, v => v = .map none
  | .map b, v => β.ok b ∧ v = .map (some (β.blk b))
  | .nilf, v => v = .nilFunc
  | .func f fs cs, v => ∃ rf rc, v = .func (.func f) rf rc ∧ VRels β fs rf.toList ∧ VRels β cs rc.toList
  | .yld b, v => β.ok b ∧ v = .func (.yield (β.blk b)) #[] #[]
  | .nili, v => v = .nilIface
  | .iface t x, v => ∃ r, v = .iface t r ∧ VRel β x r
  | .agg cs, v => ∃ rc, v = .agg rc ∧ VRels β cs rc.toList
  | .tup cs, v => ∃ rc, v = .tuple rc ∧ VRels β cs rc.toList
def VRels (β : Beta) : List AVal → List Value → Prop
  | [], l => l = []
  | c :: cs, l => ∃ r rs, l = r :: rs ∧ VRel β c r ∧ VRels β cs rs
end

/-- Later names: what was named keeps its meaning. -/
structure Ext (β β' : Beta) : Prop where
  nx : β.nx ≤ β'.nx
  own : ∀ i, i < β.nx → β'.blk (.own i) = β.blk (.own i) ∧ β'.tot i = β.tot i
  arg : ∀ i, β'.blk (.arg i) = β.blk (.arg i) ∧ β'.off i = β.off i

theorem Ext.refl (β : Beta) : Ext β β := ⟨Nat.le_refl _, fun _ _ => ⟨rfl, rfl⟩, fun _ => ⟨rfl, rfl⟩⟩
theorem Ext.trans {a b c : Beta} (h : Ext a b) (k : Ext b c) : Ext a c :=
  ⟨Nat.le_trans h.nx k.nx, fun i hi => by
    obtain ⟨a1, a2⟩ := h.own i hi
    obtain ⟨b1, b2⟩ := k.own i (Nat.lt_of_lt_of_le hi h.nx)
    exact ⟨b1.trans a1, b2.trans a2⟩, fun i => ⟨(k.arg i).1.trans (h.arg i).1, (k.arg i).2.trans (h.arg i).2⟩⟩

theorem Ext.okb {β β' : Beta} (e : Ext β β') {b : Bid} (h : β.ok b) : β'.ok b := by
  cases b with
  | own i => exact Nat.lt_of_lt_of_le h e.nx
  | arg i => trivial
theorem Ext.blk {β β' : Beta} (e : Ext β β') {b : Bid} (h : β.ok b) : β'.blk b = β.blk b := by
  cases b with
  | own i => exact (e.own i h).1
  | arg i => exact (e.arg i).1
theorem Ext.offOf {β β' : Beta} (e : Ext β β') (b : Bid) : β'.offOf b = β.offOf b := by
  cases b with
  | own i => rfl
  | arg i => exact (e.arg i).2
theorem Ext.fits {β β' : Beta} (e : Ext β β') {b : Bid} (h : β.ok b) {o c : Nat} (hf : β.fits b o c) : β'.fits b o c := by
  cases b with
  | own i => obtain ⟨_, h2⟩ := e.own i h; simp only [Beta.fits] at *; rw [h2]; exact hf
  | arg i => trivial

mutual
theorem VRel.ext {β β' : Beta} (e : Ext β β') : ∀ (a : AVal) (v : Value), VRel β a v → VRel β' a v
  | .any, _, _ => by simp [VRel]
  | .bool _, _, h => by simpa [VRel] using h
  | .int _ _, _, h => by simpa [VRel] using h
  | .str _, _, h => by simpa [VRel] using h
  | .nilp, _, h => by simpa [VRel] using h
  | .ptr b off, _, h => by
    simp only [VRel] at h ⊢
    exact ⟨e.okb h.1, by rw [e.blk h.1, e.offOf]; exact h.2⟩
  | .nils, _, h => by simpa [VRel] using h
  | .slice b off esz len cap, _, h => by
    simp only [VRel] at h ⊢
    obtain ⟨h1, h2 | ⟨ro, rc, h2, h3, h4, h5⟩⟩ := h
    · exact ⟨e.okb h1, .inl h2⟩
    refine ⟨e.okb h1, .inr ⟨ro, rc, by rw [e.blk h1]; exact h2, h3, h4, fun hp => ?_⟩⟩
    rw [e.offOf]; exact ⟨(h5 hp).1, e.fits h1 (h5 hp).2⟩
  | .nilm, _, h => by simpa [VRel] using h
  | .map b, _, h => by
    simp only [VRel] at h ⊢
    exact ⟨e.okb h.1, by rw [e.blk h.1]; exact h.2⟩
  | .nilf, _, h => by simpa [VRel] using h
  | .func f fs cs, _, h => by
    simp only [VRel] at h ⊢
    obtain ⟨rf, rc, h1, h2, h3⟩ := h
    exact ⟨rf, rc, h1, VRels.ext e fs _ h2, VRels.ext e cs _ h3⟩
  | .yld b, _, h => by
    simp only [VRel] at h ⊢
    exact ⟨e.okb h.1, by rw [e.blk h.1]; exact h.2⟩
  | .nili, _, h => by simpa [VRel] using h
  | .iface t x, _, h => by
    simp only [VRel] at h ⊢
    obtain ⟨r, h1, h2⟩ := h
    exact ⟨r, h1, VRel.ext e x _ h2⟩
  | .agg cs, _, h => by
    simp only [VRel] at h ⊢
    obtain ⟨r, h1, h2⟩ := h
    exact ⟨r, h1, VRels.ext e cs _ h2⟩
  | .tup cs, _, h => by
    simp only [VRel] at h ⊢
    obtain ⟨r, h1, h2⟩ := h
    exact ⟨r, h1, VRels.ext e cs _ h2⟩
theorem VRels.ext {β β' : Beta} (e : Ext β β') : ∀ (as : List AVal) (l : List Value), VRels β as l → VRels β' as l
  | [], _, h => by simpa [VRels] using h
  | c :: cs, _, h => by
    simp only [VRels] at h ⊢
    obtain ⟨r, rs, h1, h2, h3⟩ := h
    exact ⟨r, rs, h1, VRel.ext e c _ h2, VRels.ext e cs _ h3⟩
end

theorem VRels.length {β : Beta} : ∀ {as : List AVal} {l : List Value}, VRels β as l → as.length = l.length
  | [], l, h => by simp only [VRels] at h; simp [h]
  | c :: cs, l, h => by
    simp only [VRels] at h
    obtain ⟨r, rs, rfl, _, h3⟩ := h
    simp [h3.length]
theorem VRels.get {β : Beta} : ∀ {as : List AVal} {l : List Value}, VRels β as l → ∀ {i : Nat} {a : AVal}, as[i]? = some a → ∃ r, l[i]? = some r ∧ VRel β a r
  | [], l, h, i, a, ha => by simp at ha
  | c :: cs, l, h, i, a, ha => by
    simp only [VRels] at h
    obtain ⟨r, rs, rfl, h2, h3⟩ := h
    cases i with
    | zero => simp at ha; subst ha; exact ⟨r, rfl, h2⟩
    | succ i => simp at ha; simpa using h3.get ha
theorem VRels.of_get {β : Beta} : ∀ {as : List AVal} {l : List Value}, as.length = l.length → (∀ (i : Nat) (a : AVal) (r : Value), as[i]? = some a → l[i]? = some r → VRel β a r) → VRels β as l
  | [], l, h, _ => by simp at h; simp [VRels, List.eq_nil_of_length_eq_zero h.symm]
  | c :: cs, [], h, _ => by simp at h
  | c :: cs, r :: rs, h, hg => by
    simp only [VRels]
    exact ⟨r, rs, rfl, hg 0 c r rfl rfl, VRels.of_get (by simpa using h) (fun i a r h1 h2 => hg (i + 1) a r (by simpa using h1) (by simpa using h2))⟩
theorem VRels.append {β : Beta} : ∀ {as : List AVal} {l : List Value} {bs : List AVal} {m : List Value}, VRels β as l → VRels β bs m → VRels β (as ++ bs) (l ++ m)
  | [], l, bs, m, h, k => by simp only [VRels] at h; subst h; simpa using k
  | c :: cs, l, bs, m, h, k => by
    simp only [VRels] at h
    obtain ⟨r, rs, rfl, h2, h3⟩ := h
    exact ⟨r, rs ++ m, rfl, h2, h3.append k⟩
theorem VRels.nil {β : Beta} : VRels β [] [] := by simp [VRels]
theorem VRels.cons {β : Beta} {a : AVal} {as : List AVal} {r : Value} {rs : List Value} (h : VRel β a r) (k : VRels β as rs) : VRels β (a :: as) (r :: rs) := ⟨r, rs, rfl, h, k⟩
theorem VRels.set {β : Beta} : ∀ {as : List AVal} {l : List Value} {i : Nat} {a : AVal} {r : Value}, VRels β as l → VRel β a r → VRels β (as.set i a) (l.set i r)
  | [], l, i, a, r, h, k => by simp only [VRels] at h; subst h; simp [VRels]
  | c :: cs, l, i, a, r, h, k => by
    simp only [VRels] at h
    obtain ⟨r', rs, rfl, h2, h3⟩ := h
    cases i with
    | zero => exact ⟨r, rs, rfl, k, h3⟩
    | succ i => exact ⟨r', rs.set i r, rfl, h2, h3.set k⟩
theorem VRels.take {β : Beta} {n : Nat} : ∀ {as : List AVal} {l : List Value}, VRels β as l → VRels β (as.take n) (l.take n) := by
  intro as l h
  refine VRels.of_get (by simp [h.length]) fun i a r h1 h2 => ?_
  rw [List.getElem?_take] at h1 h2
  split at h1
  · rename_i hlt
    simp only [hlt, if_true] at h2
    obtain ⟨r', hr', hv⟩ := h.get h1
    rw [h2] at hr'; injection hr' with e; exact e ▸ hv
  · cases h1
theorem VRels.drop {β : Beta} {n : Nat} : ∀ {as : List AVal} {l : List Value}, VRels β as l → VRels β (as.drop n) (l.drop n) := by
  intro as l h
  refine VRels.of_get (by simp [h.length]) fun i a r h1 h2 => ?_
  rw [List.getElem?_drop] at h1 h2
  obtain ⟨r', hr', hv⟩ := h.get h1
  rw [h2] at hr'; injection hr' with e; exact e ▸ hv

/-- The cells of an abstract value. -/
def AVal.cells : AVal → List AVal
  | .agg cs => cs
  | v => [v]
theorem VRel.cells {β : Beta} {a : AVal} {v : Value} (h : VRel β a v) (ha : a ≠ .any) : VRels β a.cells v.cells.toList := by
  cases a with
  | any => exact absurd rfl ha
  | agg cs =>
    simp only [VRel] at h
    obtain ⟨rc, rfl, h2⟩ := h
    exact h2
  | bool b => simp only [VRel] at h; subst h; exact ⟨_, [], rfl, by simp [VRel], VRels.nil⟩
  | int k n => simp only [VRel] at h; subst h; exact ⟨_, [], rfl, by simp [VRel], VRels.nil⟩
  | str s => simp only [VRel] at h; subst h; exact ⟨_, [], rfl, by simp [VRel], VRels.nil⟩
  | nilp => simp only [VRel] at h; subst h; exact ⟨_, [], rfl, by simp [VRel], VRels.nil⟩
  | ptr b o => have h' := h; simp only [VRel] at h'; obtain ⟨_, rfl⟩ := h'; exact ⟨_, [], rfl, h, VRels.nil⟩
  | nils => simp only [VRel] at h; subst h; exact ⟨_, [], rfl, by simp [VRel], VRels.nil⟩
  | slice b o z l c => have h' := h; simp only [VRel] at h'; obtain ⟨_, ⟨rfl, _⟩ | ⟨_, _, rfl, _⟩⟩ := h' <;> exact ⟨_, [], rfl, h, VRels.nil⟩
  | nilm => simp only [VRel] at h; subst h; exact ⟨_, [], rfl, by simp [VRel], VRels.nil⟩
  | map b => have h' := h; simp only [VRel] at h'; obtain ⟨_, rfl⟩ := h'; exact ⟨_, [], rfl, h, VRels.nil⟩
  | nilf => simp only [VRel] at h; subst h; exact ⟨_, [], rfl, by simp [VRel], VRels.nil⟩
  | func f fs cs => have h' := h; simp only [VRel] at h'; obtain ⟨_, _, rfl, _⟩ := h'; exact ⟨_, [], rfl, h, VRels.nil⟩
  | yld b => have h' := h; simp only [VRel] at h'; obtain ⟨_, rfl⟩ := h'; exact ⟨_, [], rfl, h, VRels.nil⟩
  | nili => simp only [VRel] at h; subst h; exact ⟨_, [], rfl, by simp [VRel], VRels.nil⟩
  | iface t x => have h' := h; simp only [VRel] at h'; obtain ⟨_, rfl, _⟩ := h'; exact ⟨_, [], rfl, h, VRels.nil⟩
  | tup cs => have h' := h; simp only [VRel] at h'; obtain ⟨_, rfl, _⟩ := h'; exact ⟨_, [], rfl, h, VRels.nil⟩

/-- A test, then the rest: what evaluates to the rest alone. -/
def gd (b : Bool) (p : Prop) : Prop := match b with | true => p | false => False
theorem gd_iff {b : Bool} {p : Prop} : gd b p ↔ b = true ∧ p := by cases b <;> simp [gd]

mutual
def beqA : AVal → AVal → Bool
  | .any, .any => true
  | .bool a, .bool b => a == b
  | .int k a, .int k' b => decide (k = k') && decide (a = b)
  | .str a, .str b => decide (a = b)
  | .nilp, .nilp => true
  | .ptr b o, .ptr b' o' => decide (b = b') && decide (o = o')
  | .nils, .nils => true
  | .slice b o z l c, .slice b' o' z' l' c' => decide (b = b') && (decide (o = o') && (decide (z = z') && (decide (l = l') && decide (c = c'))))
  | .nilm, .nilm => true
  | .map b, .map b' => decide (b = b')
  | .nilf, .nilf => true
  | .func f a b, .func f' a' b' => decide (f = f') && (beqAs a a' && beqAs b b')
  | .yld b, .yld b' => decide (b = b')
  | .nili, .nili => true
  | .iface t a, .iface t' b => decide (t = t') && beqA a b
  | .agg a, .agg b => beqAs a b
  | .tup a, .tup b => beqAs a b
  | _, _ => false
def beqAs : List AVal → List AVal → Bool
  | [], [] => true
  | a :: as, b :: bs => beqA a b && beqAs as bs
  | _, _ => false
end
mutual
theorem beqA_eq : ∀ (a b : AVal), beqA a b = true → a = b := by
  intro a b h
  cases a <;> cases b <;> simp only [beqA, Bool.and_eq_true, decide_eq_true_eq, beq_iff_eq, Bool.false_eq_true] at h <;> first
    | rfl
    | (subst h; rfl)
    | (obtain ⟨rfl, rfl⟩ := h; rfl)
    | (obtain ⟨rfl, rfl, rfl, rfl, rfl⟩ := h; rfl)
    | (obtain ⟨rfl, h1, h2⟩ := h; rw [beqAs_eq _ _ h1, beqAs_eq _ _ h2])
    | (obtain ⟨rfl, h1⟩ := h; rw [beqA_eq _ _ h1])
    | rw [beqAs_eq _ _ h]
theorem beqAs_eq : ∀ (a b : List AVal), beqAs a b = true → a = b := by
  intro a b h
  cases a with
  | nil => cases b with
    | nil => rfl
    | cons b bs => simp [beqAs] at h
  | cons a as => cases b with
    | nil => simp [beqAs] at h
    | cons b bs =>
      simp only [beqAs, Bool.and_eq_true] at h
      rw [beqA_eq _ _ h.1, beqAs_eq _ _ h.2]
end
mutual
theorem beqA_refl : ∀ a : AVal, beqA a a = true := by
  intro a
  cases a with
  | func f x y => simp [beqA, beqAs_refl x, beqAs_refl y]
  | iface t x => simp [beqA, beqA_refl x]
  | agg x => simp [beqA, beqAs_refl x]
  | tup x => simp [beqA, beqAs_refl x]
  | _ => simp [beqA]
theorem beqAs_refl : ∀ a : List AVal, beqAs a a = true := by
  intro a
  cases a with
  | nil => rfl
  | cons a as => simp [beqAs, beqA_refl a, beqAs_refl as]
end
instance : DecidableEq AVal := fun a b =>
  match h : beqA a b with
  | true => .isTrue (beqA_eq a b h)
  | false => .isFalse fun e => by subst e; rw [beqA_refl] at h; cases h
end Go.AL

/- Helper text: operations and code, with all types told. -/
namespace Go.AL

inductive AOpd where
  | tmp (t : Nat)
  | val (v : AVal)
  deriving DecidableEq, Inhabited

mutual
def cval : Value → Option AVal
  | .bool b => some (.bool b)
  | .int k n => some (.int k n)
  | .string s => some (.str s)
  | .pointer none => some .nilp
  | .slice none 0 0 => some .nils
  | .map none => some .nilm
  | .nilFunc => some .nilf
  | .nilIface => some .nili
  | .agg cs => (cvals cs.toList).map .agg
  | .tuple cs => (cvals cs.toList).map .tup
  | _ => none
def cvals : List Value → Option (List AVal)
  | [] => some []
  | v :: vs => match cval v, cvals vs with
    | some a, some as => some (a :: as)
    | _, _ => none
end
mutual
theorem cval_rel {β : Beta} : ∀ (v : Value) (a : AVal), cval v = some a → VRel β a v
  | .bool b, a, h => by simp [cval] at h; subst h; simp [VRel]
  | .int k n, a, h => by simp [cval] at h; subst h; simp [VRel]
  | .string s, a, h => by simp [cval] at h; subst h; simp [VRel]
  | .pointer none, a, h => by simp [cval] at h; subst h; simp [VRel]
  | .slice none 0 0, a, h => by simp [cval] at h; subst h; simp [VRel]
  | .map none, a, h => by simp [cval] at h; subst h; simp [VRel]
  | .nilFunc, a, h => by simp [cval] at h; subst h; simp [VRel]
  | .nilIface, a, h => by simp [cval] at h; subst h; simp [VRel]
  | .agg cs, a, h => by
    simp only [cval, Option.map_eq_some_iff] at h
    obtain ⟨as, h1, rfl⟩ := h
    simp only [VRel]
    exact ⟨cs, rfl, cvals_rel _ _ h1⟩
  | .tuple cs, a, h => by
    simp only [cval, Option.map_eq_some_iff] at h
    obtain ⟨as, h1, rfl⟩ := h
    simp only [VRel]
    exact ⟨cs, rfl, cvals_rel _ _ h1⟩
  | .pointer (some _), a, h => by simp [cval] at h
  | .slice none 0 (_ + 1), a, h => by simp [cval] at h
  | .slice none (_ + 1) _, a, h => by simp [cval] at h
  | .slice (some _) _ _, a, h => by simp [cval] at h
  | .float _ _, a, h => by simp [cval] at h
  | .complex _ _ _, a, h => by simp [cval] at h
  | .map (some _), a, h => by simp [cval] at h
  | .chan _, a, h => by simp [cval] at h
  | .func _ _ _, a, h => by simp [cval] at h
  | .iface _ _, a, h => by simp [cval] at h
theorem cvals_rel {β : Beta} : ∀ (l : List Value) (as : List AVal), cvals l = some as → VRels β as l
  | [], as, h => by simp [cvals] at h; subst h; exact VRels.nil
  | v :: vs, as, h => by
    simp only [cvals] at h
    split at h
    · rename_i a as' h1 h2
      injection h with h; subst h
      exact VRels.cons (cval_rel v a h1) (cvals_rel vs as' h2)
    · cases h
end

def compOpd : Operand → Option AOpd
  | .tmp t => some (.tmp t)
  | .const v => (cval v).map .val
  | .func f => some (.val (.func f [] []))
  | .global _ => none
def compOpds : List Operand → Option (List AOpd)
  | [] => some []
  | x :: xs => match compOpd x, compOpds xs with
    | some y, some ys => some (y :: ys)
    | _, _ => none
/-- Which comparison with nil. -/
inductive NilCls where
  | ptr | slc | map | fn | ifc
  deriving DecidableEq, Inhabited

/-- Kinds of plain cells. -/
inductive LK where
  | b | i | s
  deriving DecidableEq, Inhabited

/-- Kinds of keys. -/
inductive KS where
  | one (k : LK)
  | agg (l : List (Nat × LK))
  deriving DecidableEq, Inhabited

inductive AI where
  | mv (x : AOpd)
  | pick (c a b : AOpd)
  | bin (op : BinOp) (x y : AOpd)
  | shift (op : BinOp) (x y : AOpd)
  | eqb (neg : Bool) (x y : AOpd)
  | eqn (cls : NilCls) (neg : Bool) (x y : AOpd)
  | eqA (neg : Bool) (offs : List (Nat × LK)) (x y : AOpd)
  | not (x : AOpd)
  | neg (x : AOpd)
  | conv (k : IntKind) (x : AOpd)
  | alloc (t : TypeId) (zero : List AVal)
  | box (t : TypeId) (x : AOpd)
  | build (zero : List AVal) (parts : List (Nat × Nat × AOpd))
  | buildSlice (elem : TypeId) (esz : Nat) (zero : List AVal) (len : Nat) (parts : List (Nat × Nat × AOpd))
  | load1 (a : AOpd)
  | loadN (n : Nat) (a : AOpd)
  | store (n : Nat) (a x : AOpd)
  | nilCheck (x : AOpd)
  | addOff (off : Nat) (x : AOpd)
  | field1 (off : Nat) (x : AOpd)
  | fieldN (off n : Nat) (x : AOpd)
  | idxA (len esz : Nat) (x i : AOpd)
  | idxS (esz : Nat) (x i : AOpd)
  | index1 (len esz : Nat) (x i : AOpd)
  | indexN (len esz : Nat) (x i : AOpd)
  | indexStr (x i : AOpd)
  | extract (x : AOpd) (i : Nat)
  | mkFunc (f : FuncId) (first caps : List AOpd)
  | makeMap
  | makeSlice (elem : TypeId) (esz bytes : Nat) (zero : List AVal) (len cap : AOpd)
  | slice (esz : Nat) (x : AOpd) (lo hi : Option AOpd)
  | sliceStr (x : AOpd) (lo hi : Option AOpd)
  | lenS (x : AOpd)
  | lenStr (x : AOpd)
  | lenM (x : AOpd)
  | append (elem : TypeId) (esz bytes : Nat) (s x : AOpd)
  | min (x y : AOpd)
  | max (x y : AOpd)
  | lookup (ks : KS) (z : AVal) (ok : Bool) (x k : AOpd)
  | mapSet (ks : KS) (x k v : AOpd)
  | mapDel (ks : KS) (x k : AOpd)
  | mapEnt (ks : KS) (z : AVal) (x k : AOpd)
  | entStore (x s v : AOpd)
  | slice3 (esz : Nat) (x : AOpd) (lo : Option AOpd) (hi mx : AOpd)
  | clearS (esz : Nat) (z : List AVal) (x : AOpd)
  | bad
  deriving DecidableEq, Inhabited

def isAggD : TypeDesc → Bool
  | .struct _ | .array _ _ => true
  | _ => false
def sizeAt (P : Program) (t : TypeId) : Option Nat := (P.info? t).map (·.size)
def bytesAt (P : Program) (t : TypeId) : Option Nat := (P.info? t).map (·.bytes)
def zeroAt (P : Program) (t : TypeId) : Option (List AVal) := (P.info? t).bind fun i => i.zero.bind fun z => cvals z.cells.toList
def fieldOf (P : Program) (t : TypeId) (f : Nat) : Option (Nat × Nat × Bool) :=
  match P.underlying t with
  | some (.struct fs) => match fs[f]? with
    | some g => match sizeAt P g.type, P.underlying g.type with
      | some n, some d => some (g.offset, n, isAggD d)
      | _, _ => none
    | none => none
  | _ => none

def compParts (P : Program) (place : Nat → Option (Nat × Nat)) : List (Nat × Operand) → Option (List (Nat × Nat × AOpd))
  | [] => some []
  | (i, x) :: rest => match place i, compOpd x, compParts P place rest with
    | some (o, n), some y, some ys => some ((o, n, y) :: ys)
    | _, _, _ => none

def compOpt : Option Operand → Option (Option AOpd)
  | none => some none
  | some x => (compOpd x).map some

def nilClsOf : TypeDesc → Option NilCls
  | .pointer _ => some .ptr
  | .slice _ => some .slc
  | .map _ _ => some .map
  | .func _ _ _ => some .fn
  | _ => none

/-- The places of a struct's plain cells: where '==' at it compares cell by cell. -/
def leavesAt (P : Program) : Nat → TypeId → Nat → Option (List (Nat × LK))
  | 0, _, _ => none
  | d + 1, t, off =>
    match P.underlying t with
    | some .bool => some [(off, .b)]
    | some (.int _) => some [(off, .i)]
    | some .string => some [(off, .s)]
    | some (.struct fs) =>
      match sizeAt P t with
      | some n =>
        if P.stoodInHeld t = false ∧ (fs.toList.all fun f => f.name != "_" && (match sizeAt P f.type with | some m => decide (f.offset + m ≤ n ∧ f.offset < n) | none => false)) = true then
          (fs.toList.mapM fun f => leavesAt P d f.type (off + f.offset)).map List.flatten
        else none
      | none => none
    | _ => none

def compBin (P : Program) (op : BinOp) (t : TypeId) (x y : AOpd) : Option AI :=
  match P.underlying t with
  | some (.int _) => match op with
    | .shl | .shr => some (.shift op x y)
    | .andNot => none
    | _ => some (.bin op x y)
  | some .string => match op with
    | .eql | .neq => some (.bin op x y)
    | _ => none
  | some .bool => match op with
    | .eql => some (.eqb false x y)
    | .neq => some (.eqb true x y)
    | _ => none
  | some (.struct _) => if P.eqGuardType P.depth t = false then match op, leavesAt P 8 t 0 with
      | .eql, some l => some (.eqA false l x y)
      | .neq, some l => some (.eqA true l x y)
      | _, _ => none
    else none
  | some d => match nilClsOf d, op with
    | some c, .eql => some (.eqn c false x y)
    | some c, .neq => some (.eqn c true x y)
    | _, _ => none
  | none => none

/-- A map's keys. -/
def keysOf (P : Program) (t : TypeId) : Option KS :=
  match P.underlying t with
  | some .bool => some (.one .b)
  | some (.int _) => some (.one .i)
  | some .string => some (.one .s)
  | some (.struct _) => (leavesAt P 8 t 0).map .agg
  | _ => none
/-- A type's value of zero. -/
def zeroV (P : Program) (t : TypeId) : Option AVal :=
  match P.underlying t, zeroAt P t with
  | some d, some z => if isAggD d then (match (P.info? t).bind (·.zero) with | some (.agg _) => some (.agg z) | _ => none) else (match z, (P.info? t).bind (·.zero) with | [_], some (.agg _) => none | [c], _ => some c | _, _ => none)
  | _, _ => none

def compBuiltin (P : Program) (b : Builtin) (args : List Operand) (ts : List TypeId) : Option AI :=
  match b, args, ts with
  | .len, [x], [t] => match compOpd x, P.underlying t with
    | some y, some (.slice _) => some (.lenS y)
    | some y, some .string => some (.lenStr y)
    | some y, some (.map _ _) => some (.lenM y)
    | _, _ => none
  | .append, [s, x], [t, t'] => match compOpd s, compOpd x, P.underlying t, P.underlying t' with
    | some a, some b, some (.slice e), some (.slice _) => match sizeAt P e, bytesAt P e, zeroAt P e with
      | some n, some k, some z => if z.length = n then some (.append e n k a b) else none
      | _, _, _ => none
    | _, _, _, _ => none
  | .min, [x, y], _ => match compOpd x, compOpd y with
    | some a, some b => some (.min a b)
    | _, _ => none
  | .max, [x, y], _ => match compOpd x, compOpd y with
    | some a, some b => some (.max a b)
    | _, _ => none
  | .clear, [x], [t] => match compOpd x, P.underlying t with
    | some a, some (.slice e) => match sizeAt P e, zeroAt P e with
      | some n, some z => if z.length = n then some (.clearS n z a) else none
      | _, _ => none
    | _, _ => none
  | .delete, [x, y], [t, _] => match compOpd x, compOpd y, P.underlying t with
    | some a, some b, some (.map k _) => (keysOf P k).map fun ks => .mapDel ks a b
    | _, _, _ => none
  | _, _, _ => none

/-- The plain operations. -/
def compOp (P : Program) (op : Op) : Option AI :=
  match op with
  | .move x | .assign x => (compOpd x).map .mv
  | .pick c a b => match compOpd c, compOpd a, compOpd b with
    | some c, some a, some b => some (.pick c a b)
    | _, _, _ => none
  | .binOp op t x y _ => match compOpd x, compOpd y with
    | some a, some b => compBin P op t a b
    | _, _ => none
  | .unOp .not _ x => (compOpd x).map .not
  | .unOp .neg _ x => (compOpd x).map .neg
  | .convert s d x => match P.underlying s, P.underlying d with
    | some (.int _), some (.int k) => (compOpd x).map (.conv k)
    | _, _ => none
  | .alloc t => match zeroAt P t, sizeAt P t with
    | some z, some n => if z.length = n then some (.alloc t z) else none
    | _, _ => none
  | .box t x => (compOpd x).map (.box t)
  | .build t ps => match P.underlying t, zeroAt P t with
    | some (.struct fs), some z => (fs.toList.mapM fun f => (P.info? f.type).map fun i => (f.offset, i.size)).bind fun pl => (compParts P (pl[·]?) ps.toList).map (.build z)
    | some (.array _ e), some z => (sizeAt P e).bind fun n => (compParts P (fun i => some (i * n, n)) ps.toList).map (.build z)
    | _, _ => none
  | .buildSlice t len ps => match P.underlying t with
    | some (.slice e) => match sizeAt P e, zeroAt P e with
      | some n, some z => if z.length = n ∧ 0 < n ∧ len * n ≤ 65536 then (compParts P (fun i => some (i * n, n)) ps.toList).map (.buildSlice e n (List.flatten (List.replicate len z)) len) else none
      | _, _ => none
    | _ => none
  | .load t x => match P.underlying t, sizeAt P t, compOpd x with
    | some d, some n, some y => if isAggD d then some (.loadN n y) else some (.load1 y)
    | _, _, _ => none
  | .store t a x => match sizeAt P t, compOpd a, compOpd x with
    | some n, some y, some z => some (.store n y z)
    | _, _, _ => none
  | .nilCheck x => (compOpd x).map .nilCheck
  | .fieldAddr t x f => match fieldOf P t f, compOpd x with
    | some (o, n, _), some y => if n = 0 then none else some (.addOff o y)
    | _, _ => none
  | .field t x f => match fieldOf P t f, compOpd x with
    | some (o, n, a), some y => if a then some (.fieldN o n y) else some (.field1 o y)
    | _, _ => none
  | .indexAddr t x i => match P.underlying t, compOpd x, compOpd i with
    | some (.array n e), some y, some j => (sizeAt P e).map fun s => .idxA n s y j
    | some (.slice e), some y, some j => (sizeAt P e).map fun s => .idxS s y j
    | _, _, _ => none
  | .index t x i => match P.underlying t, compOpd x, compOpd i with
    | some (.array n e), some y, some j => match sizeAt P e, P.underlying e with
      | some s, some d => if isAggD d then some (.indexN n s y j) else some (.index1 n s y j)
      | _, _ => none
    | some .string, some y, some j => some (.indexStr y j)
    | _, _, _ => none
  | .extract x i => (compOpd x).map fun y => .extract y i
  | .makeFunc (.func f) first caps => match compOpds first.toList, compOpds caps.toList with
    | some a, some b => some (.mkFunc f a b)
    | _, _ => none
  | .makeMap _ none => some .makeMap
  | .makeSlice t l c => match P.underlying t, compOpd l, compOpd c with
    | some (.slice e), some x, some y => match sizeAt P e, bytesAt P e, zeroAt P e with
      | some n, some k, some z => if z.length = n ∧ 0 < n then some (.makeSlice e n k z x y) else none
      | _, _, _ => none
    | _, _, _ => none
  | .slice t x lo (some hi) (some mx) => match P.underlying t, compOpd x, compOpt lo, compOpd hi, compOpd mx with
    | some (.slice e), some y, some l, some m, some k => (sizeAt P e).map fun n => .slice3 n y l m k
    | _, _, _, _, _ => none
  | .slice t x lo hi none => match P.underlying t, compOpd x, compOpt lo, compOpt hi with
    | some (.slice e), some y, some l, some m => (sizeAt P e).map fun n => .slice n y l m
    | some .string, some y, some l, some m => some (.sliceStr y l m)
    | _, _, _, _ => none
  | .lookup t x k okf => match P.underlying t, compOpd x, compOpd k with
    | some (.map kt e), some a, some b => match keysOf P kt, zeroV P e with
      | some ks, some z => some (.lookup ks z okf a b)
      | _, _ => none
    | _, _, _ => none
  | .mapUpdate t x k v => match P.underlying t, compOpd x, compOpd k, compOpd v with
    | some (.map kt _), some a, some b, some c => (keysOf P kt).map fun ks => .mapSet ks a b c
    | _, _, _, _ => none
  | .mapEntry t x k => match P.underlying t, compOpd x, compOpd k with
    | some (.map kt e), some a, some b => match keysOf P kt, zeroV P e with
      | some ks, some z => some (.mapEnt ks z a b)
      | _, _ => none
    | _, _, _ => none
  | .entryStore _ x s v => match compOpd x, compOpd s, compOpd v with
    | some a, some b, some c => some (.entStore a b c)
    | _, _, _ => none
  | .call { callee := .builtin b, args, argTypes } => compBuiltin P b args.toList argTypes.toList
  | _ => none


/-- What an operation does: a plain one; or a call of a function's value. -/
inductive AAct where
  | plain (ai : AI)
  | call (f : AOpd) (args : List AOpd)
  | dfr (f : AOpd) (args : List AOpd)
  deriving DecidableEq, Inhabited
structure AOp where
  dst : Option Nat
  act : AAct
  guard : Option (Nat × Bool)
  deriving DecidableEq, Inhabited

def compAct (P : Program) (op : Op) : Option AAct :=
  match op with
  | .call { callee := .value f, args, .. } => match compOpd f, compOpds args.toList with
    | some g, some xs => some (.call g xs)
    | _, _ => none
  | .defer { callee := .value f, args, .. } => match compOpd f, compOpds args.toList with
    | some g, some xs => some (.dfr g xs)
    | _, _ => none
  | op => some (.plain ((compOp P op).getD .bad))

def dstOk (nt : Nat) : Option Nat → Bool
  | some d => decide (d < nt)
  | none => true
def compOper (P : Program) (ops : Array Oper) (nt : Nat) (o : Oper) : Option AOp :=
  match compAct P o.op with
  | none => none
  | some act =>
    if dstOk nt o.dst = true then
      match o.guard with
      | none => some ⟨o.dst, act, none⟩
      | some (j, want) => match (ops[j]?).bind (·.dst) with
        | some d => some ⟨o.dst, act, some (d, want)⟩
        | none => none
    else none

def compOpers (P : Program) (ops : Array Oper) (nt : Nat) : List Oper → Option (List AOp)
  | [] => some []
  | o :: os => match compOper P ops nt o, compOpers P ops nt os with
    | some x, some xs => some (x :: xs)
    | _, _ => none

/-- One operation of a region that draws its order: its number, and for a call: the reads that may also come behind it. -/
structure DOp where
  idx : Nat
  op : AOp
  re : List Nat
  deriving DecidableEq, Inhabited

inductive ACode where
  | skip
  | ops (l : List AOp)
  | dops (l : List DOp)
  | seq (a b : ACode)
  | cond (c : AOpd) (a b : ACode)
  | block (id : Nat) (a : ACode)
  | loop (a : ACode)
  | exit (id : Nat)
  | ret
  | rfunc (f : AOpd) (params : List Nat) (asg body : ACode)
  | scope (a : ACode)
  deriving DecidableEq, Inhabited

/-! ### Regions that draw their order: one order that is told, and what makes it serve all others. -/

/-- Kinds: 0 touches no memory, 1 reads, 2 all else. -/
def AI.kind : AI → Nat
  | .load1 _ | .loadN _ _ | .lenM _ | .lookup _ _ _ _ _ => 1
  | .alloc _ _ | .box _ _ | .buildSlice _ _ _ _ _ | .store _ _ _ | .makeMap | .makeSlice _ _ _ _ _ _ | .append _ _ _ _ _ | .mapSet _ _ _ _ | .mapDel _ _ _ | .mapEnt _ _ _ _ | .entStore _ _ _ | .clearS _ _ _ => 2
  | _ => 0
/-- Those that read or write what lay there before, and are not brought behind. -/
def AI.wr : AI → Bool
  | .store _ _ _ | .append _ _ _ _ _ | .mapSet _ _ _ _ | .mapDel _ _ _ | .mapEnt _ _ _ _ | .entStore _ _ _ | .clearS _ _ _ => true
  | _ => false
def AAct.kind : AAct → Nat
  | .plain ai => ai.kind
  | _ => 2
def AOpd.slots : AOpd → List Nat
  | .tmp t => [t]
  | .val _ => []
def slotsOf (l : List AOpd) : List Nat := l.flatMap AOpd.slots
def optSlots : Option AOpd → List Nat
  | none => []
  | some x => x.slots
def AI.slots : AI → List Nat
  | .mv x | .not x | .neg x | .conv _ x | .box _ x | .load1 x | .loadN _ x | .nilCheck x | .addOff _ x | .field1 _ x | .fieldN _ _ x | .extract x _ | .lenS x | .lenStr x | .lenM x => x.slots
  | .pick a b c => a.slots ++ b.slots ++ c.slots
  | .bin _ x y | .shift _ x y | .eqb _ x y | .eqn _ _ x y | .eqA _ _ x y | .store _ x y | .idxA _ _ x y | .idxS _ x y | .index1 _ _ x y | .indexN _ _ x y | .indexStr x y | .makeSlice _ _ _ _ x y | .append _ _ _ x y | .min x y | .max x y | .lookup _ _ _ x y | .mapDel _ x y | .mapEnt _ _ x y => x.slots ++ y.slots
  | .mapSet _ a b c | .entStore a b c => a.slots ++ b.slots ++ c.slots
  | .alloc _ _ | .makeMap | .bad => []
  | .build _ ps => ps.flatMap fun p => p.2.2.slots
  | .buildSlice _ _ _ _ ps => ps.flatMap fun p => p.2.2.slots
  | .mkFunc _ a b => slotsOf a ++ slotsOf b
  | .slice _ x l h => x.slots ++ optSlots l ++ optSlots h
  | .sliceStr x l h => x.slots ++ optSlots l ++ optSlots h
  | .slice3 _ x l h m => x.slots ++ optSlots l ++ h.slots ++ m.slots
  | .clearS _ _ x => x.slots
def AAct.slots : AAct → List Nat
  | .plain ai => ai.slots
  | .call f xs => f.slots ++ slotsOf xs
  | .dfr f xs => f.slots ++ slotsOf xs
def AOp.uses (o : AOp) : List Nat := o.act.slots ++ (match o.guard with | some (d, _) => [d] | none => [])
/-- Neither writes what the other reads or writes. -/
def AOp.apart (x y : AOp) : Bool :=
  (match x.dst with | some d => !y.uses.contains d && decide (y.dst ≠ some d) | none => true) && (match y.dst with | some d => !x.uses.contains d | none => true)

/-- May x, which comes first, also come behind y? -/
def AOp.passes (x y : AOp) : Bool :=
  x.apart y && decide (x.act.kind ≤ 1) &&
  (decide (y.act.kind ≤ 1) || (match y.act with
    | .plain ai => if ai.wr = true then decide (x.act.kind = 0) else true
    | .call _ _ => true
    | .dfr _ _ => true))

/-- The direct predecessors that bind. -/
def preds (o : Oper) : List Nat := (o.after.toList.filter fun e => Region.binds .any e).map (·.on)

/-- One order: what touches or reads memory as soon as it may, all else as late as it may. -/
def orderGo (ops : Array Oper) (ks : List Nat) : Nat → List Nat → List Nat → List Nat
  | 0, done, _ => done.reverse
  | n + 1, done, left =>
    let ready := left.filter fun i => ((ops[i]?).map fun o => (preds o).all fun j => done.contains j).getD false
    match (ready.find? fun i => ks.getD i 2 ≤ 1) with
    | some i => orderGo ops ks n (i :: done) (left.filter (· ≠ i))
    | none => match ready with
      | i :: _ => orderGo ops ks n (i :: done) (left.filter (· ≠ i))
      | [] => done.reverse

/-- Everything ahead, in closure. -/
def closure (ops : Array Oper) : Nat → Nat → List Nat
  | 0, _ => []
  | n + 1, i => match ops[i]? with
    | some o => (preds o).flatMap fun j => j :: closure ops n j
    | none => []
/-- Bitwise: who comes ahead of each, in closure. -/
def beforeAll (ops : List Oper) : List (List Nat) :=
  (ops.foldl (fun (acc : List (List Nat)) o => acc ++ [((preds o).flatMap fun j => j :: acc.getD j []).eraseDups]) [])

/-- For a call: the reads that came first and are not ahead of it. -/
def reOf (xs : List AOp) (bef : List (List Nat)) (earlier : List Nat) (i : Nat) : List Nat :=
  earlier.filter fun j => (match xs[j]? with | some x => x.act.kind == 1 | none => false) && !(bef.getD i []).contains j
def isCall : AAct → Bool
  | .call _ _ => true
  | _ => false
def mkDOps (xs : List AOp) (bef : List (List Nat)) : List Nat → List Nat → Option (List DOp)
  | _, [] => some []
  | earlier, i :: rest => match xs[i]?, mkDOps xs bef (earlier ++ [i]) rest with
    | some x, some ds => some (⟨i, x, if isCall x.act then reOf xs bef earlier i else []⟩ :: ds)
    | _, _ => none

/-- Each may come behind those that follow it, or is ahead of them. -/
def pairsOk (bef : List (List Nat)) : List DOp → Bool
  | [] => true
  | x :: rest => (rest.all fun y => (bef.getD y.idx []).contains x.idx ||
      (decide (x.idx ≠ y.idx) && x.op.passes y.op && (decide (x.op.act.kind ≠ 1) || !isCall y.op.act || y.re.contains x.idx))) && pairsOk bef rest
/-- Those ahead of each come first. -/
def predsFirst (ops : Array Oper) : List Nat → List DOp → Bool
  | _, [] => true
  | done, x :: rest => (match ops[x.idx]? with | some o => (preds o).all fun j => done.contains j | none => false) && !done.contains x.idx && predsFirst ops (x.idx :: done) rest

def compDrawn (P : Program) (nt : Nat) (ops : Array Oper) : Option ACode :=
  match compOpers P ops nt ops.toList with
  | none => none
  | some xs =>
    let ord := orderGo ops (xs.map fun x => x.act.kind) ops.size [] (List.range ops.size)
    let bef := beforeAll ops.toList
    match mkDOps xs bef [] ord with
    | some ds => if ds.length = ops.size ∧ predsFirst ops [] ds = true ∧ pairsOk bef ds = true ∧ (ds.all fun d => decide (d.idx < ops.size)) = true ∧ ((List.range ops.size).all fun i => ds.any fun d => d.idx == i) = true then some (.dops ds) else none
    | none => none

/-- Code that is not taken: no evaluation goes through it. -/
def badCode : ACode := .ops [⟨none, .plain .bad, none⟩]

def compCode (P : Program) (nt : Nat) : Code → Option ACode
  | .skip => some .skip
  | .label _ => some .skip
  | .region _ ops draw => if draw then some ((compDrawn P nt ops).getD badCode) else (compOpers P ops nt ops.toList).map .ops
  | .seq a b => match compCode P nt a, compCode P nt b with
    | some x, some y => some (.seq x y)
    | _, _ => none
  | .cond c a b => match compOpd c, compCode P nt a, compCode P nt b with
    | some z, some x, some y => some (.cond z x y)
    | _, _, _ => none
  | .block id a => (compCode P nt a).map (.block id)
  | .loop a => (compCode P nt a).map .loop
  | .exit id => some (.exit id)
  | .ret => some .ret
  | .rangeFunc f ps a b => match compOpd f, compCode P nt a, compCode P nt b with
    | some z, some x, some y => some (.rfunc z ps.toList x y)
    | _, _, _ => none
  | .scope b => (compCode P nt b).map .scope
  | _ => some badCode

/-- A function, compiled. -/
structure AFun where
  nt : Nat
  res : List Nat
  body : ACode
  deriving Inhabited
def resSlots : List ResultVar → Option (List Nat)
  | [] => some []
  | .tmp t :: rs => (resSlots rs).map (t :: ·)
  | .cell _ _ :: _ => none
/-- A function of Go text. -/
def okFun (P : Program) (f : FuncId) : Bool :=
  match P.funcs[f]? with
  | some fn => fn.body.isSome && !(fn.name == "runtime.NumGoroutine")
  | none => false
def compFun (P : Program) (f : FuncId) : Option AFun :=
  if okFun P f = true then
  match P.funcs[f]? with
  | some fn => match fn.body, resSlots fn.results.toList with
    | some c, some rs => (compCode P fn.ntmps c).map fun a => ⟨fn.ntmps, rs, a⟩
    | _, _ => none
  | none => none
  else none

end Go.AL

/- Helper text: abstract heaps. -/
namespace Go.AL
open Classical

abbrev Env := Nat → Option AVal

/-- Abstract objects. -/
inductive AObj where
  | cells (cs : List AVal) (elem : TypeId)
  | map (es : List (AVal × AVal × Nat)) (clock : Nat)
  | strIter (s : ByteArray) (pos : Nat)
  | mapIter (m : Option Bid) (since : Nat) (seen : List Nat) (stepped : Nat)
  | loop (state : LoopState) (pending : Option Code) (env : Env) (nt : Nat) (params : List Tmp) (asg body : ACode) (defers : Bid)
  | defs
  | opq (R : (Nat → Option Obj) → Nat → Prop)

abbrev Heap := Nat → Option AObj
/-- What came in: blocks that are read only. -/
abbrev Rom := Nat → Option (List AVal × TypeId)

def upd {α : Type} (f : Nat → Option α) (i : Nat) (a : Option α) : Nat → Option α := fun j => if j = i then a else f j

@[simp] theorem upd_same {α : Type} (f : Nat → Option α) (i : Nat) (a : Option α) : upd f i a i = a := by simp [upd]
theorem upd_ne {α : Type} (f : Nat → Option α) {i j : Nat} (a : Option α) (h : j ≠ i) : upd f i a j = f j := by simp [upd, h]
theorem upd_comm {α : Type} (f : Nat → Option α) {i j : Nat} (a b : Option α) (h : i ≠ j) : upd (upd f i a) j b = upd (upd f j b) i a := by
  funext k
  by_cases h1 : k = j
  · subst h1; rw [upd_same, upd_ne _ _ (Ne.symm h), upd_same]
  · by_cases h2 : k = i
    · subst h2; rw [upd_same, upd_ne _ _ h1, upd_same]
    · rw [upd_ne _ _ h1, upd_ne _ _ h2, upd_ne _ _ h2, upd_ne _ _ h1]
theorem upd_upd {α : Type} (f : Nat → Option α) (i : Nat) (a b : Option α) : upd (upd f i a) i b = upd f i b := by
  funext k
  by_cases h1 : k = i
  · subst h1; simp
  · rw [upd_ne _ _ h1, upd_ne _ _ h1, upd_ne _ _ h1]

/-- The environment of an activation. -/
structure ERel (β : Beta) (nt : Nat) (env : Env) (tmps : Array Value) : Prop where
  size : tmps.size = nt
  get : ∀ t v, env t = some v → VRel β v (tmps.getD t undef)

def Unfrozen (n : Nat) (fz : Nat × Nat) : Prop := fz.2 ≤ fz.1 ∨ n ≤ fz.1

def EntryRel (β : Beta) (a : AVal × AVal × Nat) (e : MapEntry) : Prop := VRel β a.1 e.key ∧ VRel β a.2.1 e.val ∧ e.born = a.2.2

def EntriesRel (β : Beta) : List (AVal × AVal × Nat) → List MapEntry → Prop
  | [], l => l = []
  | a :: as, l => ∃ e es, l = e :: es ∧ EntryRel β a e ∧ EntriesRel β as es

/-- What the world holds of one object. -/
def ORel (P : Program) (β : Beta) (i : Nat) (w : World) : AObj → Prop
  | .cells cs elem => (cs = [] ∧ β.tot i = 0 ∧ ∀ b, ¬ β.fp i b) ∨ ((∀ b, β.fp i b ↔ b = β.blk (.own i)) ∧ ∃ pre spare fz, w.heap[β.blk (.own i)]? = some (.cells (pre ++ spare).toArray elem fz) ∧ VRels β cs pre ∧
      (pre ++ spare).length = β.tot i ∧ Unfrozen (β.tot i) fz)
  | .map es clock => (∀ b, β.fp i b ↔ b = β.blk (.own i)) ∧ ∃ res, w.heap[β.blk (.own i)]? = some (.map res clock) ∧ EntriesRel β es res.toList
  | .strIter s pos => (∀ b, β.fp i b ↔ b = β.blk (.own i)) ∧ w.heap[β.blk (.own i)]? = some (.stringIter s pos)
  | .mapIter m since seen stepped => (∀ b, β.fp i b ↔ b = β.blk (.own i)) ∧ (∀ b : Bid, m = some b → β.ok b) ∧
      w.heap[β.blk (.own i)]? = some (.mapIter (m.map β.blk) since seen.toArray stepped)
  | .loop state pending env nt params asg body defers => (∀ b, β.fp i b ↔ b = β.blk (.own i)) ∧ ∃ fn tmps rasg rbody, ERel β nt env tmps ∧ β.ok defers ∧ compCode P nt rasg = some asg ∧ compCode P nt rbody = some body ∧
      w.heap[β.blk (.own i)]? = some (.loop { state, pending, fn, tmps, params := params.toArray, assign := rasg, body := rbody, defers := β.blk defers })
  | .defs => (∀ b, β.fp i b ↔ b = β.blk (.own i)) ∧ w.heap[β.blk (.own i)]? = some (.deferred (some []))
  | .opq R => β.fp i (β.blk (.own i)) ∧ R (fun b => if β.fp i b then w.heap[b]? else none) (β.blk (.own i))

/-- What came in, as it lies. -/
def ARel (β : Beta) (i : Nat) (w : World) (cs : List AVal) (_ : TypeId) : Prop :=
  cs = [] ∨ ∃ rcs e fz, w.heap[β.blk (.arg i)]? = some (.cells rcs e fz) ∧ β.off i + cs.length ≤ rcs.size ∧ VRels β cs ((rcs.toList.drop (β.off i)).take cs.length)

/-- Something came in under a name. -/
def InRom (rom : Rom) (i : Nat) : Prop := ∃ cs e, rom i = some (cs, e) ∧ cs ≠ []

structure HRel (P : Program) (β : Beta) (rom : Rom) (h : Heap) (w : World) : Prop where
  obj : ∀ i o, h i = some o → i < β.nx ∧ ORel P β i w o
  disj : ∀ i j b, h i ≠ none → h j ≠ none → β.fp i b → β.fp j b → i = j
  bnd : ∀ i b, h i ≠ none → β.fp i b → b < w.heap.size
  args : ∀ i cs e, rom i = some (cs, e) → ARel β i w cs e
  argd : ∀ i j, InRom rom i → h j ≠ none → ¬ β.fp j (β.blk (.arg i))

/-- What else there is stays; names keep their meaning. -/
structure Mv (β : Beta) (h : Heap) (w : World) (β' : Beta) (h' : Heap) (w' : World) : Prop where
  ext : Ext β β'
  size : w.heap.size ≤ w'.heap.size
  same : ∀ b, b < w.heap.size → (∀ i, h i ≠ none → ¬ β.fp i b) → w'.heap[b]? = w.heap[b]?
  stay : ∀ i b, h' i ≠ none → β'.fp i b → b < w.heap.size → ∃ j, h j ≠ none ∧ β.fp j b
  os : w'.os = w.os
  out : w'.output = w.output

theorem Mv.refl (β : Beta) (h : Heap) (w : World) : Mv β h w β h w :=
  ⟨Ext.refl β, Nat.le_refl _, fun _ _ _ => rfl, fun i b h1 h2 _ => ⟨i, h1, h2⟩, rfl, rfl⟩
theorem Mv.trans {β₁ β₂ β₃ : Beta} {h₁ h₂ h₃ : Heap} {w₁ w₂ w₃ : World} (a : Mv β₁ h₁ w₁ β₂ h₂ w₂) (b : Mv β₂ h₂ w₂ β₃ h₃ w₃) : Mv β₁ h₁ w₁ β₃ h₃ w₃ where
  ext := a.ext.trans b.ext
  size := Nat.le_trans a.size b.size
  same := fun x hx hn => by
    rw [b.same x (Nat.lt_of_lt_of_le hx a.size) (fun i hi hf => by
      obtain ⟨j, hj, hfj⟩ := a.stay i x hi hf hx
      exact hn j hj hfj), a.same x hx hn]
  stay := fun i x hi hf hx => by
    obtain ⟨j, hj, hfj⟩ := b.stay i x hi hf (Nat.lt_of_lt_of_le hx a.size)
    exact a.stay j x hj hfj hx
  os := b.os.trans a.os
  out := b.out.trans a.out

variable {P : Program}
/-- Knowing less. -/
theorem HRel.drop {β : Beta} {rom : Rom} {h h' : Heap} {w : World} (H : HRel P β rom h w) (hs : ∀ i o, h' i = some o → h i = some o) : HRel P β rom h' w := by
  have hn : ∀ i, h' i ≠ none → h i ≠ none := fun i hi => by
    cases hh : h' i with
    | none => exact absurd hh hi
    | some o => rw [hs i o hh]; simp
  exact ⟨fun i o ho => H.obj i o (hs i o ho), fun i j b hi hj => H.disj i j b (hn i hi) (hn j hj), fun i b hi => H.bnd i b (hn i hi), H.args,
    fun i j hi hj => H.argd i j hi (hn j hj)⟩
theorem Mv.drop {β : Beta} {h h' : Heap} {w : World} (hs : ∀ i o, h' i = some o → h i = some o) : Mv β h w β h' w := by
  refine ⟨Ext.refl β, Nat.le_refl _, fun _ _ _ => rfl, fun i b h1 h2 _ => ⟨i, ?_, h2⟩, rfl, rfl⟩
  cases hh : h' i with
  | none => exact absurd hh h1
  | some o => rw [hs i o hh]; simp

theorem EntriesRel.ext {β β' : Beta} (e : Ext β β') : ∀ {as : List (AVal × AVal × Nat)} {l : List MapEntry}, EntriesRel β as l → EntriesRel β' as l
  | [], _, h => h
  | _ :: _, _, ⟨x, xs, h1, h2, h3⟩ => ⟨x, xs, h1, ⟨VRel.ext e _ _ h2.1, VRel.ext e _ _ h2.2.1, h2.2.2⟩, EntriesRel.ext e h3⟩
theorem ERel.ext {β β' : Beta} (e : Ext β β') {nt : Nat} {env : Env} {tmps : Array Value} (h : ERel β nt env tmps) : ERel β' nt env tmps :=
  ⟨h.size, fun t v hv => VRel.ext e _ _ (h.get t v hv)⟩

/-- An object is as it was, where its blocks are. -/
theorem ORel.same {β β' : Beta} {i : Nat} {w w' : World} {o : AObj} (e : Ext β β') (hi : i < β.nx) (hfp : ∀ b, β'.fp i b ↔ β.fp i b)
    (hs : ∀ b, β.fp i b → w'.heap[b]? = w.heap[b]?) (h : ORel P β i w o) : ORel P β' i w' o := by
  have hb : β'.blk (.own i) = β.blk (.own i) := (e.own i hi).1
  cases o with
  | cells cs elem =>
    obtain ⟨h0, h00, h1⟩ | ⟨h1, pre, spare, fz, h2, h3, h4, h5⟩ := h
    · exact .inl ⟨h0, by rw [(e.own i hi).2]; exact h00, fun b hb => h1 b ((hfp b).1 hb)⟩
    refine .inr ⟨fun b => by rw [hfp, h1, hb], pre, spare, fz, ?_, VRels.ext e _ _ h3, by rw [(e.own i hi).2]; exact h4, by rw [(e.own i hi).2]; exact h5⟩
    rw [hb, hs _ ((h1 _).2 rfl), h2]
  | map es clock =>
    obtain ⟨h1, res, h2, h3⟩ := h
    exact ⟨fun b => by rw [hfp, h1, hb], res, by rw [hb, hs _ ((h1 _).2 rfl), h2], h3.ext e⟩
  | strIter s pos =>
    obtain ⟨h1, h2⟩ := h
    exact ⟨fun b => by rw [hfp, h1, hb], by rw [hb, hs _ ((h1 _).2 rfl), h2]⟩
  | mapIter m since seen stepped =>
    obtain ⟨h1, h2, h3⟩ := h
    refine ⟨fun b => by rw [hfp, h1, hb], fun b hm => e.okb (h2 b hm), ?_⟩
    rw [hb, hs _ ((h1 _).2 rfl), h3]
    cases m with
    | none => rfl
    | some b => simp [e.blk (h2 b rfl)]
  | loop state pending env nt params asg body defers =>
    obtain ⟨h1, fn, tmps, ra, rb, h2, h3, c1, c2, h4⟩ := h
    exact ⟨fun b => by rw [hfp, h1, hb], fn, tmps, ra, rb, h2.ext e, e.okb h3, c1, c2, by rw [hb, hs _ ((h1 _).2 rfl), h4, e.blk h3]⟩
  | defs =>
    obtain ⟨h1, h2⟩ := h
    exact ⟨fun b => by rw [hfp, h1, hb], by rw [hb, hs _ ((h1 _).2 rfl), h2]⟩
  | opq R =>
    obtain ⟨h1, h2⟩ := h
    have : (fun b => if β'.fp i b then w'.heap[b]? else none) = (fun b => if β.fp i b then w.heap[b]? else none) := by
      funext b
      by_cases hf : β.fp i b
      · simp [hf, (hfp b).2 hf, hs b hf]
      · have : ¬ β'.fp i b := fun h => hf ((hfp b).1 h)
        simp [hf, this]
    exact ⟨by rw [hfp, hb]; exact h1, by simp only [this]; rw [hb]; exact h2⟩
theorem ARel.same {β β' : Beta} {i : Nat} {w w' : World} {cs : List AVal} {t : TypeId} (e : Ext β β')
    (hs : cs ≠ [] → w'.heap[β.blk (.arg i)]? = w.heap[β.blk (.arg i)]?) (h : ARel β i w cs t) : ARel β' i w' cs t := by
  obtain h0 | ⟨rcs, e', fz, h1, h0, h2⟩ := h
  · exact .inl h0
  · by_cases hn : cs = []
    · exact .inl hn
    · exact .inr ⟨rcs, e', fz, by rw [(e.arg i).1, hs hn, h1], by rw [(e.arg i).2]; exact h0, by rw [(e.arg i).2]; exact VRels.ext e _ _ h2⟩

/-- One more block. -/
def Beta.push (β : Beta) (b tot : Nat) : Beta :=
  { nx := β.nx + 1
    blk := fun x => if x = .own β.nx then b else β.blk x
    off := β.off
    tot := fun i => if i = β.nx then tot else β.tot i
    fp := fun i x => if i = β.nx then x = b else β.fp i x }
theorem Beta.push_ext (β : Beta) (b tot : Nat) : Ext β (β.push b tot) where
  nx := Nat.le_succ _
  own := fun i hi => by
    have : i ≠ β.nx := Nat.ne_of_lt hi
    simp [Beta.push, this]
  arg := fun i => by simp [Beta.push]

theorem heap_push_old {w : World} {o : Obj} {b : Nat} (h : b < w.heap.size) : (w.alloc o).heap[b]? = w.heap[b]? := by
  show (w.heap.push o)[b]? = w.heap[b]?
  rw [Array.getElem?_push]; simp [Nat.ne_of_lt h]
theorem heap_push_new {w : World} {o : Obj} : (w.alloc o).heap[w.heap.size]? = some o := by
  show (w.heap.push o)[w.heap.size]? = some o
  simp

theorem HRel.push {β : Beta} {rom : Rom} {h : Heap} {w : World} (H : HRel P β rom h w) (tot : Nat) (o : AObj) (ro : Obj)
    (ho : ORel P (β.push w.heap.size tot) β.nx (w.alloc ro) o) (hrom : ∀ i, InRom rom i → β.blk (.arg i) < w.heap.size) :
    HRel P (β.push w.heap.size tot) rom (upd h β.nx (some o)) (w.alloc ro) ∧ Mv β h w (β.push w.heap.size tot) (upd h β.nx (some o)) (w.alloc ro) := by
  have e := β.push_ext w.heap.size tot
  have hlt : ∀ i, h i ≠ none → i < β.nx := fun i hi => by
    cases hh : h i with
    | none => exact absurd hh hi
    | some o => exact (H.obj i o hh).1
  have hfo : ∀ i b, i ≠ β.nx → ((β.push w.heap.size tot).fp i b ↔ β.fp i b) := fun i b hi => by simp [Beta.push, hi]
  have hfn : ∀ b, (β.push w.heap.size tot).fp β.nx b ↔ b = w.heap.size := fun b => by simp [Beta.push]
  have hold : ∀ i, i ≠ β.nx → upd h β.nx (some o) i ≠ none → h i ≠ none := fun i hi hu => by rwa [upd_ne _ _ hi] at hu
  refine ⟨⟨?_, ?_, ?_, ?_, ?_⟩, ⟨e, by simp, ?_, ?_, rfl, rfl⟩⟩
  · intro i x hx
    by_cases hi : i = β.nx
    · subst hi
      rw [upd_same] at hx; injection hx with hx; subst hx
      exact ⟨Nat.lt_succ_self _, ho⟩
    · rw [upd_ne _ _ hi] at hx
      obtain ⟨h1, h2⟩ := H.obj i x hx
      exact ⟨Nat.lt_succ_of_lt h1, h2.same e h1 (fun b => hfo i b hi) (fun b hb => heap_push_old (H.bnd i b (by rw [hx]; simp) hb))⟩
  · intro i j b hi hj hfi hfj
    by_cases hi' : i = β.nx
    · by_cases hj' : j = β.nx
      · rw [hi', hj']
      · subst hi'
        rw [hfn] at hfi
        have := H.bnd j b (hold j hj' hj) ((hfo j b hj').1 hfj)
        omega
    · by_cases hj' : j = β.nx
      · subst hj'
        rw [hfn] at hfj
        have := H.bnd i b (hold i hi' hi) ((hfo i b hi').1 hfi)
        omega
      · exact H.disj i j b (hold i hi' hi) (hold j hj' hj) ((hfo i b hi').1 hfi) ((hfo j b hj').1 hfj)
  · intro i b hi hf
    by_cases hi' : i = β.nx
    · subst hi'
      rw [hfn] at hf; subst hf; simp
    · have := H.bnd i b (hold i hi' hi) ((hfo i b hi').1 hf)
      simp; omega
  · intro i cs t hr
    exact (H.args i cs t hr).same e (fun hn => heap_push_old (hrom i ⟨cs, t, hr, hn⟩))
  · intro i j hr hj hf
    have hb : (β.push w.heap.size tot).blk (.arg i) = β.blk (.arg i) := (e.arg i).1
    rw [hb] at hf
    by_cases hj' : j = β.nx
    · subst hj'
      rw [hfn] at hf
      have := hrom i hr
      omega
    · exact H.argd i j hr (hold j hj' hj) ((hfo j _ hj').1 hf)
  · intro b hb _
    exact heap_push_old hb
  · intro i b hi hf hb
    by_cases hi' : i = β.nx
    · subst hi'
      rw [hfn] at hf
      omega
    · exact ⟨i, hold i hi' hi, (hfo i b hi').1 hf⟩

/-- A name without any block. -/
def Beta.void (β : Beta) (b : Nat) : Beta :=
  { nx := β.nx + 1
    blk := fun x => if x = .own β.nx then b else β.blk x
    off := β.off
    tot := fun i => if i = β.nx then 0 else β.tot i
    fp := fun i x => i ≠ β.nx ∧ β.fp i x }
theorem Beta.void_ext (β : Beta) (b : Nat) : Ext β (β.void b) where
  nx := Nat.le_succ _
  own := fun i hi => by
    have : i ≠ β.nx := Nat.ne_of_lt hi
    simp [Beta.void, this]
  arg := fun i => by simp [Beta.void]
theorem HRel.void {β : Beta} {rom : Rom} {h : Heap} {w : World} (H : HRel P β rom h w) (b : Nat) (t : TypeId) :
    HRel P (β.void b) rom (upd h β.nx (some (.cells [] t))) w ∧ Mv β h w (β.void b) (upd h β.nx (some (.cells [] t))) w := by
  have e := β.void_ext b
  have hold : ∀ i x, upd h β.nx (some (.cells [] t)) i ≠ none → (β.void b).fp i x → h i ≠ none ∧ β.fp i x := fun i x hi hf => by
    refine ⟨?_, hf.2⟩
    rwa [upd_ne _ _ hf.1] at hi
  refine ⟨⟨?_, ?_, ?_, ?_, ?_⟩, ⟨e, Nat.le_refl _, fun _ _ _ => rfl, fun i x hi hf _ => ⟨i, (hold i x hi hf).1, hf.2⟩, rfl, rfl⟩⟩
  · intro i x hx
    by_cases hi : i = β.nx
    · subst hi
      rw [upd_same] at hx; injection hx with hx; subst hx
      exact ⟨Nat.lt_succ_self _, .inl ⟨rfl, by simp [Beta.void], fun b hb => hb.1 rfl⟩⟩
    · rw [upd_ne _ _ hi] at hx
      obtain ⟨h1, h2⟩ := H.obj i x hx
      exact ⟨Nat.lt_succ_of_lt h1, h2.same e h1 (fun b => ⟨fun h => h.2, fun h => ⟨hi, h⟩⟩) (fun b _ => rfl)⟩
  · intro i j x hi hj hfi hfj
    exact H.disj i j x (hold i x hi hfi).1 (hold j x hj hfj).1 hfi.2 hfj.2
  · intro i x hi hf
    exact H.bnd i x (hold i x hi hf).1 hf.2
  · intro i cs t hr
    exact (H.args i cs t hr).same e fun _ => rfl
  · intro i j hr hj hf
    have hb : (β.void b).blk (.arg i) = β.blk (.arg i) := (e.arg i).1
    rw [hb] at hf
    exact H.argd i j hr (hold j _ hj hf).1 hf.2

/-- What came in lies below the heap's end. -/
theorem HRel.rom_lt {β : Beta} {rom : Rom} {h : Heap} {w : World} (H : HRel P β rom h w) (i : Nat) (hi : InRom rom i) : β.blk (.arg i) < w.heap.size := by
  obtain ⟨cs, e, hr, hn⟩ := hi
  obtain h0 | ⟨rcs, _, fz, h1, _⟩ := H.args i cs e hr
  · exact absurd h0 hn
  · rcases Nat.lt_or_ge (β.blk (.arg i)) w.heap.size with h' | h'
    · exact h'
    · simp [Array.getElem?_eq_none h'] at h1

/-- One object is changed in place. -/
theorem HRel.put {β : Beta} {rom : Rom} {h : Heap} {w w' : World} (H : HRel P β rom h w) {i : Nat} {o o' : AObj} (hi : h i = some o)
    (hfp : ∀ b, β.fp i b ↔ b = β.blk (.own i)) (hsz : w'.heap.size = w.heap.size) (hs : ∀ b, b ≠ β.blk (.own i) → w'.heap[b]? = w.heap[b]?)
    (hos : w'.os = w.os) (hout : w'.output = w.output) (ho : ORel P β i w' o') :
    HRel P β rom (upd h i (some o')) w' ∧ Mv β h w β (upd h i (some o')) w' := by
  have hn : ∀ j, upd h i (some o') j ≠ none → h j ≠ none := fun j hj => by
    by_cases hij : j = i
    · subst hij; rw [hi]; simp
    · rwa [upd_ne _ _ hij] at hj
  have hb : β.fp i (β.blk (.own i)) := (hfp _).2 rfl
  refine ⟨⟨?_, ?_, ?_, ?_, ?_⟩, ⟨Ext.refl β, by omega, ?_, ?_, hos, hout⟩⟩
  · intro j x hx
    by_cases hij : j = i
    · subst hij
      rw [upd_same] at hx; injection hx with hx; subst hx
      exact ⟨(H.obj j o hi).1, ho⟩
    · rw [upd_ne _ _ hij] at hx
      obtain ⟨h1, h2⟩ := H.obj j x hx
      refine ⟨h1, h2.same (Ext.refl β) h1 (fun _ => Iff.rfl) (fun b hf => hs b fun e => hij ?_)⟩
      exact H.disj j i b (by rw [hx]; simp) (by rw [hi]; simp) hf (e ▸ hb)
  · exact fun a b c ha hb' => H.disj a b c (hn a ha) (hn b hb')
  · exact fun a b ha hf => by rw [hsz]; exact H.bnd a b (hn a ha) hf
  · intro j cs t hr
    refine (H.args j cs t hr).same (Ext.refl β) (fun hn => hs _ fun e => H.argd j i ⟨cs, t, hr, hn⟩ (by rw [hi]; simp) (e ▸ hb))
  · exact fun a b ha hb' => H.argd a b ha (hn b hb')
  · intro b _ hno
    refine hs b fun e => hno i (by rw [hi]; simp) (e ▸ hb)
  · exact fun a b ha hf _ => ⟨a, hn a ha, hf⟩

/-- Draws change nothing. -/
theorem HRel.heap {β : Beta} {rom : Rom} {h : Heap} {w w' : World} (H : HRel P β rom h w) (e : w'.heap = w.heap) : HRel P β rom h w' := by
  refine ⟨fun i o ho => ⟨(H.obj i o ho).1, (H.obj i o ho).2.same (Ext.refl β) (H.obj i o ho).1 (fun _ => Iff.rfl) (fun b _ => by rw [e])⟩, H.disj, fun i b hi hf => by rw [e]; exact H.bnd i b hi hf,
    fun i cs t hr => (H.args i cs t hr).same (Ext.refl β) (fun _ => by rw [e]), H.argd⟩
theorem Mv.heap {β : Beta} {h : Heap} {w w' : World} (e : w'.heap = w.heap) (e1 : w'.os = w.os) (e2 : w'.output = w.output) : Mv β h w β h w' :=
  ⟨Ext.refl β, by rw [e]; exact Nat.le_refl _, fun _ _ _ => by rw [e], fun i b h1 h2 _ => ⟨i, h1, h2⟩, e1, e2⟩

end Go.AL

/- Helper text: runs of the model's small words over a block that is known. -/
namespace Go.AL

variable {P : Program} {w : World}

theorem run_und {t : TypeId} {d : TypeDesc} (h : P.underlying t = some d) : (underlying t).run P w = .ok d w := by
  simp [underlying, h]
theorem run_inf {t : TypeId} {i : TypeInfo} (h : P.info? t = some i) : (typeInfo t).run P w = .ok i w := by
  simp [typeInfo, h]
theorem run_siz {t : TypeId} {i : TypeInfo} (h : P.info? t = some i) : (sizeOf t).run P w = .ok i.size w := by
  simp [sizeOf, run_inf h]
theorem run_zer {t : TypeId} {i : TypeInfo} {z : Value} (h : P.info? t = some i) (hz : i.zero = some z) : (zeroValue t).run P w = .ok z w := by
  simp [zeroValue, run_inf h, hz]

theorem run_isAgg {t : TypeId} {d : TypeDesc} (h : P.underlying t = some d) : (isAgg t).run P w = .ok (isAggD d) w := by
  cases d <;> simp [isAgg, run_und h, isAggD]

theorem addr_add (b o n : Nat) : (⟨b, o, none⟩ : Addr).add n = ⟨b, o + n, none⟩ := by
  unfold Addr.add
  split
  · rename_i h; subst h; rfl
  · rfl

theorem cell_at {b : Nat} {rcs : Array Value} {e : TypeId} {fz : Nat × Nat} (h : w.heap[b]? = some (.cells rcs e fz)) (o : Nat) : w.cell? ⟨b, o, none⟩ = rcs[o]? := by
  simp [World.cell?, h]

theorem run_load_at {b o : Nat} {rcs : Array Value} {e : TypeId} {fz : Nat × Nat} {v : Value} (h : w.heap[b]? = some (.cells rcs e fz)) (hv : rcs[o]? = some v) :
    (load ⟨b, o, none⟩).run P w = .ok v w := by
  simp [load, Sem.run, cell_at h, hv]

theorem run_loadCellsFrom_at {b o : Nat} {rcs : Array Value} {e : TypeId} {fz : Nat × Nat} (h : w.heap[b]? = some (.cells rcs e fz)) :
    ∀ (n i : Nat) (acc : Array Value), o + i + n ≤ rcs.size →
      (loadCellsFrom ⟨b, o, none⟩ i n acc).run P w = .ok (acc ++ ((rcs.toList.drop (o + i)).take n).toArray) w := by
  intro n
  induction n with
  | zero => intro i acc _; simp [loadCellsFrom]
  | succ n ih =>
    intro i acc hle
    have hv : rcs[o + i]? = some rcs[o + i] := Array.getElem?_eq_getElem (by omega)
    simp only [loadCellsFrom, addr_add, Sem.run_bind, run_load_at h hv, Result.andThen_ok]
    rw [ih (i + 1) _ (by omega)]
    congr 1
    have hd : rcs.toList.drop (o + i) = rcs[o + i] :: rcs.toList.drop (o + i + 1) := by
      rw [List.drop_eq_getElem_cons (by simpa using (by omega : o + i < rcs.size))]; simp
    rw [hd, List.take_succ_cons]
    apply Array.ext'
    simp [Nat.add_assoc]
theorem run_loadCells_at {b o n : Nat} {rcs : Array Value} {e : TypeId} {fz : Nat × Nat} (h : w.heap[b]? = some (.cells rcs e fz)) (hle : o + n ≤ rcs.size) :
    (loadCells ⟨b, o, none⟩ n).run P w = .ok ((rcs.toList.drop o).take n).toArray w := by
  have := run_loadCellsFrom_at (P := P) h n 0 #[] (by omega)
  simpa [loadCells] using this

/-- Cells are written one behind the other. -/
def setMany {α : Type} : List α → Nat → List α → List α
  | cs, _, [] => cs
  | cs, o, v :: vs => setMany (cs.set o v) (o + 1) vs
@[simp] theorem setMany_length {α : Type} : ∀ (vs cs : List α) (o : Nat), (setMany cs o vs).length = cs.length
  | [], _, _ => rfl
  | v :: vs, cs, o => by simp [setMany, setMany_length vs]
theorem setMany_append {α : Type} : ∀ (vs cs ds : List α) (o : Nat), o + vs.length ≤ cs.length → setMany (cs ++ ds) o vs = setMany cs o vs ++ ds
  | [], _, _, _, _ => rfl
  | v :: vs, cs, ds, o, h => by
    simp only [List.length_cons] at h
    simp only [setMany]
    rw [List.set_append_left _ _ (by omega)]
    exact setMany_append vs _ ds _ (by simp; omega)
theorem VRels.many {β : Beta} : ∀ {vs : List AVal} {rs : List Value} {as : List AVal} {l : List Value} {o : Nat}, VRels β as l → VRels β vs rs → VRels β (setMany as o vs) (setMany l o rs)
  | [], rs, as, l, o, h, k => by simp only [VRels] at k; subst k; exact h
  | c :: cs, rs, as, l, o, h, k => by
    simp only [VRels] at k
    obtain ⟨r, rs', rfl, k1, k2⟩ := k
    show VRels β (AL.setMany (as.set o c) (o + 1) cs) (AL.setMany (l.set o r) (o + 1) rs')
    exact VRels.many (as := as.set o c) (l := l.set o r) (VRels.set h k1) k2

def oneCellV : Value → Bool
  | .agg _ | .tuple _ => false
  | _ => true
theorem run_store_at {b o : Nat} {rcs : Array Value} {e : TypeId} {fz : Nat × Nat} {v : Value} (h : w.heap[b]? = some (.cells rcs e fz)) (ho : o < rcs.size) (hf : Unfrozen rcs.size fz)
    (hv : oneCellV v = true) :
    (store ⟨b, o, none⟩ v).run P w = .ok () { w with heap := w.heap.setIfInBounds b (.cells (rcs.setIfInBounds o v) e fz) } := by
  have hc : w.cell? ⟨b, o, none⟩ = some rcs[o] := by rw [cell_at h]; exact Array.getElem?_eq_getElem ho
  have hfr : w.frozen? ⟨b, o, none⟩ = false := by
    obtain ⟨lo, hi⟩ := fz
    simp only [World.frozen?, h]
    rcases hf with hf | hf <;> simp at hf ⊢ <;> omega
  have hset : w.setCell ⟨b, o, none⟩ v = { w with heap := w.heap.setIfInBounds b (.cells (rcs.setIfInBounds o v) e fz) } := by
    unfold World.setCell
    congr 1
    apply Array.ext_getElem?
    intro i
    rw [Array.getElem?_modify, Array.getElem?_setIfInBounds]
    by_cases hi : b = i
    · subst hi
      have hlt : b < w.heap.size := by
        rcases Nat.lt_or_ge b w.heap.size with h' | h'
        · exact h'
        · simp [Array.getElem?_eq_none h'] at h
      have h2 : w.heap[b] = .cells rcs e fz := by simpa [Array.getElem?_eq_getElem hlt] using h
      simp [hlt, h2]
    · simp [hi]
  cases v <;> simp [oneCellV] at hv <;> simp [store, Sem.run, hc, hfr, hset]

theorem run_storeCells_at' {b o : Nat} {e : TypeId} {fz : Nat × Nat} : ∀ (vs : List Value) (i : Nat) (rcs : Array Value) (w : World), w.heap[b]? = some (.cells rcs e fz) → o + i + vs.length ≤ rcs.size →
    Unfrozen rcs.size fz → (∀ v ∈ vs, oneCellV v = true) →
    ∃ w', (storeCells ⟨b, o, none⟩ vs i).run P w = .ok () w' ∧ w'.heap[b]? = some (.cells (setMany rcs.toList (o + i) vs).toArray e fz) ∧ w'.heap.size = w.heap.size ∧
      (∀ x, x ≠ b → w'.heap[x]? = w.heap[x]?) ∧ w'.os = w.os ∧ w'.output = w.output := by
  intro vs
  induction vs with
  | nil => intro i rcs w h _ _ _; exact ⟨w, by simp [storeCells], by simpa [setMany] using h, rfl, fun _ _ => rfl, rfl, rfl⟩
  | cons v vs ih =>
    intro i rcs w h hle hf hone
    simp only [List.length_cons] at hle
    have hb : b < w.heap.size := by
      rcases Nat.lt_or_ge b w.heap.size with h' | h'
      · exact h'
      · simp [Array.getElem?_eq_none h'] at h
    have hs := run_store_at (P := P) h (o := o + i) (v := v) (by omega) hf (hone v (by simp))
    obtain ⟨w', h1, h2, h3, h4, h5, h6⟩ := ih (i + 1) (rcs.setIfInBounds (o + i) v) { w with heap := w.heap.setIfInBounds b (.cells (rcs.setIfInBounds (o + i) v) e fz) }
      (by simp [hb]) (by simp; omega) (by simpa using hf) (fun x hx => hone x (by simp [hx]))
    refine ⟨w', ?_, ?_, by simpa using h3, ?_, h5, h6⟩
    · simp only [storeCells, addr_add, Sem.run_bind, hs, Result.andThen_ok]
      exact h1
    · rw [h2]; simp [setMany, Nat.add_assoc]
    · intro x hx
      rw [h4 x hx]
      simp [Ne.symm hx]

end Go.AL

/- Helper text: operations, abstractly; each is what the model's own operation does. -/
namespace Go.AL

def AOpd.ev (env : Env) : AOpd → Option AVal
  | .tmp t => env t
  | .val v => some v

theorem ev_rel {β : Beta} {nt : Nat} {env : Env} {a : Act} {x : Operand} {y : AOpd} {v : AVal} (hc : compOpd x = some y) (hE : ERel β nt env a.tmps) (hv : y.ev env = some v) : VRel β v (a.eval x) := by
  cases x with
  | tmp t =>
    simp [compOpd] at hc; subst hc
    exact hE.get t v hv
  | const c =>
    simp only [compOpd, Option.map_eq_some_iff] at hc
    obtain ⟨a', h1, rfl⟩ := hc
    simp [AOpd.ev] at hv; subst hv
    exact cval_rel _ _ h1
  | func f =>
    simp [compOpd] at hc; subst hc
    simp [AOpd.ev] at hv; subst hv
    simp only [VRel]
    exact ⟨#[], #[], rfl, VRels.nil, VRels.nil⟩
  | global g => simp [compOpd] at hc

def evs (env : Env) : List AOpd → Option (List AVal)
  | [] => some []
  | x :: xs => match x.ev env, evs env xs with
    | some v, some vs => some (v :: vs)
    | _, _ => none
theorem evs_rel {β : Beta} {nt : Nat} {env : Env} {a : Act} (hE : ERel β nt env a.tmps) : ∀ {xs : List Operand} {ys : List AOpd} {vs : List AVal}, compOpds xs = some ys → evs env ys = some vs → VRels β vs (xs.map a.eval)
  | [], ys, vs, hc, hv => by
    simp [compOpds] at hc; subst hc
    simp [evs] at hv; subst hv
    exact VRels.nil
  | x :: xs, ys, vs, hc, hv => by
    simp only [compOpds] at hc
    split at hc
    · rename_i y ys' h1 h2
      injection hc with hc; subst hc
      simp only [evs] at hv
      split at hv
      · rename_i v vs' h3 h4
        injection hv with hv; subst hv
        exact VRels.cons (ev_rel h1 hE h3) (evs_rel hE h2 h4)
      · cases hv
    · cases hc

def intBin (op : BinOp) (k : IntKind) (a b : Int) : Option AVal :=
  match op with
  | .add => some (.int k (k.wrap (a + b)))
  | .sub => some (.int k (k.wrap (a - b)))
  | .mul => some (.int k (k.wrap (a * b)))
  | .quo => if b = 0 then none else some (.int k (k.wrap (a.tdiv b)))
  | .rem => if b = 0 then none else some (.int k (a.tmod b))
  | .and => some (.int k (k.wrap (BitVec.ofInt k.bits a &&& BitVec.ofInt k.bits b).toNat))
  | .or => some (.int k (k.wrap (BitVec.ofInt k.bits a ||| BitVec.ofInt k.bits b).toNat))
  | .xor => some (.int k (k.wrap (BitVec.ofInt k.bits a ^^^ BitVec.ofInt k.bits b).toNat))
  | .eql => some (.bool (a == b))
  | .neq => some (.bool (a != b))
  | .lss => some (.bool (decide (a < b)))
  | .leq => some (.bool (decide (a ≤ b)))
  | .gtr => some (.bool (decide (a > b)))
  | .geq => some (.bool (decide (a ≥ b)))
  | _ => none
def strBin (op : BinOp) (a b : ByteArray) : Option AVal :=
  match op with
  | .eql => some (.bool (a.toList == b.toList))
  | .neq => some (.bool !(a.toList == b.toList))
  | _ => none
def binV (op : BinOp) : AVal → AVal → Option AVal
  | .int k a, .int k' b => if k = k' then intBin op k a b else none
  | .str a, .str b => strBin op a b
  | _, _ => none
def shiftV (op : BinOp) : AVal → AVal → Option AVal
  | .int k a, .int _ b => if b < 0 then none else match op with
    | .shl => some (.int k (k.wrap (a * 2 ^ (min b.toNat k.bits))))
    | .shr => some (.int k (a.fdiv (2 ^ (min b.toNat k.bits))))
    | _ => none
  | _, _ => none
/-- Is it nil? -/
def nilV (cls : NilCls) : AVal → Option Bool
  | .nilp => if cls = .ptr then some true else none
  | .ptr _ _ => if cls = .ptr then some false else none
  | .nils => if cls = .slc then some true else none
  | .slice _ _ _ _ cap => if cls = .slc ∧ 0 < cap then some false else none
  | .nilm => if cls = .map then some true else none
  | .map _ => if cls = .map then some false else none
  | .nilf => if cls = .fn then some true else none
  | .func _ _ _ => if cls = .fn then some false else none
  | .yld _ => if cls = .fn then some false else none
  | _ => none
/-- 'x == y' where one of them is nil. -/
def eqnV (cls : NilCls) (x y : AVal) : Option Bool :=
  match nilV cls x, nilV cls y with
  | some true, some b => some b
  | some false, some true => some false
  | _, _ => none

def AVal.isAny : AVal → Bool
  | .any => true
  | _ => false
def fillA : List AVal → List (Nat × Nat × AVal) → Option (List AVal)
  | cs, [] => some cs
  | cs, (off, n, v) :: rest => if v.cells.length = n ∧ off + n ≤ cs.length ∧ v.isAny = false then fillA (setMany cs off v.cells) rest else none
def evParts (env : Env) : List (Nat × Nat × AOpd) → Option (List (Nat × Nat × AVal))
  | [] => some []
  | (o, n, x) :: xs => match x.ev env, evParts env xs with
    | some v, some vs => some ((o, n, v) :: vs)
    | _, _ => none

/-- The cells of a block, from one on. -/
def blockCells (rom : Rom) (h : Heap) : Bid → Option (List AVal)
  | .own i => match h i with
    | some (.cells cs _) => some cs
    | _ => none
  | .arg i => match rom i with
    | some (cs, _) => some cs
    | none => none

/-- A value that fits one cell. -/
def AVal.one : AVal → Bool
  | .any | .agg _ | .tup _ => false
  | _ => true
def allOne (cs : List AVal) : Bool := cs.all AVal.one

/-- A slice's bounds. -/
def loOf (env : Env) : Option AOpd → Option Int
  | none => some 0
  | some x => match x.ev env with
    | some (.int _ n) => some n
    | _ => none
def hiEv (env : Env) (d : Int) : Option AOpd → Option Int
  | none => some d
  | some x => match x.ev env with
    | some (.int _ n) => some n
    | _ => none

abbrev Out := Option (AVal × Heap × Nat)

/-- Cells of what is appended. -/
def srcCells (rom : Rom) (h : Heap) (esz : Nat) : AVal → Option (Nat × List AVal)
  | .nils => some (0, [])
  | .slice b off z len _ => match blockCells rom h b with
    | some cs => if z = esz ∧ off + len * esz ≤ cs.length then some (len, (cs.drop off).take (len * esz)) else none
    | none => none
  | _ => none

/-- Two plain cells: the same? -/
def leafEq : LK → Option AVal → Option AVal → Option Bool
  | .b, some (.bool a), some (.bool b) => some (a == b)
  | .i, some (.int k a), some (.int k' b) => if k = k' then some (a == b) else none
  | .s, some (.str a), some (.str b) => some (a == b)
  | _, _, _ => none
def eqL : List (Nat × LK) → List AVal → List AVal → Option Bool
  | [], _, _ => some true
  | o :: os, a, b => match leafEq o.2 a[o.1]? b[o.1]?, eqL os a b with
    | some r, some s => some (r && s)
    | _, _ => none

/-- Two keys: the same? -/
def KS.eq : KS → AVal → AVal → Option Bool
  | .one k, a, b => leafEq k (some a) (some b)
  | .agg l, .agg a, .agg b => eqL l a b
  | _, _, _ => none
/-- The same, cell by cell, so that either may stand for the other. -/
def sameLeaf : AVal → AVal → Bool
  | .bool a, .bool b => a == b
  | .int k a, .int k' b => k == k' && a == b
  | .str a, .str b => a == b
  | _, _ => false
def sameA : AVal → AVal → Bool
  | .agg a, .agg b => a.length == b.length && (a.zip b).all fun p => sameLeaf p.1 p.2
  | a, b => sameLeaf a b
abbrev Ents := List (AVal × AVal × Nat)
def keyFind (ks : KS) (k : AVal) : Ents → Nat → Option (Option (Nat × AVal))
  | [], _ => some none
  | e :: es, i => match ks.eq k e.1 with
    | some true => if sameA e.1 k = true then some (some (i, e.2.1)) else none
    | some false => keyFind ks k es (i + 1)
    | none => none
def mapEs (h : Heap) : AVal → Option Ents
  | .nilm => some []
  | .map (.own i) => match h i with
    | some (.map es _) => some es
    | _ => none
  | _ => none
def bornAt (es : Ents) (i : Nat) : Nat := ((es[i]?).map (·.2.2)).getD 0

def AI.exec (rom : Rom) (ai : AI) (env : Env) (h : Heap) (nx : Nat) : Out :=
  let ok (v : Option AVal) : Out := match v with | some v => some (v, h, nx) | none => none
  match ai with
  | .mv x => ok (x.ev env)
  | .pick c a b => match c.ev env with
    | some (.bool t) => ok (bif t then a.ev env else b.ev env)
    | _ => none
  | .bin op x y => match x.ev env, y.ev env with
    | some a, some b => ok (binV op a b)
    | _, _ => none
  | .shift op x y => match x.ev env, y.ev env with
    | some a, some b => ok (shiftV op a b)
    | _, _ => none
  | .slice3 esz x lo hi mx => match x.ev env, loOf env lo, hi.ev env, mx.ev env with
    | some (.slice b o z len cap), some l, some (.int _ n), some (.int _ m) =>
      if z = esz ∧ 0 ≤ l ∧ l ≤ n ∧ n ≤ m ∧ (m ≤ (len : Int) ∨ m ≤ (cap : Int)) then ok (some (.slice b (o + l.toNat * esz) z (n - l).toNat (m - l).toNat)) else none
    | _, _, _, _ => none
  | .clearS esz zero x => match x.ev env with
    | some .nils => ok (some (.tup []))
    | some (.slice (.own i) o z len _) =>
      if len = 0 then ok (some (.tup [])) else match h i with
        | some (.cells cs t) =>
          if z = esz ∧ o + (List.flatten (List.replicate len zero)).length ≤ cs.length ∧ allOne (List.flatten (List.replicate len zero)) = true then
            some (.tup [], upd h i (some (.cells (setMany cs o (List.flatten (List.replicate len zero))) t)), nx)
          else none
        | _ => none
    | _ => none
  | .bad => none
  | .lookup ks z okf x k => match x.ev env, k.ev env with
    | some m, some key => match mapEs h m, ks.eq key key with
      | some es, some _ => match keyFind ks key es 0 with
        | some r => ok (some (if okf = true then .tup [((r.map (·.2)).getD z), .bool r.isSome] else (r.map (·.2)).getD z))
        | none => none
      | _, _ => none
    | _, _ => none
  | .mapSet ks x k y => match x.ev env, k.ev env, y.ev env with
    | some (.map (.own i)), some key, some val => match h i, ks.eq key key with
      | some (.map es clock), some _ => match keyFind ks key es 0 with
        | some (some (j, _)) => some (.any, upd h i (some (.map (es.modify j fun e => (key, val, e.2.2)) clock)), nx)
        | some none => some (.any, upd h i (some (.map (es ++ [(key, val, clock)]) (clock + 1))), nx)
        | none => none
      | _, _ => none
    | _, _, _ => none
  | .mapDel ks x k => match x.ev env, k.ev env with
    | some .nilm, some key => match ks.eq key key with
      | some _ => ok (some (.tup []))
      | none => none
    | some (.map (.own i)), some key => match h i, ks.eq key key with
      | some (.map es clock), some _ => match keyFind ks key es 0 with
        | some (some (j, _)) => some (.tup [], upd h i (some (.map (es.eraseIdx j) clock)), nx)
        | some none => some (.tup [], upd h i (some (.map es clock)), nx)
        | none => none
      | _, _ => none
    | _, _ => none
  | .mapEnt ks z x k => match x.ev env, k.ev env with
    | some (.map (.own i)), some key => match h i, ks.eq key key with
      | some (.map es clock), some _ => match keyFind ks key es 0 with
        | some (some (j, y)) => some (.tup [y, .int .i64 (bornAt es j)], upd h i (some (.map (es.modify j fun e => (key, e.2.1, e.2.2)) clock)), nx)
        | some none => some (.tup [z, .int .i64 clock], upd h i (some (.map (es ++ [(key, z, clock)]) (clock + 1))), nx)
        | none => none
      | _, _ => none
    | _, _ => none
  | .entStore x st y => match x.ev env, st.ev env, y.ev env with
    | some (.map (.own i)), some (.int _ n), some val => match h i with
      | some (.map es clock) => match es.findIdx? (fun e => (e.2.2 : Int) == n) with
        | some j => some (.any, upd h i (some (.map (es.modify j fun e => (e.1, val, e.2.2)) clock)), nx)
        | none => none
      | _ => none
    | _, _, _ => none
  | .eqA ng offs x y => match x.ev env, y.ev env with
    | some (.agg a), some (.agg b) => match eqL offs a b with
      | some r => ok (some (.bool (xor ng r)))
      | none => none
    | _, _ => none
  | .eqb ng x y => match x.ev env, y.ev env with
    | some (.bool a), some (.bool b) => ok (some (.bool (xor ng (a == b))))
    | _, _ => none
  | .eqn cls ng x y => match x.ev env, y.ev env with
    | some a, some b => match eqnV cls a b with
      | some r => ok (some (.bool (xor ng r)))
      | none => none
    | _, _ => none
  | .not x => match x.ev env with
    | some (.bool a) => ok (some (.bool !a))
    | _ => none
  | .neg x => match x.ev env with
    | some (.int k n) => ok (some (.int k (k.wrap (0 - n))))
    | _ => none
  | .conv k x => match x.ev env with
    | some (.int _ n) => ok (some (.int k (k.wrap n)))
    | _ => none
  | .alloc t zero => some (.ptr (.own nx) 0, upd h nx (some (.cells zero t)), nx + 1)
  | .box t x => match x.ev env with
    | some .any => none
    | some v => some (.ptr (.own nx) 0, upd h nx (some (.cells v.cells t)), nx + 1)
    | none => none
  | .build zero parts => match evParts env parts with
    | some ps => ok ((fillA zero ps).map .agg)
    | none => none
  | .buildSlice elem esz zero len parts => match evParts env parts with
    | some ps => match fillA zero ps with
      | some cs => some (.slice (.own nx) 0 esz len len, upd h nx (some (.cells cs elem)), nx + 1)
      | none => none
    | none => none
  | .load1 a => match a.ev env with
    | some (.ptr b off) => match blockCells rom h b with
      | some cs => ok cs[off]?
      | none => none
    | _ => none
  | .loadN n a => match a.ev env with
    | some (.ptr b off) => match blockCells rom h b with
      | some cs => if off + n ≤ cs.length then ok (some (.agg ((cs.drop off).take n))) else none
      | none => none
    | _ => none
  | .store n a x => match a.ev env, x.ev env with
    | some (.ptr (.own i) off), some v => match h i with
      | some (.cells cs t) => if v.cells.length = n ∧ off + n ≤ cs.length ∧ allOne v.cells = true then some (.any, upd h i (some (.cells (setMany cs off v.cells) t)), nx) else none
      | _ => none
    | _, _ => none
  | .nilCheck x => match x.ev env with
    | some (.ptr b o) => ok (some (.ptr b o))
    | some (.func f a b) => ok (some (.func f a b))
    | some (.yld b) => ok (some (.yld b))
    | some (.iface t v) => ok (some (.iface t v))
    | _ => none
  | .addOff off x => match x.ev env with
    | some (.ptr b o) => ok (some (.ptr b (o + off)))
    | _ => none
  | .field1 off x => match x.ev env with
    | some (.agg cs) => ok cs[off]?
    | _ => none
  | .fieldN off n x => match x.ev env with
    | some (.agg cs) => if off + n ≤ cs.length then ok (some (.agg ((cs.drop off).take n))) else none
    | _ => none
  | .idxA len esz x i => match x.ev env, i.ev env with
    | some (.ptr b o), some (.int _ j) => if 0 ≤ j ∧ j < (len : Int) then ok (some (.ptr b (o + j.toNat * esz))) else none
    | _, _ => none
  | .idxS esz x i => match x.ev env, i.ev env with
    | some (.slice b o z len _), some (.int _ j) => if z = esz ∧ 0 ≤ j ∧ j < (len : Int) then ok (some (.ptr b (o + j.toNat * esz))) else none
    | _, _ => none
  | .index1 len esz x i => match x.ev env, i.ev env with
    | some (.agg cs), some (.int _ j) => if 0 ≤ j ∧ j < (len : Int) then ok cs[j.toNat * esz]? else none
    | _, _ => none
  | .indexN len esz x i => match x.ev env, i.ev env with
    | some (.agg cs), some (.int _ j) => if 0 ≤ j ∧ j < (len : Int) ∧ j.toNat * esz + esz ≤ cs.length then ok (some (.agg ((cs.drop (j.toNat * esz)).take esz))) else none
    | _, _ => none
  | .indexStr x i => match x.ev env, i.ev env with
    | some (.str s), some (.int _ j) => if 0 ≤ j ∧ j < (s.size : Int) then ok (some (.int .u8 (s.get! j.toNat).toNat)) else none
    | _, _ => none
  | .extract x i => match x.ev env with
    | some (.tup vs) => ok vs[i]?
    | _ => none
  | .mkFunc f first caps => match evs env first, evs env caps with
    | some a, some b => ok (some (.func f a b))
    | _, _ => none
  | .makeMap => some (.map (.own nx), upd h nx (some (.map [] 0)), nx + 1)
  | .makeSlice elem esz bytes zero len cap => match len.ev env, cap.ev env with
    | some (.int .i64 l), some (.int .i64 c) =>
      if 0 ≤ l ∧ l ≤ c ∧ (bytes : Int) * c ≤ 2 ^ 44 ∧ c ≤ 2 ^ 44 then some (.slice (.own nx) 0 esz l.toNat c.toNat, upd h nx (some (.cells (List.flatten (List.replicate c.toNat zero)) elem)), nx + 1) else none
    | _, _ => none
  | .slice esz x lo hi =>
    match x.ev env with
    | some (.slice b o z len cap) => match loOf env lo, hiEv env (len : Int) hi with
      | some l, some n => if z = esz ∧ 0 ≤ l ∧ l ≤ n ∧ (n ≤ (len : Int) ∨ n ≤ (cap : Int)) then ok (some (.slice b (o + l.toNat * esz) z (n - l).toNat (cap - l.toNat))) else none
      | _, _ => none
    | some .nils => match loOf env lo, hiEv env 0 hi with
      | some l, some n => if l = 0 ∧ n = 0 then ok (some .nils) else none
      | _, _ => none
    | _ => none
  | .sliceStr x lo hi =>
    match x.ev env with
    | some (.str s) => match loOf env lo, hiEv env (s.size : Int) hi with
      | some l, some n => if 0 ≤ l ∧ l ≤ n ∧ n ≤ (s.size : Int) then ok (some (.str (s.extract l.toNat n.toNat))) else none
      | _, _ => none
    | _ => none
  | .lenS x => match x.ev env with
    | some (.slice _ _ _ len _) => ok (some (.int .i64 len))
    | some .nils => ok (some (.int .i64 0))
    | _ => none
  | .lenStr x => match x.ev env with
    | some (.str s) => ok (some (.int .i64 s.size))
    | _ => none
  | .lenM x => match x.ev env with
    | some .nilm => ok (some (.int .i64 0))
    | some (.map (.own i)) => match h i with
      | some (.map es _) => ok (some (.int .i64 es.length))
      | _ => none
    | _ => none
  | .append elem esz bytes s x => match s.ev env, x.ev env with
    | some .nils, some xv => match srcCells rom h esz xv with
      | some (n, cs) => if n ≤ 2 ^ 40 ∧ bytes ≤ 64 then some (.slice (.own nx) 0 esz n n, upd h nx (some (.cells cs elem)), nx + 1) else none
      | none => none
    | some (.slice (.own i) off z len cap), some xv => match srcCells rom h esz xv, h i with
      | some (n, cs), some (.cells old t) =>
        if z ≠ esz then none else if len + n ≤ cap ∧ len < cap ∧ off + (len + n) * esz ≤ old.length ∧ allOne cs = true then some (.slice (.own i) off z (len + n) cap, upd h i (some (.cells (setMany old (off + len * esz) cs) t)), nx)
        else if off = 0 ∧ t = elem ∧ len * esz ≤ old.length ∧ len + n ≤ 2 ^ 40 ∧ bytes ≤ 64 ∧ allOne cs = true then
          some (.slice (.own nx) 0 esz (len + n) (len + n), upd (upd h i none) nx (some (.cells (old.take (len * esz) ++ cs) elem)), nx + 1)
        else none
      | _, _ => none
    | _, _ => none
  | .min x y => match x.ev env, y.ev env with
    | some (.int k a), some (.int k' b) => if k = k' then ok (some (.int k (if b < a then b else a))) else none
    | _, _ => none
  | .max x y => match x.ev env, y.ev env with
    | some (.int k a), some (.int k' b) => if k = k' then ok (some (.int k (if a < b then b else a))) else none
    | _, _ => none

end Go.AL

/- Helper text: the abstract operations are the model's. -/
namespace Go.AL

def nextVal : Next → Option Value
  | .value v => some v
  | .skip => some undef
  | _ => none

/-- An operation's run comes to what the abstract one tells. -/
def OpOk (P : Program) (β : Beta) (rom : Rom) (h : Heap) (w : World) (res : Result Next) (v : AVal) (h' : Heap) (nx' : Nat) : Prop :=
  ∃ nxt rv w' β', res = .ok nxt w' ∧ nextVal nxt = some rv ∧ VRel β' v rv ∧ HRel P β' rom h' w' ∧ Mv β h w β' h' w' ∧ β'.nx = nx'

variable {P : Program} {β : Beta} {rom : Rom} {h : Heap} {w : World}

theorem OpOk.val {res : Result Next} {v : AVal} {rv : Value} (H : HRel P β rom h w) (hr : res = .ok (.value rv) w) (hv : VRel β v rv) : OpOk P β rom h w res v h β.nx :=
  ⟨_, rv, w, β, hr, rfl, hv, H, Mv.refl _ _ _, rfl⟩

theorem okOut {o : Option AVal} {h' : Heap} {nx nx' : Nat} {v : AVal} (e : (match o with | some v => some (v, h, nx) | none => (none : Out)) = some (v, h', nx')) : o = some v ∧ h' = h ∧ nx' = nx := by
  cases o with
  | none => cases e
  | some x => simp at e; exact ⟨by rw [e.1], e.2.1.symm, e.2.2.symm⟩

theorem blockCells_rel {b : Bid} {cs : List AVal} (H : HRel P β rom h w) (hb : blockCells rom h b = some cs) (hne : cs ≠ []) :
    β.ok b ∧ ∃ rcs e fz, w.heap[β.blk b]? = some (.cells rcs e fz) ∧ β.offOf b + cs.length ≤ rcs.size ∧ VRels β cs ((rcs.toList.drop (β.offOf b)).take cs.length) := by
  cases b with
  | own i =>
    simp only [blockCells] at hb
    split at hb
    · rename_i cs' e hi
      injection hb with hb; subst hb
      obtain ⟨h1, ⟨hn, _⟩ | ⟨h2, pre, spare, fz, h3, h4, h5, h6⟩⟩ := H.obj i _ hi
      · exact absurd hn hne
      refine ⟨h1, _, e, fz, h3, ?_, ?_⟩
      · simp [Beta.offOf, h4.length]
      · simp only [Beta.offOf, List.drop_zero]
        rw [h4.length]; simpa using h4
    · cases hb
  | arg i =>
    simp only [blockCells] at hb
    split at hb
    · rename_i cs' e hi
      injection hb with hb; subst hb
      obtain hn | ⟨rcs, e, fz, h1, h0, h2⟩ := H.args i _ _ hi
      · exact absurd hn hne
      exact ⟨trivial, rcs, _, fz, h1, h0, h2⟩
    · cases hb

theorem read1 {b : Bid} {cs : List AVal} {off : Nat} {v : AVal} (H : HRel P β rom h w) (hb : blockCells rom h b = some cs) (hv : cs[off]? = some v) :
    ∃ rv, (load ⟨β.blk b, β.offOf b + off, none⟩).run P w = .ok rv w ∧ VRel β v rv := by
  obtain ⟨_, rcs, e, fz, h1, h2, h3⟩ := blockCells_rel H hb (fun hn => by rw [hn] at hv; simp at hv)
  obtain ⟨r, hr, hvr⟩ := h3.get hv
  have hlt : off < cs.length := (List.getElem?_eq_some_iff.1 hv).1
  rw [List.getElem?_take] at hr
  simp only [hlt, if_true, List.getElem?_drop] at hr
  exact ⟨r, run_load_at h1 (by rw [← Array.getElem?_toList]; exact hr), hvr⟩
theorem readN {b : Bid} {cs : List AVal} {off n : Nat} (H : HRel P β rom h w) (hb : blockCells rom h b = some cs) (hle : off + n ≤ cs.length) :
    ∃ rvs, (loadCells ⟨β.blk b, β.offOf b + off, none⟩ n).run P w = .ok rvs w ∧ VRels β ((cs.drop off).take n) rvs.toList := by
  by_cases hn0 : cs = []
  · subst hn0
    have : n = 0 := by simp at hle; omega
    subst this
    exact ⟨#[], by simp [loadCells, loadCellsFrom], by simpa using VRels.nil⟩
  obtain ⟨_, rcs, e, fz, h1, h2, h3⟩ := blockCells_rel H hb hn0
  refine ⟨_, run_loadCells_at h1 (by omega), ?_⟩
  have h4 := VRels.take (n := n) (VRels.drop (n := off) h3)
  have e1 : (List.take n (List.drop off (List.take cs.length (List.drop (β.offOf b) rcs.toList)))) = List.take n (List.drop (β.offOf b + off) rcs.toList) := by
    rw [List.drop_take, List.drop_drop, List.take_take, Nat.min_eq_left (by omega)]
  rw [e1] at h4
  simpa using h4

/-- What a value's cells are, when it fits cells. -/
theorem VRel.cells' {a : AVal} {v : Value} (hv : VRel β a v) (ha : allOne a.cells = true) : VRels β a.cells v.cells.toList ∧ ∀ c ∈ v.cells.toList, oneCellV c = true := by
  have hne : a ≠ .any := by rintro rfl; simp [AVal.cells, allOne, AVal.one] at ha
  have h1 := hv.cells hne
  refine ⟨h1, fun c hc => ?_⟩
  obtain ⟨i, hi, rfl⟩ := List.mem_iff_getElem.1 hc
  have hi' : i < a.cells.length := by rw [h1.length]; exact hi
  obtain ⟨r, hr, hrel⟩ := h1.get (List.getElem?_eq_getElem hi')
  rw [List.getElem?_eq_getElem hi] at hr
  injection hr with hr
  rw [hr]
  have ho : (a.cells[i]).one = true := by
    unfold allOne at ha
    rw [List.all_eq_true] at ha
    exact ha _ (List.getElem_mem hi')
  generalize a.cells[i] = x at ho hrel
  cases x <;> simp [AVal.one] at ho <;> simp only [VRel] at hrel <;> first
    | (subst hrel; rfl)
    | (obtain ⟨_, rfl⟩ := hrel; rfl)
    | (obtain ⟨_, ⟨rfl, _⟩ | ⟨_, _, rfl, _⟩⟩ := hrel <;> rfl)
    | (obtain ⟨_, _, _, rfl, _⟩ := hrel; rfl)
    | (obtain ⟨_, _, rfl, _⟩ := hrel; rfl)
    | (obtain ⟨_, rfl, _⟩ := hrel; rfl)

theorem writeN {i off : Nat} {cs vs : List AVal} {t : TypeId} {rvs : List Value} (H : HRel P β rom h w) (hi : h i = some (.cells cs t)) (hle : off + vs.length ≤ cs.length) (hv : VRels β vs rvs) (hone : ∀ c ∈ rvs, oneCellV c = true) :
    ∃ w', (storeCells ⟨β.blk (.own i), off, none⟩ rvs).run P w = .ok () w' ∧ HRel P β rom (upd h i (some (.cells (setMany cs off vs) t))) w' ∧ Mv β h w β (upd h i (some (.cells (setMany cs off vs) t))) w' := by
  obtain ⟨hlt, ⟨rfl, _, hvoid⟩ | ⟨hfp, pre, spare, fz, h3, h4, h5, h6⟩⟩ := H.obj i _ hi
  · have hv0 : vs = [] := List.eq_nil_of_length_eq_zero (by rw [List.length_nil] at hle; omega)
    subst hv0
    simp only [VRels] at hv; subst hv
    have e1 : upd h i (some (.cells (setMany [] off []) t)) = h := by
      funext j
      by_cases hj : j = i
      · subst hj; simp [setMany, hi]
      · rw [upd_ne _ _ hj]
    rw [e1]
    exact ⟨w, by simp [storeCells], H, Mv.refl _ _ _⟩
  have hl := h4.length
  have hvl := hv.length
  obtain ⟨w', g1, g2, g3, g4, g5, g6⟩ := run_storeCells_at' (P := P) (o := off) rvs 0 _ w h3 (by simp; omega) (by simp at h5 ⊢; rw [h5]; exact h6) hone
  refine ⟨w', g1, ?_⟩
  refine H.put hi hfp g3 g4 g5 g6 ?_
  simp only [Nat.add_zero] at g2
  refine .inr ⟨hfp, setMany pre off rvs, spare, fz, ?_, VRels.many h4 hv, by simpa using h5, h6⟩
  rw [g2]
  congr 2
  exact congrArg List.toArray (setMany_append rvs pre spare off (by omega))

end Go.AL

/- Helper text: the abstract operations are the model's, operation for operation. -/
namespace Go.AL

variable {P : Program} {β : Beta} {rom : Rom} {h h' : Heap} {w : World} {nt nx' : Nat} {env : Env} {a : Act} {v : AVal} {ai : AI}

/-- What is to be shown of an operation. -/
def Sound (P : Program) (op : Op) : Prop :=
  ∀ (ai : AI) (β : Beta) (rom : Rom) (h h' : Heap) (w : World) (nt nx' : Nat) (env : Env) (a : Act) (v : AVal) (o : Oper), o.op = op → compOp P op = some ai → ERel β nt env a.tmps → HRel P β rom h w →
    ai.exec rom env h β.nx = some (v, h', nx') → OpOk P β rom h w ((execOp a.eval o).run P w) v h' nx'

theorem sound_move (x : Operand) : Sound P (.move x) := by
  intro ai β rom h h' w nt nx' env a v o ho hc hE H hx
  simp only [compOp, Option.map_eq_some_iff] at hc
  obtain ⟨y, hy, rfl⟩ := hc
  obtain ⟨e1, rfl, rfl⟩ := okOut hx
  exact .val H (by simp [execOp, ho]) (ev_rel hy hE e1)
theorem sound_assign (x : Operand) : Sound P (.assign x) := by
  intro ai β rom h h' w nt nx' env a v o ho hc hE H hx
  simp only [compOp, Option.map_eq_some_iff] at hc
  obtain ⟨y, hy, rfl⟩ := hc
  obtain ⟨e1, rfl, rfl⟩ := okOut hx
  exact .val H (by simp [execOp, ho]) (ev_rel hy hE e1)
theorem sound_pick (c x y : Operand) : Sound P (.pick c x y) := by
  intro ai β rom h h' w nt nx' env a v o ho hc hE H hx
  simp only [compOp] at hc
  split at hc
  · rename_i c' x' y' h1 h2 h3
    injection hc with hc; subst hc
    simp only [AI.exec] at hx
    split at hx
    · rename_i t ht
      have hcv := ev_rel h1 hE ht
      simp only [VRel] at hcv
      obtain ⟨e1, rfl, rfl⟩ := okOut hx
      cases t with
      | true => exact .val H (by simp [execOp, ho, hcv, asBool]) (ev_rel h2 hE e1)
      | false => exact .val H (by simp [execOp, ho, hcv, asBool]) (ev_rel h3 hE e1)
    · cases hx
  · cases hc

theorem intBin_run {op : BinOp} {k : IntKind} {m n : Int} {r : AVal} (t : TypeId) (hop : op ≠ .shl) (hop' : op ≠ .shr) (hr : intBin op k m n = some r) (w : World) :
    ∃ rv, (binOp op t (.int k m) (.int k n)).run P w = .ok rv w ∧ VRel β r rv := by
  cases op <;> simp [intBin] at hr <;> first
    | contradiction
    | (subst hr; exact ⟨_, by simp [binOp, Op.intArith, Op.intCmp, Op.intBits]; rfl, by simp [VRel]⟩)
    | (obtain ⟨h0, rfl⟩ := hr; exact ⟨_, by simp [binOp, Op.intDiv, h0]; rfl, by simp [VRel]⟩)
theorem strBin_run {op : BinOp} {m n : ByteArray} {r : AVal} (t : TypeId) (hr : strBin op m n = some r) (w : World) :
    ∃ rv, (binOp op t (.string m) (.string n)).run P w = .ok rv w ∧ VRel β r rv := by
  cases op <;> simp [strBin] at hr <;> first
    | contradiction
    | (subst hr; exact ⟨_, by simp [binOp, Op.stringOp]; rfl, by simp [VRel]⟩)
theorem eqGuard_int (op : BinOp) (t : TypeId) (x y : Operand) (k k' : IntKind) (m n : Int) : (eqGuard op t x y (.int k m) (.int k' n)).run P w = .ok () w := by
  unfold eqGuard
  split <;> simp
theorem eqGuard_str (op : BinOp) (t : TypeId) (x y : Operand) (m n : ByteArray) : (eqGuard op t x y (.string m) (.string n)).run P w = .ok () w := by
  unfold eqGuard
  split <;> simp
theorem eqGuard_bool (op : BinOp) (t : TypeId) (x y : Operand) (m n : Bool) : (eqGuard op t x y (.bool m) (.bool n)).run P w = .ok () w := by
  unfold eqGuard
  split <;> simp

theorem binV_run {op : BinOp} {x y r : AVal} {rx ry : Value} (t : TypeId) (px py : Operand) (hop : op ≠ .shl) (hop' : op ≠ .shr) (hx : VRel β x rx) (hy : VRel β y ry) (hr : binV op x y = some r) (w : World) :
    ∃ rv, (do eqGuard op t px py rx ry; binOp op t rx ry : Sem Value).run P w = .ok rv w ∧ VRel β r rv := by
  unfold binV at hr
  split at hr
  · simp only [VRel] at hx hy
    subst hx hy
    split at hr
    · rename_i hk; subst hk
      obtain ⟨rv, h1, h2⟩ := intBin_run (P := P) (β := β) t hop hop' hr w
      exact ⟨rv, by simp [eqGuard_int, h1], h2⟩
    · cases hr
  · simp only [VRel] at hx hy
    subst hx hy
    obtain ⟨rv, h1, h2⟩ := strBin_run (P := P) (β := β) t hr w
    exact ⟨rv, by simp [eqGuard_str, h1], h2⟩
  · cases hr

theorem shiftV_run {op : BinOp} {x y r : AVal} {rx ry : Value} (t : TypeId) (px py : Operand) (hop : op = .shl ∨ op = .shr) (hx : VRel β x rx) (hy : VRel β y ry) (hr : shiftV op x y = some r) (w : World) :
    ∃ rv, (do eqGuard op t px py rx ry; binOp op t rx ry : Sem Value).run P w = .ok rv w ∧ VRel β r rv := by
  unfold shiftV at hr
  split at hr
  · simp only [VRel] at hx hy
    subst hx hy
    split at hr
    · cases hr
    · rename_i hneg
      rcases hop with rfl | rfl <;> (simp at hr; subst hr; exact ⟨_, by simp [eqGuard_int, binOp, Op.shift, hneg]; rfl, by simp [VRel]⟩)
  · cases hr

theorem equal_step (t : TypeId) (x y : Value) : Op.equal t x y = Op.equalIn (Nat.succ 9999) t x y := rfl
theorem equal_bool {t : TypeId} (ht : P.underlying t = some .bool) (x y : Bool) : (Op.equal t (.bool x) (.bool y)).run P w = .ok (x == y) w := by
  rw [equal_step, Op.equalIn, Sem.run_bind, run_und ht]; rfl
theorem equal_nil {t : TypeId} {d : TypeDesc} {cls : NilCls} (ht : P.underlying t = some d) (hd : nilClsOf d = some cls) (rx ry : Value) (r : Bool)
    (hc : (cls = .ptr ∧ ((rx = .pointer none ∧ ∃ b, ry = .pointer b ∧ r = b.isNone) ∨ (∃ b, rx = .pointer (some b) ∧ ry = .pointer none ∧ r = false))) ∨
      (cls = .slc ∧ ((rx = .slice none 0 0 ∧ ∃ b l c, ry = .slice b l c ∧ r = b.isNone) ∨ (∃ b l c, rx = .slice (some b) l c ∧ ry = .slice none 0 0 ∧ r = false))) ∨
      (cls = .map ∧ ((rx = .map none ∧ ∃ b, ry = .map b ∧ r = b.isNone) ∨ (∃ b, rx = .map (some b) ∧ ry = .map none ∧ r = false))) ∨
      (cls = .fn ∧ ((rx = .nilFunc ∧ ((ry = .nilFunc ∧ r = true) ∨ ∃ f g c, ry = .func f g c ∧ r = false)) ∨ (∃ f g c, rx = .func f g c ∧ ry = .nilFunc ∧ r = false)))) :
    (Op.equal t rx ry).run P w = .ok r w := by
  rw [equal_step, Op.equalIn, Sem.run_bind, run_und ht]
  rcases hc with ⟨rfl, h⟩ | ⟨rfl, h⟩ | ⟨rfl, h⟩ | ⟨rfl, h⟩ <;> cases d <;> simp [nilClsOf] at hd
  · rcases h with ⟨rfl, b, rfl, rfl⟩ | ⟨b, rfl, rfl, rfl⟩ <;> rfl
  · rcases h with ⟨rfl, b, l, c, rfl, rfl⟩ | ⟨b, l, c, rfl, rfl, rfl⟩ <;> rfl
  · rcases h with ⟨rfl, b, rfl, rfl⟩ | ⟨b, rfl, rfl, rfl⟩ <;> rfl
  · rcases h with ⟨rfl, ⟨rfl, rfl⟩ | ⟨f, g, c, rfl, rfl⟩⟩ | ⟨f, g, c, rfl, rfl, rfl⟩ <;> rfl

theorem eqb_run {neg : Bool} {x y : Bool} {rx ry : Value} {t : TypeId} (ht : P.underlying t = some .bool) (px py : Operand) (hx : VRel β (.bool x) rx) (hy : VRel β (.bool y) ry) (w : World) :
    ∃ rv, (do eqGuard (if neg then .neq else .eql) t px py rx ry; binOp (if neg then .neq else .eql) t rx ry : Sem Value).run P w = .ok rv w ∧ VRel β (.bool (xor neg (x == y))) rv := by
  simp only [VRel] at hx hy
  subst hx hy
  cases neg
  · refine ⟨.bool (x == y), ?_, by simp [VRel]⟩
    rw [Sem.run_bind, eqGuard_bool]
    show (do pure (.bool (← Op.equal t (.bool x) (.bool y))) : Sem Value).run P w = _
    rw [Sem.run_bind, equal_bool ht]; rfl
  · refine ⟨.bool (!(x == y)), ?_, by simp [VRel]⟩
    rw [Sem.run_bind, eqGuard_bool]
    show (do pure (.bool (!(← Op.equal t (.bool x) (.bool y)))) : Sem Value).run P w = _
    rw [Sem.run_bind, equal_bool ht]; rfl

theorem eqL_append {l m : List (Nat × LK)} {a b : List AVal} {r : Bool} (h : eqL (l ++ m) a b = some r) : ∃ x y, eqL l a b = some x ∧ eqL m a b = some y ∧ r = (x && y) := by
  induction l generalizing r with
  | nil => exact ⟨true, r, rfl, h, by simp⟩
  | cons o l ih =>
    simp only [List.cons_append, eqL] at h
    split at h
    · rename_i x1 x2 h1 h2
      injection h with h
      obtain ⟨x, y, e1, e2, e3⟩ := ih h2
      refine ⟨x1 && x, y, by simp [eqL, h1, e1], e2, ?_⟩
      rw [← h, e3, Bool.and_assoc]
    · cases h

/-- A part of a value, seen from the whole. -/
structure Sees (xs ra : Array Value) (base n : Nat) : Prop where
  one : ∀ o, o < n → xs[o]? = ra[base + o]?
  some : ∀ o m, o + m ≤ n → xs.extract o (o + m) = ra.extract (base + o) (base + o + m)
theorem Sees.all (ra : Array Value) (n : Nat) : Sees ra ra 0 n := ⟨fun o _ => by simp, fun o m _ => by simp⟩
theorem Sees.part {xs ra : Array Value} {base n o m : Nat} (h : Sees xs ra base n) (hm : o + m ≤ n) : Sees (xs.extract o (o + m)) ra (base + o) m where
  one k hk := by
    rw [h.some o m hm]
    simp only [Array.getElem?_extract]
    by_cases hh : base + o + k < ra.size
    · rw [if_pos (by omega)]
    · rw [if_neg (by omega), Array.getElem?_eq_none (by omega)]
  some k j hk := by
    rw [h.some o m hm, Array.extract_extract, Nat.add_assoc (base + o), Nat.min_eq_left (by omega)]

/-- Plain cells of a type of its kind. -/
def LK.fits : LK → TypeDesc → Prop
  | .b, .bool => True
  | .i, .int _ => True
  | .s, .string => True
  | _, _ => False
theorem leaf_plain {t : TypeId} {d : TypeDesc} {D : Nat} {lk : LK} (ht : P.underlying t = some d) (hd : lk.fits d) {x y : Option AVal} {r : Bool} (he : leafEq lk x y = some r) :
    isAggD d = false ∧ ∃ u v, x = some u ∧ y = some v ∧ ∀ rx ry, VRel β u rx → VRel β v ry → ∀ w, (Op.equalIn (D + 1) t rx ry).run P w = .ok r w := by
  refine ⟨by cases lk <;> cases d <;> simp_all [LK.fits, isAggD], ?_⟩
  unfold leafEq at he
  split at he
  · injection he with he; subst he
    refine ⟨_, _, rfl, rfl, fun rx ry h1 h2 w => ?_⟩
    simp only [VRel] at h1 h2; subst h1 h2
    cases d <;> simp [LK.fits] at hd
    rw [Op.equalIn, Sem.run_bind, run_und ht]; rfl
  · split at he
    · rename_i hk
      injection he with he; subst he hk
      refine ⟨_, _, rfl, rfl, fun rx ry h1 h2 w => ?_⟩
      simp only [VRel] at h1 h2; subst h1 h2
      cases d <;> simp [LK.fits] at hd
      rw [Op.equalIn, Sem.run_bind, run_und ht]
      simp
    · cases he
  · injection he with he; subst he
    refine ⟨_, _, rfl, rfl, fun rx ry h1 h2 w => ?_⟩
    simp only [VRel] at h1 h2; subst h1 h2
    cases d <;> simp [LK.fits] at hd
    rw [Op.equalIn, Sem.run_bind, run_und ht]; rfl
  · cases he

theorem part_one {t : TypeId} {d : TypeDesc} {cs : Array Value} {off : Nat} {r : Value} (hd : P.underlying t = some d) (ha : isAggD d = false) (hr : cs[off]? = some r) (w : World) : (part t cs off).run P w = .ok r w := by
  simp [part, run_isAgg hd, ha, hr]
theorem part_many {t : TypeId} {d : TypeDesc} {cs : Array Value} {off : Nat} {i : TypeInfo} (hd : P.underlying t = some d) (ha : isAggD d = true) (hi : P.info? t = some i) (w : World) : (part t cs off).run P w = .ok (.agg (cs.extract off (off + i.size))) w := by
  simp [part, run_isAgg hd, ha, run_siz hi]

/-- What is to be shown of a part's '=='. -/
def EqPart (P : Program) (ra rb : Array Value) (a b : List AVal) (k : Nat) (w : World) (D : Nat) : Prop :=
  ∀ (t : TypeId) (base o n : Nat) (L : List (Nat × LK)) (xs ys : Array Value) (r : Bool) (m : Nat),
    leavesAt P D t (base + o) = some L → Sees xs ra base n → Sees ys rb base n → sizeAt P t = some m → o + m ≤ n → o < n → eqL L a b = some r →
    ∃ u v, (part t xs o).run P w = .ok u w ∧ (part t ys o).run P w = .ok v w ∧ (Op.equalIn (D + k) t u v).run P w = .ok r w

theorem equal_fields {ra rb : Array Value} {a b : List AVal} {k : Nat} {w : World} {D : Nat} (H : EqPart P ra rb a b k w D) {base n : Nat} {xs ys : Array Value} (sx : Sees xs ra base n) (sy : Sees ys rb base n) :
    ∀ (fs : List Field) (L : List (Nat × LK)) (r : Bool), (fs.all fun f => f.name != "_" && (match sizeAt P f.type with | some m => decide (f.offset + m ≤ n ∧ f.offset < n) | none => false)) = true →
      (fs.mapM fun f => leavesAt P D f.type (base + f.offset)).map List.flatten = some L → eqL L a b = some r → (Op.eqFields (D + k) xs ys fs).run P w = .ok r w
  | [], L, r, _, hL, he => by
    simp at hL; subst hL
    simp only [eqL, Option.some.injEq] at he; subst he
    simp [Op.eqFields]
  | f :: fs, L, r, hc, hL, he => by
    simp only [List.all_cons, Bool.and_eq_true, bne_iff_ne] at hc
    obtain ⟨⟨c1, c2⟩, c3⟩ := hc
    split at c2
    case h_2 => cases c2
    rename_i m hm
    simp only [decide_eq_true_eq] at c2
    rw [List.mapM_cons] at hL
    cases h1 : leavesAt P D f.type (base + f.offset) with
    | none => simp [h1] at hL
    | some L1 =>
      cases h2 : fs.mapM (fun f => leavesAt P D f.type (base + f.offset)) with
      | none => simp [h1, h2] at hL
      | some Ls =>
        simp [h1, h2] at hL
        subst hL
        obtain ⟨r1, r2, e1, e2, rfl⟩ := eqL_append he
        obtain ⟨u, v, g1, g2, g3⟩ := H f.type base f.offset n L1 xs ys r1 m h1 sx sy hm c2.1 c2.2 e1
        have g4 := equal_fields H sx sy fs Ls.flatten r2 c3 (by rw [h2]; rfl) e2
        rw [Op.eqFields]
        simp only [if_pos c1, Sem.run_bind, g1, g2, g3, Result.andThen_ok]
        cases r1
        · simp
        · simpa using g4

/-- '==' of a part, out of its plain cells. -/
theorem equal_part {a b : List AVal} {ra rb : Array Value} (ha : VRels β a ra.toList) (hb : VRels β b rb.toList) (k : Nat) (w : World) : ∀ (D : Nat), EqPart P ra rb a b k w D := by
  intro D
  induction D with
  | zero => intro t base o n L xs ys r m hL; cases hL
  | succ D ih =>
    intro t base o n L xs ys r m hL sx sy hm ho ho' he
    have plain : ∀ (d : TypeDesc) (lk : LK), P.underlying t = some d → lk.fits d → L = [(base + o, lk)] →
        ∃ u v, (part t xs o).run P w = .ok u w ∧ (part t ys o).run P w = .ok v w ∧ (Op.equalIn (D + 1 + k) t u v).run P w = .ok r w := by
      intro d lk hd hf hl
      subst hl
      simp only [eqL] at he
      split at he
      · rename_i x y h1 h2
        injection h2 with h2; subst h2
        simp only [Bool.and_true, Option.some.injEq] at he; subst he
        obtain ⟨g1, u, v, g2, g3, g4⟩ := leaf_plain (β := β) (D := D + k) hd hf h1
        obtain ⟨u', e1, e2⟩ := ha.get g2
        obtain ⟨v', e3, e4⟩ := hb.get g3
        refine ⟨u', v', part_one hd g1 (by rw [sx.one o ho', ← Array.getElem?_toList]; exact e1) w, part_one hd g1 (by rw [sy.one o ho', ← Array.getElem?_toList]; exact e3) w, ?_⟩
        have := g4 u' v' e2 e4 w
        rwa [show D + 1 + k = D + k + 1 by omega]
      · cases he
    simp only [leavesAt] at hL
    split at hL
    · rename_i hd; injection hL with hL; exact plain _ .b hd trivial hL.symm
    · rename_i hd; injection hL with hL; exact plain _ .i hd trivial hL.symm
    · rename_i hd; injection hL with hL; exact plain _ .s hd trivial hL.symm
    · rename_i fs hd
      rw [hm] at hL
      simp only at hL
      split at hL
      · rename_i hc
        simp only [sizeAt, Option.map_eq_some_iff] at hm
        obtain ⟨i, hi, rfl⟩ := hm
        refine ⟨_, _, part_many hd rfl hi w, part_many hd rfl hi w, ?_⟩
        have hF : P.fieldsOf t = fs := by simp [Program.fieldsOf, hd]
        rw [show D + 1 + k = D + k + 1 by omega, run_equalIn_struct (P := P) w _ t _ _ (by rw [hF]; exact hd) hc.1, hF]
        exact equal_fields ih (sx.part ho) (sy.part ho) fs.toList L r hc.2 hL he
      · cases hL
    · cases hL

theorem eqA_run {neg : Bool} {L : List (Nat × LK)} {a b : List AVal} {r : Bool} {rx ry : Value} {t : TypeId} {fs : Array Field} (ht : P.underlying t = some (.struct fs)) (hg : P.eqGuardType P.depth t = false) (hL : leavesAt P 8 t 0 = some L)
    (px py : Operand) (hx : VRel β (.agg a) rx) (hy : VRel β (.agg b) ry) (he : eqL L a b = some r) (w : World) :
    ∃ rv, (do eqGuard (if neg then .neq else .eql) t px py rx ry; binOp (if neg then .neq else .eql) t rx ry : Sem Value).run P w = .ok rv w ∧ VRel β (.bool (xor neg r)) rv := by
  simp only [VRel] at hx hy
  obtain ⟨ra, rfl, ha⟩ := hx
  obtain ⟨rb, rfl, hb⟩ := hy
  have hgd : ∀ op, (eqGuard op t px py (.agg ra) (.agg rb)).run P w = .ok () w := by
    intro op
    unfold eqGuard
    split <;> simp [hg]
  have heq : (Op.equal t (.agg ra) (.agg rb)).run P w = .ok r w := by
    simp only [leavesAt, ht] at hL
    split at hL
    · rename_i n hn
      split at hL
      · rename_i hc
        have hF : P.fieldsOf t = fs := by simp [Program.fieldsOf, ht]
        show (Op.equalIn (7 + 9992 + 1) t (.agg ra) (.agg rb)).run P w = _
        rw [run_equalIn_struct (P := P) w _ t _ _ (by rw [hF]; exact ht) hc.1, hF]
        exact equal_fields (base := 0) (n := n) (equal_part ha hb 9992 w 7) (Sees.all _ _) (Sees.all _ _) fs.toList L r hc.2 hL he
      · cases hL
    · cases hL
  cases neg
  · refine ⟨.bool r, ?_, by simp [VRel]⟩
    rw [Sem.run_bind]
    simp only [Bool.false_eq_true, if_false]
    rw [hgd]
    show (do pure (.bool (← Op.equal t (.agg ra) (.agg rb))) : Sem Value).run P w = _
    rw [Sem.run_bind, heq]; rfl
  · refine ⟨.bool (!r), ?_, by simp [VRel]⟩
    rw [Sem.run_bind]
    simp only [if_true]
    rw [hgd]
    show (do pure (.bool (!(← Op.equal t (.agg ra) (.agg rb)))) : Sem Value).run P w = _
    rw [Sem.run_bind, heq]; rfl

theorem nilV_cases {cls : NilCls} {x : AVal} {b : Bool} (hn : nilV cls x = some b) {rx : Value} (hx : VRel β x rx) :
    (cls = .ptr ∧ ((b = true ∧ rx = .pointer none) ∨ (b = false ∧ ∃ a, rx = .pointer (some a)))) ∨
    (cls = .slc ∧ ((b = true ∧ rx = .slice none 0 0) ∨ (b = false ∧ ∃ a l c, rx = .slice (some a) l c))) ∨
    (cls = .map ∧ ((b = true ∧ rx = .map none) ∨ (b = false ∧ ∃ a, rx = .map (some a)))) ∨
    (cls = .fn ∧ ((b = true ∧ rx = .nilFunc) ∨ (b = false ∧ ∃ f g c, rx = .func f g c))) := by
  unfold nilV at hn
  split at hn <;> (try split at hn) <;> (try cases hn) <;> rename_i hc <;> first
    | (subst hc; simp only [VRel] at hx; subst hx; simp; done)
    | (subst hc; simp only [VRel] at hx; obtain ⟨_, rfl⟩ := hx; simp; done)
    | (subst hc; simp only [VRel] at hx; obtain ⟨_, _, rfl, _⟩ := hx; simp; done)
    | (obtain ⟨rfl, hcap⟩ := hc
       simp only [VRel] at hx
       obtain ⟨_, ⟨_, _, h0⟩ | ⟨_, _, rfl, _⟩⟩ := hx
       · omega
       · simp)

theorem eqGuard_nil {cls : NilCls} {x : AVal} {b : Bool} (hn : nilV cls x = some b) {rx : Value} (hx : VRel β x rx) (op : BinOp) (t : TypeId) (px py : Operand) (ry : Value) : (eqGuard op t px py rx ry).run P w = .ok () w := by
  have hc := nilV_cases hn hx
  rcases hc with ⟨_, ⟨_, rfl⟩ | ⟨_, _, rfl⟩⟩ | ⟨_, ⟨_, rfl⟩ | ⟨_, _, _, _, rfl⟩⟩ | ⟨_, ⟨_, rfl⟩ | ⟨_, _, rfl⟩⟩ | ⟨_, ⟨_, rfl⟩ | ⟨_, _, _, _, rfl⟩⟩ <;>
    (unfold eqGuard; split <;> rfl)

theorem eqnV_run {cls : NilCls} {neg : Bool} {x y : AVal} {r : Bool} {rx ry : Value} {t : TypeId} {d : TypeDesc} (ht : P.underlying t = some d) (hd : nilClsOf d = some cls) (px py : Operand) (hx : VRel β x rx) (hy : VRel β y ry)
    (hr : eqnV cls x y = some r) (w : World) :
    ∃ rv, (do eqGuard (if neg then .neq else .eql) t px py rx ry; binOp (if neg then .neq else .eql) t rx ry : Sem Value).run P w = .ok rv w ∧ VRel β (.bool (xor neg r)) rv := by
  have fin : ∀ b, nilV cls x = some b → (Op.equal t rx ry).run P w = .ok r w → (∀ op, (op = .eql ∨ op = .neq) → binOp op t rx ry = (if op = .eql then (do pure (.bool (← Op.equal t rx ry)) : Sem Value) else do pure (.bool (!(← Op.equal t rx ry))))) →
      ∃ rv, (do eqGuard (if neg then .neq else .eql) t px py rx ry; binOp (if neg then .neq else .eql) t rx ry : Sem Value).run P w = .ok rv w ∧ VRel β (.bool (xor neg r)) rv := by
    intro b hb he hbin
    cases neg
    · refine ⟨.bool r, ?_, by simp [VRel]⟩
      rw [Sem.run_bind, eqGuard_nil hb hx]
      show (binOp .eql t rx ry).run P w = _
      rw [hbin _ (.inl rfl), if_pos rfl, Sem.run_bind, he]; rfl
    · refine ⟨.bool (!r), ?_, by simp [VRel]⟩
      rw [Sem.run_bind, eqGuard_nil hb hx]
      show (binOp .neq t rx ry).run P w = _
      rw [hbin _ (.inr rfl), if_neg (by simp), Sem.run_bind, he]; rfl
  have hbin : ∀ b c, nilV cls x = some b → nilV cls y = some c → ∀ op, (op = .eql ∨ op = .neq) → binOp op t rx ry = (if op = .eql then (do pure (.bool (← Op.equal t rx ry)) : Sem Value) else do pure (.bool (!(← Op.equal t rx ry)))) := by
    intro b c hb hc op hop
    have h1 := nilV_cases hb hx
    have h2 := nilV_cases hc hy
    rcases h1 with ⟨rfl, h1⟩ | ⟨rfl, h1⟩ | ⟨rfl, h1⟩ | ⟨rfl, h1⟩ <;> simp at h2
    · rcases h1 with ⟨_, rfl⟩ | ⟨_, _, rfl⟩ <;> rcases h2 with ⟨_, rfl⟩ | ⟨_, _, rfl⟩ <;> rcases hop with rfl | rfl <;> rfl
    · rcases h1 with ⟨_, rfl⟩ | ⟨_, _, _, _, rfl⟩ <;> rcases h2 with ⟨_, rfl⟩ | ⟨_, _, _, _, rfl⟩ <;> rcases hop with rfl | rfl <;> rfl
    · rcases h1 with ⟨_, rfl⟩ | ⟨_, _, rfl⟩ <;> rcases h2 with ⟨_, rfl⟩ | ⟨_, _, rfl⟩ <;> rcases hop with rfl | rfl <;> rfl
    · rcases h1 with ⟨_, rfl⟩ | ⟨_, _, _, _, rfl⟩ <;> rcases h2 with ⟨_, rfl⟩ | ⟨_, _, _, _, rfl⟩ <;> rcases hop with rfl | rfl <;> rfl
  unfold eqnV at hr
  split at hr
  · rename_i c hb hc
    injection hr with hr; subst hr
    refine fin _ hb ?_ (hbin _ _ hb hc)
    have h1 := nilV_cases hb hx
    have h2 := nilV_cases hc hy
    refine equal_nil ht hd _ _ _ ?_
    rcases h1 with ⟨rfl, h1⟩ | ⟨rfl, h1⟩ | ⟨rfl, h1⟩ | ⟨rfl, h1⟩ <;> simp at h1 <;> subst h1 <;> simp at h2
    · rcases h2 with ⟨rfl, rfl⟩ | ⟨rfl, _, rfl⟩ <;> simp
    · rcases h2 with ⟨rfl, rfl⟩ | ⟨rfl, _, _, _, rfl⟩ <;> simp
    · rcases h2 with ⟨rfl, rfl⟩ | ⟨rfl, _, rfl⟩ <;> simp
    · rcases h2 with ⟨rfl, rfl⟩ | ⟨rfl, _, _, _, rfl⟩ <;> simp
  · rename_i hb hc
    injection hr with hr; subst hr
    refine fin _ hb ?_ (hbin _ _ hb hc)
    have h1 := nilV_cases hb hx
    have h2 := nilV_cases hc hy
    refine equal_nil ht hd _ _ _ ?_
    rcases h1 with ⟨rfl, h1⟩ | ⟨rfl, h1⟩ | ⟨rfl, h1⟩ | ⟨rfl, h1⟩ <;> simp at h1 <;> simp at h2 <;> subst h2
    · obtain ⟨_, rfl⟩ := h1; simp
    · obtain ⟨_, _, _, rfl⟩ := h1; simp
    · obtain ⟨_, rfl⟩ := h1; simp
    · obtain ⟨_, _, _, rfl⟩ := h1; simp
  · cases hr

theorem sound_binOp (op : BinOp) (t : TypeId) (x y : Operand) (u : TypeId) : Sound P (.binOp op t x y u) := by
  intro ai β rom h h' w nt nx' env a v o ho hc hE H hx
  simp only [compOp] at hc
  split at hc
  · rename_i x' y' h1 h2
    have hrun : (execOp a.eval o).run P w = ((do eqGuard op t x y (a.eval x) (a.eval y); binOp op t (a.eval x) (a.eval y) : Sem Value).run P w).andThen fun r w' => .ok (.value r) w' := by
      simp only [execOp, ho]
      rw [Sem.run_bind]; rfl
    have fin : ∀ r, (∃ rv, (do eqGuard op t x y (a.eval x) (a.eval y); binOp op t (a.eval x) (a.eval y) : Sem Value).run P w = .ok rv w ∧ VRel β r rv) → OpOk P β rom h w ((execOp a.eval o).run P w) r h β.nx := by
      rintro r ⟨rv, e1, e2⟩
      exact .val H (by rw [hrun, e1]; rfl) e2
    have two : ∀ {f : AVal → AVal → Option AVal}, (match x'.ev env, y'.ev env with
        | some p, some q => (match f p q with | some v => some (v, h, β.nx) | none => none : Out)
        | _, _ => none) = some (v, h', nx') → ∃ p q, VRel β p (a.eval x) ∧ VRel β q (a.eval y) ∧ f p q = some v ∧ h' = h ∧ nx' = β.nx := by
      intro f hh
      split at hh
      · rename_i p q hp hq
        obtain ⟨e1, e2, e3⟩ := okOut hh
        exact ⟨p, q, ev_rel h1 hE hp, ev_rel h2 hE hq, e1, e2, e3⟩
      · cases hh
    unfold compBin at hc
    split at hc
    · -- whole numbers
      split at hc
      · injection hc with hc; subst hc
        obtain ⟨p, q, hp, hq, e1, rfl, rfl⟩ := two hx
        exact fin _ (shiftV_run t x y (.inl rfl) hp hq e1 w)
      · injection hc with hc; subst hc
        obtain ⟨p, q, hp, hq, e1, rfl, rfl⟩ := two hx
        exact fin _ (shiftV_run t x y (.inr rfl) hp hq e1 w)
      · cases hc
      · rename_i n1 n2 n3
        injection hc with hc; subst hc
        obtain ⟨p, q, hp, hq, e1, rfl, rfl⟩ := two hx
        exact fin _ (binV_run t x y (fun e => n1 e) (fun e => n2 e) hp hq e1 w)
    · split at hc
      · injection hc with hc; subst hc
        obtain ⟨p, q, hp, hq, e1, rfl, rfl⟩ := two hx
        exact fin _ (binV_run t x y (by simp) (by simp) hp hq e1 w)
      · injection hc with hc; subst hc
        obtain ⟨p, q, hp, hq, e1, rfl, rfl⟩ := two hx
        exact fin _ (binV_run t x y (by simp) (by simp) hp hq e1 w)
      · cases hc
    · rename_i ht
      split at hc
      · injection hc with hc; subst hc
        simp only [AI.exec] at hx
        split at hx
        · rename_i p q hp hq
          obtain ⟨e1, rfl, rfl⟩ := okOut (o := some _) hx
          injection e1 with e1; subst e1
          exact fin _ (eqb_run (neg := false) ht x y (ev_rel h1 hE hp) (ev_rel h2 hE hq) w)
        · cases hx
      · injection hc with hc; subst hc
        simp only [AI.exec] at hx
        split at hx
        · rename_i p q hp hq
          obtain ⟨e1, rfl, rfl⟩ := okOut (o := some _) hx
          injection e1 with e1; subst e1
          exact fin _ (eqb_run (neg := true) ht x y (ev_rel h1 hE hp) (ev_rel h2 hE hq) w)
        · cases hx
      · cases hc
    · rename_i fs ht
      split at hc
      · rename_i hg
        split at hc
        · rename_i l hl
          injection hc with hc; subst hc
          simp only [AI.exec] at hx
          split at hx
          · rename_i p q hp hq
            split at hx
            · rename_i r hr
              obtain ⟨e1, rfl, rfl⟩ := okOut (o := some _) hx
              injection e1 with e1; subst e1
              exact fin _ (eqA_run (neg := false) ht hg hl x y (ev_rel h1 hE hp) (ev_rel h2 hE hq) hr w)
            · cases hx
          · cases hx
        · rename_i l hl
          injection hc with hc; subst hc
          simp only [AI.exec] at hx
          split at hx
          · rename_i p q hp hq
            split at hx
            · rename_i r hr
              obtain ⟨e1, rfl, rfl⟩ := okOut (o := some _) hx
              injection e1 with e1; subst e1
              exact fin _ (eqA_run (neg := true) ht hg hl x y (ev_rel h1 hE hp) (ev_rel h2 hE hq) hr w)
            · cases hx
          · cases hx
        · cases hc
      · cases hc
    · rename_i d _ _ _ _ ht
      split at hc
      · rename_i c hcl
        injection hc with hc; subst hc
        simp only [AI.exec] at hx
        split at hx
        · rename_i p q hp hq
          split at hx
          · rename_i r hr
            obtain ⟨e1, rfl, rfl⟩ := okOut (o := some _) hx
            injection e1 with e1; subst e1
            exact fin _ (eqnV_run (neg := false) ht hcl x y (ev_rel h1 hE hp) (ev_rel h2 hE hq) hr w)
          · cases hx
        · cases hx
      · rename_i c hcl
        injection hc with hc; subst hc
        simp only [AI.exec] at hx
        split at hx
        · rename_i p q hp hq
          split at hx
          · rename_i r hr
            obtain ⟨e1, rfl, rfl⟩ := okOut (o := some _) hx
            injection e1 with e1; subst e1
            exact fin _ (eqnV_run (neg := true) ht hcl x y (ev_rel h1 hE hp) (ev_rel h2 hE hq) hr w)
          · cases hx
        · cases hx
      · cases hc
    · cases hc
  · cases hc

end Go.AL

/- Helper text: the abstract operations are the model's, operation for operation (2). -/
namespace Go.AL

variable {P : Program} {β : Beta} {rom : Rom} {h h' : Heap} {w : World} {nt nx' : Nat} {env : Env} {a : Act} {v : AVal} {ai : AI}

theorem sound_not (t : TypeId) (x : Operand) : Sound P (.unOp .not t x) := by
  intro ai β rom h h' w nt nx' env a v o ho hc hE H hx
  simp only [compOp, Option.map_eq_some_iff] at hc
  obtain ⟨y, hy, rfl⟩ := hc
  simp only [AI.exec] at hx
  split at hx
  · rename_i b hb
    have hv := ev_rel hy hE hb
    simp only [VRel] at hv
    obtain ⟨e1, rfl, rfl⟩ := okOut (o := some _) hx
    injection e1 with e1; subst e1
    exact .val H (by simp [execOp, ho, hv, Op.unary]; rfl) (by simp [VRel])
  · cases hx
theorem sound_neg (t : TypeId) (x : Operand) : Sound P (.unOp .neg t x) := by
  intro ai β rom h h' w nt nx' env a v o ho hc hE H hx
  simp only [compOp, Option.map_eq_some_iff] at hc
  obtain ⟨y, hy, rfl⟩ := hc
  simp only [AI.exec] at hx
  split at hx
  · rename_i k n hb
    have hv := ev_rel hy hE hb
    simp only [VRel] at hv
    obtain ⟨e1, rfl, rfl⟩ := okOut (o := some _) hx
    injection e1 with e1; subst e1
    exact .val H (by simp [execOp, ho, hv, Op.unary, Op.intArith]; rfl) (by simp [VRel])
  · cases hx
theorem sound_convert (s d : TypeId) (x : Operand) : Sound P (.convert s d x) := by
  intro ai β rom h h' w nt nx' env a v o ho hc hE H hx
  simp only [compOp] at hc
  split at hc
  · rename_i k0 k h1 h2
    simp only [Option.map_eq_some_iff] at hc
    obtain ⟨y, hy, rfl⟩ := hc
    simp only [AI.exec] at hx
    split at hx
    · rename_i k' n hb
      have hv := ev_rel hy hE hb
      simp only [VRel] at hv
      obtain ⟨e1, rfl, rfl⟩ := okOut (o := some _) hx
      injection e1 with e1; subst e1
      exact .val H (by simp [execOp, ho, hv, convert, run_und h1, run_und h2, Conv.intToInt]; rfl) (by simp [VRel])
    · cases hx
  · cases hc

theorem zeroAt_run {t : TypeId} {z : List AVal} (hz : zeroAt P t = some z) : ∃ i zv, P.info? t = some i ∧ i.zero = some zv ∧ cvals zv.cells.toList = some z := by
  simp only [zeroAt, Option.bind_eq_some_iff] at hz
  obtain ⟨i, h1, zv, h2, h3⟩ := hz
  exact ⟨i, zv, h1, h2, h3⟩
theorem sizeAt_run {t : TypeId} {n : Nat} (hz : sizeAt P t = some n) : ∃ i, P.info? t = some i ∧ i.size = n := by
  simp only [sizeAt, Option.map_eq_some_iff] at hz
  exact hz
theorem bytesAt_run {t : TypeId} {n : Nat} (hz : bytesAt P t = some n) : ∃ i, P.info? t = some i ∧ i.bytes = n := by
  simp only [bytesAt, Option.map_eq_some_iff] at hz
  exact hz

/-- A new block of cells. -/
theorem new_cells (H : HRel P β rom h w) (cs : List AVal) (rvs : List Value) (t : TypeId) (hv : VRels β cs rvs) :
    HRel P (β.push w.heap.size rvs.length) rom (upd h β.nx (some (.cells cs t))) (w.alloc (.cells rvs.toArray t)) ∧
    Mv β h w (β.push w.heap.size rvs.length) (upd h β.nx (some (.cells cs t))) (w.alloc (.cells rvs.toArray t)) := by
  refine H.push rvs.length _ _ ?_ (fun i hi => H.rom_lt i hi)
  refine .inr ⟨fun b => by simp [Beta.push], rvs, [], (0, 0), ?_, VRels.ext (β.push_ext _ _) _ _ hv, by simp [Beta.push], .inl (Nat.le_refl _)⟩
  simp only [Beta.push, if_true, List.append_nil]
  exact heap_push_new

theorem push_blk (b tot : Nat) : (β.push b tot).blk (.own β.nx) = b := by simp [Beta.push]

theorem sound_alloc (t : TypeId) : Sound P (.alloc t) := by
  intro ai β rom h h' w nt nx' env a v o ho hc hE H hx
  simp only [compOp] at hc
  split at hc
  · rename_i z n hz hn
    split at hc
    · injection hc with hc; subst hc
      obtain ⟨i, zv, h1, h2, h3⟩ := zeroAt_run hz
      simp only [AI.exec, Option.some.injEq, Prod.mk.injEq] at hx
      obtain ⟨rfl, rfl, rfl⟩ := hx
      obtain ⟨g1, g2⟩ := new_cells H z zv.cells.toList t (cvals_rel _ _ h3)
      refine ⟨.value (.pointer (some ⟨w.heap.size, 0, none⟩)), _, _, _, ?_, rfl, ?_, g1, g2, rfl⟩
      · simp [execOp, ho, Instr.alloc, run_zer h1 h2, newVar, newRow]
      · simp only [VRel]
        exact ⟨Nat.lt_succ_self _, by rw [push_blk]; simp [Beta.offOf]⟩
    · cases hc
  · cases hc
theorem sound_box (t : TypeId) (x : Operand) : Sound P (.box t x) := by
  intro ai β rom h h' w nt nx' env a v o ho hc hE H hx
  simp only [compOp, Option.map_eq_some_iff] at hc
  obtain ⟨y, hy, rfl⟩ := hc
  simp only [AI.exec] at hx
  split at hx
  · cases hx
  · rename_i u hne hu
    simp only [Option.some.injEq, Prod.mk.injEq] at hx
    obtain ⟨rfl, rfl, rfl⟩ := hx
    have hv := ev_rel hy hE hu
    obtain ⟨g1, g2⟩ := new_cells H u.cells (a.eval x).cells.toList t (hv.cells hne)
    refine ⟨.value (.pointer (some ⟨w.heap.size, 0, none⟩)), _, _, _, ?_, rfl, ?_, g1, g2, rfl⟩
    · simp [execOp, ho, Instr.box, newVar, newRow]
    · simp only [VRel]
      exact ⟨Nat.lt_succ_self _, by rw [push_blk]; simp [Beta.offOf]⟩
  · cases hx

theorem sound_load (t : TypeId) (x : Operand) : Sound P (.load t x) := by
  intro ai β rom h h' w nt nx' env a v o ho hc hE H hx
  simp only [compOp] at hc
  split at hc
  · rename_i d n y hd hn hy
    obtain ⟨i, hi, rfl⟩ := sizeAt_run hn
    split at hc
    · rename_i hagg
      injection hc with hc; subst hc
      simp only [AI.exec] at hx
      split at hx
      · rename_i b off hb
        have hv := ev_rel hy hE hb
        simp only [VRel] at hv
        split at hx
        · rename_i cs hcs
          split at hx
          · rename_i hle
            obtain ⟨e1, rfl, rfl⟩ := okOut (o := some _) hx
            injection e1 with e1; subst e1
            obtain ⟨rvs, r1, r2⟩ := readN (P := P) H hcs hle
            refine .val H ?_ (show VRel β (.agg _) (.agg rvs) from ⟨rvs, rfl, r2⟩)
            simp [execOp, ho, Instr.loadAt, hv.2, Instr.sureAddr, loadVar, run_isAgg hd, hagg, run_siz hi, r1]
          · cases hx
        · cases hx
      · cases hx
    · rename_i hagg
      injection hc with hc; subst hc
      simp only [AI.exec] at hx
      split at hx
      · rename_i b off hb
        have hv := ev_rel hy hE hb
        simp only [VRel] at hv
        split at hx
        · rename_i cs hcs
          obtain ⟨e1, rfl, rfl⟩ := okOut hx
          obtain ⟨rv, r1, r2⟩ := read1 (P := P) H hcs e1
          refine .val H ?_ r2
          simp [execOp, ho, Instr.loadAt, hv.2, Instr.sureAddr, loadVar, run_isAgg hd, hagg, -run_load, r1]
        · cases hx
      · cases hx
  · cases hc
theorem sound_store (t : TypeId) (x y : Operand) : Sound P (.store t x y) := by
  intro ai β rom h h' w nt nx' env a v o ho hc hE H hx
  simp only [compOp] at hc
  split at hc
  · rename_i n x' y' hn h1 h2
    obtain ⟨i, hi, rfl⟩ := sizeAt_run hn
    injection hc with hc; subst hc
    simp only [AI.exec] at hx
    split at hx
    · rename_i j off u hj hu
      have hv := ev_rel h1 hE hj
      have hw := ev_rel h2 hE hu
      simp only [VRel] at hv
      split at hx
      · rename_i cs t' hcs
        split at hx
        · rename_i hcond
          simp only [Option.some.injEq, Prod.mk.injEq] at hx
          obtain ⟨rfl, rfl, rfl⟩ := hx
          obtain ⟨c1, c2⟩ := hw.cells' hcond.2.2
          obtain ⟨w', g1, g2, g3⟩ := writeN (P := P) H hcs (by rw [hcond.1]; exact hcond.2.1) c1 c2
          refine ⟨.skip, undef, w', β, ?_, rfl, by simp [VRel], g2, g3, rfl⟩
          have hsz : (a.eval y).cells.size = i.size := by rw [← hcond.1, ← Array.length_toList, c1.length]
          have hv2 := hv.2
          simp only [Beta.offOf, Nat.zero_add] at hv2
          simp [execOp, ho, Instr.storeAt, hv2, Instr.sureAddr, storeVar, run_siz hi, hsz, g1]
        · cases hx
      · cases hx
    · cases hx
  · cases hc

theorem sound_nilCheck (x : Operand) : Sound P (.nilCheck x) := by
  intro ai β rom h h' w nt nx' env a v o ho hc hE H hx
  simp only [compOp, Option.map_eq_some_iff] at hc
  obtain ⟨y, hy, rfl⟩ := hc
  simp only [AI.exec] at hx
  split at hx
  · rename_i hb
    have hv' := ev_rel hy hE hb
    have hv := hv'
    simp only [VRel] at hv
    obtain ⟨e1, rfl, rfl⟩ := okOut (o := some _) hx
    injection e1 with e1; subst e1
    exact .val H (by simp [execOp, ho, hv.2]) (hv.2 ▸ hv')
  · rename_i hb
    have hv' := ev_rel hy hE hb
    have hv := hv'
    simp only [VRel] at hv
    obtain ⟨e1, rfl, rfl⟩ := okOut (o := some _) hx
    injection e1 with e1; subst e1
    obtain ⟨rf, rc, hv1, _⟩ := hv
    exact .val H (by simp [execOp, ho, hv1]) (hv1 ▸ hv')
  · rename_i hb
    have hv' := ev_rel hy hE hb
    have hv := hv'
    simp only [VRel] at hv
    obtain ⟨e1, rfl, rfl⟩ := okOut (o := some _) hx
    injection e1 with e1; subst e1
    exact .val H (by simp [execOp, ho, hv.2]) (hv.2 ▸ hv')
  · rename_i hb
    have hv' := ev_rel hy hE hb
    have hv := hv'
    simp only [VRel] at hv
    obtain ⟨e1, rfl, rfl⟩ := okOut (o := some _) hx
    injection e1 with e1; subst e1
    obtain ⟨r, hv1, _⟩ := hv
    exact .val H (by simp [execOp, ho, hv1]) (hv1 ▸ hv')
  · cases hx

theorem sound_fieldAddr (t : TypeId) (x : Operand) (f : Nat) : Sound P (.fieldAddr t x f) := by
  intro ai β rom h h' w nt nx' env a v o ho hc hE H hx
  simp only [compOp] at hc
  split at hc
  · rename_i off n ag y hf hy
    split at hc
    · cases hc
    · rename_i hn0
      injection hc with hc; subst hc
      simp only [AI.exec] at hx
      split at hx
      · rename_i b p hb
        have hv := ev_rel hy hE hb
        simp only [VRel] at hv
        obtain ⟨e1, rfl, rfl⟩ := okOut (o := some _) hx
        injection e1 with e1; subst e1
        unfold fieldOf at hf
        split at hf
        · rename_i fs hfs
          split at hf
          · rename_i g hg
            split at hf
            · rename_i m d hm hd
              simp only [Option.some.injEq, Prod.mk.injEq] at hf
              obtain ⟨rfl, rfl, rfl⟩ := hf
              obtain ⟨i, hi, rfl⟩ := sizeAt_run hm
              refine .val H (rv := .pointer (some ⟨β.blk b, β.offOf b + (p + g.offset), none⟩)) ?_ ?_
              · simp [execOp, ho, Instr.fieldAt, run_und hfs, hg, hv.2, Instr.sureAddr, fieldPlace, run_siz hi, hn0, addr_add, Nat.add_assoc]
              · simp only [VRel]; exact ⟨hv.1, trivial⟩
            · cases hf
          · cases hf
        · cases hf
      · cases hx
  · cases hc

theorem part_run1 {t : TypeId} {d : TypeDesc} {cs : Array Value} {off : Nat} {r : Value} (hd : P.underlying t = some d) (ha : isAggD d = false) (hr : cs[off]? = some r) : (part t cs off).run P w = .ok r w := by
  simp [part, run_isAgg hd, ha, hr]
theorem part_runN {t : TypeId} {d : TypeDesc} {cs : Array Value} {off : Nat} {i : TypeInfo} (hd : P.underlying t = some d) (ha : isAggD d = true) (hi : P.info? t = some i) : (part t cs off).run P w = .ok (.agg (cs.extract off (off + i.size))) w := by
  simp [part, run_isAgg hd, ha, run_siz hi]
theorem extract_rel {cs : List AVal} {rc : Array Value} (hv : VRels β cs rc.toList) (off n : Nat) : VRel β (.agg ((cs.drop off).take n)) (.agg (rc.extract off (off + n))) := by
  refine ⟨_, rfl, ?_⟩
  have := VRels.take (n := n) (VRels.drop (n := off) hv)
  simpa [Array.toList_extract, List.extract_eq_take_drop] using this

theorem sound_field (t : TypeId) (x : Operand) (f : Nat) : Sound P (.field t x f) := by
  intro ai β rom h h' w nt nx' env a v o ho hc hE H hx
  simp only [compOp] at hc
  split at hc
  · rename_i off n ag y hf hy
    unfold fieldOf at hf
    split at hf
    · rename_i fs hfs
      split at hf
      · rename_i g hg
        split at hf
        · rename_i m d hm hd
          simp only [Option.some.injEq, Prod.mk.injEq] at hf
          obtain ⟨rfl, rfl, rfl⟩ := hf
          obtain ⟨i, hi, rfl⟩ := sizeAt_run hm
          split at hc
          · rename_i hag
            injection hc with hc; subst hc
            simp only [AI.exec] at hx
            split at hx
            · rename_i cs hb
              have hv := ev_rel hy hE hb
              simp only [VRel] at hv
              obtain ⟨rc, hv1, hv2⟩ := hv
              split at hx
              · obtain ⟨e1, rfl, rfl⟩ := okOut (o := some _) hx
                injection e1 with e1; subst e1
                refine .val H ?_ (extract_rel hv2 g.offset i.size)
                simp [execOp, ho, Instr.field, run_und hfs, hg, hv1, asAgg, part_runN hd hag hi]
              · cases hx
            · cases hx
          · rename_i hag
            injection hc with hc; subst hc
            simp only [AI.exec] at hx
            split at hx
            · rename_i cs hb
              have hv := ev_rel hy hE hb
              simp only [VRel] at hv
              obtain ⟨rc, hv1, hv2⟩ := hv
              obtain ⟨e1, rfl, rfl⟩ := okOut hx
              obtain ⟨r, hr, hrel⟩ := hv2.get e1
              refine .val H ?_ hrel
              simp [execOp, ho, Instr.field, run_und hfs, hg, hv1, asAgg, part_run1 hd (by simpa using hag) (by rw [← Array.getElem?_toList]; exact hr)]
            · cases hx
        · cases hf
      · cases hf
    · cases hf
  · cases hc

end Go.AL

/- Helper text: the abstract operations are the model's, operation for operation (3). -/
namespace Go.AL

variable {P : Program} {β : Beta} {rom : Rom} {h h' : Heap} {w : World} {nt nx' : Nat} {env : Env} {a : Act} {v : AVal} {ai : AI}

theorem sound_indexAddr (t : TypeId) (x i : Operand) : Sound P (.indexAddr t x i) := by
  intro ai β rom h h' w nt nx' env a v o ho hc hE H hx
  simp only [compOp] at hc
  split at hc
  · rename_i len e y j ht h1 h2
    simp only [Option.map_eq_some_iff] at hc
    obtain ⟨s, hs, rfl⟩ := hc
    obtain ⟨ti, hi, rfl⟩ := sizeAt_run hs
    simp only [AI.exec] at hx
    split at hx
    · rename_i b p k n hb hn
      have hv := ev_rel h1 hE hb
      have hw := ev_rel h2 hE hn
      simp only [VRel] at hv hw
      split at hx
      · rename_i hcond
        obtain ⟨e1, rfl, rfl⟩ := okOut (o := some _) hx
        injection e1 with e1; subst e1
        refine .val H (rv := .pointer (some ⟨β.blk b, β.offOf b + (p + n.toNat * ti.size), none⟩)) ?_ ?_
        · simp [execOp, ho, Instr.indexAt, hw, asIntOf, run_und ht, hv.2, Instr.sureAddr, hcond, run_siz hi, addr_add, Nat.add_assoc]
        · simp only [VRel]; exact ⟨hv.1, trivial⟩
      · cases hx
    · cases hx
  · rename_i e y j ht h1 h2
    simp only [Option.map_eq_some_iff] at hc
    obtain ⟨s, hs, rfl⟩ := hc
    obtain ⟨ti, hi, rfl⟩ := sizeAt_run hs
    simp only [AI.exec] at hx
    split at hx
    · rename_i b p z len cap k n hb hn
      have hv := ev_rel h1 hE hb
      have hw := ev_rel h2 hE hn
      simp only [VRel] at hv hw
      obtain ⟨hok, ⟨_, h0, _⟩ | ⟨ro, rc, hv1, hv2, hv3, hv4⟩⟩ := hv
      · split at hx
        · omega
        · cases hx
      split at hx
      · rename_i hcond
        obtain ⟨e1, rfl, rfl⟩ := okOut (o := some _) hx
        injection e1 with e1; subst e1
        obtain ⟨rfl, _⟩ := hv4 (by omega)
        refine .val H (rv := .pointer (some ⟨β.blk b, β.offOf b + (p + n.toNat * ti.size), none⟩)) ?_ ?_
        · simp [execOp, ho, Instr.indexAt, hw, asIntOf, run_und ht, hv1, hcond.2, run_siz hi, addr_add, Nat.add_assoc]
        · simp only [VRel]; exact ⟨hok, trivial⟩
      · cases hx
    · cases hx
  · cases hc

theorem sound_index (t : TypeId) (x i : Operand) : Sound P (.index t x i) := by
  intro ai β rom h h' w nt nx' env a v o ho hc hE H hx
  simp only [compOp] at hc
  split at hc
  · rename_i len e y j ht h1 h2
    split at hc
    · rename_i s d hs hd
      obtain ⟨ti, hi, rfl⟩ := sizeAt_run hs
      split at hc
      · rename_i hag
        injection hc with hc; subst hc
        simp only [AI.exec] at hx
        split at hx
        · rename_i cs k n hb hn
          have hv := ev_rel h1 hE hb
          have hw := ev_rel h2 hE hn
          simp only [VRel] at hv hw
          obtain ⟨rc, hv1, hv2⟩ := hv
          split at hx
          · rename_i hcond
            obtain ⟨e1, rfl, rfl⟩ := okOut (o := some _) hx
            injection e1 with e1; subst e1
            refine .val H ?_ (extract_rel hv2 (n.toNat * ti.size) ti.size)
            simp [execOp, ho, Instr.index, hw, asIntOf, run_und ht, hv1, hcond.1, hcond.2.1, run_siz hi, part_runN hd hag hi]
          · cases hx
        · cases hx
      · rename_i hag
        injection hc with hc; subst hc
        simp only [AI.exec] at hx
        split at hx
        · rename_i cs k n hb hn
          have hv := ev_rel h1 hE hb
          have hw := ev_rel h2 hE hn
          simp only [VRel] at hv hw
          obtain ⟨rc, hv1, hv2⟩ := hv
          split at hx
          · rename_i hcond
            obtain ⟨e1, rfl, rfl⟩ := okOut hx
            obtain ⟨r, hr, hrel⟩ := hv2.get e1
            refine .val H ?_ hrel
            simp [execOp, ho, Instr.index, hw, asIntOf, run_und ht, hv1, hcond, run_siz hi, part_run1 hd (by simpa using hag) (by rw [← Array.getElem?_toList]; exact hr)]
          · cases hx
        · cases hx
    · cases hc
  · rename_i y j ht h1 h2
    injection hc with hc; subst hc
    simp only [AI.exec] at hx
    split at hx
    · rename_i s k n hb hn
      have hv := ev_rel h1 hE hb
      have hw := ev_rel h2 hE hn
      simp only [VRel] at hv hw
      split at hx
      · rename_i hcond
        obtain ⟨e1, rfl, rfl⟩ := okOut (o := some _) hx
        injection e1 with e1; subst e1
        have hlt : n.toNat < s.size := by omega
        refine .val H (rv := .int .u8 (s.get! n.toNat).toNat) ?_ (by simp [VRel])
        have : s[n.toNat]? = some (s.get! n.toNat) := by
          rw [getElem?_pos s n.toNat hlt]
          congr 1
          show s.get n.toNat hlt = s.get! n.toNat
          cases s with
          | mk bs =>
            simp only [ByteArray.get, ByteArray.get!]
            exact (getElem!_pos bs n.toNat hlt).symm
        have h3 : s[n.toNat] = s.get! n.toNat := by rw [getElem?_pos s n.toNat hlt] at this; injection this
        simp [execOp, ho, Instr.index, hw, asIntOf, run_und ht, hv, hcond, h3]
      · cases hx
    · cases hx
  · cases hc

theorem sound_extract (x : Operand) (i : Nat) : Sound P (.extract x i) := by
  intro ai β rom h h' w nt nx' env a v o ho hc hE H hx
  simp only [compOp, Option.map_eq_some_iff] at hc
  obtain ⟨y, hy, rfl⟩ := hc
  simp only [AI.exec] at hx
  split at hx
  · rename_i vs hb
    have hv := ev_rel hy hE hb
    simp only [VRel] at hv
    obtain ⟨rc, hv1, hv2⟩ := hv
    obtain ⟨e1, rfl, rfl⟩ := okOut hx
    obtain ⟨r, hr, hrel⟩ := hv2.get e1
    refine .val H ?_ hrel
    have hr' : rc[i]? = some r := by rw [← Array.getElem?_toList]; exact hr
    simp [execOp, ho, Instr.extract, hv1, hr']
  · cases hx

theorem sound_makeFunc (f : FuncId) (first caps : Array Operand) : Sound P (.makeFunc (.func f) first caps) := by
  intro ai β rom h h' w nt nx' env a v o ho hc hE H hx
  simp only [compOp] at hc
  split at hc
  · rename_i fs cs h1 h2
    injection hc with hc; subst hc
    simp only [AI.exec] at hx
    split at hx
    · rename_i p q hp hq
      obtain ⟨e1, rfl, rfl⟩ := okOut (o := some _) hx
      injection e1 with e1; subst e1
      refine .val H (rv := .func (.func f) (first.map a.eval) (caps.map a.eval)) ?_ ?_
      · simp [execOp, ho, Instr.makeFunc]
      · simp only [VRel]
        exact ⟨_, _, rfl, by simpa using evs_rel hE h1 hp, by simpa using evs_rel hE h2 hq⟩
    · cases hx
  · cases hc

theorem sound_makeMap (t : TypeId) : Sound P (.makeMap t none) := by
  intro ai β rom h h' w nt nx' env a v o ho hc hE H hx
  simp only [compOp, Option.some.injEq] at hc
  subst hc
  simp only [AI.exec, Option.some.injEq, Prod.mk.injEq] at hx
  obtain ⟨rfl, rfl, rfl⟩ := hx
  obtain ⟨g1, g2⟩ := H.push 0 (.map [] 0) (.map #[] 0) ⟨fun b => by simp [Beta.push], #[], by simp only [push_blk]; exact heap_push_new, rfl⟩ (fun i hi => H.rom_lt i hi)
  refine ⟨.value (.map (some w.heap.size)), _, _, _, ?_, rfl, ?_, g1, g2, rfl⟩
  · simp [execOp, ho, Instr.makeMap]
  · simp only [VRel]
    exact ⟨Nat.lt_succ_self _, by rw [push_blk]⟩

theorem sound_lenS {t : TypeId} {e : TypeId} (ht : P.underlying t = some (.slice e)) {x : Operand} {y : AOpd} (hy : compOpd x = some y) (o : Oper) (ho : o.op = .call { callee := .builtin .len, args := #[x], argTypes := #[t] })
    (hE : ERel β nt env a.tmps) (H : HRel P β rom h w) (hx : (AI.lenS y).exec rom env h β.nx = some (v, h', nx')) : OpOk P β rom h w ((execOp a.eval o).run P w) v h' nx' := by
  simp only [AI.exec] at hx
  split at hx
  · rename_i b p z len cap hb
    have hv := ev_rel hy hE hb
    simp only [VRel] at hv
    obtain ⟨e1, rfl, rfl⟩ := okOut (o := some _) hx
    injection e1 with e1; subst e1
    obtain ⟨_, ⟨hv1, rfl, _⟩ | ⟨ro, rc, hv1, _⟩⟩ := hv
    · exact .val H (by simp [execOp, ho, resolve, invoke, builtin, Builtin.len_, run_und ht, hv1, goInt]; rfl) (by simp [VRel])
    exact .val H (by simp [execOp, ho, resolve, invoke, builtin, Builtin.len_, run_und ht, hv1, goInt]; rfl) (by simp [VRel])
  · rename_i hb
    have hv := ev_rel hy hE hb
    simp only [VRel] at hv
    obtain ⟨e1, rfl, rfl⟩ := okOut (o := some _) hx
    injection e1 with e1; subst e1
    exact .val H (by simp [execOp, ho, resolve, invoke, builtin, Builtin.len_, run_und ht, hv, goInt]; rfl) (by simp [VRel])
  · cases hx
theorem sound_lenStr {t : TypeId} (ht : P.underlying t = some .string) {x : Operand} {y : AOpd} (hy : compOpd x = some y) (o : Oper) (ho : o.op = .call { callee := .builtin .len, args := #[x], argTypes := #[t] })
    (hE : ERel β nt env a.tmps) (H : HRel P β rom h w) (hx : (AI.lenStr y).exec rom env h β.nx = some (v, h', nx')) : OpOk P β rom h w ((execOp a.eval o).run P w) v h' nx' := by
  simp only [AI.exec] at hx
  split at hx
  · rename_i b hb
    have hv := ev_rel hy hE hb
    simp only [VRel] at hv
    obtain ⟨e1, rfl, rfl⟩ := okOut (o := some _) hx
    injection e1 with e1; subst e1
    exact .val H (by simp [execOp, ho, resolve, invoke, builtin, Builtin.len_, run_und ht, hv, goInt]; rfl) (by simp [VRel])
  · cases hx
theorem EntriesRel.length : ∀ {as : List (AVal × AVal × Nat)} {l : List MapEntry}, EntriesRel β as l → l.length = as.length
  | [], l, h => by simp only [EntriesRel] at h; simp [h]
  | _ :: _, _, ⟨_, _, h1, _, h3⟩ => by simp [h1, h3.length]
theorem getObj_run {b : Nat} {ob : Obj} (hb : w.heap[b]? = some ob) (hn : ∀ c e f, ob ≠ .cells c e f) : (getObj b).run P w = .ok ob w := by
  cases ob <;> first | exact absurd rfl (hn _ _ _) | simp [getObj, Sem.run, hb]
theorem sound_lenM {t k e : TypeId} (ht : P.underlying t = some (.map k e)) {x : Operand} {y : AOpd} (hy : compOpd x = some y) (o : Oper) (ho : o.op = .call { callee := .builtin .len, args := #[x], argTypes := #[t] })
    (hE : ERel β nt env a.tmps) (H : HRel P β rom h w) (hx : (AI.lenM y).exec rom env h β.nx = some (v, h', nx')) : OpOk P β rom h w ((execOp a.eval o).run P w) v h' nx' := by
  simp only [AI.exec] at hx
  split at hx
  · rename_i hb
    have hv := ev_rel hy hE hb
    simp only [VRel] at hv
    obtain ⟨e1, rfl, rfl⟩ := okOut (o := some _) hx
    injection e1 with e1; subst e1
    exact .val H (by simp [execOp, ho, resolve, invoke, builtin, Builtin.len_, run_und ht, hv, goInt]; rfl) (by simp [VRel])
  · rename_i i hb
    have hv := ev_rel hy hE hb
    simp only [VRel] at hv
    split at hx
    · rename_i es clock hi
      obtain ⟨e1, rfl, rfl⟩ := okOut (o := some _) hx
      injection e1 with e1; subst e1
      obtain ⟨_, _, res, g1, g2⟩ := H.obj i _ hi
      refine .val H (rv := .int .i64 es.length) ?_ (by simp [VRel])
      have hl : res.size = es.length := by have := g2.length; simpa using this
      simp [execOp, ho, resolve, invoke, builtin, Builtin.len_, run_und ht, hv.2, goInt, getObj_run g1 (by simp), hl]
    · cases hx
  · cases hx
theorem sound_min {x x' : Operand} {y y' : AOpd} (hy : compOpd x = some y) (hy' : compOpd x' = some y') (ts : Array TypeId) (o : Oper) (ho : o.op = .call { callee := .builtin .min, args := #[x, x'], argTypes := ts })
    (hE : ERel β nt env a.tmps) (H : HRel P β rom h w) (hx : (AI.min y y').exec rom env h β.nx = some (v, h', nx')) : OpOk P β rom h w ((execOp a.eval o).run P w) v h' nx' := by
  simp only [AI.exec] at hx
  split at hx
  · rename_i k m k' n hm hn
    have hv := ev_rel hy hE hm
    have hw := ev_rel hy' hE hn
    simp only [VRel] at hv hw
    split at hx
    · obtain ⟨e1, rfl, rfl⟩ := okOut (o := some _) hx
      injection e1 with e1; subst e1
      exact .val H (by simp [execOp, ho, resolve, invoke, builtin, Builtin.min_, Builtin.min2, hv, hw]; rfl) (by simp [VRel])
    · cases hx
  · cases hx
theorem sound_max {x x' : Operand} {y y' : AOpd} (hy : compOpd x = some y) (hy' : compOpd x' = some y') (ts : Array TypeId) (o : Oper) (ho : o.op = .call { callee := .builtin .max, args := #[x, x'], argTypes := ts })
    (hE : ERel β nt env a.tmps) (H : HRel P β rom h w) (hx : (AI.max y y').exec rom env h β.nx = some (v, h', nx')) : OpOk P β rom h w ((execOp a.eval o).run P w) v h' nx' := by
  simp only [AI.exec] at hx
  split at hx
  · rename_i k m k' n hm hn
    have hv := ev_rel hy hE hm
    have hw := ev_rel hy' hE hn
    simp only [VRel] at hv hw
    split at hx
    · obtain ⟨e1, rfl, rfl⟩ := okOut (o := some _) hx
      injection e1 with e1; subst e1
      exact .val H (by simp [execOp, ho, resolve, invoke, builtin, Builtin.max_, Builtin.max2, hv, hw]; rfl) (by simp [VRel])
    · cases hx
  · cases hx

end Go.AL

/- Helper text: the abstract operations are the model's, operation for operation (4). -/
namespace Go.AL

variable {P : Program} {β : Beta} {rom : Rom} {h h' : Heap} {w : World} {nt nx' : Nat} {env : Env} {a : Act} {v : AVal} {ai : AI}

theorem foldl_setMany (off : Nat) : ∀ (l : List Value) (k : Nat) (cs : Array Value), ((l.zipIdx k).foldl (fun (cs : Array Value) (p : Value × Nat) => cs.setIfInBounds (off + p.2) p.1) cs).toList = setMany cs.toList (off + k) l
  | [], _, _ => rfl
  | v :: vs, k, cs => by
    simp only [List.zipIdx_cons, List.foldl_cons]
    rw [foldl_setMany off vs (k + 1)]
    simp [setMany, Nat.add_assoc]

theorem fill_rel {pl : Nat → Option (Nat × Nat)} (hE : ERel β nt env a.tmps) : ∀ (ps : List (Nat × Operand)) (ys : List (Nat × Nat × AOpd)) (vs : List (Nat × Nat × AVal)) (cs : List AVal) (rcs : Array Value) (out : List AVal),
    compParts P pl ps = some ys → evParts env ys = some vs → VRels β cs rcs.toList → fillA cs vs = some out →
    ∃ rout, Instr.fill pl rcs (ps.map fun q => (q.1, a.eval q.2)) = some rout ∧ VRels β out rout.toList
  | [], ys, vs, cs, rcs, out, hc, he, hv, hf => by
    simp [compParts] at hc; subst hc
    simp [evParts] at he; subst he
    simp [fillA] at hf; subst hf
    exact ⟨rcs, by simp [Instr.fill], hv⟩
  | (i, x) :: ps, ys, vs, cs, rcs, out, hc, he, hv, hf => by
    simp only [compParts] at hc
    split at hc
    · rename_i o n y ys' h1 h2 h3
      injection hc with hc; subst hc
      simp only [evParts] at he
      split at he
      · rename_i u us hu hus
        injection he with he; subst he
        simp only [fillA] at hf
        split at hf
        · rename_i hcond
          have hne : u ≠ .any := by rintro rfl; simp [AVal.isAny] at hcond
          have hr := (ev_rel h2 hE hu).cells hne
          have hlen := hr.length
          have hcl := hv.length
          have hfold : ((a.eval x).cells.zipIdx.foldl (fun (cs : Array Value) (p : Value × Nat) => cs.setIfInBounds (o + p.2) p.1) rcs).toList = setMany rcs.toList o (a.eval x).cells.toList := by
            rw [← Array.foldl_toList, Array.toList_zipIdx]
            simpa using foldl_setMany o (a.eval x).cells.toList 0 rcs
          obtain ⟨rout, g1, g2⟩ := fill_rel hE ps ys' us (setMany cs o u.cells) ((a.eval x).cells.zipIdx.foldl (fun (cs : Array Value) (p : Value × Nat) => cs.setIfInBounds (o + p.2) p.1) rcs) out h3 hus
            (by rw [hfold]; exact VRels.many hv hr) hf
          refine ⟨rout, ?_, g2⟩
          simp only [List.map_cons, Instr.fill, h1]
          have c1 : ¬ ((a.eval x).cells.size ≠ n || o + (a.eval x).cells.size > rcs.size) = true := by
            have e1 : (a.eval x).cells.size = n := by rw [← hcond.1]; simpa using hlen.symm
            have e2 : rcs.size = cs.length := by simpa using hcl.symm
            simp [e1, e2]; omega
          rw [if_neg c1]
          exact g1
        · cases hf
      · cases he
    · cases hc

theorem sound_build (t : TypeId) (ps : Array (Nat × Operand)) : Sound P (.build t ps) := by
  intro ai β rom h h' w nt nx' env a v o ho hc hE H hx
  simp only [compOp] at hc
  have fin : ∀ (pl : Nat → Option (Nat × Nat)) (z : List AVal) (ys : List (Nat × Nat × AOpd)), compParts P pl ps.toList = some ys → zeroAt P t = some z → ai = .build z ys →
      (∀ (zv : Value) (c : Array Value), (zeroValue t).run P w = .ok zv w → Instr.fill pl zv.cells (ps.toList.map fun q => (q.1, a.eval q.2)) = some c → (Instr.build t (ps.map fun (i, x) => (i, a.eval x))).run P w = .ok (.agg c) w) →
      OpOk P β rom h w ((execOp a.eval o).run P w) v h' nx' := by
    rintro pl z ys hys hz rfl hb
    obtain ⟨i, zv, h1, h2, h3⟩ := zeroAt_run hz
    simp only [AI.exec] at hx
    split at hx
    · rename_i us hus
      obtain ⟨e1, rfl, rfl⟩ := okOut hx
      simp only [Option.map_eq_some_iff] at e1
      obtain ⟨out, hout, rfl⟩ := e1
      obtain ⟨rout, g1, g2⟩ := fill_rel hE ps.toList ys us z zv.cells out hys hus (cvals_rel _ _ h3) hout
      refine .val H (rv := .agg rout) ?_ ⟨_, rfl, g2⟩
      have hb := hb zv rout (run_zer h1 h2) g1
      simp [execOp, ho, hb]
    · cases hx
  split at hc
  · rename_i fs z hfs hz
    simp only [Option.bind_eq_some_iff, Option.map_eq_some_iff] at hc
    obtain ⟨pl, hpl, ys, hys, rfl⟩ := hc
    refine fin (pl[·]?) z ys hys hz rfl fun zv c hzv hfill => ?_
    have hp := run_places (P := P) w _ _ hpl
    simp only [Instr.build, Sem.run_bind, hzv, Result.andThen_ok, run_und hfs]
    simp only [bind_pure_comp, Array.mapM_eq_mapM_toList]
    rw [Sem.run_map, hp]
    simp only [Result.andThen_ok]
    have e1 : (ps.map fun (i, x) => (i, a.eval x)).toList = ps.toList.map fun q => (q.1, a.eval q.2) := by simp
    rw [e1]
    have e2 : (fun x : Nat => (pl.toArray)[x]?) = (fun x : Nat => pl[x]?) := by funext x; simp
    rw [e2]
    rw [hfill]; rfl
  · rename_i n e z hfs hz
    simp only [Option.bind_eq_some_iff, Option.map_eq_some_iff] at hc
    obtain ⟨s, hs, ys, hys, rfl⟩ := hc
    obtain ⟨ti, hi, rfl⟩ := sizeAt_run hs
    refine fin _ z ys hys hz rfl fun zv c hzv hfill => ?_
    simp only [Instr.build, Sem.run_bind, hzv, Result.andThen_ok, run_und hfs, run_siz hi]
    have e1 : (ps.map fun (i, x) => (i, a.eval x)).toList = ps.toList.map fun q => (q.1, a.eval q.2) := by simp
    rw [e1]
    rw [hfill]; rfl
  · cases hc

/-- Zero cells, one row behind the other. -/
theorem range_flatten (z : Array Value) : ∀ (n : Nat), ((Array.range (n * z.size)).map (z[· % z.size]!)).toList = List.flatten (List.replicate n z.toList) := by
  intro n
  induction n with
  | zero => simp
  | succ n ih =>
    rw [List.replicate_succ', List.flatten_append, ← ih]
    simp only [Array.toList_map, Array.toList_range, List.flatten_cons, List.flatten_nil, List.append_nil]
    rw [Nat.add_mul, Nat.one_mul, List.range_add, List.map_append]
    congr 1
    rw [List.map_map]
    apply List.ext_getElem
    · simp
    · intro i h1 h2
      simp at h1
      simp [Nat.mod_eq_of_lt h1, h1, Nat.add_comm, Nat.add_mul_mod_self_right]

theorem VRels.flatten {cs : List AVal} {rs : List Value} (hv : VRels β cs rs) : ∀ (n : Nat), VRels β (List.flatten (List.replicate n cs)) (List.flatten (List.replicate n rs))
  | 0 => VRels.nil
  | n + 1 => by
    simp only [List.replicate_succ, List.flatten_cons]
    exact hv.append (VRels.flatten hv n)
theorem length_flatten_replicate {α : Type} (l : List α) : ∀ n, (List.flatten (List.replicate n l)).length = n * l.length
  | 0 => by simp
  | n + 1 => by simp [List.replicate_succ, length_flatten_replicate l n, Nat.add_mul]; omega

theorem new_slice_rel {len cap esz tot : Nat} {b : Nat} (hl : len ≤ cap) (ht : cap * esz ≤ tot) : VRel (β.push b tot) (.slice (.own β.nx) 0 esz len cap) (.slice (some ⟨b, 0, none⟩) len cap) := by
  simp only [VRel]
  refine ⟨Nat.lt_succ_self _, .inr ⟨0, cap, by rw [push_blk], hl, Nat.le_refl _, fun _ => ⟨by simp [Beta.offOf], ?_⟩⟩⟩
  simp [Beta.fits, Beta.push, ht]

theorem sound_buildSlice (t : TypeId) (len : Nat) (ps : Array (Nat × Operand)) : Sound P (.buildSlice t len ps) := by
  intro ai β rom h h' w nt nx' env a v o ho hc hE H hx
  simp only [compOp] at hc
  split at hc
  · rename_i e hts
    split at hc
    · rename_i s z hs hz
      split at hc
      · rename_i hcond
        simp only [Option.map_eq_some_iff] at hc
        obtain ⟨ys, hys, rfl⟩ := hc
        obtain ⟨ti, hi, rfl⟩ := sizeAt_run hs
        obtain ⟨i', zv, h1, h2, h3⟩ := zeroAt_run hz
        rw [hi] at h1; injection h1 with h1; subst h1
        simp only [AI.exec] at hx
        split at hx
        · rename_i us hus
          split at hx
          · rename_i cs hcs
            simp only [Option.some.injEq, Prod.mk.injEq] at hx
            obtain ⟨rfl, rfl, rfl⟩ := hx
            have hzl : zv.cells.size = ti.size := by
              have := (cvals_rel (β := β) _ _ h3).length
              simp at this; omega
            have hbase : VRels β (List.flatten (List.replicate len z)) ((Array.range (len * ti.size)).map (zv.cells[· % zv.cells.size]!)).toList := by
              rw [← hzl, range_flatten]
              exact VRels.flatten (cvals_rel _ _ h3) len
            obtain ⟨rout, g1, g2⟩ := fill_rel hE ps.toList ys us _ _ cs hys hus hbase hcs
            have hrl : rout.size = len * ti.size := by
              have e1 := g2.length
              have e2 : ∀ (us : List (Nat × Nat × AVal)) (c d : List AVal), fillA c us = some d → d.length = c.length := by
                intro us
                induction us with
                | nil => intro c d hf; simp [fillA] at hf; rw [hf]
                | cons u us ih =>
                  obtain ⟨o1, n1, v1⟩ := u
                  intro c d hf
                  simp only [fillA] at hf
                  split at hf
                  · have := ih _ _ hf; simpa using this
                  · cases hf
              have e3 := e2 _ _ _ hcs
              rw [length_flatten_replicate] at e3
              simp at e1
              rw [← e1, e3, hcond.1]
            obtain ⟨k1, k2⟩ := new_cells H cs rout.toList e g2
            refine ⟨.value (.slice (some ⟨w.heap.size, 0, none⟩) len len), _, _, _, ?_, rfl, new_slice_rel (Nat.le_refl _) (by simp [hrl]), k1, k2, rfl⟩
            have e1 : (ps.map fun (i, x) => (i, a.eval x)).toList = ps.toList.map fun q => (q.1, a.eval q.2) := by simp
            have hlim : ¬ (len * ti.size > 2 ^ 24) := by have := hcond.2.2; omega
            simp only [execOp, ho, Instr.buildSlice, Sem.run_bind, run_und hts, Result.andThen_ok, run_siz hi, if_neg hlim, Sem.run_pure]
            by_cases h0 : len * ti.size = 0
            · rw [if_pos h0]
              simp only [pure_bind, e1]
              have e5 : Instr.fill (fun i => some (i * ti.size, ti.size)) ((Array.range (len * ti.size)).map ((#[] : Array Value)[· % (#[] : Array Value).size]!)) (ps.toList.map fun q => (q.1, a.eval q.2)) = some rout := by
                rw [← g1]; congr 1; rw [h0]; simp
              rw [e5]
              simp [newRow]
            · rw [if_neg h0]
              simp only [Sem.run_bind, run_zer hi h2, Sem.run_pure, Result.andThen_ok, e1, g1]
              simp [newRow]
          · cases hx
        · cases hx
      · cases hc
    · cases hc
  · cases hc

end Go.AL

/- Helper text: the abstract operations are the model's, operation for operation (5). -/
namespace Go.AL

variable {P : Program} {β : Beta} {rom : Rom} {h h' : Heap} {w : World} {nt nx' : Nat} {env : Env} {a : Act} {v : AVal} {ai : AI}

theorem wrap64_id {n : Int} (h0 : 0 ≤ n) (h1 : n ≤ 2 ^ 44) : IntKind.i64.wrap n = n := by
  have e1 : n % (18446744073709551616 : Int) = n := Int.emod_eq_of_lt h0 (by omega)
  have e2 : ¬ (n ≥ 9223372036854775808) := by omega
  simp [IntKind.wrap, IntKind.bits, IntKind.signed, e1, e2]

theorem sound_makeSlice (t : TypeId) (x y : Operand) : Sound P (.makeSlice t x y) := by
  intro ai β rom h h' w nt nx' env a v o ho hc hE H hx
  simp only [compOp] at hc
  split at hc
  · rename_i e x' y' hts h1 h2
    split at hc
    · rename_i s k z hs hk hz
      split at hc
      · rename_i hcond
        injection hc with hc; subst hc
        obtain ⟨ti, hi, rfl⟩ := sizeAt_run hs
        obtain ⟨ti', hi', rfl⟩ := bytesAt_run hk
        rw [hi] at hi'; injection hi' with hi'; subst hi'
        obtain ⟨i', zv, g1, g2, g3⟩ := zeroAt_run hz
        rw [hi] at g1; injection g1 with g1; subst g1
        simp only [AI.exec] at hx
        split at hx
        · rename_i l c hl hcp
          have hv := ev_rel h1 hE hl
          have hw := ev_rel h2 hE hcp
          simp only [VRel] at hv hw
          split at hx
          · rename_i hb
            obtain ⟨b1, b2, b3, b4⟩ := hb
            simp only [Option.some.injEq, Prod.mk.injEq] at hx
            obtain ⟨rfl, rfl, rfl⟩ := hx
            have hzl : zv.cells.size = ti.size := by
              have := (cvals_rel (β := β) _ _ g3).length
              simp at this; omega
            have wl := wrap64_id b1 (by omega)
            have wc := wrap64_id (n := c) (by omega) b4
            obtain ⟨k1, k2⟩ := new_cells H (List.flatten (List.replicate c.toNat z)) (List.flatten (List.replicate c.toNat zv.cells.toList)) e (VRels.flatten (cvals_rel _ _ g3) _)
            refine ⟨.value (.slice (some ⟨w.heap.size, 0, none⟩) l.toNat c.toNat), _, _, _, ?_, rfl, new_slice_rel (by omega) (by rw [length_flatten_replicate]; simp [hzl]), k1, k2, rfl⟩
            have t1 : ¬ ((decide (c < 0) || decide ((ti.bytes : Int) * c > 2 ^ 48) || decide (l < 0) || decide (l > c)) = true) := by
              have q1 : decide (c < 0) = false := decide_eq_false (by omega)
              have q2 : decide ((ti.bytes : Int) * c > 2 ^ 48) = false := decide_eq_false (by omega)
              have q3 : decide (l < 0) = false := decide_eq_false (by omega)
              have q4 : decide (l > c) = false := decide_eq_false (by omega)
              rw [q1, q2, q3, q4]; exact Bool.false_ne_true
            simp only [execOp, ho, Instr.makeSlice, hv, hw, Sem.run_bind, run_und hts, Result.andThen_ok, asInt, asIntOf, Sem.run_pure, run_inf hi, wl, wc]
            rw [if_neg t1]
            simp only [Sem.run_bind, run_askRoom, run_siz hi, Result.andThen_ok]
            have e3 : Array.map (fun x => zv.cells[x % zv.cells.size]!) (Array.range (c.toNat * ti.size)) = (List.flatten (List.replicate c.toNat zv.cells.toList)).toArray := by
              apply Array.ext'
              have := range_flatten zv.cells c.toNat
              rw [hzl] at this ⊢; simpa using this
            by_cases h0 : c.toNat * ti.size = 0
            · rw [if_pos h0]
              have hc0 : c.toNat = 0 := by
                rcases Nat.mul_eq_zero.1 h0 with h0 | h0
                · exact h0
                · omega
              have e4 : ∀ f : Nat → Value, Array.map f (Array.range 0) = #[] := fun f => by simp [Array.range]
              rw [h0, hc0]
              simp only [pure_bind, e4]
              rfl
            · rw [if_neg h0]
              simp only [Sem.run_bind, run_zer hi g2, Result.andThen_ok, Sem.run_pure, e3]
              rfl
          · cases hx
        · cases hx
      · cases hc
    · cases hc
  · cases hc

theorem sbound_run {x : Operand} {y : AOpd} {k : IntKind} {l : Int} (hc : compOpd x = some y) (hE : ERel β nt env a.tmps) (hl : y.ev env = some (.int k l)) (h0 : 0 ≤ l) (n : Nat) (h1 : l ≤ n) (code : BoundsCode) :
    (Instr.sliceBound (a.eval x) n code).run P w = .ok l.toNat w := by
  have hv := ev_rel hc hE hl
  simp only [VRel] at hv
  simp [hv, Instr.sliceBound, asIntOf, h0, h1]
theorem loOf_some {y : AOpd} {l : Int} (hl : loOf env (some y) = some l) : ∃ k, y.ev env = some (.int k l) := by
  simp only [loOf] at hl
  split at hl
  · rename_i k m hm
    injection hl with hl; subst hl
    exact ⟨k, hm⟩
  · cases hl
theorem hiEv_some {y : AOpd} {d l : Int} (hl : hiEv env d (some y) = some l) : ∃ k, y.ev env = some (.int k l) := by
  simp only [hiEv] at hl
  split at hl
  · rename_i k m hm
    injection hl with hl; subst hl
    exact ⟨k, hm⟩
  · cases hl

theorem bounds_run {lo hi : Option Operand} {lo' hi' : Option AOpd} {l n : Int} {d cap : Nat} (isS : Bool) (h1 : compOpt lo = some lo') (h2 : compOpt hi = some hi') (hE : ERel β nt env a.tmps)
    (hl : loOf env lo' = some l) (hn : hiEv env (d : Int) hi' = some n) (h0 : 0 ≤ l) (hle : l ≤ n) (hcap : n ≤ cap) :
    (Instr.sliceBounds isS d cap (lo.map a.eval) (hi.map a.eval) none).run P w = .ok (l.toNat, n.toNat, cap) w := by
  cases hi with
  | none =>
    simp [compOpt] at h2; subst h2
    simp [hiEv] at hn; subst hn
    cases lo with
    | none =>
      simp [compOpt] at h1; subst h1
      simp [loOf] at hl; subst hl
      rfl
    | some x =>
      simp only [compOpt, Option.map_eq_some_iff] at h1
      obtain ⟨y, hy, rfl⟩ := h1
      obtain ⟨k, hk⟩ := loOf_some hl
      simp [Instr.sliceBounds, sbound_run (P := P) (w := w) hy hE hk h0 d (by omega)]
  | some z =>
    simp only [compOpt, Option.map_eq_some_iff] at h2
    obtain ⟨u, hu, rfl⟩ := h2
    obtain ⟨k', hk'⟩ := hiEv_some hn
    have hz : ∀ code, (Instr.sliceBound (a.eval z) cap code).run P w = .ok n.toNat w := fun code => sbound_run (P := P) (w := w) hu hE hk' (by omega) cap hcap code
    cases lo with
    | none =>
      simp [compOpt] at h1; subst h1
      simp [loOf] at hl; subst hl
      simp [Instr.sliceBounds, hz]
    | some x =>
      simp only [compOpt, Option.map_eq_some_iff] at h1
      obtain ⟨y, hy, rfl⟩ := h1
      obtain ⟨k, hk⟩ := loOf_some hl
      simp [Instr.sliceBounds, hz, sbound_run (P := P) (w := w) hy hE hk h0 n.toNat (by omega)]

theorem sound_slice (t : TypeId) (x : Operand) (lo hi : Option Operand) : Sound P (.slice t x lo hi none) := by
  intro ai β rom h h' w nt nx' env a v o ho hc hE H hx
  simp only [compOp] at hc
  split at hc
  · rename_i e y l m ht h1 h2 h3
    simp only [Option.map_eq_some_iff] at hc
    obtain ⟨s, hs, rfl⟩ := hc
    obtain ⟨ti, hi', rfl⟩ := sizeAt_run hs
    simp only [AI.exec] at hx
    split at hx
    · rename_i b p z len cap hb
      have hv := ev_rel h1 hE hb
      simp only [VRel] at hv
      split at hx
      · rename_i lv nv hl hn
        split at hx
        · rename_i hcond
          obtain ⟨e1, rfl, rfl⟩ := okOut (o := some _) hx
          injection e1 with e1; subst e1
          obtain ⟨hok, ⟨hv1, rfl, rfl⟩ | ⟨ro, rc, hv1, hv2, hv3, hv4⟩⟩ := hv
          · have e1 : lv = 0 := by omega
            have e2 : nv = 0 := by omega
            subst e1 e2
            have hb := bounds_run (P := P) (w := w) (cap := 0) (d := 0) true h2 h3 hE hl (by simpa using hn) (by omega) (by omega) (by omega)
            refine .val H (rv := .slice none 0 0) ?_ (by simp [VRel, hok])
            simp [execOp, ho, Instr.sliceAt, run_und ht, Instr.slice, hv1, hb, run_siz hi']
          have hb := bounds_run (P := P) (w := w) (cap := rc) true h2 h3 hE hl hn hcond.2.1 hcond.2.2.1 (by omega)
          refine .val H (rv := .slice (if rc = lv.toNat then some ⟨β.blk b, ro, none⟩ else some ⟨β.blk b, ro + lv.toNat * ti.size, none⟩) (nv.toNat - lv.toNat) (rc - lv.toNat)) ?_ ?_
          · simp only [execOp, ho, Option.map_none, Instr.sliceAt, Sem.run_bind, run_und ht, Result.andThen_ok, Instr.slice, hv1, hb, run_siz hi', Sem.run_pure]
            simp only [Option.map_some, addr_add]
          · have e2 : (if rc = lv.toNat then some (⟨β.blk b, ro, none⟩ : Addr) else some ⟨β.blk b, ro + lv.toNat * ti.size, none⟩) = some ⟨β.blk b, if rc = lv.toNat then ro else ro + lv.toNat * ti.size, none⟩ := by split <;> rfl
            rw [e2]
            simp only [VRel]
            refine ⟨hok, .inr ⟨_, rc - lv.toNat, by congr 2; omega, by omega, by omega, fun hp => ?_⟩⟩
            have hne : rc ≠ lv.toNat := by omega
            obtain ⟨q1, q2⟩ := hv4 (by omega)
            rw [if_neg hne]
            refine ⟨by rw [q1]; omega, ?_⟩
            cases b with
            | arg i => trivial
            | own i =>
              simp only [Beta.fits] at q2 ⊢
              have hz := hcond.1
              have hk : lv.toNat + (rc - lv.toNat) = rc := by omega
              have : lv.toNat * z + (rc - lv.toNat) * z = rc * z := by rw [← Nat.add_mul, hk]
              rw [← hz]; omega
        · cases hx
      · cases hx
    · rename_i hb
      have hv := ev_rel h1 hE hb
      simp only [VRel] at hv
      split at hx
      · rename_i lv nv hl hn
        split at hx
        · rename_i hcond
          obtain ⟨e1, rfl, rfl⟩ := okOut (o := some _) hx
          injection e1 with e1; subst e1
          obtain ⟨rfl, rfl⟩ := hcond
          have hb := bounds_run (P := P) (w := w) (cap := 0) (d := 0) true h2 h3 hE hl hn (by omega) (by omega) (by omega)
          refine .val H (rv := .slice none 0 0) ?_ (by simp [VRel])
          simp [execOp, ho, Instr.sliceAt, run_und ht, Instr.slice, hv, hb, run_siz hi']
        · cases hx
      · cases hx
    · cases hx
  · rename_i y l m ht h1 h2 h3
    injection hc with hc; subst hc
    simp only [AI.exec] at hx
    split at hx
    · rename_i s hb
      have hv := ev_rel h1 hE hb
      simp only [VRel] at hv
      split at hx
      · rename_i lv nv hl hn
        split at hx
        · rename_i hcond
          obtain ⟨e1, rfl, rfl⟩ := okOut (o := some _) hx
          injection e1 with e1; subst e1
          have hb := bounds_run (P := P) (w := w) (cap := s.size) false h2 h3 hE hl hn hcond.1 hcond.2.1 hcond.2.2
          refine .val H (rv := .string (s.extract lv.toNat nv.toNat)) ?_ (by simp [VRel])
          simp [execOp, ho, Instr.sliceAt, run_und ht, Instr.slice, hv, hb]
        · cases hx
      · cases hx
    · cases hx
  · cases hc

end Go.AL

/- Helper text: append, abstractly. -/
namespace Go.AL

variable {P : Program} {β : Beta} {rom : Rom} {h h' : Heap} {w : World} {nt nx' : Nat} {env : Env} {a : Act} {v : AVal} {ai : AI}

theorem VRel.one {c : AVal} {r : Value} (ho : c.one = true) (hrel : VRel β c r) : oneCellV r = true := by
  cases c <;> simp [AVal.one] at ho <;> simp only [VRel] at hrel <;> first
    | (subst hrel; rfl)
    | (obtain ⟨_, rfl⟩ := hrel; rfl)
    | (obtain ⟨_, ⟨rfl, _⟩ | ⟨_, _, rfl, _⟩⟩ := hrel <;> rfl)
    | (obtain ⟨_, _, _, rfl, _⟩ := hrel; rfl)
    | (obtain ⟨_, _, rfl, _⟩ := hrel; rfl)
    | (obtain ⟨_, rfl, _⟩ := hrel; rfl)
theorem VRels.one : ∀ {cs : List AVal} {rs : List Value}, VRels β cs rs → allOne cs = true → ∀ r ∈ rs, oneCellV r = true
  | [], rs, hv, _, r, hr => by simp only [VRels] at hv; subst hv; cases hr
  | c :: cs, rs, hv, ha, r, hr => by
    simp only [VRels] at hv
    obtain ⟨r0, rs0, rfl, h1, h2⟩ := hv
    simp only [allOne, List.all_cons, Bool.and_eq_true] at ha
    rcases List.mem_cons.1 hr with rfl | hr
    · exact VRel.one ha.1 h1
    · exact VRels.one h2 ha.2 r hr

theorem src_run {esz n : Nat} {xv : AVal} {rx : Value} {cs : List AVal} (H : HRel P β rom h w) (hs : srcCells rom h esz xv = some (n, cs)) (hv : VRel β xv rx) :
    (Builtin.lenOf rx).run P w = .ok n w ∧ cs.length = n * esz ∧ ∃ rvs, (Builtin.firstCells esz n rx).run P w = .ok rvs w ∧ VRels β cs rvs.toList := by
  unfold srcCells at hs
  split at hs
  · simp only [Option.some.injEq, Prod.mk.injEq] at hs
    obtain ⟨rfl, rfl⟩ := hs
    simp only [VRel] at hv; subst hv
    exact ⟨rfl, by simp, #[], rfl, VRels.nil⟩
  · rename_i b off z len cap
    split at hs
    · rename_i bc hb
      split at hs
      · rename_i hcond
        simp only [Option.some.injEq, Prod.mk.injEq] at hs
        obtain ⟨rfl, rfl⟩ := hs
        simp only [VRel] at hv
        obtain ⟨_, ⟨rfl, rfl, rfl⟩ | ⟨ro, rc, rfl, h2, _, h4⟩⟩ := hv
        · exact ⟨rfl, by simp, #[], rfl, by simpa using VRels.nil⟩
        refine ⟨rfl, by simp; omega, ?_⟩
        by_cases h0 : 0 < rc
        · obtain ⟨rfl, _⟩ := h4 h0
          obtain ⟨rvs, g1, g2⟩ := readN (P := P) H hb hcond.2
          exact ⟨rvs, g1, g2⟩
        · have : len = 0 := by omega
          subst this
          refine ⟨#[], ?_, by simpa using VRels.nil⟩
          simp [Builtin.firstCells, loadCells, loadCellsFrom]
      · cases hs
    · cases hs
  · cases hs

theorem growBy_le {newLen : Nat} : ∀ (rounds c : Nat), c ≤ 2 * newLen + 1000 → c < newLen ∨ rounds = 0 ∨ c ≥ newLen → Builtin.growBy newLen rounds c ≤ 2 * newLen + 1000
  | 0, c, h, _ => by simpa [Builtin.growBy] using h
  | r + 1, c, h, _ => by
    simp only [Builtin.growBy]
    split
    · exact h
    · refine growBy_le r _ (by omega) (by omega)
theorem nextcap_le {need cap : Nat} (h : cap < need) : Builtin.nextslicecap need cap ≤ 2 * need + 1000 := by
  unfold Builtin.nextslicecap
  split
  · omega
  · split
    · omega
    · exact growBy_le 4 cap (by omega) (by omega)

/-- A new block whose cells are known as far as they are told. -/
theorem new_cells' (H : HRel P β rom h w) (cs : List AVal) (rvs spare : List Value) (t : TypeId) (hv : VRels β cs rvs) :
    HRel P (β.push w.heap.size (rvs ++ spare).length) rom (upd h β.nx (some (.cells cs t))) (w.alloc (.cells (rvs ++ spare).toArray t)) ∧
    Mv β h w (β.push w.heap.size (rvs ++ spare).length) (upd h β.nx (some (.cells cs t))) (w.alloc (.cells (rvs ++ spare).toArray t)) := by
  refine H.push _ _ _ ?_ (fun i hi => H.rom_lt i hi)
  refine .inr ⟨fun b => by simp [Beta.push], rvs, spare, (0, 0), ?_, VRels.ext (β.push_ext _ _) _ _ hv, by simp [Beta.push], .inl (Nat.le_refl _)⟩
  simp only [Beta.push, if_true]
  exact heap_push_new

theorem setMany_eq {α : Type} : ∀ (vs l : List α) (o : Nat), o + vs.length ≤ l.length → setMany l o vs = l.take o ++ vs ++ l.drop (o + vs.length)
  | [], l, o, _ => by simp [setMany]
  | v :: vs, l, o, h => by
    simp only [List.length_cons] at h
    simp only [setMany]
    rw [setMany_eq vs _ _ (by simp; omega)]
    have h1 : o < l.length := by omega
    rw [List.take_set, List.drop_set_of_lt (by omega)]
    have h2 : (l.take (o + 1)).set o v = l.take o ++ [v] := by
      apply List.ext_getElem
      · simp; omega
      · intro i i1 i2
        simp at i1 i2
        by_cases hi : i = o
        · subst hi; simp [List.getElem_append_right, (by omega : min i l.length = i)]
        · rw [List.getElem_set_ne (by omega), List.getElem_append_left (by simp; omega)]
          simp
    rw [h2]
    simp [Nat.add_assoc, Nat.add_comm 1]

theorem size_zeroCells (z : Array Value) (n : Nat) : (Builtin.zeroCells z n).size = n * z.size := by simp [Builtin.zeroCells]

/-- The grown copy. -/
theorem grow_run {t t' : TypeId} {e : TypeId} {ti : TypeInfo} {zv : Value} {u : Nat} (ht : P.underlying t = some (.slice e)) (ht' : P.underlying t' = some (.slice u)) (hi : P.info? e = some ti) (hz : ti.zero = some zv)
    (hzs : zv.cells.size = ti.size) (hb : ti.bytes ≤ 64) (H : HRel P β rom h w) {base : Option Addr} {sLen sCap n : Nat} {rx : Value} {oldc cs : List AVal} (ty : TypeId)
    (hold : ∀ w', w'.heap = w.heap → ∃ ro, (Builtin.firstCells ti.size sLen (.slice base sLen sCap)).run P w' = .ok ro w' ∧ VRels β oldc ro.toList)
    (hlen : (Builtin.lenOf rx).run P w = .ok n w) (hnew : ∀ w', w'.heap = w.heap → ∃ rn, (Builtin.firstCells ti.size n rx).run P w' = .ok rn w' ∧ VRels β cs rn.toList)
    (hol : oldc.length = sLen * ti.size) (hnl : cs.length = n * ti.size) (hcap : sCap < sLen + n) (hbig : sLen + n ≤ 2 ^ 40) :
    ∃ rv w' tot, (Builtin.append_ #[t, t'] ty #[.slice base sLen sCap, rx]).run P w = .ok rv w' ∧
      VRel (β.push w.heap.size tot) (.slice (.own β.nx) 0 ti.size (sLen + n) (sLen + n)) rv ∧
      HRel P (β.push w.heap.size tot) rom (upd h β.nx (some (.cells (oldc ++ cs) e))) w' ∧ Mv β h w (β.push w.heap.size tot) (upd h β.nx (some (.cells (oldc ++ cs) e))) w' := by
  have hnc := nextcap_le hcap
  have c1 : ¬ (sLen + n ≤ sCap) := by omega
  have c2 : ¬ (((sLen + n : Nat) : Int) > IntKind.i64.max ∧ ((false = true) ∨ ti.bytes = 0)) := by
    rintro ⟨q, _⟩
    simp [IntKind.max, IntKind.bits, IntKind.signed] at q
    omega
  have c3 : ¬ (Builtin.nextslicecap (sLen + n) sCap * ti.bytes > 2 ^ 48) := by
    have : Builtin.nextslicecap (sLen + n) sCap * ti.bytes ≤ (2 * (sLen + n) + 1000) * 64 := Nat.mul_le_mul hnc hb
    omega
  have hf : (Question.appendCap (sLen + n) sCap e).forced = false := rfl
  let newCap := (Question.appendCap (sLen + n) sCap e).cut (w.tape w.drawn (.appendCap (sLen + n) sCap e))
  have hnew1 : sLen + n ≤ newCap := by simp only [newCap, Question.cut]; omega
  obtain ⟨ro, o1, o2⟩ := hold w.drew rfl
  obtain ⟨rn, n1, n2⟩ := hnew w.drew rfl
  have H1 : HRel P β rom h w.drew := H.heap rfl
  have hrol : ro.size = sLen * ti.size := by have := o2.length; simp at this; omega
  have hrnl : rn.size = n * ti.size := by have := n2.length; simp at this; omega
  obtain ⟨k1, k2⟩ := new_cells' H1 (oldc ++ cs) (ro.toList ++ rn.toList) (Builtin.zeroCells zv.cells (newCap - (sLen + n))).toList e (VRels.append o2 n2)
  refine ⟨.slice (some ⟨w.heap.size, 0, none⟩) (sLen + n) newCap, _, _, ?_, ?_, k1, (Mv.heap (β := β) (h := h) (w := w) (w' := w.drew) rfl rfl rfl).trans k2⟩
  · simp only [Builtin.append_, List.getElem?_toArray, List.getElem?_cons_zero, List.getElem?_cons_succ, Sem.run_bind, run_und ht, Result.andThen_ok, run_siz hi, run_und ht', Sem.run_pure]
    simp only [Bool.false_eq_true, if_false, Sem.run_bind, hlen, Result.andThen_ok]
    rw [if_neg c1]
    simp only [Sem.run_bind, run_inf hi, Result.andThen_ok]
    rw [if_neg (by simpa using c2)]
    simp only [Sem.run_bind, run_inf hi, Result.andThen_ok]
    rw [if_neg c3]
    simp only [Sem.run_bind, run_choose, hf, Bool.false_eq_true, if_false, Result.andThen_ok, run_askRoom, Bool.not_false, if_true]
    have e1 : ({ w with drawn := w.drawn + 1 } : World) = w.drew := rfl
    simp only [e1, o1, n1, Result.andThen_ok, run_inf hi, run_zer hi hz, newRow, Sem.run_bind, run_newObj, Sem.run_pure]
    show Result.ok _ _ = Result.ok _ _
    congr 1
    show World.alloc _ _ = World.alloc _ _
    congr 2
    apply Array.ext'
    simp [newCap, List.append_assoc]
  · simp only [VRel]
    refine ⟨Nat.lt_succ_self _, .inr ⟨0, newCap, by rw [push_blk], hnew1, hnew1, fun _ => ⟨by simp [Beta.offOf], ?_⟩⟩⟩
    simp only [Beta.fits, Beta.push, if_true, Nat.zero_add]
    simp only [List.length_append, Array.length_toList, size_zeroCells, hzs, hrol, hrnl]
    rw [← Nat.add_mul, ← Nat.add_mul]
    exact Nat.mul_le_mul_right _ (by omega)

/-- A block gets a new name; the old one is forgotten; its cells may have been written. -/
theorem HRel.move (H : HRel P β rom h w) {i tot : Nat} {o : AObj} {o' : AObj} {w' : World} (hi : h i = some o) (hfp : ∀ b, β.fp i b ↔ b = β.blk (.own i))
    (hsz : w'.heap.size = w.heap.size) (hs : ∀ b, b ≠ β.blk (.own i) → w'.heap[b]? = w.heap[b]?) (hos : w'.os = w.os) (hout : w'.output = w.output)
    (ho : ORel P (β.push (β.blk (.own i)) tot) β.nx w' o') :
    HRel P (β.push (β.blk (.own i)) tot) rom (upd (upd h i none) β.nx (some o')) w' ∧ Mv β h w (β.push (β.blk (.own i)) tot) (upd (upd h i none) β.nx (some o')) w' := by
  have e : Ext β (β.push (β.blk (.own i)) tot) := β.push_ext _ _
  have hlt : ∀ j, h j ≠ none → j < β.nx := fun j hj => by
    cases hh : h j with
    | none => exact absurd hh hj
    | some ob => exact (H.obj j ob hh).1
  have hin : h i ≠ none := by rw [hi]; simp
  have hbi : β.fp i (β.blk (.own i)) := (hfp _).2 rfl
  have hfo : ∀ j b, j ≠ β.nx → ((β.push (β.blk (.own i)) tot).fp j b ↔ β.fp j b) := fun j b hj => by simp [Beta.push, hj]
  have hfn : ∀ b, (β.push (β.blk (.own i)) tot).fp β.nx b ↔ b = β.blk (.own i) := fun b => by simp [Beta.push]
  have hold : ∀ j, j ≠ β.nx → upd (upd h i none) β.nx (some o') j ≠ none → h j ≠ none ∧ j ≠ i := fun j hj hu => by
    rw [upd_ne _ _ hj] at hu
    by_cases hji : j = i
    · subst hji; simp at hu
    · rw [upd_ne _ _ hji] at hu; exact ⟨hu, hji⟩
  have hno : ∀ j, h j ≠ none → j ≠ i → ¬ β.fp j (β.blk (.own i)) := fun j hj hji hf => hji (H.disj j i _ hj hin hf hbi)
  refine ⟨⟨?_, ?_, ?_, ?_, ?_⟩, ⟨e, by omega, ?_, ?_, hos, hout⟩⟩
  · intro j x hx
    by_cases hj : j = β.nx
    · subst hj
      rw [upd_same] at hx; injection hx with hx; subst hx
      exact ⟨Nat.lt_succ_self _, ho⟩
    · obtain ⟨q1, q2⟩ := hold j hj (by rw [hx]; simp)
      rw [upd_ne _ _ hj, upd_ne _ _ q2] at hx
      obtain ⟨h1, h2⟩ := H.obj j x hx
      exact ⟨Nat.lt_succ_of_lt h1, h2.same e h1 (fun b => hfo j b hj) (fun b hb => hs b fun eb => hno j q1 q2 (eb ▸ hb))⟩
  · intro j k b hj hk hfj hfk
    by_cases hj' : j = β.nx
    · by_cases hk' : k = β.nx
      · rw [hj', hk']
      · subst hj'
        rw [hfn] at hfj; subst hfj
        obtain ⟨q1, q2⟩ := hold k hk' hk
        exact absurd ((hfo k _ hk').1 hfk) (hno k q1 q2)
    · by_cases hk' : k = β.nx
      · subst hk'
        rw [hfn] at hfk; subst hfk
        obtain ⟨q1, q2⟩ := hold j hj' hj
        exact absurd ((hfo j _ hj').1 hfj) (hno j q1 q2)
      · exact H.disj j k b (hold j hj' hj).1 (hold k hk' hk).1 ((hfo j b hj').1 hfj) ((hfo k b hk').1 hfk)
  · intro j b hj hf
    rw [hsz]
    by_cases hj' : j = β.nx
    · subst hj'
      rw [hfn] at hf; subst hf
      exact H.bnd i _ hin hbi
    · exact H.bnd j b (hold j hj' hj).1 ((hfo j b hj').1 hf)
  · intro j cs t hr
    exact (H.args j cs t hr).same e (fun hn => hs _ fun eb => H.argd j i ⟨cs, t, hr, hn⟩ hin (eb ▸ hbi))
  · intro j k hr hk hf
    rw [(e.arg j).1] at hf
    by_cases hk' : k = β.nx
    · subst hk'
      rw [hfn] at hf
      exact H.argd j i hr hin (hf ▸ hbi)
    · exact H.argd j k hr (hold k hk' hk).1 ((hfo k _ hk').1 hf)
  · intro b _ hnb
    exact hs b fun eb => hnb i hin (eb ▸ hbi)
  · intro j b hj hf _
    by_cases hj' : j = β.nx
    · subst hj'
      rw [hfn] at hf; subst hf
      exact ⟨i, hin, hbi⟩
    · exact ⟨j, (hold j hj' hj).1, (hfo j b hj').1 hf⟩

/-- In place. -/
theorem inplace_run {t t' : TypeId} {e : TypeId} {ti : TypeInfo} {u : Nat} (ht : P.underlying t = some (.slice e)) (ht' : P.underlying t' = some (.slice u)) (hi : P.info? e = some ti)
    {base : Addr} {sLen sCap n : Nat} {rx : Value} {rn : Array Value} {w' : World} (ty : TypeId) (hlen : (Builtin.lenOf rx).run P w = .ok n w) (hnew : (Builtin.firstCells ti.size n rx).run P w = .ok rn w) (hcap : sLen + n ≤ sCap)
    (hst : (storeCells (base.add (sLen * ti.size)) rn.toList).run P w = .ok () w') :
    (Builtin.append_ #[t, t'] ty #[.slice (some base) sLen sCap, rx]).run P w = .ok (.slice (some base) (sLen + n) sCap) w' := by
  simp only [Builtin.append_, List.getElem?_toArray, List.getElem?_cons_zero, List.getElem?_cons_succ, Sem.run_bind, run_und ht, Result.andThen_ok, run_siz hi, run_und ht', Sem.run_pure]
  simp only [Bool.false_eq_true, if_false, Sem.run_bind, hlen, Result.andThen_ok]
  rw [if_pos hcap]
  simp only [Bool.not_false, if_true, Sem.run_bind, hnew, Result.andThen_ok, hst, Sem.run_pure]

theorem sound_append {t t' e u : TypeId} {esz bytes : Nat} {z : List AVal} (ht : P.underlying t = some (.slice e)) (ht' : P.underlying t' = some (.slice u)) (hs : sizeAt P e = some esz) (hby : bytesAt P e = some bytes) (hz : zeroAt P e = some z) (hzl : z.length = esz)
    {x y : Operand} {x' y' : AOpd} (hx' : compOpd x = some x') (hy' : compOpd y = some y') (o : Oper) (ho : o.op = .call { callee := .builtin .append, args := #[x, y], argTypes := #[t, t'] })
    (hE : ERel β nt env a.tmps) (H : HRel P β rom h w) (hx : (AI.append e esz bytes x' y').exec rom env h β.nx = some (v, h', nx')) : OpOk P β rom h w ((execOp a.eval o).run P w) v h' nx' := by
  obtain ⟨ti, hi, rfl⟩ := sizeAt_run hs
  obtain ⟨ti', hi', rfl⟩ := bytesAt_run hby
  rw [hi] at hi'; injection hi' with hi'; subst hi'
  obtain ⟨i', zv, g1, g2, g3⟩ := zeroAt_run hz
  rw [hi] at g1; injection g1 with g1; subst g1
  have hzs : zv.cells.size = ti.size := by
    have := (cvals_rel (β := β) _ _ g3).length
    simp at this; omega
  have hrun : (execOp a.eval o).run P w = ((Builtin.append_ #[t, t'] o.type #[a.eval x, a.eval y]).run P w).andThen fun r w' => .ok (.value r) w' := by
    simp [execOp, ho, resolve, invoke, builtin]
  have grow : ∀ {base : Option Addr} {sLen sCap n : Nat} {oldc cs : List AVal} {h0 : Heap}, a.eval x = .slice base sLen sCap → HRel P β rom h0 w → Mv β h w β h0 w →
      (∀ w', w'.heap = w.heap → ∃ ro, (Builtin.firstCells ti.size sLen (.slice base sLen sCap)).run P w' = .ok ro w' ∧ VRels β oldc ro.toList) →
      (Builtin.lenOf (a.eval y)).run P w = .ok n w → (∀ w', w'.heap = w.heap → ∃ rn, (Builtin.firstCells ti.size n (a.eval y)).run P w' = .ok rn w' ∧ VRels β cs rn.toList) →
      oldc.length = sLen * ti.size → cs.length = n * ti.size → sCap < sLen + n → sLen + n ≤ 2 ^ 40 → ti.bytes ≤ 64 →
      OpOk P β rom h w ((execOp a.eval o).run P w) (.slice (.own β.nx) 0 ti.size (sLen + n) (sLen + n)) (upd h0 β.nx (some (.cells (oldc ++ cs) e))) (β.nx + 1) := by
    intro base sLen sCap n oldc cs h0 hxe H0 M0 hold hlen hnew hol hnl hcap hbig hb
    obtain ⟨rv, w', tot, r1, r2, r3, r4⟩ := grow_run ht ht' hi g2 hzs hb H0 o.type hold hlen hnew hol hnl hcap hbig
    refine ⟨.value rv, rv, w', _, ?_, rfl, r2, r3, M0.trans r4, rfl⟩
    rw [hrun, hxe, r1]; rfl
  simp only [AI.exec] at hx
  split at hx
  · rename_i xv hb hxv
    have hv := ev_rel hx' hE hb
    have hw := ev_rel hy' hE hxv
    simp only [VRel] at hv
    split at hx
    · rename_i n cs hsrc
      obtain ⟨s1, s2, rn, s3, s4⟩ := src_run (P := P) H hsrc hw
      split at hx
      · rename_i hcond
        simp only [Option.some.injEq, Prod.mk.injEq] at hx
        obtain ⟨rfl, rfl, rfl⟩ := hx
        by_cases h0 : n = 0
        · subst h0
          have hc0 : cs = [] := List.eq_nil_of_length_eq_zero (by omega)
          subst hc0
          obtain ⟨V, M⟩ := H.void 0 e
          refine ⟨.value (.slice none 0 0), .slice none 0 0, w, β.void 0, ?_, rfl, by simp [VRel, Beta.ok, Beta.void], V, M, rfl⟩
          rw [hrun, hv]
          simp [Builtin.append_, run_und ht, run_und ht', run_siz hi, s1, s3]
        · have := grow (oldc := []) (cs := cs) (n := n) hv H (Mv.refl _ _ _) (fun w' _ => ⟨#[], rfl, VRels.nil⟩) s1
            (fun w' e => let ⟨_, _, rn', t3, t4⟩ := src_run (P := P) (H.heap e) hsrc hw; ⟨rn', t3, t4⟩) (by simp) s2 (by omega) (by omega) hcond.2
          simpa using this
      · cases hx
    · cases hx
  · rename_i i off z' len cap xv hb hxv
    have hv := ev_rel hx' hE hb
    have hw := ev_rel hy' hE hxv
    simp only [VRel] at hv
    obtain ⟨hok, hv⟩ := hv
    split at hx
    · rename_i n cs old t0 hsrc hold
      obtain ⟨s1, s2, rn, s3, s4⟩ := src_run (P := P) H hsrc hw
      split at hx
      · cases hx
      · rename_i hzz
        have hzz : z' = ti.size := Classical.not_not.1 hzz
        subst hzz
        split at hx
        · -- surely in place
          rename_i hcond
          obtain ⟨c1, c0, c2, c3⟩ := hcond
          simp only [Option.some.injEq, Prod.mk.injEq] at hx
          obtain ⟨rfl, rfl, rfl⟩ := hx
          obtain ⟨_, _, rfl⟩ | ⟨ro, rc, hv1, hv2, hv3, hv4⟩ := hv
          · omega
          obtain ⟨q1, q2⟩ := hv4 (by omega)
          simp only [Beta.offOf, Nat.zero_add] at q1
          subst q1
          have hm : (len + n) * ti.size = len * ti.size + n * ti.size := Nat.add_mul _ _ _
          obtain ⟨w', g1, g2, g3⟩ := writeN (P := P) (off := ro + len * ti.size) H hold (by rw [s2]; omega) s4 (VRels.one s4 c3)
          refine ⟨.value (.slice (some ⟨β.blk (.own i), ro, none⟩) (len + n) rc), .slice (some ⟨β.blk (.own i), ro, none⟩) (len + n) rc, w', β, ?_, rfl, ?_, g2, g3, rfl⟩
          · rw [hrun, hv1, inplace_run ht ht' hi o.type s1 s3 (by omega) (by rw [addr_add]; exact g1)]; rfl
          · simp only [VRel]
            exact ⟨hok, .inr ⟨ro, rc, rfl, by omega, by omega, fun _ => ⟨by simp [Beta.offOf], q2⟩⟩⟩
        · split at hx
          · -- a new name for what was, or a grown copy
            rename_i hcond
            obtain ⟨rfl, rfl, c3, c4, c5, c6⟩ := hcond
            simp only [Option.some.injEq, Prod.mk.injEq] at hx
            obtain ⟨rfl, rfl, rfl⟩ := hx
            have hdrop : ∀ j ob, upd h i none j = some ob → h j = some ob := fun j ob hj => by
              by_cases hji : j = i
              · subst hji; simp at hj
              · rwa [upd_ne _ _ hji] at hj
            obtain ⟨hv1, rfl, rfl⟩ | ⟨ro, rc, hv1, hv2, hv3, hv4⟩ := hv
            · -- nil
              by_cases h0 : n = 0
              · subst h0
                have hc0 : cs = [] := List.eq_nil_of_length_eq_zero (by omega)
                subst hc0
                obtain ⟨V, M⟩ := (H.drop hdrop).void 0 t0
                refine ⟨.value (.slice none 0 0), .slice none 0 0, w, β.void 0, ?_, rfl, by simp [VRel, Beta.ok, Beta.void], by simpa using V, by simpa using (Mv.drop hdrop).trans M, rfl⟩
                rw [hrun, hv1]
                simp [Builtin.append_, run_und ht, run_und ht', run_siz hi, s1, s3]
              · have := grow (oldc := []) (cs := cs) (n := n) hv1 (H.drop hdrop) (Mv.drop hdrop) (fun w' _ => ⟨#[], rfl, VRels.nil⟩) s1
                  (fun w' e => let ⟨_, _, rn', t3, t4⟩ := src_run (P := P) (H.heap e) hsrc hw; ⟨rn', t3, t4⟩) (by simp) s2 (by omega) (by omega) c5
                simpa using this
            by_cases hfit : len + n ≤ rc
            · obtain ⟨hlt, ⟨rfl, htot, hvoid⟩ | ⟨hfp, pre, spare, fz, p3, p4, p5, p6⟩⟩ := H.obj i _ hold
              · -- a name without a block
                have hz : n * ti.size = 0 := by
                  by_cases hr : 0 < rc
                  · obtain ⟨_, q2⟩ := hv4 hr
                    simp only [Beta.fits, Nat.zero_add, htot] at q2
                    have : n * ti.size ≤ rc * ti.size := Nat.mul_le_mul_right _ (by omega)
                    omega
                  · have : n = 0 := by omega
                    simp [this]
                have hc0 : cs = [] := List.eq_nil_of_length_eq_zero (by omega)
                subst hc0
                have hrn : rn.toList = [] := by
                  have := s4.length
                  exact List.eq_nil_of_length_eq_zero (by simpa using this.symm)
                obtain ⟨V, M⟩ := (H.drop hdrop).void (β.blk (.own i)) t0
                refine ⟨.value (.slice (some ⟨β.blk (.own i), ro, none⟩) (len + n) rc), .slice (some ⟨β.blk (.own i), ro, none⟩) (len + n) rc, w, _, ?_, rfl, ?_, by simpa using V, by simpa using (Mv.drop hdrop).trans M, rfl⟩
                · rw [hrun, hv1, inplace_run ht ht' hi o.type s1 s3 hfit (w' := w) (by rw [hrn]; simp [storeCells])]; rfl
                · simp only [VRel]
                  refine ⟨Nat.lt_succ_self _, .inr ⟨ro, rc, by simp [Beta.void], hfit, hfit, fun hp => ?_⟩⟩
                  obtain ⟨q1, q2⟩ := hv4 hp
                  refine ⟨by simpa [Beta.offOf] using q1, ?_⟩
                  simp only [Beta.fits, htot] at q2
                  simp only [Beta.fits, Beta.void, if_true]
                  omega
              have hpl := p4.length
              have hrnl : rn.size = n * ti.size := by have := s4.length; simp at this; omega
              have hm : (len + n) * ti.size = len * ti.size + n * ti.size := Nat.add_mul _ _ _
              have hroom : len * ti.size + rn.toList.length ≤ (pre ++ spare).length := by
                rw [Array.length_toList, hrnl, p5]
                by_cases h0 : 0 < rc
                · obtain ⟨_, q2⟩ := hv4 h0
                  simp only [Beta.fits, Nat.zero_add] at q2
                  have : (len + n) * ti.size ≤ rc * ti.size := Nat.mul_le_mul_right _ hfit
                  omega
                · have e1 : len = 0 := by omega
                  have e2 : n = 0 := by omega
                  simp [e1, e2]
              have hro : 0 < len + n → ro = 0 := fun hp => by have := (hv4 (by omega)).1; simpa [Beta.offOf] using this
              have hst : ∃ w', (storeCells ((⟨β.blk (.own i), ro, none⟩ : Addr).add (len * ti.size)) rn.toList).run P w = .ok () w' ∧
                  w'.heap[β.blk (.own i)]? = some (.cells (setMany (pre ++ spare) (len * ti.size) rn.toList).toArray t0 fz) ∧ w'.heap.size = w.heap.size ∧
                  (∀ x, x ≠ β.blk (.own i) → w'.heap[x]? = w.heap[x]?) ∧ w'.os = w.os ∧ w'.output = w.output := by
                by_cases hp : 0 < len + n
                · have := hro hp; subst this
                  obtain ⟨w', y1, y2, y3, y4, y5, y6⟩ := run_storeCells_at' (P := P) (o := len * ti.size) rn.toList 0 _ w p3 (by simpa using hroom) (by simp at p5 ⊢; rw [p5]; exact p6) (VRels.one s4 c6)
                  exact ⟨w', by rw [addr_add, Nat.zero_add]; exact y1, by simpa using y2, y3, y4, y5, y6⟩
                · have e2 : n = 0 := by omega
                  have e3 : rn.toList = [] := by apply List.eq_nil_of_length_eq_zero; simp [hrnl, e2]
                  rw [e3]
                  exact ⟨w, by simp [storeCells], by simpa [setMany] using p3, rfl, fun _ _ => rfl, rfl, rfl⟩
              obtain ⟨w', y1, y2, y3, y4, y5, y6⟩ := hst
              obtain ⟨r1, r2⟩ := HRel.move (tot := β.tot i) (o' := .cells (old.take (len * ti.size) ++ cs) t0) H hold hfp y3 y4 y5 y6 (by
                refine .inr ⟨fun b => by simp [Beta.push], (pre ++ spare).take (len * ti.size) ++ rn.toList, (pre ++ spare).drop (len * ti.size + rn.toList.length), fz, ?_, ?_, ?_, ?_⟩
                · rw [push_blk, y2, setMany_eq _ _ _ hroom]
                · refine VRels.ext (β.push_ext _ _) _ _ (VRels.append ?_ s4)
                  rw [List.take_append_of_le_length (by omega)]
                  exact VRels.take p4
                · have : (β.push (β.blk (.own i)) (β.tot i)).tot β.nx = β.tot i := by simp [Beta.push]
                  rw [this, ← p5]
                  simp only [List.length_append, List.length_take, List.length_drop] at hroom ⊢
                  omega
                · have : (β.push (β.blk (.own i)) (β.tot i)).tot β.nx = β.tot i := by simp [Beta.push]
                  rw [this]; exact p6)
              refine ⟨.value (.slice (some ⟨β.blk (.own i), ro, none⟩) (len + n) rc), .slice (some ⟨β.blk (.own i), ro, none⟩) (len + n) rc, w', _, ?_, rfl, ?_, r1, r2, rfl⟩
              · rw [hrun, hv1, inplace_run ht ht' hi o.type s1 s3 hfit y1]; rfl
              · simp only [VRel]
                refine ⟨Nat.lt_succ_self _, .inr ⟨ro, rc, by rw [push_blk], hfit, hfit, fun hp => ?_⟩⟩
                obtain ⟨q1, q2⟩ := hv4 hp
                refine ⟨by simpa [Beta.offOf] using q1, ?_⟩
                simp only [Beta.fits, Beta.push, if_true] at q2 ⊢
                exact q2
            · refine grow (oldc := old.take (len * ti.size)) (cs := cs) (n := n) hv1 (H.drop hdrop) (Mv.drop hdrop) ?_ s1
                (fun w' e => let ⟨_, _, rn', t3, t4⟩ := src_run (P := P) (H.heap e) hsrc hw; ⟨rn', t3, t4⟩) (by simp; omega) s2 (by omega) c4 c5
              intro w' ew
              by_cases h0 : 0 < rc
              · obtain ⟨q1, _⟩ := hv4 h0
                simp only [Beta.offOf, Nat.zero_add] at q1
                subst q1
                have hbc : blockCells rom h (.own i) = some old := by simp [blockCells, hold]
                obtain ⟨rvs, g1, g2⟩ := readN (P := P) (off := 0) (n := len * ti.size) (H.heap ew) hbc (by omega)
                exact ⟨rvs, by simpa [Builtin.firstCells, Beta.offOf] using g1, by simpa using g2⟩
              · have e1 : len = 0 := by omega
                subst e1
                exact ⟨#[], by simp [Builtin.firstCells, loadCells, loadCellsFrom], by simpa using VRels.nil⟩
          · cases hx
    · cases hx
  · cases hx

end Go.AL

/- Helper text: maps. -/
namespace Go.AL

variable {P : Program} {β : Beta} {rom : Rom} {h h' : Heap} {w : World} {nt nx' : Nat} {env : Env} {a : Act} {v : AVal}

theorem setObj_run {b : Nat} {old ob : Obj} (hb : w.heap[b]? = some old) (hn : ∀ c e f, old ≠ .cells c e f) : (setObj b ob).run P w = .ok () { w with heap := w.heap.setIfInBounds b ob } := by
  cases old <;> first | exact absurd rfl (hn _ _ _) | simp [setObj, Sem.run, hb]

/-- What a kind of keys is a type's. -/
theorem keysOf_cases {kt : TypeId} {ks : KS} (h : keysOf P kt = some ks) :
    (∃ lk d, ks = .one lk ∧ P.underlying kt = some d ∧ lk.fits d) ∨ (∃ l fs, ks = .agg l ∧ P.underlying kt = some (.struct fs) ∧ leavesAt P 8 kt 0 = some l) := by
  unfold keysOf at h
  split at h
  · rename_i hd; injection h with h; exact .inl ⟨_, _, h.symm, hd, trivial⟩
  · rename_i hd; injection h with h; exact .inl ⟨_, _, h.symm, hd, trivial⟩
  · rename_i hd; injection h with h; exact .inl ⟨_, _, h.symm, hd, trivial⟩
  · rename_i fs hd
    simp only [Option.map_eq_some_iff] at h
    obtain ⟨l, h1, h2⟩ := h
    exact .inr ⟨l, fs, h2.symm, hd, h1⟩
  · cases h

theorem ks_equal {kt : TypeId} {ks : KS} (hk : keysOf P kt = some ks) {x y : AVal} {r : Bool} (he : ks.eq x y = some r) {rx ry : Value} (hx : VRel β x rx) (hy : VRel β y ry) (w : World) :
    (Op.equal kt rx ry).run P w = .ok r w := by
  rcases keysOf_cases hk with ⟨lk, d, rfl, hd, hf⟩ | ⟨l, fs, rfl, hd, hl⟩
  · simp only [KS.eq] at he
    obtain ⟨_, u, v, e1, e2, e3⟩ := leaf_plain (β := β) (D := 9999) hd hf he
    injection e1 with e1; injection e2 with e2
    subst e1 e2
    exact e3 rx ry hx hy w
  · unfold KS.eq at he
    split at he
    · rename_i h1; cases h1
    · rename_i L b c h1
      injection h1 with h1; subst h1
      simp only [VRel] at hx hy
      obtain ⟨ra, rfl, ha⟩ := hx
      obtain ⟨rb, rfl, hb⟩ := hy
      simp only [leavesAt, hd] at hl
      split at hl
      · rename_i n hn
        split at hl
        · rename_i hc
          have hF : P.fieldsOf kt = fs := by simp [Program.fieldsOf, hd]
          show (Op.equalIn (7 + 9992 + 1) kt (.agg ra) (.agg rb)).run P w = _
          rw [run_equalIn_struct (P := P) w _ kt _ _ (by rw [hF]; exact hd) hc.1, hF]
          exact equal_fields (base := 0) (n := n) (equal_part ha hb 9992 w 7) (Sees.all _ _) (Sees.all _ _) fs.toList _ r hc.2 hl he
        · cases hl
      · cases hl
    · cases he

theorem leaf_sameNow {lk : LK} {d : TypeDesc} (hf : lk.fits d) {x y : AVal} {r : Bool} (he : leafEq lk (some x) (some y) = some r) {rx ry : Value} (hx : VRel β x rx) (hy : VRel β y ry) : Instr.sameNow d rx ry = some r := by
  unfold leafEq at he
  split at he
  · rename_i h1 h2; injection h1 with h1; injection h2 with h2; subst h1 h2
    simp only [VRel] at hx hy; subst hx hy
    cases d <;> simp [LK.fits] at hf
    simpa [Instr.sameNow] using he
  · rename_i h1 h2; injection h1 with h1; injection h2 with h2; subst h1 h2
    simp only [VRel] at hx hy; subst hx hy
    cases d <;> simp [LK.fits] at hf
    simpa [Instr.sameNow] using he
  · rename_i h1 h2; injection h1 with h1; injection h2 with h2; subst h1 h2
    simp only [VRel] at hx hy; subst hx hy
    cases d <;> simp [LK.fits] at hf
    simpa [Instr.sameNow] using he
  · cases he

/-- What was found. -/
def FoundRel (β : Beta) (res : List MapEntry) (k : AVal) : Option (Nat × AVal) → Option (Nat × Value) → Prop
  | none, r => r = none
  | some (i, x), r => ∃ rv e ka, r = some (i, rv) ∧ VRel β x rv ∧ res[i]? = some e ∧ VRel β ka e.key ∧ sameA ka k = true

theorem find_now {lk : LK} {d : TypeDesc} (hf : lk.fits d) {k : AVal} {rk : Value} (hk : VRel β k rk) : ∀ {es : Ents} {l pre : List MapEntry} {i : Nat} {r : Option (Nat × AVal)}, EntriesRel β es l → pre.length = i → keyFind (.one lk) k es i = some r →
    ∃ rr, Instr.findNow d rk l i = some rr ∧ FoundRel β (pre ++ l) k r rr
  | [], l, pre, i, r, hE, hp, h => by
    simp only [EntriesRel] at hE; subst hE
    simp only [keyFind, Option.some.injEq] at h; subst h
    exact ⟨none, rfl, rfl⟩
  | e :: es, _, pre, i, r, ⟨x, xs, rfl, h2, h3⟩, hp, h => by
    simp only [keyFind] at h
    split at h
    · rename_i he
      split at h
      · rename_i hs
        injection h with h; subst h
        refine ⟨some (i, x.val), ?_, x.val, x, e.1, rfl, h2.2.1, by simp [← hp], h2.1, hs⟩
        rw [Instr.findNow, leaf_sameNow hf he hk h2.1]
      · cases h
    · rename_i he
      obtain ⟨rr, g1, g2⟩ := find_now hf hk (pre := pre ++ [x]) h3 (by simp [hp]) h
      refine ⟨rr, ?_, by simpa using g2⟩
      rw [Instr.findNow, leaf_sameNow hf he hk h2.1]
      exact g1
    · cases h

theorem find_ask {kt : TypeId} {ks : KS} (hks : keysOf P kt = some ks) {k : AVal} {rk : Value} (hk : VRel β k rk) (w : World) : ∀ {es : Ents} {l pre : List MapEntry} {i : Nat} {r : Option (Nat × AVal)}, EntriesRel β es l → pre.length = i → keyFind ks k es i = some r →
    ∃ rr, (Instr.findAsking kt rk l i).run P w = .ok rr w ∧ FoundRel β (pre ++ l) k r rr
  | [], l, pre, i, r, hE, hp, h => by
    simp only [EntriesRel] at hE; subst hE
    simp only [keyFind, Option.some.injEq] at h; subst h
    exact ⟨none, rfl, rfl⟩
  | e :: es, _, pre, i, r, ⟨x, xs, rfl, h2, h3⟩, hp, h => by
    simp only [keyFind] at h
    split at h
    · rename_i he
      split at h
      · rename_i hs
        injection h with h; subst h
        refine ⟨some (i, x.val), ?_, x.val, x, e.1, rfl, h2.2.1, by simp [← hp], h2.1, hs⟩
        rw [Instr.findAsking, Sem.run_bind, ks_equal hks he hk h2.1]
        simp
      · cases h
    · rename_i he
      obtain ⟨rr, g1, g2⟩ := find_ask hks hk w (pre := pre ++ [x]) h3 (by simp [hp]) h
      refine ⟨rr, ?_, by simpa using g2⟩
      rw [Instr.findAsking, Sem.run_bind, ks_equal hks he hk h2.1]
      simpa using g1
    · cases h

theorem find_run {kt : TypeId} {ks : KS} (hks : keysOf P kt = some ks) {k : AVal} {rk : Value} (hk : VRel β k rk) (w : World) {es : Ents} {l : List MapEntry} {r : Option (Nat × AVal)} (hE : EntriesRel β es l) (h : keyFind ks k es 0 = some r) :
    ∃ rr, (Instr.findKey kt rk l).run P w = .ok rr w ∧ FoundRel β l k r rr := by
  rcases keysOf_cases hks with ⟨lk, d, rfl, hd, hf⟩ | ⟨L, fs, rfl, hd, hl⟩
  · obtain ⟨rr, g1, g2⟩ := find_now hf hk (pre := []) hE rfl h
    have g1' : Instr.findNow d rk l 0 = some rr := g1
    exact ⟨rr, by simp [Instr.findKey, run_und hd, g1'], by simpa using g2⟩
  · obtain ⟨rr, g1, g2⟩ := find_ask hks hk w (pre := []) hE rfl h
    refine ⟨rr, ?_, by simpa using g2⟩
    rw [run_findKey_eq w (by rw [hd])]
    exact g1

/-! ### A key may be one -/

def checkFs (em : Bool) (n : Nat) (cs : Array Value) : List Field → Sem Unit
  | [] => pure ()
  | f :: fs => if f.name ≠ "_" then do
      let x ← part f.type cs f.offset
      Instr.checkKey em n f.type x
      checkFs em n cs fs
    else checkFs em n cs fs
theorem checkKey_struct (em : Bool) (n : Nat) {t : TypeId} {fs : Array Field} (ht : P.underlying t = some (.struct fs)) (cs : Array Value) (w : World) : (Instr.checkKey em (n + 1) t (.agg cs)).run P w = (checkFs em n cs fs.toList).run P w := by
  simp only [Instr.checkKey, Sem.run_bind, run_und ht, Result.andThen_ok]
  rw [← Array.forIn_toList]
  generalize fs.toList = l
  clear ht
  induction l generalizing w with
  | nil => simp [checkFs]
  | cons f l ih =>
    simp only [List.forIn_cons, checkFs, Sem.run_bind, Sem.run_ite]
    split
    · generalize (part f.type cs f.offset).run P w = r1
      cases r1 with
      | ok x w1 =>
        simp only [Result.andThen_ok]
        generalize (Instr.checkKey em n f.type x).run P w1 = r2
        cases r2 with
        | ok u w2 => simpa using ih w2
        | _ => simp
      | _ => simp
    · simpa using ih w

/-- What is to be shown of a part that is a key's. -/
def ChkPart (P : Program) (ra : Array Value) (a : List AVal) (em : Bool) (k : Nat) (w : World) (D : Nat) : Prop :=
  ∀ (t : TypeId) (base o n : Nat) (L : List (Nat × LK)) (xs : Array Value) (r : Bool) (m : Nat),
    leavesAt P D t (base + o) = some L → Sees xs ra base n → sizeAt P t = some m → o + m ≤ n → o < n → eqL L a a = some r →
    ∃ u, (part t xs o).run P w = .ok u w ∧ (Instr.checkKey em (D + k) t u).run P w = .ok () w

theorem chk_fields {ra : Array Value} {a : List AVal} {em : Bool} {k : Nat} {w : World} {D : Nat} (H : ChkPart P ra a em k w D) {base n : Nat} {xs : Array Value} (sx : Sees xs ra base n) :
    ∀ (fs : List Field) (L : List (Nat × LK)) (r : Bool), (fs.all fun f => f.name != "_" && (match sizeAt P f.type with | some m => decide (f.offset + m ≤ n ∧ f.offset < n) | none => false)) = true →
      (fs.mapM fun f => leavesAt P D f.type (base + f.offset)).map List.flatten = some L → eqL L a a = some r → (checkFs em (D + k) xs fs).run P w = .ok () w
  | [], L, r, _, hL, he => by simp [checkFs]
  | f :: fs, L, r, hc, hL, he => by
    simp only [List.all_cons, Bool.and_eq_true, bne_iff_ne] at hc
    obtain ⟨⟨c1, c2⟩, c3⟩ := hc
    split at c2
    case h_2 => cases c2
    rename_i m hm
    simp only [decide_eq_true_eq] at c2
    rw [List.mapM_cons] at hL
    cases h1 : leavesAt P D f.type (base + f.offset) with
    | none => simp [h1] at hL
    | some L1 =>
      cases h2 : fs.mapM (fun f => leavesAt P D f.type (base + f.offset)) with
      | none => simp [h1, h2] at hL
      | some Ls =>
        simp [h1, h2] at hL
        subst hL
        obtain ⟨r1, r2, e1, e2, rfl⟩ := eqL_append he
        obtain ⟨u, g1, g3⟩ := H f.type base f.offset n L1 xs r1 m h1 sx hm c2.1 c2.2 e1
        have g4 := chk_fields H sx fs Ls.flatten r2 c3 (by rw [h2]; rfl) e2
        rw [checkFs]
        simp only [if_pos c1, Sem.run_bind, g1, g3, Result.andThen_ok]
        exact g4

theorem chk_leaf {em : Bool} {n : Nat} {lk : LK} {d : TypeDesc} {t : TypeId} (hd : P.underlying t = some d) (hf : lk.fits d) (u : Value) (w : World) : (Instr.checkKey em (n + 1) t u).run P w = .ok () w := by
  cases lk <;> cases d <;> simp [LK.fits] at hf <;> simp [Instr.checkKey, run_und hd]

theorem chk_part {a : List AVal} {ra : Array Value} (ha : VRels β a ra.toList) (em : Bool) (k : Nat) (w : World) : ∀ (D : Nat), ChkPart P ra a em k w D := by
  intro D
  induction D with
  | zero => intro t base o n L xs r m hL; cases hL
  | succ D ih =>
    intro t base o n L xs r m hL sx hm ho ho' he
    have plain : ∀ (d : TypeDesc) (lk : LK), P.underlying t = some d → lk.fits d → L = [(base + o, lk)] →
        ∃ u, (part t xs o).run P w = .ok u w ∧ (Instr.checkKey em (D + 1 + k) t u).run P w = .ok () w := by
      intro d lk hd hf hl
      subst hl
      simp only [eqL] at he
      split at he
      · rename_i x y h1 h2
        obtain ⟨g1, u, v, g2, g3, g4⟩ := leaf_plain (β := β) (D := D + k) hd hf h1
        obtain ⟨u', e1, e2⟩ := ha.get g2
        refine ⟨u', part_one hd g1 (by rw [sx.one o ho', ← Array.getElem?_toList]; exact e1) w, ?_⟩
        rw [show D + 1 + k = D + k + 1 by omega]
        exact chk_leaf hd hf u' w
      · cases he
    simp only [leavesAt] at hL
    split at hL
    · rename_i hd; injection hL with hL; exact plain _ .b hd trivial hL.symm
    · rename_i hd; injection hL with hL; exact plain _ .i hd trivial hL.symm
    · rename_i hd; injection hL with hL; exact plain _ .s hd trivial hL.symm
    · rename_i fs hd
      rw [hm] at hL
      simp only at hL
      split at hL
      · rename_i hc
        simp only [sizeAt, Option.map_eq_some_iff] at hm
        obtain ⟨i, hi, rfl⟩ := hm
        refine ⟨_, part_many hd rfl hi w, ?_⟩
        rw [show D + 1 + k = D + k + 1 by omega, checkKey_struct _ _ hd]
        exact chk_fields ih (sx.part ho) fs.toList L r hc.2 hL he
      · cases hL
    · cases hL

theorem chk_run {kt : TypeId} {ks : KS} (hks : keysOf P kt = some ks) {k : AVal} {r : Bool} (he : ks.eq k k = some r) {rk : Value} (hk : VRel β k rk) (em : Bool) (w : World) : (Instr.checkKey em 10000 kt rk).run P w = .ok () w := by
  rcases keysOf_cases hks with ⟨lk, d, rfl, hd, hf⟩ | ⟨L, fs, rfl, hd, hl⟩
  · exact chk_leaf (n := 9999) hd hf rk w
  · unfold KS.eq at he
    split at he
    · rename_i h1; cases h1
    · rename_i b c c' h2 h3
      injection h2 with h2; subst h2; injection h3 with h3; subst h3
      simp only [VRel] at hk
      obtain ⟨ra, rfl, ha⟩ := hk
      simp only [leavesAt, hd] at hl
      split at hl
      · rename_i n hn
        split at hl
        · rename_i hc
          show (Instr.checkKey em (7 + 9992 + 1) kt (.agg ra)).run P w = _
          rw [checkKey_struct _ _ hd]
          exact chk_fields (base := 0) (n := n) (chk_part ha em 9992 w 7) (Sees.all _ _) fs.toList _ r hc.2 hl he
        · cases hl
      · cases hl
    · cases he

/-! ### Either key may stay -/

theorem sameLeaf_bits {x y : AVal} (h : sameLeaf x y = true) {rx ry : Value} (hx : VRel β x rx) (hy : VRel β y ry) (n : Nat) : Instr.sameBits n rx ry = true := by
  cases x <;> cases y <;> simp [sameLeaf] at h <;> simp only [VRel] at hx hy <;> subst hx hy <;> simp_all [Instr.sameBits]
theorem sameAll_bits (n : Nat) : ∀ {xs ys : List AVal} {rx ry : List Value}, ((xs.zip ys).all fun p => sameLeaf p.1 p.2) = true → VRels β xs rx → VRels β ys ry → ((rx.zip ry).all fun (x, y) => Instr.sameBits n x y) = true
  | [], _, rx, _, _, hx, _ => by simp only [VRels] at hx; subst hx; simp
  | _ :: _, [], rx, ry, _, _, hy => by simp only [VRels] at hy; subst hy; simp
  | x :: xs, y :: ys, _, _, h, hx, hy => by
    simp only [VRels] at hx hy
    obtain ⟨r, rs, rfl, h1, h2⟩ := hx
    obtain ⟨q, qs, rfl, h3, h4⟩ := hy
    simp only [List.zip_cons_cons, List.all_cons, Bool.and_eq_true] at h ⊢
    exact ⟨sameLeaf_bits h.1 h1 h3 n, sameAll_bits n h.2 h2 h4⟩
theorem sameA_bits {x y : AVal} (h : sameA x y = true) {rx ry : Value} (hx : VRel β x rx) (hy : VRel β y ry) : Instr.sameBits 10000 rx ry = true := by
  unfold sameA at h
  split at h
  · rename_i xs ys
    simp only [VRel] at hx hy
    obtain ⟨ra, rfl, ha⟩ := hx
    obtain ⟨rb, rfl, hb⟩ := hy
    simp only [Bool.and_eq_true, beq_iff_eq] at h
    show (ra.size == rb.size && (ra.toList.zip rb.toList).all fun (x, y) => Instr.sameBits 9999 x y) = true
    have e1 := ha.length
    have e2 := hb.length
    simp only [Array.length_toList] at e1 e2
    rw [Bool.and_eq_true]
    exact ⟨by simp; omega, sameAll_bits 9999 h.2 ha hb⟩
  · exact sameLeaf_bits h hx hy 10000
theorem keyStays {k ka : AVal} (h : sameA ka k = true) {rk re : Value} (hk : VRel β k rk) (he : VRel β ka re) (w : World) : (Instr.keyThatStays re rk).run P w = .ok rk w := by
  simp [Instr.keyThatStays, sameA_bits h he hk]

/-! ### The operations -/

theorem EntriesRel.at {es : Ents} {l : List MapEntry} (h : EntriesRel β es l) : ∀ {i : Nat} {e : MapEntry}, l[i]? = some e → ∃ x, es[i]? = some x ∧ EntryRel β x e := by
  induction es generalizing l with
  | nil => intro i e he; simp only [EntriesRel] at h; subst h; simp at he
  | cons x es ih =>
    obtain ⟨y, ys, rfl, h2, h3⟩ := h
    intro i e he
    cases i with
    | zero => simp at he; subst he; exact ⟨x, rfl, h2⟩
    | succ i => exact ih h3 (by simpa using he)
theorem EntriesRel.mod {f : AVal × AVal × Nat → AVal × AVal × Nat} {g : MapEntry → MapEntry} : ∀ {es : Ents} {l : List MapEntry} {i : Nat}, EntriesRel β es l → (∀ x e, es[i]? = some x → l[i]? = some e → EntryRel β x e → EntryRel β (f x) (g e)) → EntriesRel β (es.modify i f) (l.modify i g)
  | [], l, i, h, _ => by simp only [EntriesRel] at h; subst h; cases i <;> rfl
  | x :: es, _, i, ⟨y, ys, rfl, h2, h3⟩, hf => by
    cases i with
    | zero => exact ⟨_, _, rfl, hf x y rfl rfl h2, h3⟩
    | succ i => exact ⟨y, _, rfl, h2, EntriesRel.mod h3 fun x e hx he => hf x e (by simpa using hx) (by simpa using he)⟩
theorem EntriesRel.erase : ∀ {es : Ents} {l : List MapEntry} (i : Nat), EntriesRel β es l → EntriesRel β (es.eraseIdx i) (l.eraseIdx i)
  | [], l, i, h => by simp only [EntriesRel] at h; subst h; rfl
  | x :: es, _, 0, ⟨y, ys, rfl, _, h3⟩ => h3
  | x :: es, _, i + 1, ⟨y, ys, rfl, h2, h3⟩ => ⟨y, _, rfl, h2, EntriesRel.erase i h3⟩
theorem EntriesRel.snoc {x : AVal × AVal × Nat} {e : MapEntry} (he : EntryRel β x e) : ∀ {es : Ents} {l : List MapEntry}, EntriesRel β es l → EntriesRel β (es ++ [x]) (l ++ [e])
  | [], l, h => by simp only [EntriesRel] at h; subst h; exact ⟨e, [], rfl, he, rfl⟩
  | _ :: _, _, ⟨y, ys, rfl, h2, h3⟩ => ⟨y, _, rfl, h2, EntriesRel.snoc he h3⟩

/-- A map is changed in place. -/
theorem map_put {i : Nat} {es es' : Ents} {clock clock' : Nat} (H : HRel P β rom h w) (hi : h i = some (.map es clock)) {res' : Array MapEntry} (hE : EntriesRel β es' res'.toList) :
    ∃ w', w' = { w with heap := w.heap.setIfInBounds (β.blk (.own i)) (.map res' clock') } ∧ HRel P β rom (upd h i (some (.map es' clock'))) w' ∧ Mv β h w β (upd h i (some (.map es' clock'))) w' := by
  obtain ⟨_, hfp, res, hob, _⟩ := H.obj i _ hi
  have hbl : β.blk (.own i) < w.heap.size := by
    rcases Nat.lt_or_ge (β.blk (.own i)) w.heap.size with h' | h'
    · exact h'
    · simp [Array.getElem?_eq_none h'] at hob
  exact ⟨_, rfl, H.put hi hfp (by simp) (fun b hb => by simp [Ne.symm hb]) rfl rfl ⟨hfp, res', by simp [hbl], hE⟩⟩

/-- Zero, as a value. -/
theorem zeroV_run {t : TypeId} {z : AVal} (hz : zeroV P t = some z) : ∃ rz, (∀ w, (zeroValue t).run P w = .ok rz w) ∧ VRel β z rz := by
  unfold zeroV at hz
  split at hz
  · rename_i d zs hd hzs
    simp only [zeroAt, Option.bind_eq_some_iff] at hzs
    obtain ⟨i, hi, zv, hzv, hc⟩ := hzs
    have hrel := cvals_rel (β := β) _ _ hc
    split at hz
    · split at hz
      · rename_i cs he
        simp only [hi, Option.bind_some, hzv, Option.some.injEq] at he
        subst he
        injection hz with hz; subst hz
        exact ⟨_, fun w => run_zer hi hzv, by simp only [VRel]; exact ⟨_, rfl, by simpa [Value.cells] using hrel⟩⟩
      · cases hz
    · split at hz
      · cases hz
      · rename_i c hne
        injection hz with hz; subst hz
        refine ⟨zv, fun w => run_zer hi hzv, ?_⟩
        have : zv.cells = #[zv] := by cases zv <;> first | rfl | exact (hne _ (by rw [hi]; exact hzv)).elim
        rw [this] at hrel
        simp only [VRels] at hrel
        obtain ⟨r, rs, e1, e2, _⟩ := hrel
        simp at e1
        rw [e1.1]; exact e2
      · cases hz
  · cases hz

theorem mapEs_run {m : AVal} {es : Ents} (hm : mapEs h m = some es) (H : HRel P β rom h w) {rm : Value} (hv : VRel β m rm) :
    (rm = .map none ∧ es = []) ∨ ∃ b res clock, rm = .map (some b) ∧ w.heap[b]? = some (.map res clock) ∧ EntriesRel β es res.toList := by
  unfold mapEs at hm
  split at hm
  · injection hm with hm; simp only [VRel] at hv; exact .inl ⟨hv, hm.symm⟩
  · rename_i i
    split at hm
    · rename_i es' clock hi
      injection hm with hm; subst hm
      simp only [VRel] at hv
      obtain ⟨_, _, res, g1, g2⟩ := H.obj i _ hi
      exact .inr ⟨_, res, clock, hv.2, g1, g2⟩
    · cases hm
  · cases hm

theorem sound_lookup (t : TypeId) (x k : Operand) (okf : Bool) : Sound P (.lookup t x k okf) := by
  intro ai β rom h h' w nt nx' env a v o ho hc hE H hx
  simp only [compOp] at hc
  split at hc
  · rename_i kt e x' k' ht h1 h2
    split at hc
    · rename_i ks z hks hz
      injection hc with hc; subst hc
      obtain ⟨rz, z1, z2⟩ := zeroV_run (β := β) hz
      simp only [AI.exec] at hx
      split at hx
      · rename_i m key hm hkey
        split at hx
        · rename_i es r0 hes hself
          split at hx
          · rename_i r hr
            obtain ⟨e1, rfl, rfl⟩ := okOut (o := some _) hx
            injection e1 with e1
            have hv := ev_rel h1 hE hm
            have hw := ev_rel h2 hE hkey
            rcases mapEs_run hes H hv with ⟨q1, rfl⟩ | ⟨b, res, clock, q1, q2, q3⟩
            · simp only [keyFind, Option.some.injEq] at hr; subst hr
              have hck := fun em => chk_run hks hself hw em w
              have hf : (Instr.findKey kt (a.eval k) []).run P w = .ok none w := by
                obtain ⟨rr, f1, f2⟩ := find_run hks hw w (es := []) (l := []) rfl rfl
                simp only [FoundRel] at f2; rw [f1, f2]
              cases okf with
              | true => exact .val H (rv := .tuple #[rz, .bool false]) (by simp [execOp, ho, Instr.lookup, run_und ht, q1, hck, hf, z1]) (by rw [← e1]; simpa [VRel, VRels] using z2)
              | false => exact .val H (rv := rz) (by simp [execOp, ho, Instr.lookup, run_und ht, q1, hck, hf, z1]) (by rw [← e1]; simpa using z2)
            · have hck := fun em => chk_run hks hself hw em w
              obtain ⟨rr, f1, f2⟩ := find_run hks hw w q3 hr
              cases r with
              | none =>
                simp only [FoundRel] at f2; subst f2
                cases okf with
                | true => exact .val H (rv := .tuple #[rz, .bool false]) (by simp [execOp, ho, Instr.lookup, run_und ht, q1, getObj_run q2 (by simp), hck, f1, z1]) (by rw [← e1]; simpa [VRel, VRels] using z2)
                | false => exact .val H (rv := rz) (by simp [execOp, ho, Instr.lookup, run_und ht, q1, getObj_run q2 (by simp), hck, f1, z1]) (by rw [← e1]; simpa using z2)
              | some p =>
                obtain ⟨i, y⟩ := p
                simp only [FoundRel] at f2
                obtain ⟨rv, _, _, rfl, f3, _⟩ := f2
                cases okf with
                | true => exact .val H (rv := .tuple #[rv, .bool true]) (by simp [execOp, ho, Instr.lookup, run_und ht, q1, getObj_run q2 (by simp), hck, f1]) (by rw [← e1]; simpa [VRel, VRels] using f3)
                | false => exact .val H (rv := rv) (by simp [execOp, ho, Instr.lookup, run_und ht, q1, getObj_run q2 (by simp), hck, f1]) (by rw [← e1]; simpa using f3)
          · cases hx
        · cases hx
      · cases hx
    · cases hc
  · cases hc

end Go.AL

/- Helper text: what is written into maps. -/
namespace Go.AL

variable {P : Program} {β : Beta} {rom : Rom} {h h' : Heap} {w : World} {nt nx' : Nat} {env : Env} {a : Act} {v : AVal}

theorem toList_modify_ents (res : Array MapEntry) (j : Nat) (g : MapEntry → MapEntry) : (res.modify j g).toList = res.toList.modify j g := by simp

/-- A found entry. -/
theorem found_some {res : List MapEntry} {k y : AVal} {j : Nat} {rr : Option (Nat × Value)} (h : FoundRel β res k (some (j, y)) rr) : ∃ rv e ka, rr = some (j, rv) ∧ VRel β y rv ∧ res[j]? = some e ∧ VRel β ka e.key ∧ sameA ka k = true := h

theorem sound_mapUpdate (t : TypeId) (x k y : Operand) : Sound P (.mapUpdate t x k y) := by
  intro ai β rom h h' w nt nx' env a v o ho hc hE H hx
  simp only [compOp] at hc
  split at hc
  · rename_i kt e x' k' y' ht h1 h2 h3
    simp only [Option.map_eq_some_iff] at hc
    obtain ⟨ks, hks, rfl⟩ := hc
    simp only [AI.exec] at hx
    split at hx
    · rename_i i key val hm hkey hval
      have hv := ev_rel h1 hE hm
      have hw := ev_rel h2 hE hkey
      have hu := ev_rel h3 hE hval
      simp only [VRel] at hv
      split at hx
      · rename_i es clock r0 hi hself
        have hck := fun em => chk_run hks hself hw em w
        obtain ⟨_, _, res, q1, q2⟩ := H.obj i _ hi
        split at hx
        · rename_i j y0 hr
          simp only [Option.some.injEq, Prod.mk.injEq] at hx
          obtain ⟨rfl, rfl, rfl⟩ := hx
          obtain ⟨rr, f1, f2⟩ := find_run hks hw w q2 hr
          obtain ⟨rv, e0, ka, rfl, f3, f4, f5, f6⟩ := found_some f2
          obtain ⟨w', rfl, g1, g2⟩ := map_put (clock' := clock) H hi (es' := es.modify j fun e => (key, val, e.2.2)) (res' := res.modify j fun e => { e with key := a.eval k, val := a.eval y })
            (by rw [toList_modify_ents]; exact q2.mod fun x e _ _ he => ⟨hw, hu, he.2.2⟩)
          refine ⟨.skip, undef, _, β, ?_, rfl, by simp [VRel], g1, g2, rfl⟩
          have hst := keyStays (P := P) f6 hw f5 w
          have f4' : res[j]? = some e0 := by rw [← Array.getElem?_toList]; exact f4
          simp only [execOp, ho, Instr.mapUpdate, hv.2, Sem.run_bind, run_und ht, Result.andThen_ok, getObj_run q1 (by simp), hck, f1, f4', Option.map_some, Option.getD_some, hst]
          rw [setObj_run q1 (by simp)]
          simp
        · rename_i hr
          simp only [Option.some.injEq, Prod.mk.injEq] at hx
          obtain ⟨rfl, rfl, rfl⟩ := hx
          obtain ⟨rr, f1, f2⟩ := find_run hks hw w q2 hr
          simp only [FoundRel] at f2; subst f2
          obtain ⟨w', rfl, g1, g2⟩ := map_put (clock' := clock + 1) H hi (es' := es ++ [(key, val, clock)]) (res' := res.push { key := a.eval k, val := a.eval y, born := clock })
            (by rw [Array.toList_push]; exact EntriesRel.snoc ⟨hw, hu, rfl⟩ q2)
          refine ⟨.skip, undef, _, β, ?_, rfl, by simp [VRel], g1, g2, rfl⟩
          simp only [execOp, ho, Instr.mapUpdate, hv.2, Sem.run_bind, run_und ht, Result.andThen_ok, getObj_run q1 (by simp), hck, f1]
          rw [setObj_run q1 (by simp)]
          simp
        · cases hx
      · cases hx
    · cases hx
  · cases hc

theorem sound_mapEntry (t : TypeId) (x k : Operand) : Sound P (.mapEntry t x k) := by
  intro ai β rom h h' w nt nx' env a v o ho hc hE H hx
  simp only [compOp] at hc
  split at hc
  · rename_i kt e x' k' ht h1 h2
    split at hc
    · rename_i ks z hks hz
      injection hc with hc; subst hc
      obtain ⟨rz, z1, z2⟩ := zeroV_run (β := β) hz
      simp only [AI.exec] at hx
      split at hx
      · rename_i i key hm hkey
        have hv := ev_rel h1 hE hm
        have hw := ev_rel h2 hE hkey
        simp only [VRel] at hv
        split at hx
        · rename_i es clock r0 hi hself
          have hck := fun em => chk_run hks hself hw em w
          obtain ⟨_, _, res, q1, q2⟩ := H.obj i _ hi
          split at hx
          · rename_i j y0 hr
            simp only [Option.some.injEq, Prod.mk.injEq] at hx
            obtain ⟨rfl, rfl, rfl⟩ := hx
            obtain ⟨rr, f1, f2⟩ := find_run hks hw w q2 hr
            obtain ⟨rv, e0, ka, rfl, f3, f4, f5, f6⟩ := found_some f2
            obtain ⟨w', rfl, g1, g2⟩ := map_put (clock' := clock) H hi (es' := es.modify j fun e => (key, e.2.1, e.2.2)) (res' := res.modify j fun e => { e with key := a.eval k })
              (by rw [toList_modify_ents]; exact q2.mod fun x e _ _ he => ⟨hw, he.2.1, he.2.2⟩)
            have hst := keyStays (P := P) f6 hw f5 w
            have f4' : res[j]? = some e0 := by rw [← Array.getElem?_toList]; exact f4
            obtain ⟨x0, b1, b2⟩ := q2.at f4
            have hb : bornAt es j = e0.born := by simp [bornAt, b1, b2.2.2]
            refine ⟨.value (.tuple #[rv, goInt e0.born]), _, _, β, ?_, rfl, by simpa [VRel, VRels, hb, goInt] using f3, g1, g2, rfl⟩
            simp only [execOp, ho, Instr.mapEntry, hv.2, Sem.run_bind, run_und ht, Result.andThen_ok, getObj_run q1 (by simp), hck, f1, f4', Option.map_some, Option.getD_some, hst]
            rw [setObj_run q1 (by simp)]
            simp
          · rename_i hr
            simp only [Option.some.injEq, Prod.mk.injEq] at hx
            obtain ⟨rfl, rfl, rfl⟩ := hx
            obtain ⟨rr, f1, f2⟩ := find_run hks hw w q2 hr
            simp only [FoundRel] at f2; subst f2
            obtain ⟨w', rfl, g1, g2⟩ := map_put (clock' := clock + 1) H hi (es' := es ++ [(key, z, clock)]) (res' := res.push { key := a.eval k, val := rz, born := clock })
              (by rw [Array.toList_push]; exact EntriesRel.snoc ⟨hw, z2, rfl⟩ q2)
            refine ⟨.value (.tuple #[rz, goInt clock]), _, _, β, ?_, rfl, by simpa [VRel, VRels, goInt] using z2, g1, g2, rfl⟩
            simp only [execOp, ho, Instr.mapEntry, hv.2, Sem.run_bind, run_und ht, Result.andThen_ok, getObj_run q1 (by simp), hck, f1, z1]
            rw [setObj_run q1 (by simp)]
            simp
          · cases hx
        · cases hx
      · cases hx
    · cases hc
  · cases hc

theorem findIdx_rel {n : Int} : ∀ {es : Ents} {l : List MapEntry}, EntriesRel β es l → (l.findIdx? fun e => (e.born : Int) == n) = es.findIdx? fun e => (e.2.2 : Int) == n
  | [], l, h => by simp only [EntriesRel] at h; subst h; rfl
  | x :: es, _, ⟨y, ys, rfl, h2, h3⟩ => by
    rw [List.findIdx?_cons, List.findIdx?_cons, h2.2.2, findIdx_rel h3]

theorem sound_entryStore (t : TypeId) (x s y : Operand) : Sound P (.entryStore t x s y) := by
  intro ai β rom h h' w nt nx' env a v o ho hc hE H hx
  simp only [compOp] at hc
  split at hc
  · rename_i x' s' y' h1 h2 h3
    injection hc with hc; subst hc
    simp only [AI.exec] at hx
    split at hx
    · rename_i i kd n val hm hs hval
      have hv := ev_rel h1 hE hm
      have hw := ev_rel h2 hE hs
      have hu := ev_rel h3 hE hval
      simp only [VRel] at hv hw
      split at hx
      · rename_i es clock hi
        obtain ⟨_, _, res, q1, q2⟩ := H.obj i _ hi
        split at hx
        · rename_i j hj
          simp only [Option.some.injEq, Prod.mk.injEq] at hx
          obtain ⟨rfl, rfl, rfl⟩ := hx
          obtain ⟨w', rfl, g1, g2⟩ := map_put (clock' := clock) H hi (es' := es.modify j fun e => (e.1, val, e.2.2)) (res' := res.modify j fun e => { e with val := a.eval y })
            (by rw [toList_modify_ents]; exact q2.mod fun x e _ _ he => ⟨he.1, hu, he.2.2⟩)
          have hfi : (res.findIdx? fun e => (e.born : Int) == n) = some j := by
            rw [← hj, ← findIdx_rel q2]
            obtain ⟨l⟩ := res
            simp
          refine ⟨.skip, undef, _, β, ?_, rfl, by simp [VRel], g1, g2, rfl⟩
          simp only [execOp, ho, Instr.entryStore, hv.2, hw, asInt, asIntOf, Sem.run_bind, Sem.run_pure, Result.andThen_ok, getObj_run q1 (by simp), hfi]
          rw [setObj_run q1 (by simp)]
          simp
        · cases hx
      · cases hx
    · cases hx
  · cases hc

theorem sound_delete {t : TypeId} {kt e : TypeId} {ks : KS} (ht : P.underlying t = some (.map kt e)) (hks : keysOf P kt = some ks) {x k : Operand} {x' k' : AOpd} (h1 : compOpd x = some x') (h2 : compOpd k = some k') (t2 : TypeId) (o : Oper)
    (ho : o.op = .call { callee := .builtin .delete, args := #[x, k], argTypes := #[t, t2] })
    (hE : ERel β nt env a.tmps) (H : HRel P β rom h w) (hx : (AI.mapDel ks x' k').exec rom env h β.nx = some (v, h', nx')) : OpOk P β rom h w ((execOp a.eval o).run P w) v h' nx' := by
  simp only [AI.exec] at hx
  split at hx
  · rename_i key hm hkey
    have hv := ev_rel h1 hE hm
    have hw := ev_rel h2 hE hkey
    simp only [VRel] at hv
    split at hx
    · rename_i r0 hself
      have hck := fun em => chk_run hks hself hw em w
      obtain ⟨e1, rfl, rfl⟩ := okOut (o := some _) hx
      injection e1 with e1; subst e1
      exact .val H (rv := .tuple #[]) (by simp [execOp, ho, resolve, invoke, builtin, Builtin.delete_, run_und ht, hv, hck]) (by simp [VRel, VRels])
    · cases hx
  · rename_i i key hm hkey
    have hv := ev_rel h1 hE hm
    have hw := ev_rel h2 hE hkey
    simp only [VRel] at hv
    split at hx
    · rename_i es clock r0 hi hself
      have hck := fun em => chk_run hks hself hw em w
      obtain ⟨_, _, res, q1, q2⟩ := H.obj i _ hi
      split at hx
      · rename_i j y0 hr
        simp only [Option.some.injEq, Prod.mk.injEq] at hx
        obtain ⟨rfl, rfl, rfl⟩ := hx
        obtain ⟨rr, f1, f2⟩ := find_run hks hw w q2 hr
        obtain ⟨rv, e0, ka, rfl, f3, f4, f5, f6⟩ := found_some f2
        obtain ⟨w', rfl, g1, g2⟩ := map_put (clock' := clock) H hi (es' := es.eraseIdx j) (res' := res.eraseIdxIfInBounds j) (by rw [Array.toList_eraseIdxIfInBounds]; exact q2.erase j)
        refine ⟨.value (.tuple #[]), _, _, β, ?_, rfl, by simp [VRel, VRels], g1, g2, rfl⟩
        simp [execOp, ho, resolve, invoke, builtin, Builtin.delete_, run_und ht, hv.2, hck, getObj_run q1 (by simp), f1, setObj_run q1 (by simp)]
      · rename_i hr
        simp only [Option.some.injEq, Prod.mk.injEq] at hx
        obtain ⟨rfl, rfl, rfl⟩ := hx
        obtain ⟨rr, f1, f2⟩ := find_run hks hw w q2 hr
        simp only [FoundRel] at f2; subst f2
        obtain ⟨w', rfl, g1, g2⟩ := map_put (clock' := clock) H hi (es' := es) (res' := res) q2
        refine ⟨.value (.tuple #[]), _, _, β, ?_, rfl, by simp [VRel, VRels], g1, g2, rfl⟩
        simp [execOp, ho, resolve, invoke, builtin, Builtin.delete_, run_und ht, hv.2, hck, getObj_run q1 (by simp), f1, setObj_run q1 (by simp)]
      · cases hx
    · cases hx
  · cases hx

end Go.AL

/- Helper text: slices with three indexes; clear. -/
namespace Go.AL

variable {P : Program} {β : Beta} {rom : Rom} {h h' : Heap} {w : World} {nt nx' : Nat} {env : Env} {a : Act} {v : AVal}

theorem bounds3_run {lo : Option Operand} {lo' : Option AOpd} {hi mx : Operand} {hi' mx' : AOpd} {l n m : Int} {k k' : IntKind} {d cap : Nat} (isS : Bool) (h1 : compOpt lo = some lo') (h2 : compOpd hi = some hi') (h3 : compOpd mx = some mx') (hE : ERel β nt env a.tmps)
    (hl : loOf env lo' = some l) (hn : hi'.ev env = some (.int k n)) (hm : mx'.ev env = some (.int k' m)) (h0 : 0 ≤ l) (hle : l ≤ n) (hlm : n ≤ m) (hcap : m ≤ cap) :
    (Instr.sliceBounds isS d cap (lo.map a.eval) (some (a.eval hi)) (some (a.eval mx))).run P w = .ok (l.toNat, n.toNat, m.toNat) w := by
  have e1 : ∀ code, (Instr.sliceBound (a.eval mx) cap code).run P w = .ok m.toNat w := fun code => sbound_run (P := P) (w := w) h3 hE hm (by omega) cap hcap code
  have e2 : ∀ code, (Instr.sliceBound (a.eval hi) m.toNat code).run P w = .ok n.toNat w := fun code => sbound_run (P := P) (w := w) h2 hE hn (by omega) m.toNat (by omega) code
  cases lo with
  | none =>
    simp [compOpt] at h1; subst h1
    simp [loOf] at hl; subst hl
    simp [Instr.sliceBounds, e1, e2]
  | some x =>
    simp only [compOpt, Option.map_eq_some_iff] at h1
    obtain ⟨y, hy, rfl⟩ := h1
    obtain ⟨kk, hk⟩ := loOf_some hl
    have e3 : ∀ code, (Instr.sliceBound (a.eval x) n.toNat code).run P w = .ok l.toNat w := fun code => sbound_run (P := P) (w := w) hy hE hk h0 n.toNat (by omega) code
    simp [Instr.sliceBounds, e1, e2, e3]

theorem sound_slice3 (t : TypeId) (x : Operand) (lo : Option Operand) (hi mx : Operand) : Sound P (.slice t x lo (some hi) (some mx)) := by
  intro ai β rom h h' w nt nx' env a v o ho hc hE H hx
  simp only [compOp] at hc
  split at hc
  · rename_i e y l m k ht h1 h2 h3 h4
    simp only [Option.map_eq_some_iff] at hc
    obtain ⟨s, hs, rfl⟩ := hc
    obtain ⟨ti, hi', rfl⟩ := sizeAt_run hs
    simp only [AI.exec] at hx
    split at hx
    · rename_i b p z len cap lv kn nv km mv hb hl hn hm
      have hv := ev_rel h1 hE hb
      simp only [VRel] at hv
      split at hx
      · rename_i hcond
        obtain ⟨e1, rfl, rfl⟩ := okOut (o := some _) hx
        injection e1 with e1; subst e1
        obtain ⟨hok, ⟨hv1, rfl, rfl⟩ | ⟨ro, rc, hv1, hv2, hv3, hv4⟩⟩ := hv
        · have e1 : lv = 0 := by omega
          have e2 : nv = 0 := by omega
          have e3 : mv = 0 := by omega
          subst e1 e2 e3
          have hb := bounds3_run (P := P) (w := w) (d := 0) (cap := 0) true h2 h3 h4 hE hl hn hm (by omega) (by omega) (by omega) (by omega)
          refine .val H (rv := .slice none 0 0) ?_ (by simp [VRel, hok])
          simp [execOp, ho, Instr.sliceAt, run_und ht, Instr.slice, hv1, hb, run_siz hi']
        have hb := bounds3_run (P := P) (w := w) (d := len) (cap := rc) true h2 h3 h4 hE hl hn hm hcond.2.1 hcond.2.2.1 hcond.2.2.2.1 (by omega)
        refine .val H (rv := .slice (if mv.toNat = lv.toNat then some ⟨β.blk b, ro, none⟩ else some ⟨β.blk b, ro + lv.toNat * ti.size, none⟩) (nv.toNat - lv.toNat) (mv.toNat - lv.toNat)) ?_ ?_
        · simp only [execOp, ho, Option.map_some, Instr.sliceAt, Sem.run_bind, run_und ht, Result.andThen_ok, Instr.slice, hv1, hb, run_siz hi', Sem.run_pure]
          simp only [addr_add]
        · have e2 : (if mv.toNat = lv.toNat then some (⟨β.blk b, ro, none⟩ : Addr) else some ⟨β.blk b, ro + lv.toNat * ti.size, none⟩) = some ⟨β.blk b, if mv.toNat = lv.toNat then ro else ro + lv.toNat * ti.size, none⟩ := by split <;> rfl
          rw [e2]
          simp only [VRel]
          refine ⟨hok, .inr ⟨_, mv.toNat - lv.toNat, by congr 2; omega, by omega, by omega, fun hp => ?_⟩⟩
          have hne : mv.toNat ≠ lv.toNat := by omega
          obtain ⟨q1, q2⟩ := hv4 (by omega)
          rw [if_neg hne]
          refine ⟨by rw [q1]; omega, ?_⟩
          cases b with
          | arg i => trivial
          | own i =>
            simp only [Beta.fits] at q2 ⊢
            have hz := hcond.1
            have hk : lv.toNat + (mv.toNat - lv.toNat) = mv.toNat := by omega
            have e3 : lv.toNat * z + (mv.toNat - lv.toNat) * z = mv.toNat * z := by rw [← Nat.add_mul, hk]
            have e4 : mv.toNat * z ≤ rc * z := Nat.mul_le_mul_right z (by omega)
            rw [← hz]; omega
      · cases hx
    · cases hx
  · cases hc

theorem sound_clear {t e : TypeId} {n : Nat} {z : List AVal} (ht : P.underlying t = some (.slice e)) (hs : sizeAt P e = some n) (hz : zeroAt P e = some z) (hzl : z.length = n) {x : Operand} {x' : AOpd} (h1 : compOpd x = some x') (o : Oper)
    (ho : o.op = .call { callee := .builtin .clear, args := #[x], argTypes := #[t] })
    (hE : ERel β nt env a.tmps) (H : HRel P β rom h w) (hx : (AI.clearS n z x').exec rom env h β.nx = some (v, h', nx')) : OpOk P β rom h w ((execOp a.eval o).run P w) v h' nx' := by
  obtain ⟨ti, zv, g1, g2, g3⟩ := zeroAt_run hz
  simp only [AI.exec] at hx
  split at hx
  · rename_i hm
    have hv := ev_rel h1 hE hm
    simp only [VRel] at hv
    obtain ⟨e1, rfl, rfl⟩ := okOut (o := some _) hx
    injection e1 with e1; subst e1
    exact .val H (rv := .tuple #[]) (by simp [execOp, ho, resolve, invoke, builtin, Builtin.clear_, run_und ht, hv]) (by simp [VRel, VRels])
  · rename_i i off zz len cap hm
    have hv := ev_rel h1 hE hm
    simp only [VRel] at hv
    split at hx
    · rename_i hl0
      subst hl0
      obtain ⟨e1, rfl, rfl⟩ := okOut (o := some _) hx
      injection e1 with e1; subst e1
      obtain ⟨hok, ⟨hv1, _⟩ | ⟨ro, rc, hv1, hv2, hv3, hv4⟩⟩ := hv
      · exact .val H (rv := .tuple #[]) (by simp [execOp, ho, resolve, invoke, builtin, Builtin.clear_, run_und ht, hv1]) (by simp [VRel, VRels])
      exact .val H (rv := .tuple #[]) (by simp [execOp, ho, resolve, invoke, builtin, Builtin.clear_, run_und ht, hv1]) (by simp [VRel, VRels])
    · rename_i hl0
      obtain ⟨hok, ⟨_, h0, _⟩ | ⟨ro, rc, hv1, hv2, hv3, hv4⟩⟩ := hv
      · exact absurd h0 hl0
      split at hx
      · rename_i cs t' hcs
        split at hx
        · rename_i hcond
          simp only [Option.some.injEq, Prod.mk.injEq] at hx
          obtain ⟨rfl, rfl, rfl⟩ := hx
          have hrel := VRels.flatten (cvals_rel (β := β) _ _ g3) len
          obtain ⟨w', q1, q2, q3⟩ := writeN (P := P) H hcs hcond.2.1 hrel (VRels.one hrel hcond.2.2)
          refine ⟨.value (.tuple #[]), _, w', β, ?_, rfl, by simp [VRel, VRels], q2, q3, rfl⟩
          obtain ⟨r1, _⟩ := hv4 (by omega)
          simp only [Beta.offOf, Nat.zero_add] at r1
          have hzc : (Builtin.zeroCells zv.cells len).toList = List.flatten (List.replicate len zv.cells.toList) := by
            rw [Builtin.zeroCells]; exact range_flatten zv.cells len
          have hll : ∃ k, len = k + 1 := ⟨len - 1, by omega⟩
          obtain ⟨k, rfl⟩ := hll
          rw [r1] at hv1
          simp [execOp, ho, resolve, invoke, builtin, Builtin.clear_, run_und ht, hv1, run_zer g1 g2, hzc, q1]
        · cases hx
      · cases hx
  · cases hx

end Go.AL

/- Helper text: every plain operation that is taken is the model's. -/
namespace Go.AL

variable {P : Program}

theorem sound_builtin (c : Call) (b : Builtin) (hb : c.callee = .builtin b) : Sound P (.call c) := by
  intro ai β rom h h' w nt nx' env a v o ho hc hE H hx
  obtain ⟨callee, args, ts⟩ := c
  simp only at hb
  subst hb
  simp only [compOp] at hc
  obtain ⟨args⟩ := args
  obtain ⟨ts⟩ := ts
  simp only at hc
  unfold compBuiltin at hc
  split at hc
  · rename_i x t
    split at hc
    · rename_i y e h1 h2
      injection hc with hc; subst hc
      exact sound_lenS h2 h1 o ho hE H hx
    · rename_i y h1 h2
      injection hc with hc; subst hc
      exact sound_lenStr h2 h1 o ho hE H hx
    · rename_i y k e h1 h2
      injection hc with hc; subst hc
      exact sound_lenM h2 h1 o ho hE H hx
    · cases hc
  · rename_i s x t t'
    split at hc
    · rename_i p q e u h1 h2 h3 h4
      split at hc
      · rename_i n k z g1 g2 g3
        split at hc
        · rename_i hz
          injection hc with hc; subst hc
          exact sound_append h3 h4 g1 g2 g3 hz h1 h2 o ho hE H hx
        · cases hc
      · cases hc
    · cases hc
  · rename_i x y _
    split at hc
    · rename_i p q h1 h2
      injection hc with hc; subst hc
      exact sound_min h1 h2 _ o ho hE H hx
    · cases hc
  · rename_i x y _
    split at hc
    · rename_i p q h1 h2
      injection hc with hc; subst hc
      exact sound_max h1 h2 _ o ho hE H hx
    · cases hc
  · rename_i x t
    split at hc
    · rename_i p e h1 h2
      split at hc
      · rename_i n z g1 g2
        split at hc
        · rename_i hz
          injection hc with hc; subst hc
          exact sound_clear h2 g1 g2 hz h1 o ho hE H hx
        · cases hc
      · cases hc
    · cases hc
  · rename_i x y t t2
    split at hc
    · rename_i p q k e h1 h2 h3
      simp only [Option.map_eq_some_iff] at hc
      obtain ⟨ks, hks, rfl⟩ := hc
      exact sound_delete h3 hks h1 h2 t2 o ho hE H hx
    · cases hc
  · cases hc

theorem comp_sound (op : Op) : Sound P op := by
  cases op with
  | move x => exact sound_move x
  | assign x => exact sound_assign x
  | pick c a b => exact sound_pick c a b
  | alloc t => exact sound_alloc t
  | box t x => exact sound_box t x
  | build t ps => exact sound_build t ps
  | buildSlice t n ps => exact sound_buildSlice t n ps
  | load t x => exact sound_load t x
  | store t a x => exact sound_store t a x
  | nilCheck x => exact sound_nilCheck x
  | binOp op t x y u => exact sound_binOp op t x y u
  | unOp op t x =>
    cases op with
    | not => exact sound_not t x
    | neg => exact sound_neg t x
    | _ => intro ai β rom h h' w nt nx' env a v o ho hc; simp [compOp] at hc
  | convert s d x => exact sound_convert s d x
  | makeFunc f first caps =>
    cases f with
    | func f => exact sound_makeFunc f first caps
    | _ => intro ai β rom h h' w nt nx' env a v o ho hc; simp [compOp] at hc
  | makeMap t r =>
    cases r with
    | none => exact sound_makeMap t
    | some r => intro ai β rom h h' w nt nx' env a v o ho hc; simp [compOp] at hc
  | makeSlice t l c => exact sound_makeSlice t l c
  | slice t x lo hi mx =>
    cases mx with
    | none => exact sound_slice t x lo hi
    | some m =>
      cases hi with
      | some n => exact sound_slice3 t x lo n m
      | none => intro ai β rom h h' w nt nx' env a v o ho hc; simp [compOp] at hc
  | fieldAddr t x f => exact sound_fieldAddr t x f
  | field t x f => exact sound_field t x f
  | indexAddr t x i => exact sound_indexAddr t x i
  | index t x i => exact sound_index t x i
  | extract x i => exact sound_extract x i
  | lookup t x k b => exact sound_lookup t x k b
  | mapUpdate t x k y => exact sound_mapUpdate t x k y
  | mapEntry t x k => exact sound_mapEntry t x k
  | entryStore t x s y => exact sound_entryStore t x s y
  | call c =>
    cases hcl : c.callee with
    | builtin b => exact sound_builtin c b hcl
    | value f => intro ai β rom h h' w nt nx' env a v o ho hc; obtain ⟨_, _, _⟩ := c; simp only at hcl; subst hcl; simp [compOp] at hc
    | invoke r m => intro ai β rom h h' w nt nx' env a v o ho hc; obtain ⟨_, _, _⟩ := c; simp only at hcl; subst hcl; simp [compOp] at hc
  | _ => intro ai β rom h h' w nt nx' env a v o ho hc; simp [compOp] at hc

end Go.AL
