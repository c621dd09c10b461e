/- Helper text: abstract values and heaps, and how they stand for the model's values and worlds. -/
import Derived.RangeFuncIn
import Derived.OrdersIn
import Derived.Laws.Sem
import Derived.Laws.World
namespace Go.AL

/-- A block's name: of the run's own memory, or of what came in (read only). -/
inductive Bid where
  | own (i : Nat)
  | arg (i : Nat)
  deriving DecidableEq, Inhabited

/-- Abstract values. 'any' stands for whatever value. A slice's 'cap' is what it surely has. -/
inductive AVal where
  | any
  | bool (b : Bool)
  | int (k : IntKind) (n : Int)
  | str (s : ByteArray)
  | nilp
  | ptr (b : Bid) (off : Nat)
  | nils
  | slice (b : Bid) (off esz len cap : Nat)
  | nilm
  | map (b : Bid)
  | nilf
  | func (f : FuncId) (first caps : List AVal)
  | yld (b : Bid)
  | nili
  | iface (t : TypeId) (v : AVal)
  | agg (cs : List AVal)
  | tup (cs : List AVal)
  deriving Inhabited

/-- What abstract names stand for. -/
structure Beta where
  nx : Nat
  blk : Bid → Nat
  off : Nat → Nat
  tot : Nat → Nat
  fp : Nat → Nat → Prop

def Beta.offOf (β : Beta) : Bid → Nat
  | .own _ => 0
  | .arg i => β.off i

def Beta.ok (β : Beta) : Bid → Prop
  | .own i => i < β.nx
  | .arg _ => True

/-- A slice's places lie in its block. -/
def Beta.fits (β : Beta) : Bid → Nat → Nat → Prop
  | .own i, off, n => off + n ≤ β.tot i
  | .arg _, _, _ => True

mutual
def VRel (β : Beta) : AVal → Value → Prop
  | .any, _ => True
  | .bool b, v => v = .bool b
  | .int k n, v => v = .int k n
  | .str s, v => v = .string s
  | .nilp, v => v = .pointer none
  | .ptr b off, v => β.ok b ∧ v = .pointer (some ⟨β.blk b, β.offOf b + off, none⟩)
  | .nils, v => v = .slice none 0 0
  | .slice b off esz len cap, v => β.ok b ∧ ∃ roff rcap, v = .slice (some ⟨β.blk b, roff, none⟩) len rcap ∧ len ≤ rcap ∧ cap ≤ rcap ∧ (0 < rcap → roff = β.offOf b + off ∧ β.fits b off (rcap * esz))
  | .nilm, v => v = .map none
  | .map b, v => β.ok b ∧ v = .map (some (β.blk b))
  | .nilf, v => v = .nilFunc
  | .func f fs cs, v => ∃ rf rc, v = .func (.func f) rf rc ∧ VRels β fs rf.toList ∧ VRels β cs rc.toList
  | .yld b, v => β.ok b ∧ v = .func (.yield (β.blk b)) #[] #[]
  | .nili, v => v = .nilIface
  | .iface t x, v => ∃ r, v = .iface t r ∧ VRel β x r
  | .agg cs, v => ∃ rc, v = .agg rc ∧ VRels β cs rc.toList
  | .tup cs, v => ∃ rc, v = .tuple rc ∧ VRels β cs rc.toList
def VRels (β : Beta) : List AVal → List Value → Prop
  | [], l => l = []
  | c :: cs, l => ∃ r rs, l = r :: rs ∧ VRel β c r ∧ VRels β cs rs
end

/-- Later names: what was named keeps its meaning. -/
structure Ext (β β' : Beta) : Prop where
  nx : β.nx ≤ β'.nx
  own : ∀ i, i < β.nx → β'.blk (.own i) = β.blk (.own i) ∧ β'.tot i = β.tot i
  arg : ∀ i, β'.blk (.arg i) = β.blk (.arg i) ∧ β'.off i = β.off i

theorem Ext.refl (β : Beta) : Ext β β := ⟨Nat.le_refl _, fun _ _ => ⟨rfl, rfl⟩, fun _ => ⟨rfl, rfl⟩⟩
theorem Ext.trans {a b c : Beta} (h : Ext a b) (k : Ext b c) : Ext a c :=
  ⟨Nat.le_trans h.nx k.nx, fun i hi => by
    obtain ⟨a1, a2⟩ := h.own i hi
    obtain ⟨b1, b2⟩ := k.own i (Nat.lt_of_lt_of_le hi h.nx)
    exact ⟨b1.trans a1, b2.trans a2⟩, fun i => ⟨(k.arg i).1.trans (h.arg i).1, (k.arg i).2.trans (h.arg i).2⟩⟩

theorem Ext.okb {β β' : Beta} (e : Ext β β') {b : Bid} (h : β.ok b) : β'.ok b := by
  cases b with
  | own i => exact Nat.lt_of_lt_of_le h e.nx
  | arg i => trivial
theorem Ext.blk {β β' : Beta} (e : Ext β β') {b : Bid} (h : β.ok b) : β'.blk b = β.blk b := by
  cases b with
  | own i => exact (e.own i h).1
  | arg i => exact (e.arg i).1
theorem Ext.offOf {β β' : Beta} (e : Ext β β') (b : Bid) : β'.offOf b = β.offOf b := by
  cases b with
  | own i => rfl
  | arg i => exact (e.arg i).2
theorem Ext.fits {β β' : Beta} (e : Ext β β') {b : Bid} (h : β.ok b) {o c : Nat} (hf : β.fits b o c) : β'.fits b o c := by
  cases b with
  | own i => obtain ⟨_, h2⟩ := e.own i h; simp only [Beta.fits] at *; rw [h2]; exact hf
  | arg i => trivial

mutual
theorem VRel.ext {β β' : Beta} (e : Ext β β') : ∀ (a : AVal) (v : Value), VRel β a v → VRel β' a v
  | .any, _, _ => by simp [VRel]
  | .bool _, _, h => by simpa [VRel] using h
  | .int _ _, _, h => by simpa [VRel] using h
  | .str _, _, h => by simpa [VRel] using h
  | .nilp, _, h => by simpa [VRel] using h
  | .ptr b off, _, h => by
    simp only [VRel] at h ⊢
    exact ⟨e.okb h.1, by rw [e.blk h.1, e.offOf]; exact h.2⟩
  | .nils, _, h => by simpa [VRel] using h
  | .slice b off esz len cap, _, h => by
    simp only [VRel] at h ⊢
    obtain ⟨h1, ro, rc, h2, h3, h4, h5⟩ := h
    refine ⟨e.okb h1, ro, rc, by rw [e.blk h1]; exact h2, h3, h4, fun hp => ?_⟩
    rw [e.offOf]; exact ⟨(h5 hp).1, e.fits h1 (h5 hp).2⟩
  | .nilm, _, h => by simpa [VRel] using h
  | .map b, _, h => by
    simp only [VRel] at h ⊢
    exact ⟨e.okb h.1, by rw [e.blk h.1]; exact h.2⟩
  | .nilf, _, h => by simpa [VRel] using h
  | .func f fs cs, _, h => by
    simp only [VRel] at h ⊢
    obtain ⟨rf, rc, h1, h2, h3⟩ := h
    exact ⟨rf, rc, h1, VRels.ext e fs _ h2, VRels.ext e cs _ h3⟩
  | .yld b, _, h => by
    simp only [VRel] at h ⊢
    exact ⟨e.okb h.1, by rw [e.blk h.1]; exact h.2⟩
  | .nili, _, h => by simpa [VRel] using h
  | .iface t x, _, h => by
    simp only [VRel] at h ⊢
    obtain ⟨r, h1, h2⟩ := h
    exact ⟨r, h1, VRel.ext e x _ h2⟩
  | .agg cs, _, h => by
    simp only [VRel] at h ⊢
    obtain ⟨r, h1, h2⟩ := h
    exact ⟨r, h1, VRels.ext e cs _ h2⟩
  | .tup cs, _, h => by
    simp only [VRel] at h ⊢
    obtain ⟨r, h1, h2⟩ := h
    exact ⟨r, h1, VRels.ext e cs _ h2⟩
theorem VRels.ext {β β' : Beta} (e : Ext β β') : ∀ (as : List AVal) (l : List Value), VRels β as l → VRels β' as l
  | [], _, h => by simpa [VRels] using h
  | c :: cs, _, h => by
    simp only [VRels] at h ⊢
    obtain ⟨r, rs, h1, h2, h3⟩ := h
    exact ⟨r, rs, h1, VRel.ext e c _ h2, VRels.ext e cs _ h3⟩
end

theorem VRels.length {β : Beta} : ∀ {as : List AVal} {l : List Value}, VRels β as l → as.length = l.length
  | [], l, h => by simp only [VRels] at h; simp [h]
  | c :: cs, l, h => by
    simp only [VRels] at h
    obtain ⟨r, rs, rfl, _, h3⟩ := h
    simp [h3.length]
theorem VRels.get {β : Beta} : ∀ {as : List AVal} {l : List Value}, VRels β as l → ∀ {i : Nat} {a : AVal}, as[i]? = some a → ∃ r, l[i]? = some r ∧ VRel β a r
  | [], l, h, i, a, ha => by simp at ha
  | c :: cs, l, h, i, a, ha => by
    simp only [VRels] at h
    obtain ⟨r, rs, rfl, h2, h3⟩ := h
    cases i with
    | zero => simp at ha; subst ha; exact ⟨r, rfl, h2⟩
    | succ i => simp at ha; simpa using h3.get ha
theorem VRels.of_get {β : Beta} : ∀ {as : List AVal} {l : List Value}, as.length = l.length → (∀ (i : Nat) (a : AVal) (r : Value), as[i]? = some a → l[i]? = some r → VRel β a r) → VRels β as l
  | [], l, h, _ => by simp at h; simp [VRels, List.eq_nil_of_length_eq_zero h.symm]
  | c :: cs, [], h, _ => by simp at h
  | c :: cs, r :: rs, h, hg => by
    simp only [VRels]
    exact ⟨r, rs, rfl, hg 0 c r rfl rfl, VRels.of_get (by simpa using h) (fun i a r h1 h2 => hg (i + 1) a r (by simpa using h1) (by simpa using h2))⟩
theorem VRels.append {β : Beta} : ∀ {as : List AVal} {l : List Value} {bs : List AVal} {m : List Value}, VRels β as l → VRels β bs m → VRels β (as ++ bs) (l ++ m)
  | [], l, bs, m, h, k => by simp only [VRels] at h; subst h; simpa using k
  | c :: cs, l, bs, m, h, k => by
    simp only [VRels] at h
    obtain ⟨r, rs, rfl, h2, h3⟩ := h
    exact ⟨r, rs ++ m, rfl, h2, h3.append k⟩
theorem VRels.nil {β : Beta} : VRels β [] [] := by simp [VRels]
theorem VRels.cons {β : Beta} {a : AVal} {as : List AVal} {r : Value} {rs : List Value} (h : VRel β a r) (k : VRels β as rs) : VRels β (a :: as) (r :: rs) := ⟨r, rs, rfl, h, k⟩
theorem VRels.set {β : Beta} : ∀ {as : List AVal} {l : List Value} {i : Nat} {a : AVal} {r : Value}, VRels β as l → VRel β a r → VRels β (as.set i a) (l.set i r)
  | [], l, i, a, r, h, k => by simp only [VRels] at h; subst h; simp [VRels]
  | c :: cs, l, i, a, r, h, k => by
    simp only [VRels] at h
    obtain ⟨r', rs, rfl, h2, h3⟩ := h
    cases i with
    | zero => exact ⟨r, rs, rfl, k, h3⟩
    | succ i => exact ⟨r', rs.set i r, rfl, h2, h3.set k⟩
theorem VRels.take {β : Beta} {n : Nat} : ∀ {as : List AVal} {l : List Value}, VRels β as l → VRels β (as.take n) (l.take n) := by
  intro as l h
  refine VRels.of_get (by simp [h.length]) fun i a r h1 h2 => ?_
  rw [List.getElem?_take] at h1 h2
  split at h1
  · rename_i hlt
    simp only [hlt, if_true] at h2
    obtain ⟨r', hr', hv⟩ := h.get h1
    rw [h2] at hr'; injection hr' with e; exact e ▸ hv
  · cases h1
theorem VRels.drop {β : Beta} {n : Nat} : ∀ {as : List AVal} {l : List Value}, VRels β as l → VRels β (as.drop n) (l.drop n) := by
  intro as l h
  refine VRels.of_get (by simp [h.length]) fun i a r h1 h2 => ?_
  rw [List.getElem?_drop] at h1 h2
  obtain ⟨r', hr', hv⟩ := h.get h1
  rw [h2] at hr'; injection hr' with e; exact e ▸ hv

/-- The cells of an abstract value. -/
def AVal.cells : AVal → List AVal
  | .agg cs => cs
  | v => [v]
theorem VRel.cells {β : Beta} {a : AVal} {v : Value} (h : VRel β a v) (ha : a ≠ .any) : VRels β a.cells v.cells.toList := by
  cases a with
  | any => exact absurd rfl ha
  | agg cs =>
    simp only [VRel] at h
    obtain ⟨rc, rfl, h2⟩ := h
    exact h2
  | bool b => simp only [VRel] at h; subst h; exact ⟨_, [], rfl, by simp [VRel], VRels.nil⟩
  | int k n => simp only [VRel] at h; subst h; exact ⟨_, [], rfl, by simp [VRel], VRels.nil⟩
  | str s => simp only [VRel] at h; subst h; exact ⟨_, [], rfl, by simp [VRel], VRels.nil⟩
  | nilp => simp only [VRel] at h; subst h; exact ⟨_, [], rfl, by simp [VRel], VRels.nil⟩
  | ptr b o => have h' := h; simp only [VRel] at h'; obtain ⟨_, rfl⟩ := h'; exact ⟨_, [], rfl, h, VRels.nil⟩
  | nils => simp only [VRel] at h; subst h; exact ⟨_, [], rfl, by simp [VRel], VRels.nil⟩
  | slice b o z l c => have h' := h; simp only [VRel] at h'; obtain ⟨_, _, _, rfl, _⟩ := h'; exact ⟨_, [], rfl, h, VRels.nil⟩
  | nilm => simp only [VRel] at h; subst h; exact ⟨_, [], rfl, by simp [VRel], VRels.nil⟩
  | map b => have h' := h; simp only [VRel] at h'; obtain ⟨_, rfl⟩ := h'; exact ⟨_, [], rfl, h, VRels.nil⟩
  | nilf => simp only [VRel] at h; subst h; exact ⟨_, [], rfl, by simp [VRel], VRels.nil⟩
  | func f fs cs => have h' := h; simp only [VRel] at h'; obtain ⟨_, _, rfl, _⟩ := h'; exact ⟨_, [], rfl, h, VRels.nil⟩
  | yld b => have h' := h; simp only [VRel] at h'; obtain ⟨_, rfl⟩ := h'; exact ⟨_, [], rfl, h, VRels.nil⟩
  | nili => simp only [VRel] at h; subst h; exact ⟨_, [], rfl, by simp [VRel], VRels.nil⟩
  | iface t x => have h' := h; simp only [VRel] at h'; obtain ⟨_, rfl, _⟩ := h'; exact ⟨_, [], rfl, h, VRels.nil⟩
  | tup cs => have h' := h; simp only [VRel] at h'; obtain ⟨_, rfl, _⟩ := h'; exact ⟨_, [], rfl, h, VRels.nil⟩

/-- A test, then the rest: what evaluates to the rest alone. -/
def gd (b : Bool) (p : Prop) : Prop := match b with | true => p | false => False
theorem gd_iff {b : Bool} {p : Prop} : gd b p ↔ b = true ∧ p := by cases b <;> simp [gd]

end Go.AL
