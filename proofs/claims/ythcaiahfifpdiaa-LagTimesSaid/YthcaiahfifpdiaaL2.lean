import Derived.Test.YthcaiahfifpdiaaL1
import Derived.ChangeSlices
import Derived.Deep.SlicePairs
set_option linter.unusedVariables false

/- Helper text: told heaps, and operations on them. -/
namespace Go.SL
open Go.AL

inductive SO where
  | cells (cs : List SV) (t : TypeId)
  | loop (st : LoopState) (pend : Option Code) (env : SEnv) (nt : Nat) (ps : List Nat) (asg body : ACode) (d : Bid)
  | defs
  deriving Inhabited

abbrev SHeap := List (Nat × SO)
def hget : SHeap → Nat → Option SO
  | [], _ => none
  | p :: r, j => bif Nat.beq p.1 j then some p.2 else hget r j
def hset : SHeap → Nat → SO → SHeap
  | [], j, o => [(j, o)]
  | p :: r, j, o => bif Nat.beq p.1 j then (j, o) :: r else p :: hset r j o
def hdel : SHeap → Nat → SHeap
  | [], _ => []
  | p :: r, j => bif Nat.beq p.1 j then hdel r j else p :: hdel r j
/-- The same, told whole before one goes on. -/
def hsetK {R : Sort _} : SHeap → Nat → SO → (SHeap → R) → R
  | [], j, o, K => K [(j, o)]
  | p :: r, j, o, K => bif Nat.beq p.1 j then K ((j, o) :: r) else hsetK r j o fun r' => K (p :: r')
def hdelK {R : Sort _} : SHeap → Nat → (SHeap → R) → R
  | [], _, K => K []
  | p :: r, j, K => bif Nat.beq p.1 j then hdelK r j K else hdelK r j fun r' => K (p :: r')
theorem hsetK_eq {R : Sort _} : ∀ (h : SHeap) (j : Nat) (o : SO) (K : SHeap → R), hsetK h j o K = K (hset h j o)
  | [], _, _, _ => rfl
  | p :: r, j, o, K => by
    simp only [hsetK, hset]
    cases Nat.beq p.1 j with
    | true => rfl
    | false => exact hsetK_eq r j o _
theorem hdelK_eq {R : Sort _} : ∀ (h : SHeap) (j : Nat) (K : SHeap → R), hdelK h j K = K (hdel h j)
  | [], _, _ => rfl
  | p :: r, j, K => by
    simp only [hdelK, hdel]
    cases Nat.beq p.1 j with
    | true => exact hdelK_eq r j _
    | false => exact hdelK_eq r j _
theorem hget_set {j k : Nat} {o x : SO} : ∀ {h : SHeap}, hget (hset h j o) k = some x → (k = j ∧ x = o) ∨ (k ≠ j ∧ hget h k = some x)
  | [], hx => by
    simp only [hset, hget] at hx
    cases hb : Nat.beq j k with
    | true => rw [hb] at hx; exact .inl ⟨(Nat.eq_of_beq_eq_true hb).symm, (Option.some.inj hx).symm⟩
    | false => rw [hb] at hx; cases hx
  | p :: r, hx => by
    simp only [hset] at hx
    cases hp : Nat.beq p.1 j with
    | true =>
      rw [hp] at hx
      simp only [cond_true, hget] at hx
      cases hb : Nat.beq j k with
      | true => rw [hb] at hx; exact .inl ⟨(Nat.eq_of_beq_eq_true hb).symm, (Option.some.inj hx).symm⟩
      | false =>
        rw [hb] at hx
        have hj := Nat.eq_of_beq_eq_true hp
        refine .inr ⟨(fun e => by rw [e, Nat.beq_refl] at hb; cases hb), ?_⟩
        simp only [hget, hj, hb]; exact hx
    | false =>
      rw [hp] at hx
      simp only [cond_false, hget] at hx
      cases hb : Nat.beq p.1 k with
      | true =>
        rw [hb] at hx
        have hk := Nat.eq_of_beq_eq_true hb
        refine .inr ⟨(fun e => by rw [hk, e, Nat.beq_refl] at hp; cases hp), ?_⟩
        simp only [hget, hb]; exact hx
      | false =>
        rw [hb] at hx
        rcases hget_set hx with h1 | ⟨h1, h2⟩
        · exact .inl h1
        · exact .inr ⟨h1, by simp only [hget, hb]; exact h2⟩
theorem hget_del {j k : Nat} {x : SO} : ∀ {h : SHeap}, hget (hdel h j) k = some x → k ≠ j ∧ hget h k = some x
  | [], hx => by cases hx
  | p :: r, hx => by
    simp only [hdel] at hx
    cases hp : Nat.beq p.1 j with
    | true =>
      rw [hp] at hx
      obtain ⟨h1, h2⟩ := hget_del hx
      refine ⟨h1, ?_⟩
      have hj := Nat.eq_of_beq_eq_true hp
      have : Nat.beq p.1 k = false := by
        cases hb : Nat.beq p.1 k with
        | false => rfl
        | true => exact absurd ((Nat.eq_of_beq_eq_true hb).symm.trans hj) h1
      simp only [hget, this]; exact h2
    | false =>
      rw [hp] at hx
      simp only [cond_false, hget] at hx
      cases hb : Nat.beq p.1 k with
      | true =>
        rw [hb] at hx
        have hk := Nat.eq_of_beq_eq_true hb
        refine ⟨(fun e => by rw [hk, e, Nat.beq_refl] at hp; cases hp), ?_⟩
        simp only [hget, hb]; exact hx
      | false =>
        rw [hb] at hx
        obtain ⟨h1, h2⟩ := hget_del hx
        exact ⟨h1, by simp only [hget, hb]; exact h2⟩

/-- A told object stands for one. -/
def OR : SO → AObj → Prop
  | .cells cs t, o => o = .cells (flat cs) t
  | .loop st pend env nt ps asg body d, o => ∃ aenv, o = .loop st pend aenv nt ps asg body d ∧ EnvR env aenv
  | .defs, o => o = .defs
def HR (h : SHeap) (a : Heap) : Prop := ∀ j o, hget h j = some o → ∃ ao, a j = some ao ∧ OR o ao
theorem HR.set {h : SHeap} {a : Heap} (H : HR h a) {j : Nat} {o : SO} {ao : AObj} (ho : OR o ao) : HR (hset h j o) (upd a j (some ao)) := by
  intro k x hx
  rcases hget_set hx with ⟨rfl, rfl⟩ | ⟨h1, h2⟩
  · exact ⟨ao, upd_same _ _ _, ho⟩
  · rw [upd_ne _ _ h1]; exact H k x h2
theorem HR.del {h : SHeap} {a : Heap} (H : HR h a) {j : Nat} {v : Option AObj} : HR (hdel h j) (upd a j v) := by
  intro k x hx
  obtain ⟨h1, h2⟩ := hget_del hx
  rw [upd_ne _ _ h1]; exact H k x h2

/-- What came in. -/
abbrev SRom := Nat → Option (List SV × TypeId)
noncomputable def γr (r : SRom) : Rom := fun i => (r i).map fun p => (flat p.1, p.2)

def bcells (r : SRom) (h : SHeap) : Bid → Option (List SV)
  | .own i => match hget h i with
    | some (.cells cs _) => some cs
    | _ => none
  | .arg i => match r i with
    | some p => some p.1
    | none => none
theorem bcells_spec {r : SRom} {h : SHeap} {a : Heap} (H : HR h a) {b : Bid} {cs : List SV} (hb : bcells r h b = some cs) : blockCells (γr r) a b = some (flat cs) := by
  cases b with
  | own i =>
    simp only [bcells] at hb
    split at hb
    · rename_i cs' t hi
      injection hb with hb; subst hb
      obtain ⟨ao, h1, h2⟩ := H i _ hi
      simp only [OR] at h2; subst h2
      simp only [blockCells, h1]
    · cases hb
  | arg i =>
    simp only [bcells] at hb
    split at hb
    · rename_i p hp
      injection hb with hb; subst hb
      simp only [blockCells, γr, hp, Option.map_some]
    · cases hb

/-- A value's cells. -/
def vcells : SV → Option (List SV)
  | .agg cs => some cs
  | v => bif v.one then some [v] else none
theorem vcells_spec {v : SV} {cs : List SV} (h : vcells v = some cs) : (γ v).cells = flat cs ∧ (γ v).isAny = false ∧ (∀ (x : List AVal), γ v = .tup x → False) := by
  unfold vcells at h
  split at h
  · injection h with h; subst h
    simp [γ, AVal.cells, AVal.isAny]
  · rename_i hn
    cases ho : v.one with
    | false => rw [ho] at h; cases h
    | true =>
      rw [ho] at h
      simp only [cond_true, Option.some.injEq] at h
      subst h
      obtain ⟨h1, h2⟩ := one_γ ho
      rw [flat_one h2, cellV_γ ho]
      cases hv : γ v <;> rw [hv] at h1 <;> simp_all [AVal.one, AVal.cells, AVal.isAny, flat]

/-- Parts are put in. -/
def fillS : List (Nat × Nat × AOpd) → SEnv → List SV → (List SV → Prop) → Prop
  | [], _, cs, K => K cs
  | (off, n, x) :: ps, e, cs, K => match evS e x with
    | some v => match vcells v with
      | some vc => putN cs off n vc fun cs' => fillS ps e cs' K
      | none => False
    | none => False
theorem fillS_spec {e : SEnv} {a : Env} (hE : EnvR e a) : ∀ {ps : List (Nat × Nat × AOpd)} {cs : List SV} {K : List SV → Prop}, fillS ps e cs K → ∃ r us, K r ∧ evParts a ps = some us ∧ fillA (flat cs) us = some (flat r)
  | [], cs, K, h => ⟨cs, [], h, rfl, rfl⟩
  | (off, n, x) :: ps, cs, K, h => by
    simp only [fillS] at h
    split at h
    · rename_i v hv
      split at h
      · rename_i vc hvc
        obtain ⟨cs', h1, h2, h3, h4⟩ := putN_spec h
        obtain ⟨r, us, h5, h6, h7⟩ := fillS_spec hE h1
        obtain ⟨g1, g2, _⟩ := vcells_spec hvc
        refine ⟨r, (off, n, γ v) :: us, h5, by simp only [evParts, evS_spec hE hv, h6], ?_⟩
        simp only [fillA]
        rw [g1, if_pos ⟨h3, h4, g2⟩, ← h2, h7]
      · exact h.elim
    · exact h.elim

/-- An array's part, made simple where it is known. -/
def asubN (a : SV) (lo n : SI) : SV :=
  match a, lo, n with
  | .alit z l, .lit x, .lit y => bif plain l && (decide (0 ≤ x) && (decide (0 ≤ y) && Nat.ble ((x.toNat + y.toNat) * z) l.length)) then .alit z ((l.drop (x.toNat * z)).take (y.toNat * z)) else .asub a lo n
  | a, lo, n => .asub a lo n
def acatN (a b : SV) : SV :=
  match a, b with
  | .alit z l, .alit z' l' => bif Nat.beq z z' && (plain l && (plain l' && (Nat.beq (l.length % z) 0 && Nat.beq (l'.length % z) 0))) then .alit z (l ++ l') else .acat a b
  | a, b => .acat a b

theorem rows_asub {a : SV} {lo n : SI} (h0 : 0 ≤ lo.v) (h1 : 0 ≤ n.v) (h2 : lo.v + n.v ≤ a.cnt.v) : rows (.asub a lo n) = ((rows a).drop (lo.v.toNat * a.esz)).take (n.v.toNat * a.esz) ∧
    (lo.v.toNat * a.esz + n.v.toNat * a.esz ≤ (rows a).length) := by
  have hle : (lo.v.toNat + n.v.toNat) * a.esz ≤ a.cnt.v.toNat * a.esz := Nat.mul_le_mul_right _ (by omega)
  rw [Nat.add_mul] at hle
  refine ⟨?_, by rw [rows_length]; exact hle⟩
  apply List.ext_getElem?
  intro x
  have hl : (rows (.asub a lo n)).length = n.v.toNat * a.esz := by rw [rows_length]; rfl
  rw [drop_take_get]
  by_cases hx : x < n.v.toNat * a.esz
  · have hz : 0 < a.esz := by
      rcases Nat.eq_zero_or_pos a.esz with h | h
      · rw [h] at hx; omega
      · exact h
    have hq : x / a.esz < n.v.toNat := by rw [Nat.mul_comm] at hx; exact Nat.div_lt_of_lt_mul hx
    have hr : x % a.esz < a.esz := Nat.mod_lt _ hz
    have hxe : x = x / a.esz * a.esz + x % a.esz := by rw [Nat.mul_comm]; exact (Nat.div_add_mod _ _).symm
    rw [if_pos hx]
    have e1 : (rows (.asub a lo n))[x]? = (fix a.esz (elem (.asub a lo n) (x / a.esz)))[x % a.esz]? := by
      conv => lhs; rw [hxe]
      exact rows_get (v := .asub a lo n) hr hq
    have e2 : lo.v.toNat * a.esz + x = (lo.v.toNat + x / a.esz) * a.esz + x % a.esz := by rw [Nat.add_mul]; omega
    rw [e1, e2, rows_get hr (by omega)]
    simp only [elem]
    have e3 : (lo.v + ((x / a.esz : Nat) : Int)).toNat = lo.v.toNat + x / a.esz := by
      generalize x / a.esz = q
      omega
    rw [e3]
  · rw [if_neg hx, List.getElem?_eq_none (by omega)]
theorem rows_asubN {a : SV} {lo n : SI} (h0 : 0 ≤ lo.v) (h1 : 0 ≤ n.v) (h2 : lo.v + n.v ≤ a.cnt.v) : rows (asubN a lo n) = ((rows a).drop (lo.v.toNat * a.esz)).take (n.v.toNat * a.esz) ∧ (asubN a lo n).cnt.v = n.v ∧ (asubN a lo n).esz = a.esz ∧ (asubN a lo n).isArr = true := by
  have key : rows (.asub a lo n) = ((rows a).drop (lo.v.toNat * a.esz)).take (n.v.toNat * a.esz) ∧ (SV.asub a lo n).cnt.v = n.v ∧ (SV.asub a lo n).esz = a.esz ∧ (SV.asub a lo n).isArr = true := ⟨(rows_asub h0 h1 h2).1, rfl, rfl, rfl⟩
  unfold asubN
  split
  · rename_i z l x y
    cases hc : plain l && (decide (0 ≤ x) && (decide (0 ≤ y) && Nat.ble ((x.toNat + y.toNat) * z) l.length)) with
    | false => exact key
    | true =>
      simp only [Bool.and_eq_true, decide_eq_true_eq] at hc
      obtain ⟨c1, c2, c3, c4⟩ := hc
      have c4 := Nat.le_of_ble_eq_true c4
      rw [Nat.add_mul] at c4
      simp only [cond_true]
      by_cases hz : z = 0
      · subst hz
        -- rows of no width
        refine ⟨?_, ?_, rfl, rfl⟩
        · apply List.ext_getElem?
          intro q
          rw [List.getElem?_eq_none (by rw [rows_length]; simp [SV.esz]), drop_take_get, if_neg (by simp [SV.esz])]
        · simp only [SV.cnt, SI.v, Nat.div_zero] at h1 h2 ⊢
          simp only [SI.v] at h0
          omega
      · have hzp : 0 < z := Nat.pos_of_ne_zero hz
        have hlen : ((l.drop (x.toNat * z)).take (y.toNat * z)).length = y.toNat * z := by simp; omega
        refine ⟨?_, ?_, rfl, rfl⟩
        · rw [rows_alit (plain_take (plain_drop c1)) hzp (by rw [hlen]; exact Nat.mul_mod_left _ _), flat_take (plain_drop c1), flat_drop c1]
          simp only [SI.v, SV.esz]
          -- rows of the whole are its cells, as far as they are whole rows
          have hr : ∀ q, q < l.length / z * z → (rows (.alit z l))[q]? = (flat l)[q]? := by
            intro q hq
            have hq1 : q / z < l.length / z := (Nat.div_lt_iff_lt_mul hzp).2 hq
            have hq2 : q % z < z := Nat.mod_lt _ hzp
            have hxe : q = q / z * z + q % z := by rw [Nat.mul_comm]; exact (Nat.div_add_mod _ _).symm
            have e1 : (rows (.alit z l))[q]? = (fix z (elem (.alit z l) (q / z)))[q % z]? := by
              conv => lhs; rw [hxe]
              exact rows_get (v := .alit z l) hq2 (by show q / z < (((l.length / z : Nat) : Int)).toNat; rw [Int.toNat_natCast]; exact hq1)
            rw [e1]
            simp only [elem]
            have g1 : (q / z + 1) * z ≤ l.length / z * z := Nat.mul_le_mul_right _ hq1
            rw [Nat.add_mul] at g1
            have g2 : l.length / z * z ≤ l.length := Nat.div_mul_le_self _ _
            rw [fix_eq (by simp [flat_length c1]; omega), drop_take_get, if_pos hq2, ← hxe]
          apply List.ext_getElem?
          intro q
          rw [drop_take_get, drop_take_get]
          by_cases hq : q < y.toNat * z
          · rw [if_pos hq, if_pos hq, hr]
            have : (x.toNat + y.toNat) * z ≤ l.length := by rw [Nat.add_mul]; exact c4
            have h5 : x.toNat + y.toNat ≤ l.length / z := (Nat.le_div_iff_mul_le hzp).2 this
            have h6 := Nat.mul_le_mul_right z h5
            rw [Nat.add_mul] at h6
            omega
          · rw [if_neg hq, if_neg hq]
        · simp only [SV.cnt, SI.v]
          rw [hlen, Nat.mul_div_cancel _ hzp]; omega
  · exact key

theorem rows_acat {a b : SV} (hz : a.esz = b.esz) (ha : 0 ≤ a.cnt.v) (hb : 0 ≤ b.cnt.v) : rows (.acat a b) = rows a ++ rows b := by
  apply List.ext_getElem?
  intro x
  have hc : (SV.acat a b).cnt.v = a.cnt.v + b.cnt.v := by simp [SV.cnt, SI.add_v]
  have hl : (rows (.acat a b)).length = (a.cnt.v.toNat + b.cnt.v.toNat) * a.esz := by
    rw [rows_length, hc]
    have : (a.cnt.v + b.cnt.v).toNat = a.cnt.v.toNat + b.cnt.v.toNat := by omega
    rw [this]; rfl
  by_cases hx : x < (rows (.acat a b)).length
  · rw [hl] at hx
    have hz0 : 0 < a.esz := by
      rcases Nat.eq_zero_or_pos a.esz with h | h
      · rw [h] at hx; omega
      · exact h
    have hq : x / a.esz < a.cnt.v.toNat + b.cnt.v.toNat := by rw [Nat.mul_comm] at hx; exact Nat.div_lt_of_lt_mul hx
    have hr : x % a.esz < a.esz := Nat.mod_lt _ hz0
    have hxe : x = x / a.esz * a.esz + x % a.esz := by rw [Nat.mul_comm]; exact (Nat.div_add_mod _ _).symm
    have e1 : (rows (.acat a b))[x]? = (fix a.esz (elem (.acat a b) (x / a.esz)))[x % a.esz]? := by
      conv => lhs; rw [hxe]
      exact rows_get (v := .acat a b) hr (by rw [hc]; omega)
    rw [e1]
    simp only [elem]
    by_cases h1 : x / a.esz < a.cnt.v.toNat
    · have h2 : x < a.cnt.v.toNat * a.esz := (Nat.div_lt_iff_lt_mul hz0).1 h1
      rw [if_pos (by omega), List.getElem?_append_left (by rw [rows_length]; exact h2)]
      conv => rhs; rw [hxe]
      rw [rows_get hr h1]
    · have h2 : a.cnt.v.toNat * a.esz ≤ x := (Nat.le_div_iff_mul_le hz0).1 (by omega)
      rw [if_neg (by omega), List.getElem?_append_right (by rw [rows_length]; exact h2), rows_length]
      have h4 : a.cnt.v.toNat * a.esz ≤ x / a.esz * a.esz := Nat.mul_le_mul_right _ (by omega)
      have h3 : x - a.cnt.v.toNat * a.esz = (x / a.esz - a.cnt.v.toNat) * b.esz + x % a.esz := by
        rw [← hz, Nat.sub_mul]; omega
      rw [h3, rows_get (by rw [← hz]; exact hr) (by omega), hz]
      have e3 : (((x / b.esz : Nat) : Int) - a.cnt.v).toNat = x / b.esz - a.cnt.v.toNat := by
        rw [hz] at h1
        revert h1
        generalize x / b.esz = q
        omega
      rw [e3]
  · rw [List.getElem?_eq_none (by omega), List.getElem?_eq_none]
    rw [List.length_append, rows_length, rows_length, ← hz, ← Nat.add_mul]
    omega
theorem rows_acatN {a b : SV} (hz : a.esz = b.esz) (ha : 0 ≤ a.cnt.v) (hb : 0 ≤ b.cnt.v) : rows (acatN a b) = rows a ++ rows b ∧ (acatN a b).isArr = true := by
  unfold acatN
  split
  · rename_i z l z' l'
    cases hc : Nat.beq z z' && (plain l && (plain l' && (Nat.beq (l.length % z) 0 && Nat.beq (l'.length % z) 0))) with
    | false => exact ⟨rows_acat hz ha hb, rfl⟩
    | true =>
      simp only [Bool.and_eq_true] at hc
      obtain ⟨c1, c2, c3, c4, c5⟩ := hc
      have c1 := Nat.eq_of_beq_eq_true c1
      have c4 := Nat.eq_of_beq_eq_true c4
      have c5 := Nat.eq_of_beq_eq_true c5
      subst c1
      refine ⟨?_, rfl⟩
      simp only [cond_true]
      by_cases hz0 : z = 0
      · subst hz0
        rw [List.eq_nil_of_length_eq_zero (l := rows (.alit 0 (l ++ l'))) (by rw [rows_length]; simp [SV.esz]), List.eq_nil_of_length_eq_zero (l := rows (.alit 0 l)) (by rw [rows_length]; simp [SV.esz]), List.eq_nil_of_length_eq_zero (l := rows (.alit 0 l')) (by rw [rows_length]; simp [SV.esz])]
        rfl
      · have hzp : 0 < z := Nat.pos_of_ne_zero hz0
        have hpl : plain (l ++ l') = true := by
          have : ∀ {x y : List SV}, plain x = true → plain y = true → plain (x ++ y) = true := by
            intro x y hx hy
            induction x with
            | nil => exact hy
            | cons v vs ih =>
              simp only [plain] at hx
              cases hv : v.isArr with
              | true => rw [hv] at hx; simp at hx
              | false => rw [hv] at hx; simp only [List.cons_append, plain, hv, cond_false]; exact ih hx
          exact this c2 c3
        rw [rows_alit c2 hzp c4, rows_alit c3 hzp c5, rows_alit hpl hzp (by rw [List.length_append, Nat.add_mod, c4, c5]; simp), flat_append]
  · exact ⟨rows_acat hz ha hb, rfl⟩

end Go.SL

/- Helper text: each operation on told values. -/
namespace Go.SL
open Go.AL

abbrev SK := SV → SHeap → Nat → Prop

/-- The address of an element. -/
def eaddr (b : Bid) (base : Nat) (num : Option Nat) (i : SI) (z : Nat) : SV :=
  match i with
  | .lit n => .ptr b (base + n.toNat * z)
  | .sym _ => .eptr b base num i z 0
theorem eaddr_γ (b : Bid) (base : Nat) (num : Option Nat) (i : SI) (z : Nat) : γ (eaddr b base num i z) = .ptr b (base + i.v.toNat * z) := by
  cases i <;> simp [eaddr, γ, SI.v]

/-- A slice's cells, as one array. -/
def srcS (r : SRom) (h : SHeap) (z : Nat) (x : SV) (K : SI → SV → Prop) : Prop :=
  match x with
  | .nils => K (.lit 0) (.alit z [])
  | .sl b lo z' len _ => match bcells r h b with
    | some [a] => bif Nat.beq z' z && (a.isArr && Nat.beq a.esz z) then gS (leS (.lit 0) lo) (gS (leS (.lit 0) len) (gS (leS (lo.add len) a.cnt) (K len (asubN a lo len)))) else False
    | _ => False
  | _ => False
theorem rows_nil (z : Nat) : rows (.alit z []) = [] := List.eq_nil_of_length_eq_zero (by rw [rows_length]; simp [SV.cnt, SI.v])
theorem srcS_spec {r : SRom} {h : SHeap} {a : Heap} (H : HR h a) {z : Nat} {x : SV} {K : SI → SV → Prop} (hk : srcS r h z x K) :
    ∃ n s, K n s ∧ 0 ≤ n.v ∧ s.isArr = true ∧ s.esz = z ∧ s.cnt.v = n.v ∧ srcCells (γr r) a z (γ x) = some (n.v.toNat, rows s) := by
  unfold srcS at hk
  split at hk
  · exact ⟨_, _, hk, Int.le_refl _, rfl, rfl, by simp [SV.cnt, SI.v], by simp [γ, srcCells, SI.v, rows_nil]⟩
  · rename_i b lo z' len cap
    split at hk
    · rename_i s hb
      cases hc : Nat.beq z' z && (s.isArr && Nat.beq s.esz z) with
      | false => rw [hc] at hk; exact hk.elim
      | true =>
        rw [hc] at hk
        simp only [Bool.and_eq_true] at hc
        obtain ⟨c1, c2, c3⟩ := hc
        have c1 := Nat.eq_of_beq_eq_true c1
        have c3 := Nat.eq_of_beq_eq_true c3
        obtain ⟨g1, hk⟩ := gS_spec hk
        obtain ⟨g2, hk⟩ := gS_spec hk
        obtain ⟨g3, hk⟩ := gS_spec hk
        have g1 : 0 ≤ lo.v := (leS_v _ _).1 g1
        have g2 : 0 ≤ len.v := (leS_v _ _).1 g2
        have g3 := (leS_v _ _).1 g3
        rw [SI.add_v] at g3
        obtain ⟨q1, q2, q3, q4⟩ := rows_asubN g1 g2 g3
        obtain ⟨_, q5⟩ := rows_asub g1 g2 g3
        refine ⟨len, _, hk, g2, q4, by rw [q3, c3], q2, ?_⟩
        have hbc := bcells_spec H hb
        subst c1
        rw [flat_arr c2, show flat [] = [] from rfl, List.append_nil] at hbc
        rw [c3] at q5 q1
        simp only [γ, srcCells, hbc, q1]
        rw [if_pos ⟨trivial, q5⟩]
    · exact hk.elim
  · exact hk.elim

/-- What is appended in place. -/
def inplS (a s : SV) (lo len n : SI) (K : SV → Prop) : Prop :=
  gS (leS ((lo.add len).add n) a.cnt) (K (acatN (asubN a (.lit 0) (lo.add len)) (acatN s (asubN a ((lo.add len).add n) (a.cnt.sub ((lo.add len).add n))))))
theorem inplS_spec {a s : SV} {lo len n : SI} {K : SV → Prop} (h : inplS a s lo len n K) (h0 : 0 ≤ lo.v) (h1 : 0 ≤ len.v) (h2 : 0 ≤ n.v) (hz : s.esz = a.esz) (hn : s.cnt.v = n.v) :
    ∃ r, K r ∧ r.isArr = true ∧ rows r = setMany (rows a) (lo.v.toNat * a.esz + len.v.toNat * a.esz) (rows s) ∧ lo.v.toNat * a.esz + (len.v.toNat + n.v.toNat) * a.esz ≤ (rows a).length := by
  obtain ⟨g1, h⟩ := gS_spec h
  have g1 := (leS_v _ _).1 g1
  simp only [SI.add_v] at g1
  have z0 : (0 : Int) ≤ SI.v (.lit 0) := Int.le_refl _
  obtain ⟨p1, p2, p3, p4⟩ := rows_asubN (a := a) (lo := .lit 0) (n := lo.add len) z0 (by rw [SI.add_v]; omega) (by rw [SI.add_v]; show 0 + _ ≤ _; omega)
  obtain ⟨q1, q2, q3, q4⟩ := rows_asubN (a := a) (lo := (lo.add len).add n) (n := a.cnt.sub ((lo.add len).add n)) (by simp only [SI.add_v]; omega) (by simp only [SI.add_v, SI.sub_v]; omega) (by simp only [SI.add_v, SI.sub_v]; omega)
  have hcat := rows_acatN (a := s) (b := asubN a ((lo.add len).add n) (a.cnt.sub ((lo.add len).add n))) (by rw [q3, hz]) (by omega) (by rw [q2]; simp only [SI.add_v, SI.sub_v]; omega)
  have hfull : ∀ x y : SV, x.esz = y.esz → 0 ≤ x.cnt.v → 0 ≤ y.cnt.v → (acatN x y).esz = x.esz ∧ (acatN x y).cnt.v = x.cnt.v + y.cnt.v := by
    intro x y he hx hy
    have hr := rows_acatN he hx hy
    unfold acatN
    split
    · rename_i z l z' l'
      cases hc : Nat.beq z z' && (plain l && (plain l' && (Nat.beq (l.length % z) 0 && Nat.beq (l'.length % z) 0))) with
      | false => exact ⟨rfl, by simp [SV.cnt, SI.add_v]⟩
      | true =>
        simp only [Bool.and_eq_true] at hc
        obtain ⟨c1, c2, c3, c4, c5⟩ := hc
        refine ⟨rfl, ?_⟩
        simp only [cond_true, SV.cnt, SI.v]
        have c1 := Nat.eq_of_beq_eq_true c1
        subst c1
        by_cases hz0 : z = 0
        · subst hz0; simp
        · obtain ⟨k, hk⟩ := Nat.dvd_of_mod_eq_zero (Nat.eq_of_beq_eq_true c4)
          rw [List.length_append, hk, Nat.mul_add_div (Nat.pos_of_ne_zero hz0), Nat.mul_div_cancel_left _ (Nat.pos_of_ne_zero hz0)]
          omega
    · exact ⟨rfl, by simp [SV.cnt, SI.add_v]⟩
  obtain ⟨f1, f2⟩ := hfull s (asubN a ((lo.add len).add n) (a.cnt.sub ((lo.add len).add n))) (by rw [q3, hz]) (by omega) (by rw [q2]; simp only [SI.add_v, SI.sub_v]; omega)
  obtain ⟨r1, r2⟩ := rows_acatN (a := asubN a (.lit 0) (lo.add len)) (b := acatN s (asubN a ((lo.add len).add n) (a.cnt.sub ((lo.add len).add n)))) (by rw [p3, f1, hz]) (by rw [p2, SI.add_v]; omega) (by rw [f2, q2]; simp only [SI.add_v, SI.sub_v]; omega)
  have e1 : (lo.v + len.v).toNat = lo.v.toNat + len.v.toNat := by omega
  have e2 : (lo.v + len.v + n.v).toNat = lo.v.toNat + len.v.toNat + n.v.toNat := by omega
  have hm1 : (lo.v.toNat + len.v.toNat + n.v.toNat) * a.esz ≤ a.cnt.v.toNat * a.esz := Nat.mul_le_mul_right _ (by omega)
  simp only [Nat.add_mul] at hm1
  have hsl : (rows s).length = n.v.toNat * a.esz := by rw [rows_length, hn, hz]
  refine ⟨_, h, r2, ?_, by rw [rows_length]; simp only [Nat.add_mul]; omega⟩
  rw [r1, hcat.1, p1, q1]
  simp only [SI.add_v, SI.sub_v, e1, e2]
  apply List.ext_getElem?
  intro x
  have hz0 : (SI.lit 0).v.toNat * a.esz = 0 := by simp [SI.v]
  rw [hz0, List.drop_zero, setMany_get _ _ _ _ (by rw [hsl, rows_length]; omega)]
  have ht : ((rows a).take ((lo.v.toNat + len.v.toNat) * a.esz)).length = lo.v.toNat * a.esz + len.v.toNat * a.esz := by
    rw [List.length_take, rows_length, Nat.add_mul]; omega
  by_cases hx1 : x < lo.v.toNat * a.esz + len.v.toNat * a.esz
  · rw [List.getElem?_append_left (by omega), if_neg (by omega), List.getElem?_take, if_pos (by rw [Nat.add_mul]; exact hx1)]
  · rw [List.getElem?_append_right (by omega), ht]
    by_cases hx2 : x < lo.v.toNat * a.esz + len.v.toNat * a.esz + n.v.toNat * a.esz
    · rw [List.getElem?_append_left (by omega), if_pos (by omega)]
    · rw [List.getElem?_append_right (by omega), if_neg (by omega), drop_take_get, hsl]
      have hcm : (a.cnt.v - (lo.v + len.v + n.v)).toNat * a.esz + (lo.v.toNat + len.v.toNat + n.v.toNat) * a.esz = a.cnt.v.toNat * a.esz := by
        rw [← Nat.add_mul]; congr 1; omega
      simp only [Nat.add_mul] at hcm ⊢
      by_cases hx3 : x < (rows a).length
      · rw [rows_length] at hx3
        rw [if_pos (by omega)]; congr 1; omega
      · rw [List.getElem?_eq_none (by omega : (rows a).length ≤ x)]
        split
        · rw [List.getElem?_eq_none]; rw [rows_length] at hx3 ⊢; omega
        · rfl

/-- A slice's bounds. -/
def loS (e : SEnv) : Option AOpd → Option SI
  | none => some (.lit 0)
  | some x => match evS e x with
    | some (.int _ n) => some n
    | _ => none
theorem loS_spec {e : SEnv} {a : Env} (hE : EnvR e a) {x : Option AOpd} {n : SI} (h : loS e x = some n) : loOf a x = some n.v := by
  cases x with
  | none => simp only [loS, Option.some.injEq] at h; subst h; rfl
  | some x =>
    simp only [loS] at h
    split at h
    · rename_i k n' hv
      injection h with h; subst h
      simp only [loOf, evS_spec hE hv, γ]
    · cases h

def zeroE (z : List SV) : Int → List SV := fun _ => z

/-- What an operation does to told values and memory. -/
def SX (ov : Bool) (r : SRom) (ai : AI) (e : SEnv) (h : SHeap) (nx : Nat) (K : SK) : Prop :=
  let ok (v : SV) : Prop := K v h nx
  match ai with
  | .mv x => match evS e x with
    | some v => ok v
    | none => False
  | .pick c a b => match evS e c with
    | some (.bool t) => match evS e a, evS e b with
      | some (.bool x), some (.bool y) => ok (.bool (iteS t x y))
      | va, vb => forkS t (match va with | some v => ok v | none => False) (match vb with | some v => ok v | none => False)
    | _ => False
  | .bin op x y => match evS e x, evS e y with
    | some (.int k a), some (.int k' b) => bif decide (k = k') then binS ov op k a b ok else False
    | some (.str a), some (.str b) => strS op a b ok
    | _, _ => False
  | .eqb ng x y => match evS e x, evS e y with
    | some (.bool a), some (.bool b) => ok (.bool (iffS ng a b))
    | _, _ => False
  | .eqn cls ng x y => match evS e x, evS e y with
    | some a, some b => match nilS cls a, nilS cls b with
      | some true, some t => ok (.bool (.lit (xor ng t)))
      | some false, some true => ok (.bool (.lit (xor ng false)))
      | _, _ => False
    | _, _ => False
  | .eqA ng offs x y => match evS e x, evS e y with
    | some (.agg a), some (.agg b) => match eqLS offs a b with
      | some t => ok (.bool (bif ng then notS t else t))
      | none => False
    | _, _ => False
  | .not x => match evS e x with
    | some (.bool t) => ok (.bool (notS t))
    | _ => False
  | .neg x => match evS e x with
    | some (.int k n) => numS ov k ((SI.lit 0).sub n) ok
    | _ => False
  | .conv k x => match evS e x with
    | some (.int k' n) => numS (ov || !decide (k = k')) k n ok
    | _ => False
  | .alloc t zero => match δs zero with
    | some l => hsetK h nx (.cells l t) fun h' => K (.ptr (.own nx) 0) h' (nx + 1)
    | none => False
  | .box t x => match evS e x with
    | some v => match vcells v with
      | some l => hsetK h nx (.cells l t) fun h' => K (.ptr (.own nx) 0) h' (nx + 1)
      | none => False
    | none => False
  | .build zero ps => match δs zero with
    | some l => fillS ps e l fun l' => ok (.agg l')
    | none => False
  | .buildSlice elem z zero len ps => match δs zero with
    | some l => fillS ps e l fun l' => bif plain l' && (Nat.ble 1 z && Nat.beq (l'.length % z) 0) then hsetK h nx (.cells [.alit z l'] elem) fun h' => K (.sl (.own nx) (.lit 0) z (.lit len) none) h' (nx + 1) else False
    | none => False
  | .load1 x => match evS e x with
    | some (.ptr b off) => match bcells r h b with
      | some cs => getCell cs off ok
      | none => False
    | some (.eptr b base num i z o) => match bcells r h b with
      | some cs => getE cs base num i z o ok
      | none => False
    | _ => False
  | .loadN n x => match evS e x with
    | some (.ptr b off) => match bcells r h b with
      | some cs => getN cs off n fun l => ok (.agg l)
      | none => False
    | some (.eptr b base num i z o) => match bcells r h b with
      | some cs => getEN cs base num i z o n fun l => ok (.agg l)
      | none => False
    | _ => False
  | .store n x y => match evS e y with
    | some v => match vcells v, evS e x with
      | some vc, some (.ptr (.own j) off) => match hget h j with
        | some (.cells cs t) => putN cs off n vc fun cs' => hsetK h j (.cells cs' t) fun h' => K .any h' nx
        | _ => False
      | some vc, some (.eptr (.own j) base num i z o) => match hget h j with
        | some (.cells cs t) => putE cs base num i z o n vc fun cs' => hsetK h j (.cells cs' t) fun h' => K .any h' nx
        | _ => False
      | _, _ => False
    | none => False
  | .nilCheck x => match evS e x with
    | some (.ptr b o) => ok (.ptr b o)
    | some (.eptr b base num i z o) => ok (.eptr b base num i z o)
    | some (.func f a b) => ok (.func f a b)
    | some (.yld b) => ok (.yld b)
    | some (.iface t v) => ok (.iface t v)
    | _ => False
  | .addOff off x => match evS e x with
    | some (.ptr b o) => ok (.ptr b (o + off))
    | some (.eptr b base num i z o) => ok (.eptr b base num i z (o + off))
    | _ => False
  | .field1 off x => match evS e x with
    | some (.agg cs) => getCell cs off ok
    | _ => False
  | .fieldN off n x => match evS e x with
    | some (.agg cs) => getN cs off n fun l => ok (.agg l)
    | _ => False
  | .idxA len z x i => match evS e x, evS e i with
    | some (.ptr b o), some (.int _ j) => gS (leS (.lit 0) j) (gS (ltS j (.lit len)) (ok (eaddr b o (some len) j z)))
    | some (.eptr b base num i' z' o), some (.int _ (.lit j)) => bif decide (0 ≤ j) && decide (j < (len : Int)) then ok (.eptr b base num i' z' (o + j.toNat * z)) else False
    | _, _ => False
  | .idxS z x i => match evS e x, evS e i with
    | some (.sl b lo z' len _), some (.int _ j) => bif Nat.beq z' z then gS (leS (.lit 0) lo) (gS (leS (.lit 0) j) (gS (ltS j len) (ok (eaddr b 0 none (lo.add j) z)))) else False
    | _, _ => False
  | .index1 len z x i => match evS e x, evS e i with
    | some (.agg cs), some (.int _ j) => gS (leS (.lit 0) j) (gS (ltS j (.lit len)) (match j with
      | .lit n => getCell cs (n.toNat * z) ok
      | .sym n => getE cs 0 (some len) (.sym n) z 0 ok))
    | _, _ => False
  | .indexN len z x i => match evS e x, evS e i with
    | some (.agg cs), some (.int _ j) => gS (leS (.lit 0) j) (gS (ltS j (.lit len)) (match j with
      | .lit n => getN cs (n.toNat * z) z fun l => ok (.agg l)
      | .sym n => getEN cs 0 (some len) (.sym n) z 0 z fun l => ok (.agg l)))
    | _, _ => False
  | .extract x i => match evS e x with
    | some (.tup vs) => match vs[i]? with
      | some v => ok v
      | none => False
    | _ => False
  | .mkFunc f first caps => match evsS e first, evsS e caps with
    | some a, some b => ok (.func f a b)
    | _, _ => False
  | .makeSlice elem z bytes zero len cap => match evS e len, evS e cap, δs zero with
    | some (.int .i64 l), some (.int .i64 c), some zs => bif Nat.beq zs.length z && plain zs then
        gS (leS (.lit 0) l) (gS (leS l c) (gS (leS (SI.op (· * ·) (.lit bytes) c) (.lit (2 ^ 44))) (gS (leS c (.lit (2 ^ 44)))
          (hsetK h nx (.cells [.arr c z (zeroE zs)] elem) fun h' => K (.sl (.own nx) (.lit 0) z l (some c)) h' (nx + 1))))) else False
    | _, _, _ => False
  | .slice z x lo hi => match evS e x, loS e lo with
    | some (.sl b lo0 z' len cap), some l => bif Nat.beq z' z then
        (match hi with
         | none => gS (leS (.lit 0) lo0) (gS (leS (.lit 0) l) (gS (leS l len) (ok (.sl b (lo0.add l) z (len.sub l) (match cap with | none => none | some c => some (c.sub l))))))
         | some hx => match loS e (some hx) with
           | some n => gS (leS (.lit 0) lo0) (gS (leS (.lit 0) l) (gS (leS l n) (gS (leS n (capS len cap)) (ok (.sl b (lo0.add l) z (n.sub l) (some ((capS len cap).sub l)))))))
           | none => False) else False
    | some .nils, some l => match hi with
      | none => gS (eqS l (.lit 0)) (ok .nils)
      | some hx => match loS e (some hx) with
        | some n => gS (eqS l (.lit 0)) (gS (eqS n (.lit 0)) (ok .nils))
        | none => False
    | _, _ => False
  | .slice3 z x lo hi mx => match evS e x, loS e lo, evS e hi, evS e mx with
    | some (.sl b lo0 z' len cap), some l, some (.int _ n), some (.int _ m) => bif Nat.beq z' z then
        gS (leS (.lit 0) lo0) (gS (leS (.lit 0) l) (gS (leS l n) (gS (leS n m) (gS (leS m (capS len cap)) (ok (.sl b (lo0.add l) z (n.sub l) (some (m.sub l)))))))) else False
    | _, _, _, _ => False
  | .lenS x => match evS e x with
    | some (.sl _ _ _ len _) => gS (leS (.lit 0) len) (ok (.int .i64 len))
    | some .nils => ok (.int .i64 (.lit 0))
    | _ => False
  | .append elem z bytes x y => match evS e y with
    | some yv => srcS r h z yv fun n s => match evS e x with
      | some .nils => gS (leS n (.lit (2 ^ 40))) (bif Nat.ble bytes 64 then hsetK h nx (.cells [s] elem) fun h' => K (.sl (.own nx) (.lit 0) z n none) h' (nx + 1) else False)
      | some (.sl (.own j) lo z' len cap) => match hget h j with
        | some (.cells [a] t) => bif a.isArr && (Nat.beq a.esz z && Nat.beq z' z) then
            let grow : Prop := gS (eqS lo (.lit 0)) (gS (leS (.lit 0) len) (gS (leS len a.cnt) (gS (leS (len.add n) (.lit (2 ^ 40)))
              (bif Nat.beq t elem && Nat.ble bytes 64 then hdelK h j fun h1 => hsetK h1 nx (.cells [acatN (asubN a (.lit 0) len) s] elem) fun h' => K (.sl (.own nx) (.lit 0) z (len.add n) none) h' (nx + 1) else False))))
            match cap with
            | none => grow
            | some c => forkS (andS (leS (len.add n) c) (ltS len c)) (gS (leS (.lit 0) lo) (gS (leS (.lit 0) len) (inplS a s lo len n fun a' => hsetK h j (.cells [a'] t) fun h' => K (.sl (.own j) lo z (len.add n) (some c)) h' nx))) grow
          else False
        | _ => False
      | _ => False
    | none => False
  | .min x y => match evS e x, evS e y with
    | some (.int k a), some (.int k' b) => bif decide (k = k') then ok (.int k (SI.op min a b)) else False
    | _, _ => False
  | .max x y => match evS e x, evS e y with
    | some (.int k a), some (.int k' b) => bif decide (k = k') then ok (.int k (SI.op max a b)) else False
    | _, _ => False
  | _ => False

end Go.SL

/- Helper text: what an operation does to told values is what it does. -/
namespace Go.SL
open Go.AL

/-- What an operation comes to. -/
def XR (r : SRom) (ai : AI) (ae : Env) (a : Heap) (nx : Nat) (K : SK) : Prop :=
  ∃ v h' nx', K v h' nx' ∧ ∃ a', ai.exec (γr r) ae a nx = some (γ v, a', nx') ∧ HR h' a'

section
variable {ov : Bool} {r : SRom} {e : SEnv} {ae : Env} {h : SHeap} {a : Heap} {nx : Nat} {K : SK}

theorem XR.ok {ai : AI} {v : SV} {w : AVal} (H : HR h a) (hk : K v h nx) (hx : ai.exec (γr r) ae a nx = some (w, a, nx)) (hv : γ v = w) : XR r ai ae a nx K :=
  ⟨v, h, nx, hk, a, by rw [hx, hv], H⟩

theorem sx_bin {op : BinOp} {x y : AOpd} (hE : EnvR e ae) (H : HR h a) (hs : SX ov r (.bin op x y) e h nx K) : XR r (.bin op x y) ae a nx K := by
  simp only [SX] at hs
  split at hs
  · rename_i k m k' n h1 h2
    cases hk : decide (k = k') with
    | false => rw [hk] at hs; exact hs.elim
    | true =>
      rw [hk] at hs
      have hk := of_decide_eq_true hk
      subst hk
      obtain ⟨v, h3, h4⟩ := binS_spec hs
      exact XR.ok H h3 (w := γ v) (by simp only [AI.exec, evS_spec hE h1, evS_spec hE h2, γ, binV, h4, if_true]) rfl
  · rename_i m n h1 h2
    obtain ⟨v, h3, h4⟩ := strS_spec hs
    exact XR.ok H h3 (w := γ v) (by simp only [AI.exec, evS_spec hE h1, evS_spec hE h2, γ, binV, h4]) rfl
  · exact hs.elim

theorem sx_load1 {x : AOpd} (hE : EnvR e ae) (H : HR h a) (hs : SX ov r (.load1 x) e h nx K) : XR r (.load1 x) ae a nx K := by
  simp only [SX] at hs
  split at hs
  · rename_i b off h1
    split at hs
    · rename_i cs hb
      obtain ⟨v, h2, h3⟩ := getCell_spec hs
      exact XR.ok H h2 (w := γ v) (by simp only [AI.exec, evS_spec hE h1, γ, bcells_spec H hb, h3]) rfl
    · exact hs.elim
  · rename_i b base num i z o h1
    split at hs
    · rename_i cs hb
      obtain ⟨v, h2, h3⟩ := getE_spec hs
      exact XR.ok H h2 (w := γ v) (by simp only [AI.exec, evS_spec hE h1, γ, bcells_spec H hb, h3]) rfl
    · exact hs.elim
  · exact hs.elim
theorem sx_loadN {n : Nat} {x : AOpd} (hE : EnvR e ae) (H : HR h a) (hs : SX ov r (.loadN n x) e h nx K) : XR r (.loadN n x) ae a nx K := by
  simp only [SX] at hs
  split at hs
  · rename_i b off h1
    split at hs
    · rename_i cs hb
      obtain ⟨l, h2, h3, h4⟩ := getN_spec hs
      exact XR.ok H h2 (w := γ (.agg l)) (by simp only [AI.exec, evS_spec hE h1, γ, bcells_spec H hb, if_pos h4, h3]) rfl
    · exact hs.elim
  · rename_i b base num i z o h1
    split at hs
    · rename_i cs hb
      obtain ⟨l, h2, h3, h4⟩ := getEN_spec hs
      exact XR.ok H h2 (w := γ (.agg l)) (by simp only [AI.exec, evS_spec hE h1, γ, bcells_spec H hb, if_pos h4, h3]) rfl
    · exact hs.elim
  · exact hs.elim
theorem sx_store {n : Nat} {x y : AOpd} (hE : EnvR e ae) (H : HR h a) (hs : SX ov r (.store n x y) e h nx K) : XR r (.store n x y) ae a nx K := by
  simp only [SX] at hs
  split at hs
  · rename_i v h1
    split at hs
    · rename_i vc j off hv h2
      split at hs
      · rename_i cs t hj
        obtain ⟨cs', h3, h4, h5, h6⟩ := putN_spec hs
        rw [hsetK_eq] at h3
        obtain ⟨ao, g1, g2⟩ := H j _ hj
        simp only [OR] at g2; subst g2
        obtain ⟨q1, _⟩ := vcells_spec hv
        refine ⟨_, _, _, h3, _, ?_, H.set (o := .cells cs' t) (ao := .cells (flat cs') t) rfl⟩
        simp only [AI.exec, evS_spec hE h1, evS_spec hE h2, γ, g1]
        rw [q1, if_pos ⟨h5, h6, flat_allOneB _⟩, h4]
      · exact hs.elim
    · rename_i vc j base num i z o hv h2
      split at hs
      · rename_i cs t hj
        obtain ⟨cs', h3, h4, h5, h6⟩ := putE_spec hs
        rw [hsetK_eq] at h3
        obtain ⟨ao, g1, g2⟩ := H j _ hj
        simp only [OR] at g2; subst g2
        obtain ⟨q1, _⟩ := vcells_spec hv
        refine ⟨_, _, _, h3, _, ?_, H.set (o := .cells cs' t) (ao := .cells (flat cs') t) rfl⟩
        simp only [AI.exec, evS_spec hE h1, evS_spec hE h2, γ, g1]
        rw [q1, if_pos ⟨h5, h6, flat_allOneB _⟩, h4]
      · exact hs.elim
    · exact hs.elim
  · exact hs.elim

theorem gS_iff_le {x y : SI} {P : Prop} (h : gS (leS x y) P) : x.v ≤ y.v ∧ P := ⟨(leS_v _ _).1 (gS_spec h).1, (gS_spec h).2⟩
theorem gS_iff_lt {x y : SI} {P : Prop} (h : gS (ltS x y) P) : x.v < y.v ∧ P := ⟨(ltS_v _ _).1 (gS_spec h).1, (gS_spec h).2⟩
theorem gS_iff_eq {x y : SI} {P : Prop} (h : gS (eqS x y) P) : x.v = y.v ∧ P := ⟨(eqS_v _ _).1 (gS_spec h).1, (gS_spec h).2⟩

theorem sx_idx {ai : AI} (hai : (∃ len z x i, ai = .idxA len z x i) ∨ (∃ z x i, ai = .idxS z x i) ∨ (∃ len z x i, ai = .index1 len z x i) ∨ ∃ len z x i, ai = .indexN len z x i) (hE : EnvR e ae) (H : HR h a) (hs : SX ov r ai e h nx K) : XR r ai ae a nx K := by
  rcases hai with ⟨len, z, x, i, rfl⟩ | ⟨z, x, i, rfl⟩ | ⟨len, z, x, i, rfl⟩ | ⟨len, z, x, i, rfl⟩ <;> simp only [SX] at hs
  · split at hs
    · rename_i b o k j h1 h2
      obtain ⟨g1, hs⟩ := gS_iff_le hs
      obtain ⟨g2, hs⟩ := gS_iff_lt hs
      refine XR.ok H hs (w := .ptr b (o + j.v.toNat * z)) ?_ (eaddr_γ _ _ _ _ _)
      simp only [AI.exec, evS_spec hE h1, evS_spec hE h2, γ]
      rw [if_pos ⟨g1, g2⟩]
    · rename_i b base num i' z' o k j h1 h2
      cases hc : decide (0 ≤ j) && decide (j < (len : Int)) with
      | false => rw [hc] at hs; exact hs.elim
      | true =>
        rw [hc] at hs
        simp only [Bool.and_eq_true, decide_eq_true_eq] at hc
        refine XR.ok H hs (w := _) ?_ rfl
        simp only [AI.exec, evS_spec hE h1, evS_spec hE h2, γ, SI.v]
        rw [if_pos hc, Nat.add_assoc]
    · exact hs.elim
  · split at hs
    · rename_i b lo z' len cap k j h1 h2
      cases hc : Nat.beq z' z with
      | false => rw [hc] at hs; exact hs.elim
      | true =>
        rw [hc] at hs
        have hc := Nat.eq_of_beq_eq_true hc
        subst hc
        obtain ⟨g0, hs⟩ := gS_iff_le hs
        obtain ⟨g1, hs⟩ := gS_iff_le hs
        obtain ⟨g2, hs⟩ := gS_iff_lt hs
        have g0 : 0 ≤ lo.v := g0
        have g1 : 0 ≤ j.v := g1
        refine XR.ok H hs (w := .ptr b (lo.v.toNat * z' + j.v.toNat * z')) ?_ ?_
        · simp only [AI.exec, evS_spec hE h1, evS_spec hE h2, γ]
          rw [if_pos ⟨trivial, g1, by omega⟩]
        · rw [eaddr_γ, SI.add_v, Nat.zero_add, ← Nat.add_mul]
          congr 2; omega
    · exact hs.elim
  · split at hs
    · rename_i cs k j h1 h2
      obtain ⟨g1, hs⟩ := gS_iff_le hs
      obtain ⟨g2, hs⟩ := gS_iff_lt hs
      have g1 : 0 ≤ j.v := g1
      cases j with
      | lit n =>
        obtain ⟨v, h3, h4⟩ := getCell_spec hs
        refine XR.ok H h3 (w := γ v) ?_ rfl
        simp only [AI.exec, evS_spec hE h1, evS_spec hE h2, γ, SI.v]
        rw [if_pos ⟨g1, g2⟩, h4]
      | sym n =>
        obtain ⟨v, h3, h4⟩ := getE_spec hs
        refine XR.ok H h3 (w := γ v) ?_ rfl
        simp only [AI.exec, evS_spec hE h1, evS_spec hE h2, γ, SI.v]
        rw [if_pos ⟨g1, g2⟩]
        simp only [SI.v, Nat.zero_add, Nat.add_zero] at h4
        rw [h4]
    · exact hs.elim
  · split at hs
    · rename_i cs k j h1 h2
      obtain ⟨g1, hs⟩ := gS_iff_le hs
      obtain ⟨g2, hs⟩ := gS_iff_lt hs
      have g1 : 0 ≤ j.v := g1
      cases j with
      | lit n =>
        obtain ⟨l, h3, h4, h5⟩ := getN_spec hs
        refine XR.ok H h3 (w := γ (.agg l)) ?_ rfl
        simp only [AI.exec, evS_spec hE h1, evS_spec hE h2, γ, SI.v]
        rw [if_pos ⟨g1, g2, h5⟩, h4]
      | sym n =>
        obtain ⟨l, h3, h4, h5⟩ := getEN_spec hs
        refine XR.ok H h3 (w := γ (.agg l)) ?_ rfl
        simp only [AI.exec, evS_spec hE h1, evS_spec hE h2, γ, SI.v]
        simp only [SI.v, Nat.zero_add, Nat.add_zero] at h4 h5
        rw [if_pos ⟨g1, g2, h5⟩, h4]
    · exact hs.elim

theorem sx_slice {ai : AI} (hai : (∃ z x lo hi, ai = .slice z x lo hi) ∨ (∃ z x lo hi mx, ai = .slice3 z x lo hi mx)) (hE : EnvR e ae) (H : HR h a) (hs : SX ov r ai e h nx K) : XR r ai ae a nx K := by
  have mulAdd : ∀ {x y : Int} (z : Nat), 0 ≤ x → 0 ≤ y → (x + y).toNat * z = x.toNat * z + y.toNat * z := by
    intro x y z hx hy
    rw [← Nat.add_mul]; congr 1; omega
  rcases hai with ⟨z, x, lo, hi, rfl⟩ | ⟨z, x, lo, hi, mx, rfl⟩ <;> simp only [SX] at hs
  · split at hs
    · rename_i b lo0 z' len cap l h1 h2
      have h3 := loS_spec hE h2
      cases hc : Nat.beq z' z with
      | false => rw [hc] at hs; exact hs.elim
      | true =>
        rw [hc] at hs
        have hc := Nat.eq_of_beq_eq_true hc
        subst hc
        cases hi with
        | none =>
          simp only [cond_true] at hs
          obtain ⟨g0, hs⟩ := gS_iff_le hs
          obtain ⟨g1, hs⟩ := gS_iff_le hs
          obtain ⟨g2, hs⟩ := gS_iff_le hs
          have g0 : 0 ≤ lo0.v := g0
          have g1 : 0 ≤ l.v := g1
          have hlen : ((len.v.toNat : Nat) : Int) = len.v := by omega
          refine XR.ok H hs (w := _) ?_ rfl
          simp only [AI.exec, evS_spec hE h1, γ, h3, hiEv, hlen, SI.add_v, SI.sub_v, mulAdd z' g0 g1]
          rw [if_pos ⟨trivial, g1, g2, .inl (Int.le_refl _)⟩]
          congr 3
          cases cap with
          | none => simp only [capS, SI.sub_v]; omega
          | some c => simp only [capS, SI.sub_v]; omega
        | some hx =>
          simp only [cond_true] at hs
          split at hs
          · rename_i n h4
            have h5 : hiEv ae ((len.v.toNat : Nat) : Int) (some hx) = some n.v := by
              have := loS_spec hE h4
              simp only [loOf] at this; simp only [hiEv]; exact this
            obtain ⟨g0, hs⟩ := gS_iff_le hs
            obtain ⟨g1, hs⟩ := gS_iff_le hs
            obtain ⟨g2, hs⟩ := gS_iff_le hs
            obtain ⟨g3, hs⟩ := gS_iff_le hs
            have g0 : 0 ≤ lo0.v := g0
            have g1 : 0 ≤ l.v := g1
            refine XR.ok H hs (w := _) ?_ rfl
            simp only [AI.exec, evS_spec hE h1, γ, h3, h5, SI.add_v, SI.sub_v, mulAdd z' g0 g1]
            rw [if_pos ⟨trivial, g1, g2, by cases cap <;> simp only [capS] at g3 ⊢ <;> omega⟩]
            congr 3
            cases cap <;> simp only [capS, SI.sub_v] <;> omega
          · exact hs.elim
    · rename_i l h1 h2
      have h3 := loS_spec hE h2
      cases hi with
      | none =>
        simp only at hs
        obtain ⟨g0, hs⟩ := gS_iff_eq hs
        refine XR.ok H hs (w := .nils) ?_ rfl
        simp only [AI.exec, evS_spec hE h1, γ, h3, hiEv]
        rw [if_pos ⟨g0, trivial⟩]
      | some hx =>
        simp only at hs
        split at hs
        · rename_i n h4
          have h5 : hiEv ae 0 (some hx) = some n.v := by
            have := loS_spec hE h4
            simp only [loOf] at this; simp only [hiEv]; exact this
          obtain ⟨g0, hs⟩ := gS_iff_eq hs
          obtain ⟨g1, hs⟩ := gS_iff_eq hs
          refine XR.ok H hs (w := .nils) ?_ rfl
          simp only [AI.exec, evS_spec hE h1, γ, h3, h5]
          rw [if_pos ⟨g0, g1⟩]
        · exact hs.elim
    · exact hs.elim
  · split at hs
    · rename_i b lo0 z' len cap l k n k' m h1 h2 h4 h5
      have h3 := loS_spec hE h2
      cases hc : Nat.beq z' z with
      | false => rw [hc] at hs; exact hs.elim
      | true =>
        rw [hc] at hs
        have hc := Nat.eq_of_beq_eq_true hc
        subst hc
        simp only [cond_true] at hs
        obtain ⟨g0, hs⟩ := gS_iff_le hs
        obtain ⟨g1, hs⟩ := gS_iff_le hs
        obtain ⟨g2, hs⟩ := gS_iff_le hs
        obtain ⟨g3, hs⟩ := gS_iff_le hs
        obtain ⟨g4, hs⟩ := gS_iff_le hs
        have g0 : 0 ≤ lo0.v := g0
        have g1 : 0 ≤ l.v := g1
        refine XR.ok H hs (w := _) ?_ rfl
        simp only [AI.exec, evS_spec hE h1, evS_spec hE h4, evS_spec hE h5, γ, h3, SI.add_v, SI.sub_v, mulAdd z' g0 g1]
        rw [if_pos ⟨trivial, g1, g2, g3, by cases cap <;> simp only [capS] at g4 ⊢ <;> omega⟩]
        simp only [capS, SI.sub_v]
    · exact hs.elim

theorem flat_arr1 {x : SV} (hx : x.isArr = true) : flat [x] = rows x := by rw [flat_arr hx]; simp [flat]

theorem sx_append {elem z bytes : Nat} {x y : AOpd} (hE : EnvR e ae) (H : HR h a) (hs : SX ov r (.append elem z bytes x y) e h nx K) : XR r (.append elem z bytes x y) ae a nx K := by
  simp only [SX] at hs
  split at hs
  · rename_i yv hy
    obtain ⟨n, s, hs, n0, sarr, sz, scnt, hsrc⟩ := srcS_spec H hs
    have hsone : allOne (rows s) = true := by rw [← flat_arr1 sarr]; exact flat_allOneB _
    have hslen : (rows s).length = n.v.toNat * z := by rw [rows_length, scnt, sz]
    split at hs
    · rename_i hx
      obtain ⟨g0, hs⟩ := gS_iff_le hs
      have g0 : n.v ≤ 2 ^ 40 := g0
      cases hb : Nat.ble bytes 64 with
      | false => rw [hb] at hs; exact hs.elim
      | true =>
        rw [hb] at hs
        simp only [cond_true, hsetK_eq] at hs
        refine ⟨_, _, _, hs, _, ?_, H.set (o := .cells [s] elem) (ao := .cells (rows s) elem) (by simp only [OR, flat_arr1 sarr])⟩
        simp only [AI.exec, evS_spec hE hx, evS_spec hE hy, γ, hsrc]
        rw [if_pos ⟨by omega, Nat.le_of_ble_eq_true hb⟩]
        have e0 : (SI.lit 0).v.toNat * z = 0 := by simp [SI.v]
        rw [e0]; rfl
    · rename_i j lo z' len cap hx
      split at hs
      · rename_i x0 t hj
        cases hc : x0.isArr && (Nat.beq x0.esz z && Nat.beq z' z) with
        | false => rw [hc] at hs; exact hs.elim
        | true =>
          rw [hc] at hs
          simp only [Bool.and_eq_true] at hc
          obtain ⟨c1, c2, c3⟩ := hc
          have c2 := Nat.eq_of_beq_eq_true c2
          have c3 := Nat.eq_of_beq_eq_true c3
          subst c3
          obtain ⟨ao, q1, q2⟩ := H j _ hj
          simp only [OR, flat_arr1 c1] at q2; subst q2
          have hrl : (rows x0).length = x0.cnt.v.toNat * z' := by rw [rows_length, c2]
          -- a new block
          have grow : (0 ≤ len.v → ¬ (len.v.toNat + n.v.toNat ≤ (capS len cap).v.toNat ∧ len.v.toNat < (capS len cap).v.toNat)) →
              gS (eqS lo (.lit 0)) (gS (leS (.lit 0) len) (gS (leS len x0.cnt) (gS (leS (len.add n) (.lit (2 ^ 40)))
                (bif Nat.beq t elem && Nat.ble bytes 64 then hdelK h j fun h1 => hsetK h1 nx (.cells [acatN (asubN x0 (.lit 0) len) s] elem) fun h' => K (.sl (.own nx) (.lit 0) z' (len.add n) none) h' (nx + 1) else False)))) →
              XR r (.append elem z' bytes x y) ae a nx K := by
            intro hno hg
            obtain ⟨g0, hg⟩ := gS_iff_eq hg
            obtain ⟨g1, hg⟩ := gS_iff_le hg
            obtain ⟨g2, hg⟩ := gS_iff_le hg
            obtain ⟨g3, hg⟩ := gS_iff_le hg
            rw [SI.add_v] at g3
            have g0 : lo.v = 0 := g0
            have g1 : 0 ≤ len.v := g1
            have g3 : len.v + n.v ≤ 2 ^ 40 := g3
            cases hb : Nat.beq t elem && Nat.ble bytes 64 with
            | false => rw [hb] at hg; exact hg.elim
            | true =>
              rw [hb] at hg
              simp only [Bool.and_eq_true] at hb
              obtain ⟨b1, b2⟩ := hb
              have b1 := Nat.eq_of_beq_eq_true b1
              subst b1
              simp only [cond_true, hdelK_eq, hsetK_eq] at hg
              have z0 : (0 : Int) ≤ SI.v (.lit 0) := Int.le_refl _
              obtain ⟨p1, p2, p3, p4⟩ := rows_asubN (a := x0) (lo := .lit 0) (n := len) z0 g1 (by show 0 + _ ≤ _; omega)
              obtain ⟨p5, p6⟩ := rows_acatN (a := asubN x0 (.lit 0) len) (b := s) (by rw [p3, c2, sz]) (by rw [p2]; exact g1) (by rw [scnt]; exact n0)
              have hm : len.v.toNat * z' ≤ x0.cnt.v.toNat * z' := Nat.mul_le_mul_right _ (by omega)
              refine ⟨_, _, _, hg, _, ?_, (H.del (j := j) (v := none)).set (o := .cells [acatN (asubN x0 (.lit 0) len) s] t) (ao := .cells ((rows x0).take (len.v.toNat * z') ++ rows s) t) ?_⟩
              · simp only [AI.exec, evS_spec hE hx, evS_spec hE hy, γ, hsrc, q1]
                rw [if_neg (by simp), if_neg (fun c => hno g1 ⟨c.1, c.2.1⟩), if_pos ⟨by rw [g0]; simp, trivial, by omega, by omega, Nat.le_of_ble_eq_true b2, hsone⟩]
                have e1 : (len.v + n.v).toNat = len.v.toNat + n.v.toNat := by omega
                have e0 : (SI.lit 0).v.toNat * z' = 0 := by simp [SI.v]
                rw [e0]; simp only [SI.add_v, e1, capS]
              · simp only [OR, flat_arr1 p6, p5, p1, c2]
                simp [SI.v]
          simp only [cond_true] at hs
          cases cap with
          | none => exact grow (fun _ c => by simp only [capS] at c; omega) hs
          | some c =>
            simp only at hs
            rcases forkS_spec hs with ⟨g1, g2⟩ | ⟨g1, g2⟩
            · rw [andS_v, Bool.and_eq_true, leS_v, ltS_v, SI.add_v] at g1
              obtain ⟨k0, g2⟩ := gS_iff_le g2
              obtain ⟨k1, g2⟩ := gS_iff_le g2
              have k0 : 0 ≤ lo.v := k0
              have k1 : 0 ≤ len.v := k1
              obtain ⟨a', g3, g4, g5, g6⟩ := inplS_spec g2 k0 k1 n0 (by rw [sz, c2]) scnt
              rw [hsetK_eq] at g3
              rw [c2] at g5 g6
              refine ⟨_, _, _, g3, _, ?_, H.set (o := .cells [a'] t) (ao := .cells (rows a') t) (by simp only [OR, flat_arr1 g4])⟩
              simp only [AI.exec, evS_spec hE hx, evS_spec hE hy, γ, hsrc, q1]
              rw [if_neg (by simp), if_pos ⟨by simp only [capS]; omega, by simp only [capS]; omega, g6, hsone⟩, g5]
              have e1 : (len.v + n.v).toNat = len.v.toNat + n.v.toNat := by omega
              simp [SI.add_v, e1, capS]
            · refine grow ?_ g2
              rw [andS_v, Bool.and_eq_false_iff] at g1
              rintro hl ⟨q3, q4⟩
              simp only [capS] at q3 q4
              rcases g1 with g1 | g1
              · have : ¬ (leS (len.add n) c).v = true := by rw [g1]; simp
                rw [leS_v, SI.add_v] at this
                omega
              · have : ¬ (ltS len c).v = true := by rw [g1]; simp
                rw [ltS_v] at this
                omega
      · exact hs.elim
    · exact hs.elim
  · exact hs.elim

theorem γs_get : ∀ {vs : List SV} {i : Nat} {v : SV}, vs[i]? = some v → (γs vs)[i]? = some (γ v) := by
  intro vs i v h
  rw [γs_map, List.getElem?_map, h]; rfl

theorem flatten_zero (zs : List SV) (z c : Nat) (hz : (flat zs).length = z) : (List.range c).flatMap (fun _ => fix z (flat zs)) = List.flatten (List.replicate c (flat zs)) := by
  induction c with
  | zero => rfl
  | succ c ih =>
    rw [List.range_succ, List.flatMap_append, ih, List.replicate_succ', List.flatten_append]
    simp [fix_eq hz]

theorem SX_spec {ai : AI} (hE : EnvR e ae) (H : HR h a) (hs : SX ov r ai e h nx K) : XR r ai ae a nx K := by
  cases ai with
  | mv x =>
    simp only [SX] at hs
    split at hs
    · rename_i v h1
      exact XR.ok H hs (w := γ v) (by simp only [AI.exec, evS_spec hE h1]) rfl
    · exact hs.elim
  | pick c x y =>
    simp only [SX] at hs
    split at hs
    · rename_i t h1
      split at hs
      · rename_i p q h2 h3
        refine XR.ok H hs (w := .bool (bif t.v then p.v else q.v)) ?_ (by simp only [γ, iteS_v])
        simp only [AI.exec, evS_spec hE h1, γ, evS_spec hE h2, evS_spec hE h3]
        cases t.v <;> rfl
      · rcases forkS_spec hs with ⟨g1, g2⟩ | ⟨g1, g2⟩
        · split at g2
          · rename_i v h2
            exact XR.ok H g2 (w := γ v) (by simp only [AI.exec, evS_spec hE h1, γ, g1, cond_true, evS_spec hE h2]) rfl
          · exact g2.elim
        · split at g2
          · rename_i v h2
            exact XR.ok H g2 (w := γ v) (by simp only [AI.exec, evS_spec hE h1, γ, g1, cond_false, evS_spec hE h2]) rfl
          · exact g2.elim
    · exact hs.elim
  | bin op x y => exact sx_bin hE H hs
  | eqb ng x y =>
    simp only [SX] at hs
    split at hs
    · rename_i b c h1 h2
      exact XR.ok H hs (w := .bool (xor ng (b.v == c.v))) (by simp only [AI.exec, evS_spec hE h1, evS_spec hE h2, γ]) (by simp only [γ, iffS_v])
    · exact hs.elim
  | eqn cls ng x y =>
    simp only [SX] at hs
    split at hs
    · rename_i v w h1 h2
      split at hs
      · rename_i t h3 h4
        exact XR.ok H hs (w := .bool (xor ng t)) (by simp only [AI.exec, evS_spec hE h1, evS_spec hE h2, eqnV, nilS_spec h3, nilS_spec h4]) rfl
      · rename_i h3 h4
        exact XR.ok H hs (w := .bool (xor ng false)) (by simp only [AI.exec, evS_spec hE h1, evS_spec hE h2, eqnV, nilS_spec h3, nilS_spec h4]) rfl
      · exact hs.elim
    · exact hs.elim
  | eqA ng offs x y =>
    simp only [SX] at hs
    split at hs
    · rename_i b c h1 h2
      split at hs
      · rename_i t h3
        have h4 := eqLS_spec h3
        refine XR.ok H hs (w := .bool (xor ng t.v)) (by simp only [AI.exec, evS_spec hE h1, evS_spec hE h2, γ, h4]) ?_
        cases ng <;> simp [γ, notS_v]
      · exact hs.elim
    · exact hs.elim
  | not x =>
    simp only [SX] at hs
    split at hs
    · rename_i t h1
      exact XR.ok H hs (w := .bool !t.v) (by simp only [AI.exec, evS_spec hE h1, γ]) (by simp only [γ, notS_v])
    · exact hs.elim
  | neg x =>
    simp only [SX] at hs
    split at hs
    · rename_i k n h1
      obtain ⟨v, h2, h3⟩ := numS_spec hs
      refine XR.ok H h2 (w := .int k (k.wrap (0 - n.v))) (by simp only [AI.exec, evS_spec hE h1, γ]) ?_
      rw [h3, SI.sub_v]; rfl
    · exact hs.elim
  | conv k x =>
    simp only [SX] at hs
    split at hs
    · rename_i k' n h1
      obtain ⟨v, h2, h3⟩ := numS_spec hs
      exact XR.ok H h2 (w := .int k (k.wrap n.v)) (by simp only [AI.exec, evS_spec hE h1, γ]) h3
    · exact hs.elim
  | alloc t zero =>
    simp only [SX] at hs
    split at hs
    · rename_i l h1
      rw [hsetK_eq] at hs
      exact ⟨_, _, _, hs, _, by simp only [AI.exec, γ], H.set (o := .cells l t) (ao := .cells zero t) (by simp only [OR, (δs_spec _ _ h1).1])⟩
    · exact hs.elim
  | box t x =>
    simp only [SX] at hs
    split at hs
    · rename_i v h1
      split at hs
      · rename_i l h2
        rw [hsetK_eq] at hs
        obtain ⟨q1, q2, q3⟩ := vcells_spec h2
        refine ⟨_, _, _, hs, _, ?_, H.set (o := .cells l t) (ao := .cells (γ v).cells t) (by simp only [OR, q1])⟩
        simp only [AI.exec, evS_spec hE h1, γ]
        cases hv : γ v <;> rw [hv] at q2 <;> simp_all [AVal.isAny]
      · exact hs.elim
    · exact hs.elim
  | build zero ps =>
    simp only [SX] at hs
    split at hs
    · rename_i l h1
      obtain ⟨l', us, h2, h3, h4⟩ := fillS_spec hE hs
      rw [(δs_spec _ _ h1).1] at h4
      exact XR.ok H h2 (w := .agg (flat l')) (by simp only [AI.exec, h3, h4, Option.map_some]) rfl
    · exact hs.elim
  | buildSlice elem z zero len ps =>
    simp only [SX] at hs
    split at hs
    · rename_i l h1
      obtain ⟨l', us, h2, h3, h4⟩ := fillS_spec hE hs
      rw [(δs_spec _ _ h1).1] at h4
      cases hc : plain l' && (Nat.ble 1 z && Nat.beq (l'.length % z) 0) with
      | false => rw [hc] at h2; exact h2.elim
      | true =>
        rw [hc] at h2
        simp only [Bool.and_eq_true] at hc
        obtain ⟨c1, c2, c3⟩ := hc
        simp only [cond_true, hsetK_eq] at h2
        refine ⟨_, _, _, h2, _, ?_, H.set (o := .cells [.alit z l'] elem) (ao := .cells (flat l') elem) ?_⟩
        · simp only [AI.exec, h3, h4]
          simp [γ, SI.v, capS]
        · simp only [OR, flat_arr1 (show (SV.alit z l').isArr = true from rfl), rows_alit c1 (Nat.le_of_ble_eq_true c2) (Nat.eq_of_beq_eq_true c3)]
    · exact hs.elim
  | load1 x => exact sx_load1 hE H hs
  | loadN n x => exact sx_loadN hE H hs
  | store n x y => exact sx_store hE H hs
  | nilCheck x =>
    simp only [SX] at hs
    split at hs <;> first
      | exact hs.elim
      | (rename_i h1; exact XR.ok H hs (by simp only [AI.exec, evS_spec hE h1, γ]) rfl)
  | addOff off x =>
    simp only [SX] at hs
    split at hs <;> first
      | exact hs.elim
      | (rename_i b o h1; exact XR.ok H hs (w := .ptr b (o + off)) (by simp only [AI.exec, evS_spec hE h1, γ]) (by simp only [γ]))
      | (rename_i b base num i z o h1; exact XR.ok H hs (w := .ptr b (base + i.v.toNat * z + o + off)) (by simp only [AI.exec, evS_spec hE h1, γ]) (by simp only [γ, Nat.add_assoc]))
  | field1 off x =>
    simp only [SX] at hs
    split at hs
    · rename_i cs h1
      obtain ⟨v, h2, h3⟩ := getCell_spec hs
      exact XR.ok H h2 (w := γ v) (by simp only [AI.exec, evS_spec hE h1, γ, h3]) rfl
    · exact hs.elim
  | fieldN off n x =>
    simp only [SX] at hs
    split at hs
    · rename_i cs h1
      obtain ⟨l, h2, h3, h4⟩ := getN_spec hs
      exact XR.ok H h2 (w := γ (.agg l)) (by simp only [AI.exec, evS_spec hE h1, γ, if_pos h4, h3]) rfl
    · exact hs.elim
  | idxA len z x i => exact sx_idx (.inl ⟨_, _, _, _, rfl⟩) hE H hs
  | idxS z x i => exact sx_idx (.inr (.inl ⟨_, _, _, rfl⟩)) hE H hs
  | index1 len z x i => exact sx_idx (.inr (.inr (.inl ⟨_, _, _, _, rfl⟩))) hE H hs
  | indexN len z x i => exact sx_idx (.inr (.inr (.inr ⟨_, _, _, _, rfl⟩))) hE H hs
  | extract x i =>
    simp only [SX] at hs
    split at hs
    · rename_i vs h1
      split at hs
      · rename_i v h2
        exact XR.ok H hs (w := γ v) (by simp only [AI.exec, evS_spec hE h1, γ, γs_get h2]) rfl
      · exact hs.elim
    · exact hs.elim
  | mkFunc f first caps =>
    simp only [SX] at hs
    split at hs
    · rename_i x y h1 h2
      exact XR.ok H hs (w := .func f (γs x) (γs y)) (by simp only [AI.exec, evsS_spec hE h1, evsS_spec hE h2]) (by simp only [γ])
    · exact hs.elim
  | makeSlice elem z bytes zero len cap =>
    simp only [SX] at hs
    split at hs
    · rename_i l c zs h1 h2 h3
      cases hc : Nat.beq zs.length z && plain zs with
      | false => rw [hc] at hs; exact hs.elim
      | true =>
        rw [hc] at hs
        simp only [Bool.and_eq_true] at hc
        simp only [cond_true, hsetK_eq] at hs
        obtain ⟨g0, hs⟩ := gS_iff_le hs
        obtain ⟨g1, hs⟩ := gS_iff_le hs
        obtain ⟨g2, hs⟩ := gS_iff_le hs
        obtain ⟨g3, hs⟩ := gS_iff_le hs
        rw [SI.op_v] at g2
        have g0 : 0 ≤ l.v := g0
        have g2 : (bytes : Int) * c.v ≤ 2 ^ 44 := g2
        have g3 : c.v ≤ 2 ^ 44 := g3
        obtain ⟨d1, d2⟩ := δs_spec _ _ h3
        have hzl : (flat zs).length = z := by rw [flat_length d2]; exact Nat.eq_of_beq_eq_true hc.1
        refine ⟨_, _, _, hs, _, ?_, H.set (o := .cells [.arr c z (zeroE zs)] elem) (ao := .cells (List.flatten (List.replicate c.v.toNat zero)) elem) ?_⟩
        · simp only [AI.exec, evS_spec hE h1, evS_spec hE h2, γ]
          rw [if_pos ⟨g0, g1, g2, g3⟩]
          simp [SI.v, capS]
        · simp only [OR, flat_arr1 (show (SV.arr c z (zeroE zs)).isArr = true from rfl)]
          rw [← d1, ← flatten_zero zs z _ hzl]
          simp only [rows, SV.cnt, SV.esz, SL.elem, zeroE]
    · exact hs.elim
  | slice z x lo hi => exact sx_slice (.inl ⟨_, _, _, _, rfl⟩) hE H hs
  | slice3 z x lo hi mx => exact sx_slice (.inr ⟨_, _, _, _, _, rfl⟩) hE H hs
  | lenS x =>
    simp only [SX] at hs
    split at hs
    · rename_i b lo z len cap h1
      obtain ⟨g0, hs⟩ := gS_iff_le hs
      have g0 : 0 ≤ len.v := g0
      exact XR.ok H hs (w := .int .i64 (len.v.toNat : Nat)) (by simp only [AI.exec, evS_spec hE h1, γ]) (by simp only [γ]; congr 1; omega)
    · rename_i h1
      exact XR.ok H hs (w := .int .i64 0) (by simp only [AI.exec, evS_spec hE h1, γ]) rfl
    · exact hs.elim
  | append elem z bytes x y => exact sx_append hE H hs
  | min x y =>
    simp only [SX] at hs
    split at hs
    · rename_i k m k' n h1 h2
      cases hk : decide (k = k') with
      | false => rw [hk] at hs; exact hs.elim
      | true =>
        rw [hk] at hs
        have hk := of_decide_eq_true hk
        subst hk
        refine XR.ok H hs (w := .int k (if n.v < m.v then n.v else m.v)) (by simp only [AI.exec, evS_spec hE h1, evS_spec hE h2, γ, if_true]) ?_
        simp only [γ, SI.op_v]; congr 1; split <;> omega
    · exact hs.elim
  | max x y =>
    simp only [SX] at hs
    split at hs
    · rename_i k m k' n h1 h2
      cases hk : decide (k = k') with
      | false => rw [hk] at hs; exact hs.elim
      | true =>
        rw [hk] at hs
        have hk := of_decide_eq_true hk
        subst hk
        refine XR.ok H hs (w := .int k (if m.v < n.v then n.v else m.v)) (by simp only [AI.exec, evS_spec hE h1, evS_spec hE h2, γ, if_true]) ?_
        simp only [γ, SI.op_v]; congr 1; split <;> omega
    · exact hs.elim
  | _ => exact hs.elim

end
end Go.SL

/- Helper text: lists of operations on told states. -/
namespace Go.SL
open Go.AL

inductive SDf where
  | coll (b : Bid)
  | clo (f : FuncId) (args : List SV)
  deriving Inhabited
structure SSt where
  env : SEnv
  h : SHeap
  nx : Nat
  dfs : List SDf
  deriving Inhabited
noncomputable def γd : SDf → ADef
  | .coll b => .coll b
  | .clo f args => .clo f (γs args)

/-- A told state stands for one. -/
structure GS (σ : SSt) (s : St) : Prop where
  nx : s.nx = σ.nx
  env : EnvR σ.env s.env
  heap : HR σ.h s.h
  dfs : s.dfs = σ.dfs.map γd

abbrev SCV := SV → List SV → SHeap → Nat → SK → Prop
def SCVOk (P : Program) (r : SRom) (scv : SCV) : Prop :=
  ∀ fv args h nx K, scv fv args h nx K → ∀ a, HR h a → CallV P (γr r) (γ fv) (γs args) a nx fun v h' nx' => ∃ sv sh, v = γ sv ∧ HR sh h' ∧ K sv sh nx'

variable {P : Program}

def SEAct (ov : Bool) (r : SRom) (scv : SCV) (rd : Option Bid) (o : AOp) (σ : SSt) (K : SSt → Prop) : Prop :=
  match o.act with
  | .plain ai => SX ov r ai σ.env σ.h σ.nx fun v h' nx' => putK σ.env o.dst (some v) fun e' => K ⟨e', h', nx', σ.dfs⟩
  | .call f args => match evS σ.env f, evsS σ.env args with
    | some fv, some vs => scv fv vs σ.h σ.nx fun v h' nx' => putK σ.env o.dst (some v) fun e' => K ⟨e', h', nx', σ.dfs⟩
    | _, _ => False
  | .dfr f args => match rd, evS σ.env f, evsS σ.env args with
    | none, some (.func g first caps), some vs => putK σ.env o.dst none fun e' => K ⟨e', σ.h, σ.nx, .clo g (first ++ vs ++ caps) :: σ.dfs⟩
    | _, _, _ => False

/-- Two ways; the slot is told in each. -/
def forkEnv (t : SB) (e : SEnv) (d : Nat) (K1 K0 : SEnv → Prop) : Prop :=
  match t with
  | .lit true => K1 e
  | .lit false => K0 e
  | .sym p => (p → setK e d (some (.bool (.lit true))) K1) ∧ (¬ p → setK e d (some (.bool (.lit false))) K0)
theorem forkEnv_spec {t : SB} {e : SEnv} {a : Env} {d : Nat} {K1 K0 : SEnv → Prop} (h : forkEnv t e d K1 K0) (hE : EnvR e a) (hd : getEnv e d = some (.bool t)) : ∃ e', EnvR e' a ∧ ((t.v = true ∧ K1 e') ∨ (t.v = false ∧ K0 e')) := by
  have ha := hE d _ hd
  unfold forkEnv at h
  split at h
  · exact ⟨e, hE, .inl ⟨rfl, h⟩⟩
  · exact ⟨e, hE, .inr ⟨rfl, h⟩⟩
  · rename_i p
    have set : ∀ b, (SB.sym p).v = b → EnvR (setEnv e d (some (.bool (.lit b)))) a := by
      intro b hb t v hv
      rcases getEnv_set hv with ⟨rfl, h2⟩ | ⟨_, h2⟩
      · injection h2 with h2; subst h2
        rw [ha]; simp only [γ, hb]; rfl
      · exact hE t v h2
    by_cases hp : p
    · have h1 := h.1 hp
      rw [setK_eq] at h1
      have hv : (SB.sym p).v = true := by rw [SB.v_sym]; exact hp
      exact ⟨_, set true hv, .inl ⟨hv, h1⟩⟩
    · have h1 := h.2 hp
      rw [setK_eq] at h1
      have hv : (SB.sym p).v = false := by simp [SB.v, hp]
      exact ⟨_, set false hv, .inr ⟨hv, h1⟩⟩

def SEOp (ov : Bool) (r : SRom) (scv : SCV) (rd : Option Bid) (o : AOp) (σ : SSt) (K : SSt → Prop) : Prop :=
  match o.guard with
  | none => SEAct ov r scv rd o σ K
  | some (d, want) => match getEnv σ.env d with
    | some (.bool t) => forkEnv t σ.env d
        (fun e => bif want then SEAct ov r scv rd o ⟨e, σ.h, σ.nx, σ.dfs⟩ K else putK e o.dst none fun e' => K ⟨e', σ.h, σ.nx, σ.dfs⟩)
        (fun e => bif want then putK e o.dst none fun e' => K ⟨e', σ.h, σ.nx, σ.dfs⟩ else SEAct ov r scv rd o ⟨e, σ.h, σ.nx, σ.dfs⟩ K)
    | _ => False

def SEOps (ov : Bool) (r : SRom) (scv : SCV) (rd : Option Bid) : List AOp → SSt → (SSt → Prop) → Prop
  | [], σ, K => K σ
  | o :: os, σ, K => SEOp ov r scv rd o σ fun σ' => SEOps ov r scv rd os σ' K

theorem γs_append (a b : List SV) : γs (a ++ b) = γs a ++ γs b := by simp [γs_map]

/-- What an abstract continuation is of a told one. -/
def KS1 (K : SSt → Prop) : St → Prop := fun s => ∃ σ, GS σ s ∧ K σ

theorem GS.put {σ : SSt} {s : St} (G : GS σ s) (d : Option Nat) (v : Option SV) {h : SHeap} {a : Heap} (H : HR h a) (nx : Nat) : GS ⟨putS σ.env d v, h, nx, σ.dfs⟩ ⟨AL.put s.env d (v.map γ), a, nx, s.dfs⟩ :=
  ⟨rfl, G.env.put d v, H, G.dfs⟩

section
variable {ov : Bool} {r : SRom} {scv : SCV} {rd : Option Bid}
theorem SEAct_sound (hs : SCVOk P r scv) {o : AOp} {σ : SSt} {s : St} {K : SSt → Prop} (G : GS σ s) (h : SEAct ov r scv rd o σ K) : EAct (γr r) (CallV P (γr r)) rd o s (KS1 K) := by
  unfold SEAct at h
  unfold EAct
  split at h
  · rename_i ai hai
    simp only [hai]
    obtain ⟨v, h', nx', hk, a', hx, H⟩ := SX_spec G.env G.heap h
    rw [G.nx, hx]
    rw [putK_eq] at hk
    exact ⟨_, G.put o.dst (some v) H nx', hk⟩
  · rename_i f args hai
    simp only [hai]
    split at h
    · rename_i fv vs h1 h2
      simp only [evS_spec G.env h1, evsS_spec G.env h2]
      rw [G.nx]
      refine (hs _ _ _ _ _ h s.h G.heap).mono ?_
      rintro _ h' nx' ⟨sv, sh, rfl, H, hk⟩
      rw [putK_eq] at hk
      exact ⟨_, G.put o.dst (some sv) H nx', hk⟩
    · exact h.elim
  · rename_i f args hai
    simp only [hai]
    split at h
    · rename_i g first caps vs h1 h2
      simp only [evS_spec G.env h1, evsS_spec G.env h2, γ]
      rw [putK_eq] at h
      refine ⟨⟨putS σ.env o.dst none, σ.h, σ.nx, .clo g (first ++ vs ++ caps) :: σ.dfs⟩, ⟨G.nx, ?_, G.heap, ?_⟩, h⟩
      · exact G.env.put o.dst none
      · simp only [List.map_cons, γd, γs_append, G.dfs]
    · exact h.elim
theorem SEOp_sound (hs : SCVOk P r scv) {o : AOp} {σ : SSt} {s : St} {K : SSt → Prop} (G : GS σ s) (h : SEOp ov r scv rd o σ K) : EOp (γr r) (CallV P (γr r)) rd o s (KS1 K) := by
  unfold SEOp at h
  unfold EOp
  split at h
  · rename_i hg
    simp only [hg]
    exact SEAct_sound hs G h
  · rename_i d want hg
    simp only [hg]
    split at h
    · rename_i t ht
      simp only [G.env _ _ ht, γ]
      obtain ⟨e', hE', hc⟩ := forkEnv_spec h G.env ht
      have G' : GS ⟨e', σ.h, σ.nx, σ.dfs⟩ s := ⟨G.nx, hE', G.heap, G.dfs⟩
      have hsk : (putK e' o.dst none fun e' => K ⟨e', σ.h, σ.nx, σ.dfs⟩) → KS1 K ⟨AL.put s.env o.dst none, s.h, s.nx, s.dfs⟩ := by
        intro h
        rw [putK_eq] at h
        exact ⟨⟨putS e' o.dst none, σ.h, σ.nx, σ.dfs⟩, ⟨G.nx, hE'.put o.dst none, G.heap, G.dfs⟩, h⟩
      rcases hc with ⟨g1, g2⟩ | ⟨g1, g2⟩
      · rw [g1]
        cases want with
        | true => exact SEAct_sound hs G' g2
        | false => exact hsk g2
      · rw [g1]
        cases want with
        | true => exact hsk g2
        | false => exact SEAct_sound hs G' g2
    · exact h.elim
theorem SEOps_sound (hs : SCVOk P r scv) : ∀ {l : List AOp} {σ : SSt} {s : St} {K : SSt → Prop}, GS σ s → SEOps ov r scv rd l σ K → EOps (γr r) (CallV P (γr r)) rd l s (KS1 K)
  | [], σ, s, K, G, h => ⟨σ, G, h⟩
  | o :: os, σ, s, K, G, h => EOp.mono CVOk.sem (fun _ ⟨_, G', h'⟩ => SEOps_sound hs G' h') (SEOp_sound hs G h)

/-! ### Regions that draw their order -/
/-- Two values are the same. -/
def eqI (a b : SI) (K : Prop) : Prop := gS (eqS a b) K
def eqV : SV → SV → Prop
  | .bool a, .bool b => (match a, b with | .lit x, .lit y => bif x == y then True else False | a, b => (a.p ↔ b.p))
  | .int k a, .int k' b => bif decide (k = k') then eqI a b True else False
  | .str a, .str b => a.v = b.v
  | .nilp, .nilp => True
  | .ptr b o, .ptr b' o' => bif decide (b = b') && decide (o = o') then True else False
  | .nils, .nils => True
  | .sl b lo z len none, .sl b' lo' z' len' none => bif decide (b = b') && decide (z = z') then eqI lo lo' (eqI len len' True) else False
  | .sl b lo z len (some c), .sl b' lo' z' len' (some c') => bif decide (b = b') && decide (z = z') then eqI lo lo' (eqI len len' (eqI c c' True)) else False
  | .nilm, .nilm => True
  | .map b, .map b' => bif decide (b = b') then True else False
  | .nilf, .nilf => True
  | .nili, .nili => True
  | _, _ => False
theorem eqI_spec {a b : SI} {K : Prop} (h : eqI a b K) : a.v = b.v ∧ K := ⟨(eqS_v _ _).1 (gS_spec h).1, (gS_spec h).2⟩
theorem bifTF {b : Bool} (h : bif b then True else False) : b = true := by cases b <;> simp_all
theorem bifPF {b : Bool} {Q : Prop} (h : bif b then Q else False) : b = true ∧ Q := by cases b <;> simp_all
theorem eqV_spec {a b : SV} (h : eqV a b) : γ a = γ b := by
  unfold eqV at h
  split at h
  · rename_i x y
    simp only [γ]
    congr 1
    split at h
    · have := bifTF h
      simpa [SB.v] using this
    · rename_i x y _
      apply bool_of_iff
      rw [← SB.p_v, ← SB.p_v]; exact h
  · obtain ⟨h1, h2⟩ := bifPF h
    obtain ⟨h3, _⟩ := eqI_spec h2
    simp only [γ, of_decide_eq_true h1, h3]
  · simp only [γ, h]
  · rfl
  · have := bifTF h
    simp only [Bool.and_eq_true, decide_eq_true_eq] at this
    simp only [γ, this.1, this.2]
  · rfl
  · obtain ⟨h1, h2⟩ := bifPF h
    simp only [Bool.and_eq_true, decide_eq_true_eq] at h1
    obtain ⟨h3, h4⟩ := eqI_spec h2
    obtain ⟨h5, _⟩ := eqI_spec h4
    simp only [γ, capS, h1.1, h1.2, h3, h5]
  · obtain ⟨h1, h2⟩ := bifPF h
    simp only [Bool.and_eq_true, decide_eq_true_eq] at h1
    obtain ⟨h3, h4⟩ := eqI_spec h2
    obtain ⟨h5, h6⟩ := eqI_spec h4
    obtain ⟨h7, _⟩ := eqI_spec h6
    simp only [γ, capS, h1.1, h1.2, h3, h5, h7]
  · rfl
  · simp only [γ, of_decide_eq_true (bifTF h)]
  · rfl
  · rfl
  · exact h.elim

/-- What was read, to be read again. -/
abbrev SLds := List (Nat × AI × SEnv × SV)
def lget : SLds → Nat → Option (AI × SEnv × SV)
  | [], _ => none
  | p :: l, i => bif Nat.beq p.1 i then some p.2 else lget l i
/-- Reads that are read again come to the same. -/
def sldsOk (ov : Bool) (r : SRom) (l : SLds) (h : SHeap) (nx : Nat) : List Nat → Prop → Prop
  | [], K => K
  | i :: re, K => match lget l i with
    | some (ai, e, v) => SX ov r ai e h nx fun v' _ _ => eqV v v' ∧ sldsOk ov r l h nx re K
    | none => sldsOk ov r l h nx re K
def LR (r : SRom) (sl : SLds) (l : Lds) : Prop := ∀ i, (l i = none ∧ lget sl i = none) ∨ ∃ p ai e ae v, l i = some p ∧ lget sl i = some (ai, e, v) ∧ EnvR e ae ∧ ai.kind = 1 ∧ ∀ h nx, p h nx ↔ ai.exec (γr r) ae h nx = some (γ v, h, nx)

theorem sldsOk_spec {sl : SLds} {l : Lds} (hl : LR r sl l) {h : SHeap} {a : Heap} (H : HR h a) {nx : Nat} : ∀ {re : List Nat} {K : Prop}, sldsOk ov r sl h nx re K → ldsOk l a nx re ∧ K
  | [], K, hk => ⟨trivial, hk⟩
  | i :: re, K, hk => by
    simp only [sldsOk] at hk
    rcases hl i with ⟨h1, h2⟩ | ⟨p, ai, e, ae, v, h0, h1, h2, h3, h4⟩
    · simp only [h2] at hk
      obtain ⟨h3, h4⟩ := sldsOk_spec hl H hk
      exact ⟨⟨by simp [h1], h3⟩, h4⟩
    · simp only [h1] at hk
      obtain ⟨v', h', nx', ⟨k1, k2⟩, a', k3, _⟩ := SX_spec h2 H hk
      obtain ⟨q1, q2⟩ := sldsOk_spec hl H k2
      obtain ⟨g1, g2⟩ := exec_light (by omega) k3
      refine ⟨⟨?_, q1⟩, q2⟩
      rw [h0]
      show p a nx
      rw [h4, k3, eqV_spec k1, g1, g2]

def SEActD (ov : Bool) (r : SRom) (scv : SCV) (rd : Option Bid) (d : DOp) (l : SLds) (σ : SSt) (K : SLds → SSt → Prop) : Prop :=
  match d.op.act with
  | .plain ai => SX ov r ai σ.env σ.h σ.nx fun v h' nx' => putK σ.env d.op.dst (some v) fun e' => K (bif Nat.beq ai.kind 1 then (d.idx, ai, σ.env, v) :: l else l) ⟨e', h', nx', σ.dfs⟩
  | .call f args => match evS σ.env f, evsS σ.env args with
    | some fv, some vs => scv fv vs σ.h σ.nx fun v h' nx' => sldsOk ov r l h' nx' d.re (putK σ.env d.op.dst (some v) fun e' => K l ⟨e', h', nx', σ.dfs⟩)
    | _, _ => False
  | .dfr f args => match rd, evS σ.env f, evsS σ.env args with
    | none, some (.func g first caps), some vs => putK σ.env d.op.dst none fun e' => K l ⟨e', σ.h, σ.nx, .clo g (first ++ vs ++ caps) :: σ.dfs⟩
    | _, _, _ => False
def SEOpD (ov : Bool) (r : SRom) (scv : SCV) (rd : Option Bid) (d : DOp) (l : SLds) (σ : SSt) (K : SLds → SSt → Prop) : Prop :=
  match d.op.guard with
  | none => SEActD ov r scv rd d l σ K
  | some (dd, want) => match getEnv σ.env dd with
    | some (.bool t) => forkEnv t σ.env dd
        (fun e => bif want then SEActD ov r scv rd d l ⟨e, σ.h, σ.nx, σ.dfs⟩ K else putK e d.op.dst none fun e' => K l ⟨e', σ.h, σ.nx, σ.dfs⟩)
        (fun e => bif want then putK e d.op.dst none fun e' => K l ⟨e', σ.h, σ.nx, σ.dfs⟩ else SEActD ov r scv rd d l ⟨e, σ.h, σ.nx, σ.dfs⟩ K)
    | _ => False
def SEOpsD (ov : Bool) (r : SRom) (scv : SCV) (rd : Option Bid) : List DOp → SLds → SSt → (SSt → Prop) → Prop
  | [], _, σ, K => K σ
  | d :: ds, l, σ, K => SEOpD ov r scv rd d l σ fun l' σ' => SEOpsD ov r scv rd ds l' σ' K

theorem SEActD_sound (hs : SCVOk P r scv) {d : DOp} {sl : SLds} {l : Lds} (hl : LR r sl l) {σ : SSt} {s : St} {K : SLds → SSt → Prop} (G : GS σ s) (h : SEActD ov r scv rd d sl σ K) :
    EActD (γr r) (CallV P (γr r)) rd d l s fun l' s' => ∃ sl' σ', LR r sl' l' ∧ GS σ' s' ∧ K sl' σ' := by
  unfold SEActD at h
  unfold EActD
  split at h
  · rename_i ai hai
    simp only [hai]
    obtain ⟨v, h', nx', hk, a', hx, H⟩ := SX_spec G.env G.heap h
    rw [G.nx, hx]
    rw [putK_eq] at hk
    refine ⟨_, _, ?_, G.put d.op.dst (some v) H nx', hk⟩
    cases hb : Nat.beq ai.kind 1 with
    | false =>
      rw [if_neg (fun e => by rw [e] at hb; cases hb)]; exact hl
    | true =>
      have hk1 := Nat.eq_of_beq_eq_true hb
      rw [if_pos hk1]
      intro i
      by_cases hi : i = d.idx
      · subst hi
        exact .inr ⟨_, ai, σ.env, s.env, v, upd_same _ _ _, by simp [lget], G.env, hk1, fun _ _ => Iff.rfl⟩
      · have hne : Nat.beq d.idx i = false := by
          cases hb : Nat.beq d.idx i with
          | false => rfl
          | true => exact absurd (Nat.eq_of_beq_eq_true hb).symm hi
        rw [upd_ne _ _ hi]
        simp only [cond_true, lget, hne, cond_false]
        exact hl i
  · rename_i f args hai
    simp only [hai]
    split at h
    · rename_i fv vs h1 h2
      simp only [evS_spec G.env h1, evsS_spec G.env h2]
      rw [G.nx]
      refine (hs _ _ _ _ _ h s.h G.heap).mono ?_
      rintro _ h' nx' ⟨sv, sh, rfl, H, hk⟩
      obtain ⟨q1, q2⟩ := sldsOk_spec hl H hk
      rw [putK_eq] at q2
      exact ⟨q1, sl, _, hl, G.put d.op.dst (some sv) H nx', q2⟩
    · exact h.elim
  · rename_i f args hai
    simp only [hai]
    split at h
    · rename_i g first caps vs h1 h2
      simp only [evS_spec G.env h1, evsS_spec G.env h2, γ]
      rw [putK_eq] at h
      refine ⟨sl, ⟨putS σ.env d.op.dst none, σ.h, σ.nx, .clo g (first ++ vs ++ caps) :: σ.dfs⟩, hl, ⟨G.nx, ?_, G.heap, ?_⟩, h⟩
      · exact G.env.put d.op.dst none
      · simp only [List.map_cons, γd, γs_append, G.dfs]
    · exact h.elim
theorem SEOpD_sound (hs : SCVOk P r scv) {d : DOp} {sl : SLds} {l : Lds} (hl : LR r sl l) {σ : SSt} {s : St} {K : SLds → SSt → Prop} (G : GS σ s) (h : SEOpD ov r scv rd d sl σ K) :
    EOpD (γr r) (CallV P (γr r)) rd d l s fun l' s' => ∃ sl' σ', LR r sl' l' ∧ GS σ' s' ∧ K sl' σ' := by
  unfold SEOpD at h
  unfold EOpD gst
  split at h
  · rename_i hg
    simp only [hg]
    exact SEActD_sound hs hl G h
  · rename_i dd want hg
    simp only [hg]
    split at h
    · rename_i t ht
      simp only [G.env _ _ ht, γ]
      obtain ⟨e', hE', hc⟩ := forkEnv_spec h G.env ht
      have G' : GS ⟨e', σ.h, σ.nx, σ.dfs⟩ s := ⟨G.nx, hE', G.heap, G.dfs⟩
      have hsk : (putK e' d.op.dst none fun e' => K sl ⟨e', σ.h, σ.nx, σ.dfs⟩) → ∃ sl' σ', LR r sl' l ∧ GS σ' ⟨AL.put s.env d.op.dst none, s.h, s.nx, s.dfs⟩ ∧ K sl' σ' := by
        intro h
        rw [putK_eq] at h
        exact ⟨sl, ⟨putS e' d.op.dst none, σ.h, σ.nx, σ.dfs⟩, hl, ⟨G.nx, hE'.put d.op.dst none, G.heap, G.dfs⟩, h⟩
      rcases hc with ⟨g1, g2⟩ | ⟨g1, g2⟩
      · rw [g1]
        cases want with
        | true => exact SEActD_sound hs hl G' g2
        | false => exact hsk g2
      · rw [g1]
        cases want with
        | true => exact hsk g2
        | false => exact SEActD_sound hs hl G' g2
    · exact h.elim
theorem SEOpsD_sound (hs : SCVOk P r scv) : ∀ {ds : List DOp} {sl : SLds} {l : Lds} {σ : SSt} {s : St} {K : SSt → Prop}, LR r sl l → GS σ s → SEOpsD ov r scv rd ds sl σ K → EOpsD (γr r) (CallV P (γr r)) rd ds l s (KS1 K)
  | [], _, _, σ, s, K, _, G, h => ⟨σ, G, h⟩
  | d :: ds, _, _, σ, s, K, hl, G, h => EOpD.mono CVOk.sem (SEOpD_sound hs hl G h) fun _ _ ⟨_, _, hl', G', h'⟩ => SEOpsD_sound hs hl' G' h'

end
end Go.SL

/- Helper text: a told state is held against another one; what is left are equations between terms. -/
namespace Go.AL
mutual
theorem VE.mono {n : Nat} {ρ ρ' : Rho} (ho : ∀ i j, ρ.own i = some j → ρ'.own i = some j) (ha : ρ.arg = ρ'.arg) : ∀ (x y : AVal), VE n ρ x y → VE n ρ' x y
  | .any, _, _ => by simp [VE]
  | .bool _, _, h => by simpa [VE] using h
  | .int _ _, _, h => by simpa [VE] using h
  | .str _, _, h => by simpa [VE] using h
  | .nilp, _, h => by simpa [VE] using h
  | .ptr b off, _, h => by simp only [VE] at h ⊢; obtain ⟨b', h1, h2⟩ := h; exact ⟨b', h1, BE.mono ho ha h2⟩
  | .nils, _, h => by simpa [VE] using h
  | .slice b off esz len cap, _, h => by
    simp only [VE] at h ⊢
    obtain h1 | ⟨b', c, h1, h2, h3⟩ := h
    · exact .inl h1
    · exact .inr ⟨b', c, h1, h2, BE.mono ho ha h3⟩
  | .nilm, _, h => by simpa [VE] using h
  | .map b, _, h => by simp only [VE] at h ⊢; obtain ⟨b', h1, h2⟩ := h; exact ⟨b', h1, BE.mono ho ha h2⟩
  | .nilf, _, h => by simpa [VE] using h
  | .func f fs cs, _, h => by
    simp only [VE] at h ⊢
    obtain ⟨a, b, h1, h2, h3⟩ := h
    exact ⟨a, b, h1, VEs.mono ho ha _ _ h2, VEs.mono ho ha _ _ h3⟩
  | .yld b, _, h => by simp only [VE] at h ⊢; obtain ⟨b', h1, h2⟩ := h; exact ⟨b', h1, BE.mono ho ha h2⟩
  | .nili, _, h => by simpa [VE] using h
  | .iface t x, _, h => by simp only [VE] at h ⊢; obtain ⟨a, h1, h2⟩ := h; exact ⟨a, h1, VE.mono ho ha _ _ h2⟩
  | .agg cs, _, h => by simp only [VE] at h ⊢; obtain ⟨a, h1, h2⟩ := h; exact ⟨a, h1, VEs.mono ho ha _ _ h2⟩
  | .tup cs, _, h => by simp only [VE] at h ⊢; obtain ⟨a, h1, h2⟩ := h; exact ⟨a, h1, VEs.mono ho ha _ _ h2⟩
theorem VEs.mono {n : Nat} {ρ ρ' : Rho} (ho : ∀ i j, ρ.own i = some j → ρ'.own i = some j) (ha : ρ.arg = ρ'.arg) : ∀ (x y : List AVal), VEs n ρ x y → VEs n ρ' x y
  | [], _, h => by simpa [VEs] using h
  | c :: cs, _, h => by
    simp only [VEs] at h ⊢
    obtain ⟨d, ds, h1, h2, h3⟩ := h
    exact ⟨d, ds, h1, VE.mono ho ha _ _ h2, VEs.mono ho ha _ _ h3⟩
theorem BE.mono {n : Nat} {ρ ρ' : Rho} (ho : ∀ i j, ρ.own i = some j → ρ'.own i = some j) (ha : ρ.arg = ρ'.arg) {b b' : Bid} (h : BE n ρ b b') : BE n ρ' b b' := by
  cases b with
  | own i => obtain ⟨h1, j, h2, h3⟩ := h; exact ⟨h1, j, ho _ _ h2, h3⟩
  | arg i => show b' = ρ'.arg i; rw [← ha]; exact h
end
end Go.AL

namespace Go.SL
open Go.AL

abbrev Bnd := List (Nat × Option Nat)
def blook : Bnd → Nat → Option (Option Nat)
  | [], _ => none
  | p :: l, i => bif Nat.beq p.1 i then some p.2 else blook l i
/-- Is a name taken? -/
def btaken : Bnd → Nat → Bool
  | [], _ => false
  | (_, some j') :: l, j => bif Nat.beq j' j then true else btaken l j
  | (_, none) :: l, j => btaken l j
structure BOk (n0 nx0 : Nat) (B : Bnd) : Prop where
  rng : ∀ i r, blook B i = some r → n0 ≤ i ∧ i < nx0
  img : ∀ i j, blook B i = some (some j) → n0 ≤ j
  inj : ∀ i i' j, blook B i = some (some j) → blook B i' = some (some j) → i = i'
def BExt (B B' : Bnd) : Prop := ∀ i r, blook B i = some r → blook B' i = some r
def ρB (n0 : Nat) (τ : Nat → Bid) (B : Bnd) : Rho := ⟨fun i => if i < n0 then some i else (blook B i).join, τ⟩

theorem BExt.refl (B : Bnd) : BExt B B := fun _ _ h => h
theorem BExt.trans {A B C : Bnd} (h : BExt A B) (k : BExt B C) : BExt A C := fun i r hi => k i r (h i r hi)
theorem blook_cons {B : Bnd} {i k : Nat} {r : Option Nat} : blook ((i, r) :: B) k = if i = k then some r else blook B k := by
  simp only [blook]
  cases hb : Nat.beq i k with
  | true => rw [if_pos (Nat.eq_of_beq_eq_true hb)]; rfl
  | false => rw [if_neg (fun e => by rw [e, Nat.beq_refl] at hb; cases hb)]; rfl
theorem BExt.cons {B : Bnd} {i : Nat} {r : Option Nat} (h : blook B i = none) : BExt B ((i, r) :: B) := by
  intro k q hk
  rw [blook_cons]
  by_cases hi : i = k
  · subst hi; rw [h] at hk; cases hk
  · rw [if_neg hi]; exact hk
theorem btaken_spec : ∀ {B : Bnd} {j : Nat}, btaken B j = false → ∀ i, blook B i ≠ some (some j)
  | [], _, _, _, h => by cases h
  | (k, some j') :: l, j, hb, i, h => by
    simp only [btaken] at hb
    cases hj : Nat.beq j' j with
    | true => rw [hj] at hb; cases hb
    | false =>
      rw [hj] at hb
      rw [blook_cons] at h
      split at h
      · injection h with h; injection h with h; rw [h, Nat.beq_refl] at hj; cases hj
      · exact btaken_spec hb i h
  | (k, none) :: l, j, hb, i, h => by
    simp only [btaken] at hb
    rw [blook_cons] at h
    split at h
    · injection h with h; cases h
    · exact btaken_spec hb i h
theorem ρB_mono {n0 : Nat} {τ : Nat → Bid} {B B' : Bnd} (h : BExt B B') : ∀ i j, (ρB n0 τ B).own i = some j → (ρB n0 τ B').own i = some j := by
  intro i j hi
  simp only [ρB] at hi ⊢
  split
  · rename_i hlt; rw [if_pos hlt] at hi; exact hi
  · rename_i hlt; rw [if_neg hlt] at hi
    cases hb : blook B i with
    | none => rw [hb] at hi; cases hi
    | some r => rw [hb] at hi; rw [h i r hb]; exact hi

def mB (n0 nx0 : Nat) (τ : Nat → Bid) (b b' : Bid) (B : Bnd) (K : Bnd → Prop) : Prop :=
  match b, b' with
  | .own i, .own j => bif Nat.blt i n0 then (bif Nat.beq i j then K B else False) else
      match blook B i with
      | some (some j') => bif Nat.beq j j' then K B else False
      | some none => False
      | none => bif Nat.ble n0 j && (!btaken B j && Nat.blt i nx0) then K ((i, some j) :: B) else False
  | .arg i, b' => τ i = b' ∧ K B
  | _, _ => False
theorem mB_spec {n0 nx0 : Nat} {τ : Nat → Bid} (hn : n0 ≤ nx0) {b b' : Bid} {B : Bnd} {K : Bnd → Prop} (hB : BOk n0 nx0 B) (h : mB n0 nx0 τ b b' B K) : ∃ B', K B' ∧ BExt B B' ∧ BOk n0 nx0 B' ∧ BE nx0 (ρB n0 τ B') b b' := by
  unfold mB at h
  split at h
  · rename_i i j
    cases hl : Nat.blt i n0 with
    | true =>
      rw [hl] at h
      obtain ⟨h1, h2⟩ := bifPF h
      have hl : i < n0 := Nat.le_of_ble_eq_true hl
      have := Nat.eq_of_beq_eq_true h1
      subst this
      exact ⟨B, h2, BExt.refl B, hB, Nat.lt_of_lt_of_le hl hn, i, by simp [ρB, hl], rfl⟩
    | false =>
      rw [hl] at h
      have hl : ¬ i < n0 := fun e => by rw [show Nat.blt i n0 = true from Nat.ble_eq_true_of_le e] at hl; cases hl
      simp only [cond_false] at h
      split at h
      · rename_i j' hb
        obtain ⟨h1, h2⟩ := bifPF h
        have := Nat.eq_of_beq_eq_true h1
        subst this
        exact ⟨B, h2, BExt.refl B, hB, (hB.rng i _ hb).2, j, by simp [ρB, hl, hb], rfl⟩
      · exact h.elim
      · rename_i hb
        obtain ⟨h1, h2⟩ := bifPF h
        simp only [Bool.and_eq_true, Bool.not_eq_true'] at h1
        obtain ⟨c1, c2, c3⟩ := h1
        have c1 := Nat.le_of_ble_eq_true c1
        have c3 : i < nx0 := Nat.le_of_ble_eq_true c3
        refine ⟨_, h2, BExt.cons hb, ⟨?_, ?_, ?_⟩, c3, j, by simp [ρB, hl, blook_cons], rfl⟩
        · intro k r hk
          rw [blook_cons] at hk
          split at hk
          · rename_i e; subst e; exact ⟨by omega, c3⟩
          · exact hB.rng k r hk
        · intro k q hk
          rw [blook_cons] at hk
          split at hk
          · injection hk with hk; injection hk with hk; omega
          · exact hB.img k q hk
        · intro k k' q hk hk'
          rw [blook_cons] at hk hk'
          split at hk <;> split at hk'
          · rename_i e e'; exact e.symm.trans e'
          · injection hk with hk; injection hk with hk; subst hk; exact absurd hk' (btaken_spec c2 k')
          · injection hk' with hk'; injection hk' with hk'; subst hk'; exact absurd hk (btaken_spec c2 k)
          · exact hB.inj k k' q hk hk'
  · obtain ⟨h1, h2⟩ := h
    exact ⟨B, h2, BExt.refl B, hB, h1.symm⟩
  · exact h.elim

/-- A name without a block. -/
def mVoid (n0 nx0 : Nat) (b : Bid) (B : Bnd) (K : Bnd → Prop) : Prop :=
  match b with
  | .own i => bif Nat.blt i n0 then K B else
      match blook B i with
      | some _ => K B
      | none => bif Nat.blt i nx0 then K ((i, none) :: B) else False
  | .arg _ => K B
theorem mVoid_spec {n0 nx0 : Nat} (hn : n0 ≤ nx0) {b : Bid} {B : Bnd} {K : Bnd → Prop} (hB : BOk n0 nx0 B) (h : mVoid n0 nx0 b B K) : ∃ B', K B' ∧ BExt B B' ∧ BOk n0 nx0 B' ∧ ∀ i, b = .own i → i < nx0 := by
  unfold mVoid at h
  split at h
  · rename_i i
    cases hl : Nat.blt i n0 with
    | true =>
      rw [hl] at h
      have hl : i < n0 := Nat.le_of_ble_eq_true hl
      exact ⟨B, h, BExt.refl B, hB, fun k hk => by injection hk with hk; omega⟩
    | false =>
      rw [hl] at h
      have hl : ¬ i < n0 := fun e => by rw [show Nat.blt i n0 = true from Nat.ble_eq_true_of_le e] at hl; cases hl
      simp only [cond_false] at h
      split at h
      · rename_i r hb
        exact ⟨B, h, BExt.refl B, hB, fun k hk => by injection hk with hk; subst hk; exact (hB.rng _ _ hb).2⟩
      · rename_i hb
        obtain ⟨h1, h2⟩ := bifPF h
        have c3 : i < nx0 := Nat.le_of_ble_eq_true h1
        refine ⟨_, h2, BExt.cons hb, ⟨?_, ?_, ?_⟩, fun k hk => by injection hk with hk; omega⟩
        · intro k r hk
          rw [blook_cons] at hk
          split at hk
          · rename_i e; subst e; exact ⟨by omega, c3⟩
          · exact hB.rng k r hk
        · intro k q hk
          rw [blook_cons] at hk
          split at hk
          · injection hk with hk; cases hk
          · exact hB.img k q hk
        · intro k k' q hk hk'
          rw [blook_cons] at hk hk'
          split at hk
          · injection hk with hk; cases hk
          · split at hk'
            · injection hk' with hk'; cases hk'
            · exact hB.inj k k' q hk hk'
  · exact ⟨B, h, BExt.refl B, hB, fun k hk => by cases hk⟩

def eqB : SB → SB → Prop → Prop
  | .lit x, .lit y, K => bif x == y then K else False
  | .lit true, .sym p, K => p ∧ K
  | .lit false, .sym p, K => ¬ p ∧ K
  | .sym p, .lit true, K => p ∧ K
  | .sym p, .lit false, K => ¬ p ∧ K
  | .sym p, .sym q, K => (p ↔ q) ∧ K
theorem eqB_spec {a b : SB} {K : Prop} (h : eqB a b K) : a.v = b.v ∧ K := by
  unfold eqB at h
  split at h
  · obtain ⟨h1, h2⟩ := bifPF h
    exact ⟨by simpa [SB.v] using h1, h2⟩
  · exact ⟨((SB.v_sym _).2 h.1).symm, h.2⟩
  · exact ⟨by simp [SB.v, h.1], h.2⟩
  · exact ⟨(SB.v_sym _).2 h.1, h.2⟩
  · exact ⟨by simp [SB.v, h.1], h.2⟩
  · exact ⟨by apply bool_of_iff; rw [SB.v_sym, SB.v_sym]; exact h.1, h.2⟩
def capLe (len : SI) (cap : Option SI) (len' : SI) (cap' : Option SI) (K : Prop) : Prop :=
  match cap, cap' with
  | none, none => K
  | none, some c' => gS (leS len c') K
  | some c, none => gS (leS c len') K
  | some c, some c' => gS (leS c c') K
theorem capLe_spec {len len' : SI} {cap cap' : Option SI} {K : Prop} (h : capLe len cap len' cap' K) (hl : len.v = len'.v) : (capS len cap).v ≤ (capS len' cap').v ∧ K := by
  unfold capLe at h
  split at h
  · exact ⟨by simp only [capS]; omega, h⟩
  all_goals
    obtain ⟨h1, h2⟩ := gS_spec h
    exact ⟨(leS_v _ _).1 h1, h2⟩

/-- So many plain cells, as an array. -/
def groupN (z : Nat) (cnt : SI) (l : List SV) : Option (SV × List SV) :=
  match cnt with
  | .lit n => bif plain (l.take (n.toNat * z)) && (Nat.ble (n.toNat * z) l.length && Nat.ble 1 z) then some (.alit z (l.take (n.toNat * z)), l.drop (n.toNat * z)) else none
  | .sym _ => none
theorem groupN_spec {z : Nat} {cnt : SI} {l rest : List SV} {a : SV} (h : groupN z cnt l = some (a, rest)) : flat l = rows a ++ flat rest ∧ a.isArr = true ∧ a.esz = z := by
  unfold groupN at h
  split at h
  · rename_i n
    cases hc : plain (l.take (n.toNat * z)) && (Nat.ble (n.toNat * z) l.length && Nat.ble 1 z) with
    | false => rw [hc] at h; cases h
    | true =>
      rw [hc] at h
      simp only [cond_true, Option.some.injEq, Prod.mk.injEq] at h
      obtain ⟨rfl, rfl⟩ := h
      simp only [Bool.and_eq_true] at hc
      obtain ⟨c1, c2, c3⟩ := hc
      have c2 := Nat.le_of_ble_eq_true c2
      refine ⟨?_, rfl, rfl⟩
      rw [rows_alit c1 (Nat.le_of_ble_eq_true c3) (by simp [List.length_take, Nat.min_eq_left c2]), ← flat_append, List.take_append_drop]
  · cases h

/-- A name that is kept. -/
def keepB (n0 : Nat) (τ : Nat → Bid) (b b' : Bid) (K : Prop) : Prop :=
  match b, b' with
  | .own i, .own j => bif Nat.blt i n0 && Nat.beq i j then K else False
  | .arg i, b' => τ i = b' ∧ K
  | _, _ => False
theorem keepB_spec {n0 nx0 : Nat} {τ : Nat → Bid} (hn : n0 ≤ nx0) {b b' : Bid} {K : Prop} (h : keepB n0 τ b b' K) (B : Bnd) : BE nx0 (ρB n0 τ B) b b' ∧ K := by
  unfold keepB at h
  split at h
  · rename_i i j
    obtain ⟨h1, h2⟩ := bifPF h
    simp only [Bool.and_eq_true] at h1
    have h3 : i < n0 := Nat.le_of_ble_eq_true h1.1
    have := Nat.eq_of_beq_eq_true h1.2
    subst this
    exact ⟨⟨Nat.lt_of_lt_of_le h3 hn, i, by simp [ρB, h3], rfl⟩, h2⟩
  · exact ⟨h.1.symm, h.2⟩
  · exact h.elim
/-- Plain cells of elements: no names but those that are kept. -/
def eqC (n0 : Nat) (τ : Nat → Bid) (x y : SV) (K : Prop) : Prop :=
  match x, y with
  | .bool a, .bool b => eqB a b K
  | .int k a, .int k' b => bif decide (k = k') then eqI a b K else False
  | .str a, .str b => a.v = b.v ∧ K
  | .nilp, .nilp => K
  | .ptr b o, .ptr b' o' => bif Nat.beq o o' then keepB n0 τ b b' K else False
  | .nils, .nils => K
  | .sl (.arg _) _ _ len cap, .nils => eqI len (.lit 0) (eqI (capS len cap) (.lit 0) K)
  | .sl b lo z len cap, .sl b' lo' z' len' cap' => bif Nat.beq z z' then eqI lo lo' (eqI len len' (capLe len cap len' cap' (keepB n0 τ b b' K))) else False
  | .nilm, .nilm => K
  | .map b, .map b' => keepB n0 τ b b' K
  | .nilf, .nilf => K
  | .nili, .nili => K
  | _, _ => False
theorem eqC_spec {n0 nx0 : Nat} {τ : Nat → Bid} (hn : n0 ≤ nx0) {x y : SV} {K : Prop} (h : eqC n0 τ x y K) (B : Bnd) : VE nx0 (ρB n0 τ B) (γ x) (γ y) ∧ K := by
  unfold eqC at h
  split at h
  · obtain ⟨h1, h2⟩ := eqB_spec h
    exact ⟨by simp [γ, VE, h1], h2⟩
  · obtain ⟨h1, h2⟩ := bifPF h
    obtain ⟨h3, h4⟩ := eqI_spec h2
    exact ⟨by simp [γ, VE, of_decide_eq_true h1, h3], h4⟩
  · exact ⟨by simp [γ, VE, h.1], h.2⟩
  · exact ⟨by simp [γ, VE], h⟩
  · obtain ⟨h1, h2⟩ := bifPF h
    obtain ⟨h3, h4⟩ := keepB_spec hn h2 B
    exact ⟨by simp only [γ, VE]; exact ⟨_, by rw [Nat.eq_of_beq_eq_true h1], h3⟩, h4⟩
  · exact ⟨by simp [γ, VE], h⟩
  · obtain ⟨h1, h2⟩ := eqI_spec h
    obtain ⟨h3, h4⟩ := eqI_spec h2
    simp only [SI.v] at h1 h3
    refine ⟨?_, h4⟩
    simp only [γ, VE]
    refine .inl ⟨(fun i hi => by cases hi), ?_, ?_, trivial⟩
    · simp only [SI.v]; rw [h1]; rfl
    · simp only [SI.v]; rw [h3]; rfl
  · obtain ⟨h1, h2⟩ := bifPF h
    obtain ⟨h3, h4⟩ := eqI_spec h2
    obtain ⟨h5, h6⟩ := eqI_spec h4
    obtain ⟨h7, h8⟩ := capLe_spec h6 h5
    obtain ⟨h9, h10⟩ := keepB_spec hn h8 B
    refine ⟨?_, h10⟩
    simp only [γ, VE]
    exact .inr ⟨_, _, by rw [h3, h5, Nat.eq_of_beq_eq_true h1], by omega, h9⟩
  · exact ⟨by simp [γ, VE], h⟩
  · obtain ⟨h3, h4⟩ := keepB_spec hn h B
    exact ⟨by simp only [γ, VE]; exact ⟨_, rfl, h3⟩, h4⟩
  · exact ⟨by simp [γ, VE], h⟩
  · exact ⟨by simp [γ, VE], h⟩
  · exact h.elim
def eqCs (n0 : Nat) (τ : Nat → Bid) : List SV → List SV → Prop
  | [], l => match l with
    | [] => True
    | _ => False
  | x :: xs, l => match l with
    | y :: ys => bif x.one && y.one then eqC n0 τ x y (eqCs n0 τ xs ys) else False
    | [] => False
theorem eqCs_spec {n0 nx0 : Nat} {τ : Nat → Bid} (hn : n0 ≤ nx0) (B : Bnd) : ∀ {xs ys : List SV}, eqCs n0 τ xs ys → VEs nx0 (ρB n0 τ B) (flat xs) (flat ys)
  | [], ys, h => by
    cases ys with
    | nil => simp [flat, VEs]
    | cons y ys => exact h.elim
  | x :: xs, ys, h => by
    cases ys with
    | nil => exact h.elim
    | cons y ys =>
      simp only [eqCs] at h
      obtain ⟨h1, h2⟩ := bifPF h
      simp only [Bool.and_eq_true] at h1
      obtain ⟨h3, h4⟩ := eqC_spec hn h2 B
      rw [flat_one (one_γ h1.1).2, flat_one (one_γ h1.2).2, cellV_γ h1.1, cellV_γ h1.2]
      simp only [VEs]
      exact ⟨_, _, rfl, h3, eqCs_spec hn B h4⟩
/-- Arrays, element by element. -/
def mArr (n0 : Nat) (τ : Nat → Bid) (p a : SV) (K : Prop) : Prop :=
  bif Nat.beq p.esz a.esz then eqI p.cnt a.cnt ((match p.cnt with
    | .lit 0 => True
    | n => ∀ j : Int, 0 ≤ j → j < n.v → elemGet p (.sym j) fun cp => elemGet a (.sym j) fun ca => eqCs n0 τ cp ca) ∧ K) else False
theorem VEs_fix {n : Nat} {ρ : Rho} {xs ys : List AVal} (h : VEs n ρ xs ys) (z : Nat) : VEs n ρ (fix z xs) (fix z ys) := by
  have app : ∀ {as bs cs ds : List AVal}, VEs n ρ as bs → VEs n ρ cs ds → VEs n ρ (as ++ cs) (bs ++ ds) := by
    intro as bs cs ds h1 h2
    induction as generalizing bs with
    | nil => simp only [VEs] at h1; subst h1; exact h2
    | cons a as ih =>
      simp only [VEs] at h1
      obtain ⟨d, ds', rfl, k1, k2⟩ := h1
      simp only [List.cons_append, VEs]
      exact ⟨d, _, rfl, k1, ih k2⟩
  have rep : ∀ k, VEs n ρ (List.replicate k (AVal.bool false)) (List.replicate k (AVal.bool false)) := by
    intro k
    induction k with
    | zero => simp [VEs]
    | succ k ih => simp only [List.replicate_succ, VEs]; exact ⟨_, _, rfl, by simp [VE], ih⟩
  have tk : ∀ {as bs : List AVal} (k : Nat), VEs n ρ as bs → VEs n ρ (as.take k) (bs.take k) := by
    intro as bs k h1
    induction as generalizing bs k with
    | nil => simp only [VEs] at h1; subst h1; simp [VEs]
    | cons a as ih =>
      simp only [VEs] at h1
      obtain ⟨d, ds', rfl, k1, k2⟩ := h1
      cases k with
      | zero => simp [VEs]
      | succ k => simp only [List.take_succ_cons, VEs]; exact ⟨d, _, rfl, k1, ih k k2⟩
  exact tk z (app h (rep z))
theorem VEs_append {n : Nat} {ρ : Rho} {as bs cs ds : List AVal} (h1 : VEs n ρ as bs) (h2 : VEs n ρ cs ds) : VEs n ρ (as ++ cs) (bs ++ ds) := by
  induction as generalizing bs with
  | nil => simp only [VEs] at h1; subst h1; exact h2
  | cons a as ih =>
    simp only [VEs] at h1
    obtain ⟨d, ds', rfl, k1, k2⟩ := h1
    simp only [List.cons_append, VEs]
    exact ⟨d, _, rfl, k1, ih k2⟩
theorem mArr_spec {n0 nx0 : Nat} {τ : Nat → Bid} (hn : n0 ≤ nx0) {p a : SV} {K : Prop} (h : mArr n0 τ p a K) (B : Bnd) : VEs nx0 (ρB n0 τ B) (rows p) (rows a) ∧ K := by
  unfold mArr at h
  obtain ⟨h1, h2⟩ := bifPF h
  have h1 := Nat.eq_of_beq_eq_true h1
  obtain ⟨h3, h4, h5⟩ := eqI_spec h2
  refine ⟨?_, h5⟩
  have key : ∀ j : Nat, j < p.cnt.v.toNat → VEs nx0 (ρB n0 τ B) (elem p j) (elem a j) := by
    intro j hj
    split at h4
    · rename_i hz
      rw [hz] at hj; simp [SI.v] at hj
    · obtain ⟨cp, k1, k2⟩ := elemGet_spec (h4 j (Int.natCast_nonneg _) (by omega)) (Int.natCast_nonneg _)
      obtain ⟨ca, k3, k4⟩ := elemGet_spec k1 (Int.natCast_nonneg _)
      simp only [SI.v, Int.toNat_natCast] at k2 k4
      rw [← k2, ← k4]
      exact eqCs_spec hn B k3
  have hall : ∀ m, m ≤ p.cnt.v.toNat → VEs nx0 (ρB n0 τ B) ((List.range m).flatMap fun j => fix p.esz (elem p j)) ((List.range m).flatMap fun j => fix a.esz (elem a j)) := by
    intro m hm
    induction m with
    | zero => simp [VEs]
    | succ m ih =>
      rw [List.range_succ, List.flatMap_append, List.flatMap_append]
      refine VEs_append (ih (by omega)) ?_
      simp only [List.flatMap_cons, List.flatMap_nil, List.append_nil]
      rw [← h1]
      exact VEs_fix (key m (by omega)) _
  have := hall _ (Nat.le_refl _)
  simp only [rows]
  rw [← h3]
  exact this

mutual
def mV (n0 nx0 : Nat) (τ : Nat → Bid) : SV → SV → Bnd → (Bnd → Prop) → Prop
  | .any, _, B, K => K B
  | .bool a, y, B, K => match y with
    | .bool b => eqB a b (K B)
    | _ => False
  | .int k a, y, B, K => match y with
    | .int k' b => bif decide (k = k') then eqI a b (K B) else False
    | _ => False
  | .str a, y, B, K => match y with
    | .str b => a.v = b.v ∧ K B
    | _ => False
  | .nilp, y, B, K => match y with
    | .nilp => K B
    | _ => False
  | .ptr b o, y, B, K => match y with
    | .ptr b' o' => bif Nat.beq o o' then mB n0 nx0 τ b b' B K else False
    | _ => False
  | .eptr b base _ i z o, y, B, K => match y with
    | .eptr b' base' _ i' z' o' => bif Nat.beq base base' && (Nat.beq z z' && Nat.beq o o') then eqI i i' (mB n0 nx0 τ b b' B K) else False
    | _ => False
  | .nils, y, B, K => match y with
    | .nils => K B
    | _ => False
  | .sl b lo z len cap, y, B, K => match y with
    | .nils => eqI len (.lit 0) (eqI (capS len cap) (.lit 0) (mVoid n0 nx0 b B K))
    | .sl b' lo' z' len' cap' => bif Nat.beq z z' then eqI lo lo' (eqI len len' (capLe len cap len' cap' (mB n0 nx0 τ b b' B K))) else False
    | _ => False
  | .nilm, y, B, K => match y with
    | .nilm => K B
    | _ => False
  | .map b, y, B, K => match y with
    | .map b' => mB n0 nx0 τ b b' B K
    | _ => False
  | .nilf, y, B, K => match y with
    | .nilf => K B
    | _ => False
  | .func f a b, y, B, K => match y with
    | .func f' a' b' => bif Nat.beq f f' then mVs n0 nx0 τ a a' B fun B' => mVs n0 nx0 τ b b' B' K else False
    | _ => False
  | .yld b, y, B, K => match y with
    | .yld b' => mB n0 nx0 τ b b' B K
    | _ => False
  | .nili, y, B, K => match y with
    | .nili => K B
    | _ => False
  | .iface t v, y, B, K => match y with
    | .iface t' v' => bif Nat.beq t t' then mV n0 nx0 τ v v' B K else False
    | _ => False
  | .agg cs, y, B, K => match y with
    | .agg cs' => mC n0 nx0 τ cs cs' B K
    | _ => False
  | .tup vs, y, B, K => match y with
    | .tup vs' => mVs n0 nx0 τ vs vs' B K
    | _ => False
  | _, _, _, _ => False
def mVs (n0 nx0 : Nat) (τ : Nat → Bid) : List SV → List SV → Bnd → (Bnd → Prop) → Prop
  | [], l, B, K => match l with
    | [] => K B
    | _ => False
  | x :: xs, l, B, K => match l with
    | y :: ys => mV n0 nx0 τ x y B fun B' => mVs n0 nx0 τ xs ys B' K
    | [] => False
/-- Cells. -/
def mC (n0 nx0 : Nat) (τ : Nat → Bid) : List SV → List SV → Bnd → (Bnd → Prop) → Prop
  | [], l, B, K => match l with
    | [] => K B
    | _ => False
  | p :: ps, l, B, K => bif p.isArr then
      (match l with
       | a :: as => bif a.isArr then mArr n0 τ p a (mC n0 nx0 τ ps as B K) else
          (match groupN p.esz p.cnt l with
           | some (a, as) => mArr n0 τ p a (mC n0 nx0 τ ps as B K)
           | none => False)
       | [] => match groupN p.esz p.cnt l with
           | some (a, as) => mArr n0 τ p a (mC n0 nx0 τ ps as B K)
           | none => False)
      else match l with
       | a :: as => bif p.one && a.one then mV n0 nx0 τ p a B fun B' => mC n0 nx0 τ ps as B' K else False
       | [] => False
end

theorem BOk.nil (n0 nx0 : Nat) : BOk n0 nx0 [] := ⟨fun _ _ h => by (cases h), fun _ _ h => by (cases h), fun _ _ _ h => by (cases h)⟩

section
variable {n0 nx0 : Nat} {τ : Nat → Bid}
/-- What a step of holding against comes to. -/
def MR (n0 nx0 : Nat) (τ : Nat → Bid) (B : Bnd) (K : Bnd → Prop) (R : Rho → Prop) : Prop := ∃ B', K B' ∧ BExt B B' ∧ BOk n0 nx0 B' ∧ R (ρB n0 τ B')
theorem MR.here {B : Bnd} {K : Bnd → Prop} {R : Rho → Prop} (hB : BOk n0 nx0 B) (hk : K B) (hr : R (ρB n0 τ B)) : MR n0 nx0 τ B K R := ⟨B, hk, BExt.refl B, hB, hr⟩

mutual
theorem mV_spec (hn : n0 ≤ nx0) : ∀ (x y : SV) (B : Bnd) (K : Bnd → Prop), BOk n0 nx0 B → mV n0 nx0 τ x y B K → MR n0 nx0 τ B K fun ρ => VE nx0 ρ (γ x) (γ y)
  | .any, y, B, K, hB, h => MR.here hB h (by simp [γ, VE])
  | .bool a, y, B, K, hB, h => by
    simp only [mV] at h
    split at h
    · obtain ⟨h1, h2⟩ := eqB_spec h
      exact MR.here hB h2 (by simp [γ, VE, h1])
    · exact h.elim
  | .int k a, y, B, K, hB, h => by
    simp only [mV] at h
    split at h
    · obtain ⟨h1, h2⟩ := bifPF h
      obtain ⟨h3, h4⟩ := eqI_spec h2
      exact MR.here hB h4 (by simp [γ, VE, of_decide_eq_true h1, h3])
    · exact h.elim
  | .str a, y, B, K, hB, h => by
    simp only [mV] at h
    split at h
    · exact MR.here hB h.2 (by simp [γ, VE, h.1])
    · exact h.elim
  | .nilp, y, B, K, hB, h => by
    simp only [mV] at h
    split at h
    · exact MR.here hB h (by simp [γ, VE])
    · exact h.elim
  | .ptr b o, y, B, K, hB, h => by
    simp only [mV] at h
    split at h
    · obtain ⟨h1, h2⟩ := bifPF h
      obtain ⟨B', k1, k2, k3, k4⟩ := mB_spec hn hB h2
      exact ⟨B', k1, k2, k3, by simp only [γ, VE]; exact ⟨_, by rw [Nat.eq_of_beq_eq_true h1], k4⟩⟩
    · exact h.elim
  | .eptr b base num i z o, y, B, K, hB, h => by
    simp only [mV] at h
    split at h
    · obtain ⟨h1, h2⟩ := bifPF h
      simp only [Bool.and_eq_true] at h1
      obtain ⟨c1, c2, c3⟩ := h1
      obtain ⟨h3, h4⟩ := eqI_spec h2
      obtain ⟨B', k1, k2, k3, k4⟩ := mB_spec hn hB h4
      exact ⟨B', k1, k2, k3, by simp only [γ, VE]; exact ⟨_, by rw [Nat.eq_of_beq_eq_true c1, Nat.eq_of_beq_eq_true c2, Nat.eq_of_beq_eq_true c3, h3], k4⟩⟩
    · exact h.elim
  | .nils, y, B, K, hB, h => by
    simp only [mV] at h
    split at h
    · exact MR.here hB h (by simp [γ, VE])
    · exact h.elim
  | .sl b lo z len cap, y, B, K, hB, h => by
    simp only [mV] at h
    split at h
    · obtain ⟨h1, h2⟩ := eqI_spec h
      obtain ⟨h3, h4⟩ := eqI_spec h2
      obtain ⟨B', k1, k2, k3, k4⟩ := mVoid_spec hn hB h4
      refine ⟨B', k1, k2, k3, ?_⟩
      have h1 : len.v = 0 := h1
      have h3 : (capS len cap).v = 0 := h3
      simp only [γ, VE]
      exact .inl ⟨k4, by rw [h1]; rfl, by rw [h3]; rfl, trivial⟩
    · obtain ⟨h1, h2⟩ := bifPF h
      obtain ⟨h3, h4⟩ := eqI_spec h2
      obtain ⟨h5, h6⟩ := eqI_spec h4
      obtain ⟨h7, h8⟩ := capLe_spec h6 h5
      obtain ⟨B', k1, k2, k3, k4⟩ := mB_spec hn hB h8
      refine ⟨B', k1, k2, k3, ?_⟩
      simp only [γ, VE]
      exact .inr ⟨_, _, by rw [h3, h5, Nat.eq_of_beq_eq_true h1], by omega, k4⟩
    · exact h.elim
  | .nilm, y, B, K, hB, h => by
    simp only [mV] at h
    split at h
    · exact MR.here hB h (by simp [γ, VE])
    · exact h.elim
  | .map b, y, B, K, hB, h => by
    simp only [mV] at h
    split at h
    · obtain ⟨B', k1, k2, k3, k4⟩ := mB_spec hn hB h
      exact ⟨B', k1, k2, k3, by simp only [γ, VE]; exact ⟨_, rfl, k4⟩⟩
    · exact h.elim
  | .nilf, y, B, K, hB, h => by
    simp only [mV] at h
    split at h
    · exact MR.here hB h (by simp [γ, VE])
    · exact h.elim
  | .func f a b, y, B, K, hB, h => by
    simp only [mV] at h
    split at h
    · obtain ⟨h1, h2⟩ := bifPF h
      obtain ⟨B1, k1, k2, k3, k4⟩ := mVs_spec hn _ _ _ _ hB h2
      obtain ⟨B2, q1, q2, q3, q4⟩ := mVs_spec hn _ _ _ _ k3 k1
      refine ⟨B2, q1, k2.trans q2, q3, ?_⟩
      simp only [γ, VE]
      exact ⟨_, _, by rw [Nat.eq_of_beq_eq_true h1], VEs.mono (ρB_mono q2) rfl _ _ k4, q4⟩
    · exact h.elim
  | .yld b, y, B, K, hB, h => by
    simp only [mV] at h
    split at h
    · obtain ⟨B', k1, k2, k3, k4⟩ := mB_spec hn hB h
      exact ⟨B', k1, k2, k3, by simp only [γ, VE]; exact ⟨_, rfl, k4⟩⟩
    · exact h.elim
  | .nili, y, B, K, hB, h => by
    simp only [mV] at h
    split at h
    · exact MR.here hB h (by simp [γ, VE])
    · exact h.elim
  | .iface t v, y, B, K, hB, h => by
    simp only [mV] at h
    split at h
    · obtain ⟨h1, h2⟩ := bifPF h
      obtain ⟨B1, k1, k2, k3, k4⟩ := mV_spec hn _ _ _ _ hB h2
      refine ⟨B1, k1, k2, k3, ?_⟩
      simp only [γ, VE]
      exact ⟨_, by rw [Nat.eq_of_beq_eq_true h1], k4⟩
    · exact h.elim
  | .agg cs, y, B, K, hB, h => by
    simp only [mV] at h
    split at h
    · obtain ⟨B1, k1, k2, k3, k4⟩ := mC_spec hn _ _ _ _ hB h
      exact ⟨B1, k1, k2, k3, by simp only [γ, VE]; exact ⟨_, rfl, k4⟩⟩
    · exact h.elim
  | .tup vs, y, B, K, hB, h => by
    simp only [mV] at h
    split at h
    · obtain ⟨B1, k1, k2, k3, k4⟩ := mVs_spec hn _ _ _ _ hB h
      exact ⟨B1, k1, k2, k3, by simp only [γ, VE]; exact ⟨_, rfl, k4⟩⟩
    · exact h.elim
  | .arr _ _ _, _, _, _, _, h | .aset _ _ _, _, _, _, _, h | .alit _ _, _, _, _, _, h | .asub _ _ _, _, _, _, _, h | .acat _ _, _, _, _, _, h => by simp only [mV] at h
theorem mVs_spec (hn : n0 ≤ nx0) : ∀ (xs ys : List SV) (B : Bnd) (K : Bnd → Prop), BOk n0 nx0 B → mVs n0 nx0 τ xs ys B K → MR n0 nx0 τ B K fun ρ => VEs nx0 ρ (γs xs) (γs ys)
  | [], ys, B, K, hB, h => by
    simp only [mVs] at h
    split at h
    · exact MR.here hB h (by simp [γs, VEs])
    · exact h.elim
  | x :: xs, ys, B, K, hB, h => by
    simp only [mVs] at h
    split at h
    · obtain ⟨B1, k1, k2, k3, k4⟩ := mV_spec hn _ _ _ _ hB h
      obtain ⟨B2, q1, q2, q3, q4⟩ := mVs_spec hn _ _ _ _ k3 k1
      refine ⟨B2, q1, k2.trans q2, q3, ?_⟩
      simp only [γs, VEs]
      exact ⟨_, _, rfl, VE.mono (ρB_mono q2) rfl _ _ k4, q4⟩
    · exact h.elim
theorem mC_spec (hn : n0 ≤ nx0) : ∀ (xs ys : List SV) (B : Bnd) (K : Bnd → Prop), BOk n0 nx0 B → mC n0 nx0 τ xs ys B K → MR n0 nx0 τ B K fun ρ => VEs nx0 ρ (flat xs) (flat ys)
  | [], ys, B, K, hB, h => by
    simp only [mC] at h
    split at h
    · exact MR.here hB h (by simp [flat, VEs])
    · exact h.elim
  | p :: ps, ys, B, K, hB, h => by
    simp only [mC] at h
    cases hp : p.isArr with
    | true =>
      rw [hp] at h
      simp only [cond_true] at h
      have fin : ∀ {a : SV} {as : List SV}, flat ys = rows a ++ flat as → mArr n0 τ p a (mC n0 nx0 τ ps as B K) → MR n0 nx0 τ B K fun ρ => VEs nx0 ρ (flat (p :: ps)) (flat ys) := by
        intro a as hf hm
        obtain ⟨_, h2⟩ := mArr_spec hn hm B
        obtain ⟨B1, k1, k2, k3, k4⟩ := mC_spec hn _ _ _ _ hB h2
        obtain ⟨h3, _⟩ := mArr_spec hn hm B1
        refine ⟨B1, k1, k2, k3, ?_⟩
        show VEs nx0 (ρB n0 τ B1) (flat (p :: ps)) (flat ys)
        rw [flat_arr hp, hf]
        exact VEs_append h3 k4
      split at h
      · rename_i a as
        cases ha : a.isArr with
        | true =>
          rw [ha] at h
          exact fin (flat_arr ha) h
        | false =>
          rw [ha] at h
          simp only [cond_false] at h
          split at h
          · rename_i a' as' hg
            exact fin (groupN_spec hg).1 h
          · exact h.elim
      · split at h
        · rename_i a' as' hg
          exact fin (groupN_spec hg).1 h
        · exact h.elim
    | false =>
      rw [hp] at h
      simp only [cond_false] at h
      split at h
      · rename_i a as
        obtain ⟨h1, h2⟩ := bifPF h
        simp only [Bool.and_eq_true] at h1
        obtain ⟨B1, k1, k2, k3, k4⟩ := mV_spec hn _ _ _ _ hB h2
        obtain ⟨B2, q1, q2, q3, q4⟩ := mC_spec hn _ _ _ _ k3 k1
        refine ⟨B2, q1, k2.trans q2, q3, ?_⟩
        show VEs nx0 (ρB n0 τ B2) (flat (p :: ps)) (flat (a :: as))
        rw [flat_one hp, flat_one (one_γ h1.2).2, cellV_γ h1.1, cellV_γ h1.2]
        simp only [VEs]
        exact ⟨_, _, rfl, VE.mono (ρB_mono q2) rfl _ _ k4, q4⟩
      · exact h.elim
end

/-! ### Objects, heaps, states -/
def mE (n0 nx0 : Nat) (τ : Nat → Bid) : SEnv → SEnv → Bnd → (Bnd → Prop) → Prop
  | [], _, B, K => K B
  | none :: xs, l, B, K => mE n0 nx0 τ xs l.tail B K
  | some v :: xs, l, B, K => match l with
    | some w :: ys => mV n0 nx0 τ v w B fun B' => mE n0 nx0 τ xs ys B' K
    | _ => False
noncomputable def γe (e : SEnv) : Env := fun t => (getEnv e t).map γ
theorem γe_rel (e : SEnv) : EnvR e (γe e) := fun t v h => by simp [γe, h]
def EnvS (n : Nat) (ρ : Rho) (e e' : SEnv) : Prop := ∀ t v, getEnv e t = some v → ∃ v', getEnv e' t = some v' ∧ VE n ρ (γ v) (γ v')
theorem EnvS.env {n : Nat} {ρ : Rho} {e e' : SEnv} (h : EnvS n ρ e e') {a : Env} (hr : EnvR e' a) : EnvE n ρ (γe e) a := by
  intro t v hv
  simp only [γe, Option.map_eq_some_iff] at hv
  obtain ⟨x, h1, rfl⟩ := hv
  obtain ⟨v', h2, h3⟩ := h t x h1
  exact ⟨γ v', hr t v' h2, h3⟩
theorem EnvS.mono {n : Nat} {ρ ρ' : Rho} (ho : ∀ i j, ρ.own i = some j → ρ'.own i = some j) (ha : ρ.arg = ρ'.arg) {e e' : SEnv} (h : EnvS n ρ e e') : EnvS n ρ' e e' := fun t v hv =>
  let ⟨v', h1, h2⟩ := h t v hv; ⟨v', h1, VE.mono ho ha _ _ h2⟩
theorem mE_spec (hn : n0 ≤ nx0) : ∀ (xs ys : SEnv) (B : Bnd) (K : Bnd → Prop), BOk n0 nx0 B → mE n0 nx0 τ xs ys B K → MR n0 nx0 τ B K fun ρ => EnvS nx0 ρ xs ys
  | [], ys, B, K, hB, h => MR.here hB h (fun t v hv => by simp [getEnv] at hv)
  | none :: xs, ys, B, K, hB, h => by
    simp only [mE] at h
    obtain ⟨B1, k1, k2, k3, k4⟩ := mE_spec hn _ _ _ _ hB h
    refine ⟨B1, k1, k2, k3, fun t v hv => ?_⟩
    cases t with
    | zero => cases hv
    | succ t =>
      obtain ⟨v', h1, h2⟩ := k4 t v hv
      cases ys with
      | nil => simp [getEnv] at h1
      | cons y ys => exact ⟨v', h1, h2⟩
  | some v :: xs, ys, B, K, hB, h => by
    simp only [mE] at h
    split at h
    · obtain ⟨B1, k1, k2, k3, k4⟩ := mV_spec hn _ _ _ _ hB h
      obtain ⟨B2, q1, q2, q3, q4⟩ := mE_spec hn _ _ _ _ k3 k1
      refine ⟨B2, q1, k2.trans q2, q3, fun t w hv => ?_⟩
      cases t with
      | zero =>
        have hv : some v = some w := hv
        injection hv with hv; subst hv
        exact ⟨_, rfl, VE.mono (ρB_mono q2) rfl _ _ k4⟩
      | succ t => exact q4 t w hv
    · exact h.elim

def mO (n0 nx0 : Nat) (τ : Nat → Bid) (x y : SO) (B : Bnd) (K : Bnd → Prop) : Prop :=
  match x, y with
  | .cells cs t, .cells cs' t' => bif Nat.beq t t' then mC n0 nx0 τ cs cs' B K else False
  | .loop st none e nt ps asg body d, .loop st' none e' nt' ps' asg' body' d' =>
    bif decide (st = st') && (Nat.beq nt nt' && (decide (ps = ps') && (decide (asg = asg') && decide (body = body')))) then mE n0 nx0 τ e e' B fun B' => mB n0 nx0 τ d d' B' K else False
  | .defs, .defs => K B
  | _, _ => False
noncomputable def γo : SO → AObj
  | .cells cs t => .cells (flat cs) t
  | .loop st pend env nt ps asg body d => .loop st pend (γe env) nt ps asg body d
  | .defs => .defs
theorem γo_rel (o : SO) : OR o (γo o) := by
  cases o with
  | cells cs t => rfl
  | loop st pend env nt ps asg body d => exact ⟨_, rfl, γe_rel env⟩
  | defs => rfl
theorem mO_spec (hn : n0 ≤ nx0) {x y : SO} {B : Bnd} {K : Bnd → Prop} (hB : BOk n0 nx0 B) (h : mO n0 nx0 τ x y B K) {ao : AObj} (ho : OR y ao) : MR n0 nx0 τ B K fun ρ => OE nx0 ρ (γo x) ao := by
  unfold mO at h
  split at h
  · obtain ⟨h1, h2⟩ := bifPF h
    have h1 := Nat.eq_of_beq_eq_true h1
    subst h1
    simp only [OR] at ho; subst ho
    obtain ⟨B1, k1, k2, k3, k4⟩ := mC_spec hn _ _ _ _ hB h2
    exact ⟨B1, k1, k2, k3, _, rfl, k4⟩
  · obtain ⟨h1, h2⟩ := bifPF h
    simp only [Bool.and_eq_true, decide_eq_true_eq] at h1
    obtain ⟨rfl, c2, rfl, rfl, rfl⟩ := h1
    have c2 := Nat.eq_of_beq_eq_true c2
    subst c2
    obtain ⟨aenv, rfl, hr⟩ := ho
    obtain ⟨B1, k1, k2, k3, k4⟩ := mE_spec hn _ _ _ _ hB h2
    obtain ⟨B2, q1, q2, q3, q4⟩ := mB_spec hn k3 k1
    exact ⟨B2, q1, k2.trans q2, q3, _, _, rfl, EnvS.env (EnvS.mono (ρB_mono q2) rfl k4) hr, q4⟩
  · simp only [OR] at ho; subst ho
    exact MR.here hB h rfl
  · exact h.elim

def mDf (n0 nx0 : Nat) (τ : Nat → Bid) : List SDf → List SDf → Bnd → (Bnd → Prop) → Prop
  | [], l, B, K => match l with
    | [] => K B
    | _ => False
  | .coll b :: xs, l, B, K => match l with
    | .coll b' :: ys => mB n0 nx0 τ b b' B fun B' => mDf n0 nx0 τ xs ys B' K
    | _ => False
  | .clo f a :: xs, l, B, K => match l with
    | .clo f' a' :: ys => bif Nat.beq f f' then mVs n0 nx0 τ a a' B fun B' => mDf n0 nx0 τ xs ys B' K else False
    | _ => False
theorem DfsE.mono {n : Nat} {ρ ρ' : Rho} (ho : ∀ i j, ρ.own i = some j → ρ'.own i = some j) (ha : ρ.arg = ρ'.arg) : ∀ {x y : List ADef}, DfsE n ρ x y → DfsE n ρ' x y
  | [], _, h => h
  | a :: as, _, ⟨b, bs, h1, h2, h3⟩ => by
    refine ⟨b, bs, h1, ?_, DfsE.mono ho ha h3⟩
    cases a with
    | coll x => obtain ⟨b', q1, q2⟩ := h2; exact ⟨b', q1, BE.mono ho ha q2⟩
    | clo f args => obtain ⟨a', q1, q2⟩ := h2; exact ⟨a', q1, VEs.mono ho ha _ _ q2⟩
theorem mDf_spec (hn : n0 ≤ nx0) : ∀ (xs ys : List SDf) (B : Bnd) (K : Bnd → Prop), BOk n0 nx0 B → mDf n0 nx0 τ xs ys B K → MR n0 nx0 τ B K fun ρ => DfsE nx0 ρ (xs.map γd) (ys.map γd)
  | [], ys, B, K, hB, h => by
    simp only [mDf] at h
    split at h
    · exact MR.here hB h rfl
    · exact h.elim
  | .coll b :: xs, ys, B, K, hB, h => by
    simp only [mDf] at h
    split at h
    · obtain ⟨B1, k1, k2, k3, k4⟩ := mB_spec hn hB h
      obtain ⟨B2, q1, q2, q3, q4⟩ := mDf_spec hn _ _ _ _ k3 k1
      exact ⟨B2, q1, k2.trans q2, q3, _, _, rfl, ⟨_, rfl, BE.mono (ρB_mono q2) rfl k4⟩, q4⟩
    · exact h.elim
  | .clo f a :: xs, ys, B, K, hB, h => by
    simp only [mDf] at h
    split at h
    · obtain ⟨h1, h2⟩ := bifPF h
      have h1 := Nat.eq_of_beq_eq_true h1
      subst h1
      obtain ⟨B1, k1, k2, k3, k4⟩ := mVs_spec hn _ _ _ _ hB h2
      obtain ⟨B2, q1, q2, q3, q4⟩ := mDf_spec hn _ _ _ _ k3 k1
      exact ⟨B2, q1, k2.trans q2, q3, _, _, rfl, ⟨_, rfl, VEs.mono (ρB_mono q2) rfl _ _ k4⟩, q4⟩
    · exact h.elim

/-- The next object whose name is bound. -/
def ready (n0 : Nat) (B : Bnd) : SHeap → Option ((Nat × SO) × SHeap)
  | [] => none
  | p :: r => bif Nat.blt p.1 n0 || (blook B p.1).isSome then some (p, r) else (ready n0 B r).map fun q => (q.1, p :: q.2)
def mH (n0 nx0 : Nat) (τ : Nat → Bid) (h : SHeap) : Nat → SHeap → Bnd → (Bnd → Prop) → Prop
  | 0, todo, B, K => match todo with
    | [] => K B
    | _ => False
  | n + 1, todo, B, K => match todo with
    | [] => K B
    | _ => match ready n0 B todo with
      | none => False
      | some (p, rest) => bif Nat.blt p.1 n0 then
          (match hget h p.1 with
           | some o => mO n0 nx0 τ p.2 o B fun B' => mH n0 nx0 τ h n rest B' K
           | none => False)
          else match blook B p.1 with
            | some (some j) => (match hget h j with
              | some o => mO n0 nx0 τ p.2 o B fun B' => mH n0 nx0 τ h n rest B' K
              | none => False)
            | some none => (match p.2 with
              | .cells [a] _ => bif a.isArr then eqI a.cnt (.lit 0) (mH n0 nx0 τ h n rest B K) else False
              | .cells [] _ => mH n0 nx0 τ h n rest B K
              | _ => False)
            | none => False
theorem ready_spec {n0 : Nat} {B : Bnd} : ∀ {l rest : SHeap} {p : Nat × SO}, ready n0 B l = some (p, rest) → ∀ q, q ∈ l → q = p ∨ q ∈ rest
  | [], _, _, h, q, hq => by cases hq
  | x :: r, rest, p, h, q, hq => by
    simp only [ready] at h
    cases hb : Nat.blt x.1 n0 || (blook B x.1).isSome with
    | true =>
      rw [hb] at h
      simp only [cond_true, Option.some.injEq, Prod.mk.injEq] at h
      obtain ⟨rfl, rfl⟩ := h
      rcases List.mem_cons.1 hq with h | h
      · exact .inl h
      · exact .inr h
    | false =>
      rw [hb] at h
      simp only [cond_false, Option.map_eq_some_iff] at h
      obtain ⟨⟨a, b⟩, h1, h2⟩ := h
      simp only [Prod.mk.injEq] at h2
      obtain ⟨rfl, rfl⟩ := h2
      rcases List.mem_cons.1 hq with h | h
      · exact .inr (by rw [h]; exact List.mem_cons_self)
      · rcases ready_spec h1 q h with h | h
        · exact .inl h
        · exact .inr (List.mem_cons_of_mem _ h)

theorem EntsE.mono {n : Nat} {ρ ρ' : Rho} (ho : ∀ i j, ρ.own i = some j → ρ'.own i = some j) (ha : ρ.arg = ρ'.arg) : ∀ {x y : List (AVal × AVal × Nat)}, EntsE n ρ x y → EntsE n ρ' x y
  | [], _, h => h
  | a :: as, _, ⟨b, bs, h1, h2, h3, h4, h5⟩ => ⟨b, bs, h1, VE.mono ho ha _ _ h2, VE.mono ho ha _ _ h3, h4, EntsE.mono ho ha h5⟩
theorem OE.mono {n : Nat} {ρ ρ' : Rho} (ho : ∀ i j, ρ.own i = some j → ρ'.own i = some j) (ha : ρ.arg = ρ'.arg) {x y : AObj} (h : OE n ρ x y) : OE n ρ' x y := by
  cases x with
  | cells cs t => obtain ⟨a, h1, h2⟩ := h; exact ⟨a, h1, VEs.mono ho ha _ _ h2⟩
  | map es c => obtain ⟨a, h1, h2⟩ := h; exact ⟨a, h1, EntsE.mono ho ha h2⟩
  | loop st pend env nt ps asg body d =>
    obtain ⟨e', d', h1, h2, h3⟩ := h
    exact ⟨e', d', h1, fun t v hv => (let ⟨v', k1, k2⟩ := h2 t v hv; ⟨v', k1, VE.mono ho ha _ _ k2⟩), BE.mono ho ha h3⟩
  | defs => exact h
  | strIter s p => exact h
  | mapIter m since seen stepped =>
    obtain ⟨m', h1, h2⟩ := h
    refine ⟨m', h1, ?_⟩
    cases m <;> cases m' <;> first | trivial | exact BE.mono ho ha h2 | exact h2
  | opq R => exact h.elim

/-- An object is held against one. -/
def Held (nx0 : Nat) (a : Heap) (ρ : Rho) (p : Nat × SO) : Prop :=
  p.1 < nx0 ∧ ((∃ t, γo p.2 = .cells [] t ∧ ρ.own p.1 = none) ∨ ∃ j o', ρ.own p.1 = some j ∧ a j = some o' ∧ OE nx0 ρ (γo p.2) o')
theorem mH_spec (hn : n0 ≤ nx0) {h : SHeap} {a : Heap} (H : HR h a) : ∀ (fuel : Nat) (todo : SHeap) (B : Bnd) (K : Bnd → Prop), BOk n0 nx0 B → mH n0 nx0 τ h fuel todo B K →
    ∃ B', K B' ∧ BExt B B' ∧ BOk n0 nx0 B' ∧ ∀ q, q ∈ todo → ∀ B'', BExt B' B'' → (∀ i, blook B' i = some none → blook B'' i = some none) → Held nx0 a (ρB n0 τ B'') q := by
  intro fuel
  induction fuel with
  | zero =>
    intro todo B K hB hm
    cases todo with
    | nil => exact ⟨B, hm, BExt.refl B, hB, fun q hq => by cases hq⟩
    | cons p r => exact hm.elim
  | succ n ih =>
    intro todo B K hB hm
    cases todo with
    | nil => exact ⟨B, hm, BExt.refl B, hB, fun q hq => by cases hq⟩
    | cons x r =>
      simp only [mH] at hm
      split at hm
      · exact hm.elim
      · rename_i p rest hr
        have hsp := ready_spec hr
        -- an object held against one
        have fin : ∀ {j : Nat} {o : SO}, p.1 < nx0 → hget h j = some o → (∀ B', BExt B B' → (ρB n0 τ B').own p.1 = some j) → (mO n0 nx0 τ p.2 o B fun B' => mH n0 nx0 τ h n rest B' K) →
            ∃ B', K B' ∧ BExt B B' ∧ BOk n0 nx0 B' ∧ ∀ q, q ∈ x :: r → ∀ B'', BExt B' B'' → (∀ i, blook B' i = some none → blook B'' i = some none) → Held nx0 a (ρB n0 τ B'') q := by
          intro j o hlt hj hρ hm
          obtain ⟨ao, g1, g2⟩ := H j o hj
          obtain ⟨B1, k1, k2, k3, k4⟩ := mO_spec hn hB hm g2
          obtain ⟨B2, q1, q2, q3, q4⟩ := ih _ _ _ k3 k1
          refine ⟨B2, q1, k2.trans q2, q3, fun q hq B'' hB'' hv => ?_⟩
          rcases hsp q hq with rfl | hq
          · exact ⟨hlt, .inr ⟨j, ao, hρ B'' (k2.trans (q2.trans hB'')), g1, OE.mono (ρB_mono (q2.trans hB'')) rfl k4⟩⟩
          · exact q4 q hq B'' hB'' hv
        cases hl : Nat.blt p.1 n0 with
        | true =>
          rw [hl] at hm
          have hl : p.1 < n0 := Nat.le_of_ble_eq_true hl
          simp only [cond_true] at hm
          split at hm
          · rename_i o ho
            exact fin (Nat.lt_of_lt_of_le hl hn) ho (fun B' _ => by simp [ρB, hl]) hm
          · exact hm.elim
        | false =>
          rw [hl] at hm
          have hl : ¬ p.1 < n0 := fun e => by rw [show Nat.blt p.1 n0 = true from Nat.ble_eq_true_of_le e] at hl; cases hl
          simp only [cond_false] at hm
          split at hm
          · rename_i j hb
            split at hm
            · rename_i o ho
              exact fin (hB.rng _ _ hb).2 ho (fun B' hB' => by simp [ρB, hl, hB' _ _ hb]) hm
            · exact hm.elim
          · rename_i hb
            have fin2 : (∃ t, γo p.2 = .cells [] t) → mH n0 nx0 τ h n rest B K →
                ∃ B', K B' ∧ BExt B B' ∧ BOk n0 nx0 B' ∧ ∀ q, q ∈ x :: r → ∀ B'', BExt B' B'' → (∀ i, blook B' i = some none → blook B'' i = some none) → Held nx0 a (ρB n0 τ B'') q := by
              rintro ⟨t, ht⟩ hm
              obtain ⟨B2, q1, q2, q3, q4⟩ := ih _ _ _ hB hm
              refine ⟨B2, q1, q2, q3, fun q hq B'' hB'' hv => ?_⟩
              rcases hsp q hq with rfl | hq
              · exact ⟨(hB.rng _ _ hb).2, .inl ⟨t, ht, by simp [ρB, hl, hB'' _ _ (q2 _ _ hb)]⟩⟩
              · exact q4 q hq B'' hB'' hv
            split at hm
            · rename_i v t hv
              obtain ⟨h1, h2⟩ := bifPF hm
              obtain ⟨h3, h4⟩ := eqI_spec h2
              refine fin2 ⟨t, ?_⟩ h4
              rw [hv]
              simp only [γo, flat_arr1 h1]
              congr 1
              refine List.eq_nil_of_length_eq_zero ?_
              rw [rows_length, h3]; simp [SI.v]
            · rename_i t hv
              exact fin2 ⟨t, by rw [hv]; rfl⟩ hm
            · exact hm.elim
          · exact hm.elim

/-- A told state, held against another one; names below n0 are kept. -/
def Mt (n0 : Nat) (σ0 σ : SSt) : Prop :=
  bif Nat.ble n0 σ0.nx && Nat.ble n0 σ.nx then
    mE n0 σ0.nx .arg σ0.env σ.env [] fun B => mDf n0 σ0.nx .arg σ0.dfs σ.dfs B fun B => mH n0 σ0.nx .arg σ.h (σ0.h.length + 1) σ0.h B fun _ => True
  else False

theorem hget_mem : ∀ {h : SHeap} {j : Nat} {o : SO}, hget h j = some o → (j, o) ∈ h
  | [], _, _, h => by cases h
  | p :: r, j, o, hh => by
    simp only [hget] at hh
    cases hb : Nat.beq p.1 j with
    | true =>
      rw [hb] at hh
      have := Nat.eq_of_beq_eq_true hb
      have h2 := Option.some.inj hh
      rw [← this, ← h2]; exact List.mem_cons_self
    | false => rw [hb] at hh; exact List.mem_cons_of_mem _ (hget_mem hh)

theorem Mt_spec {n0 : Nat} {σ0 σ : SSt} {s : St} (h : Mt n0 σ0 σ) (G : GS σ s) : ∃ s0 ρ, GS σ0 s0 ∧ Emb n0 ρ s0 s := by
  unfold Mt at h
  obtain ⟨h1, h2⟩ := bifPF h
  simp only [Bool.and_eq_true] at h1
  have hn := Nat.le_of_ble_eq_true h1.1
  have hn' := Nat.le_of_ble_eq_true h1.2
  obtain ⟨B1, k1, k2, k3, k4⟩ := mE_spec hn _ _ _ _ (BOk.nil _ _) h2
  obtain ⟨B2, q1, q2, q3, q4⟩ := mDf_spec hn _ _ _ _ k3 k1
  obtain ⟨B3, _, r2, r3, r4⟩ := mH_spec hn G.heap _ _ _ _ q3 q1
  refine ⟨⟨γe σ0.env, fun i => (hget σ0.h i).map γo, σ0.nx, σ0.dfs.map γd⟩, ρB n0 .arg B3, ⟨rfl, γe_rel _, fun j o ho => ⟨γo o, by simp [ho], γo_rel o⟩, rfl⟩, ⟨⟨hn, by rw [G.nx]; exact hn', rfl, fun i hi => by simp [ρB, hi], ?_, ?_⟩, ?_, ?_⟩⟩
  · intro i o ho
    simp only [Option.map_eq_some_iff] at ho
    obtain ⟨x, hx, rfl⟩ := ho
    exact r4 (i, x) (hget_mem hx) B3 (BExt.refl _) (fun _ h => h)
  · intro i i' j _ _ hi hi'
    simp only [ρB] at hi hi'
    split at hi <;> split at hi'
    · injection hi with hi; injection hi' with hi'; omega
    · rename_i h3 h4
      injection hi with hi
      cases hb : blook B3 i' with
      | none => rw [hb] at hi'; cases hi'
      | some r =>
        rw [hb] at hi'
        have hi' : r = some j := hi'
        subst hi'
        have := r3.img _ _ hb
        omega
    · rename_i h3 h4
      injection hi' with hi'
      cases hb : blook B3 i with
      | none => rw [hb] at hi; cases hi
      | some r =>
        rw [hb] at hi
        have hi : r = some j := hi
        subst hi
        have := r3.img _ _ hb
        omega
    · cases hb : blook B3 i with
      | none => rw [hb] at hi; cases hi
      | some r =>
        cases hb' : blook B3 i' with
        | none => rw [hb'] at hi'; cases hi'
        | some r' =>
          rw [hb] at hi; rw [hb'] at hi'
          have hi : r = some j := hi
          have hi' : r' = some j := hi'
          subst hi hi'
          exact r3.inj _ _ _ hb hb'
  · exact EnvS.env (EnvS.mono (ρB_mono (q2.trans r2)) rfl k4) G.env
  · show DfsE σ0.nx _ _ s.dfs
    rw [G.dfs]
    exact DfsE.mono (ρB_mono r2) rfl q4

end
end Go.SL

/- Helper text: an evaluator of code on told states; where it stops, equations between terms are left. -/
namespace Go.SL
open Go.AL


/-- What is told of a loop's head. -/
structure LoopSpec where
  G : Type
  st : G → SSt
  side : G → Prop
  meas : G → Nat

structure Cfg where
  ov : FuncId → Bool
  pg : FuncId → Option AFun
  sp : FuncId → Option (List SV → SHeap → Nat → SK → Prop)
  lp : FuncId → Nat → Option (SSt → LoopSpec)
  lf : Nat

def nloops : ACode → Nat
  | .seq a b => nloops a + nloops b
  | .cond _ a b => nloops a + nloops b
  | .block _ a => nloops a
  | .loop a => nloops a + 1
  | .scope a => nloops a
  | .rfunc _ _ a b => nloops a + nloops b
  | _ => 0

def sThen (k : SSt → Prop) (K : Exit → SSt → Prop) : Exit → SSt → Prop
  | .normal, σ => k σ
  | e, σ => K e σ
def sBlk (id : Nat) (K : Exit → SSt → Prop) : Exit → SSt → Prop
  | .exit id', σ => bif Nat.beq id' id then K .normal σ else K (.exit id') σ
  | e, σ => K e σ
def sNoGo (K : Exit → SSt → Prop) : Exit → SSt → Prop
  | .goto _, _ => False
  | e, σ => K e σ
def sLoopN (step : SSt → (Exit → SSt → Prop) → Prop) : Nat → SSt → (Exit → SSt → Prop) → Prop
  | 0, _, _ => False
  | n + 1, σ, K => step σ (sThen (fun σ' => sLoopN step n σ' K) K)
/-- The slots that a piece of code reads. -/
def readsOf : ACode → List Nat
  | .ops l => l.flatMap AOp.uses
  | .dops l => l.flatMap fun d => d.op.uses
  | .seq a b => readsOf a ++ readsOf b
  | .cond c a b => c.slots ++ (readsOf a ++ readsOf b)
  | .block _ a => readsOf a
  | .loop a => readsOf a
  | .scope a => readsOf a
  | .rfunc f _ a b => f.slots ++ (readsOf a ++ readsOf b)
  | _ => []
def hasN : List Nat → Nat → Bool
  | [], _ => false
  | x :: l, n => bif Nat.beq x n then true else hasN l n
/-- Of an environment some slots. -/
def keepN (l : List Nat) : Nat → SEnv → SEnv
  | _, [] => []
  | i, v :: e => (bif hasN l i then v else none) :: keepN l (i + 1) e
theorem keepN_get {l : List Nat} : ∀ {i : Nat} {e : SEnv} {t : Nat} {v : SV}, getEnv (keepN l i e) t = some v → getEnv e t = some v
  | _, [], _, _, h => by simp [keepN, getEnv] at h
  | i, x :: e, 0, v, h => by
    simp only [keepN, getEnv] at h ⊢
    cases hb : hasN l i with
    | true => rw [hb] at h; exact h
    | false => rw [hb] at h; cases h
  | i, x :: e, t + 1, v, h => by simp only [keepN, getEnv] at h ⊢; exact keepN_get h
theorem EnvR.keep {e : SEnv} {a : Env} (h : EnvR e a) (l : List Nat) (i : Nat) : EnvR (keepN l i e) a := fun t v hv => h t v (keepN_get hv)
def sRfHeap (σ : SSt) (ps : List Nat) (asg body : ACode) (nt : Nat) : SHeap := hset (hset σ.h σ.nx .defs) (σ.nx + 1) (.loop .ready none (keepN (readsOf asg ++ readsOf body) 0 σ.env) nt ps asg body (.own σ.nx))
def sRfEnd (σ : SSt) (K : Exit → SSt → Prop) (h2 : SHeap) (nx2 : Nat) : Prop :=
  match hget h2 (σ.nx + 1) with
  | some (.loop st pend _ _ _ _ _ _) => match st with
    | .busy => False
    | _ => hdelK h2 (σ.nx + 1) fun h3 => match pend with
      | none => K .normal ⟨σ.env, h3, nx2, .coll (.own σ.nx) :: σ.dfs⟩
      | some .ret => K .ret ⟨σ.env, h3, nx2, .coll (.own σ.nx) :: σ.dfs⟩
      | some (.exit id) => K (.exit id) ⟨σ.env, h3, nx2, .coll (.own σ.nx) :: σ.dfs⟩
      | _ => False
  | _ => False

/-- The evaluator. 'k': how many loops come ahead in the function's text. -/
def SE (cfg : Cfg) (r : SRom) (scv : SCV) (f : FuncId) (rd : Option Bid) (nt : Nat) : ACode → Nat → SSt → (Exit → SSt → Prop) → Prop
  | .skip, _, σ, K => K .normal σ
  | .ops l, _, σ, K => SEOps (cfg.ov f) r scv rd l σ (K .normal)
  | .dops l, _, σ, K => SEOpsD (cfg.ov f) r scv rd l [] σ (K .normal)
  | .seq a b, k, σ, K => SE cfg r scv f rd nt a k σ (sThen (fun σ' => SE cfg r scv f rd nt b (k + nloops a) σ' K) K)
  | .cond c a b, k, σ, K => match evS σ.env c with
    | some (.bool t) => match c with
      | .tmp d => forkEnv t σ.env d (fun e => SE cfg r scv f rd nt a k ⟨e, σ.h, σ.nx, σ.dfs⟩ K) (fun e => SE cfg r scv f rd nt b (k + nloops a) ⟨e, σ.h, σ.nx, σ.dfs⟩ K)
      | _ => forkS t (SE cfg r scv f rd nt a k σ K) (SE cfg r scv f rd nt b (k + nloops a) σ K)
    | _ => False
  | .block id a, k, σ, K => SE cfg r scv f rd nt a k σ (sBlk id K)
  | .loop a, k, σ, K => match cfg.lp f k with
    | none => sLoopN (fun σ K => SE cfg r scv f rd nt a (k + 1) σ K) cfg.lf σ K
    | some ls => match ls σ with
      | ⟨_, st, side, meas⟩ => (∃ g, side g ∧ Mt σ.nx (st g) σ) ∧
        ∀ g, side g → SE cfg r scv f rd nt a (k + 1) (st g) (sThen (fun σ' => ∃ g', side g' ∧ meas g' < meas g ∧ Mt σ.nx (st g') σ') K)
  | .exit id, _, σ, K => K (.exit id) σ
  | .ret, _, σ, K => K .ret σ
  | .scope a, k, σ, K => SE cfg r scv f rd nt a k σ (sNoGo K)
  | .rfunc fo ps asg body, _, σ, K => match rd, evS σ.env fo with
    | none, some (.func g first caps) => scv (.func g first caps) [.yld (.own (σ.nx + 1))] (sRfHeap σ ps asg body nt) (σ.nx + 2) fun _ h2 nx2 => sRfEnd σ K h2 nx2
    | _, _ => False

variable {P : Program}
/-- What an abstract continuation is of a told one. -/
def KS (K : Exit → SSt → Prop) : Exit → St → Prop := fun e s => ∃ σ, GS σ s ∧ K e σ

theorem HR.rf {σ : SSt} {s : St} (G : GS σ s) (ps : List Nat) (asg body : ACode) (nt : Nat) : HR (sRfHeap σ ps asg body nt) (rfHeap s ps asg body nt) := by
  unfold sRfHeap rfHeap
  rw [G.nx]
  exact (G.heap.set (o := .defs) (ao := .defs) rfl).set (o := .loop .ready none (keepN (readsOf asg ++ readsOf body) 0 σ.env) nt ps asg body (.own σ.nx)) ⟨_, rfl, G.env.keep _ _⟩

theorem sRfEnd_sound {σ : SSt} {s : St} (G : GS σ s) {K : Exit → SSt → Prop} {h2 : SHeap} {a2 : Heap} {nx2 : Nat} (H : HR h2 a2) (h : sRfEnd σ K h2 nx2) : rfEnd s (KS K) a2 nx2 := by
  unfold sRfEnd at h
  unfold rfEnd
  split at h
  · rename_i st pend e nt ps asg body d hg
    obtain ⟨ao, q1, aenv, rfl, _⟩ := H _ _ hg
    rw [G.nx, q1]
    have fin : ∀ e, K e ⟨σ.env, hdel h2 (σ.nx + 1), nx2, .coll (.own σ.nx) :: σ.dfs⟩ → KS K e ⟨s.env, upd a2 (σ.nx + 1) none, nx2, .coll (.own σ.nx) :: s.dfs⟩ := fun e hk =>
      ⟨⟨σ.env, hdel h2 (σ.nx + 1), nx2, .coll (.own σ.nx) :: σ.dfs⟩, ⟨rfl, G.env, H.del, by simp [γd, G.dfs]⟩, hk⟩
    cases st <;> simp only at h ⊢ <;> first
      | exact h.elim
      | (rw [hdelK_eq] at h
         rw [gd_iff]
         refine ⟨rfl, ?_⟩
         cases pend with
         | none => exact fin _ h
         | some c => cases c <;> first | exact fin _ h | exact h.elim)
  · exact h.elim

theorem SE_sound {cfg : Cfg} {r : SRom} (hrom : RomFree (γr r)) {scv : SCV} (hs : SCVOk P r scv) (hm : P.follows .mixedOrders = true) {f : FuncId} {rd : Option Bid} {nt : Nat} : ∀ (c : Code) (a : ACode) (k : Nat) (σ : SSt) (s : St) (K : Exit → SSt → Prop),
    compCode P nt c = some a → GS σ s → SE cfg r scv f rd nt a k σ K → T P (γr r) rd nt c s (KS K) := by
  have thn : ∀ {k : SSt → Prop} {K : Exit → SSt → Prop} {k' : St → Prop}, (∀ σ s, GS σ s → k σ → k' s) → ∀ e s, KS (sThen k K) e s → andThen k' (KS K) e s := by
    intro k K k' hk e s ⟨σ, G, h⟩
    cases e <;> first | exact hk σ s G h | exact ⟨σ, G, h⟩
  intro c
  induction c with
  | skip => intro a k σ s K hc G h; simp [compCode] at hc; subst hc; exact T_skip ⟨σ, G, h⟩
  | label l => intro a k σ s K hc G h; simp [compCode] at hc; subst hc; exact T_label ⟨σ, G, h⟩
  | region id ops draw =>
    intro a k σ s K hc G h
    simp only [compCode] at hc
    cases draw with
    | true =>
      simp only [if_true, Option.some.injEq] at hc
      cases hcd : compDrawn P nt ops with
      | none =>
        rw [hcd] at hc; subst hc
        simp [badCode, SE, SEOps, SEOp, SEAct, SX] at h
      | some a0 =>
      rw [hcd] at hc
      simp only [Option.getD_some] at hc
      subst hc
      have hc := hcd
      have hd : ∃ ds, a0 = .dops ds := by
        have hc' := hc
        unfold compDrawn at hc'
        split at hc'
        · cases hc'
        · simp only at hc'
          split at hc'
          · split at hc'
            · injection hc' with hc'; exact ⟨_, hc'.symm⟩
            · cases hc'
          · cases hc'
      obtain ⟨ds, rfl⟩ := hd
      exact T_dops CVOk.sem hm hc (SEOpsD_sound hs (fun i => .inl ⟨rfl, rfl⟩) G h)
    | false =>
      simp only [Bool.false_eq_true, if_false, Option.map_eq_some_iff] at hc
      obtain ⟨xs, h1, rfl⟩ := hc
      exact T_ops CVOk.sem h1 (SEOps_sound hs G h)
  | seq x y ihx ihy =>
    intro a k σ s K hc G h
    simp only [compCode] at hc
    split at hc
    · rename_i x' y' h1 h2
      injection hc with hc; subst hc
      exact T_seq ((ihx _ k σ s _ h1 G h).mono (thn fun σ' s' G' h' => ihy _ _ σ' s' K h2 G' h'))
    · cases hc
  | cond c x y ihx ihy =>
    intro a k σ s K hc G h
    simp only [compCode] at hc
    split at hc
    · rename_i c' x' y' h0 h1 h2
      injection hc with hc; subst hc
      simp only [SE] at h
      split at h
      · rename_i t ht
        have ht' := evS_spec G.env ht
        simp only [γ] at ht'
        refine T_cond h0 ht' ?_
        split at h
        · rename_i d
          obtain ⟨e', hE', hc⟩ := forkEnv_spec h G.env ht
          have G' : GS ⟨e', σ.h, σ.nx, σ.dfs⟩ s := ⟨G.nx, hE', G.heap, G.dfs⟩
          rcases hc with ⟨g1, g2⟩ | ⟨g1, g2⟩
          · rw [g1]; exact ihx _ _ _ s K h1 G' g2
          · rw [g1]; exact ihy _ _ _ s K h2 G' g2
        · rcases forkS_spec h with ⟨g1, g2⟩ | ⟨g1, g2⟩
          · rw [g1]; exact ihx _ _ σ s K h1 G g2
          · rw [g1]; exact ihy _ _ σ s K h2 G g2
      · exact h.elim
    · cases hc
  | block id x ih =>
    intro a k σ s K hc G h
    simp only [compCode, Option.map_eq_some_iff] at hc
    obtain ⟨x', h1, rfl⟩ := hc
    refine T_block ((ih _ k σ s _ h1 G h).mono ?_)
    intro e s' ⟨σ', G', h'⟩
    cases e with
    | exit id' =>
      simp only [inBlk, sBlk] at h' ⊢
      cases hb : Nat.beq id' id with
      | true =>
        rw [hb] at h'
        rw [if_pos (Nat.eq_of_beq_eq_true hb)]; exact ⟨σ', G', h'⟩
      | false =>
        rw [hb] at h'
        rw [if_neg (fun e => by rw [e, Nat.beq_refl] at hb; cases hb)]; exact ⟨σ', G', h'⟩
    | _ => exact ⟨σ', G', h'⟩
  | loop x ih =>
    intro a k σ s K hc G h
    simp only [compCode, Option.map_eq_some_iff] at hc
    obtain ⟨x', h1, rfl⟩ := hc
    simp only [SE] at h
    split at h
    · refine T_loop (fun n s => ∃ σ, GS σ s ∧ sLoopN (fun σ K => SE cfg r scv f rd nt x' (k + 1) σ K) n σ K) cfg.lf ⟨σ, G, h⟩ ?_
      rintro m s' ⟨σ', G', hj⟩
      cases m with
      | zero => exact hj.elim
      | succ m => exact (ih _ _ σ' s' _ h1 G' hj).mono (thn fun σ'' s'' G'' q => ⟨m, Nat.lt_succ_self m, σ'', G'', q⟩)
    · rename_i ls hls
      have h : (∃ g, (ls σ).side g ∧ Mt σ.nx ((ls σ).st g) σ) ∧ ∀ g, (ls σ).side g → SE cfg r scv f rd nt x' (k + 1) ((ls σ).st g) (sThen (fun σ' => ∃ g', (ls σ).side g' ∧ (ls σ).meas g' < (ls σ).meas g ∧ Mt σ.nx ((ls σ).st g') σ') K) := by
        revert h
        cases ls σ
        exact id
      obtain ⟨⟨g, h2, h3⟩, h4⟩ := h
      obtain ⟨s0, ρ, g1, g2⟩ := Mt_spec h3 G
      rw [← G.nx] at g2
      refine T_loopE hrom (fun n s => ∃ g, (ls σ).side g ∧ (ls σ).meas g = n ∧ GS ((ls σ).st g) s) ⟨_, s0, ρ, ⟨g, h2, rfl, g1⟩, g2⟩ ?_
      rintro n s' ⟨g', k1, rfl, k3⟩
      refine (ih _ _ _ s' _ h1 k3 (h4 g' k1)).mono (thn ?_)
      rintro σ'' s'' G'' ⟨g'', q1, q2, q3⟩
      obtain ⟨s1, ρ1, q4, q5⟩ := Mt_spec q3 G''
      rw [← G.nx] at q5
      exact ⟨_, s1, ρ1, q2, ⟨g'', q1, rfl, q4⟩, q5⟩
  | rangeFunc f' ps asg body iha ihb =>
    intro a k σ s K hc G h
    simp only [compCode] at hc
    split at hc
    · rename_i f'' x y h0 h1 h2
      injection hc with hc; subst hc
      simp only [SE] at h
      split at h
      · rename_i g first caps hv
        have hv' := evS_spec G.env hv
        simp only [γ] at hv'
        refine T_rfunc CVOk.sem h0 h1 h2 hv' ?_
        have hc := hs _ _ _ _ _ h _ (HR.rf G ps.toList x y nt)
        rw [G.nx]
        refine CallV.mono ?_ hc
        rintro _ h' nx' ⟨sv, sh, _, H, hk⟩
        exact sRfEnd_sound G H hk
      · exact h.elim
    · cases hc
  | exit id => intro a k σ s K hc G h; simp [compCode] at hc; subst hc; exact T_exit ⟨σ, G, h⟩
  | ret => intro a k σ s K hc G h; simp [compCode] at hc; subst hc; exact T_ret ⟨σ, G, h⟩
  | scope b ih =>
    intro a k σ s K hc G h
    simp only [compCode, Option.map_eq_some_iff] at hc
    obtain ⟨x', h1, rfl⟩ := hc
    refine T_scope ((ih _ k σ s _ h1 G h).mono ?_)
    rintro e s' ⟨σ', G', h'⟩
    cases e <;> first | exact h'.elim | exact ⟨σ', G', h'⟩
  | goto l => intro a k σ s K hc G h; simp only [compCode, Option.some.injEq] at hc; subst hc; simp [badCode, SE, SEOps, SEOp, SEAct, SX] at h
  | refuse y => intro a k σ s K hc G h; simp only [compCode, Option.some.injEq] at hc; subst hc; simp [badCode, SE, SEOps, SEOp, SEAct, SX] at h

end Go.SL

/- Helper text: calls on told states; contracts. -/
namespace Go.SL
open Go.AL

variable {P : Program}

def sVals (e : SEnv) : List Nat → Option (List SV)
  | [] => some []
  | t :: ts => match getEnv e t, sVals e ts with
    | some v, some vs => some (v :: vs)
    | _, _ => none
def sRes (e : SEnv) (res : List Nat) : Option SV :=
  match sVals e res with
  | some [v] => some v
  | some vs => some (.tup vs)
  | none => none
theorem sVals_spec {e : SEnv} {a : Env} (hE : EnvR e a) : ∀ {ts : List Nat} {vs : List SV}, sVals e ts = some vs → slotVals a ts = some (γs vs)
  | [], vs, h => by simp only [sVals, Option.some.injEq] at h; subst h; rfl
  | t :: ts, vs, h => by
    simp only [sVals] at h
    split at h
    · rename_i v vs' h1 h2
      injection h with h; subst h
      simp only [slotVals, hE t v h1, sVals_spec hE h2, γs]
    · cases h
theorem sRes_spec {e : SEnv} {a : Env} (hE : EnvR e a) {res : List Nat} {v : SV} (h : sRes e res = some v) : resVal a res = some (γ v) := by
  unfold sRes at h
  split at h
  · rename_i x hx
    injection h with h; subst h
    have := sVals_spec hE hx
    simp only [resVal, this, γs]
  · rename_i vs hne hx
    injection h with h; subst h
    have := sVals_spec hE hx
    cases vs with
    | nil => simp only [resVal, this, γs, γ]
    | cons x xs =>
      cases xs with
      | nil => exact absurd rfl (hne x)
      | cons y ys => simp only [resVal, this, γs, γ]
  · cases h

/-- Deferred calls on the way out. -/
def sLeave (cd : FuncId → List SV → SHeap → Nat → SK → Prop) (Q : SHeap → Nat → Prop) : List SDf → SHeap → Nat → Prop
  | [], h, nx => Q h nx
  | .coll b :: ds, h, nx => match b with
    | .own i => (match hget h i with
      | some .defs => hdelK h i fun h' => sLeave cd Q ds h' nx
      | _ => False)
    | .arg _ => False
  | .clo f args :: ds, h, nx => cd f args h nx fun _ h' nx' => sLeave cd Q ds h' nx'
def sOutK (cd : FuncId → List SV → SHeap → Nat → SK → Prop) (res : List Nat) (Q : SK) : Exit → SSt → Prop
  | .normal, σ | .ret, σ => match sRes σ.env res with
    | some v => sLeave cd (Q v) σ.dfs σ.h σ.nx
    | none => False
  | _, _ => False
def sOutD (res : List Nat) (Q : SK) : Exit → SSt → Prop
  | .normal, σ | .ret, σ => match σ.dfs, sRes σ.env res with
    | [], some v => Q v σ.h σ.nx
    | _, _ => False
  | _, _ => False

def padEnv : List SV → Nat → SEnv
  | [], 0 => []
  | [], n + 1 => none :: padEnv [] n
  | _ :: _, 0 => []
  | v :: vs, n + 1 => some v :: padEnv vs n
theorem getEnv_pad : ∀ {args : List SV} {n t : Nat} {v : SV}, getEnv (padEnv args n) t = some v → args[t]? = some v
  | [], 0, _, _, h => by simp [padEnv, getEnv] at h
  | [], n + 1, 0, _, h => by simp [padEnv, getEnv] at h
  | [], n + 1, t + 1, v, h => by simp only [padEnv, getEnv] at h; have := getEnv_pad h; simp at this
  | _ :: _, 0, _, _, h => by simp [padEnv, getEnv] at h
  | x :: xs, n + 1, 0, v, h => by simpa [padEnv, getEnv] using h
  | x :: xs, n + 1, t + 1, v, h => by simp only [padEnv, getEnv] at h; simpa using getEnv_pad h
theorem pad_rel (args : List SV) (n : Nat) : EnvR (padEnv args n) (initEnv (γs args)) := by
  intro t v h
  have := getEnv_pad h
  simp only [initEnv, γs_map, List.getElem?_map, this, Option.map_some]

def sPutMany : SEnv → List Nat → List SV → SEnv
  | e, p :: ps, v :: vs => sPutMany (setEnv e p (some v)) ps vs
  | e, _, _ => e
theorem sPutMany_rel : ∀ {e : SEnv} {a : Env} {ps : List Nat} {vs : List SV}, EnvR e a → EnvR (sPutMany e ps vs) (putMany a ps (γs vs))
  | e, a, [], vs, h => by cases vs <;> exact h
  | e, a, p :: ps, [], h => h
  | e, a, p :: ps, v :: vs, h => by simp only [sPutMany, γs, putMany]; exact sPutMany_rel (h.upd p (some v))

def sRoundEnd (i : Nat) (Q : SK) : Exit → SSt → Prop := fun e σ =>
  match jumpOf e, hget σ.h i with
  | some j, some (.loop _ _ env nt ps a b d) => hsetK σ.h i (.loop (if j.isNone then .ready else .done) j env nt ps a b d) fun h' => Q (.bool (.lit j.isNone)) h' σ.nx
  | _, _ => False
def sRoundMid (i : Nat) (TB : SSt → Prop) : Exit → SSt → Prop := fun e σ =>
  match e, hget σ.h i with
  | .normal, some (.loop .ready pend env nt ps a b d) => hsetK σ.h i (.loop .busy pend env nt ps a b d) fun h' => TB ⟨σ.env, h', σ.nx, σ.dfs⟩
  | _, _ => False

/-- Calls with deferred ones: gone into. -/
def SCDn (cfg : Cfg) (r : SRom) (scv : SCV) (f : FuncId) (args : List SV) (h : SHeap) (nx : Nat) (Q : SK) : Prop :=
  match cfg.pg f with
  | some af => bif Nat.ble args.length af.nt then SE cfg r scv f none af.nt af.body 0 ⟨padEnv args af.nt, h, nx, []⟩ (sOutD af.res Q) else False
  | none => False

/-- Calls: by a contract, or gone into. -/
def SCVn (cfg : Cfg) (r : SRom) : Nat → SCV
  | 0, _, _, _, _, _ => False
  | n + 1, fv, args, h, nx, Q => match fv with
    | .func f first caps => match cfg.sp f with
      | some sp => sp (first ++ args ++ caps) h nx Q
      | none => match cfg.pg f with
        | some af => bif Nat.ble (first ++ args ++ caps).length af.nt then
            SE cfg r (SCVn cfg r n) f none af.nt af.body 0 ⟨padEnv (first ++ args ++ caps) af.nt, h, nx, []⟩ (sOutK (SCDn cfg r (SCVn cfg r n)) af.res Q) else False
        | none => False
    | .yld (.own i) => match hget h i with
      | some (.loop _ _ env nt ps asg body _) => bif Nat.beq args.length ps.length && ps.all (fun p => Nat.blt p nt) then
          SE cfg r (SCVn cfg r n) 0 (some (.own i)) nt asg 0 ⟨sPutMany env ps args, h, nx, []⟩ (sRoundMid i fun σ' =>
            SE cfg r (SCVn cfg r n) 0 (some (.own i)) nt body (nloops asg) σ' (sRoundEnd i Q)) else False
      | _ => False
    | _ => False

/-- A contract that is true: it says at least what the call does. -/
def SpOk (P : Program) (r : SRom) (f : FuncId) (sp : List SV → SHeap → Nat → SK → Prop) : Prop :=
  ∀ args h nx K, sp args h nx K → ∀ a, HR h a → CallT P (γr r) f (γs args) a nx fun v h' nx' => ∃ sv sh, v = γ sv ∧ HR sh h' ∧ K sv sh nx'
structure CfgOk (P : Program) (r : SRom) (cfg : Cfg) : Prop where
  pg : AProgOk P cfg.pg
  sp : ∀ f sp, cfg.sp f = some sp → SpOk P r f sp

theorem sLeave_sound {cds : FuncId → List SV → SHeap → Nat → SK → Prop} {cd : FuncId → List AVal → Heap → Nat → (AVal → Heap → Nat → Prop) → Prop}
    (hcd : ∀ f args h nx Q, cds f args h nx Q → ∀ a, HR h a → cd f (γs args) a nx fun v h' nx' => ∃ sv sh, v = γ sv ∧ HR sh h' ∧ Q sv sh nx')
    (hmono : ∀ f args h nx (Q Q' : AVal → Heap → Nat → Prop), (∀ v h' nx', Q v h' nx' → Q' v h' nx') → cd f args h nx Q → cd f args h nx Q') {Q : SHeap → Nat → Prop} :
    ∀ (ds : List SDf) (h : SHeap) (nx : Nat) (a : Heap), HR h a → sLeave cds Q ds h nx → Leave cd (fun a' nx' => ∃ h', HR h' a' ∧ Q h' nx') (ds.map γd) a nx
  | [], h, nx, a, H, hq => ⟨h, H, hq⟩
  | .coll b :: ds, h, nx, a, H, hq => by
    cases b with
    | arg i => exact hq.elim
    | own i =>
      simp only [sLeave] at hq
      split at hq
      · rename_i hi
        obtain ⟨ao, q1, q2⟩ := H i _ hi
        simp only [OR] at q2; subst q2
        rw [hdelK_eq] at hq
        simp only [List.map_cons, γd, Leave, q1]
        rw [gd_iff]
        exact ⟨rfl, sLeave_sound hcd hmono ds _ nx _ H.del hq⟩
      · exact hq.elim
  | .clo f args :: ds, h, nx, a, H, hq => by
    simp only [sLeave] at hq
    simp only [List.map_cons, γd, Leave]
    refine hmono _ _ _ _ _ _ ?_ (hcd _ _ _ _ _ hq a H)
    rintro _ a' nx' ⟨sv, sh, _, H', k⟩
    exact sLeave_sound hcd hmono ds sh nx' a' H' k

variable {r : SRom} {cfg : Cfg}
theorem SCDn_ok (hrom : RomFree (γr r)) (hpg : AProgOk P cfg.pg) (hm : P.follows .mixedOrders = true) {scv : SCV} (hs : SCVOk P r scv) : ∀ f args h nx Q, SCDn cfg r scv f args h nx Q → ∀ a, HR h a →
    CallDT P (γr r) f (γs args) a nx fun v h' nx' => ∃ sv sh, v = γ sv ∧ HR sh h' ∧ Q sv sh nx' := by
  intro f args h nx Q hc a H
  unfold SCDn at hc
  split at hc
  · rename_i af haf
    obtain ⟨hl, hc⟩ := bifPF hc
    obtain ⟨hok, fn, c, hf, hb, hr, hcc, hnt⟩ := compFun_spec (hpg f af haf)
    rw [hnt] at hc hl
    have G : GS ⟨padEnv args fn.ntmps, h, nx, []⟩ ⟨initEnv (γs args), a, nx, []⟩ := ⟨rfl, pad_rel _ _, H, rfl⟩
    have hl' : (γs args).length ≤ fn.ntmps := by rw [γs_map, List.length_map]; exact Nat.le_of_ble_eq_true hl
    refine callDT_of_T hok hf hb hr hl' ((SE_sound hrom hs hm c _ _ _ _ _ hcc G hc).mono ?_)
    rintro e s' ⟨σ', G', k⟩
    have fin : (match σ'.dfs, sRes σ'.env af.res with | [], some v => Q v σ'.h σ'.nx | _, _ => False) → s'.dfs = [] ∧ ∃ v, resVal s'.env af.res = some v ∧ ∃ sv sh, v = γ sv ∧ HR sh s'.h ∧ Q sv sh s'.nx := by
      intro k
      split at k
      · rename_i v h1 h2
        refine ⟨by rw [G'.dfs, h1]; rfl, _, sRes_spec G'.env h2, v, σ'.h, rfl, G'.heap, by rw [G'.nx]; exact k⟩
      · exact k.elim
    cases e <;> simp only [sOutD] at k <;> first
      | exact ⟨by simp, fin k⟩
      | exact k.elim
  · exact hc.elim

theorem SCVn_ok (hrom : RomFree (γr r)) (hcfg : CfgOk P r cfg) (hm : P.follows .mixedOrders = true) : ∀ n, SCVOk P r (SCVn cfg r n)
  | 0 => fun _ _ _ _ _ h => h.elim
  | n + 1 => by
    have ih := SCVn_ok hrom hcfg hm n
    intro fv args h nx K hc a H
    unfold SCVn at hc
    split at hc
    · rename_i f first caps
      have hg : γs first ++ γs args ++ γs caps = γs (first ++ args ++ caps) := by simp only [γs_append]
      simp only [γ, CallV, hg]
      split at hc
      · rename_i sp hsp
        exact hcfg.sp f sp hsp _ _ _ _ hc a H
      · split at hc
        · rename_i af haf
          obtain ⟨hl, hc⟩ := bifPF hc
          obtain ⟨hok, fn, c, hf, hb, hr, hcc, hnt⟩ := compFun_spec (hcfg.pg f af haf)
          rw [hnt] at hc hl
          have G : GS ⟨padEnv (first ++ args ++ caps) fn.ntmps, h, nx, []⟩ ⟨initEnv (γs (first ++ args ++ caps)), a, nx, []⟩ := ⟨rfl, pad_rel _ _, H, rfl⟩
          have hl' : (γs (first ++ args ++ caps)).length ≤ fn.ntmps := by rw [γs_map, List.length_map]; exact Nat.le_of_ble_eq_true hl
          refine callT_of_T (cd := fun f args h nx Q => CallDT P (γr r) f args h nx Q) (fun _ _ _ _ _ h => h) hok hf hb hr hl' ((SE_sound hrom ih hm c _ _ _ _ _ hcc G hc).mono ?_)
          rintro e s' ⟨σ', G', k⟩
          have fin : (match sRes σ'.env af.res with | some v => sLeave (SCDn cfg r (SCVn cfg r n)) (K v) σ'.dfs σ'.h σ'.nx | none => False) →
              (match resVal s'.env af.res with | some v => Leave (fun f args h nx Q => CallDT P (γr r) f args h nx Q) (fun h' nx' => ∃ sv sh, v = γ sv ∧ HR sh h' ∧ K sv sh nx') s'.dfs s'.h s'.nx | none => False) := by
            intro k
            split at k
            · rename_i v hv
              rw [sRes_spec G'.env hv]
              have := sLeave_sound (cd := fun f args h nx Q => CallDT P (γr r) f args h nx Q) (SCDn_ok hrom hcfg.pg hm ih) (fun _ _ _ _ _ _ hq h => h.mono hq) σ'.dfs σ'.h σ'.nx s'.h G'.heap k
              rw [G'.dfs, G'.nx]
              refine Leave_mono (fun _ _ _ _ _ _ hq h => h.mono hq) ?_ _ _ _ this
              rintro h' nx' ⟨sh, H', k'⟩
              exact ⟨v, sh, rfl, H', k'⟩
            · exact k.elim
          cases e <;> simp only [sOutK] at k <;> simp only [outK] <;> first
            | exact fin k
            | exact k.elim
        · exact hc.elim
    · rename_i i
      split at hc
      · rename_i st pend env nt ps asg body d hi
        obtain ⟨h1, hc⟩ := bifPF hc
        simp only [Bool.and_eq_true] at h1
        obtain ⟨ao, q1, aenv, rfl, q2⟩ := H i _ hi
        simp only [γ, CallV]
        refine yldT_of_T q1 (by rw [γs_map, List.length_map]; exact Nat.eq_of_beq_eq_true h1.1) ?_ fun ra rb ca cb => ?_
        · rw [List.all_eq_true] at h1 ⊢
          intro p hp
          exact decide_eq_true (Nat.le_of_ble_eq_true (h1.2 p hp))
        · have G : GS ⟨sPutMany env ps args, h, nx, []⟩ ⟨putMany aenv ps (γs args), a, nx, []⟩ := ⟨rfl, sPutMany_rel q2, H, rfl⟩
          refine (SE_sound hrom ih hm ra _ _ _ _ _ ca G hc).mono ?_
          rintro e s' ⟨σ', G', k⟩
          unfold sRoundMid at k
          unfold roundMid
          split at k
          · rename_i pend1 env1 nt1 ps1 a1 b1 d1 hi1
            obtain ⟨ao, r1, aenv1, rfl, r2⟩ := G'.heap i _ hi1
            rw [r1]
            rw [hsetK_eq] at k
            have G2 : GS ⟨σ'.env, hset σ'.h i (.loop .busy pend1 env1 nt1 ps1 a1 b1 d1), σ'.nx, σ'.dfs⟩ ⟨s'.env, upd s'.h i (some (.loop .busy pend1 aenv1 nt1 ps1 a1 b1 d1)), s'.nx, s'.dfs⟩ :=
              ⟨G'.nx, G'.env, G'.heap.set ⟨_, rfl, r2⟩, G'.dfs⟩
            refine (SE_sound hrom ih hm rb _ _ _ _ _ cb G2 k).mono ?_
            rintro e2 s2 ⟨σ2, G3, k2⟩
            unfold sRoundEnd at k2
            unfold roundEnd
            split at k2
            · rename_i j st2 pend2 env2 nt2 ps2 a2 b2 d2 hj hi2
              obtain ⟨ao, t1, aenv2, rfl, t2⟩ := G3.heap i _ hi2
              rw [t1, hj]
              rw [hsetK_eq] at k2
              exact ⟨_, _, rfl, G3.heap.set (o := .loop (if j.isNone then .ready else .done) j env2 nt2 ps2 a2 b2 d2) ⟨_, rfl, t2⟩, by rw [G3.nx]; exact k2⟩
            · exact k2.elim
          · exact k.elim
      · exact hc.elim
    · exact hc.elim

/-- A function's contract by evaluation on told states. -/
theorem callT_of_SE (hrom : RomFree (γr r)) (hcfg : CfgOk P r cfg) (hm : P.follows .mixedOrders = true) (n : Nat) {f : FuncId} {af : AFun} (haf : compFun P f = some af) {args : List SV} {h : SHeap} {nx : Nat} {K : SK} (hl : Nat.ble args.length af.nt = true)
    (hE : SE cfg r (SCVn cfg r n) f none af.nt af.body 0 ⟨padEnv args af.nt, h, nx, []⟩ (sOutK (SCDn cfg r (SCVn cfg r n)) af.res K)) {a : Heap} (H : HR h a) :
    CallT P (γr r) f (γs args) a nx fun v h' nx' => ∃ sv sh, v = γ sv ∧ HR sh h' ∧ K sv sh nx' := by
  have ih := SCVn_ok hrom hcfg hm n
  obtain ⟨hok, fn, c, hf, hb, hr, hcc, hnt⟩ := compFun_spec haf
  rw [hnt] at hE hl
  have G : GS ⟨padEnv args fn.ntmps, h, nx, []⟩ ⟨initEnv (γs args), a, nx, []⟩ := ⟨rfl, pad_rel _ _, H, rfl⟩
  have hl' : (γs args).length ≤ fn.ntmps := by rw [γs_map, List.length_map]; exact Nat.le_of_ble_eq_true hl
  refine callT_of_T (cd := fun f args h nx Q => CallDT P (γr r) f args h nx Q) (fun _ _ _ _ _ h => h) hok hf hb hr hl' ((SE_sound hrom ih hm c _ _ _ _ _ hcc G hE).mono ?_)
  rintro e s' ⟨σ', G', k⟩
  have fin : (match sRes σ'.env af.res with | some v => sLeave (SCDn cfg r (SCVn cfg r n)) (K v) σ'.dfs σ'.h σ'.nx | none => False) →
      (match resVal s'.env af.res with | some v => Leave (fun f args h nx Q => CallDT P (γr r) f args h nx Q) (fun h' nx' => ∃ sv sh, v = γ sv ∧ HR sh h' ∧ K sv sh nx') s'.dfs s'.h s'.nx | none => False) := by
    intro k
    split at k
    · rename_i v hv
      rw [sRes_spec G'.env hv]
      have := sLeave_sound (cd := fun f args h nx Q => CallDT P (γr r) f args h nx Q) (SCDn_ok hrom hcfg.pg hm ih) (fun _ _ _ _ _ _ hq h => h.mono hq) σ'.dfs σ'.h σ'.nx s'.h G'.heap k
      rw [G'.dfs, G'.nx]
      refine Leave_mono (fun _ _ _ _ _ _ hq h => h.mono hq) ?_ _ _ _ this
      rintro h' nx' ⟨sh, H', k'⟩
      exact ⟨v, sh, rfl, H', k'⟩
    · exact k.elim
  cases e <;> simp only [sOutK] at k <;> simp only [outK] <;> first
    | exact fin k
    | exact k.elim

end Go.SL

/- Helper text: contracts, told under their own names, and their use. -/
namespace Go.SL
open Go.AL

variable {P : Program}

/-- One way that a call may end. -/
structure Alt (G : Type) where
  G2 : Type
  cond : G → G2 → Prop
  res : G → G2 → SV
  heap : G → G2 → SHeap
  nx : Nat
/-- A contract: what is handed, what lies in memory (its own; what is only read), and how it ends. -/
structure Con where
  G : Type
  rom : G → List (List SV × TypeId)
  args : G → List SV
  heap : G → SHeap
  nx : Nat
  side : G → Prop
  alts : List (Alt G)

def romL : List (List SV × TypeId) → SRom
  | [], _ => none
  | p :: _, 0 => some p
  | _ :: l, n + 1 => romL l n

/-- Which name is only read under which. -/
abbrev Tau := List (Nat × Option Bid)
def tauOf : Tau → Nat → Bid
  | [], i => .arg i
  | p :: l, i => bif Nat.beq p.1 i then (match p.2 with | some b => b | none => .arg 0) else tauOf l i
def bindA : List SV → List SV → Tau
  | .sl (.arg i) _ _ _ _ :: xs, y :: ys => (match y with
    | .sl b _ _ _ _ => (i, some b) :: bindA xs ys
    | _ => (i, none) :: bindA xs ys)
  | _ :: xs, _ :: ys => bindA xs ys
  | _, _ => []
def tauVoid : Tau → Nat → Bool
  | [], _ => true
  | p :: l, i => bif Nat.beq p.1 i then p.2.isNone else tauVoid l i

def altHolds {G : Type} (n0 : Nat) (g : G) (v : SV) (h : SHeap) (nx : Nat) : List (Alt G) → Prop
  | [] => False
  | [a] => ∃ g2, a.cond g g2 ∧ Mt n0 ⟨[some (a.res g g2)], a.heap g g2, a.nx, []⟩ ⟨[some v], h, nx, []⟩
  | a :: as => (∃ g2, a.cond g g2 ∧ Mt n0 ⟨[some (a.res g g2)], a.heap g g2, a.nx, []⟩ ⟨[some v], h, nx, []⟩) ∨ altHolds n0 g v h nx as
def AltSem {G : Type} (g : G) (alts : List (Alt G)) (v : AVal) (h : Heap) (nx : Nat) : Prop :=
  ∃ a, a ∈ alts ∧ ∃ g2, a.cond g g2 ∧ v = γ (a.res g g2) ∧ HR (a.heap g g2) h ∧ nx = a.nx
theorem altHolds_mem {G : Type} {n0 : Nat} {g : G} {v : SV} {h : SHeap} {nx : Nat} : ∀ {alts : List (Alt G)}, altHolds n0 g v h nx alts → ∃ a, a ∈ alts ∧ ∃ g2, a.cond g g2 ∧ Mt n0 ⟨[some (a.res g g2)], a.heap g g2, a.nx, []⟩ ⟨[some v], h, nx, []⟩
  | [], h => h.elim
  | [a], ⟨g2, h1, h2⟩ => ⟨a, List.mem_singleton_self a, g2, h1, h2⟩
  | a :: b :: as, h => by
    rcases h with ⟨g2, h1, h2⟩ | h
    · exact ⟨a, List.mem_cons_self, g2, h1, h2⟩
    · obtain ⟨a', h1, h2⟩ := altHolds_mem (alts := b :: as) h
      exact ⟨a', List.mem_cons_of_mem _ h1, h2⟩

/-- What a contract says, of the machine. -/
def ConOk (P : Program) (f : FuncId) (C : Con) : Prop :=
  ∀ g, C.side g → ∀ a, HR (C.heap g) a → CallT P (γr (romL (C.rom g))) f (γs (C.args g)) a C.nx (AltSem g C.alts)

/-- What is only read tells no names. -/
def romFree : List (List SV × TypeId) → Prop
  | [] => True
  | p :: l => mC 0 0 .arg p.1 p.1 [] (fun _ => True) ∧ romFree l
theorem romFree_mem : ∀ {l : List (List SV × TypeId)} {i : Nat} {p : List SV × TypeId}, romFree l → romL l i = some p → mC 0 0 .arg p.1 p.1 [] (fun _ => True)
  | [], _, _, _, h => by simp [romL] at h
  | q :: l, 0, p, hf, h => by simp only [romL, Option.some.injEq] at h; subst h; exact hf.1
  | q :: l, i + 1, p, hf, h => romFree_mem hf.2 h
theorem romFree_ok {l : List (List SV × TypeId)} (h : romFree l) : RomFree (γr (romL l)) := by
  intro i cs e hi
  simp only [γr, Option.map_eq_some_iff] at hi
  obtain ⟨p, hp, he⟩ := hi
  simp only [Prod.mk.injEq] at he
  obtain ⟨rfl, rfl⟩ := he
  obtain ⟨B, _, _, hB, hv⟩ := mC_spec (Nat.le_refl 0) _ _ _ _ (BOk.nil 0 0) (romFree_mem h hp)
  have hv : VEs 0 (ρB 0 .arg B) (flat p.1) (flat p.1) := hv
  refine VEs.mono (ρ := ρB 0 .arg B) (ρ' := Rho.free) ?_ rfl _ _ hv
  intro i j hij
  have hij : (blook B i).join = some j := by simpa [ρB] using hij
  cases hb : blook B i with
  | none => rw [hb] at hij; cases hij
  | some r => exact absurd (hB.rng i r hb).2 (Nat.not_lt_zero _)

/-- A contract by evaluation. -/
theorem conOk_of_SE {f : FuncId} {af : AFun} {C : Con} (cfg : C.G → Cfg) (hcfg : ∀ g, CfgOk P (romL (C.rom g)) (cfg g)) (hm : P.follows .mixedOrders = true) (n : Nat) (haf : compFun P f = some af)
    (hrom : ∀ g, C.side g → romFree (C.rom g)) (hl : ∀ g, Nat.ble (C.args g).length af.nt = true)
    (hE : ∀ g, C.side g → SE (cfg g) (romL (C.rom g)) (SCVn (cfg g) (romL (C.rom g)) n) f none af.nt af.body 0 ⟨padEnv (C.args g) af.nt, C.heap g, C.nx, []⟩
      (sOutK (SCDn (cfg g) (romL (C.rom g)) (SCVn (cfg g) (romL (C.rom g)) n)) af.res fun v h nx => altHolds C.nx g v h nx C.alts)) : ConOk P f C := by
  intro g hg a H
  have hr := romFree_ok (hrom g hg)
  refine CallT.emb hr ((callT_of_SE hr (hcfg g) hm n haf (hl g) (hE g hg) H).mono ?_)
  rintro _ h' nx' ⟨sv, sh, rfl, H', hk⟩
  obtain ⟨al, h1, g2, h2, h3⟩ := altHolds_mem hk
  have G : GS ⟨[some sv], sh, nx', []⟩ ⟨fun t => if t = 0 then some (γ sv) else none, h', nx', []⟩ := by
    refine ⟨rfl, fun t v hv => ?_, H', rfl⟩
    cases t with
    | zero =>
      have hv : some sv = some v := hv
      injection hv with hv; subst hv; rfl
    | succ t => cases hv
  obtain ⟨s0, ρ, k1, k2⟩ := Mt_spec h3 G
  have h0 := k1.env 0 (al.res g g2) rfl
  obtain ⟨v', q1, q2⟩ := k2.env 0 _ h0
  have q1 : some (γ sv) = some v' := q1
  injection q1 with q1; subst q1
  exact ⟨ρ, γ (al.res g g2), s0.h, s0.nx, k2.heap, q2, al, h1, g2, h2, rfl, k1.heap, k1.nx⟩

/-! ### Use -/
def oneL : List SV → Bool
  | [] => true
  | v :: vs => bif v.one then oneL vs else false
theorem oneL_flat : ∀ {l : List SV}, oneL l = true → flat l = γs l
  | [], _ => rfl
  | v :: vs, h => by
    simp only [oneL] at h
    cases hv : v.one with
    | false => rw [hv] at h; cases h
    | true => rw [hv] at h; rw [flat_one (one_γ hv).2, cellV_γ hv, oneL_flat h]; rfl
mutual
/-- Called otherwise. -/
def renV (bk : Nat → Nat) (τ : Nat → Bid) : SV → Option SV
  | .bool b => some (.bool b)
  | .int k n => some (.int k n)
  | .str s => some (.str s)
  | .nilp => some .nilp
  | .nils => some .nils
  | .nilm => some .nilm
  | .nilf => some .nilf
  | .nili => some .nili
  | .ptr b o => some (.ptr (match b with | .own i => .own (bk i) | .arg i => τ i) o)
  | .sl (.own i) lo z len cap => some (.sl (.own (bk i)) lo z len cap)
  | .sl (.arg i) lo z len cap => match τ i with
    | .arg j => some (.sl (.arg j) lo z len cap)
    | _ => none
  | .map b => some (.map (match b with | .own i => .own (bk i) | .arg i => τ i))
  | .func f a b => match renVs bk τ a, renVs bk τ b with
    | some a', some b' => some (.func f a' b')
    | _, _ => none
  | .iface t v => match renV bk τ v with
    | some v' => some (.iface t v')
    | none => none
  | .agg cs => match renVs bk τ cs with
    | some cs' => bif oneL cs then some (.agg cs') else none
    | none => none
  | .tup vs => match renVs bk τ vs with
    | some vs' => some (.tup vs')
    | none => none
  | _ => none
def renVs (bk : Nat → Nat) (τ : Nat → Bid) : List SV → Option (List SV)
  | [] => some []
  | v :: vs => match renV bk τ v, renVs bk τ vs with
    | some x, some xs => some (x :: xs)
    | _, _ => none
end
/-- Without names. -/
def SV.nf : SV → Bool
  | .bool _ | .int _ _ | .str _ | .nilp | .nils | .nilm | .nilf | .nili => true
  | _ => false
def nfL : List SV → Bool
  | [] => true
  | v :: vs => bif v.nf then nfL vs else false
/-- Cells, called otherwise: arrays tell no names. -/
def renC (bk : Nat → Nat) (τ : Nat → Bid) : List SV → (List SV → Prop) → Prop
  | [], K => K []
  | v :: vs, K => match v with
    | .arr n z f => (∀ j : Int, nfL (f j) = true) ∧ renC bk τ vs fun l => K (.arr n z f :: l)
    | v => match renV bk τ v with
      | some x => bif v.one && x.one then renC bk τ vs fun l => K (x :: l) else False
      | none => False
def renH (bk : Nat → Nat) (τ : Nat → Bid) : SHeap → (SHeap → Prop) → Prop
  | [], K => K []
  | (i, .cells cs t) :: r, K => renC bk τ cs fun cs' => renH bk τ r fun r' => K ((bk i, .cells cs' t) :: r')
  | _ :: _, _ => False

theorem γ_ptr_ren {bk : Nat → Nat} {τ : Nat → Bid} (b : Bid) : WB bk τ b (match b with | .own i => .own (bk i) | .arg i => τ i) := by
  cases b <;> rfl
mutual
theorem renV_spec {bk : Nat → Nat} {τ : Nat → Bid} : ∀ (v x : SV), renV bk τ v = some x → WE bk τ (γ v) (γ x) ∧ v.one = x.one
  | .bool b, x, h => by simp only [renV, Option.some.injEq] at h; subst h; exact ⟨by simp [γ, WE], rfl⟩
  | .int k n, x, h => by simp only [renV, Option.some.injEq] at h; subst h; exact ⟨by simp [γ, WE], rfl⟩
  | .str s, x, h => by simp only [renV, Option.some.injEq] at h; subst h; exact ⟨by simp [γ, WE], rfl⟩
  | .nilp, x, h => by simp only [renV, Option.some.injEq] at h; subst h; exact ⟨by simp [γ, WE], rfl⟩
  | .nils, x, h => by simp only [renV, Option.some.injEq] at h; subst h; exact ⟨by simp [γ, WE], rfl⟩
  | .nilm, x, h => by simp only [renV, Option.some.injEq] at h; subst h; exact ⟨by simp [γ, WE], rfl⟩
  | .nilf, x, h => by simp only [renV, Option.some.injEq] at h; subst h; exact ⟨by simp [γ, WE], rfl⟩
  | .nili, x, h => by simp only [renV, Option.some.injEq] at h; subst h; exact ⟨by simp [γ, WE], rfl⟩
  | .ptr b o, x, h => by
    simp only [renV, Option.some.injEq] at h; subst h
    exact ⟨by simp only [γ, WE]; exact ⟨_, rfl, γ_ptr_ren b⟩, rfl⟩
  | .sl (.own i) lo z len cap, x, h => by
    simp only [renV, Option.some.injEq] at h; subst h
    exact ⟨by simp only [γ, WE]; exact ⟨_, rfl, rfl, fun k hk => by cases hk⟩, rfl⟩
  | .sl (.arg i) lo z len cap, x, h => by
    simp only [renV] at h
    split at h
    · rename_i j hj
      injection h with h; subst h
      exact ⟨by simp only [γ, WE]; exact ⟨_, rfl, hj.symm, fun k _ => ⟨j, rfl⟩⟩, rfl⟩
    · cases h
  | .map b, x, h => by
    simp only [renV, Option.some.injEq] at h; subst h
    exact ⟨by simp only [γ, WE]; exact ⟨_, rfl, γ_ptr_ren b⟩, rfl⟩
  | .func f a b, x, h => by
    simp only [renV] at h
    split at h
    · rename_i a' b' h1 h2
      injection h with h; subst h
      exact ⟨by simp only [γ, WE]; exact ⟨_, _, rfl, (renVs_spec _ _ h1).1, (renVs_spec _ _ h2).1⟩, rfl⟩
    · cases h
  | .iface t v, x, h => by
    simp only [renV] at h
    split at h
    · rename_i v' h1
      injection h with h; subst h
      exact ⟨by simp only [γ, WE]; exact ⟨_, rfl, (renV_spec _ _ h1).1⟩, rfl⟩
    · cases h
  | .agg cs, x, h => by
    simp only [renV] at h
    split at h
    · rename_i cs' h1
      cases ho : oneL cs with
      | false => rw [ho] at h; cases h
      | true =>
        rw [ho] at h
        simp only [cond_true, Option.some.injEq] at h
        subst h
        obtain ⟨q1, q2⟩ := renVs_spec _ _ h1
        exact ⟨by simp only [γ, WE]; exact ⟨_, rfl, by rw [oneL_flat ho, oneL_flat (q2 ▸ ho)]; exact q1⟩, rfl⟩
    · cases h
  | .tup vs, x, h => by
    simp only [renV] at h
    split at h
    · rename_i vs' h1
      injection h with h; subst h
      exact ⟨by simp only [γ, WE]; exact ⟨_, rfl, (renVs_spec _ _ h1).1⟩, rfl⟩
    · cases h
  | .any, _, h | .eptr _ _ _ _ _ _, _, h | .yld _, _, h | .arr _ _ _, _, h | .aset _ _ _, _, h | .alit _ _, _, h | .asub _ _ _, _, h | .acat _ _, _, h => by simp [renV] at h
theorem renVs_spec {bk : Nat → Nat} {τ : Nat → Bid} : ∀ (vs xs : List SV), renVs bk τ vs = some xs → WEs bk τ (γs vs) (γs xs) ∧ oneL vs = oneL xs
  | [], xs, h => by simp only [renVs, Option.some.injEq] at h; subst h; exact ⟨by simp [γs, WEs], rfl⟩
  | v :: vs, xs, h => by
    simp only [renVs] at h
    split at h
    · rename_i x xs' h1 h2
      injection h with h; subst h
      obtain ⟨q1, q2⟩ := renV_spec _ _ h1
      obtain ⟨q3, q4⟩ := renVs_spec _ _ h2
      exact ⟨by simp only [γs, WEs]; exact ⟨_, _, rfl, q1, q3⟩, by simp only [oneL, q2, q4]⟩
    · cases h
end
theorem nf_WE {bk : Nat → Nat} {τ : Nat → Bid} {v : SV} (h : v.nf = true) : WE bk τ (γ v) (γ v) ∧ v.one = true := by
  cases v <;> simp_all [SV.nf, γ, WE, SV.one]
theorem nfL_WEs {bk : Nat → Nat} {τ : Nat → Bid} : ∀ {l : List SV}, nfL l = true → WEs bk τ (flat l) (flat l)
  | [], _ => by simp [flat, WEs]
  | v :: vs, h => by
    simp only [nfL] at h
    cases hv : v.nf with
    | false => rw [hv] at h; cases h
    | true =>
      rw [hv] at h
      obtain ⟨q1, q2⟩ := nf_WE (bk := bk) (τ := τ) hv
      rw [flat_one (one_γ q2).2, cellV_γ q2]
      simp only [WEs]
      exact ⟨_, _, rfl, q1, nfL_WEs h⟩
theorem WEs_append {σ : Nat → Nat} {τ : Nat → Bid} {as bs cs ds : List AVal} (h1 : WEs σ τ as bs) (h2 : WEs σ τ cs ds) : WEs σ τ (as ++ cs) (bs ++ ds) := by
  induction as generalizing bs with
  | nil => simp only [WEs] at h1; subst h1; exact h2
  | cons a as ih =>
    simp only [WEs] at h1
    obtain ⟨d, ds', rfl, k1, k2⟩ := h1
    simp only [List.cons_append, WEs]
    exact ⟨d, _, rfl, k1, ih k2⟩
theorem WEs_take {σ : Nat → Nat} {τ : Nat → Bid} {as bs : List AVal} (h1 : WEs σ τ as bs) (k : Nat) : WEs σ τ (as.take k) (bs.take k) := by
  induction as generalizing bs k with
  | nil => simp only [WEs] at h1; subst h1; simp [WEs]
  | cons a as ih =>
    simp only [WEs] at h1
    obtain ⟨d, ds', rfl, k1, k2⟩ := h1
    cases k with
    | zero => simp [WEs]
    | succ k => simp only [List.take_succ_cons, WEs]; exact ⟨d, _, rfl, k1, ih k2 k⟩
theorem WEs_fix {σ : Nat → Nat} {τ : Nat → Bid} {as bs : List AVal} (h1 : WEs σ τ as bs) (z : Nat) : WEs σ τ (fix z as) (fix z bs) := by
  have rep : ∀ k, WEs σ τ (List.replicate k (AVal.bool false)) (List.replicate k (AVal.bool false)) := by
    intro k
    induction k with
    | zero => simp [WEs]
    | succ k ih => simp only [List.replicate_succ, WEs]; exact ⟨_, _, rfl, by simp [WE], ih⟩
  exact WEs_take (WEs_append h1 (rep z)) z
theorem rows_WEs {bk : Nat → Nat} {τ : Nat → Bid} {n : SI} {z : Nat} {f : Int → List SV} (h : ∀ j : Int, nfL (f j) = true) : WEs bk τ (rows (.arr n z f)) (rows (.arr n z f)) := by
  simp only [rows]
  generalize (SV.arr n z f).cnt.v.toNat = m
  induction m with
  | zero => simp [WEs]
  | succ m ih =>
    rw [List.range_succ, List.flatMap_append]
    refine WEs_append ih ?_
    simp only [List.flatMap_cons, List.flatMap_nil, List.append_nil]
    refine WEs_fix ?_ _
    simp only [elem]
    exact nfL_WEs (h m)
theorem renC_spec {bk : Nat → Nat} {τ : Nat → Bid} : ∀ {cs : List SV} {K : List SV → Prop}, renC bk τ cs K → ∃ cs', K cs' ∧ WEs bk τ (flat cs) (flat cs')
  | [], K, h => ⟨[], h, by simp [flat, WEs]⟩
  | v :: vs, K, h => by
    simp only [renC] at h
    split at h
    · rename_i n z f
      obtain ⟨cs', h1, h2⟩ := renC_spec h.2
      refine ⟨_, h1, ?_⟩
      rw [flat_arr (show (SV.arr n z f).isArr = true from rfl), flat_arr (show (SV.arr n z f).isArr = true from rfl)]
      exact WEs_append (rows_WEs h.1) h2
    · split at h
      · rename_i x hx
        obtain ⟨h0, h⟩ := bifPF h
        simp only [Bool.and_eq_true] at h0
        obtain ⟨cs', h1, h2⟩ := renC_spec h
        refine ⟨_, h1, ?_⟩
        rw [flat_one (one_γ h0.1).2, flat_one (one_γ h0.2).2, cellV_γ h0.1, cellV_γ h0.2]
        simp only [WEs]
        exact ⟨_, _, rfl, (renV_spec _ _ hx).1, h2⟩
      · exact h.elim
theorem renH_spec {bk : Nat → Nat} {τ : Nat → Bid} (hinj : ∀ i i', bk i = bk i' → i = i') : ∀ {h : SHeap} {K : SHeap → Prop}, renH bk τ h K → ∃ h', K h' ∧
    ∀ j o', hget h' j = some o' → ∃ i o, bk i = j ∧ hget h i = some o ∧ ∀ ao, OR o ao → ∃ ao', OR o' ao' ∧ WO bk τ ao ao'
  | [], K, h => ⟨[], h, fun j o' ho => by simp [hget] at ho⟩
  | (i, .cells cs t) :: r, K, h => by
    simp only [renH] at h
    obtain ⟨cs', h1, h2⟩ := renC_spec h
    obtain ⟨r', h3, h4⟩ := renH_spec hinj h1
    refine ⟨_, h3, fun j o' ho => ?_⟩
    simp only [hget] at ho
    cases hb : Nat.beq (bk i) j with
    | true =>
      rw [hb] at ho
      have ho := Option.some.inj ho
      subst ho
      refine ⟨i, .cells cs t, Nat.eq_of_beq_eq_true hb, by simp [hget], fun ao hao => ?_⟩
      simp only [OR] at hao; subst hao
      exact ⟨.cells (flat cs') t, rfl, _, rfl, h2⟩
    | false =>
      rw [hb] at ho
      obtain ⟨i', o, q1, q2, q3⟩ := h4 j o' ho
      refine ⟨i', o, q1, ?_, q3⟩
      have hne : Nat.beq i i' = false := by
        cases hb' : Nat.beq i i' with
        | false => rfl
        | true => rw [Nat.eq_of_beq_eq_true hb', q1, Nat.beq_refl] at hb; cases hb
      simp only [hget, hne]; exact q2
  | (i, .loop _ _ _ _ _ _ _ _) :: r, K, h => by simp [renH] at h
  | (i, .defs) :: r, K, h => by simp [renH] at h

/-- The caller's own, but what the call had. -/
def frameH (B : Bnd) (nx : Nat) : SHeap → SHeap
  | [] => []
  | p :: r => bif btaken B p.1 || !Nat.blt p.1 nx then frameH B nx r else p :: frameH B nx r
theorem frameH_get {B : Bnd} {nx : Nat} : ∀ {h : SHeap} {j : Nat} {o : SO}, hget (frameH B nx h) j = some o → hget h j = some o ∧ btaken B j = false ∧ j < nx
  | [], j, o, h => by simp [frameH, hget] at h
  | p :: r, j, o, h => by
    simp only [frameH] at h
    cases hc : btaken B p.1 || !Nat.blt p.1 nx with
    | true =>
      rw [hc] at h
      obtain ⟨h1, h2, h3⟩ := frameH_get (h := r) h
      refine ⟨?_, h2, h3⟩
      have hne : Nat.beq p.1 j = false := by
        cases hb : Nat.beq p.1 j with
        | false => rfl
        | true =>
          rw [Nat.eq_of_beq_eq_true hb, h2] at hc
          rw [show Nat.blt j nx = true from Nat.ble_eq_true_of_le h3] at hc
          cases hc
      simp only [hget, hne]; exact h1
    | false =>
      rw [hc] at h
      simp only [cond_false, hget] at h
      cases hb : Nat.beq p.1 j with
      | true =>
        rw [hb] at h
        simp only [Bool.or_eq_false_iff, Bool.not_eq_false'] at hc
        have hj := Nat.eq_of_beq_eq_true hb
        rw [hj] at hc
        exact ⟨by simp only [hget, hb]; exact h, hc.1, Nat.le_of_ble_eq_true hc.2⟩
      | false =>
        rw [hb] at h
        obtain ⟨h1, h2⟩ := frameH_get (h := r) h
        exact ⟨by simp only [hget, hb]; exact h1, h2⟩
theorem hget_append : ∀ (a b : SHeap) (j : Nat), hget (a ++ b) j = match hget a j with | some o => some o | none => hget b j
  | [], b, j => rfl
  | p :: r, b, j => by
    simp only [List.cons_append, hget]
    cases Nat.beq p.1 j with
    | true => rfl
    | false => exact hget_append r b j

/-- How names are called behind a call. -/
def bkOf (B : Bnd) (nx nx0 i : Nat) : Nat :=
  match blook B i with
  | some (some j) => j
  | _ => nx + i
/-- What was handed to be read lies there. -/
def romUse (r : SRom) (h : SHeap) (nx0 nx : Nat) (tl : Tau) : Nat → List (List SV × TypeId) → Bnd → (Bnd → Prop) → Prop
  | _, [], B, K => K B
  | i, p :: l, B, K => bif tauVoid tl i then
      (match p.1 with
       | [a] => bif a.isArr then eqI a.cnt (.lit 0) (romUse r h nx0 nx tl (i + 1) l B K) else False
       | _ => False)
      else match tauOf tl i with
      | .own j => (match hget h j with
        | some (.cells cs _) => mC 0 nx0 (tauOf tl) p.1 cs B fun B' => romUse r h nx0 nx tl (i + 1) l B' K
        | _ => False)
      | .arg j => match r j with
        | some q => mC 0 nx0 (tauOf tl) p.1 q.1 B fun B' => romUse r h nx0 nx tl (i + 1) l B' K
        | none => False
def ltO (nx : Nat) : Option Nat → Bool
  | some j => Nat.blt j nx
  | none => true
/-- All that is named has an object, and is a name of the caller's. -/
def domOk (h0 : SHeap) (nx : Nat) : Bnd → Bool
  | [] => true
  | (i, r) :: B => bif (hget h0 i).isSome && ltO nx r then domOk h0 nx B else false
def romApart (B : Bnd) : Tau → Bool
  | [] => true
  | (_, some (.own j)) :: l => bif btaken B j then false else romApart B l
  | _ :: l => romApart B l
def tauOk (nx : Nat) : Tau → Bool
  | [] => true
  | (_, some (.own j)) :: l => bif Nat.blt j nx then tauOk nx l else false
  | _ :: l => tauOk nx l
def altsUse {G : Type} (g : G) (bk : Nat → Nat) (τ : Nat → Bid) (fr : SHeap) (nx : Nat) (Q : SK) : List (Alt G) → Prop
  | [] => True
  | [a] => ∀ g2, a.cond g g2 → match renV bk τ (a.res g g2) with
    | some v => renH bk τ (a.heap g g2) fun h' => Q v (h' ++ fr) (nx + a.nx)
    | none => False
  | a :: as => (∀ g2, a.cond g g2 → match renV bk τ (a.res g g2) with
    | some v => renH bk τ (a.heap g g2) fun h' => Q v (h' ++ fr) (nx + a.nx)
    | none => False) ∧ altsUse g bk τ fr nx Q as
/-- A contract's use at a call. -/
def spOf (C : Con) (r : SRom) (args : List SV) (h : SHeap) (nx : Nat) (Q : SK) : Prop :=
  ∃ g, (fun tl : Tau => bif tauOk nx tl then mVs 0 C.nx (tauOf tl) (C.args g) args [] fun B => mH 0 C.nx (tauOf tl) h ((C.heap g).length + 1) (C.heap g) B fun B =>
    romUse r h C.nx nx tl 0 (C.rom g) B fun B => bif domOk (C.heap g) nx B && romApart B tl then C.side g ∧ altsUse g (bkOf B nx C.nx) (tauOf tl) (frameH B nx h) nx Q C.alts else False else False) (bindA (C.args g) args)

theorem romUse_spec {r : SRom} {h : SHeap} {nx0 nx : Nat} {tl : Tau} : ∀ {l : List (List SV × TypeId)} {i : Nat} {B : Bnd} {K : Bnd → Prop}, BOk 0 nx0 B → romUse r h nx0 nx tl i l B K →
    ∃ B', K B' ∧ BExt B B' ∧ BOk 0 nx0 B' ∧ ∀ k p, romL l k = some p → flat p.1 = [] ∨ (∃ j cs t, tauOf tl (i + k) = .own j ∧ hget h j = some (.cells cs t) ∧ VEs nx0 (ρB 0 (tauOf tl) B') (flat p.1) (flat cs) ∧ tauVoid tl (i + k) = false) ∨
      ∃ j q, tauOf tl (i + k) = .arg j ∧ r j = some q ∧ VEs nx0 (ρB 0 (tauOf tl) B') (flat p.1) (flat q.1)
  | [], i, B, K, hB, h => ⟨B, h, BExt.refl B, hB, fun k p hp => by simp [romL] at hp⟩
  | q0 :: l, i, B, K, hB, hu => by
    simp only [romUse] at hu
    have shift : ∀ {R : Nat → List SV × TypeId → Prop}, R 0 q0 → (∀ k p, romL l k = some p → R (k + 1) p) → ∀ k p, romL (q0 :: l) k = some p → R k p := by
      intro R h0 h1 k p hp
      cases k with
      | zero => simp only [romL, Option.some.injEq] at hp; subst hp; exact h0
      | succ k => exact h1 k p hp
    have e1 : ∀ k, i + 1 + k = i + (k + 1) := fun k => by omega
    cases hv : tauVoid tl i with
    | true =>
      rw [hv] at hu
      simp only [cond_true] at hu
      split at hu
      · rename_i x hx
        obtain ⟨h1, h2⟩ := bifPF hu
        obtain ⟨h3, h4⟩ := eqI_spec h2
        obtain ⟨B', k1, k2, k3, k4⟩ := romUse_spec hB h4
        refine ⟨B', k1, k2, k3, shift (.inl ?_) fun k p hp => by have := k4 k p hp; rwa [e1] at this⟩
        rw [hx, flat_arr1 h1]
        exact List.eq_nil_of_length_eq_zero (by rw [rows_length, h3]; simp [SI.v])
      · exact hu.elim
    | false =>
      rw [hv] at hu
      simp only [cond_false] at hu
      split at hu
      · rename_i j hj
        split at hu
        · rename_i cs t hg
          obtain ⟨B1, k1, k2, k3, k4⟩ := mC_spec (Nat.zero_le _) _ _ _ _ hB hu
          obtain ⟨B', q1, q2, q3, q4⟩ := romUse_spec k3 k1
          refine ⟨B', q1, k2.trans q2, q3, shift (.inr (.inl ⟨j, cs, t, hj, hg, VEs.mono (ρB_mono q2) rfl _ _ k4, hv⟩)) fun k p hp => by have := q4 k p hp; rwa [e1] at this⟩
        · exact hu.elim
      · rename_i j hj
        split at hu
        · rename_i q hq
          obtain ⟨B1, k1, k2, k3, k4⟩ := mC_spec (Nat.zero_le _) _ _ _ _ hB hu
          obtain ⟨B', q1, q2, q3, q4⟩ := romUse_spec k3 k1
          refine ⟨B', q1, k2.trans q2, q3, shift (.inr (.inr ⟨j, q, hj, hq, VEs.mono (ρB_mono q2) rfl _ _ k4⟩)) fun k p hp => by have := q4 k p hp; rwa [e1] at this⟩
        · exact hu.elim
theorem domOk_spec {h0 : SHeap} {nx : Nat} : ∀ {B : Bnd}, domOk h0 nx B = true → ∀ i r, blook B i = some r → (hget h0 i).isSome = true ∧ ∀ j, r = some j → j < nx
  | [], _, i, r, h => by cases h
  | (k, q) :: B, hd, i, r, h => by
    simp only [domOk] at hd
    cases hc : (hget h0 k).isSome && ltO nx q with
    | false => rw [hc] at hd; cases hd
    | true =>
      rw [hc] at hd
      simp only [Bool.and_eq_true] at hc
      rw [blook_cons] at h
      split at h
      · rename_i e
        injection h with h
        subst e h
        refine ⟨hc.1, fun j hj => ?_⟩
        subst hj
        exact Nat.le_of_ble_eq_true hc.2
      · exact domOk_spec hd i r h
theorem btaken_mem : ∀ {B : Bnd} {i j : Nat}, blook B i = some (some j) → btaken B j = true := by
  intro B i j h
  cases hb : btaken B j with
  | true => rfl
  | false => exact absurd h (btaken_spec hb i)
theorem romApart_spec {B : Bnd} : ∀ {tl : Tau}, romApart B tl = true → ∀ i j, tauOf tl i = .own j → btaken B j = false
  | [], _, i, j, h => by simp [tauOf] at h
  | (k, some (.own j')) :: l, hr, i, j, h => by
    simp only [romApart] at hr
    cases hb : btaken B j' with
    | true => rw [hb] at hr; cases hr
    | false =>
      rw [hb] at hr
      simp only [tauOf] at h
      cases hk : Nat.beq k i with
      | true =>
        rw [hk] at h
        have h : Bid.own j' = Bid.own j := h
        injection h with h; subst h; exact hb
      | false => rw [hk] at h; exact romApart_spec hr i j h
  | (k, some (.arg j')) :: l, hr, i, j, h => by
    simp only [romApart] at hr
    simp only [tauOf] at h
    cases hk : Nat.beq k i with
    | true => rw [hk] at h; cases h
    | false => rw [hk] at h; exact romApart_spec hr i j h
  | (k, none) :: l, hr, i, j, h => by
    simp only [romApart] at hr
    simp only [tauOf] at h
    cases hk : Nat.beq k i with
    | true => rw [hk] at h; cases h
    | false => rw [hk] at h; exact romApart_spec hr i j h
theorem tauOk_spec {nx : Nat} : ∀ {tl : Tau}, tauOk nx tl = true → ∀ i j, tauOf tl i = .own j → j < nx
  | [], _, i, j, h => by simp [tauOf] at h
  | (k, some (.own j')) :: l, hr, i, j, h => by
    simp only [tauOk] at hr
    cases hb : Nat.blt j' nx with
    | false => rw [hb] at hr; cases hr
    | true =>
      rw [hb] at hr
      simp only [tauOf] at h
      cases hk : Nat.beq k i with
      | true =>
        rw [hk] at h
        have h : Bid.own j' = Bid.own j := h
        injection h with h; subst h; exact Nat.le_of_ble_eq_true hb
      | false => rw [hk] at h; exact tauOk_spec hr i j h
  | (k, some (.arg j')) :: l, hr, i, j, h => by
    simp only [tauOk] at hr
    simp only [tauOf] at h
    cases hk : Nat.beq k i with
    | true => rw [hk] at h; cases h
    | false => rw [hk] at h; exact tauOk_spec hr i j h
  | (k, none) :: l, hr, i, j, h => by
    simp only [tauOk] at hr
    simp only [tauOf] at h
    cases hk : Nat.beq k i with
    | true => rw [hk] at h; cases h
    | false => rw [hk] at h; exact tauOk_spec hr i j h
theorem altsUse_mem {G : Type} {g : G} {bk : Nat → Nat} {τ : Nat → Bid} {fr : SHeap} {nx : Nat} {Q : SK} : ∀ {alts : List (Alt G)}, altsUse g bk τ fr nx Q alts → ∀ a, a ∈ alts → ∀ g2, a.cond g g2 → match renV bk τ (a.res g g2) with
    | some v => renH bk τ (a.heap g g2) fun h' => Q v (h' ++ fr) (nx + a.nx)
    | none => False
  | [], _, a, ha => by cases ha
  | [b], h, a, ha => by
    have := List.mem_singleton.1 ha
    subst this; exact h
  | b :: c :: as, h, a, ha => by
    rcases List.mem_cons.1 ha with rfl | ha
    · exact h.1
    · exact altsUse_mem (alts := c :: as) h.2 a ha

open Classical in
theorem spOf_ok {f : FuncId} {C : Con} (hC : ConOk P f C) (r : SRom) : SpOk P r f (spOf C r) := by
  intro args h nx Q hsp a H
  obtain ⟨g, hsp⟩ := hsp
  obtain ⟨ht, hsp⟩ := bifPF hsp
  revert ht hsp
  generalize bindA (C.args g) args = tl
  intro ht hsp
  obtain ⟨B1, k1, k2, k3, k4⟩ := mVs_spec (Nat.zero_le _) _ _ _ _ (BOk.nil 0 C.nx) hsp
  obtain ⟨B2, q1, q2, q3, q4⟩ := mH_spec (Nat.zero_le _) H _ _ _ _ k3 k1
  obtain ⟨B, r1, r2, r3, r4⟩ := romUse_spec q3 q1
  obtain ⟨hd, hside, huse⟩ := bifPF r1
  simp only [Bool.and_eq_true] at hd
  obtain ⟨hd, hap⟩ := hd
  -- the names
  have hown : ∀ i, (ρB 0 (tauOf tl) B).own i = (blook B i).join := fun i => by simp [ρB]
  have hback : (ρB 0 (tauOf tl) B).back nx C.nx = bkOf B nx C.nx := by
    funext i
    unfold Rho.back bkOf
    rw [hown]
    by_cases hi : i < C.nx
    · rw [if_pos hi]
      cases hb : blook B i with
      | none => rfl
      | some q => cases q <;> rfl
    · rw [if_neg hi]
      cases hb : blook B i with
      | none => rfl
      | some q => exact absurd (r3.rng i q hb).2 hi
  have hsome : ∀ i j, (ρB 0 (tauOf tl) B).own i = some j → blook B i = some (some j) := by
    intro i j hij
    rw [hown] at hij
    cases hb : blook B i with
    | none => rw [hb] at hij; cases hij
    | some q => rw [hb] at hij; have hij : q = some j := hij; rw [hij]
  have binj : ∀ i i', bkOf B nx C.nx i = bkOf B nx C.nx i' → i = i' := by
    intro i i' he
    unfold bkOf at he
    split at he <;> split at he
    · rename_i _ j hj _ j' hj'
      subst he
      exact r3.inj _ _ _ hj hj'
    · rename_i _ j hj _ _
      have := (domOk_spec hd _ _ hj).2 j rfl
      omega
    · rename_i _ _ _ j hj
      have := (domOk_spec hd _ _ hj).2 j rfl
      omega
    · omega
  let h0 : Heap := fun i => (hget (C.heap g) i).map γo
  have H0 : HR (C.heap g) h0 := fun j o ho => ⟨γo o, by simp [h0, ho], γo_rel o⟩
  have E : CEmb (γr (romL (C.rom g))) (γr r) (ρB 0 (tauOf tl) B) h0 C.nx a nx := by
    refine ⟨?_, ?_, ?_, fun i j hi => tauOk_spec ht i j hi, ?_⟩
    · intro i o ho
      simp only [h0, Option.map_eq_some_iff] at ho
      obtain ⟨x, hx, rfl⟩ := ho
      exact q4 (i, x) (hget_mem hx) B r2 (fun k hk => r2 k none hk)
    · intro i j hi hij
      have := (domOk_spec hd _ _ (hsome i j hij)).1
      intro hn
      simp only [h0, Option.map_eq_none_iff] at hn
      rw [hn] at this; cases this
    · intro i i' j _ _ hij hij'
      exact r3.inj _ _ _ (hsome i j hij) (hsome i' j hij')
    · intro i cs e hi
      simp only [γr, Option.map_eq_some_iff] at hi
      obtain ⟨p, hp, he⟩ := hi
      simp only [Prod.mk.injEq] at he
      obtain ⟨rfl, rfl⟩ := he
      have := r4 i p hp
      rw [Nat.zero_add] at this
      rcases this with h1 | ⟨j, cs, t, h1, h2, h3, _⟩ | ⟨j, q, h1, h2, h4⟩
      · exact .inl h1
      · obtain ⟨ao, g1, g2⟩ := H j _ h2
        simp only [OR] at g2; subst g2
        refine .inr (.inl ⟨j, flat cs, t, h1, g1, h3, fun i' hi' hij => ?_⟩)
        have := romApart_spec hap i j h1
        rw [btaken_mem (hsome i' j hij)] at this
        cases this
      · exact .inr (.inr ⟨j, flat q.1, q.2, h1, by simp [γr, h2], h4⟩)
  refine (hC g hside h0 H0).use (ρB 0 (tauOf tl) B) E (VEs.mono (ρB_mono (q2.trans r2)) rfl _ _ k4) ?_
  rintro v0 h0' nx0' hle ⟨al, hal, g2, hc, rfl, Hal, rfl⟩
  have hu := altsUse_mem huse al hal g2 hc
  rw [hback]
  split at hu
  · rename_i x hx
    obtain ⟨hr, hq, hren⟩ := renH_spec binj hu
    -- objects behind the call
    have hex : ∀ j o', hget hr j = some o' → ∃ ao', OR o' ao' ∧ ∃ i o0, bkOf B nx C.nx i = j ∧ h0' i = some o0 ∧ WO (bkOf B nx C.nx) (tauOf tl) o0 ao' := by
      intro j o' ho
      obtain ⟨i, o, g1, g2, g3⟩ := hren j o' ho
      obtain ⟨ao, t1, t2⟩ := Hal i o g2
      obtain ⟨ao', t3, t4⟩ := g3 ao t2
      exact ⟨ao', t3, i, ao, g1, t1, t4⟩
    let h2 : Heap := fun j => if hj : ∃ o', hget hr j = some o' then some (Classical.choose (hex j hj.choose hj.choose_spec)) else (hget (frameH B nx h) j).bind fun _ => a j
    refine ⟨γ x, h2, (renV_spec _ _ hx).1, ?_, x, hr ++ frameH B nx h, rfl, ?_, hq⟩
    · intro j o hj
      by_cases he : ∃ o', hget hr j = some o'
      · simp only [h2, dif_pos he, Option.some.injEq] at hj
        obtain ⟨_, i, o0, g1, g2, g3⟩ := Classical.choose_spec (hex j he.choose he.choose_spec)
        exact .inr ⟨i, o0, g1, g2, by rw [← hj]; exact g3⟩
      · simp only [h2, dif_neg he] at hj
        cases hf : hget (frameH B nx h) j with
        | none => rw [hf] at hj; cases hj
        | some o2 =>
          rw [hf] at hj
          have hj : a j = some o := hj
          obtain ⟨_, t2, _⟩ := frameH_get hf
          refine .inl ⟨hj, fun i _ hij => ?_⟩
          rw [btaken_mem (hsome i j hij)] at t2
          cases t2
    · intro j o hj
      rw [hget_append] at hj
      by_cases he : ∃ o', hget hr j = some o'
      · have ho : he.choose = o := by
          have := he.choose_spec
          rw [this] at hj
          exact Option.some.inj hj
        refine ⟨_, by simp only [h2, dif_pos he]; rfl, ?_⟩
        have := (Classical.choose_spec (hex j he.choose he.choose_spec)).1
        rw [← ho]; exact this
      · have hn : hget hr j = none := by
          cases hh : hget hr j with
          | none => rfl
          | some o' => exact absurd ⟨o', hh⟩ he
        rw [hn] at hj
        obtain ⟨t1, _, _⟩ := frameH_get hj
        obtain ⟨ao, g1, g2⟩ := H j o t1
        exact ⟨ao, by simp only [h2, dif_neg he, hj]; exact g1, g2⟩
  · exact hu.elim

end Go.SL

/- Helper text: how loops' heads and contracts are told. -/
namespace Go.SL
open Go.AL

def dsOps : List AOp → List Nat
  | [] => []
  | o :: os => match o.dst with
    | some d => d :: dsOps os
    | none => dsOps os
def dsDOps : List DOp → List Nat
  | [] => []
  | o :: os => match o.op.dst with
    | some d => d :: dsDOps os
    | none => dsDOps os
/-- The slots that a piece of code writes. -/
def dsts : ACode → List Nat
  | .ops l => dsOps l
  | .dops l => dsDOps l
  | .seq a b => dsts a ++ dsts b
  | .cond _ a b => dsts a ++ dsts b
  | .block _ a => dsts a
  | .loop a => dsts a
  | .scope a => dsts a
  | _ => []
/-- The k-th loop's body. -/
def loopAt : ACode → Nat → ACode
  | .seq a b, k => bif Nat.blt k (nloops a) then loopAt a k else loopAt b (k - nloops a)
  | .cond _ a b, k => bif Nat.blt k (nloops a) then loopAt a k else loopAt b (k - nloops a)
  | .block _ a, k => loopAt a k
  | .scope a, k => loopAt a k
  | .loop a, 0 => a
  | .loop a, k + 1 => loopAt a k
  | .rfunc _ _ a b, k => bif Nat.blt k (nloops a) then loopAt a k else loopAt b (k - nloops a)
  | _, _ => .skip
/-- The slots that are read in the k-th loop, and behind it. -/
def readsAt : ACode → Nat → List Nat
  | .seq a b, k => bif Nat.blt k (nloops a) then readsAt a k ++ readsOf b else readsAt b (k - nloops a)
  | .cond _ a b, k => bif Nat.blt k (nloops a) then readsAt a k else readsAt b (k - nloops a)
  | .block _ a, k => readsAt a k
  | .scope a, k => readsAt a k
  | .loop a, 0 => readsOf a
  | .loop a, k + 1 => readsAt a k ++ readsOf a
  | .rfunc _ _ a b, k => bif Nat.blt k (nloops a) then readsAt a k ++ readsOf b else readsAt b (k - nloops a) ++ readsOf a
  | _, _ => []
def clrAll : List Nat → SEnv → SEnv
  | [], e => e
  | t :: ts, e => clrAll ts (setEnv e t none)
def setAll : List (Nat × SV) → SEnv → SEnv
  | [], e => e
  | p :: ts, e => setAll ts (setEnv e p.1 (some p.2))
def hsetAll : List (Nat × SO) → SHeap → SHeap
  | [], h => h
  | p :: ps, h => hsetAll ps (hset h p.1 p.2)
/-- A loop's head: what the loop writes is told anew. -/
def mkL (af : AFun) (k : Nat) (G : Type) (side : G → Prop) (meas : G → Nat) (sets : G → List (Nat × SV)) (objs : G → List (Nat × SO)) (extra : Nat) : SSt → LoopSpec := fun σ =>
  ⟨G, fun g => ⟨setAll (sets g) (clrAll (dsts (loopAt af.body k)) (keepN (readsAt af.body k ++ af.res) 0 σ.env)), hsetAll (objs g) σ.h, σ.nx + extra, σ.dfs⟩, side, meas⟩
def lpL : List ((Nat × Nat) × (SSt → LoopSpec)) → FuncId → Nat → Option (SSt → LoopSpec)
  | [], _, _ => none
  | p :: l, f, k => bif Nat.beq p.1.1 f && Nat.beq p.1.2 k then some p.2 else lpL l f k
def spL : List (Nat × (List SV → SHeap → Nat → SK → Prop)) → FuncId → Option (List SV → SHeap → Nat → SK → Prop)
  | [], _ => none
  | p :: l, f => bif Nat.beq p.1 f then some p.2 else spL l f
theorem spL_ok {P : Program} {r : SRom} : ∀ {l : List (Nat × (List SV → SHeap → Nat → SK → Prop))}, (∀ p, p ∈ l → SpOk P r p.1 p.2) → ∀ f sp, spL l f = some sp → SpOk P r f sp
  | [], _, f, sp, h => by cases h
  | p :: l, hl, f, sp, h => by
    simp only [spL] at h
    cases hb : Nat.beq p.1 f with
    | true =>
      rw [hb] at h
      have h := Option.some.inj h
      rw [← Nat.eq_of_beq_eq_true hb, ← h]; exact hl p List.mem_cons_self
    | false => rw [hb] at h; exact spL_ok (fun q hq => hl q (List.mem_cons_of_mem _ hq)) f sp h

/-- What is to be shown of a contract. -/
def ConVC (f : FuncId) (af : AFun) (C : Con) (cfg : C.G → Cfg) (n : Nat) : Prop :=
  ∀ g, C.side g → SE (cfg g) (romL (C.rom g)) (SCVn (cfg g) (romL (C.rom g)) n) f none af.nt af.body 0 ⟨padEnv (C.args g) af.nt, C.heap g, C.nx, []⟩
      (sOutK (SCDn (cfg g) (romL (C.rom g)) (SCVn (cfg g) (romL (C.rom g)) n)) af.res fun v h nx => altHolds C.nx g v h nx C.alts)
/-- The fixed parts: no bounds are crossed; the table; contracts; loops. -/
def mkCfg (pg : FuncId → Option AFun) (sp : List (Nat × (List SV → SHeap → Nat → SK → Prop))) (lp : List ((Nat × Nat) × (SSt → LoopSpec))) : Cfg :=
  { ov := fun _ => false, pg := pg, sp := spL sp, lp := lpL lp, lf := 60 }

-- kinds of elements
def intE (f : Int → Int) : Int → List SV := fun j => [.int .i64 (.sym (f j))]
def boolE (p : Int → Prop) : Int → List SV := fun j => [.bool (.sym (p j))]
def pairE (f g : Int → Int) : Int → List SV := fun j => [.int .i64 (.sym (f j)), .int .i64 (.sym (g j))]
def iv (n : Int) : SV := .int .i64 (.sym n)
def il (n : Int) : SV := .int .i64 (.lit n)

end Go.SL

/- Helper text: what a row hands in, as the evaluator's memory tells it. -/
namespace Go.SL
open Go.AL Go.ChangeShapes Go.WideShapes Go.ChangeAt Go.RowKit

def InR (x : Int) : Prop := -9223372036854775808 ≤ x ∧ x ≤ 9223372036854775807
theorem inR_of_wf {n : Int} (h : (Lit.int .i64 n).wf = true) : InR n := by
  simp only [Lit.wf, Bool.and_eq_true, decide_eq_true_eq] at h
  exact ⟨by have := h.1; simpa [IntKind.min, IntKind.signed, IntKind.bits] using this, by have := h.2; simp [IntKind.max, IntKind.signed, IntKind.bits] at this; omega⟩

theorem cell_block {w : World} {b o : Nat} {r : Value} (h : w.cell? ⟨b, o, none⟩ = some r) : ∃ rcs e fz, w.heap[b]? = some (.cells rcs e fz) ∧ rcs[o]? = some r := by
  unfold World.cell? at h
  split at h
  · rename_i c e fz hb
    exact ⟨c, e, fz, hb, by simpa using h⟩
  · cases h

theorem arel_of_cells {β : Beta} {i : Nat} {w : World} {cs : List AVal} {t : TypeId} (h : ∀ k, k < cs.length → ∃ r, w.cell? ⟨β.blk (.arg i), β.off i + k, none⟩ = some r ∧ ∀ a, cs[k]? = some a → VRel β a r) : ARel β i w cs t := by
  by_cases hc : cs = []
  · exact .inl hc
  right
  have hpos : 0 < cs.length := List.length_pos_iff.2 hc
  obtain ⟨r0, h0, _⟩ := h 0 hpos
  obtain ⟨rcs, e, fz, hb, _⟩ := cell_block h0
  have hget : ∀ k, k < cs.length → ∃ r, rcs[β.off i + k]? = some r ∧ ∀ a, cs[k]? = some a → VRel β a r := by
    intro k hk
    obtain ⟨r, h1, h2⟩ := h k hk
    obtain ⟨rcs', e', fz', hb', hr'⟩ := cell_block h1
    rw [hb] at hb'
    obtain ⟨rfl, _⟩ := by simpa using hb'
    exact ⟨r, hr', h2⟩
  have hsz : β.off i + cs.length ≤ rcs.size := by
    obtain ⟨r, h1, _⟩ := hget (cs.length - 1) (by omega)
    obtain ⟨h2, _⟩ := Array.getElem?_eq_some_iff.1 h1
    omega
  refine ⟨rcs, e, fz, hb, hsz, VRels.of_get ?_ fun k a r ha hr => ?_⟩
  · simp; omega
  · have hk : k < cs.length := (List.getElem?_eq_some_iff.1 ha).1
    rw [List.getElem?_take, if_pos hk, List.getElem?_drop, Array.getElem?_toList] at hr
    obtain ⟨r', h1, h2⟩ := hget k hk
    rw [h1] at hr; injection hr with hr; subst hr
    exact h2 a ha

/-- A list's cells, told one by one. -/
theorem rows_VRel {n : Int} {z : Nat} {f : Int → List SV} {k : Nat} {a : AVal} (hz : ∀ j, (flat (f j)).length = z) (ha : (flat [SV.arr (.sym n) z f])[k]? = some a) :
    ∃ j o : Nat, o < z ∧ j < n.toNat ∧ k = j * z + o ∧ (flat (f j))[o]? = some a := by
  rw [flat_arr1 (show (SV.arr (.sym n) z f).isArr = true from rfl)] at ha
  have hk : k < (rows (SV.arr (.sym n) z f)).length := (List.getElem?_eq_some_iff.1 ha).1
  rw [rows_length] at hk
  have hk : k < n.toNat * z := hk
  have hz0 : 0 < z := by
    rcases Nat.eq_zero_or_pos z with h | h
    · subst h; omega
    · exact h
  refine ⟨k / z, k % z, Nat.mod_lt _ hz0, (Nat.div_lt_iff_lt_mul hz0).2 hk, (by rw [Nat.mul_comm]; exact (Nat.div_add_mod k z).symm), ?_⟩
  have e : (rows (SV.arr (.sym n) z f))[k / z * z + k % z]? = (fix z (elem (SV.arr (.sym n) z f) (k / z)))[k % z]? :=
    rows_get (v := SV.arr (.sym n) z f) (Nat.mod_lt _ hz0) ((Nat.div_lt_iff_lt_mul hz0).2 hk)
  rw [Nat.mul_comm, Nat.div_add_mod] at e
  rw [e] at ha
  rwa [fix_get (Nat.mod_lt _ hz0) (by simp only [elem]; rw [hz]; exact Nat.mod_lt _ hz0)] at ha

theorem flat_arr_length {n : Int} {z : Nat} {f : Int → List SV} : (flat [SV.arr (.sym n) z f]).length = n.toNat * z := by
  rw [flat_arr1 (show (SV.arr (.sym n) z f).isArr = true from rfl), rows_length]; rfl

theorem flat_intE {l : Int → Int} {j : Int} : flat (intE l j) = [AVal.int .i64 (l j)] := by
  show flat [SV.int .i64 (.sym (l j))] = _
  rw [flat_one (one_γ (v := SV.int .i64 (.sym (l j))) rfl).2, cellV_γ rfl]
  simp [γ, flat, SI.v]
theorem has_none {P : Program} {w : World} {r : Reach} {b : Nat} {a : Addr} {e : TypeId} {n : Nat} (h : w.has P r b a e n) : a.spot = none := h.2.1

section
variable {H : Type} {enc : TypeId × Value → H} {P : Program} {w : World}

/-- What is handed as a slice. -/
def SlOk (w : World) (v : Value) (z n : Nat) (cs : List AVal) (blk off : Nat) : Prop :=
  ∀ (β : Beta) (i : Nat), β.blk (.arg i) = blk → β.off i = off → VRel β (.slice (.arg i) 0 z n n) v ∧ ∀ t, ARel β i w cs t

theorem open_sl_ints {t e : TypeId} {v : Value} {d : DataW H} {p : List MemPlace} {b0 : Nat} (ht : P.underlying t = some (.slice e)) (he : P.underlying e = some (.int .i64)) (hc : P.cellsOf e = 1)
    (hval : Value.okWide P w .any b0 t v) (hd : DataW.Trod enc P w 0 (fun _ => true) true t v d p) :
    ∃ (blk off n : Nat) (l : Int → Int), (n : Int) ≤ 9223372036854775807 ∧ (∀ j : Int, 0 ≤ j → j < n → InR (l j)) ∧ SlOk w v 1 n (flat [.arr (.sym n) 1 (intE l)]) blk off := by
  obtain ⟨a0, len0, cap0, rfl⟩ := okWide_slice ht hval
  obtain ⟨fuel, hd⟩ := hd
  rcases open_ints ht he hc hd with ⟨h1, _⟩ | ⟨a, len, cap, zs, h1, _, hl, hm, hzl, _, hcell, hwf⟩
  · simp only [Value.cells, List.cons.injEq, Value.slice.injEq, and_true] at h1
    obtain ⟨rfl, rfl, rfl⟩ := h1
    refine ⟨0, 0, 0, fun _ => 0, by simp, fun j _ _ => by omega, fun β i _ _ => ⟨⟨trivial, .inl ⟨rfl, rfl, rfl⟩⟩, fun t => .inl ?_⟩⟩
    exact List.eq_nil_of_length_eq_zero (by rw [flat_arr_length]; rfl)
  · simp only [Value.cells, List.cons.injEq, Value.slice.injEq, and_true] at h1
    obtain ⟨rfl, rfl, rfl⟩ := h1
    have hs : a.spot = none := by
      simp only [Value.okWide, ht, Cell.okWide, Cell.ok] at hval
      exact has_none hval.2.2
    obtain ⟨b, o, sp⟩ := a
    subst hs
    simp only [if_true] at hzl
    simp only [maxLen] at hm
    refine ⟨b, o, len0, fun j => zs.getD j.toNat 0, by omega, fun j j0 j1 => ?_, fun β i hb ho => ⟨⟨trivial, .inr ⟨o, cap0, by rw [hb], hl, hl, fun _ => ⟨by simp only [Beta.offOf]; omega, trivial⟩⟩⟩, fun t => ?_⟩⟩
    · have hj : j.toNat < zs.length := by omega
      have hg : zs.getD j.toNat 0 = zs[j.toNat] := by simp [List.getD, hj]
      show InR (zs.getD j.toNat 0)
      rw [hg]; exact inR_of_wf (hwf _ (List.getElem_mem hj))
    · refine arel_of_cells fun k hk => ?_
      rw [flat_arr_length] at hk
      have hk : k < zs.length := by omega
      refine ⟨_, by rw [hb, ho, ← add_plain]; exact hcell k hk, fun a ha => ?_⟩
      obtain ⟨j, o', ho', hj, rfl, ha2⟩ := rows_VRel (fun j => by rw [flat_intE]; rfl) ha
      obtain rfl : o' = 0 := by omega
      rw [flat_intE] at ha2
      simp only [List.getElem?_cons_zero, Option.some.injEq] at ha2
      subst ha2
      simp [VRel]
end

def nthN : List Nat → Nat → Nat
  | [], _ => 0
  | x :: _, 0 => x
  | _ :: l, n + 1 => nthN l n
/-- What is only read, of the world. -/
def RomOk (blk off : List Nat) (w : World) : Nat → List (List SV × TypeId) → Prop
  | _, [] => True
  | k, p :: l => ARel (beta0 (nthN blk) (nthN off)) k w (flat p.1) p.2 ∧ RomOk blk off w (k + 1) l
theorem romOk_get {blk off : List Nat} {w : World} : ∀ {l : List (List SV × TypeId)} {k i : Nat} {p : List SV × TypeId}, RomOk blk off w k l → romL l i = some p → ARel (beta0 (nthN blk) (nthN off)) (k + i) w (flat p.1) p.2
  | [], _, _, _, _, h => by simp [romL] at h
  | q :: l, k, 0, p, hf, h => by simp only [romL, Option.some.injEq] at h; subst h; exact hf.1
  | q :: l, k, i + 1, p, hf, h => by
    have := romOk_get (k := k + 1) (i := i) hf.2 h
    rwa [show k + (i + 1) = k + 1 + i by omega]

def altsTrue {G : Type} : List (Alt G) → Prop
  | [] => True
  | a :: l => (∀ g g2, a.res g g2 = .bool (.lit true)) ∧ altsTrue l
theorem altsTrue_mem {G : Type} : ∀ {l : List (Alt G)}, altsTrue l → ∀ a, a ∈ l → ∀ g g2, a.res g g2 = .bool (.lit true)
  | [], _, a, ha, _, _ => by cases ha
  | b :: l, h, a, ha, g, g2 => by
    rcases List.mem_cons.1 ha with rfl | ha
    · exact h.1 g g2
    · exact altsTrue_mem h.2 a ha g g2
/-- From a law's contract to the calls. -/
theorem law_walk {P : Program} {f : FuncId} {C : Con} (hC : ConOk P f C) (g : C.G) (hs : C.side g) (hh : C.heap g = []) (hn : C.nx = 0) (halt : altsTrue C.alts)
    (blk off : List Nat) {W : World} {rargs : Array Value} (hr : RomOk blk off W 0 (C.rom g)) (ha : VRels (beta0 (nthN blk) (nthN off)) (γs (C.args g)) rargs.toList) :
    Calls P f rargs W fun e W' => e = .returned (.bool true) ∧ OldSame W W' := by
  have h := hC g hs (fun _ => none) (by rw [hh]; intro j o hj; cases hj)
  rw [hn] at h
  refine calls_of_callT (h.mono fun v h' nx' hv => ?_) (nthN blk) (nthN off) (fun i cs e hi => ?_) ha
  · obtain ⟨a, h1, g2, _, h3, _⟩ := hv
    rw [h3, altsTrue_mem halt a h1 g g2]; rfl
  · simp only [γr, Option.map_eq_some_iff] at hi
    obtain ⟨p, hp, he⟩ := hi
    simp only [Prod.mk.injEq] at he
    obtain ⟨rfl, rfl⟩ := he
    have := romOk_get hr hp
    rwa [Nat.zero_add] at this
/-- A contract told otherwise, for fewer calls. -/
theorem con_via {P : Program} {f : FuncId} {C C' : Con} (h : ConOk P f C) (m : C'.G → C.G) (hs : ∀ g, C'.side g → C.side (m g)) (hr : ∀ g, C.rom (m g) = C'.rom g) (ha : ∀ g, C.args (m g) = C'.args g) (hh : ∀ g, C.heap (m g) = C'.heap g)
    (hn : C.nx = C'.nx) (hal : ∀ g, C'.side g → ∀ a, a ∈ C.alts → ∀ g2, a.cond (m g) g2 → ∃ a', a' ∈ C'.alts ∧ ∃ g2', a'.cond g g2' ∧ a.res (m g) g2 = a'.res g g2' ∧ a.heap (m g) g2 = a'.heap g g2' ∧ a.nx = a'.nx) : ConOk P f C' := by
  intro g hg a H
  have := h (m g) (hs g hg) a (by rw [hh]; exact H)
  rw [hr, ha, hn] at this
  refine this.mono ?_
  rintro v h' nx' ⟨al, h1, g2, h2, h3, h4, h5⟩
  obtain ⟨a', k1, g2', k2, k3, k4, k5⟩ := hal g hg al h1 g2 h2
  exact ⟨a', k1, g2', k2, by rw [h3, k3], by rw [← k4]; exact h4, by rw [h5, k5]⟩
end Go.SL
