/- Helper text: runs of the model's small words over a block that is known. -/
import Derived.Test.YtimonbmadmfhfaaALb
namespace Go.AL

variable {P : Program} {w : World}

theorem run_und {t : TypeId} {d : TypeDesc} (h : P.underlying t = some d) : (underlying t).run P w = .ok d w := by
  simp [underlying, h]
theorem run_inf {t : TypeId} {i : TypeInfo} (h : P.info? t = some i) : (typeInfo t).run P w = .ok i w := by
  simp [typeInfo, h]
theorem run_siz {t : TypeId} {i : TypeInfo} (h : P.info? t = some i) : (sizeOf t).run P w = .ok i.size w := by
  simp [sizeOf, run_inf h]
theorem run_zer {t : TypeId} {i : TypeInfo} {z : Value} (h : P.info? t = some i) (hz : i.zero = some z) : (zeroValue t).run P w = .ok z w := by
  simp [zeroValue, run_inf h, hz]

theorem run_isAgg {t : TypeId} {d : TypeDesc} (h : P.underlying t = some d) : (isAgg t).run P w = .ok (isAggD d) w := by
  cases d <;> simp [isAgg, run_und h, isAggD]

theorem addr_add (b o n : Nat) : (⟨b, o, none⟩ : Addr).add n = ⟨b, o + n, none⟩ := by
  unfold Addr.add
  split
  · rename_i h; subst h; rfl
  · rfl

theorem cell_at {b : Nat} {rcs : Array Value} {e : TypeId} {fz : Nat × Nat} (h : w.heap[b]? = some (.cells rcs e fz)) (o : Nat) : w.cell? ⟨b, o, none⟩ = rcs[o]? := by
  simp [World.cell?, h]

theorem run_load_at {b o : Nat} {rcs : Array Value} {e : TypeId} {fz : Nat × Nat} {v : Value} (h : w.heap[b]? = some (.cells rcs e fz)) (hv : rcs[o]? = some v) :
    (load ⟨b, o, none⟩).run P w = .ok v w := by
  simp [load, Sem.run, cell_at h, hv]

theorem run_loadCellsFrom_at {b o : Nat} {rcs : Array Value} {e : TypeId} {fz : Nat × Nat} (h : w.heap[b]? = some (.cells rcs e fz)) :
    ∀ (n i : Nat) (acc : Array Value), o + i + n ≤ rcs.size →
      (loadCellsFrom ⟨b, o, none⟩ i n acc).run P w = .ok (acc ++ ((rcs.toList.drop (o + i)).take n).toArray) w := by
  intro n
  induction n with
  | zero => intro i acc _; simp [loadCellsFrom]
  | succ n ih =>
    intro i acc hle
    have hv : rcs[o + i]? = some rcs[o + i] := Array.getElem?_eq_getElem (by omega)
    simp only [loadCellsFrom, addr_add, Sem.run_bind, run_load_at h hv, Result.andThen_ok]
    rw [ih (i + 1) _ (by omega)]
    congr 1
    have hd : rcs.toList.drop (o + i) = rcs[o + i] :: rcs.toList.drop (o + i + 1) := by
      rw [List.drop_eq_getElem_cons (by simpa using (by omega : o + i < rcs.size))]; simp
    rw [hd, List.take_succ_cons]
    apply Array.ext'
    simp [Nat.add_assoc]
theorem run_loadCells_at {b o n : Nat} {rcs : Array Value} {e : TypeId} {fz : Nat × Nat} (h : w.heap[b]? = some (.cells rcs e fz)) (hle : o + n ≤ rcs.size) :
    (loadCells ⟨b, o, none⟩ n).run P w = .ok ((rcs.toList.drop o).take n).toArray w := by
  have := run_loadCellsFrom_at (P := P) h n 0 #[] (by omega)
  simpa [loadCells] using this

/-- Cells are written one behind the other. -/
def setMany {α : Type} : List α → Nat → List α → List α
  | cs, _, [] => cs
  | cs, o, v :: vs => setMany (cs.set o v) (o + 1) vs
@[simp] theorem setMany_length {α : Type} : ∀ (vs cs : List α) (o : Nat), (setMany cs o vs).length = cs.length
  | [], _, _ => rfl
  | v :: vs, cs, o => by simp [setMany, setMany_length vs]
theorem setMany_append {α : Type} : ∀ (vs cs ds : List α) (o : Nat), o + vs.length ≤ cs.length → setMany (cs ++ ds) o vs = setMany cs o vs ++ ds
  | [], _, _, _, _ => rfl
  | v :: vs, cs, ds, o, h => by
    simp only [List.length_cons] at h
    simp only [setMany]
    rw [List.set_append_left _ _ (by omega)]
    exact setMany_append vs _ ds _ (by simp; omega)
theorem VRels.many {β : Beta} : ∀ {vs : List AVal} {rs : List Value} {as : List AVal} {l : List Value} {o : Nat}, VRels β as l → VRels β vs rs → VRels β (setMany as o vs) (setMany l o rs)
  | [], rs, as, l, o, h, k => by simp only [VRels] at k; subst k; exact h
  | c :: cs, rs, as, l, o, h, k => by
    simp only [VRels] at k
    obtain ⟨r, rs', rfl, k1, k2⟩ := k
    show VRels β (AL.setMany (as.set o c) (o + 1) cs) (AL.setMany (l.set o r) (o + 1) rs')
    exact VRels.many (as := as.set o c) (l := l.set o r) (VRels.set h k1) k2

def oneCellV : Value → Bool
  | .agg _ | .tuple _ => false
  | _ => true
theorem run_store_at {b o : Nat} {rcs : Array Value} {e : TypeId} {fz : Nat × Nat} {v : Value} (h : w.heap[b]? = some (.cells rcs e fz)) (ho : o < rcs.size) (hf : Unfrozen rcs.size fz)
    (hv : oneCellV v = true) :
    (store ⟨b, o, none⟩ v).run P w = .ok () { w with heap := w.heap.setIfInBounds b (.cells (rcs.setIfInBounds o v) e fz) } := by
  have hc : w.cell? ⟨b, o, none⟩ = some rcs[o] := by rw [cell_at h]; exact Array.getElem?_eq_getElem ho
  have hfr : w.frozen? ⟨b, o, none⟩ = false := by
    obtain ⟨lo, hi⟩ := fz
    simp only [World.frozen?, h]
    rcases hf with hf | hf <;> simp at hf ⊢ <;> omega
  have hset : w.setCell ⟨b, o, none⟩ v = { w with heap := w.heap.setIfInBounds b (.cells (rcs.setIfInBounds o v) e fz) } := by
    unfold World.setCell
    congr 1
    apply Array.ext_getElem?
    intro i
    rw [Array.getElem?_modify, Array.getElem?_setIfInBounds]
    by_cases hi : b = i
    · subst hi
      have hlt : b < w.heap.size := by
        rcases Nat.lt_or_ge b w.heap.size with h' | h'
        · exact h'
        · simp [Array.getElem?_eq_none h'] at h
      have h2 : w.heap[b] = .cells rcs e fz := by simpa [Array.getElem?_eq_getElem hlt] using h
      simp [hlt, h2]
    · simp [hi]
  cases v <;> simp [oneCellV] at hv <;> simp [store, Sem.run, hc, hfr, hset]

theorem run_storeCells_at' {b o : Nat} {e : TypeId} {fz : Nat × Nat} : ∀ (vs : List Value) (i : Nat) (rcs : Array Value) (w : World), w.heap[b]? = some (.cells rcs e fz) → o + i + vs.length ≤ rcs.size →
    Unfrozen rcs.size fz → (∀ v ∈ vs, oneCellV v = true) →
    ∃ w', (storeCells ⟨b, o, none⟩ vs i).run P w = .ok () w' ∧ w'.heap[b]? = some (.cells (setMany rcs.toList (o + i) vs).toArray e fz) ∧ w'.heap.size = w.heap.size ∧
      (∀ x, x ≠ b → w'.heap[x]? = w.heap[x]?) ∧ w'.os = w.os ∧ w'.output = w.output := by
  intro vs
  induction vs with
  | nil => intro i rcs w h _ _ _; exact ⟨w, by simp [storeCells], by simpa [setMany] using h, rfl, fun _ _ => rfl, rfl, rfl⟩
  | cons v vs ih =>
    intro i rcs w h hle hf hone
    simp only [List.length_cons] at hle
    have hb : b < w.heap.size := by
      rcases Nat.lt_or_ge b w.heap.size with h' | h'
      · exact h'
      · simp [Array.getElem?_eq_none h'] at h
    have hs := run_store_at (P := P) h (o := o + i) (v := v) (by omega) hf (hone v (by simp))
    obtain ⟨w', h1, h2, h3, h4, h5, h6⟩ := ih (i + 1) (rcs.setIfInBounds (o + i) v) { w with heap := w.heap.setIfInBounds b (.cells (rcs.setIfInBounds (o + i) v) e fz) }
      (by simp [hb]) (by simp; omega) (by simpa using hf) (fun x hx => hone x (by simp [hx]))
    refine ⟨w', ?_, ?_, by simpa using h3, ?_, h5, h6⟩
    · simp only [storeCells, addr_add, Sem.run_bind, hs, Result.andThen_ok]
      exact h1
    · rw [h2]; simp [setMany, Nat.add_assoc]
    · intro x hx
      rw [h4 x hx]
      simp [Ne.symm hx]

end Go.AL
