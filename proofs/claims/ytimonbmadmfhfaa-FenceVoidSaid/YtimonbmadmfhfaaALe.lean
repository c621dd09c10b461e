/- Helper text: the abstract operations are the model's. -/
import Derived.Test.YtimonbmadmfhfaaALd
namespace Go.AL

def nextVal : Next → Option Value
  | .value v => some v
  | .skip => some undef
  | _ => none

/-- An operation's run comes to what the abstract one tells. -/
def OpOk (P : Program) (β : Beta) (rom : Rom) (h : Heap) (w : World) (res : Result Next) (v : AVal) (h' : Heap) (nx' : Nat) : Prop :=
  ∃ nxt rv w' β', res = .ok nxt w' ∧ nextVal nxt = some rv ∧ VRel β' v rv ∧ HRel P β' rom h' w' ∧ Mv β h w β' h' w' ∧ β'.nx = nx'

variable {P : Program} {β : Beta} {rom : Rom} {h : Heap} {w : World}

theorem OpOk.val {res : Result Next} {v : AVal} {rv : Value} (H : HRel P β rom h w) (hr : res = .ok (.value rv) w) (hv : VRel β v rv) : OpOk P β rom h w res v h β.nx :=
  ⟨_, rv, w, β, hr, rfl, hv, H, Mv.refl _ _ _, rfl⟩

theorem okOut {o : Option AVal} {h' : Heap} {nx nx' : Nat} {v : AVal} (e : (match o with | some v => some (v, h, nx) | none => (none : Out)) = some (v, h', nx')) : o = some v ∧ h' = h ∧ nx' = nx := by
  cases o with
  | none => cases e
  | some x => simp at e; exact ⟨by rw [e.1], e.2.1.symm, e.2.2.symm⟩

theorem blockCells_rel {b : Bid} {cs : List AVal} (H : HRel P β rom h w) (hb : blockCells rom h b = some cs) :
    β.ok b ∧ ∃ rcs e fz, w.heap[β.blk b]? = some (.cells rcs e fz) ∧ β.offOf b + cs.length ≤ rcs.size ∧ VRels β cs ((rcs.toList.drop (β.offOf b)).take cs.length) := by
  cases b with
  | own i =>
    simp only [blockCells] at hb
    split at hb
    · rename_i cs' e hi
      injection hb with hb; subst hb
      obtain ⟨h1, h2, pre, spare, fz, h3, h4, h5, h6⟩ := H.obj i _ hi
      refine ⟨h1, _, e, fz, h3, ?_, ?_⟩
      · simp [Beta.offOf, h4.length]
      · simp only [Beta.offOf, List.drop_zero]
        rw [h4.length]; simpa using h4
    · cases hb
  | arg i =>
    simp only [blockCells] at hb
    split at hb
    · rename_i cs' e hi
      injection hb with hb; subst hb
      obtain ⟨rcs, fz, h1, h0, h2⟩ := H.args i _ _ hi
      exact ⟨trivial, rcs, e, fz, h1, h0, h2⟩
    · cases hb

theorem read1 {b : Bid} {cs : List AVal} {off : Nat} {v : AVal} (H : HRel P β rom h w) (hb : blockCells rom h b = some cs) (hv : cs[off]? = some v) :
    ∃ rv, (load ⟨β.blk b, β.offOf b + off, none⟩).run P w = .ok rv w ∧ VRel β v rv := by
  obtain ⟨_, rcs, e, fz, h1, h2, h3⟩ := blockCells_rel H hb
  obtain ⟨r, hr, hvr⟩ := h3.get hv
  have hlt : off < cs.length := (List.getElem?_eq_some_iff.1 hv).1
  rw [List.getElem?_take] at hr
  simp only [hlt, if_true, List.getElem?_drop] at hr
  exact ⟨r, run_load_at h1 (by rw [← Array.getElem?_toList]; exact hr), hvr⟩
theorem readN {b : Bid} {cs : List AVal} {off n : Nat} (H : HRel P β rom h w) (hb : blockCells rom h b = some cs) (hle : off + n ≤ cs.length) :
    ∃ rvs, (loadCells ⟨β.blk b, β.offOf b + off, none⟩ n).run P w = .ok rvs w ∧ VRels β ((cs.drop off).take n) rvs.toList := by
  obtain ⟨_, rcs, e, fz, h1, h2, h3⟩ := blockCells_rel H hb
  refine ⟨_, run_loadCells_at h1 (by omega), ?_⟩
  have h4 := VRels.take (n := n) (VRels.drop (n := off) h3)
  have e1 : (List.take n (List.drop off (List.take cs.length (List.drop (β.offOf b) rcs.toList)))) = List.take n (List.drop (β.offOf b + off) rcs.toList) := by
    rw [List.drop_take, List.drop_drop, List.take_take, Nat.min_eq_left (by omega)]
  rw [e1] at h4
  simpa using h4

/-- What a value's cells are, when it fits cells. -/
theorem VRel.cells' {a : AVal} {v : Value} (hv : VRel β a v) (ha : allOne a.cells = true) : VRels β a.cells v.cells.toList ∧ ∀ c ∈ v.cells.toList, oneCellV c = true := by
  have hne : a ≠ .any := by rintro rfl; simp [AVal.cells, allOne, AVal.one] at ha
  have h1 := hv.cells hne
  refine ⟨h1, fun c hc => ?_⟩
  obtain ⟨i, hi, rfl⟩ := List.mem_iff_getElem.1 hc
  have hi' : i < a.cells.length := by rw [h1.length]; exact hi
  obtain ⟨r, hr, hrel⟩ := h1.get (List.getElem?_eq_getElem hi')
  rw [List.getElem?_eq_getElem hi] at hr
  injection hr with hr
  rw [hr]
  have ho : (a.cells[i]).one = true := by
    unfold allOne at ha
    rw [List.all_eq_true] at ha
    exact ha _ (List.getElem_mem hi')
  generalize a.cells[i] = x at ho hrel
  cases x <;> simp [AVal.one] at ho <;> simp only [VRel] at hrel <;> first
    | (subst hrel; rfl)
    | (obtain ⟨_, rfl⟩ := hrel; rfl)
    | (obtain ⟨_, _, _, rfl, _⟩ := hrel; rfl)
    | (obtain ⟨_, _, rfl, _⟩ := hrel; rfl)
    | (obtain ⟨_, rfl, _⟩ := hrel; rfl)

theorem writeN {i off : Nat} {cs vs : List AVal} {t : TypeId} {rvs : List Value} (H : HRel P β rom h w) (hi : h i = some (.cells cs t)) (hle : off + vs.length ≤ cs.length) (hv : VRels β vs rvs) (hone : ∀ c ∈ rvs, oneCellV c = true) :
    ∃ w', (storeCells ⟨β.blk (.own i), off, none⟩ rvs).run P w = .ok () w' ∧ HRel P β rom (upd h i (some (.cells (setMany cs off vs) t))) w' ∧ Mv β h w β (upd h i (some (.cells (setMany cs off vs) t))) w' := by
  obtain ⟨hlt, hfp, pre, spare, fz, h3, h4, h5, h6⟩ := H.obj i _ hi
  have hl := h4.length
  have hvl := hv.length
  obtain ⟨w', g1, g2, g3, g4, g5, g6⟩ := run_storeCells_at' (P := P) (o := off) rvs 0 _ w h3 (by simp; omega) (by simp at h5 ⊢; rw [h5]; exact h6) hone
  refine ⟨w', g1, ?_⟩
  refine H.put hi hfp g3 g4 g5 g6 ?_
  simp only [Nat.add_zero] at g2
  refine ⟨hfp, setMany pre off rvs, spare, fz, ?_, VRels.many h4 hv, by simpa using h5, h6⟩
  rw [g2]
  congr 2
  exact congrArg List.toArray (setMany_append rvs pre spare off (by omega))

end Go.AL
