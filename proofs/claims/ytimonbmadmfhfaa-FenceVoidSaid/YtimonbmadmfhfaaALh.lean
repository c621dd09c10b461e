/- Helper text: the abstract operations are the model's, operation for operation (2). -/
import Derived.Test.YtimonbmadmfhfaaALg
namespace Go.AL

variable {P : Program} {β : Beta} {rom : Rom} {h h' : Heap} {w : World} {nt nx' : Nat} {env : Env} {a : Act} {v : AVal} {ai : AI}

theorem sound_not (t : TypeId) (x : Operand) : Sound P (.unOp .not t x) := by
  intro ai β rom h h' w nt nx' env a v o ho hc hE H hx
  simp only [compOp, Option.map_eq_some_iff] at hc
  obtain ⟨y, hy, rfl⟩ := hc
  simp only [AI.exec] at hx
  split at hx
  · rename_i b hb
    have hv := ev_rel hy hE hb
    simp only [VRel] at hv
    obtain ⟨e1, rfl, rfl⟩ := okOut (o := some _) hx
    injection e1 with e1; subst e1
    exact .val H (by simp [execOp, ho, hv, Op.unary]; rfl) (by simp [VRel])
  · cases hx
theorem sound_neg (t : TypeId) (x : Operand) : Sound P (.unOp .neg t x) := by
  intro ai β rom h h' w nt nx' env a v o ho hc hE H hx
  simp only [compOp, Option.map_eq_some_iff] at hc
  obtain ⟨y, hy, rfl⟩ := hc
  simp only [AI.exec] at hx
  split at hx
  · rename_i k n hb
    have hv := ev_rel hy hE hb
    simp only [VRel] at hv
    obtain ⟨e1, rfl, rfl⟩ := okOut (o := some _) hx
    injection e1 with e1; subst e1
    exact .val H (by simp [execOp, ho, hv, Op.unary, Op.intArith]; rfl) (by simp [VRel])
  · cases hx
theorem sound_convert (s d : TypeId) (x : Operand) : Sound P (.convert s d x) := by
  intro ai β rom h h' w nt nx' env a v o ho hc hE H hx
  simp only [compOp] at hc
  split at hc
  · rename_i k0 k h1 h2
    simp only [Option.map_eq_some_iff] at hc
    obtain ⟨y, hy, rfl⟩ := hc
    simp only [AI.exec] at hx
    split at hx
    · rename_i k' n hb
      have hv := ev_rel hy hE hb
      simp only [VRel] at hv
      obtain ⟨e1, rfl, rfl⟩ := okOut (o := some _) hx
      injection e1 with e1; subst e1
      exact .val H (by simp [execOp, ho, hv, convert, run_und h1, run_und h2, Conv.intToInt]; rfl) (by simp [VRel])
    · cases hx
  · cases hc

theorem zeroAt_run {t : TypeId} {z : List AVal} (hz : zeroAt P t = some z) : ∃ i zv, P.info? t = some i ∧ i.zero = some zv ∧ cvals zv.cells.toList = some z := by
  simp only [zeroAt, Option.bind_eq_some_iff] at hz
  obtain ⟨i, h1, zv, h2, h3⟩ := hz
  exact ⟨i, zv, h1, h2, h3⟩
theorem sizeAt_run {t : TypeId} {n : Nat} (hz : sizeAt P t = some n) : ∃ i, P.info? t = some i ∧ i.size = n := by
  simp only [sizeAt, Option.map_eq_some_iff] at hz
  exact hz
theorem bytesAt_run {t : TypeId} {n : Nat} (hz : bytesAt P t = some n) : ∃ i, P.info? t = some i ∧ i.bytes = n := by
  simp only [bytesAt, Option.map_eq_some_iff] at hz
  exact hz

/-- A new block of cells. -/
theorem new_cells (H : HRel P β rom h w) (cs : List AVal) (rvs : List Value) (t : TypeId) (hv : VRels β cs rvs) :
    HRel P (β.push w.heap.size rvs.length) rom (upd h β.nx (some (.cells cs t))) (w.alloc (.cells rvs.toArray t)) ∧
    Mv β h w (β.push w.heap.size rvs.length) (upd h β.nx (some (.cells cs t))) (w.alloc (.cells rvs.toArray t)) := by
  refine H.push rvs.length _ _ ?_ (fun i hi => H.rom_lt i hi)
  refine ⟨fun b => by simp [Beta.push], rvs, [], (0, 0), ?_, VRels.ext (β.push_ext _ _) _ _ hv, by simp [Beta.push], .inl (Nat.le_refl _)⟩
  simp only [Beta.push, if_true, List.append_nil]
  exact heap_push_new

theorem push_blk (b tot : Nat) : (β.push b tot).blk (.own β.nx) = b := by simp [Beta.push]

theorem sound_alloc (t : TypeId) : Sound P (.alloc t) := by
  intro ai β rom h h' w nt nx' env a v o ho hc hE H hx
  simp only [compOp] at hc
  split at hc
  · rename_i z n hz hn
    split at hc
    · injection hc with hc; subst hc
      obtain ⟨i, zv, h1, h2, h3⟩ := zeroAt_run hz
      simp only [AI.exec, Option.some.injEq, Prod.mk.injEq] at hx
      obtain ⟨rfl, rfl, rfl⟩ := hx
      obtain ⟨g1, g2⟩ := new_cells H z zv.cells.toList t (cvals_rel _ _ h3)
      refine ⟨.value (.pointer (some ⟨w.heap.size, 0, none⟩)), _, _, _, ?_, rfl, ?_, g1, g2, rfl⟩
      · simp [execOp, ho, Instr.alloc, run_zer h1 h2, newVar, newRow]
      · simp only [VRel]
        exact ⟨Nat.lt_succ_self _, by rw [push_blk]; simp [Beta.offOf]⟩
    · cases hc
  · cases hc
theorem sound_box (t : TypeId) (x : Operand) : Sound P (.box t x) := by
  intro ai β rom h h' w nt nx' env a v o ho hc hE H hx
  simp only [compOp, Option.map_eq_some_iff] at hc
  obtain ⟨y, hy, rfl⟩ := hc
  simp only [AI.exec] at hx
  split at hx
  · cases hx
  · rename_i u hne hu
    simp only [Option.some.injEq, Prod.mk.injEq] at hx
    obtain ⟨rfl, rfl, rfl⟩ := hx
    have hv := ev_rel hy hE hu
    obtain ⟨g1, g2⟩ := new_cells H u.cells (a.eval x).cells.toList t (hv.cells hne)
    refine ⟨.value (.pointer (some ⟨w.heap.size, 0, none⟩)), _, _, _, ?_, rfl, ?_, g1, g2, rfl⟩
    · simp [execOp, ho, Instr.box, newVar, newRow]
    · simp only [VRel]
      exact ⟨Nat.lt_succ_self _, by rw [push_blk]; simp [Beta.offOf]⟩
  · cases hx

theorem sound_load (t : TypeId) (x : Operand) : Sound P (.load t x) := by
  intro ai β rom h h' w nt nx' env a v o ho hc hE H hx
  simp only [compOp] at hc
  split at hc
  · rename_i d n y hd hn hy
    obtain ⟨i, hi, rfl⟩ := sizeAt_run hn
    split at hc
    · rename_i hagg
      injection hc with hc; subst hc
      simp only [AI.exec] at hx
      split at hx
      · rename_i b off hb
        have hv := ev_rel hy hE hb
        simp only [VRel] at hv
        split at hx
        · rename_i cs hcs
          split at hx
          · rename_i hle
            obtain ⟨e1, rfl, rfl⟩ := okOut (o := some _) hx
            injection e1 with e1; subst e1
            obtain ⟨rvs, r1, r2⟩ := readN (P := P) H hcs hle
            refine .val H ?_ (show VRel β (.agg _) (.agg rvs) from ⟨rvs, rfl, r2⟩)
            simp [execOp, ho, Instr.loadAt, hv.2, Instr.sureAddr, loadVar, run_isAgg hd, hagg, run_siz hi, r1]
          · cases hx
        · cases hx
      · cases hx
    · rename_i hagg
      injection hc with hc; subst hc
      simp only [AI.exec] at hx
      split at hx
      · rename_i b off hb
        have hv := ev_rel hy hE hb
        simp only [VRel] at hv
        split at hx
        · rename_i cs hcs
          obtain ⟨e1, rfl, rfl⟩ := okOut hx
          obtain ⟨rv, r1, r2⟩ := read1 (P := P) H hcs e1
          refine .val H ?_ r2
          simp [execOp, ho, Instr.loadAt, hv.2, Instr.sureAddr, loadVar, run_isAgg hd, hagg, -run_load, r1]
        · cases hx
      · cases hx
  · cases hc
theorem sound_store (t : TypeId) (x y : Operand) : Sound P (.store t x y) := by
  intro ai β rom h h' w nt nx' env a v o ho hc hE H hx
  simp only [compOp] at hc
  split at hc
  · rename_i n x' y' hn h1 h2
    obtain ⟨i, hi, rfl⟩ := sizeAt_run hn
    injection hc with hc; subst hc
    simp only [AI.exec] at hx
    split at hx
    · rename_i j off u hj hu
      have hv := ev_rel h1 hE hj
      have hw := ev_rel h2 hE hu
      simp only [VRel] at hv
      split at hx
      · rename_i cs t' hcs
        split at hx
        · rename_i hcond
          simp only [Option.some.injEq, Prod.mk.injEq] at hx
          obtain ⟨rfl, rfl, rfl⟩ := hx
          obtain ⟨c1, c2⟩ := hw.cells' hcond.2.2
          obtain ⟨w', g1, g2, g3⟩ := writeN (P := P) H hcs (by rw [hcond.1]; exact hcond.2.1) c1 c2
          refine ⟨.skip, undef, w', β, ?_, rfl, by simp [VRel], g2, g3, rfl⟩
          have hsz : (a.eval y).cells.size = i.size := by rw [← hcond.1, ← Array.length_toList, c1.length]
          have hv2 := hv.2
          simp only [Beta.offOf, Nat.zero_add] at hv2
          simp [execOp, ho, Instr.storeAt, hv2, Instr.sureAddr, storeVar, run_siz hi, hsz, g1]
        · cases hx
      · cases hx
    · cases hx
  · cases hc

theorem sound_nilCheck (x : Operand) : Sound P (.nilCheck x) := by
  intro ai β rom h h' w nt nx' env a v o ho hc hE H hx
  simp only [compOp, Option.map_eq_some_iff] at hc
  obtain ⟨y, hy, rfl⟩ := hc
  simp only [AI.exec] at hx
  split at hx
  · rename_i hb
    have hv' := ev_rel hy hE hb
    have hv := hv'
    simp only [VRel] at hv
    obtain ⟨e1, rfl, rfl⟩ := okOut (o := some _) hx
    injection e1 with e1; subst e1
    exact .val H (by simp [execOp, ho, hv.2]) (hv.2 ▸ hv')
  · rename_i hb
    have hv' := ev_rel hy hE hb
    have hv := hv'
    simp only [VRel] at hv
    obtain ⟨e1, rfl, rfl⟩ := okOut (o := some _) hx
    injection e1 with e1; subst e1
    obtain ⟨rf, rc, hv1, _⟩ := hv
    exact .val H (by simp [execOp, ho, hv1]) (hv1 ▸ hv')
  · rename_i hb
    have hv' := ev_rel hy hE hb
    have hv := hv'
    simp only [VRel] at hv
    obtain ⟨e1, rfl, rfl⟩ := okOut (o := some _) hx
    injection e1 with e1; subst e1
    exact .val H (by simp [execOp, ho, hv.2]) (hv.2 ▸ hv')
  · rename_i hb
    have hv' := ev_rel hy hE hb
    have hv := hv'
    simp only [VRel] at hv
    obtain ⟨e1, rfl, rfl⟩ := okOut (o := some _) hx
    injection e1 with e1; subst e1
    obtain ⟨r, hv1, _⟩ := hv
    exact .val H (by simp [execOp, ho, hv1]) (hv1 ▸ hv')
  · cases hx

theorem sound_fieldAddr (t : TypeId) (x : Operand) (f : Nat) : Sound P (.fieldAddr t x f) := by
  intro ai β rom h h' w nt nx' env a v o ho hc hE H hx
  simp only [compOp] at hc
  split at hc
  · rename_i off n ag y hf hy
    split at hc
    · cases hc
    · rename_i hn0
      injection hc with hc; subst hc
      simp only [AI.exec] at hx
      split at hx
      · rename_i b p hb
        have hv := ev_rel hy hE hb
        simp only [VRel] at hv
        obtain ⟨e1, rfl, rfl⟩ := okOut (o := some _) hx
        injection e1 with e1; subst e1
        unfold fieldOf at hf
        split at hf
        · rename_i fs hfs
          split at hf
          · rename_i g hg
            split at hf
            · rename_i m d hm hd
              simp only [Option.some.injEq, Prod.mk.injEq] at hf
              obtain ⟨rfl, rfl, rfl⟩ := hf
              obtain ⟨i, hi, rfl⟩ := sizeAt_run hm
              refine .val H (rv := .pointer (some ⟨β.blk b, β.offOf b + (p + g.offset), none⟩)) ?_ ?_
              · simp [execOp, ho, Instr.fieldAt, run_und hfs, hg, hv.2, Instr.sureAddr, fieldPlace, run_siz hi, hn0, addr_add, Nat.add_assoc]
              · simp only [VRel]; exact ⟨hv.1, trivial⟩
            · cases hf
          · cases hf
        · cases hf
      · cases hx
  · cases hc

theorem part_run1 {t : TypeId} {d : TypeDesc} {cs : Array Value} {off : Nat} {r : Value} (hd : P.underlying t = some d) (ha : isAggD d = false) (hr : cs[off]? = some r) : (part t cs off).run P w = .ok r w := by
  simp [part, run_isAgg hd, ha, hr]
theorem part_runN {t : TypeId} {d : TypeDesc} {cs : Array Value} {off : Nat} {i : TypeInfo} (hd : P.underlying t = some d) (ha : isAggD d = true) (hi : P.info? t = some i) : (part t cs off).run P w = .ok (.agg (cs.extract off (off + i.size))) w := by
  simp [part, run_isAgg hd, ha, run_siz hi]
theorem extract_rel {cs : List AVal} {rc : Array Value} (hv : VRels β cs rc.toList) (off n : Nat) : VRel β (.agg ((cs.drop off).take n)) (.agg (rc.extract off (off + n))) := by
  refine ⟨_, rfl, ?_⟩
  have := VRels.take (n := n) (VRels.drop (n := off) hv)
  simpa [Array.toList_extract, List.extract_eq_take_drop] using this

theorem sound_field (t : TypeId) (x : Operand) (f : Nat) : Sound P (.field t x f) := by
  intro ai β rom h h' w nt nx' env a v o ho hc hE H hx
  simp only [compOp] at hc
  split at hc
  · rename_i off n ag y hf hy
    unfold fieldOf at hf
    split at hf
    · rename_i fs hfs
      split at hf
      · rename_i g hg
        split at hf
        · rename_i m d hm hd
          simp only [Option.some.injEq, Prod.mk.injEq] at hf
          obtain ⟨rfl, rfl, rfl⟩ := hf
          obtain ⟨i, hi, rfl⟩ := sizeAt_run hm
          split at hc
          · rename_i hag
            injection hc with hc; subst hc
            simp only [AI.exec] at hx
            split at hx
            · rename_i cs hb
              have hv := ev_rel hy hE hb
              simp only [VRel] at hv
              obtain ⟨rc, hv1, hv2⟩ := hv
              split at hx
              · obtain ⟨e1, rfl, rfl⟩ := okOut (o := some _) hx
                injection e1 with e1; subst e1
                refine .val H ?_ (extract_rel hv2 g.offset i.size)
                simp [execOp, ho, Instr.field, run_und hfs, hg, hv1, asAgg, part_runN hd hag hi]
              · cases hx
            · cases hx
          · rename_i hag
            injection hc with hc; subst hc
            simp only [AI.exec] at hx
            split at hx
            · rename_i cs hb
              have hv := ev_rel hy hE hb
              simp only [VRel] at hv
              obtain ⟨rc, hv1, hv2⟩ := hv
              obtain ⟨e1, rfl, rfl⟩ := okOut hx
              obtain ⟨r, hr, hrel⟩ := hv2.get e1
              refine .val H ?_ hrel
              simp [execOp, ho, Instr.field, run_und hfs, hg, hv1, asAgg, part_run1 hd (by simpa using hag) (by rw [← Array.getElem?_toList]; exact hr)]
            · cases hx
        · cases hf
      · cases hf
    · cases hf
  · cases hc

end Go.AL
