/- Helper text: the abstract operations are the model's, operation for operation (4). -/
import Derived.Test.YtimonbmadmfhfaaALi
import Derived.Laws.Tables
namespace Go.AL

variable {P : Program} {β : Beta} {rom : Rom} {h h' : Heap} {w : World} {nt nx' : Nat} {env : Env} {a : Act} {v : AVal} {ai : AI}

theorem foldl_setMany (off : Nat) : ∀ (l : List Value) (k : Nat) (cs : Array Value), ((l.zipIdx k).foldl (fun (cs : Array Value) (p : Value × Nat) => cs.setIfInBounds (off + p.2) p.1) cs).toList = setMany cs.toList (off + k) l
  | [], _, _ => rfl
  | v :: vs, k, cs => by
    simp only [List.zipIdx_cons, List.foldl_cons]
    rw [foldl_setMany off vs (k + 1)]
    simp [setMany, Nat.add_assoc]

theorem fill_rel {pl : Nat → Option (Nat × Nat)} (hE : ERel β nt env a.tmps) : ∀ (ps : List (Nat × Operand)) (ys : List (Nat × Nat × AOpd)) (vs : List (Nat × Nat × AVal)) (cs : List AVal) (rcs : Array Value) (out : List AVal),
    compParts P pl ps = some ys → evParts env ys = some vs → VRels β cs rcs.toList → fillA cs vs = some out →
    ∃ rout, Instr.fill pl rcs (ps.map fun q => (q.1, a.eval q.2)) = some rout ∧ VRels β out rout.toList
  | [], ys, vs, cs, rcs, out, hc, he, hv, hf => by
    simp [compParts] at hc; subst hc
    simp [evParts] at he; subst he
    simp [fillA] at hf; subst hf
    exact ⟨rcs, by simp [Instr.fill], hv⟩
  | (i, x) :: ps, ys, vs, cs, rcs, out, hc, he, hv, hf => by
    simp only [compParts] at hc
    split at hc
    · rename_i o n y ys' h1 h2 h3
      injection hc with hc; subst hc
      simp only [evParts] at he
      split at he
      · rename_i u us hu hus
        injection he with he; subst he
        simp only [fillA] at hf
        split at hf
        · rename_i hcond
          have hne : u ≠ .any := by rintro rfl; simp [AVal.isAny] at hcond
          have hr := (ev_rel h2 hE hu).cells hne
          have hlen := hr.length
          have hcl := hv.length
          have hfold : ((a.eval x).cells.zipIdx.foldl (fun (cs : Array Value) (p : Value × Nat) => cs.setIfInBounds (o + p.2) p.1) rcs).toList = setMany rcs.toList o (a.eval x).cells.toList := by
            rw [← Array.foldl_toList, Array.toList_zipIdx]
            simpa using foldl_setMany o (a.eval x).cells.toList 0 rcs
          obtain ⟨rout, g1, g2⟩ := fill_rel hE ps ys' us (setMany cs o u.cells) ((a.eval x).cells.zipIdx.foldl (fun (cs : Array Value) (p : Value × Nat) => cs.setIfInBounds (o + p.2) p.1) rcs) out h3 hus
            (by rw [hfold]; exact VRels.many hv hr) hf
          refine ⟨rout, ?_, g2⟩
          simp only [List.map_cons, Instr.fill, h1]
          have c1 : ¬ ((a.eval x).cells.size ≠ n || o + (a.eval x).cells.size > rcs.size) = true := by
            have e1 : (a.eval x).cells.size = n := by rw [← hcond.1]; simpa using hlen.symm
            have e2 : rcs.size = cs.length := by simpa using hcl.symm
            simp [e1, e2]; omega
          rw [if_neg c1]
          exact g1
        · cases hf
      · cases he
    · cases hc

theorem sound_build (t : TypeId) (ps : Array (Nat × Operand)) : Sound P (.build t ps) := by
  intro ai β rom h h' w nt nx' env a v o ho hc hE H hx
  simp only [compOp] at hc
  have fin : ∀ (pl : Nat → Option (Nat × Nat)) (z : List AVal) (ys : List (Nat × Nat × AOpd)), compParts P pl ps.toList = some ys → zeroAt P t = some z → ai = .build z ys →
      (∀ (zv : Value) (c : Array Value), (zeroValue t).run P w = .ok zv w → Instr.fill pl zv.cells (ps.toList.map fun q => (q.1, a.eval q.2)) = some c → (Instr.build t (ps.map fun (i, x) => (i, a.eval x))).run P w = .ok (.agg c) w) →
      OpOk P β rom h w ((execOp a.eval o).run P w) v h' nx' := by
    rintro pl z ys hys hz rfl hb
    obtain ⟨i, zv, h1, h2, h3⟩ := zeroAt_run hz
    simp only [AI.exec] at hx
    split at hx
    · rename_i us hus
      obtain ⟨e1, rfl, rfl⟩ := okOut hx
      simp only [Option.map_eq_some_iff] at e1
      obtain ⟨out, hout, rfl⟩ := e1
      obtain ⟨rout, g1, g2⟩ := fill_rel hE ps.toList ys us z zv.cells out hys hus (cvals_rel _ _ h3) hout
      refine .val H (rv := .agg rout) ?_ ⟨_, rfl, g2⟩
      have hb := hb zv rout (run_zer h1 h2) g1
      simp [execOp, ho, hb]
    · cases hx
  split at hc
  · rename_i fs z hfs hz
    simp only [Option.bind_eq_some_iff, Option.map_eq_some_iff] at hc
    obtain ⟨pl, hpl, ys, hys, rfl⟩ := hc
    refine fin (pl[·]?) z ys hys hz rfl fun zv c hzv hfill => ?_
    have hp := run_places (P := P) w _ _ hpl
    simp only [Instr.build, Sem.run_bind, hzv, Result.andThen_ok, run_und hfs]
    simp only [bind_pure_comp, Array.mapM_eq_mapM_toList]
    rw [Sem.run_map, hp]
    simp only [Result.andThen_ok]
    have e1 : (ps.map fun (i, x) => (i, a.eval x)).toList = ps.toList.map fun q => (q.1, a.eval q.2) := by simp
    rw [e1]
    have e2 : (fun x : Nat => (pl.toArray)[x]?) = (fun x : Nat => pl[x]?) := by funext x; simp
    rw [e2]
    rw [hfill]; rfl
  · rename_i n e z hfs hz
    simp only [Option.bind_eq_some_iff, Option.map_eq_some_iff] at hc
    obtain ⟨s, hs, ys, hys, rfl⟩ := hc
    obtain ⟨ti, hi, rfl⟩ := sizeAt_run hs
    refine fin _ z ys hys hz rfl fun zv c hzv hfill => ?_
    simp only [Instr.build, Sem.run_bind, hzv, Result.andThen_ok, run_und hfs, run_siz hi]
    have e1 : (ps.map fun (i, x) => (i, a.eval x)).toList = ps.toList.map fun q => (q.1, a.eval q.2) := by simp
    rw [e1]
    rw [hfill]; rfl
  · cases hc

/-- Zero cells, one row behind the other. -/
theorem range_flatten (z : Array Value) : ∀ (n : Nat), ((Array.range (n * z.size)).map (z[· % z.size]!)).toList = List.flatten (List.replicate n z.toList) := by
  intro n
  induction n with
  | zero => simp
  | succ n ih =>
    rw [List.replicate_succ', List.flatten_append, ← ih]
    simp only [Array.toList_map, Array.toList_range, List.flatten_cons, List.flatten_nil, List.append_nil]
    rw [Nat.add_mul, Nat.one_mul, List.range_add, List.map_append]
    congr 1
    rw [List.map_map]
    apply List.ext_getElem
    · simp
    · intro i h1 h2
      simp at h1
      simp [Nat.mod_eq_of_lt h1, h1, Nat.add_comm, Nat.add_mul_mod_self_right]

theorem VRels.flatten {cs : List AVal} {rs : List Value} (hv : VRels β cs rs) : ∀ (n : Nat), VRels β (List.flatten (List.replicate n cs)) (List.flatten (List.replicate n rs))
  | 0 => VRels.nil
  | n + 1 => by
    simp only [List.replicate_succ, List.flatten_cons]
    exact hv.append (VRels.flatten hv n)
theorem length_flatten_replicate {α : Type} (l : List α) : ∀ n, (List.flatten (List.replicate n l)).length = n * l.length
  | 0 => by simp
  | n + 1 => by simp [List.replicate_succ, length_flatten_replicate l n, Nat.add_mul]; omega

theorem new_slice_rel {len cap esz tot : Nat} {b : Nat} (hl : len ≤ cap) (ht : cap * esz ≤ tot) : VRel (β.push b tot) (.slice (.own β.nx) 0 esz len cap) (.slice (some ⟨b, 0, none⟩) len cap) := by
  simp only [VRel]
  refine ⟨Nat.lt_succ_self _, 0, cap, by rw [push_blk], hl, Nat.le_refl _, fun _ => ⟨by simp [Beta.offOf], ?_⟩⟩
  simp [Beta.fits, Beta.push, ht]

theorem sound_buildSlice (t : TypeId) (len : Nat) (ps : Array (Nat × Operand)) : Sound P (.buildSlice t len ps) := by
  intro ai β rom h h' w nt nx' env a v o ho hc hE H hx
  simp only [compOp] at hc
  split at hc
  · rename_i e hts
    split at hc
    · rename_i s z hs hz
      split at hc
      · rename_i hcond
        simp only [Option.map_eq_some_iff] at hc
        obtain ⟨ys, hys, rfl⟩ := hc
        obtain ⟨ti, hi, rfl⟩ := sizeAt_run hs
        obtain ⟨i', zv, h1, h2, h3⟩ := zeroAt_run hz
        rw [hi] at h1; injection h1 with h1; subst h1
        simp only [AI.exec] at hx
        split at hx
        · rename_i us hus
          split at hx
          · rename_i cs hcs
            simp only [Option.some.injEq, Prod.mk.injEq] at hx
            obtain ⟨rfl, rfl, rfl⟩ := hx
            have hzl : zv.cells.size = ti.size := by
              have := (cvals_rel (β := β) _ _ h3).length
              simp at this; omega
            have hbase : VRels β (List.flatten (List.replicate len z)) ((Array.range (len * ti.size)).map (zv.cells[· % zv.cells.size]!)).toList := by
              rw [← hzl, range_flatten]
              exact VRels.flatten (cvals_rel _ _ h3) len
            obtain ⟨rout, g1, g2⟩ := fill_rel hE ps.toList ys us _ _ cs hys hus hbase hcs
            have hrl : rout.size = len * ti.size := by
              have e1 := g2.length
              have e2 : ∀ (us : List (Nat × Nat × AVal)) (c d : List AVal), fillA c us = some d → d.length = c.length := by
                intro us
                induction us with
                | nil => intro c d hf; simp [fillA] at hf; rw [hf]
                | cons u us ih =>
                  obtain ⟨o1, n1, v1⟩ := u
                  intro c d hf
                  simp only [fillA] at hf
                  split at hf
                  · have := ih _ _ hf; simpa using this
                  · cases hf
              have e3 := e2 _ _ _ hcs
              rw [length_flatten_replicate] at e3
              simp at e1
              rw [← e1, e3, hcond.1]
            obtain ⟨k1, k2⟩ := new_cells H cs rout.toList e g2
            refine ⟨.value (.slice (some ⟨w.heap.size, 0, none⟩) len len), _, _, _, ?_, rfl, new_slice_rel (Nat.le_refl _) (by simp [hrl]), k1, k2, rfl⟩
            have e1 : (ps.map fun (i, x) => (i, a.eval x)).toList = ps.toList.map fun q => (q.1, a.eval q.2) := by simp
            have hlim : ¬ (len * ti.size > 2 ^ 24) := by have := hcond.2.2; omega
            simp only [execOp, ho, Instr.buildSlice, Sem.run_bind, run_und hts, Result.andThen_ok, run_siz hi, if_neg hlim, Sem.run_pure]
            by_cases h0 : len * ti.size = 0
            · rw [if_pos h0]
              simp only [pure_bind, e1]
              have e5 : Instr.fill (fun i => some (i * ti.size, ti.size)) ((Array.range (len * ti.size)).map ((#[] : Array Value)[· % (#[] : Array Value).size]!)) (ps.toList.map fun q => (q.1, a.eval q.2)) = some rout := by
                rw [← g1]; congr 1; rw [h0]; simp
              rw [e5]
              simp [newRow]
            · rw [if_neg h0]
              simp only [Sem.run_bind, run_zer hi h2, Sem.run_pure, Result.andThen_ok, e1, g1]
              simp [newRow]
          · cases hx
        · cases hx
      · cases hc
    · cases hc
  · cases hc

end Go.AL
