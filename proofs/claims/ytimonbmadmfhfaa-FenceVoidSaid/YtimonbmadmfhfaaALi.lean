/- Helper text: the abstract operations are the model's, operation for operation (3). -/
import Derived.Test.YtimonbmadmfhfaaALh
namespace Go.AL

variable {P : Program} {β : Beta} {rom : Rom} {h h' : Heap} {w : World} {nt nx' : Nat} {env : Env} {a : Act} {v : AVal} {ai : AI}

theorem sound_indexAddr (t : TypeId) (x i : Operand) : Sound P (.indexAddr t x i) := by
  intro ai β rom h h' w nt nx' env a v o ho hc hE H hx
  simp only [compOp] at hc
  split at hc
  · rename_i len e y j ht h1 h2
    simp only [Option.map_eq_some_iff] at hc
    obtain ⟨s, hs, rfl⟩ := hc
    obtain ⟨ti, hi, rfl⟩ := sizeAt_run hs
    simp only [AI.exec] at hx
    split at hx
    · rename_i b p k n hb hn
      have hv := ev_rel h1 hE hb
      have hw := ev_rel h2 hE hn
      simp only [VRel] at hv hw
      split at hx
      · rename_i hcond
        obtain ⟨e1, rfl, rfl⟩ := okOut (o := some _) hx
        injection e1 with e1; subst e1
        refine .val H (rv := .pointer (some ⟨β.blk b, β.offOf b + (p + n.toNat * ti.size), none⟩)) ?_ ?_
        · simp [execOp, ho, Instr.indexAt, hw, asIntOf, run_und ht, hv.2, Instr.sureAddr, hcond, run_siz hi, addr_add, Nat.add_assoc]
        · simp only [VRel]; exact ⟨hv.1, trivial⟩
      · cases hx
    · cases hx
  · rename_i e y j ht h1 h2
    simp only [Option.map_eq_some_iff] at hc
    obtain ⟨s, hs, rfl⟩ := hc
    obtain ⟨ti, hi, rfl⟩ := sizeAt_run hs
    simp only [AI.exec] at hx
    split at hx
    · rename_i b p z len cap k n hb hn
      have hv := ev_rel h1 hE hb
      have hw := ev_rel h2 hE hn
      simp only [VRel] at hv hw
      obtain ⟨hok, ro, rc, hv1, hv2, hv3, hv4⟩ := hv
      split at hx
      · rename_i hcond
        obtain ⟨e1, rfl, rfl⟩ := okOut (o := some _) hx
        injection e1 with e1; subst e1
        obtain ⟨rfl, _⟩ := hv4 (by omega)
        refine .val H (rv := .pointer (some ⟨β.blk b, β.offOf b + (p + n.toNat * ti.size), none⟩)) ?_ ?_
        · simp [execOp, ho, Instr.indexAt, hw, asIntOf, run_und ht, hv1, hcond.2, run_siz hi, addr_add, Nat.add_assoc]
        · simp only [VRel]; exact ⟨hok, trivial⟩
      · cases hx
    · cases hx
  · cases hc

theorem sound_index (t : TypeId) (x i : Operand) : Sound P (.index t x i) := by
  intro ai β rom h h' w nt nx' env a v o ho hc hE H hx
  simp only [compOp] at hc
  split at hc
  · rename_i len e y j ht h1 h2
    split at hc
    · rename_i s d hs hd
      obtain ⟨ti, hi, rfl⟩ := sizeAt_run hs
      split at hc
      · rename_i hag
        injection hc with hc; subst hc
        simp only [AI.exec] at hx
        split at hx
        · rename_i cs k n hb hn
          have hv := ev_rel h1 hE hb
          have hw := ev_rel h2 hE hn
          simp only [VRel] at hv hw
          obtain ⟨rc, hv1, hv2⟩ := hv
          split at hx
          · rename_i hcond
            obtain ⟨e1, rfl, rfl⟩ := okOut (o := some _) hx
            injection e1 with e1; subst e1
            refine .val H ?_ (extract_rel hv2 (n.toNat * ti.size) ti.size)
            simp [execOp, ho, Instr.index, hw, asIntOf, run_und ht, hv1, hcond.1, hcond.2.1, run_siz hi, part_runN hd hag hi]
          · cases hx
        · cases hx
      · rename_i hag
        injection hc with hc; subst hc
        simp only [AI.exec] at hx
        split at hx
        · rename_i cs k n hb hn
          have hv := ev_rel h1 hE hb
          have hw := ev_rel h2 hE hn
          simp only [VRel] at hv hw
          obtain ⟨rc, hv1, hv2⟩ := hv
          split at hx
          · rename_i hcond
            obtain ⟨e1, rfl, rfl⟩ := okOut hx
            obtain ⟨r, hr, hrel⟩ := hv2.get e1
            refine .val H ?_ hrel
            simp [execOp, ho, Instr.index, hw, asIntOf, run_und ht, hv1, hcond, run_siz hi, part_run1 hd (by simpa using hag) (by rw [← Array.getElem?_toList]; exact hr)]
          · cases hx
        · cases hx
    · cases hc
  · rename_i y j ht h1 h2
    injection hc with hc; subst hc
    simp only [AI.exec] at hx
    split at hx
    · rename_i s k n hb hn
      have hv := ev_rel h1 hE hb
      have hw := ev_rel h2 hE hn
      simp only [VRel] at hv hw
      split at hx
      · rename_i hcond
        obtain ⟨e1, rfl, rfl⟩ := okOut (o := some _) hx
        injection e1 with e1; subst e1
        have hlt : n.toNat < s.size := by omega
        refine .val H (rv := .int .u8 (s.get! n.toNat).toNat) ?_ (by simp [VRel])
        have : s[n.toNat]? = some (s.get! n.toNat) := by
          rw [getElem?_pos s n.toNat hlt]
          congr 1
          show s.get n.toNat hlt = s.get! n.toNat
          cases s with
          | mk bs =>
            simp only [ByteArray.get, ByteArray.get!]
            exact (getElem!_pos bs n.toNat hlt).symm
        have h3 : s[n.toNat] = s.get! n.toNat := by rw [getElem?_pos s n.toNat hlt] at this; injection this
        simp [execOp, ho, Instr.index, hw, asIntOf, run_und ht, hv, hcond, h3]
      · cases hx
    · cases hx
  · cases hc

theorem sound_extract (x : Operand) (i : Nat) : Sound P (.extract x i) := by
  intro ai β rom h h' w nt nx' env a v o ho hc hE H hx
  simp only [compOp, Option.map_eq_some_iff] at hc
  obtain ⟨y, hy, rfl⟩ := hc
  simp only [AI.exec] at hx
  split at hx
  · rename_i vs hb
    have hv := ev_rel hy hE hb
    simp only [VRel] at hv
    obtain ⟨rc, hv1, hv2⟩ := hv
    obtain ⟨e1, rfl, rfl⟩ := okOut hx
    obtain ⟨r, hr, hrel⟩ := hv2.get e1
    refine .val H ?_ hrel
    have hr' : rc[i]? = some r := by rw [← Array.getElem?_toList]; exact hr
    simp [execOp, ho, Instr.extract, hv1, hr']
  · cases hx

theorem sound_makeFunc (f : FuncId) (first caps : Array Operand) : Sound P (.makeFunc (.func f) first caps) := by
  intro ai β rom h h' w nt nx' env a v o ho hc hE H hx
  simp only [compOp] at hc
  split at hc
  · rename_i fs cs h1 h2
    injection hc with hc; subst hc
    simp only [AI.exec] at hx
    split at hx
    · rename_i p q hp hq
      obtain ⟨e1, rfl, rfl⟩ := okOut (o := some _) hx
      injection e1 with e1; subst e1
      refine .val H (rv := .func (.func f) (first.map a.eval) (caps.map a.eval)) ?_ ?_
      · simp [execOp, ho, Instr.makeFunc]
      · simp only [VRel]
        exact ⟨_, _, rfl, by simpa using evs_rel hE h1 hp, by simpa using evs_rel hE h2 hq⟩
    · cases hx
  · cases hc

theorem sound_makeMap (t : TypeId) : Sound P (.makeMap t none) := by
  intro ai β rom h h' w nt nx' env a v o ho hc hE H hx
  simp only [compOp, Option.some.injEq] at hc
  subst hc
  simp only [AI.exec, Option.some.injEq, Prod.mk.injEq] at hx
  obtain ⟨rfl, rfl, rfl⟩ := hx
  obtain ⟨g1, g2⟩ := H.push 0 (.map [] 0) (.map #[] 0) ⟨fun b => by simp [Beta.push], #[], by simp only [push_blk]; exact heap_push_new, rfl⟩ (fun i hi => H.rom_lt i hi)
  refine ⟨.value (.map (some w.heap.size)), _, _, _, ?_, rfl, ?_, g1, g2, rfl⟩
  · simp [execOp, ho, Instr.makeMap]
  · simp only [VRel]
    exact ⟨Nat.lt_succ_self _, by rw [push_blk]⟩

theorem sound_lenS {t : TypeId} {e : TypeId} (ht : P.underlying t = some (.slice e)) {x : Operand} {y : AOpd} (hy : compOpd x = some y) (o : Oper) (ho : o.op = .call { callee := .builtin .len, args := #[x], argTypes := #[t] })
    (hE : ERel β nt env a.tmps) (H : HRel P β rom h w) (hx : (AI.lenS y).exec rom env h β.nx = some (v, h', nx')) : OpOk P β rom h w ((execOp a.eval o).run P w) v h' nx' := by
  simp only [AI.exec] at hx
  split at hx
  · rename_i b p z len cap hb
    have hv := ev_rel hy hE hb
    simp only [VRel] at hv
    obtain ⟨_, ro, rc, hv1, _⟩ := hv
    obtain ⟨e1, rfl, rfl⟩ := okOut (o := some _) hx
    injection e1 with e1; subst e1
    exact .val H (by simp [execOp, ho, resolve, invoke, builtin, Builtin.len_, run_und ht, hv1, goInt]; rfl) (by simp [VRel])
  · rename_i hb
    have hv := ev_rel hy hE hb
    simp only [VRel] at hv
    obtain ⟨e1, rfl, rfl⟩ := okOut (o := some _) hx
    injection e1 with e1; subst e1
    exact .val H (by simp [execOp, ho, resolve, invoke, builtin, Builtin.len_, run_und ht, hv, goInt]; rfl) (by simp [VRel])
  · cases hx
theorem sound_lenStr {t : TypeId} (ht : P.underlying t = some .string) {x : Operand} {y : AOpd} (hy : compOpd x = some y) (o : Oper) (ho : o.op = .call { callee := .builtin .len, args := #[x], argTypes := #[t] })
    (hE : ERel β nt env a.tmps) (H : HRel P β rom h w) (hx : (AI.lenStr y).exec rom env h β.nx = some (v, h', nx')) : OpOk P β rom h w ((execOp a.eval o).run P w) v h' nx' := by
  simp only [AI.exec] at hx
  split at hx
  · rename_i b hb
    have hv := ev_rel hy hE hb
    simp only [VRel] at hv
    obtain ⟨e1, rfl, rfl⟩ := okOut (o := some _) hx
    injection e1 with e1; subst e1
    exact .val H (by simp [execOp, ho, resolve, invoke, builtin, Builtin.len_, run_und ht, hv, goInt]; rfl) (by simp [VRel])
  · cases hx
theorem EntriesRel.length : ∀ {as : List (AVal × AVal × Nat)} {l : List MapEntry}, EntriesRel β as l → l.length = as.length
  | [], l, h => by simp only [EntriesRel] at h; simp [h]
  | _ :: _, _, ⟨_, _, h1, _, h3⟩ => by simp [h1, h3.length]
theorem getObj_run {b : Nat} {ob : Obj} (hb : w.heap[b]? = some ob) (hn : ∀ c e f, ob ≠ .cells c e f) : (getObj b).run P w = .ok ob w := by
  cases ob <;> first | exact absurd rfl (hn _ _ _) | simp [getObj, Sem.run, hb]
theorem sound_lenM {t k e : TypeId} (ht : P.underlying t = some (.map k e)) {x : Operand} {y : AOpd} (hy : compOpd x = some y) (o : Oper) (ho : o.op = .call { callee := .builtin .len, args := #[x], argTypes := #[t] })
    (hE : ERel β nt env a.tmps) (H : HRel P β rom h w) (hx : (AI.lenM y).exec rom env h β.nx = some (v, h', nx')) : OpOk P β rom h w ((execOp a.eval o).run P w) v h' nx' := by
  simp only [AI.exec] at hx
  split at hx
  · rename_i hb
    have hv := ev_rel hy hE hb
    simp only [VRel] at hv
    obtain ⟨e1, rfl, rfl⟩ := okOut (o := some _) hx
    injection e1 with e1; subst e1
    exact .val H (by simp [execOp, ho, resolve, invoke, builtin, Builtin.len_, run_und ht, hv, goInt]; rfl) (by simp [VRel])
  · rename_i i hb
    have hv := ev_rel hy hE hb
    simp only [VRel] at hv
    split at hx
    · rename_i es clock hi
      obtain ⟨e1, rfl, rfl⟩ := okOut (o := some _) hx
      injection e1 with e1; subst e1
      obtain ⟨_, _, res, g1, g2⟩ := H.obj i _ hi
      refine .val H (rv := .int .i64 es.length) ?_ (by simp [VRel])
      have hl : res.size = es.length := by have := g2.length; simpa using this
      simp [execOp, ho, resolve, invoke, builtin, Builtin.len_, run_und ht, hv.2, goInt, getObj_run g1 (by simp), hl]
    · cases hx
  · cases hx
theorem sound_min {x x' : Operand} {y y' : AOpd} (hy : compOpd x = some y) (hy' : compOpd x' = some y') (ts : Array TypeId) (o : Oper) (ho : o.op = .call { callee := .builtin .min, args := #[x, x'], argTypes := ts })
    (hE : ERel β nt env a.tmps) (H : HRel P β rom h w) (hx : (AI.min y y').exec rom env h β.nx = some (v, h', nx')) : OpOk P β rom h w ((execOp a.eval o).run P w) v h' nx' := by
  simp only [AI.exec] at hx
  split at hx
  · rename_i k m k' n hm hn
    have hv := ev_rel hy hE hm
    have hw := ev_rel hy' hE hn
    simp only [VRel] at hv hw
    split at hx
    · obtain ⟨e1, rfl, rfl⟩ := okOut (o := some _) hx
      injection e1 with e1; subst e1
      exact .val H (by simp [execOp, ho, resolve, invoke, builtin, Builtin.min_, Builtin.min2, hv, hw]; rfl) (by simp [VRel])
    · cases hx
  · cases hx
theorem sound_max {x x' : Operand} {y y' : AOpd} (hy : compOpd x = some y) (hy' : compOpd x' = some y') (ts : Array TypeId) (o : Oper) (ho : o.op = .call { callee := .builtin .max, args := #[x, x'], argTypes := ts })
    (hE : ERel β nt env a.tmps) (H : HRel P β rom h w) (hx : (AI.max y y').exec rom env h β.nx = some (v, h', nx')) : OpOk P β rom h w ((execOp a.eval o).run P w) v h' nx' := by
  simp only [AI.exec] at hx
  split at hx
  · rename_i k m k' n hm hn
    have hv := ev_rel hy hE hm
    have hw := ev_rel hy' hE hn
    simp only [VRel] at hv hw
    split at hx
    · obtain ⟨e1, rfl, rfl⟩ := okOut (o := some _) hx
      injection e1 with e1; subst e1
      exact .val H (by simp [execOp, ho, resolve, invoke, builtin, Builtin.max_, Builtin.max2, hv, hw]; rfl) (by simp [VRel])
    · cases hx
  · cases hx

end Go.AL
