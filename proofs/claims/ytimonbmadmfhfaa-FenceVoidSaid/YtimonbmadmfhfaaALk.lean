/- Helper text: the abstract operations are the model's, operation for operation (5). -/
import Derived.Test.YtimonbmadmfhfaaALj
namespace Go.AL

variable {P : Program} {β : Beta} {rom : Rom} {h h' : Heap} {w : World} {nt nx' : Nat} {env : Env} {a : Act} {v : AVal} {ai : AI}

theorem wrap64_id {n : Int} (h0 : 0 ≤ n) (h1 : n ≤ 2 ^ 44) : IntKind.i64.wrap n = n := by
  have e1 : n % (18446744073709551616 : Int) = n := Int.emod_eq_of_lt h0 (by omega)
  have e2 : ¬ (n ≥ 9223372036854775808) := by omega
  simp [IntKind.wrap, IntKind.bits, IntKind.signed, e1, e2]

theorem sound_makeSlice (t : TypeId) (x y : Operand) : Sound P (.makeSlice t x y) := by
  intro ai β rom h h' w nt nx' env a v o ho hc hE H hx
  simp only [compOp] at hc
  split at hc
  · rename_i e x' y' hts h1 h2
    split at hc
    · rename_i s k z hs hk hz
      split at hc
      · rename_i hcond
        injection hc with hc; subst hc
        obtain ⟨ti, hi, rfl⟩ := sizeAt_run hs
        obtain ⟨ti', hi', rfl⟩ := bytesAt_run hk
        rw [hi] at hi'; injection hi' with hi'; subst hi'
        obtain ⟨i', zv, g1, g2, g3⟩ := zeroAt_run hz
        rw [hi] at g1; injection g1 with g1; subst g1
        simp only [AI.exec] at hx
        split at hx
        · rename_i l c hl hcp
          have hv := ev_rel h1 hE hl
          have hw := ev_rel h2 hE hcp
          simp only [VRel] at hv hw
          split at hx
          · rename_i hb
            obtain ⟨b1, b2, b3, b4⟩ := hb
            simp only [Option.some.injEq, Prod.mk.injEq] at hx
            obtain ⟨rfl, rfl, rfl⟩ := hx
            have hzl : zv.cells.size = ti.size := by
              have := (cvals_rel (β := β) _ _ g3).length
              simp at this; omega
            have wl := wrap64_id b1 (by omega)
            have wc := wrap64_id (n := c) (by omega) b4
            obtain ⟨k1, k2⟩ := new_cells H (List.flatten (List.replicate c.toNat z)) (List.flatten (List.replicate c.toNat zv.cells.toList)) e (VRels.flatten (cvals_rel _ _ g3) _)
            refine ⟨.value (.slice (some ⟨w.heap.size, 0, none⟩) l.toNat c.toNat), _, _, _, ?_, rfl, new_slice_rel (by omega) (by rw [length_flatten_replicate]; simp [hzl]), k1, k2, rfl⟩
            have t1 : ¬ ((decide (c < 0) || decide ((ti.bytes : Int) * c > 2 ^ 48) || decide (l < 0) || decide (l > c)) = true) := by
              have q1 : decide (c < 0) = false := decide_eq_false (by omega)
              have q2 : decide ((ti.bytes : Int) * c > 2 ^ 48) = false := decide_eq_false (by omega)
              have q3 : decide (l < 0) = false := decide_eq_false (by omega)
              have q4 : decide (l > c) = false := decide_eq_false (by omega)
              rw [q1, q2, q3, q4]; exact Bool.false_ne_true
            simp only [execOp, ho, Instr.makeSlice, hv, hw, Sem.run_bind, run_und hts, Result.andThen_ok, asInt, asIntOf, Sem.run_pure, run_inf hi, wl, wc]
            rw [if_neg t1]
            simp only [Sem.run_bind, run_askRoom, run_siz hi, Result.andThen_ok]
            have e3 : Array.map (fun x => zv.cells[x % zv.cells.size]!) (Array.range (c.toNat * ti.size)) = (List.flatten (List.replicate c.toNat zv.cells.toList)).toArray := by
              apply Array.ext'
              have := range_flatten zv.cells c.toNat
              rw [hzl] at this ⊢; simpa using this
            by_cases h0 : c.toNat * ti.size = 0
            · rw [if_pos h0]
              have hc0 : c.toNat = 0 := by
                rcases Nat.mul_eq_zero.1 h0 with h0 | h0
                · exact h0
                · omega
              have e4 : ∀ f : Nat → Value, Array.map f (Array.range 0) = #[] := fun f => by simp [Array.range]
              rw [h0, hc0]
              simp only [pure_bind, e4]
              rfl
            · rw [if_neg h0]
              simp only [Sem.run_bind, run_zer hi g2, Result.andThen_ok, Sem.run_pure, e3]
              rfl
          · cases hx
        · cases hx
      · cases hc
    · cases hc
  · cases hc

theorem sbound_run {x : Operand} {y : AOpd} {k : IntKind} {l : Int} (hc : compOpd x = some y) (hE : ERel β nt env a.tmps) (hl : y.ev env = some (.int k l)) (h0 : 0 ≤ l) (n : Nat) (h1 : l ≤ n) (code : BoundsCode) :
    (Instr.sliceBound (a.eval x) n code).run P w = .ok l.toNat w := by
  have hv := ev_rel hc hE hl
  simp only [VRel] at hv
  simp [hv, Instr.sliceBound, asIntOf, h0, h1]
theorem loOf_some {y : AOpd} {l : Int} (hl : loOf env (some y) = some l) : ∃ k, y.ev env = some (.int k l) := by
  simp only [loOf] at hl
  split at hl
  · rename_i k m hm
    injection hl with hl; subst hl
    exact ⟨k, hm⟩
  · cases hl
theorem hiEv_some {y : AOpd} {d l : Int} (hl : hiEv env d (some y) = some l) : ∃ k, y.ev env = some (.int k l) := by
  simp only [hiEv] at hl
  split at hl
  · rename_i k m hm
    injection hl with hl; subst hl
    exact ⟨k, hm⟩
  · cases hl

theorem bounds_run {lo hi : Option Operand} {lo' hi' : Option AOpd} {l n : Int} {d cap : Nat} (isS : Bool) (h1 : compOpt lo = some lo') (h2 : compOpt hi = some hi') (hE : ERel β nt env a.tmps)
    (hl : loOf env lo' = some l) (hn : hiEv env (d : Int) hi' = some n) (h0 : 0 ≤ l) (hle : l ≤ n) (hcap : n ≤ cap) :
    (Instr.sliceBounds isS d cap (lo.map a.eval) (hi.map a.eval) none).run P w = .ok (l.toNat, n.toNat, cap) w := by
  cases hi with
  | none =>
    simp [compOpt] at h2; subst h2
    simp [hiEv] at hn; subst hn
    cases lo with
    | none =>
      simp [compOpt] at h1; subst h1
      simp [loOf] at hl; subst hl
      rfl
    | some x =>
      simp only [compOpt, Option.map_eq_some_iff] at h1
      obtain ⟨y, hy, rfl⟩ := h1
      obtain ⟨k, hk⟩ := loOf_some hl
      simp [Instr.sliceBounds, sbound_run (P := P) (w := w) hy hE hk h0 d (by omega)]
  | some z =>
    simp only [compOpt, Option.map_eq_some_iff] at h2
    obtain ⟨u, hu, rfl⟩ := h2
    obtain ⟨k', hk'⟩ := hiEv_some hn
    have hz : ∀ code, (Instr.sliceBound (a.eval z) cap code).run P w = .ok n.toNat w := fun code => sbound_run (P := P) (w := w) hu hE hk' (by omega) cap hcap code
    cases lo with
    | none =>
      simp [compOpt] at h1; subst h1
      simp [loOf] at hl; subst hl
      simp [Instr.sliceBounds, hz]
    | some x =>
      simp only [compOpt, Option.map_eq_some_iff] at h1
      obtain ⟨y, hy, rfl⟩ := h1
      obtain ⟨k, hk⟩ := loOf_some hl
      simp [Instr.sliceBounds, hz, sbound_run (P := P) (w := w) hy hE hk h0 n.toNat (by omega)]

theorem sound_slice (t : TypeId) (x : Operand) (lo hi : Option Operand) : Sound P (.slice t x lo hi none) := by
  intro ai β rom h h' w nt nx' env a v o ho hc hE H hx
  simp only [compOp] at hc
  split at hc
  · rename_i e y l m ht h1 h2 h3
    simp only [Option.map_eq_some_iff] at hc
    obtain ⟨s, hs, rfl⟩ := hc
    obtain ⟨ti, hi', rfl⟩ := sizeAt_run hs
    simp only [AI.exec] at hx
    split at hx
    · rename_i b p z len cap hb
      have hv := ev_rel h1 hE hb
      simp only [VRel] at hv
      obtain ⟨hok, ro, rc, hv1, hv2, hv3, hv4⟩ := hv
      split at hx
      · rename_i lv nv hl hn
        split at hx
        · rename_i hcond
          obtain ⟨e1, rfl, rfl⟩ := okOut (o := some _) hx
          injection e1 with e1; subst e1
          have hb := bounds_run (P := P) (w := w) (cap := rc) true h2 h3 hE hl hn hcond.2.1 hcond.2.2.1 (by omega)
          refine .val H (rv := .slice (if rc = lv.toNat then some ⟨β.blk b, ro, none⟩ else some ⟨β.blk b, ro + lv.toNat * ti.size, none⟩) (nv.toNat - lv.toNat) (rc - lv.toNat)) ?_ ?_
          · simp only [execOp, ho, Option.map_none, Instr.sliceAt, Sem.run_bind, run_und ht, Result.andThen_ok, Instr.slice, hv1, hb, run_siz hi', Sem.run_pure]
            simp only [Option.map_some, addr_add]
          · have e2 : (if rc = lv.toNat then some (⟨β.blk b, ro, none⟩ : Addr) else some ⟨β.blk b, ro + lv.toNat * ti.size, none⟩) = some ⟨β.blk b, if rc = lv.toNat then ro else ro + lv.toNat * ti.size, none⟩ := by split <;> rfl
            rw [e2]
            simp only [VRel]
            refine ⟨hok, _, rc - lv.toNat, by congr 2; omega, by omega, by omega, fun hp => ?_⟩
            have hne : rc ≠ lv.toNat := by omega
            obtain ⟨q1, q2⟩ := hv4 (by omega)
            rw [if_neg hne]
            refine ⟨by rw [q1]; omega, ?_⟩
            cases b with
            | arg i => trivial
            | own i =>
              simp only [Beta.fits] at q2 ⊢
              have hz := hcond.1
              have hk : lv.toNat + (rc - lv.toNat) = rc := by omega
              have : lv.toNat * z + (rc - lv.toNat) * z = rc * z := by rw [← Nat.add_mul, hk]
              rw [← hz]; omega
        · cases hx
      · cases hx
    · rename_i hb
      have hv := ev_rel h1 hE hb
      simp only [VRel] at hv
      split at hx
      · rename_i lv nv hl hn
        split at hx
        · rename_i hcond
          obtain ⟨e1, rfl, rfl⟩ := okOut (o := some _) hx
          injection e1 with e1; subst e1
          obtain ⟨rfl, rfl⟩ := hcond
          have hb := bounds_run (P := P) (w := w) (cap := 0) (d := 0) true h2 h3 hE hl hn (by omega) (by omega) (by omega)
          refine .val H (rv := .slice none 0 0) ?_ (by simp [VRel])
          simp [execOp, ho, Instr.sliceAt, run_und ht, Instr.slice, hv, hb, run_siz hi']
        · cases hx
      · cases hx
    · cases hx
  · rename_i y l m ht h1 h2 h3
    injection hc with hc; subst hc
    simp only [AI.exec] at hx
    split at hx
    · rename_i s hb
      have hv := ev_rel h1 hE hb
      simp only [VRel] at hv
      split at hx
      · rename_i lv nv hl hn
        split at hx
        · rename_i hcond
          obtain ⟨e1, rfl, rfl⟩ := okOut (o := some _) hx
          injection e1 with e1; subst e1
          have hb := bounds_run (P := P) (w := w) (cap := s.size) false h2 h3 hE hl hn hcond.1 hcond.2.1 hcond.2.2
          refine .val H (rv := .string (s.extract lv.toNat nv.toNat)) ?_ (by simp [VRel])
          simp [execOp, ho, Instr.sliceAt, run_und ht, Instr.slice, hv, hb]
        · cases hx
      · cases hx
    · cases hx
  · cases hc

end Go.AL
