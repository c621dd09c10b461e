/- Helper text: append, abstractly. -/
import Derived.Test.YtimonbmadmfhfaaALk
namespace Go.AL

variable {P : Program} {β : Beta} {rom : Rom} {h h' : Heap} {w : World} {nt nx' : Nat} {env : Env} {a : Act} {v : AVal} {ai : AI}

theorem VRel.one {c : AVal} {r : Value} (ho : c.one = true) (hrel : VRel β c r) : oneCellV r = true := by
  cases c <;> simp [AVal.one] at ho <;> simp only [VRel] at hrel <;> first
    | (subst hrel; rfl)
    | (obtain ⟨_, rfl⟩ := hrel; rfl)
    | (obtain ⟨_, _, _, rfl, _⟩ := hrel; rfl)
    | (obtain ⟨_, _, rfl, _⟩ := hrel; rfl)
    | (obtain ⟨_, rfl, _⟩ := hrel; rfl)
theorem VRels.one : ∀ {cs : List AVal} {rs : List Value}, VRels β cs rs → allOne cs = true → ∀ r ∈ rs, oneCellV r = true
  | [], rs, hv, _, r, hr => by simp only [VRels] at hv; subst hv; cases hr
  | c :: cs, rs, hv, ha, r, hr => by
    simp only [VRels] at hv
    obtain ⟨r0, rs0, rfl, h1, h2⟩ := hv
    simp only [allOne, List.all_cons, Bool.and_eq_true] at ha
    rcases List.mem_cons.1 hr with rfl | hr
    · exact VRel.one ha.1 h1
    · exact VRels.one h2 ha.2 r hr

theorem src_run {esz n : Nat} {xv : AVal} {rx : Value} {cs : List AVal} (H : HRel P β rom h w) (hs : srcCells rom h esz xv = some (n, cs)) (hv : VRel β xv rx) :
    (Builtin.lenOf rx).run P w = .ok n w ∧ cs.length = n * esz ∧ ∃ rvs, (Builtin.firstCells esz n rx).run P w = .ok rvs w ∧ VRels β cs rvs.toList := by
  unfold srcCells at hs
  split at hs
  · simp only [Option.some.injEq, Prod.mk.injEq] at hs
    obtain ⟨rfl, rfl⟩ := hs
    simp only [VRel] at hv; subst hv
    exact ⟨rfl, by simp, #[], rfl, VRels.nil⟩
  · rename_i b off z len cap
    split at hs
    · rename_i bc hb
      split at hs
      · rename_i hcond
        simp only [Option.some.injEq, Prod.mk.injEq] at hs
        obtain ⟨rfl, rfl⟩ := hs
        simp only [VRel] at hv
        obtain ⟨_, ro, rc, rfl, h2, _, h4⟩ := hv
        refine ⟨rfl, by simp; omega, ?_⟩
        by_cases h0 : 0 < rc
        · obtain ⟨rfl, _⟩ := h4 h0
          obtain ⟨rvs, g1, g2⟩ := readN (P := P) H hb hcond.2
          exact ⟨rvs, g1, g2⟩
        · have : len = 0 := by omega
          subst this
          refine ⟨#[], ?_, by simpa using VRels.nil⟩
          simp [Builtin.firstCells, loadCells, loadCellsFrom]
      · cases hs
    · cases hs
  · cases hs

theorem growBy_le {newLen : Nat} : ∀ (rounds c : Nat), c ≤ 2 * newLen + 1000 → c < newLen ∨ rounds = 0 ∨ c ≥ newLen → Builtin.growBy newLen rounds c ≤ 2 * newLen + 1000
  | 0, c, h, _ => by simpa [Builtin.growBy] using h
  | r + 1, c, h, _ => by
    simp only [Builtin.growBy]
    split
    · exact h
    · refine growBy_le r _ (by omega) (by omega)
theorem nextcap_le {need cap : Nat} (h : cap < need) : Builtin.nextslicecap need cap ≤ 2 * need + 1000 := by
  unfold Builtin.nextslicecap
  split
  · omega
  · split
    · omega
    · exact growBy_le 4 cap (by omega) (by omega)

/-- A new block whose cells are known as far as they are told. -/
theorem new_cells' (H : HRel P β rom h w) (cs : List AVal) (rvs spare : List Value) (t : TypeId) (hv : VRels β cs rvs) :
    HRel P (β.push w.heap.size (rvs ++ spare).length) rom (upd h β.nx (some (.cells cs t))) (w.alloc (.cells (rvs ++ spare).toArray t)) ∧
    Mv β h w (β.push w.heap.size (rvs ++ spare).length) (upd h β.nx (some (.cells cs t))) (w.alloc (.cells (rvs ++ spare).toArray t)) := by
  refine H.push _ _ _ ?_ (fun i hi => H.rom_lt i hi)
  refine ⟨fun b => by simp [Beta.push], rvs, spare, (0, 0), ?_, VRels.ext (β.push_ext _ _) _ _ hv, by simp [Beta.push], .inl (Nat.le_refl _)⟩
  simp only [Beta.push, if_true]
  exact heap_push_new

theorem setMany_eq {α : Type} : ∀ (vs l : List α) (o : Nat), o + vs.length ≤ l.length → setMany l o vs = l.take o ++ vs ++ l.drop (o + vs.length)
  | [], l, o, _ => by simp [setMany]
  | v :: vs, l, o, h => by
    simp only [List.length_cons] at h
    simp only [setMany]
    rw [setMany_eq vs _ _ (by simp; omega)]
    have h1 : o < l.length := by omega
    rw [List.take_set, List.drop_set_of_lt (by omega)]
    have h2 : (l.take (o + 1)).set o v = l.take o ++ [v] := by
      apply List.ext_getElem
      · simp; omega
      · intro i i1 i2
        simp at i1 i2
        by_cases hi : i = o
        · subst hi; simp [List.getElem_append_right, (by omega : min i l.length = i)]
        · rw [List.getElem_set_ne (by omega), List.getElem_append_left (by simp; omega)]
          simp
    rw [h2]
    simp [Nat.add_assoc, Nat.add_comm 1]

theorem size_zeroCells (z : Array Value) (n : Nat) : (Builtin.zeroCells z n).size = n * z.size := by simp [Builtin.zeroCells]

/-- The grown copy. -/
theorem grow_run {t t' : TypeId} {e : TypeId} {ti : TypeInfo} {zv : Value} {u : Nat} (ht : P.underlying t = some (.slice e)) (ht' : P.underlying t' = some (.slice u)) (hi : P.info? e = some ti) (hz : ti.zero = some zv)
    (hzs : zv.cells.size = ti.size) (hb : ti.bytes ≤ 64) (H : HRel P β rom h w) {base : Option Addr} {sLen sCap n : Nat} {rx : Value} {oldc cs : List AVal} (ty : TypeId)
    (hold : ∀ w', w'.heap = w.heap → ∃ ro, (Builtin.firstCells ti.size sLen (.slice base sLen sCap)).run P w' = .ok ro w' ∧ VRels β oldc ro.toList)
    (hlen : (Builtin.lenOf rx).run P w = .ok n w) (hnew : ∀ w', w'.heap = w.heap → ∃ rn, (Builtin.firstCells ti.size n rx).run P w' = .ok rn w' ∧ VRels β cs rn.toList)
    (hol : oldc.length = sLen * ti.size) (hnl : cs.length = n * ti.size) (hcap : sCap < sLen + n) (hbig : sLen + n ≤ 2 ^ 40) :
    ∃ rv w' tot, (Builtin.append_ #[t, t'] ty #[.slice base sLen sCap, rx]).run P w = .ok rv w' ∧
      VRel (β.push w.heap.size tot) (.slice (.own β.nx) 0 ti.size (sLen + n) (sLen + n)) rv ∧
      HRel P (β.push w.heap.size tot) rom (upd h β.nx (some (.cells (oldc ++ cs) e))) w' ∧ Mv β h w (β.push w.heap.size tot) (upd h β.nx (some (.cells (oldc ++ cs) e))) w' := by
  have hnc := nextcap_le hcap
  have c1 : ¬ (sLen + n ≤ sCap) := by omega
  have c2 : ¬ (((sLen + n : Nat) : Int) > IntKind.i64.max ∧ ((false = true) ∨ ti.bytes = 0)) := by
    rintro ⟨q, _⟩
    simp [IntKind.max, IntKind.bits, IntKind.signed] at q
    omega
  have c3 : ¬ (Builtin.nextslicecap (sLen + n) sCap * ti.bytes > 2 ^ 48) := by
    have : Builtin.nextslicecap (sLen + n) sCap * ti.bytes ≤ (2 * (sLen + n) + 1000) * 64 := Nat.mul_le_mul hnc hb
    omega
  have hf : (Question.appendCap (sLen + n) sCap e).forced = false := rfl
  let newCap := (Question.appendCap (sLen + n) sCap e).cut (w.tape w.drawn (.appendCap (sLen + n) sCap e))
  have hnew1 : sLen + n ≤ newCap := by simp only [newCap, Question.cut]; omega
  obtain ⟨ro, o1, o2⟩ := hold w.drew rfl
  obtain ⟨rn, n1, n2⟩ := hnew w.drew rfl
  have H1 : HRel P β rom h w.drew := H.heap rfl
  have hrol : ro.size = sLen * ti.size := by have := o2.length; simp at this; omega
  have hrnl : rn.size = n * ti.size := by have := n2.length; simp at this; omega
  obtain ⟨k1, k2⟩ := new_cells' H1 (oldc ++ cs) (ro.toList ++ rn.toList) (Builtin.zeroCells zv.cells (newCap - (sLen + n))).toList e (VRels.append o2 n2)
  refine ⟨.slice (some ⟨w.heap.size, 0, none⟩) (sLen + n) newCap, _, _, ?_, ?_, k1, (Mv.heap (β := β) (h := h) (w := w) (w' := w.drew) rfl rfl rfl).trans k2⟩
  · simp only [Builtin.append_, List.getElem?_toArray, List.getElem?_cons_zero, List.getElem?_cons_succ, Sem.run_bind, run_und ht, Result.andThen_ok, run_siz hi, run_und ht', Sem.run_pure]
    simp only [Bool.false_eq_true, if_false, Sem.run_bind, hlen, Result.andThen_ok]
    rw [if_neg c1]
    simp only [Sem.run_bind, run_inf hi, Result.andThen_ok]
    rw [if_neg (by simpa using c2)]
    simp only [Sem.run_bind, run_inf hi, Result.andThen_ok]
    rw [if_neg c3]
    simp only [Sem.run_bind, run_choose, hf, Bool.false_eq_true, if_false, Result.andThen_ok, run_askRoom, Bool.not_false, if_true]
    have e1 : ({ w with drawn := w.drawn + 1 } : World) = w.drew := rfl
    simp only [e1, o1, n1, Result.andThen_ok, run_inf hi, run_zer hi hz, newRow, Sem.run_bind, run_newObj, Sem.run_pure]
    show Result.ok _ _ = Result.ok _ _
    congr 1
    show World.alloc _ _ = World.alloc _ _
    congr 2
    apply Array.ext'
    simp [newCap, List.append_assoc]
  · simp only [VRel]
    refine ⟨Nat.lt_succ_self _, 0, newCap, by rw [push_blk], hnew1, hnew1, fun _ => ⟨by simp [Beta.offOf], ?_⟩⟩
    simp only [Beta.fits, Beta.push, if_true, Nat.zero_add]
    simp only [List.length_append, Array.length_toList, size_zeroCells, hzs, hrol, hrnl]
    rw [← Nat.add_mul, ← Nat.add_mul]
    exact Nat.mul_le_mul_right _ (by omega)

/-- A block gets a new name; the old one is forgotten; its cells may have been written. -/
theorem HRel.move (H : HRel P β rom h w) {i tot : Nat} {o : AObj} {o' : AObj} {w' : World} (hi : h i = some o) (hfp : ∀ b, β.fp i b ↔ b = β.blk (.own i))
    (hsz : w'.heap.size = w.heap.size) (hs : ∀ b, b ≠ β.blk (.own i) → w'.heap[b]? = w.heap[b]?) (hos : w'.os = w.os) (hout : w'.output = w.output)
    (ho : ORel P (β.push (β.blk (.own i)) tot) β.nx w' o') :
    HRel P (β.push (β.blk (.own i)) tot) rom (upd (upd h i none) β.nx (some o')) w' ∧ Mv β h w (β.push (β.blk (.own i)) tot) (upd (upd h i none) β.nx (some o')) w' := by
  have e : Ext β (β.push (β.blk (.own i)) tot) := β.push_ext _ _
  have hlt : ∀ j, h j ≠ none → j < β.nx := fun j hj => by
    cases hh : h j with
    | none => exact absurd hh hj
    | some ob => exact (H.obj j ob hh).1
  have hin : h i ≠ none := by rw [hi]; simp
  have hbi : β.fp i (β.blk (.own i)) := (hfp _).2 rfl
  have hfo : ∀ j b, j ≠ β.nx → ((β.push (β.blk (.own i)) tot).fp j b ↔ β.fp j b) := fun j b hj => by simp [Beta.push, hj]
  have hfn : ∀ b, (β.push (β.blk (.own i)) tot).fp β.nx b ↔ b = β.blk (.own i) := fun b => by simp [Beta.push]
  have hold : ∀ j, j ≠ β.nx → upd (upd h i none) β.nx (some o') j ≠ none → h j ≠ none ∧ j ≠ i := fun j hj hu => by
    rw [upd_ne _ _ hj] at hu
    by_cases hji : j = i
    · subst hji; simp at hu
    · rw [upd_ne _ _ hji] at hu; exact ⟨hu, hji⟩
  have hno : ∀ j, h j ≠ none → j ≠ i → ¬ β.fp j (β.blk (.own i)) := fun j hj hji hf => hji (H.disj j i _ hj hin hf hbi)
  refine ⟨⟨?_, ?_, ?_, ?_, ?_⟩, ⟨e, by omega, ?_, ?_, hos, hout⟩⟩
  · intro j x hx
    by_cases hj : j = β.nx
    · subst hj
      rw [upd_same] at hx; injection hx with hx; subst hx
      exact ⟨Nat.lt_succ_self _, ho⟩
    · obtain ⟨q1, q2⟩ := hold j hj (by rw [hx]; simp)
      rw [upd_ne _ _ hj, upd_ne _ _ q2] at hx
      obtain ⟨h1, h2⟩ := H.obj j x hx
      exact ⟨Nat.lt_succ_of_lt h1, h2.same e h1 (fun b => hfo j b hj) (fun b hb => hs b fun eb => hno j q1 q2 (eb ▸ hb))⟩
  · intro j k b hj hk hfj hfk
    by_cases hj' : j = β.nx
    · by_cases hk' : k = β.nx
      · rw [hj', hk']
      · subst hj'
        rw [hfn] at hfj; subst hfj
        obtain ⟨q1, q2⟩ := hold k hk' hk
        exact absurd ((hfo k _ hk').1 hfk) (hno k q1 q2)
    · by_cases hk' : k = β.nx
      · subst hk'
        rw [hfn] at hfk; subst hfk
        obtain ⟨q1, q2⟩ := hold j hj' hj
        exact absurd ((hfo j _ hj').1 hfj) (hno j q1 q2)
      · exact H.disj j k b (hold j hj' hj).1 (hold k hk' hk).1 ((hfo j b hj').1 hfj) ((hfo k b hk').1 hfk)
  · intro j b hj hf
    rw [hsz]
    by_cases hj' : j = β.nx
    · subst hj'
      rw [hfn] at hf; subst hf
      exact H.bnd i _ hin hbi
    · exact H.bnd j b (hold j hj' hj).1 ((hfo j b hj').1 hf)
  · intro j cs t hr
    exact (H.args j cs t hr).same e (hs _ fun eb => H.argd j i (by rw [hr]; simp) hin (eb ▸ hbi))
  · intro j k hr hk hf
    rw [(e.arg j).1] at hf
    by_cases hk' : k = β.nx
    · subst hk'
      rw [hfn] at hf
      exact H.argd j i hr hin (hf ▸ hbi)
    · exact H.argd j k hr (hold k hk' hk).1 ((hfo k _ hk').1 hf)
  · intro b _ hnb
    exact hs b fun eb => hnb i hin (eb ▸ hbi)
  · intro j b hj hf _
    by_cases hj' : j = β.nx
    · subst hj'
      rw [hfn] at hf; subst hf
      exact ⟨i, hin, hbi⟩
    · exact ⟨j, (hold j hj' hj).1, (hfo j b hj').1 hf⟩

/-- In place. -/
theorem inplace_run {t t' : TypeId} {e : TypeId} {ti : TypeInfo} {u : Nat} (ht : P.underlying t = some (.slice e)) (ht' : P.underlying t' = some (.slice u)) (hi : P.info? e = some ti)
    {base : Addr} {sLen sCap n : Nat} {rx : Value} {rn : Array Value} {w' : World} (ty : TypeId) (hlen : (Builtin.lenOf rx).run P w = .ok n w) (hnew : (Builtin.firstCells ti.size n rx).run P w = .ok rn w) (hcap : sLen + n ≤ sCap)
    (hst : (storeCells (base.add (sLen * ti.size)) rn.toList).run P w = .ok () w') :
    (Builtin.append_ #[t, t'] ty #[.slice (some base) sLen sCap, rx]).run P w = .ok (.slice (some base) (sLen + n) sCap) w' := by
  simp only [Builtin.append_, List.getElem?_toArray, List.getElem?_cons_zero, List.getElem?_cons_succ, Sem.run_bind, run_und ht, Result.andThen_ok, run_siz hi, run_und ht', Sem.run_pure]
  simp only [Bool.false_eq_true, if_false, Sem.run_bind, hlen, Result.andThen_ok]
  rw [if_pos hcap]
  simp only [Bool.not_false, if_true, Sem.run_bind, hnew, Result.andThen_ok, hst, Sem.run_pure]

theorem sound_append {t t' e u : TypeId} {esz bytes : Nat} {z : List AVal} (ht : P.underlying t = some (.slice e)) (ht' : P.underlying t' = some (.slice u)) (hs : sizeAt P e = some esz) (hby : bytesAt P e = some bytes) (hz : zeroAt P e = some z) (hzl : z.length = esz)
    {x y : Operand} {x' y' : AOpd} (hx' : compOpd x = some x') (hy' : compOpd y = some y') (o : Oper) (ho : o.op = .call { callee := .builtin .append, args := #[x, y], argTypes := #[t, t'] })
    (hE : ERel β nt env a.tmps) (H : HRel P β rom h w) (hx : (AI.append e esz bytes x' y').exec rom env h β.nx = some (v, h', nx')) : OpOk P β rom h w ((execOp a.eval o).run P w) v h' nx' := by
  obtain ⟨ti, hi, rfl⟩ := sizeAt_run hs
  obtain ⟨ti', hi', rfl⟩ := bytesAt_run hby
  rw [hi] at hi'; injection hi' with hi'; subst hi'
  obtain ⟨i', zv, g1, g2, g3⟩ := zeroAt_run hz
  rw [hi] at g1; injection g1 with g1; subst g1
  have hzs : zv.cells.size = ti.size := by
    have := (cvals_rel (β := β) _ _ g3).length
    simp at this; omega
  have hrun : (execOp a.eval o).run P w = ((Builtin.append_ #[t, t'] o.type #[a.eval x, a.eval y]).run P w).andThen fun r w' => .ok (.value r) w' := by
    simp [execOp, ho, resolve, invoke, builtin]
  have grow : ∀ {base : Option Addr} {sLen sCap n : Nat} {oldc cs : List AVal} {h0 : Heap}, a.eval x = .slice base sLen sCap → HRel P β rom h0 w → Mv β h w β h0 w →
      (∀ w', w'.heap = w.heap → ∃ ro, (Builtin.firstCells ti.size sLen (.slice base sLen sCap)).run P w' = .ok ro w' ∧ VRels β oldc ro.toList) →
      (Builtin.lenOf (a.eval y)).run P w = .ok n w → (∀ w', w'.heap = w.heap → ∃ rn, (Builtin.firstCells ti.size n (a.eval y)).run P w' = .ok rn w' ∧ VRels β cs rn.toList) →
      oldc.length = sLen * ti.size → cs.length = n * ti.size → sCap < sLen + n → sLen + n ≤ 2 ^ 40 → ti.bytes ≤ 64 →
      OpOk P β rom h w ((execOp a.eval o).run P w) (.slice (.own β.nx) 0 ti.size (sLen + n) (sLen + n)) (upd h0 β.nx (some (.cells (oldc ++ cs) e))) (β.nx + 1) := by
    intro base sLen sCap n oldc cs h0 hxe H0 M0 hold hlen hnew hol hnl hcap hbig hb
    obtain ⟨rv, w', tot, r1, r2, r3, r4⟩ := grow_run ht ht' hi g2 hzs hb H0 o.type hold hlen hnew hol hnl hcap hbig
    refine ⟨.value rv, rv, w', _, ?_, rfl, r2, r3, M0.trans r4, rfl⟩
    rw [hrun, hxe, r1]; rfl
  simp only [AI.exec] at hx
  split at hx
  · rename_i xv hb hxv
    have hv := ev_rel hx' hE hb
    have hw := ev_rel hy' hE hxv
    simp only [VRel] at hv
    split at hx
    · rename_i n cs hsrc
      obtain ⟨s1, s2, rn, s3, s4⟩ := src_run (P := P) H hsrc hw
      split at hx
      · rename_i h0
        obtain ⟨e1, rfl, rfl⟩ := okOut (o := some _) hx
        injection e1 with e1; subst e1
        refine .val H (rv := .slice none 0 0) ?_ (by simp [VRel])
        subst h0
        rw [hrun, hv]
        simp [Builtin.append_, run_und ht, run_und ht', run_siz hi, s1, s3]
      · split at hx
        · rename_i h0 hcond
          simp only [Option.some.injEq, Prod.mk.injEq] at hx
          obtain ⟨rfl, rfl, rfl⟩ := hx
          have := grow (oldc := []) (cs := cs) (n := n) hv H (Mv.refl _ _ _) (fun w' _ => ⟨#[], rfl, VRels.nil⟩) s1
            (fun w' e => let ⟨_, _, rn', t3, t4⟩ := src_run (P := P) (H.heap e) hsrc hw; ⟨rn', t3, t4⟩) (by simp) s2 (by omega) (by omega) hcond.2
          simpa using this
        · cases hx
    · cases hx
  · rename_i i off z' len cap xv hb hxv
    have hv := ev_rel hx' hE hb
    have hw := ev_rel hy' hE hxv
    simp only [VRel] at hv
    obtain ⟨hok, ro, rc, hv1, hv2, hv3, hv4⟩ := hv
    split at hx
    · rename_i n cs old t0 hsrc hold
      obtain ⟨s1, s2, rn, s3, s4⟩ := src_run (P := P) H hsrc hw
      split at hx
      · cases hx
      · rename_i hzz
        have hzz : z' = ti.size := Classical.not_not.1 hzz
        subst hzz
        split at hx
        · -- surely in place
          rename_i hcond
          obtain ⟨c1, c2, c3, c4⟩ := hcond
          simp only [Option.some.injEq, Prod.mk.injEq] at hx
          obtain ⟨rfl, rfl, rfl⟩ := hx
          obtain ⟨q1, q2⟩ := hv4 (by omega)
          simp only [Beta.offOf, Nat.zero_add] at q1
          subst q1
          have hm : (len + n) * ti.size = len * ti.size + n * ti.size := Nat.add_mul _ _ _
          obtain ⟨w', g1, g2, g3⟩ := writeN (P := P) (off := ro + len * ti.size) H hold (by rw [s2]; omega) s4 (VRels.one s4 c3)
          refine ⟨.value (.slice (some ⟨β.blk (.own i), ro, none⟩) (len + n) rc), .slice (some ⟨β.blk (.own i), ro, none⟩) (len + n) rc, w', β, ?_, rfl, ?_, g2, g3, rfl⟩
          · rw [hrun, hv1, inplace_run ht ht' hi o.type s1 s3 (by omega) (by rw [addr_add]; exact g1)]; rfl
          · simp only [VRel]
            exact ⟨hok, ro, rc, rfl, by omega, by omega, fun _ => ⟨by simp [Beta.offOf], q2⟩⟩
        · split at hx
          · -- a new name for what was, or a grown copy
            rename_i hcond
            obtain ⟨rfl, rfl, c3, c4, c5, c6⟩ := hcond
            simp only [Option.some.injEq, Prod.mk.injEq] at hx
            obtain ⟨rfl, rfl, rfl⟩ := hx
            have hdrop : ∀ j ob, upd h i none j = some ob → h j = some ob := fun j ob hj => by
              by_cases hji : j = i
              · subst hji; simp at hj
              · rwa [upd_ne _ _ hji] at hj
            by_cases hfit : len + n ≤ rc
            · obtain ⟨hlt, hfp, pre, spare, fz, p3, p4, p5, p6⟩ := H.obj i _ hold
              have hpl := p4.length
              have hrnl : rn.size = n * ti.size := by have := s4.length; simp at this; omega
              have hm : (len + n) * ti.size = len * ti.size + n * ti.size := Nat.add_mul _ _ _
              have hroom : len * ti.size + rn.toList.length ≤ (pre ++ spare).length := by
                rw [Array.length_toList, hrnl, p5]
                by_cases h0 : 0 < rc
                · obtain ⟨_, q2⟩ := hv4 h0
                  simp only [Beta.fits, Nat.zero_add] at q2
                  have : (len + n) * ti.size ≤ rc * ti.size := Nat.mul_le_mul_right _ hfit
                  omega
                · have e1 : len = 0 := by omega
                  have e2 : n = 0 := by omega
                  simp [e1, e2]
              have hro : 0 < len + n → ro = 0 := fun hp => by have := (hv4 (by omega)).1; simpa [Beta.offOf] using this
              have hst : ∃ w', (storeCells ((⟨β.blk (.own i), ro, none⟩ : Addr).add (len * ti.size)) rn.toList).run P w = .ok () w' ∧
                  w'.heap[β.blk (.own i)]? = some (.cells (setMany (pre ++ spare) (len * ti.size) rn.toList).toArray t0 fz) ∧ w'.heap.size = w.heap.size ∧
                  (∀ x, x ≠ β.blk (.own i) → w'.heap[x]? = w.heap[x]?) ∧ w'.os = w.os ∧ w'.output = w.output := by
                by_cases hp : 0 < len + n
                · have := hro hp; subst this
                  obtain ⟨w', y1, y2, y3, y4, y5, y6⟩ := run_storeCells_at' (P := P) (o := len * ti.size) rn.toList 0 _ w p3 (by simpa using hroom) (by simp at p5 ⊢; rw [p5]; exact p6) (VRels.one s4 c6)
                  exact ⟨w', by rw [addr_add, Nat.zero_add]; exact y1, by simpa using y2, y3, y4, y5, y6⟩
                · have e2 : n = 0 := by omega
                  have e3 : rn.toList = [] := by apply List.eq_nil_of_length_eq_zero; simp [hrnl, e2]
                  rw [e3]
                  exact ⟨w, by simp [storeCells], by simpa [setMany] using p3, rfl, fun _ _ => rfl, rfl, rfl⟩
              obtain ⟨w', y1, y2, y3, y4, y5, y6⟩ := hst
              obtain ⟨r1, r2⟩ := HRel.move (tot := β.tot i) (o' := .cells (old.take (len * ti.size) ++ cs) t0) H hold hfp y3 y4 y5 y6 (by
                refine ⟨fun b => by simp [Beta.push], (pre ++ spare).take (len * ti.size) ++ rn.toList, (pre ++ spare).drop (len * ti.size + rn.toList.length), fz, ?_, ?_, ?_, ?_⟩
                · rw [push_blk, y2, setMany_eq _ _ _ hroom]
                · refine VRels.ext (β.push_ext _ _) _ _ (VRels.append ?_ s4)
                  rw [List.take_append_of_le_length (by omega)]
                  exact VRels.take p4
                · have : (β.push (β.blk (.own i)) (β.tot i)).tot β.nx = β.tot i := by simp [Beta.push]
                  rw [this, ← p5]
                  simp only [List.length_append, List.length_take, List.length_drop] at hroom ⊢
                  omega
                · have : (β.push (β.blk (.own i)) (β.tot i)).tot β.nx = β.tot i := by simp [Beta.push]
                  rw [this]; exact p6)
              refine ⟨.value (.slice (some ⟨β.blk (.own i), ro, none⟩) (len + n) rc), .slice (some ⟨β.blk (.own i), ro, none⟩) (len + n) rc, w', _, ?_, rfl, ?_, r1, r2, rfl⟩
              · rw [hrun, hv1, inplace_run ht ht' hi o.type s1 s3 hfit y1]; rfl
              · simp only [VRel]
                refine ⟨Nat.lt_succ_self _, ro, rc, by rw [push_blk], hfit, hfit, fun hp => ?_⟩
                obtain ⟨q1, q2⟩ := hv4 hp
                refine ⟨by simpa [Beta.offOf] using q1, ?_⟩
                simp only [Beta.fits, Beta.push, if_true] at q2 ⊢
                exact q2
            · refine grow (oldc := old.take (len * ti.size)) (cs := cs) (n := n) hv1 (H.drop hdrop) (Mv.drop hdrop) ?_ s1
                (fun w' e => let ⟨_, _, rn', t3, t4⟩ := src_run (P := P) (H.heap e) hsrc hw; ⟨rn', t3, t4⟩) (by simp; omega) s2 (by omega) c4 c5
              intro w' ew
              by_cases h0 : 0 < rc
              · obtain ⟨q1, _⟩ := hv4 h0
                simp only [Beta.offOf, Nat.zero_add] at q1
                subst q1
                have hbc : blockCells rom h (.own i) = some old := by simp [blockCells, hold]
                obtain ⟨rvs, g1, g2⟩ := readN (P := P) (off := 0) (n := len * ti.size) (H.heap ew) hbc (by omega)
                exact ⟨rvs, by simpa [Builtin.firstCells, Beta.offOf] using g1, by simpa using g2⟩
              · have e1 : len = 0 := by omega
                subst e1
                exact ⟨#[], by simp [Builtin.firstCells, loadCells, loadCellsFrom], by simpa using VRels.nil⟩
          · cases hx
    · cases hx
  · cases hx

end Go.AL
