/- Helper text: ranges over functions, and their rounds. -/
import Derived.Test.YtimonbmadmfhfaaALs
namespace Go.AL

variable {P : Program} {rom : Rom} {nt : Nat} {rd : Option Bid} {s : St} {K : Exit → St → Prop}

/-- The loop's record, and the block of its deferred calls. -/
def rfHeap (s : St) (ps : List Nat) (asg body : ACode) (nt : Nat) : Heap :=
  upd (upd s.h s.nx (some .defs)) (s.nx + 1) (some (.loop .ready none s.env nt ps asg body (.own s.nx)))

/-- What follows when the function that was ranged over has come back. -/
def rfEnd (s : St) (K : Exit → St → Prop) (h2 : Heap) (nx2 : Nat) : Prop :=
  match h2 (s.nx + 1) with
  | some (.loop st pend _ _ _ _ _ _) => gd (match st with | .busy => false | _ => true)
      (match pend with
       | none => K .normal ⟨s.env, upd h2 (s.nx + 1) none, nx2, .coll (.own s.nx) :: s.dfs⟩
       | some .ret => K .ret ⟨s.env, upd h2 (s.nx + 1) none, nx2, .coll (.own s.nx) :: s.dfs⟩
       | some (.exit id) => K (.exit id) ⟨s.env, upd h2 (s.nx + 1) none, nx2, .coll (.own s.nx) :: s.dfs⟩
       | _ => False)
  | _ => False

theorem endLoop_run {w : World} {l : Nat} {r : Loop} (h : w.heap[l]? = some (.loop r)) (hs : r.state ≠ .busy) : (Instr.endLoop l).run P w = .ok r.pending { w with heap := w.heap.setIfInBounds l (.loop { r with state := .exhausted }) } := by
  simp [Instr.endLoop, Instr.getLoop, getObj_run h (by simp), setObj, Sem.run, h, hs]

theorem T_rfunc {cv : CV} (hcv : CVOk P rom cv) {f : Operand} {f' : AOpd} {ps : Array Tmp} {rasg rbody : Code} {asg body : ACode} {g : FuncId} {first caps : List AVal} (hf : compOpd f = some f') (ha : compCode P nt rasg = some asg) (hb : compCode P nt rbody = some body)
    (hv : f'.ev s.env = some (.func g first caps))
    (h : cv (.func g first caps) [.yld (.own (s.nx + 1))] (rfHeap s ps.toList asg body nt) (s.nx + 2) fun _ h2 nx2 => rfEnd s K h2 nx2) : T P rom none nt (.rangeFunc f ps rasg rbody) s K := by
  intro β a w R _
  have hr := ev_rel hf R.env hv
  simp only [VRel] at hr
  obtain ⟨ra, rc, hr1, hr2, hr3⟩ := hr
  refine wpIn_rangeFunc fun fn _ => ?_
  -- the two new blocks
  obtain ⟨H1, M1⟩ := R.heap.push 0 .defs (.deferred (some [])) ⟨fun b => by simp [Beta.push], by simp only [push_blk]; exact heap_push_new⟩ (fun i hi => R.heap.rom_lt i hi)
  let β1 := β.push w.heap.size 0
  let w1 := w.alloc (.deferred (some []))
  let lo : Loop := { state := .ready, pending := none, fn, tmps := a.tmps, params := ps, assign := rasg, body := rbody, defers := w.heap.size }
  have hsz1 : w1.heap.size = w.heap.size + 1 := by simp [w1]
  obtain ⟨H2, M2⟩ := H1.push (w := w1) 0 (.loop .ready none s.env nt ps.toList asg body (.own β.nx)) (.loop lo) (by
    refine ⟨fun b => by simp [Beta.push], fn, a.tmps, rasg, rbody, (R.env.ext (M1.ext.trans (Beta.push_ext _ _ _))), ?_, ha, hb, ?_⟩
    · show β.nx < β.nx + 1 + 1; omega
    · rw [push_blk]
      have : ((β.push w.heap.size 0).push w1.heap.size 0).blk (.own β.nx) = w.heap.size := by
        have := (Beta.push_ext (β.push w.heap.size 0) w1.heap.size 0).own β.nx (Nat.lt_succ_self _)
        rw [this.1, push_blk]
      rw [this]
      exact heap_push_new) (fun i hi => H1.rom_lt i hi)
  let β2 := β1.push w1.heap.size 0
  let w2 := w1.alloc (.loop lo)
  have hnx1 : (β.push w.heap.size 0).nx = s.nx + 1 := by show β.nx + 1 = _; rw [R.nx]
  have M12 := M1.trans M2
  have hh : upd (upd s.h β.nx (some .defs)) (β.push w.heap.size 0).nx (some (.loop .ready none s.env nt ps.toList asg body (.own β.nx))) = rfHeap s ps.toList asg body nt := by
    rw [hnx1, R.nx]; rfl
  rw [hh] at H2 M12
  have hc := hcv.ok _ _ _ _ _ h
  obtain ⟨hok, hc⟩ := hc
  have hnx2 : β2.nx = s.nx + 2 := by show β.nx + 1 + 1 = _; rw [R.nx]
  have hyv : VRel β2 (.yld (.own (s.nx + 1))) (.func (.yield w1.heap.size) #[] #[]) := by
    simp only [VRel]
    refine ⟨by show s.nx + 1 < β2.nx; omega, ?_⟩
    have : β2.blk (.own (s.nx + 1)) = w1.heap.size := by
      show ((β.push w.heap.size 0).push w1.heap.size 0).blk (.own (s.nx + 1)) = _
      rw [← hnx1, push_blk]
    rw [this]
  refine ⟨w1.heap.size, [{ target := .collected w.heap.size, args := #[] }], w2, { target := .fn (.func g) rc, args := ra ++ #[.func (.yield w1.heap.size) #[] #[]] }, w2, g, ra ++ #[.func (.yield w1.heap.size) #[] #[]] ++ rc, w2, ?_, ?_, fun _ _ => trivial, ?_, by simp [FF, Fence.wide], ?_⟩
  · simp [Instr.enterLoop, FF, w1, w2, lo]
  · have ec : ∀ v, a.eval (.const v) = v := fun _ => rfl
    simp [resolve, hr1, Deferred.ofValue, ec]
  · unfold okFun at hok
    split at hok
    case h_2 => cases hok
    rename_i fn' g1
    simp only [Bool.and_eq_true, Bool.not_eq_true'] at hok
    obtain ⟨g2, g3⟩ := hok
    have hb' : ¬ fn'.body = none := by cases hh : fn'.body <;> simp [hh] at g2 ⊢
    have g4 : ¬ fn'.name = "runtime.NumGoroutine" := by simpa using g3
    simp [invoke, callFunc, g1, g4, hb']
  · refine (hc β2 w2 _ hnx2 H2 (by
      have e1 := (VRels.ext M12.ext _ _ hr2).append (VRels.append (VRels.cons hyv VRels.nil) (VRels.ext M12.ext _ _ hr3))
      simpa using e1)).mono ?_
    rintro e w3 ⟨β3, v3, h3, rv3, rfl, q1, q2, q3, q4⟩
    unfold rfEnd at q1
    split at q1
    · rename_i st pend env' nt' ps' a' b' d' hl3
      obtain ⟨q1a', q1b⟩ := gd_iff.1 q1
      have q1a : st ≠ .busy := by intro hst; rw [hst] at q1a'; cases q1a'
      obtain ⟨hlt3, hfp3, fn3, tmps3, ra3, rb3, _, _, _, _, hob3⟩ := q3.obj _ _ hl3
      have hblk : β3.blk (.own (s.nx + 1)) = w1.heap.size := by
        have e1 := (q4.ext.own (s.nx + 1) (by omega)).1
        simp only [VRel] at hyv
        have e2 : β2.blk (.own (s.nx + 1)) = w1.heap.size := by
          show ((β.push w.heap.size 0).push w1.heap.size 0).blk (.own (s.nx + 1)) = _
          rw [← hnx1, push_blk]
        rw [e1, e2]
      rw [hblk] at hob3
      refine ⟨pend, _, endLoop_run hob3 q1a, ?_⟩
      have hbl : w1.heap.size < w3.heap.size := by
        rcases Nat.lt_or_ge w1.heap.size w3.heap.size with h' | h'
        · exact h'
        · simp [Array.getElem?_eq_none h'] at hob3
      have hput := q3.put (o' := .opq fun _ _ => True) (w' := { w3 with heap := w3.heap.setIfInBounds w1.heap.size (.loop { state := .exhausted, pending := pend, fn := fn3, tmps := tmps3, params := ps'.toArray, assign := ra3, body := rb3, defers := β3.blk d' }) }) hl3 hfp3 (by simp)
        (fun b hb => by rw [hblk] at hb; simp [Array.getElem?_setIfInBounds, Ne.symm hb]) rfl rfl ⟨(hfp3 _).2 rfl, trivial⟩
      have hdr : ∀ j ob, upd h3 (s.nx + 1) none j = some ob → upd h3 (s.nx + 1) (some (.opq fun _ _ => True)) j = some ob := fun j ob hj => by
        by_cases hji : j = s.nx + 1
        · subst hji; simp at hj
        · rw [upd_ne _ _ hji] at hj ⊢; exact hj
      have M := M12.trans (q4.trans (hput.2.trans (Mv.drop hdr)))
      have E13 := M12.ext.trans q4.ext
      have hdefs : DRel β3 (.coll (.own s.nx) :: s.dfs) ({ target := .collected w.heap.size, args := #[] } :: a.defers) := by
        refine ⟨_, _, rfl, ⟨?_, ?_⟩, R.dfs.ext E13⟩
        · show s.nx < β3.nx; have := q4.ext.nx; omega
        · have e1 := (q4.ext.own s.nx (by omega)).1
          have e2 : β2.blk (.own s.nx) = w.heap.size := by
            have := ((β.push w.heap.size 0).push_ext w1.heap.size 0).own β.nx (Nat.lt_succ_self _)
            rw [← R.nx]
            show ((β.push w.heap.size 0).push w1.heap.size 0).blk (.own β.nx) = _
            rw [this.1, push_blk]
          rw [e1, e2]
      have hSR : SRel P β3 rom nt ⟨s.env, upd h3 (s.nx + 1) none, β3.nx, .coll (.own s.nx) :: s.dfs⟩ { a with defers := [{ target := .collected w.heap.size, args := #[] }] ++ a.defers } _ :=
        ⟨rfl, R.env.ext E13, hput.1.drop hdr, hdefs⟩
      split at q1b
      · exact ⟨β3, _, q1b, hSR, M⟩
      · exact wpIn_ret ⟨β3, _, q1b, hSR, M⟩
      · exact wpIn_exit ⟨β3, _, q1b, hSR, M⟩
      · exact q1b.elim
    · exact q1.elim

/-! ### A round -/

def putMany (env : Env) : List Nat → List AVal → Env
  | p :: ps, v :: vs => putMany (upd env p (some v)) ps vs
  | _, _ => env

def jumpOf : Exit → Option (Option Code)
  | .normal => some none
  | .ret => some (some .ret)
  | .exit id => some (some (.exit id))
  | _ => none

/-- The end of a round. -/
def roundEnd (i : Nat) (Q : AVal → Heap → Nat → Prop) : Exit → St → Prop := fun e s =>
  match jumpOf e, s.h i with
  | some j, some (.loop _ _ env nt ps a b d) => Q (.bool j.isNone) (upd s.h i (some (.loop (if j.isNone then .ready else .done) j env nt ps a b d))) s.nx
  | _, _ => False
/-- Between the assignment and the body. -/
def roundMid (i : Nat) (TB : St → Prop) : Exit → St → Prop := fun e s =>
  match e, s.h i with
  | .normal, some (.loop .ready pend env nt ps a b d) => TB ⟨s.env, upd s.h i (some (.loop .busy pend env nt ps a b d)), s.nx, s.dfs⟩
  | _, _ => False

theorem ERel.put1 {β : Beta} {env : Env} {tmps : Array Value} {d : Nat} {v : AVal} {r : Value} (h0 : ERel β nt env tmps) (hd : d < nt) (hv : VRel β v r) : ERel β nt (upd env d (some v)) (tmps.setIfInBounds d r) := by
  refine ⟨by simpa using h0.size, fun t x hx => ?_⟩
  by_cases ht : t = d
  · subst ht
    rw [upd_same] at hx
    injection hx with hx
    have : (tmps.setIfInBounds t r).getD t undef = r := by
      have := h0.size
      simp [Array.getD_eq_getD_getElem?, this, hd]
    rw [this]; exact hx ▸ hv
  · rw [upd_ne _ _ ht] at hx
    have : (tmps.setIfInBounds d r).getD t undef = tmps.getD t undef := by
      simp [Array.getD_eq_getD_getElem?, Ne.symm ht]
    rw [this]; exact h0.get t x hx

theorem putMany_rel {β : Beta} : ∀ {ps : List Nat} {vs : List AVal} {rs : List Value} {env : Env} {tmps : Array Value}, ERel β nt env tmps → VRels β vs rs → vs.length = ps.length → (ps.all fun p => decide (p < nt)) = true →
    ERel β nt (putMany env ps vs) ((ps.zip rs).foldl (fun tmps (p : Nat × Value) => tmps.setIfInBounds p.1 p.2) tmps)
  | [], vs, rs, env, tmps, hE, hv, hl, _ => by
    cases vs with
    | nil => exact hE
    | cons v vs => simp at hl
  | p :: ps, vs, rs, env, tmps, hE, hv, hl, hp => by
    cases vs with
    | nil => simp at hl
    | cons v vs =>
      simp only [VRels] at hv
      obtain ⟨r, rs', rfl, h1, h2⟩ := hv
      simp only [List.all_cons, Bool.and_eq_true] at hp
      simp only [List.zip_cons_cons, List.foldl_cons, putMany]
      refine putMany_rel ?_ h2 (by simpa using hl) hp.2
      exact hE.put1 (of_decide_eq_true hp.1) h1

theorem setObj_loop {w : World} {l : Nat} {r : Loop} (h : w.heap[l]? = some (.loop r)) (o : Obj) : (setObj l o).run P w = .ok () { w with heap := w.heap.setIfInBounds l o } := by
  simp [setObj, Sem.run, h]

/-- Another state of a loop's record. -/
theorem loop_put {β : Beta} {h : Heap} {w : World} {i : Nat} {st st' : LoopState} {pend pend' : Option Code} {env : Env} {nt' : Nat} {ps : List Nat} {asg body : ACode} {d : Bid} (H : HRel P β rom h w) (hi : h i = some (.loop st pend env nt' ps asg body d)) :
    ∃ r : Loop, w.heap[β.blk (.own i)]? = some (.loop r) ∧ r.state = st ∧ r.pending = pend ∧
      HRel P β rom (upd h i (some (.loop st' pend' env nt' ps asg body d))) { w with heap := w.heap.setIfInBounds (β.blk (.own i)) (.loop { r with state := st', pending := pend' }) } ∧
      Mv β h w β (upd h i (some (.loop st' pend' env nt' ps asg body d))) { w with heap := w.heap.setIfInBounds (β.blk (.own i)) (.loop { r with state := st', pending := pend' }) } := by
  obtain ⟨hlt, hfp, fn, tmps, ra, rb, h1, h2, h3, h4, hob⟩ := H.obj _ _ hi
  have hbl : β.blk (.own i) < w.heap.size := by
    rcases Nat.lt_or_ge (β.blk (.own i)) w.heap.size with h' | h'
    · exact h'
    · simp [Array.getElem?_eq_none h'] at hob
  refine ⟨_, hob, rfl, rfl, H.put hi hfp (by simp) (fun b hb => by simp [Ne.symm hb]) rfl rfl ?_⟩
  exact ⟨hfp, fn, tmps, ra, rb, h1, h2, h3, h4, by simp [hbl]⟩

theorem yldT_of_T {i : Nat} {pend : Option Code} {env : Env} {nt' : Nat} {ps : List Nat} {asg body : ACode} {d : Bid} {args : List AVal} {h : Heap} {nx : Nat} {Q : AVal → Heap → Nat → Prop} {st : LoopState}
    (hi : h i = some (.loop st pend env nt' ps asg body d)) (hl : args.length = ps.length) (hp : (ps.all fun p => decide (p < nt')) = true)
    (hT : ∀ rasg rbody, compCode P nt' rasg = some asg → compCode P nt' rbody = some body → T P rom (some (.own i)) nt' rasg ⟨putMany env ps args, h, nx, []⟩ (roundMid i fun s' => T P rom (some (.own i)) nt' rbody s' (roundEnd i Q))) :
    YldT P rom (.own i) args h nx Q := by
  intro β w rargs hnx H hv hok
  obtain ⟨hlt, hfp, fn, tmps, ra, rb, h1, h2, h3, h4, hob⟩ := H.obj _ _ hi
  have hsz : rargs.size = ps.length := by have := hv.length; simp at this; omega
  refine ⟨β.blk (.own i), fn, (ps.toArray.zip rargs).foldl (fun tmps (p : Nat × Value) => tmps.setIfInBounds p.1 p.2) tmps, ra, rb, ?_, ?_⟩
  · simp [Instr.yield, Instr.getLoop, getObj_run hob (by simp), hsz]
  · have hT := hT ra rb h3 h4
    have e1 : (ps.toArray.zip rargs).foldl (fun tmps (p : Nat × Value) => tmps.setIfInBounds p.1 p.2) tmps = (ps.zip rargs.toList).foldl (fun tmps (p : Nat × Value) => tmps.setIfInBounds p.1 p.2) tmps := by
      rw [← Array.foldl_toList]; simp
    rw [e1]
    have hE := putMany_rel h1 hv hl hp
    have hb : ∀ b, some (Bid.own i) = some b → β.ok b := fun b hb => by injection hb with hb; exact hb ▸ hok
    have hA := hT β { tmps := (ps.zip rargs.toList).foldl (fun tmps (p : Nat × Value) => tmps.setIfInBounds p.1 p.2) tmps, defers := [] } w ⟨hnx, hE, H, rfl⟩ hb
    refine roundIn_of_wpIn trivial (wpIn_mono hA ?_)
    rintro e a1 w1 ⟨β1, s1, k1, R1, M1⟩
    unfold roundMid at k1
    split at k1
    · rename_i pend1 env1 nt1 ps1 asg1 body1 d1 hi1
      have hbl1 : β1.blk (.own i) = β.blk (.own i) := (M1.ext.own i hlt).1
      obtain ⟨r, r1, r2, r3, H2, M2⟩ := loop_put (st' := .busy) (pend' := pend1) R1.heap hi1
      rw [hbl1] at r1
      refine ⟨{ w1 with heap := w1.heap.setIfInBounds (β.blk (.own i)) (.loop { r with state := .busy }) }, ?_, ?_⟩
      · simp [Instr.beginRound, Instr.getLoop, getObj_run r1 (by simp), setObj_loop r1, r2]
      · have hr : ({ r with state := .busy, pending := pend1 } : Loop) = { r with state := .busy } := by cases r; simp at r3; subst r3; rfl
        rw [hr, hbl1] at H2 M2
        have hb1 := ok_ext M1.ext hb
        have hB := k1 β1 a1 _ ⟨R1.nx, R1.env, H2, R1.dfs⟩ hb1
        have hFF : FF β1 (some (.own i)) = Fence.wide.inRound (β.blk (.own i)) := by simp [FF, Fence.inRound, hbl1]
        rw [hFF] at hB
        refine wpIn_mono hB ?_
        rintro e2 a2 w2 ⟨β2, s2, k2, R2, M3⟩
        unfold roundEnd at k2
        split at k2
        · rename_i j st2 pend2 env2 nt2 ps2 asg2 body2 d2 hj hi2
          have hbl2 : β2.blk (.own i) = β.blk (.own i) := by
            have := (M3.ext.own i (Nat.lt_of_lt_of_le hlt M1.ext.nx)).1
            rw [this, hbl1]
          obtain ⟨r', t1, t2, t3, H4, M4⟩ := loop_put (st' := if j.isNone then .ready else .done) (pend' := j) R2.heap hi2
          rw [hbl2] at t1
          have hend : (Instr.endRound (β.blk (.own i)) j).run P w2 = .ok (.bool j.isNone) { w2 with heap := w2.heap.setIfInBounds (β.blk (.own i)) (.loop { r' with state := if j.isNone then .ready else .done, pending := j }) } := by
            simp [Instr.endRound, Instr.getLoop, getObj_run t1 (by simp), setObj_loop t1]
          rw [hbl2] at H4 M4
          have hfin : ∃ β' v h' rv, Ending.returned (.bool j.isNone) = .returned rv ∧ Q v h' β'.nx ∧ VRel β' v rv ∧ HRel P β' rom h' { w2 with heap := w2.heap.setIfInBounds (β.blk (.own i)) (.loop { r' with state := if j.isNone then .ready else .done, pending := j }) } ∧
              Mv β h w β' h' { w2 with heap := w2.heap.setIfInBounds (β.blk (.own i)) (.loop { r' with state := if j.isNone then .ready else .done, pending := j }) } :=
            ⟨β2, .bool j.isNone, _, _, rfl, by rw [R2.nx]; exact k2, by simp [VRel], H4, M1.trans (M2.trans (M3.trans M4))⟩
          cases e2 <;> simp only [jumpOf] at hj <;> first
            | (injection hj with hj; subst hj; exact ⟨_, _, hend, hfin⟩)
            | cases hj
        · exact k2.elim
    · exact k1.elim

end Go.AL
