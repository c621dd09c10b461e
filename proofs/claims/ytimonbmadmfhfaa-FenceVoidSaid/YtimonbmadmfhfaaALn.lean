/- Helper text: states, and what a piece of code does to them. -/
import Derived.Test.YtimonbmadmfhfaaALm
import Derived.RangeFuncLeaves
import Derived.RangeFuncCalls
namespace Go.AL

/-- Deferred calls: a range over a function's mark; a closure. -/
inductive ADef where
  | coll (b : Bid)
  | clo (f : FuncId) (args : List AVal)

structure St where
  env : Env
  h : Heap
  nx : Nat
  dfs : List ADef

def DfRel (β : Beta) : ADef → Deferred → Prop
  | .coll b, d => β.ok b ∧ d = { target := .collected (β.blk b), args := #[] }
  | .clo f args, d => ∃ given caps, d = { target := .fn (.func f) caps, args := given } ∧ VRels β args (given.toList ++ caps.toList)
def DRel (β : Beta) : List ADef → List Deferred → Prop
  | [], l => l = []
  | x :: xs, l => ∃ d ds, l = d :: ds ∧ DfRel β x d ∧ DRel β xs ds
theorem DRel.ext {β β' : Beta} (e : Ext β β') : ∀ {xs : List ADef} {l : List Deferred}, DRel β xs l → DRel β' xs l
  | [], _, h => h
  | x :: xs, _, ⟨d, ds, h1, h2, h3⟩ => by
    refine ⟨d, ds, h1, ?_, DRel.ext e h3⟩
    cases x with
    | coll b => exact ⟨e.okb h2.1, by rw [e.blk h2.1]; exact h2.2⟩
    | clo f args => obtain ⟨g, c, h4, h5⟩ := h2; exact ⟨g, c, h4, VRels.ext e _ _ h5⟩

variable {P : Program}

structure SRel (P : Program) (β : Beta) (rom : Rom) (nt : Nat) (s : St) (a : Act) (w : World) : Prop where
  nx : β.nx = s.nx
  env : ERel β nt s.env a.tmps
  heap : HRel P β rom s.h w
  dfs : DRel β s.dfs a.defers

/-- The fence: none; within a round, its loop's record. -/
def FF (β : Beta) (rd : Option Bid) : Fence := { Fence.wide with round := rd.map β.blk }
theorem FF_fn (β : Beta) (rd : Option Bid) (f : FuncId) : (FF β rd).fn f := trivial
theorem FF_depth (β : Beta) (rd : Option Bid) : (FF β rd).depth = none := rfl

def Post (P : Program) (rom : Rom) (nt : Nat) (β : Beta) (h : Heap) (w : World) (K : Exit → St → Prop) : Exit → Act → World → Prop :=
  fun e a' w' => ∃ β' s', K e s' ∧ SRel P β' rom nt s' a' w' ∧ Mv β h w β' s'.h w'

/-- What a piece of code does, whatever state of the machine stands behind the abstract one. -/
def T (P : Program) (rom : Rom) (rd : Option Bid) (nt : Nat) (c : Code) (s : St) (K : Exit → St → Prop) : Prop :=
  ∀ β a w, SRel P β rom nt s a w → (∀ b, rd = some b → β.ok b) → c.wpIn (FF β rd) 0 P (Post P rom nt β s.h w K) a w

def CallT (P : Program) (rom : Rom) (f : FuncId) (args : List AVal) (h : Heap) (nx : Nat) (Q : AVal → Heap → Nat → Prop) : Prop :=
  okFun P f = true ∧ ∀ β w rargs, β.nx = nx → HRel P β rom h w → VRels β args rargs.toList → CallsIn Fence.wide 0 P f rargs w fun e w' =>
    ∃ β' v h' rv, e = .returned rv ∧ Q v h' β'.nx ∧ VRel β' v rv ∧ HRel P β' rom h' w' ∧ Mv β h w β' h' w'

def YldT (P : Program) (rom : Rom) (b : Bid) (args : List AVal) (h : Heap) (nx : Nat) (Q : AVal → Heap → Nat → Prop) : Prop :=
  ∀ β w rargs, β.nx = nx → HRel P β rom h w → VRels β args rargs.toList → β.ok b →
    ∃ l f tmps asg body, (Instr.yield (β.blk b) rargs).run P w = .ok (.round l f tmps asg body) w ∧ RoundIn Fence.wide 0 P l f tmps asg body w fun e w' =>
      ∃ β' v h' rv, e = .returned rv ∧ Q v h' β'.nx ∧ VRel β' v rv ∧ HRel P β' rom h' w' ∧ Mv β h w β' h' w'

/-- A function's value is called. -/
def CallV (P : Program) (rom : Rom) (fv : AVal) (args : List AVal) (h : Heap) (nx : Nat) (Q : AVal → Heap → Nat → Prop) : Prop :=
  match fv with
  | .func f first caps => CallT P rom f (first ++ args ++ caps) h nx Q
  | .yld b => YldT P rom b args h nx Q
  | _ => False

def put (env : Env) (d : Option Nat) (v : Option AVal) : Env :=
  match d with
  | some d => upd env d v
  | none => env

abbrev CV := AVal → List AVal → Heap → Nat → (AVal → Heap → Nat → Prop) → Prop

def EAct (rom : Rom) (cv : CV) (rd : Option Bid) (o : AOp) (s : St) (K : St → Prop) : Prop :=
  match o.act with
  | .plain ai => match ai.exec rom s.env s.h s.nx with
    | some (v, h', nx') => K ⟨put s.env o.dst (some v), h', nx', s.dfs⟩
    | none => False
  | .call f args => match f.ev s.env, evs s.env args with
    | some fv, some vs => cv fv vs s.h s.nx fun v h' nx' => K ⟨put s.env o.dst (some v), h', nx', s.dfs⟩
    | _, _ => False
  | .dfr f args => match rd, f.ev s.env, evs s.env args with
    | none, some (.func g first caps), some vs => K ⟨put s.env o.dst none, s.h, s.nx, .clo g (first ++ vs ++ caps) :: s.dfs⟩
    | _, _, _ => False

def EOp (rom : Rom) (cv : CV) (rd : Option Bid) (o : AOp) (s : St) (K : St → Prop) : Prop :=
  match o.guard with
  | none => EAct rom cv rd o s K
  | some (d, want) => match s.env d with
    | some (.bool b) => bif b == want then EAct rom cv rd o s K else K ⟨put s.env o.dst none, s.h, s.nx, s.dfs⟩
    | _ => False

def EOps (rom : Rom) (cv : CV) (rd : Option Bid) : List AOp → St → (St → Prop) → Prop
  | [], s, K => K s
  | o :: os, s, K => EOp rom cv rd o s fun s' => EOps rom cv rd os s' K

/-- A way to meet calls that is true of the machine's. -/
structure CVOk (P : Program) (rom : Rom) (cv : CV) : Prop where
  ok : ∀ fv args h nx Q, cv fv args h nx Q → CallV P rom fv args h nx Q
  mono : ∀ fv args h nx (Q Q' : AVal → Heap → Nat → Prop), (∀ v h' nx', Q v h' nx' → Q' v h' nx') → cv fv args h nx Q → cv fv args h nx Q'

theorem CallT.mono {rom : Rom} {f : FuncId} {args : List AVal} {h : Heap} {nx : Nat} {Q Q' : AVal → Heap → Nat → Prop} (hq : ∀ v h' nx', Q v h' nx' → Q' v h' nx') (hc : CallT P rom f args h nx Q) : CallT P rom f args h nx Q' :=
  ⟨hc.1, fun β w rargs h1 h2 h3 => (hc.2 β w rargs h1 h2 h3).mono fun _ _ ⟨β', v, h', rv, g1, g2, g3⟩ => ⟨β', v, h', rv, g1, hq _ _ _ g2, g3⟩⟩
theorem YldT.mono {rom : Rom} {b : Bid} {args : List AVal} {h : Heap} {nx : Nat} {Q Q' : AVal → Heap → Nat → Prop} (hq : ∀ v h' nx', Q v h' nx' → Q' v h' nx') (hc : YldT P rom b args h nx Q) : YldT P rom b args h nx Q' :=
  fun β w rargs h1 h2 h3 h4 => let ⟨l, f, tmps, asg, body, r1, r2⟩ := hc β w rargs h1 h2 h3 h4
    ⟨l, f, tmps, asg, body, r1, r2.mono fun _ _ ⟨β', v, h', rv, g1, g2, g3⟩ => ⟨β', v, h', rv, g1, hq _ _ _ g2, g3⟩⟩
theorem CallV.mono {rom : Rom} {fv : AVal} {args : List AVal} {h : Heap} {nx : Nat} {Q Q' : AVal → Heap → Nat → Prop} (hq : ∀ v h' nx', Q v h' nx' → Q' v h' nx') (hc : CallV P rom fv args h nx Q) : CallV P rom fv args h nx Q' := by
  unfold CallV at hc ⊢
  split at hc
  · exact hc.mono hq
  · exact hc.mono hq
  · exact hc
theorem CVOk.sem {rom : Rom} : CVOk P rom (CallV P rom) := ⟨fun _ _ _ _ _ h => h, fun _ _ _ _ _ _ hq h => h.mono hq⟩

section
variable {rom : Rom} {nt : Nat} {β : Beta} {s : St} {a : Act} {w : World}

theorem SRel.put {β' : Beta} (R : SRel P β rom nt s a w) (e : Ext β β') {d : Option Nat} (hd : dstOk nt d = true) {v : Option AVal} {rv : Value} (hv : ∀ x, v = some x → VRel β' x rv) :
    ERel β' nt (put s.env d v) (a.put d rv).tmps := by
  have h0 := R.env.ext e
  cases d with
  | none => exact h0
  | some d =>
    simp only [dstOk, decide_eq_true_eq] at hd
    refine ⟨by simpa [Act.put] using h0.size, fun t x hx => ?_⟩
    simp only [AL.put] at hx
    simp only [Act.put]
    by_cases ht : t = d
    · subst ht
      rw [upd_same] at hx
      have : (a.tmps.setIfInBounds t rv).getD t undef = rv := by
        have := h0.size
        simp [Array.getD_eq_getD_getElem?, this, hd]
      rw [this]; exact hv x hx
    · rw [upd_ne _ _ ht] at hx
      have : (a.tmps.setIfInBounds d rv).getD t undef = a.tmps.getD t undef := by
        simp [Array.getD_eq_getD_getElem?, Ne.symm ht]
      rw [this]; exact h0.get t x hx

theorem put_defers (a : Act) (d : Option Nat) (v : Value) : (a.put d v).defers = a.defers := by cases d <;> rfl

theorem yielded_of {ops : Array Oper} {j d : Nat} {b : Bool} (R : SRel P β rom nt s a w) (hj : (ops[j]?).bind (·.dst) = some d) (hb : s.env d = some (.bool b)) : yielded ops a.tmps j = some b := by
  have h1 := R.env.get d _ hb
  simp only [VRel] at h1
  unfold yielded
  rw [hj]
  simp only [Option.bind_some]
  rw [Array.getD_eq_getD_getElem?] at h1
  cases h2 : a.tmps[d]? with
  | none => rw [h2] at h1; simp [undef] at h1
  | some x => rw [h2] at h1; simp at h1; subst h1; rfl

/-- Calls, as the walk meets them. -/
theorem callV_upon {F : Fence} (hF : F.depth = none) (hpl : ∀ f args w R, CallsIn Fence.wide 0 P f args w R → CallsIn F 0 P f args w R)
    (hpr : ∀ l f tmps asg body w R, RoundIn Fence.wide 0 P l f tmps asg body w R → RoundIn F 0 P l f tmps asg body w R)
    {o : Oper} {a : Act} {next : Act → World → Prop} {Q : Exit → Act → World → Prop} {fv : AVal} {vs : List AVal} {rf : Value} {rvs : Array Value} {h : Heap} {K : AVal → Heap → Nat → Prop}
    (hf : VRel β fv rf) (hvs : VRels β vs rvs.toList) (H : HRel P β rom h w) (hc : CallV P rom fv vs h β.nx K)
    (hn : ∀ β' v h' rv w', K v h' β'.nx → VRel β' v rv → HRel P β' rom h' w' → Mv β h w β' h' w' → next (a.put o.dst rv) w') :
    o.uponIn F 0 P a next Q ((do let d ← Deferred.ofValue rf rvs; invoke d.target d.args : Sem Next).run P w) := by
  unfold CallV at hc
  split at hc
  · rename_i f first caps
    obtain ⟨hok, hc⟩ := hc
    unfold okFun at hok
    split at hok
    case h_2 => cases hok
    rename_i fn g1
    simp only [Bool.and_eq_true, Bool.not_eq_true'] at hok
    obtain ⟨g2, g3⟩ := hok
    simp only [VRel] at hf
    obtain ⟨ra, rc, rfl, h2, h3⟩ := hf
    have hrun : (do let d ← Deferred.ofValue (.func (.func f) ra rc) rvs; invoke d.target d.args : Sem Next).run P w = .ok (.enter f (ra ++ rvs ++ rc)) w := by
      have hb : ¬ fn.body = none := by cases hh : fn.body <;> simp [hh] at g2 ⊢
      have g4 : ¬ fn.name = "runtime.NumGoroutine" := by simpa using g3
      simp [Deferred.ofValue, invoke, callFunc, g1, g4, hb]
    rw [hrun, Oper.uponIn_enter]
    refine ⟨by simp [hF], hpl _ _ _ _ ?_⟩
    refine (hc β w (ra ++ rvs ++ rc) rfl H (by simpa using (h2.append hvs).append h3)).mono ?_
    rintro e w' ⟨β', v, h', rv, rfl, q1, q2, q3, q4⟩
    exact hn β' v h' rv w' q1 q2 q3 q4
  · rename_i b
    simp only [VRel] at hf
    obtain ⟨h1, rfl⟩ := hf
    obtain ⟨l, f, tmps, asg, body, g1, g2⟩ := hc β w rvs rfl H hvs h1
    have hrun : (do let d ← Deferred.ofValue (.func (.yield (β.blk b)) #[] #[]) rvs; invoke d.target d.args : Sem Next).run P w = .ok (.round l f tmps asg body) w := by
      simp [Deferred.ofValue, invoke, g1]
    rw [hrun, Oper.uponIn_round]
    refine ⟨by simp [hF], hpr _ _ _ _ _ _ _ ?_⟩
    refine g2.mono ?_
    rintro e w' ⟨β', v, h', rv, rfl, q1, q2, q3, q4⟩
    exact hn β' v h' rv w' q1 q2 q3 q4
  · exact hc.elim

theorem EAct_sound {cv : CV} (hcv : CVOk P rom cv) {rd : Option Bid} {o : Oper} {ao : AOp} {K : St → Prop} {next : Act → World → Prop} {Q : Exit → Act → World → Prop}
    (hc : compAct P o.op = some ao.act) (hdst : ao.dst = o.dst) (hd : dstOk nt o.dst = true) (R : SRel P β rom nt s a w)
    (hE : EAct rom cv rd ao s K) (hK : ∀ β' s' a' w', K s' → SRel P β' rom nt s' a' w' → Mv β s.h w β' s'.h w' → next a' w') :
    o.wpIn (FF β rd) 0 P a w next Q := by
  refine ⟨fun f _ => FF_fn β rd f, ?_⟩
  obtain ⟨adst, op, ty, pos, after, guard⟩ := o
  obtain ⟨dst, act, ag⟩ := ao
  simp only at hc hdst hd
  subst hdst
  unfold EAct at hE
  have plain : ∀ ai, compOp P op = some ai → act = .plain ai → (∀ c, op ≠ .defer c) →
      ({ dst, op, type := ty, pos, after, guard } : Oper).uponIn (FF β rd) 0 P a next Q ((({ dst, op, type := ty, pos, after, guard } : Oper).semAt (FF β rd).round a.eval).run P w) := by
    rintro ai hai rfl hnd
    rw [Oper.semAt_eq _ _ _ hnd]
    simp only at hE
    split at hE
    · rename_i v h' nx' hx
      rw [← R.nx] at hx
      obtain ⟨nxt, rv, w', β', r1, r2, r3, r4, r5, r6⟩ := comp_sound op ai β rom s.h h' w nt nx' s.env a v { dst, op, type := ty, pos, after, guard } rfl hai R.env R.heap hx
      have hfin : next (a.put dst rv) w' := hK β' _ _ _ hE ⟨r6, R.put r5.ext hd (fun x hx => by injection hx with hx; exact hx ▸ r3), r4, by rw [put_defers]; exact R.dfs.ext r5.ext⟩ r5
      rw [r1]
      cases nxt <;> simp [nextVal] at r2
      · subst r2; exact hfin
      · subst r2; exact hfin
    · exact hE.elim
  cases op with
  | call c =>
    obtain ⟨callee, args, ts⟩ := c
    cases callee with
    | value f =>
      simp only [compAct] at hc
      split at hc
      · rename_i g xs h1 h2
        injection hc with hc; subst hc
        simp only at hE
        rw [Oper.semAt_eq _ _ _ (by simp)]
        split at hE
        · rename_i fv vs hfv hvs
          have e1 : (execOp a.eval { dst, op := .call { callee := .value f, args, argTypes := ts }, type := ty, pos, after, guard } : Sem Next) = (do let d ← Deferred.ofValue (a.eval f) (args.map a.eval); invoke d.target d.args : Sem Next) := by
            simp [execOp, resolve]
          rw [e1]
          have hE := hcv.ok _ _ _ _ _ hE
          rw [← R.nx] at hE
          refine callV_upon (F := FF β rd) rfl (fun f args w R h => h) (fun l f tmps asg body w R h => h) (ev_rel h1 R.env hfv) (by simpa using evs_rel R.env h2 hvs) R.heap hE ?_
          intro β' v h' rv w' q1 q2 q3 q4
          exact hK β' _ _ _ q1 ⟨rfl, R.put q4.ext hd (fun x hx => by injection hx with hx; exact hx ▸ q2), q3, by rw [put_defers]; exact R.dfs.ext q4.ext⟩ q4
        · exact hE.elim
      · cases hc
    | invoke r m => simp [compAct, compOp] at hc
    | builtin b =>
      simp only [compAct, Option.map_eq_some_iff] at hc
      obtain ⟨ai, h1, h2⟩ := hc
      exact plain ai h1 h2.symm (by simp)
  | defer c =>
    obtain ⟨callee, args, ts⟩ := c
    cases callee with
    | value f =>
      simp only [compAct] at hc
      split at hc
      · rename_i g xs h1 h2
        injection hc with hc; subst hc
        simp only at hE
        split at hE
        · rename_i gf first caps vs hfv hvs
          have hr := ev_rel h1 R.env hfv
          simp only [VRel] at hr
          obtain ⟨ra, rc, hr1, hr2, hr3⟩ := hr
          have hv := evs_rel R.env h2 hvs
          have e1 : (Oper.semAt (FF β none).round a.eval { dst, op := .defer { callee := .value f, args, argTypes := ts }, type := ty, pos, after, guard } : Sem Next).run P w = .ok (.defer { target := .fn (.func gf) rc, args := ra ++ args.map a.eval }) w := by
            rw [show (FF β none).round = none from rfl, Oper.semAt_none]
            simp [execOp, resolve, hr1, Deferred.ofValue]
          rw [e1, Oper.uponIn_defer]
          refine hK β _ _ w hE ⟨R.nx, ?_, R.heap, ?_⟩ (Mv.refl _ _ _)
          · have := R.put (Ext.refl β) hd (v := none) (rv := undef) (fun x hx => by cases hx)
            cases dst <;> exact this
          · rw [put_defers]
            exact ⟨_, _, rfl, ⟨_, _, rfl, by simpa using (hr2.append hv).append hr3⟩, R.dfs⟩
        · exact hE.elim
      · cases hc
    | invoke r m => simp [compAct, compOp] at hc
    | builtin b => simp [compAct, compOp] at hc
  | _ =>
    simp only [compAct, Option.map_eq_some_iff] at hc
    obtain ⟨ai, h1, h2⟩ := hc
    exact plain ai h1 h2.symm (by simp)

theorem EOp_sound {cv : CV} (hcv : CVOk P rom cv) {rd : Option Bid} {ops : Array Oper} {i : Nat} {o : Oper} {ao : AOp} {K : St → Prop} {next : Act → World → Prop} {Q : Exit → Act → World → Prop}
    (hi : ops[i]? = some o) (hc : compOper P ops nt o = some ao) (R : SRel P β rom nt s a w)
    (hE : EOp rom cv rd ao s K) (hK : ∀ β' s' a' w', K s' → SRel P β' rom nt s' a' w' → Mv β s.h w β' s'.h w' → next a' w') :
    wpOpIn (FF β rd) 0 P ops Q i next a w := by
  unfold compOper at hc
  split at hc
  · cases hc
  · rename_i act hact
    split at hc
    · rename_i hd
      have fin : ∀ ag, ao = ⟨o.dst, act, ag⟩ → EAct rom cv rd ao s K → o.wpIn (FF β rd) 0 P a w next Q := by
        rintro ag rfl hA
        exact EAct_sound hcv hact rfl hd R hA hK
      unfold wpOpIn
      simp only [hi]
      split at hc
      · rename_i hg
        injection hc with hc; subst hc
        unfold EOp at hE
        simp only at hE
        have hw : Region.wanted o (yielded ops a.tmps) = true := by simp [Region.wanted, hg]
        rw [if_pos hw]
        exact fin _ rfl hE
      · rename_i j want hg
        split at hc
        · rename_i d hj
          injection hc with hc; subst hc
          unfold EOp at hE
          simp only at hE
          split at hE
          · rename_i b hb
            have hy := yielded_of R hj hb
            have hw : Region.wanted o (yielded ops a.tmps) = (b == want) := by
              simp only [Region.wanted, hg, hy]
              cases b <;> cases want <;> rfl
            rw [hw]
            cases hbw : b == want with
            | true =>
              rw [hbw] at hE
              simp only [cond_true, if_true] at hE ⊢
              exact fin _ rfl hE
            | false =>
              rw [hbw] at hE
              simp only [cond_false] at hE
              rw [if_neg (by simp)]
              refine ⟨fun f _ => FF_fn β rd f, ?_⟩
              refine hK β _ _ w hE ⟨R.nx, ?_, R.heap, by rw [put_defers]; exact R.dfs⟩ (Mv.refl _ _ _)
              exact R.put (Ext.refl β) hd (fun x hx => by cases hx)
          · exact hE.elim
        · cases hc
    · cases hc

end
end Go.AL
