import Derived.Test.YthcaiahfifpdiaaL0
import Derived.RangeFuncLeaves
import Derived.RangeFuncCalls
import Derived.WalkKit
import Derived.ProofKit
import Derived.OpenShut
set_option linter.unusedVariables false

/- Helper text: states, and what a piece of code does to them. -/
namespace Go.AL

/-- Deferred calls: a range over a function's mark; a closure. -/
inductive ADef where
  | coll (b : Bid)
  | clo (f : FuncId) (args : List AVal)

structure St where
  env : Env
  h : Heap
  nx : Nat
  dfs : List ADef

def DfRel (β : Beta) : ADef → Deferred → Prop
  | .coll b, d => β.ok b ∧ d = { target := .collected (β.blk b), args := #[] }
  | .clo f args, d => ∃ given caps, d = { target := .fn (.func f) caps, args := given } ∧ VRels β args (given.toList ++ caps.toList)
def DRel (β : Beta) : List ADef → List Deferred → Prop
  | [], l => l = []
  | x :: xs, l => ∃ d ds, l = d :: ds ∧ DfRel β x d ∧ DRel β xs ds
theorem DRel.ext {β β' : Beta} (e : Ext β β') : ∀ {xs : List ADef} {l : List Deferred}, DRel β xs l → DRel β' xs l
  | [], _, h => h
  | x :: xs, _, ⟨d, ds, h1, h2, h3⟩ => by
    refine ⟨d, ds, h1, ?_, DRel.ext e h3⟩
    cases x with
    | coll b => exact ⟨e.okb h2.1, by rw [e.blk h2.1]; exact h2.2⟩
    | clo f args => obtain ⟨g, c, h4, h5⟩ := h2; exact ⟨g, c, h4, VRels.ext e _ _ h5⟩

variable {P : Program}

structure SRel (P : Program) (β : Beta) (rom : Rom) (nt : Nat) (s : St) (a : Act) (w : World) : Prop where
  nx : β.nx = s.nx
  env : ERel β nt s.env a.tmps
  heap : HRel P β rom s.h w
  dfs : DRel β s.dfs a.defers

/-- The fence: none; within a round, its loop's record. -/
def FF (β : Beta) (rd : Option Bid) : Fence := { Fence.wide with round := rd.map β.blk }
theorem FF_fn (β : Beta) (rd : Option Bid) (f : FuncId) : (FF β rd).fn f := trivial
theorem FF_depth (β : Beta) (rd : Option Bid) : (FF β rd).depth = none := rfl

def Post (P : Program) (rom : Rom) (nt : Nat) (β : Beta) (h : Heap) (w : World) (K : Exit → St → Prop) : Exit → Act → World → Prop :=
  fun e a' w' => ∃ β' s', K e s' ∧ SRel P β' rom nt s' a' w' ∧ Mv β h w β' s'.h w'

/-- What a piece of code does, whatever state of the machine stands behind the abstract one. -/
def T (P : Program) (rom : Rom) (rd : Option Bid) (nt : Nat) (c : Code) (s : St) (K : Exit → St → Prop) : Prop :=
  ∀ β a w, SRel P β rom nt s a w → (∀ b, rd = some b → β.ok b) → c.wpIn (FF β rd) 0 P (Post P rom nt β s.h w K) a w

def CallT (P : Program) (rom : Rom) (f : FuncId) (args : List AVal) (h : Heap) (nx : Nat) (Q : AVal → Heap → Nat → Prop) : Prop :=
  okFun P f = true ∧ ∀ β w rargs, β.nx = nx → HRel P β rom h w → VRels β args rargs.toList → CallsIn Fence.wide 0 P f rargs w fun e w' =>
    ∃ β' v h' rv, e = .returned rv ∧ Q v h' β'.nx ∧ VRel β' v rv ∧ HRel P β' rom h' w' ∧ Mv β h w β' h' w'

def YldT (P : Program) (rom : Rom) (b : Bid) (args : List AVal) (h : Heap) (nx : Nat) (Q : AVal → Heap → Nat → Prop) : Prop :=
  ∀ β w rargs, β.nx = nx → HRel P β rom h w → VRels β args rargs.toList → β.ok b →
    ∃ l f tmps asg body, (Instr.yield (β.blk b) rargs).run P w = .ok (.round l f tmps asg body) w ∧ RoundIn Fence.wide 0 P l f tmps asg body w fun e w' =>
      ∃ β' v h' rv, e = .returned rv ∧ Q v h' β'.nx ∧ VRel β' v rv ∧ HRel P β' rom h' w' ∧ Mv β h w β' h' w'

/-- A function's value is called. -/
def CallV (P : Program) (rom : Rom) (fv : AVal) (args : List AVal) (h : Heap) (nx : Nat) (Q : AVal → Heap → Nat → Prop) : Prop :=
  match fv with
  | .func f first caps => CallT P rom f (first ++ args ++ caps) h nx Q
  | .yld b => YldT P rom b args h nx Q
  | _ => False

def put (env : Env) (d : Option Nat) (v : Option AVal) : Env :=
  match d with
  | some d => upd env d v
  | none => env

abbrev CV := AVal → List AVal → Heap → Nat → (AVal → Heap → Nat → Prop) → Prop

def EAct (rom : Rom) (cv : CV) (rd : Option Bid) (o : AOp) (s : St) (K : St → Prop) : Prop :=
  match o.act with
  | .plain ai => match ai.exec rom s.env s.h s.nx with
    | some (v, h', nx') => K ⟨put s.env o.dst (some v), h', nx', s.dfs⟩
    | none => False
  | .call f args => match f.ev s.env, evs s.env args with
    | some fv, some vs => cv fv vs s.h s.nx fun v h' nx' => K ⟨put s.env o.dst (some v), h', nx', s.dfs⟩
    | _, _ => False
  | .dfr f args => match rd, f.ev s.env, evs s.env args with
    | none, some (.func g first caps), some vs => K ⟨put s.env o.dst none, s.h, s.nx, .clo g (first ++ vs ++ caps) :: s.dfs⟩
    | _, _, _ => False

def EOp (rom : Rom) (cv : CV) (rd : Option Bid) (o : AOp) (s : St) (K : St → Prop) : Prop :=
  match o.guard with
  | none => EAct rom cv rd o s K
  | some (d, want) => match s.env d with
    | some (.bool b) => bif b == want then EAct rom cv rd o s K else K ⟨put s.env o.dst none, s.h, s.nx, s.dfs⟩
    | _ => False

def EOps (rom : Rom) (cv : CV) (rd : Option Bid) : List AOp → St → (St → Prop) → Prop
  | [], s, K => K s
  | o :: os, s, K => EOp rom cv rd o s fun s' => EOps rom cv rd os s' K

/-- A way to meet calls that is true of the machine's. -/
structure CVOk (P : Program) (rom : Rom) (cv : CV) : Prop where
  ok : ∀ fv args h nx Q, cv fv args h nx Q → CallV P rom fv args h nx Q
  mono : ∀ fv args h nx (Q Q' : AVal → Heap → Nat → Prop), (∀ v h' nx', Q v h' nx' → Q' v h' nx') → cv fv args h nx Q → cv fv args h nx Q'

theorem CallT.mono {rom : Rom} {f : FuncId} {args : List AVal} {h : Heap} {nx : Nat} {Q Q' : AVal → Heap → Nat → Prop} (hq : ∀ v h' nx', Q v h' nx' → Q' v h' nx') (hc : CallT P rom f args h nx Q) : CallT P rom f args h nx Q' :=
  ⟨hc.1, fun β w rargs h1 h2 h3 => (hc.2 β w rargs h1 h2 h3).mono fun _ _ ⟨β', v, h', rv, g1, g2, g3⟩ => ⟨β', v, h', rv, g1, hq _ _ _ g2, g3⟩⟩
theorem YldT.mono {rom : Rom} {b : Bid} {args : List AVal} {h : Heap} {nx : Nat} {Q Q' : AVal → Heap → Nat → Prop} (hq : ∀ v h' nx', Q v h' nx' → Q' v h' nx') (hc : YldT P rom b args h nx Q) : YldT P rom b args h nx Q' :=
  fun β w rargs h1 h2 h3 h4 => let ⟨l, f, tmps, asg, body, r1, r2⟩ := hc β w rargs h1 h2 h3 h4
    ⟨l, f, tmps, asg, body, r1, r2.mono fun _ _ ⟨β', v, h', rv, g1, g2, g3⟩ => ⟨β', v, h', rv, g1, hq _ _ _ g2, g3⟩⟩
theorem CallV.mono {rom : Rom} {fv : AVal} {args : List AVal} {h : Heap} {nx : Nat} {Q Q' : AVal → Heap → Nat → Prop} (hq : ∀ v h' nx', Q v h' nx' → Q' v h' nx') (hc : CallV P rom fv args h nx Q) : CallV P rom fv args h nx Q' := by
  unfold CallV at hc ⊢
  split at hc
  · exact hc.mono hq
  · exact hc.mono hq
  · exact hc
theorem CVOk.sem {rom : Rom} : CVOk P rom (CallV P rom) := ⟨fun _ _ _ _ _ h => h, fun _ _ _ _ _ _ hq h => h.mono hq⟩

section
variable {rom : Rom} {nt : Nat} {β : Beta} {s : St} {a : Act} {w : World}

theorem SRel.put {β' : Beta} (R : SRel P β rom nt s a w) (e : Ext β β') {d : Option Nat} (hd : dstOk nt d = true) {v : Option AVal} {rv : Value} (hv : ∀ x, v = some x → VRel β' x rv) :
    ERel β' nt (put s.env d v) (a.put d rv).tmps := by
  have h0 := R.env.ext e
  cases d with
  | none => exact h0
  | some d =>
    simp only [dstOk, decide_eq_true_eq] at hd
    refine ⟨by simpa [Act.put] using h0.size, fun t x hx => ?_⟩
    simp only [AL.put] at hx
    simp only [Act.put]
    by_cases ht : t = d
    · subst ht
      rw [upd_same] at hx
      have : (a.tmps.setIfInBounds t rv).getD t undef = rv := by
        have := h0.size
        simp [Array.getD_eq_getD_getElem?, this, hd]
      rw [this]; exact hv x hx
    · rw [upd_ne _ _ ht] at hx
      have : (a.tmps.setIfInBounds d rv).getD t undef = a.tmps.getD t undef := by
        simp [Array.getD_eq_getD_getElem?, Ne.symm ht]
      rw [this]; exact h0.get t x hx

theorem put_defers (a : Act) (d : Option Nat) (v : Value) : (a.put d v).defers = a.defers := by cases d <;> rfl

theorem yielded_of {ops : Array Oper} {j d : Nat} {b : Bool} (R : SRel P β rom nt s a w) (hj : (ops[j]?).bind (·.dst) = some d) (hb : s.env d = some (.bool b)) : yielded ops a.tmps j = some b := by
  have h1 := R.env.get d _ hb
  simp only [VRel] at h1
  unfold yielded
  rw [hj]
  simp only [Option.bind_some]
  rw [Array.getD_eq_getD_getElem?] at h1
  cases h2 : a.tmps[d]? with
  | none => rw [h2] at h1; simp [undef] at h1
  | some x => rw [h2] at h1; simp at h1; subst h1; rfl

/-- Calls, as the walk meets them. -/
theorem callV_upon {F : Fence} (hF : F.depth = none) (hpl : ∀ f args w R, CallsIn Fence.wide 0 P f args w R → CallsIn F 0 P f args w R)
    (hpr : ∀ l f tmps asg body w R, RoundIn Fence.wide 0 P l f tmps asg body w R → RoundIn F 0 P l f tmps asg body w R)
    {o : Oper} {a : Act} {next : Act → World → Prop} {Q : Exit → Act → World → Prop} {fv : AVal} {vs : List AVal} {rf : Value} {rvs : Array Value} {h : Heap} {K : AVal → Heap → Nat → Prop}
    (hf : VRel β fv rf) (hvs : VRels β vs rvs.toList) (H : HRel P β rom h w) (hc : CallV P rom fv vs h β.nx K)
    (hn : ∀ β' v h' rv w', K v h' β'.nx → VRel β' v rv → HRel P β' rom h' w' → Mv β h w β' h' w' → next (a.put o.dst rv) w') :
    o.uponIn F 0 P a next Q ((do let d ← Deferred.ofValue rf rvs; invoke d.target d.args : Sem Next).run P w) := by
  unfold CallV at hc
  split at hc
  · rename_i f first caps
    obtain ⟨hok, hc⟩ := hc
    unfold okFun at hok
    split at hok
    case h_2 => cases hok
    rename_i fn g1
    simp only [Bool.and_eq_true, Bool.not_eq_true'] at hok
    obtain ⟨g2, g3⟩ := hok
    simp only [VRel] at hf
    obtain ⟨ra, rc, rfl, h2, h3⟩ := hf
    have hrun : (do let d ← Deferred.ofValue (.func (.func f) ra rc) rvs; invoke d.target d.args : Sem Next).run P w = .ok (.enter f (ra ++ rvs ++ rc)) w := by
      have hb : ¬ fn.body = none := by cases hh : fn.body <;> simp [hh] at g2 ⊢
      have g4 : ¬ fn.name = "runtime.NumGoroutine" := by simpa using g3
      simp [Deferred.ofValue, invoke, callFunc, g1, g4, hb]
    rw [hrun, Oper.uponIn_enter]
    refine ⟨by simp [hF], hpl _ _ _ _ ?_⟩
    refine (hc β w (ra ++ rvs ++ rc) rfl H (by simpa using (h2.append hvs).append h3)).mono ?_
    rintro e w' ⟨β', v, h', rv, rfl, q1, q2, q3, q4⟩
    exact hn β' v h' rv w' q1 q2 q3 q4
  · rename_i b
    simp only [VRel] at hf
    obtain ⟨h1, rfl⟩ := hf
    obtain ⟨l, f, tmps, asg, body, g1, g2⟩ := hc β w rvs rfl H hvs h1
    have hrun : (do let d ← Deferred.ofValue (.func (.yield (β.blk b)) #[] #[]) rvs; invoke d.target d.args : Sem Next).run P w = .ok (.round l f tmps asg body) w := by
      simp [Deferred.ofValue, invoke, g1]
    rw [hrun, Oper.uponIn_round]
    refine ⟨by simp [hF], hpr _ _ _ _ _ _ _ ?_⟩
    refine g2.mono ?_
    rintro e w' ⟨β', v, h', rv, rfl, q1, q2, q3, q4⟩
    exact hn β' v h' rv w' q1 q2 q3 q4
  · exact hc.elim

theorem EAct_sound {cv : CV} (hcv : CVOk P rom cv) {rd : Option Bid} {o : Oper} {ao : AOp} {K : St → Prop} {next : Act → World → Prop} {Q : Exit → Act → World → Prop}
    (hc : compAct P o.op = some ao.act) (hdst : ao.dst = o.dst) (hd : dstOk nt o.dst = true) (R : SRel P β rom nt s a w)
    (hE : EAct rom cv rd ao s K) (hK : ∀ β' s' a' w', K s' → SRel P β' rom nt s' a' w' → Mv β s.h w β' s'.h w' → next a' w') :
    o.wpIn (FF β rd) 0 P a w next Q := by
  refine ⟨fun f _ => FF_fn β rd f, ?_⟩
  obtain ⟨adst, op, ty, pos, after, guard⟩ := o
  obtain ⟨dst, act, ag⟩ := ao
  simp only at hc hdst hd
  subst hdst
  unfold EAct at hE
  have plain : ∀ ai, compOp P op = some ai → act = .plain ai → (∀ c, op ≠ .defer c) →
      ({ dst, op, type := ty, pos, after, guard } : Oper).uponIn (FF β rd) 0 P a next Q ((({ dst, op, type := ty, pos, after, guard } : Oper).semAt (FF β rd).round a.eval).run P w) := by
    rintro ai hai rfl hnd
    rw [Oper.semAt_eq _ _ _ hnd]
    simp only at hE
    split at hE
    · rename_i v h' nx' hx
      rw [← R.nx] at hx
      obtain ⟨nxt, rv, w', β', r1, r2, r3, r4, r5, r6⟩ := comp_sound op ai β rom s.h h' w nt nx' s.env a v { dst, op, type := ty, pos, after, guard } rfl hai R.env R.heap hx
      have hfin : next (a.put dst rv) w' := hK β' _ _ _ hE ⟨r6, R.put r5.ext hd (fun x hx => by injection hx with hx; exact hx ▸ r3), r4, by rw [put_defers]; exact R.dfs.ext r5.ext⟩ r5
      rw [r1]
      cases nxt <;> simp [nextVal] at r2
      · subst r2; exact hfin
      · subst r2; exact hfin
    · exact hE.elim
  have other : act = .plain ((compOp P op).getD .bad) → (compOp P op = none ∨ ∀ c, op ≠ .defer c) →
      ({ dst, op, type := ty, pos, after, guard } : Oper).uponIn (FF β rd) 0 P a next Q ((({ dst, op, type := ty, pos, after, guard } : Oper).semAt (FF β rd).round a.eval).run P w) := by
    intro h1 h2
    cases hcp : compOp P op with
    | none =>
      rw [hcp] at h1
      subst h1
      simp [AI.exec] at hE
    | some ai =>
      rw [hcp] at h1 h2
      refine plain ai hcp h1 ?_
      rcases h2 with h2 | h2
      · cases h2
      · exact h2
  cases op with
  | call c =>
    obtain ⟨callee, args, ts⟩ := c
    cases callee with
    | value f =>
      simp only [compAct] at hc
      split at hc
      · rename_i g xs h1 h2
        injection hc with hc; subst hc
        simp only at hE
        rw [Oper.semAt_eq _ _ _ (by simp)]
        split at hE
        · rename_i fv vs hfv hvs
          have e1 : (execOp a.eval { dst, op := .call { callee := .value f, args, argTypes := ts }, type := ty, pos, after, guard } : Sem Next) = (do let d ← Deferred.ofValue (a.eval f) (args.map a.eval); invoke d.target d.args : Sem Next) := by
            simp [execOp, resolve]
          rw [e1]
          have hE := hcv.ok _ _ _ _ _ hE
          rw [← R.nx] at hE
          refine callV_upon (F := FF β rd) rfl (fun f args w R h => h) (fun l f tmps asg body w R h => h) (ev_rel h1 R.env hfv) (by simpa using evs_rel R.env h2 hvs) R.heap hE ?_
          intro β' v h' rv w' q1 q2 q3 q4
          exact hK β' _ _ _ q1 ⟨rfl, R.put q4.ext hd (fun x hx => by injection hx with hx; exact hx ▸ q2), q3, by rw [put_defers]; exact R.dfs.ext q4.ext⟩ q4
        · exact hE.elim
      · cases hc
    | invoke r m =>
      simp only [compAct, Option.some.injEq] at hc
      exact other hc.symm (.inr (by simp))
    | builtin b =>
      simp only [compAct, Option.some.injEq] at hc
      exact other hc.symm (.inr (by simp))
  | defer c =>
    obtain ⟨callee, args, ts⟩ := c
    cases callee with
    | value f =>
      simp only [compAct] at hc
      split at hc
      · rename_i g xs h1 h2
        injection hc with hc; subst hc
        simp only at hE
        split at hE
        · rename_i gf first caps vs hfv hvs
          have hr := ev_rel h1 R.env hfv
          simp only [VRel] at hr
          obtain ⟨ra, rc, hr1, hr2, hr3⟩ := hr
          have hv := evs_rel R.env h2 hvs
          have e1 : (Oper.semAt (FF β none).round a.eval { dst, op := .defer { callee := .value f, args, argTypes := ts }, type := ty, pos, after, guard } : Sem Next).run P w = .ok (.defer { target := .fn (.func gf) rc, args := ra ++ args.map a.eval }) w := by
            rw [show (FF β none).round = none from rfl, Oper.semAt_none]
            simp [execOp, resolve, hr1, Deferred.ofValue]
          rw [e1, Oper.uponIn_defer]
          refine hK β _ _ w hE ⟨R.nx, ?_, R.heap, ?_⟩ (Mv.refl _ _ _)
          · have := R.put (Ext.refl β) hd (v := none) (rv := undef) (fun x hx => by cases hx)
            cases dst <;> exact this
          · rw [put_defers]
            exact ⟨_, _, rfl, ⟨_, _, rfl, by simpa using (hr2.append hv).append hr3⟩, R.dfs⟩
        · exact hE.elim
      · cases hc
    | invoke r m =>
      simp only [compAct, Option.some.injEq] at hc
      exact other hc.symm (.inl rfl)
    | builtin b =>
      simp only [compAct, Option.some.injEq] at hc
      exact other hc.symm (.inl rfl)
  | _ =>
    simp only [compAct, Option.some.injEq] at hc
    exact other hc.symm (.inr (by simp))

theorem EOp_sound {cv : CV} (hcv : CVOk P rom cv) {rd : Option Bid} {ops : Array Oper} {i : Nat} {o : Oper} {ao : AOp} {K : St → Prop} {next : Act → World → Prop} {Q : Exit → Act → World → Prop}
    (hi : ops[i]? = some o) (hc : compOper P ops nt o = some ao) (R : SRel P β rom nt s a w)
    (hE : EOp rom cv rd ao s K) (hK : ∀ β' s' a' w', K s' → SRel P β' rom nt s' a' w' → Mv β s.h w β' s'.h w' → next a' w') :
    wpOpIn (FF β rd) 0 P ops Q i next a w := by
  unfold compOper at hc
  split at hc
  · cases hc
  · rename_i act hact
    split at hc
    · rename_i hd
      have fin : ∀ ag, ao = ⟨o.dst, act, ag⟩ → EAct rom cv rd ao s K → o.wpIn (FF β rd) 0 P a w next Q := by
        rintro ag rfl hA
        exact EAct_sound hcv hact rfl hd R hA hK
      unfold wpOpIn
      simp only [hi]
      split at hc
      · rename_i hg
        injection hc with hc; subst hc
        unfold EOp at hE
        simp only at hE
        have hw : Region.wanted o (yielded ops a.tmps) = true := by simp [Region.wanted, hg]
        rw [if_pos hw]
        exact fin _ rfl hE
      · rename_i j want hg
        split at hc
        · rename_i d hj
          injection hc with hc; subst hc
          unfold EOp at hE
          simp only at hE
          split at hE
          · rename_i b hb
            have hy := yielded_of R hj hb
            have hw : Region.wanted o (yielded ops a.tmps) = (b == want) := by
              simp only [Region.wanted, hg, hy]
              cases b <;> cases want <;> rfl
            rw [hw]
            cases hbw : b == want with
            | true =>
              rw [hbw] at hE
              simp only [cond_true, if_true] at hE ⊢
              exact fin _ rfl hE
            | false =>
              rw [hbw] at hE
              simp only [cond_false] at hE
              rw [if_neg (by simp)]
              refine ⟨fun f _ => FF_fn β rd f, ?_⟩
              refine hK β _ _ w hE ⟨R.nx, ?_, R.heap, by rw [put_defers]; exact R.dfs⟩ (Mv.refl _ _ _)
              exact R.put (Ext.refl β) hd (fun x hx => by cases hx)
          · exact hE.elim
        · cases hc
    · cases hc

end
end Go.AL

/- Helper text: pieces of code. -/
namespace Go.AL

variable {P : Program} {rom : Rom} {nt : Nat} {rd : Option Bid} {s : St} {K : Exit → St → Prop}

theorem T.mono {c : Code} {K' : Exit → St → Prop} (h : T P rom rd nt c s K) (hk : ∀ e s', K e s' → K' e s') : T P rom rd nt c s K' :=
  fun β a w R hb => wpIn_mono (h β a w R hb) fun _ _ _ ⟨β', s', k, r⟩ => ⟨β', s', hk _ _ k, r⟩

theorem FF_ext {β β' : Beta} (e : Ext β β') (hb : ∀ b, rd = some b → β.ok b) : FF β' rd = FF β rd := by
  cases rd with
  | none => rfl
  | some b => simp [FF, e.blk (hb b rfl)]
theorem ok_ext {β β' : Beta} (e : Ext β β') (hb : ∀ b, rd = some b → β.ok b) : ∀ b, rd = some b → β'.ok b := fun b h => e.okb (hb b h)

theorem Post.trans {β β₁ : Beta} {h h₁ : Heap} {w w₁ : World} (m : Mv β h w β₁ h₁ w₁) {e : Exit} {a' : Act} {w' : World} (p : Post P rom nt β₁ h₁ w₁ K e a' w') : Post P rom nt β h w K e a' w' := by
  obtain ⟨β', s', k, r, m'⟩ := p
  exact ⟨β', s', k, r, m.trans m'⟩

theorem T_skip (h : K .normal s) : T P rom rd nt .skip s K := fun β a w R _ => wpIn_skip ⟨β, s, h, R, Mv.refl _ _ _⟩
theorem T_label {l : Nat} (h : K .normal s) : T P rom rd nt (.label l) s K := fun β a w R _ => wpIn_label ⟨β, s, h, R, Mv.refl _ _ _⟩
theorem T_exit {id : Nat} (h : K (.exit id) s) : T P rom rd nt (.exit id) s K := fun β a w R _ => wpIn_exit ⟨β, s, h, R, Mv.refl _ _ _⟩
theorem T_ret (h : K .ret s) : T P rom rd nt .ret s K := fun β a w R _ => wpIn_ret ⟨β, s, h, R, Mv.refl _ _ _⟩

/-- What follows a normal end. -/
def andThen (k : St → Prop) (K : Exit → St → Prop) : Exit → St → Prop
  | .normal, s => k s
  | e, s => K e s

theorem T_seq {x y : Code} (h : T P rom rd nt x s (andThen (fun s' => T P rom rd nt y s' K) K)) : T P rom rd nt (.seq x y) s K := by
  intro β a w R hb
  refine wpIn_seq (wpIn_mono (h β a w R hb) ?_)
  rintro e a' w' ⟨β', s', k, r, m⟩
  cases e with
  | normal =>
    have k : T P rom rd nt y s' K := k
    have h2 := k β' a' w' r (ok_ext m.ext hb)
    rw [FF_ext m.ext hb] at h2
    exact wpIn_mono h2 fun e a₂ w₂ p => Post.trans m p
  | _ => exact ⟨β', s', k, r, m⟩

theorem T_cond {c : Operand} {c' : AOpd} {x y : Code} {t : Bool} (hc : compOpd c = some c') (hv : c'.ev s.env = some (.bool t)) (h : T P rom rd nt (bif t then x else y) s K) : T P rom rd nt (.cond c x y) s K := by
  intro β a w R hb
  have hv' := ev_rel hc R.env hv
  simp only [VRel] at hv'
  refine wpIn_cond hv' ?_
  have := h β a w R hb
  cases t <;> exact this

def inBlk (id : Nat) (K : Exit → St → Prop) : Exit → St → Prop
  | .exit id', s => if id' = id then K .normal s else K (.exit id') s
  | e, s => K e s

theorem T_block {id : Nat} {c : Code} (h : T P rom rd nt c s (inBlk id K)) : T P rom rd nt (.block id c) s K := by
  intro β a w R hb
  refine wpIn_block (wpIn_mono (h β a w R hb) ?_)
  rintro e a' w' ⟨β', s', k, r, m⟩
  cases e with
  | exit id' =>
    simp only [inBlk] at k
    simp only [Exit.inBlock]
    split
    · rename_i hid; rw [if_pos hid] at k; exact ⟨β', s', k, r, m⟩
    · rename_i hid; rw [if_neg hid] at k; exact ⟨β', s', k, r, m⟩
  | _ => exact ⟨β', s', k, r, m⟩

theorem least {p : Nat → Prop} (h : ∃ n, p n) : ∃ n, p n ∧ ∀ m, p m → n ≤ m := by
  obtain ⟨n, hn⟩ := h
  induction n using Nat.strongRecOn with
  | _ n ih =>
    by_cases h : ∃ m, m < n ∧ p m
    · obtain ⟨m, h1, h2⟩ := h; exact ih m h1 h2
    · exact ⟨n, hn, fun m hm => Nat.le_of_not_lt fun hl => h ⟨m, hl, hm⟩⟩

open Classical in
theorem T_loop {c : Code} (J : Nat → St → Prop) (n : Nat) (h0 : J n s) (hr : ∀ n s, J n s → T P rom rd nt c s (andThen (fun s' => ∃ m, m < n ∧ J m s') K)) : T P rom rd nt (.loop c) s K := by
  intro β a w R hb
  let J' (n : Nat) (a' : Act) (w' : World) : Prop := ∃ β' s', J n s' ∧ SRel P β' rom nt s' a' w' ∧ Mv β s.h w β' s'.h w'
  let μ (a' : Act) (w' : World) : Nat := if h : ∃ n, J' n a' w' then Classical.choose (least h) else 0
  refine wpIn_loop (fun a' w' => ∃ n, J' n a' w') μ ⟨n, β, s, h0, R, Mv.refl _ _ _⟩ ?_
  intro a₁ w₁ hI
  have hμ : μ a₁ w₁ = Classical.choose (least hI) := by simp only [μ]; rw [dif_pos hI]
  obtain ⟨g1, g2⟩ := Classical.choose_spec (least hI)
  rw [← hμ] at g1
  obtain ⟨β₁, s₁, j, r, m⟩ := g1
  have h2 := hr _ _ j β₁ a₁ w₁ r (ok_ext m.ext hb)
  rw [FF_ext m.ext hb] at h2
  refine wpIn_mono h2 ?_
  rintro e a₂ w₂ ⟨β₂, s₂, k, r₂, m₂⟩
  cases e with
  | normal =>
    obtain ⟨n₂, hlt, j₂⟩ := k
    have hI2 : ∃ n, J' n a₂ w₂ := ⟨n₂, β₂, s₂, j₂, r₂, m.trans m₂⟩
    refine ⟨hI2, ?_⟩
    have hμ2 : μ a₂ w₂ = Classical.choose (least hI2) := by simp only [μ]; rw [dif_pos hI2]
    rw [hμ2]
    exact Nat.lt_of_le_of_lt ((Classical.choose_spec (least hI2)).2 n₂ ⟨β₂, s₂, j₂, r₂, m.trans m₂⟩) hlt
  | _ => exact ⟨β₂, s₂, k, r₂, m.trans m₂⟩

theorem ops_sound {cv : CV} (hcv : CVOk P rom cv) {ops : Array Oper} {β₀ : Beta} {h₀ : Heap} {w₀ : World} (hb : ∀ b, rd = some b → β₀.ok b) : ∀ (l : List Nat) (os : List Oper) (xs : List AOp) (β : Beta) (s : St) (a : Act) (w : World),
    l.map (ops[·]?) = os.map some → compOpers P ops nt os = some xs → SRel P β rom nt s a w → Mv β₀ h₀ w₀ β s.h w → EOps rom cv rd xs s (K .normal) →
    wpOpsIn (FF β₀ rd) 0 P ops (Post P rom nt β₀ h₀ w₀ K) l a w
  | [], os, xs, β, s, a, w, hl, hc, R, M, hE => by
    cases os with
    | nil =>
      simp [compOpers] at hc; subst hc
      exact ⟨β, s, hE, R, M⟩
    | cons o os => simp at hl
  | i :: l, os, xs, β, s, a, w, hl, hc, R, M, hE => by
    cases os with
    | nil => simp at hl
    | cons o os =>
      simp only [List.map_cons, List.cons.injEq] at hl
      simp only [compOpers] at hc
      split at hc
      · rename_i x xs' h1 h2
        injection hc with hc; subst hc
        rw [wpOpsIn_cons, ← FF_ext M.ext hb]
        refine EOp_sound hcv hl.1 h1 R hE ?_
        intro β' s' a' w' hk R' M'
        rw [FF_ext M.ext hb]
        exact ops_sound hcv hb l os xs' β' s' a' w' hl.2 h2 R' (M.trans M') hk
      · cases hc

theorem T_ops {cv : CV} (hcv : CVOk P rom cv) {id : Nat} {ops : Array Oper} {xs : List AOp} (hc : compOpers P ops nt ops.toList = some xs) (h : EOps rom cv rd xs s (K .normal)) : T P rom rd nt (.region id ops false) s K := by
  intro β a w R hb
  refine wpIn_region (ops_sound hcv hb _ ops.toList xs β s a w ?_ hc R (Mv.refl _ _ _) h)
  apply List.ext_getElem
  · simp
  · intro i h1 h2
    simp at h1
    simp [h1]

/-- No goto comes out. -/
def noGo (K : Exit → St → Prop) : Exit → St → Prop
  | .goto _, _ => False
  | e, s => K e s

section scope
variable {F : Fence} {n : Nat} {Q : Exit → Act → World → Prop} {a : Act} {w : World} {b : Frame} {k : List Item} {cs : List Frame}
theorem stepR_scope {c : Code} : step P (lone (b.atR a (.code (.scope c) :: k)) cs w) = .next (lone (b.atR a (.code c :: .inScope c :: k)) cs w) :=
  step_lone_go (by simp [stepG, stepG.exec, Frame.atR])
theorem stepR_inScope {c : Code} : step P (lone (b.atR a (.inScope c :: k)) cs w) = .next (lone (b.atR a k) cs w) :=
  step_lone_go (by simp [stepG, stepG.exec, Frame.atR])
theorem wpIn_scope {c : Code} (h : c.wpIn F n P (fun e a w => (∀ l, e ≠ .goto l) ∧ Q e a w) a w) : (Code.scope c).wpIn F n P Q a w := by
  intro b k cs hro hb hr
  have h0 : (lone (b.atR a (.code (.scope c) :: k)) cs w).fenced P F := fenced_calm hb hr rfl
  obtain ⟨e, a₁, w₁, ⟨hg, hq⟩, harr⟩ := h b (.inScope c :: k) cs hro hb hr
  cases e with
  | normal => exact ⟨.normal, a₁, w₁, hq, .head h0 stepR_scope (StepsIn.trans harr (.one (fenced_calm hb hr rfl) stepR_inScope))⟩
  | exit id' =>
    have hx : exitTo id' (.inScope c :: k) = exitTo id' k := by simp [exitTo]
    exact ⟨.exit id', a₁, w₁, hq, fun k' hk => .head h0 stepR_scope (harr.1 k' (by rw [hx]; exact hk)),
      fun hr' hk => let ⟨k₁, h1, h2⟩ := harr.2 hr' (by rw [hx]; exact hk); ⟨k₁, h1, .head h0 stepR_scope h2⟩⟩
  | goto l => exact absurd rfl (hg l)
  | ret => exact ⟨_, a₁, w₁, hq, .of_steps (.one h0 stepR_scope) harr⟩
  | panic ch => exact ⟨_, a₁, w₁, hq, .of_steps (.one h0 stepR_scope) harr⟩
  | outgrown => exact ⟨_, a₁, w₁, hq, .of_steps (.one h0 stepR_scope) harr⟩
end scope

theorem T_scope {rom : Rom} {rd : Option Bid} {nt : Nat} {c : Code} {s : St} {K : Exit → St → Prop} (h : T P rom rd nt c s (noGo K)) : T P rom rd nt (.scope c) s K := by
  intro β a w R hb
  refine wpIn_scope (wpIn_mono (h β a w R hb) ?_)
  rintro e a' w' ⟨β', s', k, R', M⟩
  cases e with
  | goto l => exact k.elim
  | _ => exact ⟨by simp, β', s', k, R', M⟩

end Go.AL

/- Helper text: regions that draw their order. -/
namespace Go.AL

variable {P : Program} {rom : Rom} {nt : Nat} {rd : Option Bid}

abbrev Lds := Nat → Option (Heap → Nat → Prop)
def ldsOk (l : Lds) (h : Heap) (nx : Nat) : List Nat → Prop
  | [] => True
  | i :: r => (match l i with | some e => e h nx | none => True) ∧ ldsOk l h nx r

/-- Is it carried out? -/
def gst (o : AOp) (env : Env) : Option Bool :=
  match o.guard with
  | none => some true
  | some (d, w) => match env d with
    | some (.bool b) => some (b == w)
    | _ => none

def EActD (rom : Rom) (cv : CV) (rd : Option Bid) (d : DOp) (lds : Lds) (s : St) (K : Lds → St → Prop) : Prop :=
  match d.op.act with
  | .plain ai => match ai.exec rom s.env s.h s.nx with
    | some (v, h', nx') => K (if ai.kind = 1 then upd lds d.idx (some fun h nx => ai.exec rom s.env h nx = some (v, h, nx)) else lds) ⟨put s.env d.op.dst (some v), h', nx', s.dfs⟩
    | none => False
  | .call f args => match f.ev s.env, evs s.env args with
    | some fv, some vs => cv fv vs s.h s.nx fun v h' nx' => ldsOk lds h' nx' d.re ∧ K lds ⟨put s.env d.op.dst (some v), h', nx', s.dfs⟩
    | _, _ => False
  | .dfr f args => match rd, f.ev s.env, evs s.env args with
    | none, some (.func g first caps), some vs => K lds ⟨put s.env d.op.dst none, s.h, s.nx, .clo g (first ++ vs ++ caps) :: s.dfs⟩
    | _, _, _ => False

def EOpD (rom : Rom) (cv : CV) (rd : Option Bid) (d : DOp) (lds : Lds) (s : St) (K : Lds → St → Prop) : Prop :=
  match gst d.op s.env with
  | some true => EActD rom cv rd d lds s K
  | some false => K lds ⟨put s.env d.op.dst none, s.h, s.nx, s.dfs⟩
  | none => False

def EOpsD (rom : Rom) (cv : CV) (rd : Option Bid) : List DOp → Lds → St → (St → Prop) → Prop
  | [], _, s, K => K s
  | d :: ds, lds, s, K => EOpD rom cv rd d lds s fun l' s' => EOpsD rom cv rd ds l' s' K

theorem EOpD.op {cv : CV} (hcv : CVOk P rom cv) {d : DOp} {lds : Lds} {s : St} {K : Lds → St → Prop} {K' : St → Prop} (h : EOpD rom cv rd d lds s K) (hk : ∀ l s', K l s' → K' s') : EOp rom cv rd d.op s K' := by
  have act : EActD rom cv rd d lds s K → EAct rom cv rd d.op s K' := by
    intro h
    unfold EActD at h; unfold EAct
    split at h
    · rename_i ai hai
      try simp only [hai]
      split at h
      · rename_i v h' nx' hx
        try simp only [hx]
        exact hk _ _ h
      · exact h.elim
    · rename_i f args hai
      try simp only [hai]
      split at h
      · rename_i fv vs h1 h2
        try simp only [h1, h2]
        exact hcv.mono _ _ _ _ _ _ (fun v h' nx' q => hk _ _ q.2) h
      · exact h.elim
    · rename_i f args hai
      try simp only [hai]
      split at h
      · rename_i h0 h1 h2
        try simp only [h0, h1]
        exact hk _ _ h
      · exact h.elim
  unfold EOpD gst at h; unfold EOp
  cases hg : d.op.guard with
  | none => rw [hg] at h; exact act h
  | some g =>
    obtain ⟨e, w⟩ := g
    rw [hg] at h
    simp only at h ⊢
    split at h
    · rename_i hb
      split at hb
      · rename_i b he
        injection hb with hb
        try simp only [he]
        try simp only [hb, cond_true]
        exact act h
      · cases hb
    · rename_i hb
      split at hb
      · rename_i b he
        injection hb with hb
        try simp only [he]
        try simp only [hb, cond_false]
        exact hk _ _ h
      · cases hb
    · exact h.elim

theorem EOpD.mono {cv : CV} (hcv : CVOk P rom cv) {d : DOp} {lds : Lds} {s : St} {K K' : Lds → St → Prop} (h : EOpD rom cv rd d lds s K) (hk : ∀ l s', K l s' → K' l s') : EOpD rom cv rd d lds s K' := by
  unfold EOpD at h ⊢
  split at h
  · unfold EActD at h ⊢
    split at h
    · split at h
      · exact hk _ _ h
      · exact h.elim
    · split at h
      · exact hcv.mono _ _ _ _ _ _ (fun v h' nx' q => ⟨q.1, hk _ _ q.2⟩) h
      · exact h.elim
    · split at h
      · exact hk _ _ h
      · exact h.elim
  · exact hk _ _ h
  · exact h.elim

theorem ev_congr {x : AOpd} {env env' : Env} (h : ∀ t, t ∈ x.slots → env' t = env t) : x.ev env' = x.ev env := by
  cases x with
  | tmp t => exact h t (by simp [AOpd.slots])
  | val v => rfl
theorem evs_congr {env env' : Env} : ∀ {xs : List AOpd}, (∀ t, t ∈ slotsOf xs → env' t = env t) → evs env' xs = evs env xs
  | [], _ => rfl
  | x :: xs, h => by
    have h1 := ev_congr (x := x) (fun t ht => h t (by simp [slotsOf, ht]))
    have h2 := evs_congr (xs := xs) (fun t ht => h t (by simp only [slotsOf, List.flatMap_cons, List.mem_append] at *; exact .inr ht))
    simp only [evs, h1, h2]
theorem parts_congr {env env' : Env} : ∀ {ps : List (Nat × Nat × AOpd)}, (∀ t, t ∈ (ps.flatMap fun p => p.2.2.slots) → env' t = env t) → evParts env' ps = evParts env ps
  | [], _ => rfl
  | (o, n, x) :: ps, h => by
    have h1 := ev_congr (x := x) (fun t ht => h t (by simp [ht]))
    have h2 := parts_congr (ps := ps) (fun t ht => h t (by simp only [List.flatMap_cons, List.mem_append]; exact .inr ht))
    simp only [evParts, h1, h2]
theorem lo_congr {x : Option AOpd} {env env' : Env} (h : ∀ t, t ∈ optSlots x → env' t = env t) : loOf env' x = loOf env x := by
  cases x with
  | none => rfl
  | some x => simp only [loOf]; rw [ev_congr h]
theorem hi_congr {x : Option AOpd} {env env' : Env} {d : Int} (h : ∀ t, t ∈ optSlots x → env' t = env t) : hiEv env' d x = hiEv env d x := by
  cases x with
  | none => rfl
  | some x => simp only [hiEv]; rw [ev_congr h]

theorem exec_congr {ai : AI} {env env' : Env} (he : ∀ t, t ∈ ai.slots → env' t = env t) (h : Heap) (nx : Nat) : ai.exec rom env' h nx = ai.exec rom env h nx := by
  cases ai <;> simp only [AI.slots, List.mem_append] at he <;> simp only [AI.exec] <;> first
    | rfl
    | (rw [ev_congr fun t ht => he t ht]; done)
    | (rw [ev_congr fun t ht => he t (.inl (.inl (.inl ht))), lo_congr fun t ht => he t (.inl (.inl (.inr ht))), ev_congr fun t ht => he t (.inl (.inr ht)), ev_congr fun t ht => he t (.inr ht)]; done)
    | (rw [ev_congr fun t ht => he t (.inl ht), ev_congr fun t ht => he t (.inr ht)]; done)
    | (rw [ev_congr fun t ht => he t (.inl (.inl ht)), ev_congr fun t ht => he t (.inl (.inr ht)), ev_congr fun t ht => he t (.inr ht)]; done)
    | (rw [parts_congr fun t ht => he t ht]; done)
    | (rw [evs_congr fun t ht => he t (.inl ht), evs_congr fun t ht => he t (.inr ht)]; done)
    | (rw [ev_congr fun t ht => he t (.inl (.inl ht)), lo_congr fun t ht => he t (.inl (.inr ht))]; simp only [hi_congr (fun t ht => he t (.inr ht))]; done)

theorem okL {o : Option AVal} {h h' : Heap} {nx nx' : Nat} {v : AVal} (e : (match o with | some v => some (v, h, nx) | none => (none : Out)) = some (v, h', nx')) : h' = h ∧ nx' = nx := (okOut e).2

/-- What touches memory at most to read leaves it. -/
theorem exec_light {ai : AI} {env : Env} {h h' : Heap} {nx nx' : Nat} {v : AVal} (hk : ai.kind ≤ 1) (hx : ai.exec rom env h nx = some (v, h', nx')) : h' = h ∧ nx' = nx := by
  cases ai <;> simp only [AI.kind] at hk <;> (try omega) <;> simp only [AI.exec] at hx <;> (repeat' split at hx) <;> first
    | exact okL hx
    | exact okL (o := some _) hx
    | cases hx

/-- What touches no memory is the same wherever. -/
theorem exec_pure {ai : AI} {env : Env} {h : Heap} {nx : Nat} {v : AVal} (hk : ai.kind = 0) (hx : ai.exec rom env h nx = some (v, h, nx)) (h2 : Heap) (nx2 : Nat) : ai.exec rom env h2 nx2 = some (v, h2, nx2) := by
  cases ai <;> simp only [AI.kind] at hk <;> (try omega) <;> simp only [AI.exec] at hx ⊢ <;> (repeat' split at hx) <;> first
    | cases hx; done
    | (simp_all; done)
    | (simp_all; rw [if_neg (by omega)]; assumption)
    | (simp_all; rw [if_pos (by omega)]; assumption)

theorem blockCells_upd {h : Heap} {nx : Nat} {b : Bid} {cs : List AVal} (o : AObj) (hf : h nx = none) (hb : blockCells rom h b = some cs) : blockCells rom (upd h nx (some o)) b = some cs := by
  cases b with
  | arg i => exact hb
  | own i =>
    simp only [blockCells] at hb ⊢
    have hne : i ≠ nx := by rintro rfl; rw [hf] at hb; cases hb
    rw [upd_ne _ _ hne]; exact hb
theorem mapEs_upd {h : Heap} {nx : Nat} (o : AObj) (hf : h nx = none) {m : AVal} {es : Ents} (hb : mapEs h m = some es) : mapEs (upd h nx (some o)) m = some es := by
  unfold mapEs at hb ⊢
  split at hb
  · exact hb
  · rename_i i
    have hne : i ≠ nx := by rintro rfl; rw [hf] at hb; cases hb
    simp only [upd_ne _ _ hne]
    exact hb
  · cases hb
/-- A read, more memory being there. -/
theorem exec_read {ai : AI} {env : Env} {h : Heap} {nx : Nat} {v : AVal} (hk : ai.kind = 1) (hx : ai.exec rom env h nx = some (v, h, nx)) (o : AObj) (hf : h nx = none) (nx2 : Nat) :
    ai.exec rom env (upd h nx (some o)) nx2 = some (v, upd h nx (some o), nx2) := by
  cases ai <;> simp only [AI.kind] at hk <;> (try omega) <;> simp only [AI.exec] at hx ⊢
  · split at hx
    · rename_i b off he
      split at hx
      · rename_i cs hb
        have e1 := (okOut hx).1
        simp only [blockCells_upd o hf hb, e1]
      · cases hx
    · cases hx
  · split at hx
    · rename_i b off he
      split at hx
      · rename_i cs hb
        split at hx
        · rename_i hle
          have e1 := (okOut (o := some _) hx).1
          injection e1 with e1
          simp only [blockCells_upd o hf hb, hle, if_true, e1]
        · cases hx
      · cases hx
    · cases hx
  · split at hx
    · rename_i he
      have e1 := (okOut (o := some _) hx).1
      injection e1 with e1
      simp only [e1]
    · rename_i i he
      split at hx
      · rename_i es c hi
        have e1 := (okOut (o := some _) hx).1
        injection e1 with e1
        have hne : i ≠ nx := by rintro rfl; rw [hf] at hi; cases hi
        simp only [upd_ne _ _ hne, hi, e1]
      · cases hx
    · cases hx
  · split at hx
    · rename_i m key hm hkey
      split at hx
      · rename_i es r0 hes hself
        split at hx
        · rename_i r hr
          have e1 := (okOut (o := some _) hx).1
          injection e1 with e1
          simp only [mapEs_upd o hf hes, hself, hr, e1]
        · cases hx
      · cases hx
    · cases hx

end Go.AL

/- Helper text: regions that draw their order (2): what may come later is brought behind. -/
namespace Go.AL

variable {P : Program} {rom : Rom} {nt : Nat} {rd : Option Bid}

theorem exec_new {ai : AI} {env : Env} {h h' : Heap} {nx nx' : Nat} {v : AVal} (hk : ai.kind = 2) (hw : ai.wr = false) (hx : ai.exec rom env h nx = some (v, h', nx')) :
    ∃ o, h' = upd h nx (some o) := by
  cases ai <;> simp only [AI.kind] at hk <;> (try omega) <;> simp only [AI.wr, Bool.true_eq_false] at hw <;> simp only [AI.exec] at hx <;> (repeat' split at hx) <;> first
    | (cases hx; done)
    | (simp only [Option.some.injEq, Prod.mk.injEq] at hx; exact ⟨_, hx.2.1.symm⟩)

theorem put_get {env : Env} {d : Option Nat} {v : Option AVal} {t : Nat} (h : d ≠ some t) : put env d v t = env t := by
  cases d with
  | none => rfl
  | some d => exact upd_ne _ _ (fun e => h (by rw [e]))
theorem put_comm {env : Env} {d d' : Option Nat} (v v' : Option AVal) (h : ∀ t, d = some t → d' ≠ some t) : put (put env d v) d' v' = put (put env d' v') d v := by
  cases d with
  | none => rfl
  | some d => cases d' with
    | none => rfl
    | some d' => exact upd_comm _ _ _ (fun e => h d rfl (by rw [e]))

theorem apart_spec {x y : AOp} (h : x.apart y = true) : (∀ t, x.dst = some t → t ∉ y.uses) ∧ (∀ t, x.dst = some t → y.dst ≠ some t) ∧ (∀ t, y.dst = some t → t ∉ x.uses) := by
  unfold AOp.apart at h
  simp only [Bool.and_eq_true] at h
  refine ⟨fun t ht => ?_, fun t ht => ?_, fun t ht => ?_⟩
  · have := h.1; rw [ht] at this; simp at this; exact this.1
  · have := h.1; rw [ht] at this; simp at this; exact this.2
  · have := h.2; rw [ht] at this; simp at this; exact this

theorem gst_put {o : AOp} {env : Env} {d : Option Nat} {v : Option AVal} (h : ∀ t, d = some t → t ∉ o.uses) : gst o (put env d v) = gst o env := by
  unfold gst
  cases hg : o.guard with
  | none => rfl
  | some g =>
    obtain ⟨e, w⟩ := g
    have : d ≠ some e := fun he => h e he (by simp [AOp.uses, hg])
    simp only [put_get this]
theorem use_put {o : AOp} {env : Env} {d : Option Nat} {v : Option AVal} (h : ∀ t, d = some t → t ∉ o.uses) : ∀ t, t ∈ o.act.slots → put env d v t = env t := by
  intro t ht
  exact put_get fun he => h t he (by simp [AOp.uses, ht])

/-- A light operation's step. -/
def YStep (rom : Rom) (y : DOp) (lds : Lds) (s : St) (u : Option AVal) (lds' : Lds) : Prop :=
  (gst y.op s.env = some false ∧ u = none ∧ lds' = lds) ∨
  (gst y.op s.env = some true ∧ ∃ ai v, y.op.act = .plain ai ∧ ai.exec rom s.env s.h s.nx = some (v, s.h, s.nx) ∧ u = some v ∧
    lds' = if ai.kind = 1 then upd lds y.idx (some fun h nx => ai.exec rom s.env h nx = some (v, h, nx)) else lds)

theorem ystep_iff {cv : CV} {y : DOp} (hk : y.op.act.kind ≤ 1) {lds : Lds} {s : St} {K : Lds → St → Prop} :
    EOpD rom cv rd y lds s K ↔ ∃ u lds', YStep rom y lds s u lds' ∧ K lds' ⟨put s.env y.op.dst u, s.h, s.nx, s.dfs⟩ := by
  constructor
  · intro h
    unfold EOpD at h
    split at h
    · rename_i hg
      unfold EActD at h
      split at h
      · rename_i ai hai
        split at h
        · rename_i v h' nx' hx
          rw [hai] at hk
          obtain ⟨rfl, rfl⟩ := exec_light hk hx
          exact ⟨_, _, .inr ⟨hg, ai, v, hai, hx, rfl, rfl⟩, h⟩
        · exact h.elim
      · rename_i hai; rw [hai] at hk; simp [AAct.kind] at hk
      · rename_i hai; rw [hai] at hk; simp [AAct.kind] at hk
    · rename_i hg
      exact ⟨none, lds, .inl ⟨hg, rfl, rfl⟩, h⟩
    · exact h.elim
  · rintro ⟨u, lds', hy | ⟨hg, ai, v, hai, hx, rfl, rfl⟩, k⟩
    · obtain ⟨hg, rfl, rfl⟩ := hy
      unfold EOpD; rw [hg]; exact k
    · unfold EOpD EActD
      simp only [hg, hai, hx]
      exact k

theorem ldsOk_upd {l : Lds} {h : Heap} {nx i : Nat} {e : Option (Heap → Nat → Prop)} : ∀ {re : List Nat}, ldsOk (upd l i e) h nx re → l i = none → ldsOk l h nx re
  | [], _, _ => trivial
  | j :: re, hh, hn => by
    refine ⟨?_, ldsOk_upd hh.2 hn⟩
    by_cases hj : j = i
    · subst hj; rw [hn]; trivial
    · have := hh.1; rwa [upd_ne _ _ hj] at this
theorem ldsOk_mem {l : Lds} {h : Heap} {nx i : Nat} {e : Heap → Nat → Prop} : ∀ {re : List Nat}, ldsOk l h nx re → i ∈ re → l i = some e → e h nx
  | j :: re, hh, hm, hl => by
    rcases List.mem_cons.1 hm with rfl | hm
    · have := hh.1; rwa [hl] at this
    · exact ldsOk_mem hh.2 hm hl

/-- The light one behind the other. -/
theorem swap {cv : CV} (hcv : CVOk P rom cv) {x y : DOp} {lds : Lds} {s : St} {K : Lds → St → Prop} (hp : y.op.passes x.op = true) (hi : y.idx ≠ x.idx)
    (hre : y.op.act.kind ≠ 1 ∨ isCall x.op.act = false ∨ y.idx ∈ x.re) (hf : s.h s.nx = none) (hly : lds y.idx = none)
    (h : EOpD rom cv rd y lds s fun l1 s1 => EOpD rom cv rd x l1 s1 K) : EOpD rom cv rd x lds s fun l1 s1 => EOpD rom cv rd y l1 s1 K := by
  unfold AOp.passes at hp
  simp only [Bool.and_eq_true, decide_eq_true_eq] at hp
  obtain ⟨⟨hap, hky⟩, hkx⟩ := hp
  obtain ⟨a1, a2, a3⟩ := apart_spec hap
  obtain ⟨u, l1, hy, hx⟩ := (ystep_iff hky).1 h
  have hgx : gst x.op (put s.env y.op.dst u) = gst x.op s.env := gst_put a1
  have hgy : ∀ v, gst y.op (put s.env x.op.dst v) = gst y.op s.env := fun v => gst_put a3
  have hcm : ∀ v, put (put s.env y.op.dst u) x.op.dst v = put (put s.env x.op.dst v) y.op.dst u := fun v => put_comm _ _ a2
  have hsx := use_put (env := s.env) (v := u) a1
  -- the light one's step at a later state
  have later : ∀ (v : Option AVal) (h' : Heap) (nx' : Nat) (dfs' : List ADef) (lds2 : Lds), lds2 y.idx = none ∨ True →
      (gst y.op s.env = some true → ∀ ai w, y.op.act = .plain ai → ai.exec rom s.env s.h s.nx = some (w, s.h, s.nx) → ai.exec rom s.env h' nx' = some (w, h', nx')) →
      ∀ (K2 : Lds → St → Prop), (∀ l2, (l1 = lds → l2 = lds2) → (∀ e, l1 = upd lds y.idx (some e) → l2 = upd lds2 y.idx (some e)) → (l1 = lds ∨ ∃ e, l1 = upd lds y.idx (some e)) → K2 l2 ⟨put (put s.env x.op.dst v) y.op.dst u, h', nx', dfs'⟩) →
      EOpD rom cv rd y lds2 ⟨put s.env x.op.dst v, h', nx', dfs'⟩ K2 := by
    intro v h' nx' dfs' lds2 _ hex K2 hk2
    refine (ystep_iff hky).2 ?_
    rcases hy with ⟨g, rfl, rfl⟩ | ⟨g, ai, w, hai, hxe, rfl, hl1⟩
    · refine ⟨none, lds2, .inl ⟨by rw [hgy]; exact g, rfl, rfl⟩, hk2 lds2 (fun _ => rfl) (fun e he => ?_) (.inl rfl)⟩
      have := congrFun he y.idx
      rw [upd_same, hly] at this; cases this
    · have hsy : ∀ t, t ∈ ai.slots → put s.env x.op.dst v t = s.env t := fun t ht => use_put (o := y.op) a3 t (by rw [hai]; exact ht)
      refine ⟨some w, if ai.kind = 1 then upd lds2 y.idx (some fun h nx => ai.exec rom s.env h nx = some (w, h, nx)) else lds2, .inr ⟨by rw [hgy]; exact g, ai, w, hai, ?_, rfl, ?_⟩, ?_⟩
      · rw [exec_congr hsy]; exact hex g ai w hai hxe
      · by_cases h1 : ai.kind = 1
        · rw [if_pos h1, if_pos h1]
          congr 2; funext h nx; rw [exec_congr hsy]
        · rw [if_neg h1, if_neg h1]
      · refine hk2 _ (fun he => ?_) (fun e he => ?_) ?_
        · by_cases h1 : ai.kind = 1
          · rw [if_pos h1] at hl1
            have := congrFun (hl1.symm.trans he) y.idx
            rw [upd_same, hly] at this; cases this
          · rw [if_neg h1]
        · by_cases h1 : ai.kind = 1
          · rw [if_pos h1] at hl1 ⊢
            have := congrFun (hl1.symm.trans he) y.idx
            rw [upd_same, upd_same] at this; rw [this]
          · rw [if_neg h1] at hl1
            have := congrFun (hl1.symm.trans he) y.idx
            rw [upd_same, hly] at this; cases this
        · by_cases h1 : ai.kind = 1
          · rw [if_pos h1] at hl1; exact .inr ⟨_, hl1⟩
          · rw [if_neg h1] at hl1; exact .inl hl1
  have same : gst y.op s.env = some true → ∀ ai w, y.op.act = .plain ai → ai.exec rom s.env s.h s.nx = some (w, s.h, s.nx) → ai.exec rom s.env s.h s.nx = some (w, s.h, s.nx) := fun _ _ _ _ h => h
  have hlcase : l1 = lds ∨ ∃ e, l1 = upd lds y.idx (some e) := by
    rcases hy with ⟨g, rfl, rfl⟩ | ⟨g, ai, w, hai, hxe, rfl, hl1⟩
    · exact .inl rfl
    · by_cases h1 : ai.kind = 1
      · rw [if_pos h1] at hl1; exact .inr ⟨_, hl1⟩
      · rw [if_neg h1] at hl1; exact .inl hl1
  unfold EOpD at hx ⊢
  rw [hgx] at hx
  split at hx
  · rename_i hg
    unfold EActD at hx ⊢
    split at hx
    · -- a plain one
      rename_i ai hai
      rw [hai] at hsx
      have hsx' : ∀ t, t ∈ ai.slots → put s.env y.op.dst u t = s.env t := hsx
      simp only [exec_congr hsx'] at hx
      split at hx
      · rename_i v h' nx' hxe
        simp only
        refine later (some v) h' nx' s.dfs _ (.inr trivial) ?_ K ?_
        · intro hgt bi w hbi hb
          by_cases hb0 : bi.kind = 0
          · exact exec_pure hb0 hb h' nx'
          · have hb1 : bi.kind = 1 := by rw [hbi] at hky; simp only [AAct.kind] at hky; omega
            by_cases hk1 : ai.kind ≤ 1
            · obtain ⟨rfl, rfl⟩ := exec_light hk1 hxe; exact hb
            · have hk2 : ai.kind = 2 := by cases ai <;> simp [AI.kind] at hk1 ⊢
              rw [hai, hbi] at hkx
              simp only [AAct.kind, Bool.or_eq_true] at hkx
              rcases hkx with hkx | hkx
              · exact absurd (of_decide_eq_true hkx) hk1
              · obtain ⟨o, ho⟩ := exec_new hk2 (by cases hwr : ai.wr with | true => rw [hwr] at hkx; exact absurd (of_decide_eq_true hkx) hb0 | false => rfl) hxe
                subst ho
                exact exec_read hb1 hb o hf nx'
        · intro l2 q1 q2 q3
          rw [← hcm]
          rcases q3 with rfl | ⟨e, rfl⟩
          · rw [q1 rfl]; exact hx
          · rw [q2 e rfl]
            by_cases h1 : ai.kind = 1
            · rw [if_pos h1] at hx ⊢
              rw [upd_comm _ _ _ (Ne.symm hi)]
              first | exact hx | (simp only [exec_congr hsx'] at hx; exact hx)
            · rw [if_neg h1] at hx ⊢; exact hx
      · exact hx.elim
    · -- a call
      rename_i f args hai
      rw [hai] at hsx
      have e1 : f.ev (put s.env y.op.dst u) = f.ev s.env := ev_congr fun t ht => hsx t (by simp [AAct.slots, ht])
      have e2 : evs (put s.env y.op.dst u) args = evs s.env args := evs_congr fun t ht => hsx t (by simp [AAct.slots, ht])
      rw [e1, e2] at hx
      split at hx
      · rename_i fv vs hfv hvs
        simp only
        refine hcv.mono _ _ _ _ _ _ ?_ hx
        rintro r h' nx' ⟨q1, q2⟩
        refine ⟨?_, later (some r) h' nx' s.dfs lds (.inr trivial) ?_ K ?_⟩
        · rcases hlcase with rfl | ⟨e, rfl⟩
          · exact q1
          · exact ldsOk_upd q1 hly
        · intro hgt bi w hbi hb
          by_cases hb0 : bi.kind = 0
          · exact exec_pure hb0 hb h' nx'
          · have hb1 : bi.kind = 1 := by rw [hbi] at hky; simp only [AAct.kind] at hky; omega
            rcases hre with hre | hre | hre
            · rw [hbi] at hre; exact absurd hb1 hre
            · rw [hai] at hre; simp [isCall] at hre
            · -- it was read again
              rcases hy with ⟨g, _, _⟩ | ⟨g, ai', w', hai', hxe', _, hl1⟩
              · rw [hgt] at g; simp at g
              · rw [hbi] at hai'; injection hai' with hai'; subst hai'
                rw [if_pos hb1] at hl1
                subst hl1
                have := ldsOk_mem q1 hre (upd_same _ _ _)
                rw [hb] at hxe'
                simp only [Option.some.injEq, Prod.mk.injEq, and_true] at hxe'
                rw [hxe']; exact this
        · intro l2 p1 p2 p3
          rw [← hcm]
          rcases p3 with rfl | ⟨e, rfl⟩
          · rw [p1 rfl]; exact q2
          · rw [p2 e rfl]; exact q2
      · exact hx.elim
    · -- a deferred call
      rename_i f args hai
      rw [hai] at hsx
      have e1 : f.ev (put s.env y.op.dst u) = f.ev s.env := ev_congr fun t ht => hsx t (by simp [AAct.slots, ht])
      have e2 : evs (put s.env y.op.dst u) args = evs s.env args := evs_congr fun t ht => hsx t (by simp [AAct.slots, ht])
      rw [e1, e2] at hx
      split at hx
      · rename_i g first caps vs hfv hvs
        simp only
        refine later none s.h s.nx _ lds (.inr trivial) same K ?_
        intro l2 p1 p2 p3
        rw [← hcm]
        rcases p3 with rfl | ⟨e, rfl⟩
        · rw [p1 rfl]; exact hx
        · rw [p2 e rfl]; exact hx
      · exact hx.elim
  · refine later none s.h s.nx s.dfs lds (.inr trivial) same K ?_
    intro l2 q1 q2 q3
    rw [← hcm]
    rcases q3 with rfl | ⟨e, rfl⟩
    · rw [q1 rfl]; exact hx
    · rw [q2 e rfl]; exact hx
  · exact hx.elim

end Go.AL

/- Helper text: regions that draw their order (3): one order serves all. -/
namespace Go.AL

variable {P : Program} {rom : Rom} {nt : Nat} {rd : Option Bid}

inductive Anc (ops : Array Oper) : Nat → Nat → Prop
  | base {i j : Nat} {o : Oper} (h : ops[j]? = some o) (hi : i ∈ preds o) : Anc ops i j
  | step {i k j : Nat} {o : Oper} (h : ops[j]? = some o) (hk : k ∈ preds o) (ha : Anc ops i k) : Anc ops i j

theorem beforeAll_go {ops : Array Oper} : ∀ (l : List Oper) (acc : List (List Nat)), (∀ p o, l[p]? = some o → ops[acc.length + p]? = some o) → (∀ j i, i ∈ acc.getD j [] → Anc ops i j) →
    ∀ j i, i ∈ (l.foldl (fun (acc : List (List Nat)) o => acc ++ [((preds o).flatMap fun j => j :: acc.getD j []).eraseDups]) acc).getD j [] → Anc ops i j
  | [], acc, _, h2, j, i, hi => h2 j i hi
  | o :: l, acc, h1, h2, j, i, hi => by
    simp only [List.foldl_cons] at hi
    refine beforeAll_go l _ (fun p o' hp => ?_) (fun j i hi => ?_) j i hi
    · have := h1 (p + 1) o' (by simpa using hp)
      simpa [Nat.add_assoc, Nat.add_comm 1] using this
    · rw [List.getD_eq_getElem?_getD] at hi
      by_cases hj : j < acc.length
      · rw [List.getElem?_append_left hj, ← List.getD_eq_getElem?_getD] at hi
        exact h2 j i hi
      · rw [List.getElem?_append_right (by omega)] at hi
        by_cases he : j = acc.length
        · subst he
          simp only [Nat.sub_self, List.getElem?_cons_zero, Option.getD_some, List.mem_eraseDups, List.mem_flatMap, List.mem_cons] at hi
          obtain ⟨k, hk, rfl | hik⟩ := hi
          · exact .base (h1 0 o rfl) hk
          · exact .step (h1 0 o rfl) hk (h2 k i hik)
        · rw [List.getElem?_eq_none (by simp; omega)] at hi
          cases hi
theorem beforeAll_anc {ops : Array Oper} {i j : Nat} (h : i ∈ (beforeAll ops.toList).getD j []) : Anc ops i j :=
  beforeAll_go ops.toList [] (fun p o hp => by simpa using hp) (fun j i hi => by simp at hi) j i h

theorem anc_listed {ops : Array Oper} {listed : Array Bool} (hcl : ∀ i o, listed.getD i false = true → ops[i]? = some o → ∀ j ∈ preds o, listed.getD j false = true) {i j : Nat} (ha : Anc ops i j) :
    (∀ o, ops[j]? = some o → ∀ k ∈ preds o, listed.getD k false = true) → listed.getD i false = true := by
  induction ha with
  | base h hi => exact fun hp => hp _ h _ hi
  | step h hk ha ih => exact fun hp => ih fun o ho => hcl _ o (hp _ h _ hk) ho

/-- Which may stand in which order. -/
def Rok (bef : List (List Nat)) (x y : DOp) : Prop :=
  x.idx ∈ bef.getD y.idx [] ∨ (x.idx ≠ y.idx ∧ x.op.passes y.op = true ∧ (x.op.act.kind ≠ 1 ∨ isCall y.op.act = false ∨ x.idx ∈ y.re))

theorem pairsOk_spec {bef : List (List Nat)} : ∀ {l : List DOp}, pairsOk bef l = true → l.Pairwise (Rok bef)
  | [], _ => .nil
  | x :: rest, h => by
    simp only [pairsOk, Bool.and_eq_true, List.all_eq_true] at h
    refine .cons (fun y hy => ?_) (pairsOk_spec h.2)
    have := h.1 y hy
    simp only [Bool.or_eq_true, Bool.and_eq_true, decide_eq_true_eq, Bool.not_eq_true', List.contains_iff_mem] at this
    rcases this with this | ⟨⟨h1, h2⟩, h3⟩
    · exact .inl this
    · refine .inr ⟨h1, h2, ?_⟩
      rcases h3 with (h3 | h3) | h3
      · exact .inl h3
      · exact .inr (.inl h3)
      · exact .inr (.inr h3)

def Firsts (ops : Array Oper) (don : Nat → Prop) : List DOp → Prop
  | [] => True
  | x :: rest => (∃ o, ops[x.idx]? = some o ∧ ∀ j ∈ preds o, don j) ∧ ¬ don x.idx ∧ Firsts ops (fun j => j = x.idx ∨ don j) rest
theorem Firsts.congr {ops : Array Oper} : ∀ {l : List DOp} {d d' : Nat → Prop}, (∀ j, d j ↔ d' j) → Firsts ops d l → Firsts ops d' l
  | [], _, _, _, _ => trivial
  | x :: rest, d, d', h, ⟨⟨o, h1, h2⟩, h3, h4⟩ => ⟨⟨o, h1, fun j hj => (h j).1 (h2 j hj)⟩, fun hh => h3 ((h _).2 hh), h4.congr fun j => by rw [h j]⟩
theorem predsFirst_spec {ops : Array Oper} : ∀ {l : List DOp} {don : List Nat}, predsFirst ops don l = true → Firsts ops (· ∈ don) l
  | [], _, _ => trivial
  | x :: rest, don, h => by
    simp only [predsFirst, Bool.and_eq_true, Bool.not_eq_true'] at h
    obtain ⟨⟨h1, h2⟩, h3⟩ := h
    refine ⟨?_, fun hm => ?_, (predsFirst_spec h3).congr fun j => by simp⟩
    · split at h1
      · rename_i o ho
        simp only [List.all_eq_true, List.contains_iff_mem] at h1
        exact ⟨o, ho, h1⟩
      · cases h1
    · rw [← Bool.not_eq_true, List.contains_iff_mem] at h2; exact h2 hm
/-- One is taken out of the midst, all ahead of it being done. -/
theorem Firsts.take {ops : Array Oper} {d : DOp} {l2 : List DOp} : ∀ {l1 : List DOp} {don : Nat → Prop}, Firsts ops don (l1 ++ d :: l2) → Firsts ops (fun j => j = d.idx ∨ don j) (l1 ++ l2)
  | [], don, ⟨_, _, h⟩ => h
  | x :: l1, don, ⟨⟨o, h1, h2⟩, h3, h4⟩ => by
    refine ⟨⟨o, h1, fun j hj => .inr (h2 j hj)⟩, ?_, ?_⟩
    · rintro (he | he)
      · have : ∀ {l : List DOp} {e : Nat → Prop}, Firsts ops e (l ++ d :: l2) → ¬ e d.idx := by
          intro l
          induction l with
          | nil => exact fun h => h.2.1
          | cons y l ih => exact fun h hh => ih h.2.2 (.inr hh)
        exact this h4 (.inl he.symm)
      · exact h3 he
    · exact (Firsts.take h4).congr fun j => by
        constructor
        · rintro (h | h | h)
          · exact .inr (.inl h)
          · exact .inl h
          · exact .inr (.inr h)
        · rintro (h | h | h)
          · exact .inr (.inl h)
          · exact .inl h
          · exact .inr (.inr h)
theorem Firsts.notMem {ops : Array Oper} : ∀ {l : List DOp} {don : Nat → Prop}, Firsts ops don l → ∀ d ∈ l, ¬ don d.idx
  | x :: l, don, ⟨_, h2, h3⟩, d, hd => by
    rcases List.mem_cons.1 hd with rfl | hd
    · exact h2
    · exact fun hh => Firsts.notMem h3 d hd (.inr hh)

theorem EOpD.lds {cv : CV} (hcv : CVOk P rom cv) {d : DOp} {lds : Lds} {s : St} {K : Lds → St → Prop} (h : EOpD rom cv rd d lds s K) : EOpD rom cv rd d lds s fun l' s' => (∀ j, j ≠ d.idx → l' j = lds j) ∧ K l' s' := by
  unfold EOpD at h ⊢
  split at h
  · unfold EActD at h ⊢
    split at h
    · rename_i ai hai
      split at h
      · refine ⟨fun j hj => ?_, h⟩
        split
        · exact upd_ne _ _ hj
        · rfl
      · exact h.elim
    · split at h
      · exact hcv.mono _ _ _ _ _ _ (fun v h' nx' q => ⟨q.1, fun _ _ => rfl, q.2⟩) h
      · exact h.elim
    · split at h
      · exact ⟨fun _ _ => rfl, h⟩
      · exact h.elim
  · exact ⟨fun _ _ => rfl, h⟩
  · exact h.elim

theorem bubble {cv : CV} (hcv : CVOk P rom cv) {d : DOp} {l2 : List DOp} {K : St → Prop} : ∀ {l1 : List DOp} {lds : Lds} {s : St}, s.h s.nx = none → (∀ y ∈ l1, y.idx ≠ d.idx ∧ y.op.passes d.op = true ∧ (y.op.act.kind ≠ 1 ∨ isCall d.op.act = false ∨ y.idx ∈ d.re)) →
    (∀ y ∈ l1, lds y.idx = none) → (l1.map (·.idx)).Nodup → EOpsD rom cv rd (l1 ++ d :: l2) lds s K → EOpD rom cv rd d lds s fun l' s' => EOpsD rom cv rd (l1 ++ l2) l' s' K
  | [], _, _, _, _, _, _, h => h
  | y :: l1, lds, s, hf, hp, hl, hn, h => by
    obtain ⟨p1, p2, p3⟩ := hp y (by simp)
    have hk : y.op.act.kind ≤ 1 := by
      unfold AOp.passes at p2
      simp only [Bool.and_eq_true, decide_eq_true_eq] at p2
      exact p2.1.2
    obtain ⟨u, lds', hy, hk2⟩ := (ystep_iff hk).1 h
    simp only [List.map_cons, List.nodup_cons] at hn
    have hl' : ∀ z ∈ l1, lds' z.idx = none := fun z hz => by
      have hzy : z.idx ≠ y.idx := fun e => hn.1 (by rw [← e]; exact List.mem_map_of_mem hz)
      rcases hy with ⟨_, _, rfl⟩ | ⟨_, ai, w, _, _, _, rfl⟩
      · exact hl z (by simp [hz])
      · split
        · rw [upd_ne _ _ hzy]; exact hl z (by simp [hz])
        · exact hl z (by simp [hz])
    have ih := bubble hcv (l1 := l1) (lds := lds') (s := ⟨put s.env y.op.dst u, s.h, s.nx, s.dfs⟩) hf (fun z hz => hp z (by simp [hz])) hl' hn.2 hk2
    exact swap hcv p2 p1 p3 hf (hl y (by simp)) ((ystep_iff hk).2 ⟨u, lds', hy, ih⟩)

theorem any_sound {cv : CV} (hcv : CVOk P rom cv) {ops : Array Oper} {bef : List (List Nat)} (hbef : bef = beforeAll ops.toList) {β₀ : Beta} {h₀ : Heap} {w₀ : World} {K : Exit → St → Prop} (hb : ∀ b, rd = some b → β₀.ok b) :
    ∀ (fuel : Nat) (listed : Array Bool) (L : List DOp) (lds : Lds) (β : Beta) (s : St) (a : Act) (w : World), L.length = fuel → listed.size = ops.size → (∀ i, i < ops.size → (listed.getD i false = true ∨ ∃ d ∈ L, d.idx = i)) →
      (∀ d ∈ L, d.idx < ops.size ∧ ∃ o, ops[d.idx]? = some o ∧ compOper P ops nt o = some d.op) → L.Pairwise (Rok bef) → Firsts ops (fun j => listed.getD j false = true) L → (L.map (·.idx)).Nodup →
      (∀ i o, listed.getD i false = true → ops[i]? = some o → ∀ j ∈ preds o, listed.getD j false = true) → (∀ d ∈ L, lds d.idx = none) →
      SRel P β rom nt s a w → Mv β₀ h₀ w₀ β s.h w → EOpsD rom cv rd L lds s (K .normal) → wpAnyIn (FF β₀ rd) 0 P .any ops (Post P rom nt β₀ h₀ w₀ K) fuel listed a w := by
  intro fuel
  induction fuel with
  | zero =>
    intro listed L lds β s a w hlen hsz hcov _ _ _ _ _ _ R M hE
    have hL : L = [] := List.eq_nil_of_length_eq_zero hlen
    subst hL
    refine ⟨?_, β, s, hE, R, M⟩
    unfold Region.ready
    rw [List.filter_eq_nil_iff]
    intro i hi
    simp only [List.mem_range] at hi
    rcases hcov i hi with h | ⟨d, hd, _⟩
    · have : listed.getD i true = true := by
        have hlt : i < listed.size := by omega
        rw [Array.getD_eq_getD_getElem?, Array.getElem?_eq_getElem hlt] at h ⊢
        simpa using h
      simp [this]
    · cases hd
  | succ fuel ih =>
    intro listed L lds β s a w hlen hsz hcov hcomp hpair hfirst hnod hcl hlds R M hE
    have hget : ∀ i, i < ops.size → listed.getD i true = listed.getD i false := fun i hi => by
      have hlt : i < listed.size := by omega
      rw [Array.getD_eq_getD_getElem?, Array.getD_eq_getD_getElem?, Array.getElem?_eq_getElem hlt]; rfl
    refine ⟨fun hr => ?_, fun i hi => ?_⟩
    · exfalso
      cases L with
      | nil => simp at hlen
      | cons d L =>
        obtain ⟨⟨o, ho, hp⟩, hnd, _⟩ := hfirst
        have hd := (hcomp d (by simp)).1
        have : d.idx ∈ Region.ready .any ops listed := by
          unfold Region.ready
          rw [List.mem_filter]
          refine ⟨List.mem_range.2 hd, ?_⟩
          rw [hget _ hd]
          have h1 : listed.getD d.idx false = false := by simpa using hnd
          simp only [h1, Bool.not_false, ho, Option.map_some, Option.getD_some, Bool.true_and]
          rw [Array.all_eq_true']
          intro e he
          by_cases hbd : Region.binds .any e = true
          · have : e.on ∈ preds o := by simp only [preds, List.mem_map, List.mem_filter]; exact ⟨e, ⟨by simpa using he, hbd⟩, rfl⟩
            simp [hp _ this]
          · simp [hbd]
        rw [hr] at this; cases this
    · unfold Region.ready at hi
      rw [List.mem_filter] at hi
      obtain ⟨hi1, hi2⟩ := hi
      have hi1 := List.mem_range.1 hi1
      rw [hget _ hi1] at hi2
      simp only [Bool.and_eq_true, Bool.not_eq_true'] at hi2
      obtain ⟨hi2, hi3⟩ := hi2
      rcases hcov i hi1 with hx | ⟨d, hd, rfl⟩
      · rw [hx] at hi2; cases hi2
      · obtain ⟨hlt, o, ho, hco⟩ := hcomp d hd
        have hpd : ∀ k ∈ preds o, listed.getD k false = true := by
          intro k hk
          simp only [preds, List.mem_map, List.mem_filter] at hk
          obtain ⟨e, ⟨he, hbd⟩, rfl⟩ := hk
          simp only [ho, Option.map_some, Option.getD_some] at hi3
          rw [Array.all_eq_true'] at hi3
          have := hi3 e (by simpa using he)
          simpa [hbd] using this
        obtain ⟨l1, l2, rfl⟩ := List.append_of_mem hd
        have hno := hfirst.notMem
        have hpass : ∀ y ∈ l1, y.idx ≠ d.idx ∧ y.op.passes d.op = true ∧ (y.op.act.kind ≠ 1 ∨ isCall d.op.act = false ∨ y.idx ∈ d.re) := by
          intro y hy
          have hR : Rok bef y d := (List.pairwise_append.1 hpair).2.2 y hy d (by simp)
          rcases hR with hR | hR
          · exfalso
            rw [hbef] at hR
            have := anc_listed hcl (beforeAll_anc hR) fun o' ho' => by rw [ho] at ho'; injection ho' with ho'; exact ho' ▸ hpd
            exact hno y (by simp [hy]) this
          · exact hR
        have hfr : s.h s.nx = none := by
          cases hh : s.h s.nx with
          | none => rfl
          | some ob => have := (R.heap.obj _ ob hh).1; rw [R.nx] at this; exact absurd this (Nat.lt_irrefl _)
        have hnod' : ((l1 ++ l2).map (·.idx)).Nodup ∧ ∀ z ∈ l1 ++ l2, z.idx ≠ d.idx := by
          rw [List.map_append, List.map_cons, List.nodup_append] at hnod
          obtain ⟨q1, q2, q3⟩ := hnod
          rw [List.nodup_cons] at q2
          refine ⟨?_, ?_⟩
          · rw [List.map_append, List.nodup_append]
            exact ⟨q1, q2.2, fun x hx y hy => q3 x hx y (by simp [hy])⟩
          · intro z hz e
            rcases List.mem_append.1 hz with hz | hz
            · exact q3 z.idx (List.mem_map_of_mem hz) d.idx (by simp) e
            · exact q2.1 (by rw [← e]; exact List.mem_map_of_mem hz)
        have hnl1 : (l1.map (·.idx)).Nodup := by
          rw [List.map_append, List.nodup_append] at hnod; exact hnod.1
        have hB := (bubble hcv hfr hpass (fun y hy => hlds y (by simp [hy])) hnl1 hE).lds hcv
        have hE2 := hB.op hcv (K' := fun s' => ∃ l', (∀ j, j ≠ d.idx → l' j = lds j) ∧ EOpsD rom cv rd (l1 ++ l2) l' s' (K .normal)) fun l' s' q => ⟨l', q⟩
        rw [← FF_ext M.ext hb]
        refine EOp_sound hcv ho hco R hE2 ?_
        rintro β' s' a' w' ⟨l', q1, q2⟩ R' M'
        rw [FF_ext M.ext hb]
        have hset : ∀ j, (listed.setIfInBounds d.idx true).getD j false = true ↔ j = d.idx ∨ listed.getD j false = true := by
          intro j
          rw [Array.getD_eq_getD_getElem?, Array.getElem?_setIfInBounds, Array.getD_eq_getD_getElem?]
          by_cases hj : d.idx = j
          · subst hj
            have : d.idx < listed.size := by omega
            simp [this]
          · simp [hj, Ne.symm hj]
        refine ih (listed.setIfInBounds d.idx true) (l1 ++ l2) l' β' s' a' w' (by simp at hlen ⊢; omega) (by simpa using hsz) ?_ (fun z hz => hcomp z (by simp only [List.mem_append, List.mem_cons] at hz ⊢; rcases hz with hz | hz; exact .inl hz; exact .inr (.inr hz))) ?_ ?_ hnod'.1 ?_ ?_ R' (M.trans M') q2
        · intro i hi
          rcases hcov i hi with h | ⟨z, hz, rfl⟩
          · exact .inl ((hset i).2 (.inr h))
          · by_cases hzd : z.idx = d.idx
            · exact .inl ((hset _).2 (.inl hzd))
            · refine .inr ⟨z, ?_, rfl⟩
              simp only [List.mem_append, List.mem_cons] at hz ⊢
              rcases hz with hz | rfl | hz
              · exact .inl hz
              · exact absurd rfl hzd
              · exact .inr hz
        · rw [List.pairwise_append] at hpair ⊢
          obtain ⟨r1, r2, r3⟩ := hpair
          exact ⟨r1, (List.pairwise_cons.1 r2).2, fun x hx y hy => r3 x hx y (by simp [hy])⟩
        · exact (Firsts.take hfirst).congr fun j => (hset j).symm
        · intro i o' hi ho' j hj
          rw [hset] at hi ⊢
          rcases hi with rfl | hi
          · rw [ho] at ho'; injection ho' with ho'; subst ho'
            exact .inr (hpd j hj)
          · exact .inr (hcl i o' hi ho' j hj)
        · intro z hz
          rw [q1 z.idx (hnod'.2 z hz)]
          exact hlds z (by simp only [List.mem_append, List.mem_cons] at hz ⊢; rcases hz with hz | hz; exact .inl hz; exact .inr (.inr hz))

end Go.AL

/- Helper text: calls, deferred calls, ranges over functions. -/
namespace Go.AL

variable {P : Program} {rom : Rom} {nt : Nat} {rd : Option Bid} {s : St} {K : Exit → St → Prop}

theorem mkDOps_spec {xs : List AOp} {bef : List (List Nat)} : ∀ {ord : List Nat} {earlier : List Nat} {ds : List DOp}, mkDOps xs bef earlier ord = some ds → ∀ d ∈ ds, xs[d.idx]? = some d.op
  | [], _, ds, h, d, hd => by simp [mkDOps] at h; subst h; cases hd
  | i :: ord, earlier, ds, h, d, hd => by
    simp only [mkDOps] at h
    split at h
    · rename_i x ds' h1 h2
      injection h with h; subst h
      rcases List.mem_cons.1 hd with rfl | hd
      · exact h1
      · exact mkDOps_spec h2 d hd
    · cases h
theorem compOpers_get {ops : Array Oper} : ∀ {os : List Oper} {xs : List AOp}, compOpers P ops nt os = some xs → ∀ {i : Nat} {x : AOp}, xs[i]? = some x → ∃ o, os[i]? = some o ∧ compOper P ops nt o = some x
  | [], xs, h, i, x, hx => by simp [compOpers] at h; subst h; simp at hx
  | o :: os, xs, h, i, x, hx => by
    simp only [compOpers] at h
    split at h
    · rename_i y ys h1 h2
      injection h with h; subst h
      cases i with
      | zero => simp at hx; subst hx; exact ⟨o, rfl, h1⟩
      | succ i => simp at hx; simpa using compOpers_get h2 hx
    · cases h
theorem Firsts.nodup {ops : Array Oper} : ∀ {l : List DOp} {don : Nat → Prop}, Firsts ops don l → (l.map (·.idx)).Nodup
  | [], _, _ => .nil
  | x :: rest, don, ⟨_, _, h3⟩ => by
    rw [List.map_cons, List.nodup_cons]
    refine ⟨fun hm => ?_, h3.nodup⟩
    obtain ⟨d, hd, he⟩ := List.mem_map.1 hm
    exact h3.notMem d hd (.inl he)

theorem T_dops {cv : CV} (hcv : CVOk P rom cv) (hm : P.follows .mixedOrders = true) {id : Nat} {ops : Array Oper} {ds : List DOp} (hc : compDrawn P nt ops = some (.dops ds)) (h : EOpsD rom cv rd ds (fun _ => none) s (K .normal)) :
    T P rom rd nt (.region id ops true) s K := by
  intro β a w R hb
  unfold compDrawn at hc
  split at hc
  · cases hc
  · rename_i xs hxs
    simp only at hc
    split at hc
    · rename_i ds' hds
      split at hc
      · rename_i hcond
        injection hc with hc; injection hc with hc; subst hc
        obtain ⟨c1, c2, c3, c4, c5⟩ := hcond
        have hF := predsFirst_spec c2
        refine wpIn_region_any hm (any_sound hcv rfl hb ops.size _ ds' (fun _ => none) β s a _ c1 (by simp) ?_ ?_ (pairsOk_spec c3) (hF.congr fun j => ?_) hF.nodup ?_ (fun _ _ => rfl) ⟨R.nx, R.env, R.heap.heap rfl, R.dfs⟩ (Mv.heap rfl rfl rfl) h)
        · intro i hi
          rw [List.all_eq_true] at c5
          have := c5 i (List.mem_range.2 hi)
          rw [List.any_eq_true] at this
          obtain ⟨d, hd, he⟩ := this
          exact .inr ⟨d, hd, by simpa using he⟩
        · intro d hd
          rw [List.all_eq_true] at c4
          have hlt := of_decide_eq_true (c4 d hd)
          obtain ⟨o, ho, hco⟩ := compOpers_get hxs (mkDOps_spec hds d hd)
          exact ⟨hlt, o, by simpa using ho, hco⟩
        · simp [Array.getD_eq_getD_getElem?, Array.getElem?_replicate]
          split <;> simp
        · intro i o hi
          simp [Array.getD_eq_getD_getElem?, Array.getElem?_replicate] at hi
          split at hi <;> simp at hi
      · cases hc
    · cases hc

/-! ### Functions -/

def initEnv (args : List AVal) : Env := fun t => args[t]?

theorem initEnv_rel {β : Beta} {args : List AVal} {rargs : Array Value} (hv : VRels β args rargs.toList) (hl : args.length ≤ nt) : ERel β nt (initEnv args) (rargs ++ Array.replicate (nt - rargs.size) undef) := by
  have hs : rargs.size = args.length := by simpa using hv.length.symm
  refine ⟨by simp; omega, fun t v ht => ?_⟩
  obtain ⟨r, h1, h2⟩ := hv.get ht
  have hlt : t < rargs.size := by
    have := (List.getElem?_eq_some_iff.1 h1).1; simpa using this
  have : (rargs ++ Array.replicate (nt - rargs.size) undef).getD t undef = r := by
    rw [Array.getD_eq_getD_getElem?, Array.getElem?_append_left hlt, ← Array.getElem?_toList, h1]; rfl
  rw [this]; exact h2

def slotVals (env : Env) : List Nat → Option (List AVal)
  | [] => some []
  | t :: ts => match env t, slotVals env ts with
    | some v, some vs => some (v :: vs)
    | _, _ => none
/-- What a call hands back. -/
def resVal (env : Env) (res : List Nat) : Option AVal :=
  match slotVals env res with
  | some [v] => some v
  | some vs => some (.tup vs)
  | none => none

theorem results_run {fn : Func} {rs : List Nat} (hr : resSlots fn.results.toList = some rs) (tmps : Array Value) (w : World) :
    (results fn tmps).run P w = .ok (match rs.map (tmps.getD · undef) with | [v] => v | vs => .tuple vs.toArray) w := by
  have key : ∀ (l : List ResultVar) (rs : List Nat), resSlots l = some rs → (l.mapM (fun x => (match x with
      | .tmp t => pure (tmps.getD t undef)
      | .cell a t => do loadVar t (← asAddr (tmps.getD a undef)) : Sem Value))).run P w = .ok (rs.map (tmps.getD · undef)) w := by
    intro l
    induction l with
    | nil => intro rs h; simp [resSlots] at h; subst h; rfl
    | cons x l ih =>
      intro rs h
      cases x with
      | tmp t =>
        simp only [resSlots, Option.map_eq_some_iff] at h
        obtain ⟨rs', h1, rfl⟩ := h
        have h2 := ih rs' h1
        simp only [List.mapM_cons, Sem.run_bind, Sem.run_pure, Result.andThen_ok, h2, List.map_cons]
      | cell a t => simp [resSlots] at h
  unfold results
  have hk := key _ _ hr
  rw [Array.mapM_eq_mapM_toList, Sem.run_bind, Sem.run_map]
  refine (congrArg (fun r => (Result.andThen (r.andThen fun a w' => .ok a.toArray w') _)) hk).trans ?_
  simp only [Result.andThen_ok]
  generalize rs.map (tmps.getD · undef) = vs
  match vs with
  | [] => rfl
  | [v] => rfl
  | v :: u :: vs => rfl
theorem slotVals_rel {β : Beta} {env : Env} {tmps : Array Value} (hE : ERel β nt env tmps) : ∀ {ts : List Nat} {vs : List AVal}, slotVals env ts = some vs → VRels β vs (ts.map (tmps.getD · undef))
  | [], vs, h => by simp [slotVals] at h; subst h; exact VRels.nil
  | t :: ts, vs, h => by
    simp only [slotVals] at h
    split at h
    · rename_i v vs' h1 h2
      injection h with h; subst h
      exact VRels.cons (hE.get t v h1) (slotVals_rel hE h2)
    · cases h
theorem resVal_rel {β : Beta} {env : Env} {tmps : Array Value} (hE : ERel β nt env tmps) {rs : List Nat} {v : AVal} (h : resVal env rs = some v) : VRel β v (match rs.map (tmps.getD · undef) with | [v] => v | vs => .tuple vs.toArray) := by
  unfold resVal at h
  split at h
  · rename_i x hx
    injection h with h; subst h
    have := slotVals_rel hE hx
    simp only [VRels] at this
    obtain ⟨r, rs', h1, h2, rfl⟩ := this
    rw [h1]; exact h2
  · rename_i vs hne hx
    injection h with h; subst h
    have h1 := slotVals_rel hE hx
    have hl := h1.length
    split
    · rename_i r hr
      rw [hr] at hl
      match vs, hl, hne with
      | [v], _, hne => exact absurd rfl (hne v)
    · simp only [VRel]
      exact ⟨_, rfl, by simpa using h1⟩
  · cases h

/-- A function that is called as a deferred one. -/
def CallDT (P : Program) (rom : Rom) (f : FuncId) (args : List AVal) (h : Heap) (nx : Nat) (Q : AVal → Heap → Nat → Prop) : Prop :=
  okFun P f = true ∧ ∀ β w rargs u, β.nx = nx → HRel P β rom h w → VRels β args rargs.toList → CallsDIn Fence.wide 0 P f rargs u w fun e u' w' => u' = u ∧
    ∃ β' v h' rv, e = .returned rv ∧ Q v h' β'.nx ∧ VRel β' v rv ∧ HRel P β' rom h' w' ∧ Mv β h w β' h' w'

/-- On the way out: the deferred calls. 'cd' meets them. -/
def Leave (cd : FuncId → List AVal → Heap → Nat → (AVal → Heap → Nat → Prop) → Prop) (Q : Heap → Nat → Prop) : List ADef → Heap → Nat → Prop
  | [], h, nx => Q h nx
  | .coll b :: ds, h, nx => match b with
    | .own i => gd (match h i with | some .defs => true | _ => false) (Leave cd Q ds (upd h i none) nx)
    | .arg _ => False
  | .clo f args :: ds, h, nx => cd f args h nx fun _ h' nx' => Leave cd Q ds h' nx'

/-- A way out of a function. -/
def outK (cd : FuncId → List AVal → Heap → Nat → (AVal → Heap → Nat → Prop) → Prop) (res : List Nat) (Q : AVal → Heap → Nat → Prop) : Exit → St → Prop
  | .normal, s | .ret, s => match resVal s.env res with
    | some v => Leave cd (Q v) s.dfs s.h s.nx
    | none => False
  | _, _ => False

theorem takeDeferred_run {w : World} {b : Nat} (h : w.heap[b]? = some (.deferred (some []))) : (Instr.takeDeferred b).run P w = .ok [] { w with heap := w.heap.setIfInBounds b (.deferred none) } := by
  simp [Instr.takeDeferred, getObj_run h (by simp), setObj, Sem.run, h]

theorem leave_sound {cd : FuncId → List AVal → Heap → Nat → (AVal → Heap → Nat → Prop) → Prop} (hcd : ∀ f args h nx Q, cd f args h nx Q → CallDT P rom f args h nx Q) {fn : Func} {rs : List Nat} (hr : resSlots fn.results.toList = some rs)
    {β₀ : Beta} {h₀ : Heap} {w₀ : World} {tmps : Array Value} {env : Env} {v : AVal} {Q : AVal → Heap → Nat → Prop} (hv : resVal env rs = some v) :
    ∀ (ds : List ADef) (rds : List Deferred) (β : Beta) (h : Heap) (w : World), ERel β nt env tmps → HRel P β rom h w → DRel β ds rds → Mv β₀ h₀ w₀ β h w → Leave cd (Q v) ds h β.nx →
      LeavesInM Fence.wide 0 P fn tmps (fun e w' => ∃ β' v h' rv, e = .returned rv ∧ Q v h' β'.nx ∧ VRel β' v rv ∧ HRel P β' rom h' w' ∧ Mv β₀ h₀ w₀ β' h' w') rds .returning w
  | [], rds, β, h, w, hE, H, D, M, hL => by
    simp only [DRel] at D; subst D
    exact ⟨_, results_run hr tmps w, β, v, h, _, rfl, hL, resVal_rel hE hv, H, M⟩
  | .coll b :: ds, rds, β, h, w, hE, H, D, M, hL => by
    obtain ⟨d, rds', rfl, D1, D2⟩ := D
    obtain ⟨D1, rfl⟩ := D1
    cases b with
    | arg i => exact hL.elim
    | own i =>
      obtain ⟨L1, L2⟩ := gd_iff.1 hL
      split at L1
      · rename_i hi
        obtain ⟨_, hfp, hob⟩ := H.obj i _ hi
        have hbl : β.blk (.own i) < w.heap.size := by
          rcases Nat.lt_or_ge (β.blk (.own i)) w.heap.size with h' | h'
          · exact h'
          · simp [Array.getElem?_eq_none h'] at hob
        have hput := H.put (o' := .opq fun _ _ => True) (w' := { w with heap := w.heap.setIfInBounds (β.blk (.own i)) (.deferred none) }) hi hfp (by simp)
          (fun b hb => by simp [Ne.symm hb]) rfl rfl ⟨(hfp _).2 rfl, trivial⟩
        have hdr : ∀ j ob, upd h i none j = some ob → upd h i (some (.opq fun _ _ => True)) j = some ob := fun j ob hj => by
          by_cases hji : j = i
          · subst hji; simp at hj
          · rw [upd_ne _ _ hji] at hj ⊢; exact hj
        refine ⟨by simp, .inl ⟨β.blk (.own i), _, rfl, takeDeferred_run hob, ?_⟩⟩
        exact leave_sound hcd hr hv ds rds' β (upd h i none) _ hE (hput.1.drop hdr) D2 (M.trans (hput.2.trans (Mv.drop hdr))) L2
      · cases L1
  | .clo f args :: ds, rds, β, h, w, hE, H, D, M, hL => by
    obtain ⟨d, rds', rfl, ⟨given, caps, rfl, D1⟩, D2⟩ := D
    have hc := hcd _ _ _ _ _ hL
    obtain ⟨hok, hc⟩ := hc
    refine ⟨by simp, .inr ⟨by simp [Fence.wide], .func f, caps, f, given ++ caps, rfl, ?_, fun _ _ => trivial, ?_⟩⟩
    · unfold okFun at hok
      split at hok
      case h_2 => cases hok
      rename_i fn' g1
      simp only [Bool.and_eq_true, Bool.not_eq_true'] at hok
      obtain ⟨g2, g3⟩ := hok
      have hb : ¬ fn'.body = none := by cases hh : fn'.body <;> simp [hh] at g2 ⊢
      have g4 : ¬ fn'.name = "runtime.NumGoroutine" := by simpa using g3
      simp [invoke, callFunc, g1, g4, hb]
    · refine (hc β w (given ++ caps) .returning rfl H (by simpa using D1)).mono ?_
      rintro e u' w' ⟨rfl, β', v', h', rv, rfl, q1, q2, q3, q4⟩
      exact leave_sound hcd hr hv ds rds' β' h' w' (hE.ext q4.ext) q3 (D2.ext q4.ext) (M.trans q4) q1

/-- A function's contract, out of its body. -/
theorem callT_of_T {cd : FuncId → List AVal → Heap → Nat → (AVal → Heap → Nat → Prop) → Prop} (hcd : ∀ f args h nx Q, cd f args h nx Q → CallDT P rom f args h nx Q) {f : FuncId} {fn : Func} {c : Code} {rs : List Nat} (hok : okFun P f = true)
    (hf : P.funcs[f]? = some fn) (hb : fn.body = some c) (hr : resSlots fn.results.toList = some rs) {args : List AVal} {h : Heap} {nx : Nat} {Q : AVal → Heap → Nat → Prop} (hl : args.length ≤ fn.ntmps)
    (hT : T P rom none fn.ntmps c ⟨initEnv args, h, nx, []⟩ (outK cd rs Q)) : CallT P rom f args h nx Q := by
  refine ⟨hok, fun β w rargs hnx H hv => ?_⟩
  have h1 := hT β { tmps := rargs ++ Array.replicate (fn.ntmps - rargs.size) undef, defers := [] } w ⟨hnx, initEnv_rel hv hl, H, rfl⟩ (fun b hb => by cases hb)
  refine callsIn_of_wp_marks hf hb trivial (wpIn_mono h1 ?_)
  have key : ∀ β' s' a' w', (match resVal s'.env rs with | some v => Leave cd (Q v) s'.dfs s'.h s'.nx | none => False) → SRel P β' rom fn.ntmps s' a' w' → Mv β h w β' s'.h w' →
      LeavesInM Fence.wide 0 P fn a'.tmps (fun e w' => ∃ β' v h' rv, e = .returned rv ∧ Q v h' β'.nx ∧ VRel β' v rv ∧ HRel P β' rom h' w' ∧ Mv β h w β' h' w') a'.defers .returning w' := by
    intro β' s' a' w' k R M
    split at k
    · rename_i v hv
      exact leave_sound hcd hr hv s'.dfs a'.defers β' s'.h w' R.env R.heap R.dfs M (by rw [R.nx]; exact k)
    · exact k.elim
  rintro e a' w' ⟨β', s', k, R, M⟩
  cases e with
  | normal => exact key β' s' a' w' k R M
  | ret => exact key β' s' a' w' k R M
  | exit id => exact k.elim
  | goto l => exact k.elim
  | panic c => exact k.elim
  | outgrown => exact k.elim

theorem callDT_of_T {f : FuncId} {fn : Func} {c : Code} {rs : List Nat} (hok : okFun P f = true)
    (hf : P.funcs[f]? = some fn) (hb : fn.body = some c) (hr : resSlots fn.results.toList = some rs) {args : List AVal} {h : Heap} {nx : Nat} {Q : AVal → Heap → Nat → Prop} (hl : args.length ≤ fn.ntmps)
    (hT : T P rom none fn.ntmps c ⟨initEnv args, h, nx, []⟩ (fun e s => (e = .normal ∨ e = .ret) ∧ s.dfs = [] ∧ ∃ v, resVal s.env rs = some v ∧ Q v s.h s.nx)) : CallDT P rom f args h nx Q := by
  refine ⟨hok, fun β w rargs u hnx H hv => ?_⟩
  have h1 := hT β { tmps := rargs ++ Array.replicate (fn.ntmps - rargs.size) undef, defers := [] } w ⟨hnx, initEnv_rel hv hl, H, rfl⟩ (fun b hb => by cases hb)
  refine callsDIn_of_wp hf hb trivial (wpIn_mono h1 ?_)
  rintro e a' w' ⟨β', s', ⟨k1, k2, v, k3, k4⟩, R, M⟩
  have hd : a'.defers = [] := by have := R.dfs; rw [k2] at this; exact this
  have hfin : a'.defers = [] ∧ ∃ v, (results fn a'.tmps).run P w' = .ok v w' ∧ ∃ β' v₁ h' rv, Ending.returned v = .returned rv ∧ Q v₁ h' β'.nx ∧ VRel β' v₁ rv ∧ HRel P β' rom h' w' ∧ Mv β h w β' h' w' :=
    ⟨hd, _, results_run hr a'.tmps w', β', v, s'.h, _, rfl, by rw [R.nx]; exact k4, resVal_rel R.env k3, R.heap, M⟩
  rcases k1 with rfl | rfl
  · exact hfin
  · exact hfin

end Go.AL

/- Helper text: ranges over functions, and their rounds. -/
namespace Go.AL

variable {P : Program} {rom : Rom} {nt : Nat} {rd : Option Bid} {s : St} {K : Exit → St → Prop}

/-- The loop's record, and the block of its deferred calls. -/
def rfHeap (s : St) (ps : List Nat) (asg body : ACode) (nt : Nat) : Heap :=
  upd (upd s.h s.nx (some .defs)) (s.nx + 1) (some (.loop .ready none s.env nt ps asg body (.own s.nx)))

/-- What follows when the function that was ranged over has come back. -/
def rfEnd (s : St) (K : Exit → St → Prop) (h2 : Heap) (nx2 : Nat) : Prop :=
  match h2 (s.nx + 1) with
  | some (.loop st pend _ _ _ _ _ _) => gd (match st with | .busy => false | _ => true)
      (match pend with
       | none => K .normal ⟨s.env, upd h2 (s.nx + 1) none, nx2, .coll (.own s.nx) :: s.dfs⟩
       | some .ret => K .ret ⟨s.env, upd h2 (s.nx + 1) none, nx2, .coll (.own s.nx) :: s.dfs⟩
       | some (.exit id) => K (.exit id) ⟨s.env, upd h2 (s.nx + 1) none, nx2, .coll (.own s.nx) :: s.dfs⟩
       | _ => False)
  | _ => False

theorem endLoop_run {w : World} {l : Nat} {r : Loop} (h : w.heap[l]? = some (.loop r)) (hs : r.state ≠ .busy) : (Instr.endLoop l).run P w = .ok r.pending { w with heap := w.heap.setIfInBounds l (.loop { r with state := .exhausted }) } := by
  simp [Instr.endLoop, Instr.getLoop, getObj_run h (by simp), setObj, Sem.run, h, hs]

theorem T_rfunc {cv : CV} (hcv : CVOk P rom cv) {f : Operand} {f' : AOpd} {ps : Array Tmp} {rasg rbody : Code} {asg body : ACode} {g : FuncId} {first caps : List AVal} (hf : compOpd f = some f') (ha : compCode P nt rasg = some asg) (hb : compCode P nt rbody = some body)
    (hv : f'.ev s.env = some (.func g first caps))
    (h : cv (.func g first caps) [.yld (.own (s.nx + 1))] (rfHeap s ps.toList asg body nt) (s.nx + 2) fun _ h2 nx2 => rfEnd s K h2 nx2) : T P rom none nt (.rangeFunc f ps rasg rbody) s K := by
  intro β a w R _
  have hr := ev_rel hf R.env hv
  simp only [VRel] at hr
  obtain ⟨ra, rc, hr1, hr2, hr3⟩ := hr
  refine wpIn_rangeFunc fun fn _ => ?_
  -- the two new blocks
  obtain ⟨H1, M1⟩ := R.heap.push 0 .defs (.deferred (some [])) ⟨fun b => by simp [Beta.push], by simp only [push_blk]; exact heap_push_new⟩ (fun i hi => R.heap.rom_lt i hi)
  let β1 := β.push w.heap.size 0
  let w1 := w.alloc (.deferred (some []))
  let lo : Loop := { state := .ready, pending := none, fn, tmps := a.tmps, params := ps, assign := rasg, body := rbody, defers := w.heap.size }
  have hsz1 : w1.heap.size = w.heap.size + 1 := by simp [w1]
  obtain ⟨H2, M2⟩ := H1.push (w := w1) 0 (.loop .ready none s.env nt ps.toList asg body (.own β.nx)) (.loop lo) (by
    refine ⟨fun b => by simp [Beta.push], fn, a.tmps, rasg, rbody, (R.env.ext (M1.ext.trans (Beta.push_ext _ _ _))), ?_, ha, hb, ?_⟩
    · show β.nx < β.nx + 1 + 1; omega
    · rw [push_blk]
      have : ((β.push w.heap.size 0).push w1.heap.size 0).blk (.own β.nx) = w.heap.size := by
        have := (Beta.push_ext (β.push w.heap.size 0) w1.heap.size 0).own β.nx (Nat.lt_succ_self _)
        rw [this.1, push_blk]
      rw [this]
      exact heap_push_new) (fun i hi => H1.rom_lt i hi)
  let β2 := β1.push w1.heap.size 0
  let w2 := w1.alloc (.loop lo)
  have hnx1 : (β.push w.heap.size 0).nx = s.nx + 1 := by show β.nx + 1 = _; rw [R.nx]
  have M12 := M1.trans M2
  have hh : upd (upd s.h β.nx (some .defs)) (β.push w.heap.size 0).nx (some (.loop .ready none s.env nt ps.toList asg body (.own β.nx))) = rfHeap s ps.toList asg body nt := by
    rw [hnx1, R.nx]; rfl
  rw [hh] at H2 M12
  have hc := hcv.ok _ _ _ _ _ h
  obtain ⟨hok, hc⟩ := hc
  have hnx2 : β2.nx = s.nx + 2 := by show β.nx + 1 + 1 = _; rw [R.nx]
  have hyv : VRel β2 (.yld (.own (s.nx + 1))) (.func (.yield w1.heap.size) #[] #[]) := by
    simp only [VRel]
    refine ⟨by show s.nx + 1 < β2.nx; omega, ?_⟩
    have : β2.blk (.own (s.nx + 1)) = w1.heap.size := by
      show ((β.push w.heap.size 0).push w1.heap.size 0).blk (.own (s.nx + 1)) = _
      rw [← hnx1, push_blk]
    rw [this]
  refine ⟨w1.heap.size, [{ target := .collected w.heap.size, args := #[] }], w2, { target := .fn (.func g) rc, args := ra ++ #[.func (.yield w1.heap.size) #[] #[]] }, w2, g, ra ++ #[.func (.yield w1.heap.size) #[] #[]] ++ rc, w2, ?_, ?_, fun _ _ => trivial, ?_, by simp [FF, Fence.wide], ?_⟩
  · simp [Instr.enterLoop, FF, w1, w2, lo]
  · have ec : ∀ v, a.eval (.const v) = v := fun _ => rfl
    simp [resolve, hr1, Deferred.ofValue, ec]
  · unfold okFun at hok
    split at hok
    case h_2 => cases hok
    rename_i fn' g1
    simp only [Bool.and_eq_true, Bool.not_eq_true'] at hok
    obtain ⟨g2, g3⟩ := hok
    have hb' : ¬ fn'.body = none := by cases hh : fn'.body <;> simp [hh] at g2 ⊢
    have g4 : ¬ fn'.name = "runtime.NumGoroutine" := by simpa using g3
    simp [invoke, callFunc, g1, g4, hb']
  · refine (hc β2 w2 _ hnx2 H2 (by
      have e1 := (VRels.ext M12.ext _ _ hr2).append (VRels.append (VRels.cons hyv VRels.nil) (VRels.ext M12.ext _ _ hr3))
      simpa using e1)).mono ?_
    rintro e w3 ⟨β3, v3, h3, rv3, rfl, q1, q2, q3, q4⟩
    unfold rfEnd at q1
    split at q1
    · rename_i st pend env' nt' ps' a' b' d' hl3
      obtain ⟨q1a', q1b⟩ := gd_iff.1 q1
      have q1a : st ≠ .busy := by intro hst; rw [hst] at q1a'; cases q1a'
      obtain ⟨hlt3, hfp3, fn3, tmps3, ra3, rb3, _, _, _, _, hob3⟩ := q3.obj _ _ hl3
      have hblk : β3.blk (.own (s.nx + 1)) = w1.heap.size := by
        have e1 := (q4.ext.own (s.nx + 1) (by omega)).1
        simp only [VRel] at hyv
        have e2 : β2.blk (.own (s.nx + 1)) = w1.heap.size := by
          show ((β.push w.heap.size 0).push w1.heap.size 0).blk (.own (s.nx + 1)) = _
          rw [← hnx1, push_blk]
        rw [e1, e2]
      rw [hblk] at hob3
      refine ⟨pend, _, endLoop_run hob3 q1a, ?_⟩
      have hbl : w1.heap.size < w3.heap.size := by
        rcases Nat.lt_or_ge w1.heap.size w3.heap.size with h' | h'
        · exact h'
        · simp [Array.getElem?_eq_none h'] at hob3
      have hput := q3.put (o' := .opq fun _ _ => True) (w' := { w3 with heap := w3.heap.setIfInBounds w1.heap.size (.loop { state := .exhausted, pending := pend, fn := fn3, tmps := tmps3, params := ps'.toArray, assign := ra3, body := rb3, defers := β3.blk d' }) }) hl3 hfp3 (by simp)
        (fun b hb => by rw [hblk] at hb; simp [Ne.symm hb]) rfl rfl ⟨(hfp3 _).2 rfl, trivial⟩
      have hdr : ∀ j ob, upd h3 (s.nx + 1) none j = some ob → upd h3 (s.nx + 1) (some (.opq fun _ _ => True)) j = some ob := fun j ob hj => by
        by_cases hji : j = s.nx + 1
        · subst hji; simp at hj
        · rw [upd_ne _ _ hji] at hj ⊢; exact hj
      have M := M12.trans (q4.trans (hput.2.trans (Mv.drop hdr)))
      have E13 := M12.ext.trans q4.ext
      have hdefs : DRel β3 (.coll (.own s.nx) :: s.dfs) ({ target := .collected w.heap.size, args := #[] } :: a.defers) := by
        refine ⟨_, _, rfl, ⟨?_, ?_⟩, R.dfs.ext E13⟩
        · show s.nx < β3.nx; have := q4.ext.nx; omega
        · have e1 := (q4.ext.own s.nx (by omega)).1
          have e2 : β2.blk (.own s.nx) = w.heap.size := by
            have := ((β.push w.heap.size 0).push_ext w1.heap.size 0).own β.nx (Nat.lt_succ_self _)
            rw [← R.nx]
            show ((β.push w.heap.size 0).push w1.heap.size 0).blk (.own β.nx) = _
            rw [this.1, push_blk]
          rw [e1, e2]
      have hSR : SRel P β3 rom nt ⟨s.env, upd h3 (s.nx + 1) none, β3.nx, .coll (.own s.nx) :: s.dfs⟩ { a with defers := [{ target := .collected w.heap.size, args := #[] }] ++ a.defers } _ :=
        ⟨rfl, R.env.ext E13, hput.1.drop hdr, hdefs⟩
      split at q1b
      · exact ⟨β3, _, q1b, hSR, M⟩
      · exact wpIn_ret ⟨β3, _, q1b, hSR, M⟩
      · exact wpIn_exit ⟨β3, _, q1b, hSR, M⟩
      · exact q1b.elim
    · exact q1.elim

/-! ### A round -/

def putMany (env : Env) : List Nat → List AVal → Env
  | p :: ps, v :: vs => putMany (upd env p (some v)) ps vs
  | _, _ => env

def jumpOf : Exit → Option (Option Code)
  | .normal => some none
  | .ret => some (some .ret)
  | .exit id => some (some (.exit id))
  | _ => none

/-- The end of a round. -/
def roundEnd (i : Nat) (Q : AVal → Heap → Nat → Prop) : Exit → St → Prop := fun e s =>
  match jumpOf e, s.h i with
  | some j, some (.loop _ _ env nt ps a b d) => Q (.bool j.isNone) (upd s.h i (some (.loop (if j.isNone then .ready else .done) j env nt ps a b d))) s.nx
  | _, _ => False
/-- Between the assignment and the body. -/
def roundMid (i : Nat) (TB : St → Prop) : Exit → St → Prop := fun e s =>
  match e, s.h i with
  | .normal, some (.loop .ready pend env nt ps a b d) => TB ⟨s.env, upd s.h i (some (.loop .busy pend env nt ps a b d)), s.nx, s.dfs⟩
  | _, _ => False

theorem ERel.put1 {β : Beta} {env : Env} {tmps : Array Value} {d : Nat} {v : AVal} {r : Value} (h0 : ERel β nt env tmps) (hd : d < nt) (hv : VRel β v r) : ERel β nt (upd env d (some v)) (tmps.setIfInBounds d r) := by
  refine ⟨by simpa using h0.size, fun t x hx => ?_⟩
  by_cases ht : t = d
  · subst ht
    rw [upd_same] at hx
    injection hx with hx
    have : (tmps.setIfInBounds t r).getD t undef = r := by
      have := h0.size
      simp [Array.getD_eq_getD_getElem?, this, hd]
    rw [this]; exact hx ▸ hv
  · rw [upd_ne _ _ ht] at hx
    have : (tmps.setIfInBounds d r).getD t undef = tmps.getD t undef := by
      simp [Array.getD_eq_getD_getElem?, Ne.symm ht]
    rw [this]; exact h0.get t x hx

theorem putMany_rel {β : Beta} : ∀ {ps : List Nat} {vs : List AVal} {rs : List Value} {env : Env} {tmps : Array Value}, ERel β nt env tmps → VRels β vs rs → vs.length = ps.length → (ps.all fun p => decide (p < nt)) = true →
    ERel β nt (putMany env ps vs) ((ps.zip rs).foldl (fun tmps (p : Nat × Value) => tmps.setIfInBounds p.1 p.2) tmps)
  | [], vs, rs, env, tmps, hE, hv, hl, _ => by
    cases vs with
    | nil => exact hE
    | cons v vs => simp at hl
  | p :: ps, vs, rs, env, tmps, hE, hv, hl, hp => by
    cases vs with
    | nil => simp at hl
    | cons v vs =>
      simp only [VRels] at hv
      obtain ⟨r, rs', rfl, h1, h2⟩ := hv
      simp only [List.all_cons, Bool.and_eq_true] at hp
      simp only [List.zip_cons_cons, List.foldl_cons, putMany]
      refine putMany_rel ?_ h2 (by simpa using hl) hp.2
      exact hE.put1 (of_decide_eq_true hp.1) h1

theorem setObj_loop {w : World} {l : Nat} {r : Loop} (h : w.heap[l]? = some (.loop r)) (o : Obj) : (setObj l o).run P w = .ok () { w with heap := w.heap.setIfInBounds l o } := by
  simp [setObj, Sem.run, h]

/-- Another state of a loop's record. -/
theorem loop_put {β : Beta} {h : Heap} {w : World} {i : Nat} {st st' : LoopState} {pend pend' : Option Code} {env : Env} {nt' : Nat} {ps : List Nat} {asg body : ACode} {d : Bid} (H : HRel P β rom h w) (hi : h i = some (.loop st pend env nt' ps asg body d)) :
    ∃ r : Loop, w.heap[β.blk (.own i)]? = some (.loop r) ∧ r.state = st ∧ r.pending = pend ∧
      HRel P β rom (upd h i (some (.loop st' pend' env nt' ps asg body d))) { w with heap := w.heap.setIfInBounds (β.blk (.own i)) (.loop { r with state := st', pending := pend' }) } ∧
      Mv β h w β (upd h i (some (.loop st' pend' env nt' ps asg body d))) { w with heap := w.heap.setIfInBounds (β.blk (.own i)) (.loop { r with state := st', pending := pend' }) } := by
  obtain ⟨hlt, hfp, fn, tmps, ra, rb, h1, h2, h3, h4, hob⟩ := H.obj _ _ hi
  have hbl : β.blk (.own i) < w.heap.size := by
    rcases Nat.lt_or_ge (β.blk (.own i)) w.heap.size with h' | h'
    · exact h'
    · simp [Array.getElem?_eq_none h'] at hob
  refine ⟨_, hob, rfl, rfl, H.put hi hfp (by simp) (fun b hb => by simp [Ne.symm hb]) rfl rfl ?_⟩
  exact ⟨hfp, fn, tmps, ra, rb, h1, h2, h3, h4, by simp [hbl]⟩

theorem yldT_of_T {i : Nat} {pend : Option Code} {env : Env} {nt' : Nat} {ps : List Nat} {asg body : ACode} {d : Bid} {args : List AVal} {h : Heap} {nx : Nat} {Q : AVal → Heap → Nat → Prop} {st : LoopState}
    (hi : h i = some (.loop st pend env nt' ps asg body d)) (hl : args.length = ps.length) (hp : (ps.all fun p => decide (p < nt')) = true)
    (hT : ∀ rasg rbody, compCode P nt' rasg = some asg → compCode P nt' rbody = some body → T P rom (some (.own i)) nt' rasg ⟨putMany env ps args, h, nx, []⟩ (roundMid i fun s' => T P rom (some (.own i)) nt' rbody s' (roundEnd i Q))) :
    YldT P rom (.own i) args h nx Q := by
  intro β w rargs hnx H hv hok
  obtain ⟨hlt, hfp, fn, tmps, ra, rb, h1, h2, h3, h4, hob⟩ := H.obj _ _ hi
  have hsz : rargs.size = ps.length := by have := hv.length; simp at this; omega
  refine ⟨β.blk (.own i), fn, (ps.toArray.zip rargs).foldl (fun tmps (p : Nat × Value) => tmps.setIfInBounds p.1 p.2) tmps, ra, rb, ?_, ?_⟩
  · simp [Instr.yield, Instr.getLoop, getObj_run hob (by simp), hsz]
  · have hT := hT ra rb h3 h4
    have e1 : (ps.toArray.zip rargs).foldl (fun tmps (p : Nat × Value) => tmps.setIfInBounds p.1 p.2) tmps = (ps.zip rargs.toList).foldl (fun tmps (p : Nat × Value) => tmps.setIfInBounds p.1 p.2) tmps := by
      rw [← Array.foldl_toList]; simp
    rw [e1]
    have hE := putMany_rel h1 hv hl hp
    have hb : ∀ b, some (Bid.own i) = some b → β.ok b := fun b hb => by injection hb with hb; exact hb ▸ hok
    have hA := hT β { tmps := (ps.zip rargs.toList).foldl (fun tmps (p : Nat × Value) => tmps.setIfInBounds p.1 p.2) tmps, defers := [] } w ⟨hnx, hE, H, rfl⟩ hb
    refine roundIn_of_wpIn trivial (wpIn_mono hA ?_)
    rintro e a1 w1 ⟨β1, s1, k1, R1, M1⟩
    unfold roundMid at k1
    split at k1
    · rename_i pend1 env1 nt1 ps1 asg1 body1 d1 hi1
      have hbl1 : β1.blk (.own i) = β.blk (.own i) := (M1.ext.own i hlt).1
      obtain ⟨r, r1, r2, r3, H2, M2⟩ := loop_put (st' := .busy) (pend' := pend1) R1.heap hi1
      rw [hbl1] at r1
      refine ⟨{ w1 with heap := w1.heap.setIfInBounds (β.blk (.own i)) (.loop { r with state := .busy }) }, ?_, ?_⟩
      · simp [Instr.beginRound, Instr.getLoop, getObj_run r1 (by simp), setObj_loop r1, r2]
      · have hr : ({ r with state := .busy, pending := pend1 } : Loop) = { r with state := .busy } := by cases r; simp at r3; subst r3; rfl
        rw [hr, hbl1] at H2 M2
        have hb1 := ok_ext M1.ext hb
        have hB := k1 β1 a1 _ ⟨R1.nx, R1.env, H2, R1.dfs⟩ hb1
        have hFF : FF β1 (some (.own i)) = Fence.wide.inRound (β.blk (.own i)) := by simp [FF, Fence.inRound, hbl1]
        rw [hFF] at hB
        refine wpIn_mono hB ?_
        rintro e2 a2 w2 ⟨β2, s2, k2, R2, M3⟩
        unfold roundEnd at k2
        split at k2
        · rename_i j st2 pend2 env2 nt2 ps2 asg2 body2 d2 hj hi2
          have hbl2 : β2.blk (.own i) = β.blk (.own i) := by
            have := (M3.ext.own i (Nat.lt_of_lt_of_le hlt M1.ext.nx)).1
            rw [this, hbl1]
          obtain ⟨r', t1, t2, t3, H4, M4⟩ := loop_put (st' := if j.isNone then .ready else .done) (pend' := j) R2.heap hi2
          rw [hbl2] at t1
          have hend : (Instr.endRound (β.blk (.own i)) j).run P w2 = .ok (.bool j.isNone) { w2 with heap := w2.heap.setIfInBounds (β.blk (.own i)) (.loop { r' with state := if j.isNone then .ready else .done, pending := j }) } := by
            simp [Instr.endRound, Instr.getLoop, getObj_run t1 (by simp), setObj_loop t1]
          rw [hbl2] at H4 M4
          have hfin : ∃ β' v h' rv, Ending.returned (.bool j.isNone) = .returned rv ∧ Q v h' β'.nx ∧ VRel β' v rv ∧ HRel P β' rom h' { w2 with heap := w2.heap.setIfInBounds (β.blk (.own i)) (.loop { r' with state := if j.isNone then .ready else .done, pending := j }) } ∧
              Mv β h w β' h' { w2 with heap := w2.heap.setIfInBounds (β.blk (.own i)) (.loop { r' with state := if j.isNone then .ready else .done, pending := j }) } :=
            ⟨β2, .bool j.isNone, _, _, rfl, by rw [R2.nx]; exact k2, by simp [VRel], H4, M1.trans (M2.trans (M3.trans M4))⟩
          cases e2 <;> simp only [jumpOf] at hj <;> first
            | (injection hj with hj; subst hj; exact ⟨_, _, hend, hfin⟩)
            | cases hj
        · exact k2.elim
    · exact k1.elim

end Go.AL

/- Helper text: an evaluator of code; what it comes to is what the machine comes to. -/
namespace Go.AL

variable {P : Program} {rom : Rom}

def loopN (step : St → (Exit → St → Prop) → Prop) : Nat → St → (Exit → St → Prop) → Prop
  | 0, _, _ => False
  | n + 1, s, K => step s (andThen (fun s' => loopN step n s' K) K)

/-- A piece of code that is not looked into. -/
def TA (P : Program) (rom : Rom) (rd : Option Bid) (nt : Nat) (a : ACode) (s : St) (K : Exit → St → Prop) : Prop :=
  ∀ c, compCode P nt c = some a → T P rom rd nt c s K

def EC (P : Program) (rom : Rom) (cv : CV) (lf : Option Nat) (rd : Option Bid) (nt : Nat) : ACode → St → (Exit → St → Prop) → Prop
  | .skip, s, K => K .normal s
  | .ops l, s, K => EOps rom cv rd l s (K .normal)
  | .dops l, s, K => EOpsD rom cv rd l (fun _ => none) s (K .normal)
  | .seq a b, s, K => EC P rom cv lf rd nt a s (andThen (fun s' => EC P rom cv lf rd nt b s' K) K)
  | .cond c a b, s, K => match c.ev s.env with
    | some (.bool t) => bif t then EC P rom cv lf rd nt a s K else EC P rom cv lf rd nt b s K
    | _ => False
  | .block id a, s, K => EC P rom cv lf rd nt a s (inBlk id K)
  | .loop a, s, K => match lf with
    | none => TA P rom rd nt (.loop a) s K
    | some n => loopN (fun s K => EC P rom cv lf rd nt a s K) n s K
  | .exit id, s, K => K (.exit id) s
  | .ret, s, K => K .ret s
  | .scope a, s, K => EC P rom cv lf rd nt a s (noGo K)
  | .rfunc f ps asg body, s, K => match rd, f.ev s.env with
    | none, some (.func g first caps) => cv (.func g first caps) [.yld (.own (s.nx + 1))] (rfHeap s ps asg body nt) (s.nx + 2) fun _ h2 nx2 => rfEnd s K h2 nx2
    | _, _ => False

def outD (res : List Nat) (Q : AVal → Heap → Nat → Prop) : Exit → St → Prop
  | .normal, s | .ret, s => match s.dfs, resVal s.env res with
    | [], some v => Q v s.h s.nx
    | _, _ => False
  | _, _ => False

abbrev AProg := FuncId → Option AFun
/-- What is told of functions is so. -/
def AProgOk (P : Program) (pg : AProg) : Prop := ∀ f af, pg f = some af → compFun P f = some af

def CDn (P : Program) (rom : Rom) (pg : AProg) (cv : CV) (lf : Option Nat) (f : FuncId) (args : List AVal) (h : Heap) (nx : Nat) (Q : AVal → Heap → Nat → Prop) : Prop :=
  match pg f with
  | some af => gd (decide (args.length ≤ af.nt)) (EC P rom cv lf none af.nt af.body ⟨initEnv args, h, nx, []⟩ (outD af.res Q))
  | none => CallDT P rom f args h nx Q

/-- Calls are gone into, so deep; below, or where nothing is told of a function, they are left as they are. -/
def CVn (P : Program) (rom : Rom) (pg : AProg) (lf : Option Nat) : Nat → CV
  | 0, fv, args, h, nx, Q => CallV P rom fv args h nx Q
  | n + 1, fv, args, h, nx, Q => match fv with
    | .func f first caps => match pg f with
      | some af => gd (decide ((first ++ args ++ caps).length ≤ af.nt))
          (EC P rom (CVn P rom pg lf n) lf none af.nt af.body ⟨initEnv (first ++ args ++ caps), h, nx, []⟩ (outK (CDn P rom pg (CVn P rom pg lf n) lf) af.res Q))
      | none => CallT P rom f (first ++ args ++ caps) h nx Q
    | .yld (.own i) => match h i with
      | some (.loop _ _ env nt ps asg body _) => gd (args.length == ps.length && (ps.all fun p => decide (p < nt)))
          (EC P rom (CVn P rom pg lf n) lf (some (.own i)) nt asg ⟨putMany env ps args, h, nx, []⟩ (roundMid i fun s' =>
            EC P rom (CVn P rom pg lf n) lf (some (.own i)) nt body s' (roundEnd i Q)))
      | _ => False
    | _ => False

theorem EOp.mono {cv : CV} (hcv : CVOk P rom cv) {rd : Option Bid} {o : AOp} {s : St} {K K' : St → Prop} (hk : ∀ s', K s' → K' s') (h : EOp rom cv rd o s K) : EOp rom cv rd o s K' := by
  have act : EAct rom cv rd o s K → EAct rom cv rd o s K' := by
    intro h
    unfold EAct at h ⊢
    split at h
    · split at h
      · exact hk _ h
      · exact h.elim
    · split at h
      · exact hcv.mono _ _ _ _ _ _ (fun v h' nx' q => hk _ q) h
      · exact h.elim
    · split at h
      · exact hk _ h
      · exact h.elim
  unfold EOp at h ⊢
  split at h
  · exact act h
  · split at h
    · rename_i b _
      revert h
      cases b == _ with
      | true => exact act
      | false => exact hk _
    · exact h.elim
theorem EOps.mono {cv : CV} (hcv : CVOk P rom cv) {rd : Option Bid} : ∀ {l : List AOp} {s : St} {K K' : St → Prop}, (∀ s', K s' → K' s') → EOps rom cv rd l s K → EOps rom cv rd l s K'
  | [], _, _, _, hk, h => hk _ h
  | _ :: _, _, _, _, hk, h => EOp.mono hcv (fun _ h' => EOps.mono hcv hk h') h
theorem EOpsD.mono {cv : CV} (hcv : CVOk P rom cv) {rd : Option Bid} : ∀ {l : List DOp} {lds : Lds} {s : St} {K K' : St → Prop}, (∀ s', K s' → K' s') → EOpsD rom cv rd l lds s K → EOpsD rom cv rd l lds s K'
  | [], _, _, _, _, hk, h => hk _ h
  | _ :: _, _, _, _, _, hk, h => EOpD.mono hcv h fun _ _ h' => EOpsD.mono hcv hk h'

theorem andThen_mono {k k' : St → Prop} {K K' : Exit → St → Prop} (h1 : ∀ s, k s → k' s) (h2 : ∀ e s, K e s → K' e s) : ∀ e s, andThen k K e s → andThen k' K' e s := by
  intro e s h
  cases e <;> first | exact h1 _ h | exact h2 _ _ h
theorem inBlk_mono {id : Nat} {K K' : Exit → St → Prop} (h2 : ∀ e s, K e s → K' e s) : ∀ e s, inBlk id K e s → inBlk id K' e s := by
  intro e s h
  cases e with
  | exit id' =>
    simp only [inBlk] at h ⊢
    split
    · rename_i hi; rw [if_pos hi] at h; exact h2 _ _ h
    · rename_i hi; rw [if_neg hi] at h; exact h2 _ _ h
  | _ => exact h2 _ _ h
theorem noGo_mono {K K' : Exit → St → Prop} (h2 : ∀ e s, K e s → K' e s) : ∀ e s, noGo K e s → noGo K' e s := by
  intro e s h
  cases e <;> first | exact h.elim | exact h2 _ _ h
theorem loopN_mono {step : St → (Exit → St → Prop) → Prop} (hs : ∀ s K K', (∀ e s, K e s → K' e s) → step s K → step s K') : ∀ n s K K', (∀ e s, K e s → K' e s) → loopN step n s K → loopN step n s K'
  | 0, _, _, _, _, h => h
  | n + 1, s, K, K', hk, h => hs _ _ _ (andThen_mono (fun s => loopN_mono hs n s K K' hk) hk) h
theorem rfEnd_mono {s : St} {K K' : Exit → St → Prop} (hk : ∀ e s, K e s → K' e s) {h2 : Heap} {nx2 : Nat} (h : rfEnd s K h2 nx2) : rfEnd s K' h2 nx2 := by
  unfold rfEnd at h ⊢
  split at h
  · rw [gd_iff] at h ⊢
    refine ⟨h.1, ?_⟩
    have h := h.2
    split at h
    · exact hk _ _ h
    · exact hk _ _ h
    · exact hk _ _ h
    · exact h
  · exact h

theorem EC_mono {cv : CV} (hcv : CVOk P rom cv) {lf : Option Nat} {rd : Option Bid} {nt : Nat} : ∀ (a : ACode) (s : St) (K K' : Exit → St → Prop), (∀ e s, K e s → K' e s) → EC P rom cv lf rd nt a s K → EC P rom cv lf rd nt a s K'
  | .skip, _, _, _, hk, h => hk _ _ h
  | .ops l, _, _, _, hk, h => EOps.mono hcv (hk _) h
  | .dops l, _, _, _, hk, h => EOpsD.mono hcv (hk _) h
  | .seq a b, s, K, K', hk, h => EC_mono hcv a s _ _ (andThen_mono (fun s' => EC_mono hcv b s' K K' hk) hk) h
  | .cond c a b, s, K, K', hk, h => by
    simp only [EC] at h ⊢
    split at h
    · rename_i t _
      cases t with
      | true => exact EC_mono hcv a s K K' hk h
      | false => exact EC_mono hcv b s K K' hk h
    · exact h
  | .block id a, s, K, K', hk, h => EC_mono hcv a s _ _ (inBlk_mono hk) h
  | .loop a, s, K, K', hk, h => by
    simp only [EC] at h ⊢
    split at h
    · exact fun c hc => (h c hc).mono hk
    · exact loopN_mono (fun s K K' => EC_mono hcv a s K K') _ _ _ _ hk h
  | .exit id, _, _, _, hk, h => hk _ _ h
  | .ret, _, _, _, hk, h => hk _ _ h
  | .scope a, s, K, K', hk, h => EC_mono hcv a s _ _ (noGo_mono hk) h
  | .rfunc f ps asg body, s, K, K', hk, h => by
    simp only [EC] at h ⊢
    split at h
    · exact hcv.mono _ _ _ _ _ _ (fun _ _ _ q => rfEnd_mono hk q) h
    · exact h

theorem Leave_mono {cd : FuncId → List AVal → Heap → Nat → (AVal → Heap → Nat → Prop) → Prop} (hcd : ∀ f args h nx Q Q', (∀ v h' nx', Q v h' nx' → Q' v h' nx') → cd f args h nx Q → cd f args h nx Q') {Q Q' : Heap → Nat → Prop} (hq : ∀ h nx, Q h nx → Q' h nx) :
    ∀ (ds : List ADef) (h : Heap) (nx : Nat), Leave cd Q ds h nx → Leave cd Q' ds h nx
  | [], _, _, hh => hq _ _ hh
  | .coll b :: ds, h, nx, hh => by
    cases b with
    | own i => exact gd_iff.2 ⟨(gd_iff.1 hh).1, Leave_mono hcd hq ds _ _ (gd_iff.1 hh).2⟩
    | arg i => exact hh
  | .clo f args :: ds, h, nx, hh => hcd _ _ _ _ _ _ (fun _ h' nx' => Leave_mono hcd hq ds h' nx') hh
theorem outK_mono {cd : FuncId → List AVal → Heap → Nat → (AVal → Heap → Nat → Prop) → Prop} (hcd : ∀ f args h nx Q Q', (∀ v h' nx', Q v h' nx' → Q' v h' nx') → cd f args h nx Q → cd f args h nx Q') {res : List Nat} {Q Q' : AVal → Heap → Nat → Prop} (hq : ∀ v h nx, Q v h nx → Q' v h nx) :
    ∀ e s, outK cd res Q e s → outK cd res Q' e s := by
  intro e s h
  cases e <;> simp only [outK] at h ⊢ <;> first
    | (split at h
       · exact Leave_mono hcd (hq _) _ _ _ h
       · exact h)
    | exact h
theorem outD_mono {res : List Nat} {Q Q' : AVal → Heap → Nat → Prop} (hq : ∀ v h nx, Q v h nx → Q' v h nx) : ∀ e s, outD res Q e s → outD res Q' e s := by
  intro e s h
  cases e <;> simp only [outD] at h ⊢ <;> first
    | (split at h
       · exact hq _ _ _ h
       · exact h)
    | exact h

theorem CallDT.mono {f : FuncId} {args : List AVal} {h : Heap} {nx : Nat} {Q Q' : AVal → Heap → Nat → Prop} (hq : ∀ v h' nx', Q v h' nx' → Q' v h' nx') (hc : CallDT P rom f args h nx Q) : CallDT P rom f args h nx Q' :=
  ⟨hc.1, fun β w rargs u h1 h2 h3 => (hc.2 β w rargs u h1 h2 h3).mono fun _ _ _ ⟨g0, β', v, h', rv, g1, g2, g3⟩ => ⟨g0, β', v, h', rv, g1, hq _ _ _ g2, g3⟩⟩

theorem EC_bad {cv : CV} {lf : Option Nat} {rd : Option Bid} {nt : Nat} {s : St} {K : Exit → St → Prop} (h : EC P rom cv lf rd nt badCode s K) : False := by
  simp [badCode, EC, EOps, EOp, EAct, AI.exec] at h

/-- The evaluator's word on a piece of code is true. -/
theorem EC_sound {cv : CV} (hcv : CVOk P rom cv) (hm : P.follows .mixedOrders = true) {lf : Option Nat} {rd : Option Bid} {nt : Nat} : ∀ (c : Code) (a : ACode) (s : St) (K : Exit → St → Prop), compCode P nt c = some a → EC P rom cv lf rd nt a s K → T P rom rd nt c s K := by
  intro c
  induction c with
  | skip => intro a s K hc h; simp [compCode] at hc; subst hc; exact T_skip h
  | label l => intro a s K hc h; simp [compCode] at hc; subst hc; exact T_label h
  | region id ops draw =>
    intro a s K hc h
    simp only [compCode] at hc
    cases draw with
    | true =>
      simp only [if_true, Option.some.injEq] at hc
      cases hcd : compDrawn P nt ops with
      | none => rw [hcd] at hc; subst hc; exact (EC_bad h).elim
      | some a0 =>
      rw [hcd] at hc
      simp only [Option.getD_some] at hc
      subst hc
      have hc := hcd
      have hd : ∃ ds, a0 = .dops ds := by
        have hc' := hc
        unfold compDrawn at hc'
        split at hc'
        · cases hc'
        · simp only at hc'
          split at hc'
          · split at hc'
            · injection hc' with hc'; exact ⟨_, hc'.symm⟩
            · cases hc'
          · cases hc'
      obtain ⟨ds, rfl⟩ := hd
      exact T_dops hcv hm hc h
    | false =>
      simp only [Bool.false_eq_true, if_false, Option.map_eq_some_iff] at hc
      obtain ⟨xs, h1, rfl⟩ := hc
      exact T_ops hcv h1 h
  | seq x y ihx ihy =>
    intro a s K hc h
    simp only [compCode] at hc
    split at hc
    · rename_i x' y' h1 h2
      injection hc with hc; subst hc
      refine T_seq (ihx _ s _ h1 (EC_mono hcv _ _ _ _ (andThen_mono (fun s' => ihy _ s' K h2) fun _ _ h => h) h))
    · cases hc
  | cond c x y ihx ihy =>
    intro a s K hc h
    simp only [compCode] at hc
    split at hc
    · rename_i c' x' y' h0 h1 h2
      injection hc with hc; subst hc
      simp only [EC] at h
      split at h
      · rename_i t ht
        refine T_cond h0 ht ?_
        cases t with
        | true => exact ihx _ s K h1 h
        | false => exact ihy _ s K h2 h
      · exact h.elim
    · cases hc
  | block id x ih =>
    intro a s K hc h
    simp only [compCode, Option.map_eq_some_iff] at hc
    obtain ⟨x', h1, rfl⟩ := hc
    exact T_block (ih _ s _ h1 h)
  | loop x ih =>
    intro a s K hc h
    have hc0 := hc
    simp only [compCode, Option.map_eq_some_iff] at hc
    obtain ⟨x', h1, rfl⟩ := hc
    simp only [EC] at h
    split at h
    · exact h _ hc0
    · rename_i n
      refine T_loop (fun n s => loopN (fun s K => EC P rom cv (some _) rd nt x' s K) n s K) n h ?_
      intro m s' hj
      cases m with
      | zero => exact hj.elim
      | succ m => exact ih _ s' _ h1 (EC_mono hcv _ _ _ _ (andThen_mono (fun s'' q => ⟨m, Nat.lt_succ_self m, q⟩) fun _ _ h => h) hj)
  | rangeFunc f ps asg body iha ihb =>
    intro a s K hc h
    simp only [compCode] at hc
    split at hc
    · rename_i f' x y h0 h1 h2
      injection hc with hc; subst hc
      simp only [EC] at h
      split at h
      · rename_i g first caps hv
        exact T_rfunc hcv h0 h1 h2 hv h
      · exact h.elim
    · cases hc
  | exit id => intro a s K hc h; simp [compCode] at hc; subst hc; exact T_exit h
  | ret => intro a s K hc h; simp [compCode] at hc; subst hc; exact T_ret h
  | scope b ih =>
    intro a s K hc h
    simp only [compCode, Option.map_eq_some_iff] at hc
    obtain ⟨x', h1, rfl⟩ := hc
    exact T_scope (ih _ s _ h1 h)
  | goto l => intro a s K hc h; simp only [compCode, Option.some.injEq] at hc; subst hc; exact (EC_bad h).elim
  | refuse y => intro a s K hc h; simp only [compCode, Option.some.injEq] at hc; subst hc; exact (EC_bad h).elim

theorem compFun_spec {f : FuncId} {af : AFun} (h : compFun P f = some af) : okFun P f = true ∧ ∃ fn c, P.funcs[f]? = some fn ∧ fn.body = some c ∧ resSlots fn.results.toList = some af.res ∧ compCode P fn.ntmps c = some af.body ∧ af.nt = fn.ntmps := by
  unfold compFun at h
  split at h
  · rename_i hok
    split at h
    · rename_i fn hf
      split at h
      · rename_i c rs hb hr
        simp only [Option.map_eq_some_iff] at h
        obtain ⟨a, h1, rfl⟩ := h
        exact ⟨hok, fn, c, hf, hb, hr, h1, rfl⟩
      · cases h
    · cases h
  · cases h

theorem CDn_ok {pg : AProg} (hpg : AProgOk P pg) (hm : P.follows .mixedOrders = true) {cv : CV} (hcv : CVOk P rom cv) {lf : Option Nat} : ∀ f args h nx Q, CDn P rom pg cv lf f args h nx Q → CallDT P rom f args h nx Q := by
  intro f args h nx Q hc
  unfold CDn at hc
  split at hc
  · rename_i af haf
    obtain ⟨hok, fn, c, hf, hb, hr, hcc, hnt⟩ := compFun_spec (hpg f af haf)
    rw [hnt, gd_iff, decide_eq_true_eq] at hc
    refine callDT_of_T hok hf hb hr hc.1 ((EC_sound hcv hm c _ _ _ hcc hc.2).mono ?_)
    intro e s' k
    cases e <;> simp only [outD] at k <;> first
      | (split at k
         · rename_i h1 h2
           exact ⟨by simp, h1, _, h2, k⟩
         · exact k.elim)
      | exact k.elim
  · exact hc
theorem CDn_mono {pg : AProg} {cv : CV} (hcv : CVOk P rom cv) {lf : Option Nat} : ∀ f args h nx (Q Q' : AVal → Heap → Nat → Prop), (∀ v h' nx', Q v h' nx' → Q' v h' nx') → CDn P rom pg cv lf f args h nx Q → CDn P rom pg cv lf f args h nx Q' := by
  intro f args h nx Q Q' hq hc
  unfold CDn at hc ⊢
  split at hc
  · rw [gd_iff] at hc ⊢
    exact ⟨hc.1, EC_mono hcv _ _ _ _ (outD_mono hq) hc.2⟩
  · exact hc.mono hq

theorem CVn_ok {pg : AProg} (hpg : AProgOk P pg) (hm : P.follows .mixedOrders = true) {lf : Option Nat} : ∀ n, CVOk P rom (CVn P rom pg lf n)
  | 0 => CVOk.sem
  | n + 1 => by
    have ih := CVn_ok hpg hm (lf := lf) n
    refine ⟨?_, ?_⟩
    · intro fv args h nx Q hc
      unfold CVn at hc
      unfold CallV
      split at hc
      · rename_i f first caps
        split at hc
        · rename_i af haf
          obtain ⟨hok, fn, c, hf, hb, hr, hcc, hnt⟩ := compFun_spec (hpg f af haf)
          rw [hnt, gd_iff, decide_eq_true_eq] at hc
          exact callT_of_T (CDn_ok hpg hm ih) hok hf hb hr hc.1 (EC_sound ih hm c _ _ _ hcc hc.2)
        · exact hc
      · rename_i i
        split at hc
        · rename_i st pend env nt ps asg body d hi
          rw [gd_iff, Bool.and_eq_true, beq_iff_eq] at hc
          obtain ⟨⟨h1, h2⟩, h3⟩ := hc
          refine yldT_of_T hi h1 h2 fun ra rb ca cb => ?_
          refine EC_sound ih hm ra _ _ _ ca (EC_mono ih _ _ _ _ ?_ h3)
          intro e s' k
          unfold roundMid at k ⊢
          split at k
          · exact EC_sound ih hm rb _ _ _ cb k
          · exact k
        · exact hc.elim
      · exact hc.elim
    · intro fv args h nx Q Q' hq hc
      unfold CVn at hc ⊢
      split at hc
      · split at hc
        · rw [gd_iff] at hc ⊢
          exact ⟨hc.1, EC_mono ih _ _ _ _ (outK_mono (CDn_mono ih) hq) hc.2⟩
        · exact hc.mono hq
      · rename_i i
        split at hc
        · rw [gd_iff] at hc ⊢
          refine ⟨hc.1, EC_mono ih _ _ _ _ ?_ hc.2⟩
          intro e s' k
          unfold roundMid at k ⊢
          split at k
          · refine EC_mono ih _ _ _ _ ?_ k
            intro e2 s2 k2
            unfold roundEnd at k2 ⊢
            split at k2
            · exact hq _ _ _ k2
            · exact k2
          · exact k
        · exact hc
      · exact hc

/-- A function's contract by evaluation. -/
theorem callT_of_EC {pg : AProg} (hpg : AProgOk P pg) (hm : P.follows .mixedOrders = true) (lf : Option Nat) (n : Nat) {f : FuncId} {af : AFun} (hf : compFun P f = some af) {args : List AVal} {h : Heap} {nx : Nat} {Q : AVal → Heap → Nat → Prop} (hl : args.length ≤ af.nt)
    (hE : EC P rom (CVn P rom pg lf n) lf none af.nt af.body ⟨initEnv args, h, nx, []⟩ (outK (CDn P rom pg (CVn P rom pg lf n) lf) af.res Q)) : CallT P rom f args h nx Q := by
  obtain ⟨hok, fn, c, hf', hb, hr, hcc, hnt⟩ := compFun_spec hf
  rw [hnt] at hE hl
  exact callT_of_T (CDn_ok hpg hm (CVn_ok hpg hm n)) hok hf' hb hr hl (EC_sound (CVn_ok hpg hm n) hm c _ _ _ hcc hE)

end Go.AL

/- Helper text: from a contract to the row of a law that returns true whatever it is given. -/
namespace Go.AL
open Go.ChangeShapes Go.WideShapes Go.ChangeAt Go.RowKit

/-- Names at a call's beginning: what came in, nothing else. -/
def beta0 (blk off : Nat → Nat) : Beta := ⟨0, fun b => match b with | .own _ => 0 | .arg i => blk i, off, fun _ => 0, fun _ _ => False⟩

def OldSame (W W' : World) : Prop := (∀ b, b < W.heap.size → W'.heap[b]? = W.heap[b]?) ∧ W'.os = W.os ∧ W'.output = W.output

theorem calls_of_callT {P : Program} {rom : Rom} {f : FuncId} {args : List AVal} {b : Bool} (hc : CallT P rom f args (fun _ => none) 0 (fun v _ _ => v = .bool b))
    (blk off : Nat → Nat) {W : World} {rargs : Array Value} (hr : ∀ i cs e, rom i = some (cs, e) → ARel (beta0 blk off) i W cs e) (ha : VRels (beta0 blk off) args rargs.toList) :
    Calls P f rargs W fun e W' => e = .returned (.bool b) ∧ OldSame W W' := by
  rw [← callsIn_wide (n := 0)]
  refine (hc.2 (beta0 blk off) W rargs rfl ⟨fun i o h => (by cases h), fun i j b h => absurd rfl h, fun i b h => absurd rfl h, hr, fun i j _ h => absurd rfl h⟩ ha).mono ?_
  rintro e W' ⟨β', v, h', rv, rfl, rfl, h3, _, m⟩
  simp only [VRel] at h3
  subst h3
  exact ⟨rfl, fun b hb => m.same b hb fun i h => absurd rfl h, m.os, m.out⟩

theorem OldSame.kept {W W' : World} (h : OldSame W W') (may : MemPlace → Prop) : W.keptBut W' may := by
  refine ⟨h.2.1, h.2.2, fun i hi => ?_⟩
  rw [h.1 i hi]
  split <;> simp_all
theorem OldSame.same {W W' : World} (h : OldSame W W') {p : MemPlace} (hp : p.block < W.heap.size) : W.sameAt W' p := by
  cases p with
  | cell b o => exact World.cell?_of_block (w := W) (h.1 b hp)
  | map b => exact h.1 b hp

section
variable {H : Type} {enc : TypeId × Value → H} {P : Program}

theorem trodAll_old (hl : laidOutB P = true) {W W' : World} (hb : OldSame W W') : ∀ {ts : List TypeId} {vs : List Value} {ds : List (DataW H)} {ps : List MemPlace},
    (ts.all fun t => P.readableRec t && decide (t < P.types.size)) = true → DataW.TrodAll enc P W 0 (fun _ => true) true ts vs ds ps → DataW.TrodAll enc P W' 0 (fun b => decide (b < W.heap.size)) true ts vs ds ps
  | [], [], [], _, _, h => h
  | t :: ts, v :: vs, d :: ds, _, ht, ⟨p, q, h1, h2, e⟩ => by
    simp only [List.all_cons, Bool.and_eq_true, decide_eq_true_eq] at ht
    have hlt : ∀ x ∈ p, x.block < W.heap.size := fun x hx => by
      obtain ⟨n, hn⟩ := h1
      exact DataW.trod_lt n _ _ _ hn x hx
    exact ⟨p, q, WideElems.Trod_stays hl ht.1.1 ht.1.2 h1 (fun x hx => hb.same (hlt x hx)) (fun x hx => by simpa using hlt x hx), trodAll_old hl hb ht.2 h2, e⟩

theorem post_of_old {f : Func} {s : ChangeSpec} {W W' : World} {args : Array Value} {ds gs : List (DataW H)} {before : List MemPlace} {tb : TypeId}
    (hl : laidOutB P = true) (hts : (f.params.toList.all fun t => P.readableRec t && decide (t < P.types.size)) = true) (hv : s.vars = [])
    (hfn : s.fn H (ds ++ gs) = { results := [.lit (.bool true)], args := ds }) (hr : f.resultTypes = #[tb]) (htb : P.underlying tb = some .bool)
    (hW : DataW.Whole enc P f.params.toList s.vars false W args.toList ds gs before) (hb : OldSame W W') :
    s.post enc P f false true false false W args (.bool true) W' := by
  obtain ⟨p, q, hA, hV, rfl, h4⟩ := id hW
  rw [hv] at hV
  obtain ⟨rfl, rfl⟩ := trodVars_none hV
  refine ⟨ds, [], _, [], p, [], hW, ?_, ?_, ?_, hb.kept _ |> World.keptBut_mono (fun p (h : p ∈ _) => ⟨h, ?_⟩), fun h => by cases h⟩
  · rw [hfn, hr]
    exact trodAll_cons_mk (shut_bool htb _) trodAll_mk0
  · rw [hfn]
    exact trodAll_old hl hb hts hA
  · rw [hfn, hv]
    rfl
  · right; left; simpa using h
end
end Go.AL

/- Helper text: a state under other names, with less told of it. -/
namespace Go.AL

structure Rho where
  own : Nat → Option Nat
  arg : Nat → Bid
/-- No names of one's own. -/
def Rho.free : Rho := ⟨fun _ => none, .arg⟩

/-- What the first tells is told by the second one too, under other names. -/
def BE (n : Nat) (ρ : Rho) : Bid → Bid → Prop
  | .own i, b => i < n ∧ ∃ j, ρ.own i = some j ∧ b = .own j
  | .arg i, b => b = ρ.arg i
mutual
def VE (n : Nat) (ρ : Rho) : AVal → AVal → Prop
  | .any, _ => True
  | .bool b, v => v = .bool b
  | .int k m, v => v = .int k m
  | .str s, v => v = .str s
  | .nilp, v => v = .nilp
  | .ptr b off, v => ∃ b', v = .ptr b' off ∧ BE n ρ b b'
  | .nils, v => v = .nils
  | .slice b off esz len cap, v => ((∀ i, b = .own i → i < n) ∧ len = 0 ∧ cap = 0 ∧ v = .nils) ∨ ∃ b' c, v = .slice b' off esz len c ∧ cap ≤ c ∧ BE n ρ b b'
  | .nilm, v => v = .nilm
  | .map b, v => ∃ b', v = .map b' ∧ BE n ρ b b'
  | .nilf, v => v = .nilf
  | .func f fs cs, v => ∃ fs' cs', v = .func f fs' cs' ∧ VEs n ρ fs fs' ∧ VEs n ρ cs cs'
  | .yld b, v => ∃ b', v = .yld b' ∧ BE n ρ b b'
  | .nili, v => v = .nili
  | .iface t x, v => ∃ x', v = .iface t x' ∧ VE n ρ x x'
  | .agg cs, v => ∃ cs', v = .agg cs' ∧ VEs n ρ cs cs'
  | .tup cs, v => ∃ cs', v = .tup cs' ∧ VEs n ρ cs cs'
def VEs (n : Nat) (ρ : Rho) : List AVal → List AVal → Prop
  | [], l => l = []
  | c :: cs, l => ∃ d ds, l = d :: ds ∧ VE n ρ c d ∧ VEs n ρ cs ds
end

/-- Names as they were, called otherwise. -/
def Beta.ren (β : Beta) (n : Nat) (ρ : Rho) : Beta where
  nx := n
  blk := fun b => match b with
    | .own i => match ρ.own i with
      | some j => β.blk (.own j)
      | none => 0
    | .arg i => β.blk (ρ.arg i)
  off := fun i => β.offOf (ρ.arg i)
  tot := fun i => match ρ.own i with
    | some j => β.tot j
    | none => 0
  fp := fun i b => match ρ.own i with
    | some j => β.fp j b
    | none => False

theorem BE.ok {β : Beta} {n : Nat} {ρ : Rho} {b b' : Bid} (h : BE n ρ b b') : (β.ren n ρ).ok b ∧ (β.ren n ρ).blk b = β.blk b' ∧ (β.ren n ρ).offOf b = β.offOf b' ∧ ∀ o c, β.fits b' o c → (β.ren n ρ).fits b o c := by
  cases b with
  | own i =>
    obtain ⟨h1, j, h2, rfl⟩ := h
    refine ⟨h1, by simp [Beta.ren, h2], rfl, fun o c hf => ?_⟩
    simp only [Beta.fits, Beta.ren, h2] at hf ⊢
    exact hf
  | arg i => obtain rfl := h; exact ⟨trivial, rfl, rfl, fun _ _ _ => trivial⟩

mutual
theorem VE.rel {β : Beta} {n : Nat} {ρ : Rho} : ∀ (x y : AVal) (v : Value), VE n ρ x y → VRel β y v → VRel (β.ren n ρ) x v
  | .any, _, _, _, _ => by simp [VRel]
  | .bool _, _, _, h, k => by simp only [VE] at h; subst h; simpa [VRel] using k
  | .int _ _, _, _, h, k => by simp only [VE] at h; subst h; simpa [VRel] using k
  | .str _, _, _, h, k => by simp only [VE] at h; subst h; simpa [VRel] using k
  | .nilp, _, _, h, k => by simp only [VE] at h; subst h; simpa [VRel] using k
  | .ptr b off, _, _, h, k => by
    simp only [VE] at h
    obtain ⟨b', rfl, hb⟩ := h
    simp only [VRel] at k ⊢
    obtain ⟨q1, q2, q3, _⟩ := hb.ok (β := β)
    exact ⟨q1, by rw [q2, q3]; exact k.2⟩
  | .nils, _, _, h, k => by simp only [VE] at h; subst h; simpa [VRel] using k
  | .slice b off esz len cap, _, _, h, k => by
    simp only [VE] at h
    obtain ⟨h1, rfl, rfl, rfl⟩ | ⟨b', c, rfl, hc, hb⟩ := h
    · simp only [VRel] at k ⊢
      refine ⟨?_, .inl ⟨k, trivial, trivial⟩⟩
      cases b with
      | own i => exact h1 i rfl
      | arg i => trivial
    · simp only [VRel] at k ⊢
      obtain ⟨q1, q2, q3, q4⟩ := hb.ok (β := β)
      obtain ⟨_, ⟨r1, r2, r3⟩ | ⟨ro, rc, r1, r2, r3, r4⟩⟩ := k
      · exact ⟨q1, .inl ⟨r1, r2, by omega⟩⟩
      · refine ⟨q1, .inr ⟨ro, rc, by rw [q2]; exact r1, r2, by omega, fun hp => ?_⟩⟩
        rw [q3]; exact ⟨(r4 hp).1, q4 _ _ (r4 hp).2⟩
  | .nilm, _, _, h, k => by simp only [VE] at h; subst h; simpa [VRel] using k
  | .map b, _, _, h, k => by
    simp only [VE] at h
    obtain ⟨b', rfl, hb⟩ := h
    simp only [VRel] at k ⊢
    obtain ⟨q1, q2, q3, _⟩ := hb.ok (β := β)
    exact ⟨q1, by rw [q2]; exact k.2⟩
  | .nilf, _, _, h, k => by simp only [VE] at h; subst h; simpa [VRel] using k
  | .func f fs cs, _, _, h, k => by
    simp only [VE] at h
    obtain ⟨fs', cs', rfl, h1, h2⟩ := h
    simp only [VRel] at k ⊢
    obtain ⟨rf, rc, k1, k2, k3⟩ := k
    exact ⟨rf, rc, k1, VEs.rel _ _ _ h1 k2, VEs.rel _ _ _ h2 k3⟩
  | .yld b, _, _, h, k => by
    simp only [VE] at h
    obtain ⟨b', rfl, hb⟩ := h
    simp only [VRel] at k ⊢
    obtain ⟨q1, q2, q3, _⟩ := hb.ok (β := β)
    exact ⟨q1, by rw [q2]; exact k.2⟩
  | .nili, _, _, h, k => by simp only [VE] at h; subst h; simpa [VRel] using k
  | .iface t x, _, _, h, k => by
    simp only [VE] at h
    obtain ⟨x', rfl, h1⟩ := h
    simp only [VRel] at k ⊢
    obtain ⟨r, k1, k2⟩ := k
    exact ⟨r, k1, VE.rel _ _ _ h1 k2⟩
  | .agg cs, _, _, h, k => by
    simp only [VE] at h
    obtain ⟨cs', rfl, h1⟩ := h
    simp only [VRel] at k ⊢
    obtain ⟨r, k1, k2⟩ := k
    exact ⟨r, k1, VEs.rel _ _ _ h1 k2⟩
  | .tup cs, _, _, h, k => by
    simp only [VE] at h
    obtain ⟨cs', rfl, h1⟩ := h
    simp only [VRel] at k ⊢
    obtain ⟨r, k1, k2⟩ := k
    exact ⟨r, k1, VEs.rel _ _ _ h1 k2⟩
theorem VEs.rel {β : Beta} {n : Nat} {ρ : Rho} : ∀ (xs ys : List AVal) (vs : List Value), VEs n ρ xs ys → VRels β ys vs → VRels (β.ren n ρ) xs vs
  | [], _, _, h, k => by simp only [VEs] at h; subst h; simpa [VRels] using k
  | c :: cs, _, _, h, k => by
    simp only [VEs] at h
    obtain ⟨d, ds, rfl, h1, h2⟩ := h
    simp only [VRels] at k ⊢
    obtain ⟨r, rs, k1, k2, k3⟩ := k
    exact ⟨r, rs, k1, VE.rel _ _ _ h1 k2, VEs.rel _ _ _ h2 k3⟩
end
theorem VEs.length {n : Nat} {ρ : Rho} : ∀ {xs ys : List AVal}, VEs n ρ xs ys → xs.length = ys.length
  | [], _, h => by simp only [VEs] at h; simp [h]
  | c :: cs, _, h => by
    simp only [VEs] at h
    obtain ⟨d, ds, rfl, _, h2⟩ := h
    simp [h2.length]

/-- Values without names of one's own. -/
theorem BE.free {n : Nat} {ρ : Rho} (hρ : ρ.arg = .arg) {b b' : Bid} (h : BE 0 .free b b') : BE n ρ b b' := by
  cases b with
  | own i => exact absurd h.1 (Nat.not_lt_zero _)
  | arg i => show b' = ρ.arg i; rw [hρ]; exact h
mutual
theorem VE.free {n : Nat} {ρ : Rho} (hρ : ρ.arg = .arg) : ∀ (x y : AVal), VE 0 .free x y → VE n ρ x y
  | .any, _, _ => by simp [VE]
  | .bool _, _, h => by simpa [VE] using h
  | .int _ _, _, h => by simpa [VE] using h
  | .str _, _, h => by simpa [VE] using h
  | .nilp, _, h => by simpa [VE] using h
  | .ptr b off, _, h => by simp only [VE] at h ⊢; obtain ⟨b', h1, h2⟩ := h; exact ⟨b', h1, h2.free hρ⟩
  | .nils, _, h => by simpa [VE] using h
  | .slice b off esz len cap, _, h => by
    simp only [VE] at h ⊢
    obtain ⟨h1, h2⟩ | ⟨b', c, h1, h2, h3⟩ := h
    · exact .inl ⟨fun i hi => absurd (h1 i hi) (Nat.not_lt_zero _), h2⟩
    · exact .inr ⟨b', c, h1, h2, h3.free hρ⟩
  | .nilm, _, h => by simpa [VE] using h
  | .map b, _, h => by simp only [VE] at h ⊢; obtain ⟨b', h1, h2⟩ := h; exact ⟨b', h1, h2.free hρ⟩
  | .nilf, _, h => by simpa [VE] using h
  | .func f fs cs, _, h => by
    simp only [VE] at h ⊢
    obtain ⟨a, b, h1, h2, h3⟩ := h
    exact ⟨a, b, h1, VEs.free hρ _ _ h2, VEs.free hρ _ _ h3⟩
  | .yld b, _, h => by simp only [VE] at h ⊢; obtain ⟨b', h1, h2⟩ := h; exact ⟨b', h1, h2.free hρ⟩
  | .nili, _, h => by simpa [VE] using h
  | .iface t x, _, h => by simp only [VE] at h ⊢; obtain ⟨a, h1, h2⟩ := h; exact ⟨a, h1, VE.free hρ _ _ h2⟩
  | .agg cs, _, h => by simp only [VE] at h ⊢; obtain ⟨a, h1, h2⟩ := h; exact ⟨a, h1, VEs.free hρ _ _ h2⟩
  | .tup cs, _, h => by simp only [VE] at h ⊢; obtain ⟨a, h1, h2⟩ := h; exact ⟨a, h1, VEs.free hρ _ _ h2⟩
theorem VEs.free {n : Nat} {ρ : Rho} (hρ : ρ.arg = .arg) : ∀ (xs ys : List AVal), VEs 0 .free xs ys → VEs n ρ xs ys
  | [], _, h => by simpa [VEs] using h
  | c :: cs, _, h => by
    simp only [VEs] at h ⊢
    obtain ⟨d, ds, h1, h2, h3⟩ := h
    exact ⟨d, ds, h1, VE.free hρ _ _ h2, VEs.free hρ _ _ h3⟩
end
/-- What came in tells no names of one's own. -/
def RomFree (rom : Rom) : Prop := ∀ i cs e, rom i = some (cs, e) → VEs 0 .free cs cs

def EnvE (n : Nat) (ρ : Rho) (e e' : Env) : Prop := ∀ t v, e t = some v → ∃ v', e' t = some v' ∧ VE n ρ v v'
def EntsE (n : Nat) (ρ : Rho) : List (AVal × AVal × Nat) → List (AVal × AVal × Nat) → Prop
  | [], l => l = []
  | a :: as, l => ∃ b bs, l = b :: bs ∧ VE n ρ a.1 b.1 ∧ VE n ρ a.2.1 b.2.1 ∧ a.2.2 = b.2.2 ∧ EntsE n ρ as bs
theorem EntsE.rel {β : Beta} {n : Nat} {ρ : Rho} : ∀ {as bs : List (AVal × AVal × Nat)} {l : List MapEntry}, EntsE n ρ as bs → EntriesRel β bs l → EntriesRel (β.ren n ρ) as l
  | [], _, _, h, k => by simp only [EntsE] at h; subst h; exact k
  | a :: as, _, _, ⟨b, bs, rfl, h1, h2, h3, h4⟩, ⟨e, es, k1, ⟨k2, k3, k4⟩, k5⟩ =>
    ⟨e, es, k1, ⟨h1.rel _ _ _ k2, h2.rel _ _ _ k3, by rw [k4, h3]⟩, h4.rel k5⟩

/-- The same of objects. -/
def OE (n : Nat) (ρ : Rho) : AObj → AObj → Prop
  | .cells cs t, o => ∃ cs', o = .cells cs' t ∧ VEs n ρ cs cs'
  | .map es clock, o => ∃ es', o = .map es' clock ∧ EntsE n ρ es es'
  | .loop st pend env nt ps asg body d, o => ∃ env' d', o = .loop st pend env' nt ps asg body d' ∧ EnvE n ρ env env' ∧ BE n ρ d d'
  | .defs, o => o = .defs
  | .strIter s p, o => o = .strIter s p
  | .mapIter m since seen stepped, o => ∃ m', o = .mapIter m' since seen stepped ∧ (match m, m' with | none, none => True | some b, some b' => BE n ρ b b' | _, _ => False)
  | .opq _, _ => False

theorem EnvE.rel {β : Beta} {n nt : Nat} {ρ : Rho} {e e' : Env} {tmps : Array Value} (h : EnvE n ρ e e') (k : ERel β nt e' tmps) : ERel (β.ren n ρ) nt e tmps :=
  ⟨k.size, fun t v hv => let ⟨v', h1, h2⟩ := h t v hv; h2.rel _ _ _ (k.get t v' h1)⟩

theorem OE.rel {P : Program} {β : Beta} {n : Nat} {ρ : Rho} {i j : Nat} {w : World} {o o' : AObj} (hi : ρ.own i = some j) (h : OE n ρ o o') (k : ORel P β j w o') : ORel P (β.ren n ρ) i w o := by
  have hf : ∀ b, (β.ren n ρ).fp i b ↔ β.fp j b := fun b => by simp [Beta.ren, hi]
  have hb : (β.ren n ρ).blk (.own i) = β.blk (.own j) := by simp [Beta.ren, hi]
  have ht : (β.ren n ρ).tot i = β.tot j := by simp [Beta.ren, hi]
  cases o with
  | cells cs t =>
    obtain ⟨cs', rfl, h1⟩ := h
    obtain ⟨k1, k2, k3⟩ | ⟨k1, pre, spare, fz, k2, k3, k4, k5⟩ := k
    · refine .inl ⟨List.eq_nil_of_length_eq_zero (by rw [h1.length, k1]; rfl), by rw [ht]; exact k2, fun b hb => k3 b ((hf b).1 hb)⟩
    · exact .inr ⟨fun b => by rw [hf, k1, hb], pre, spare, fz, by rw [hb]; exact k2, VEs.rel _ _ _ h1 k3, by rw [ht]; exact k4, by rw [ht]; exact k5⟩
  | map es clock =>
    obtain ⟨es', rfl, h1⟩ := h
    obtain ⟨k1, res, k2, k3⟩ := k
    exact ⟨fun b => by rw [hf, k1, hb], res, by rw [hb]; exact k2, h1.rel k3⟩
  | loop st pend env nt ps asg body d =>
    obtain ⟨env', d', rfl, h1, h2⟩ := h
    obtain ⟨k1, fn, tmps, ra, rb, k2, k3, c1, c2, k4⟩ := k
    obtain ⟨q1, q2, _, _⟩ := h2.ok (β := β)
    exact ⟨fun b => by rw [hf, k1, hb], fn, tmps, ra, rb, h1.rel k2, q1, c1, c2, by rw [hb, q2]; exact k4⟩
  | defs =>
    obtain rfl := h
    obtain ⟨k1, k2⟩ := k
    exact ⟨fun b => by rw [hf, k1, hb], by rw [hb]; exact k2⟩
  | strIter s p =>
    obtain rfl := h
    obtain ⟨k1, k2⟩ := k
    exact ⟨fun b => by rw [hf, k1, hb], by rw [hb]; exact k2⟩
  | mapIter m since seen stepped =>
    obtain ⟨m', rfl, h1⟩ := h
    obtain ⟨k1, k2, k3⟩ := k
    cases m with
    | none =>
      cases m' with
      | none => exact ⟨fun b => by rw [hf, k1, hb], (fun b hx => nomatch hx), by rw [hb]; exact k3⟩
      | some b' => exact h1.elim
    | some b =>
      cases m' with
      | none => exact h1.elim
      | some b' =>
        obtain ⟨q1, q2, _, _⟩ := (show BE n ρ b b' from h1).ok (β := β)
        exact ⟨fun b => by rw [hf, k1, hb], fun x hx => by injection hx with hx; exact hx ▸ q1, by rw [hb]; simp only [Option.map_some, q2]; exact k3⟩
  | opq R => exact h.elim

def DfE (n : Nat) (ρ : Rho) : ADef → ADef → Prop
  | .coll b, d => ∃ b', d = .coll b' ∧ BE n ρ b b'
  | .clo f args, d => ∃ args', d = .clo f args' ∧ VEs n ρ args args'
def DfsE (n : Nat) (ρ : Rho) : List ADef → List ADef → Prop
  | [], l => l = []
  | a :: as, l => ∃ b bs, l = b :: bs ∧ DfE n ρ a b ∧ DfsE n ρ as bs
theorem DfsE.rel {β : Beta} {n : Nat} {ρ : Rho} : ∀ {as bs : List ADef} {l : List Deferred}, DfsE n ρ as bs → DRel β bs l → DRel (β.ren n ρ) as l
  | [], _, _, h, k => by simp only [DfsE] at h; subst h; exact k
  | a :: as, _, _, ⟨b, bs, rfl, h1, h2⟩, ⟨d, ds, rfl, k1, k2⟩ => by
    refine ⟨d, ds, rfl, ?_, h2.rel k2⟩
    cases a with
    | coll x =>
      obtain ⟨b', rfl, h3⟩ := h1
      obtain ⟨q1, q2, _, _⟩ := h3.ok (β := β)
      exact ⟨q1, by rw [q2]; exact k1.2⟩
    | clo f args =>
      obtain ⟨args', rfl, h3⟩ := h1
      obtain ⟨g, c, k3, k4⟩ := k1
      exact ⟨g, c, k3, VEs.rel _ _ _ h3 k4⟩

/-- A state under other names. Names below n0 are kept. -/
structure HEmb (n0 : Nat) (ρ : Rho) (h0 : Heap) (nx0 : Nat) (h : Heap) (nx : Nat) : Prop where
  le0 : n0 ≤ nx0
  le : n0 ≤ nx
  arg : ρ.arg = .arg
  id : ∀ i, i < n0 → ρ.own i = some i
  obj : ∀ i o, h0 i = some o → i < nx0 ∧ ((∃ t, o = .cells [] t ∧ ρ.own i = none) ∨ ∃ j o', ρ.own i = some j ∧ h j = some o' ∧ OE nx0 ρ o o')
  inj : ∀ i i' j, h0 i ≠ none → h0 i' ≠ none → ρ.own i = some j → ρ.own i' = some j → i = i'

structure Emb (n0 : Nat) (ρ : Rho) (s0 s : St) : Prop where
  heap : HEmb n0 ρ s0.h s0.nx s.h s.nx
  env : EnvE s0.nx ρ s0.env s.env
  dfs : DfsE s0.nx ρ s0.dfs s.dfs

variable {P : Program}
theorem HEmb.rel {n0 : Nat} {ρ : Rho} {h0 h : Heap} {nx0 nx : Nat} (E : HEmb n0 ρ h0 nx0 h nx) {rom : Rom} (hrom : RomFree rom) {β : Beta} {w : World} (H : HRel P β rom h w) : HRel P (β.ren nx0 ρ) rom h0 w := by
  have key : ∀ i b, h0 i ≠ none → (β.ren nx0 ρ).fp i b → ∃ j, ρ.own i = some j ∧ h j ≠ none ∧ β.fp j b := by
    intro i b hi hf
    cases ho : h0 i with
    | none => exact absurd ho hi
    | some o =>
      obtain ⟨_, ⟨t, _, hr⟩ | ⟨j, o', hr, hj, _⟩⟩ := E.obj i o ho
      · simp [Beta.ren, hr] at hf
      · exact ⟨j, hr, by rw [hj]; simp, by simpa [Beta.ren, hr] using hf⟩
  refine ⟨?_, ?_, ?_, ?_, ?_⟩
  · intro i o ho
    obtain ⟨hlt, ⟨t, rfl, hr⟩ | ⟨j, o', hr, hj, hoe⟩⟩ := E.obj i o ho
    · exact ⟨hlt, .inl ⟨rfl, by simp [Beta.ren, hr], fun b hb => by simp [Beta.ren, hr] at hb⟩⟩
    · exact ⟨hlt, hoe.rel hr (H.obj j o' hj).2⟩
  · intro i i' b hi hi' hf hf'
    obtain ⟨j, r1, r2, r3⟩ := key i b hi hf
    obtain ⟨j', r1', r2', r3'⟩ := key i' b hi' hf'
    have := H.disj j j' b r2 r2' r3 r3'
    subst this
    exact E.inj i i' j hi hi' r1 r1'
  · intro i b hi hf
    obtain ⟨j, r1, r2, r3⟩ := key i b hi hf
    exact H.bnd j b r2 r3
  · intro i cs e hr
    obtain h0 | ⟨rcs, e', fz, h1, h2, h3⟩ := H.args i cs e hr
    · exact .inl h0
    have hb : (β.ren nx0 ρ).blk (.arg i) = β.blk (.arg i) := by simp [Beta.ren, E.arg]
    have ho : (β.ren nx0 ρ).off i = β.off i := by simp [Beta.ren, E.arg, Beta.offOf]
    exact .inr ⟨rcs, e', fz, by rw [hb]; exact h1, by rw [ho]; exact h2, by rw [ho]; exact VEs.rel _ _ _ (VEs.free E.arg _ _ (hrom i cs e hr)) h3⟩
  · intro i j hr hj hf
    obtain ⟨j', r1, r2, r3⟩ := key j _ hj hf
    have hb : (β.ren nx0 ρ).blk (.arg i) = β.blk (.arg i) := by simp [Beta.ren, E.arg]
    rw [hb] at r3
    exact H.argd i j' hr r2 r3
theorem HEmb.mv {n0 : Nat} {ρ : Rho} {h0 h : Heap} {nx0 nx : Nat} (E : HEmb n0 ρ h0 nx0 h nx) {β₀ β : Beta} {h₁ : Heap} {w₀ w : World} (hn : β₀.nx ≤ n0) (M : Mv β₀ h₁ w₀ β h w) : Mv β₀ h₁ w₀ (β.ren nx0 ρ) h0 w := by
  refine ⟨⟨Nat.le_trans hn E.le0, fun i hi => ?_, fun i => by simp only [Beta.ren, E.arg]; exact M.ext.arg i⟩, M.size, M.same, fun i b hi hf hb => ?_, M.os, M.out⟩
  · have := E.id i (Nat.lt_of_lt_of_le hi hn)
    simp only [Beta.ren, this]
    exact M.ext.own i hi
  · cases ho : h0 i with
    | none => exact absurd ho hi
    | some o =>
      obtain ⟨_, ⟨t, _, hr⟩ | ⟨j, o', hr, hj, _⟩⟩ := E.obj i o ho
      · simp [Beta.ren, hr] at hf
      · exact M.stay j b (by rw [hj]; simp) (by simpa [Beta.ren, hr] using hf) hb

theorem Emb.rel {n0 : Nat} {ρ : Rho} {s0 s : St} (E : Emb n0 ρ s0 s) {rom : Rom} (hrom : RomFree rom) {nt : Nat} {β : Beta} {a : Act} {w : World} (R : SRel P β rom nt s a w) : SRel P (β.ren s0.nx ρ) rom nt s0 a w :=
  ⟨rfl, E.env.rel R.env, E.heap.rel hrom R.heap, E.dfs.rel R.dfs⟩

variable {rom : Rom} {rd : Option Bid} {nt : Nat} {s : St} {K : Exit → St → Prop}
open Classical in
/-- A loop, where the state at its head may be told under other names. -/
theorem T_loopE (hrom : RomFree rom) {c : Code} (J : Nat → St → Prop) (h0 : ∃ n s0 ρ, J n s0 ∧ Emb s.nx ρ s0 s)
    (hr : ∀ n s0, J n s0 → T P rom rd nt c s0 (andThen (fun s' => ∃ m s1 ρ, m < n ∧ J m s1 ∧ Emb s.nx ρ s1 s') K)) : T P rom rd nt (.loop c) s K := by
  intro β a w R hb
  have hnx : β.nx ≤ s.nx := Nat.le_of_eq R.nx
  let J' (n : Nat) (a' : Act) (w' : World) : Prop := ∃ β' s', J n s' ∧ SRel P β' rom nt s' a' w' ∧ Mv β s.h w β' s'.h w'
  let μ (a' : Act) (w' : World) : Nat := if h : ∃ n, J' n a' w' then Classical.choose (least h) else 0
  obtain ⟨n, s0, ρ, j0, e0⟩ := h0
  refine wpIn_loop (fun a' w' => ∃ n, J' n a' w') μ ⟨n, β.ren s0.nx ρ, s0, j0, e0.rel hrom R, e0.heap.mv hnx (Mv.refl _ _ _)⟩ ?_
  intro a₁ w₁ hI
  have hμ : μ a₁ w₁ = Classical.choose (least hI) := by simp only [μ]; rw [dif_pos hI]
  obtain ⟨g1, g2⟩ := Classical.choose_spec (least hI)
  rw [← hμ] at g1
  obtain ⟨β₁, s₁, j, r, m⟩ := g1
  have h2 := hr _ _ j β₁ a₁ w₁ r (ok_ext m.ext hb)
  rw [FF_ext m.ext hb] at h2
  refine wpIn_mono h2 ?_
  rintro e a₂ w₂ ⟨β₂, s₂, k, r₂, m₂⟩
  cases e with
  | normal =>
    obtain ⟨n₂, s3, ρ₂, hlt, j₂, e₂⟩ := k
    have hM := e₂.heap.mv hnx (m.trans m₂)
    have hI2 : ∃ n, J' n a₂ w₂ := ⟨n₂, _, s3, j₂, e₂.rel hrom r₂, hM⟩
    refine ⟨hI2, ?_⟩
    have hμ2 : μ a₂ w₂ = Classical.choose (least hI2) := by simp only [μ]; rw [dif_pos hI2]
    rw [hμ2]
    exact Nat.lt_of_le_of_lt ((Classical.choose_spec (least hI2)).2 n₂ ⟨_, s3, j₂, e₂.rel hrom r₂, hM⟩) hlt
  | _ => exact ⟨β₂, s₂, k, r₂, m.trans m₂⟩

/-- What a call comes to may be told under other names. -/
theorem CallT.emb (hrom : RomFree rom) {f : FuncId} {args : List AVal} {h : Heap} {nx : Nat} {Q : AVal → Heap → Nat → Prop}
    (hc : CallT P rom f args h nx fun v h' nx' => ∃ ρ v0 h0 nx0, HEmb nx ρ h0 nx0 h' nx' ∧ VE nx0 ρ v0 v ∧ Q v0 h0 nx0) : CallT P rom f args h nx Q := by
  refine ⟨hc.1, fun β w rargs h1 h2 h3 => (hc.2 β w rargs h1 h2 h3).mono ?_⟩
  rintro e w' ⟨β', v, h', rv, rfl, ⟨ρ, v0, h0, nx0, E, V, q⟩, g2, g3, g4⟩
  exact ⟨β'.ren nx0 ρ, v0, h0, rv, rfl, q, V.rel _ _ _ g2, E.rel hrom g3, E.mv (Nat.le_of_eq h1) g4⟩

end Go.AL

/- Helper text: a contract told under its own names is used under others. -/
namespace Go.AL

def WB (σ : Nat → Nat) (τ : Nat → Bid) : Bid → Bid → Prop
  | .own i, b => b = .own (σ i)
  | .arg i, b => b = τ i
mutual
/-- The second is the first one, called otherwise. -/
def WE (σ : Nat → Nat) (τ : Nat → Bid) : AVal → AVal → Prop
  | .any, v => v = .any
  | .bool b, v => v = .bool b
  | .int k m, v => v = .int k m
  | .str s, v => v = .str s
  | .nilp, v => v = .nilp
  | .ptr b off, v => ∃ b', v = .ptr b' off ∧ WB σ τ b b'
  | .nils, v => v = .nils
  | .slice b off esz len cap, v => ∃ b', v = .slice b' off esz len cap ∧ WB σ τ b b' ∧ (∀ i, b = .arg i → ∃ j, b' = .arg j)
  | .nilm, v => v = .nilm
  | .map b, v => ∃ b', v = .map b' ∧ WB σ τ b b'
  | .nilf, v => v = .nilf
  | .func f fs cs, v => ∃ fs' cs', v = .func f fs' cs' ∧ WEs σ τ fs fs' ∧ WEs σ τ cs cs'
  | .yld b, v => ∃ b', v = .yld b' ∧ WB σ τ b b'
  | .nili, v => v = .nili
  | .iface t x, v => ∃ x', v = .iface t x' ∧ WE σ τ x x'
  | .agg cs, v => ∃ cs', v = .agg cs' ∧ WEs σ τ cs cs'
  | .tup cs, v => ∃ cs', v = .tup cs' ∧ WEs σ τ cs cs'
def WEs (σ : Nat → Nat) (τ : Nat → Bid) : List AVal → List AVal → Prop
  | [], l => l = []
  | c :: cs, l => ∃ d ds, l = d :: ds ∧ WE σ τ c d ∧ WEs σ τ cs ds
end

structure BMap (σ : Nat → Nat) (τ : Nat → Bid) (β0 β1 : Beta) : Prop where
  own : ∀ i, i < β0.nx → σ i < β1.nx ∧ β1.blk (.own (σ i)) = β0.blk (.own i) ∧ β1.tot (σ i) = β0.tot i
  arg : ∀ i, β1.ok (τ i) ∧ β1.blk (τ i) = β0.blk (.arg i) ∧ β1.offOf (τ i) = β0.off i

theorem WB.ok {σ : Nat → Nat} {τ : Nat → Bid} {β0 β1 : Beta} (m : BMap σ τ β0 β1) {b b' : Bid} (h : WB σ τ b b') (hk : β0.ok b) : β1.ok b' ∧ β1.blk b' = β0.blk b ∧ β1.offOf b' = β0.offOf b := by
  cases b with
  | own i => obtain rfl := h; obtain ⟨h1, h2, _⟩ := m.own i hk; exact ⟨h1, h2, rfl⟩
  | arg i => obtain rfl := h; exact m.arg i
mutual
theorem WE.rel {σ : Nat → Nat} {τ : Nat → Bid} {β0 β1 : Beta} (m : BMap σ τ β0 β1) : ∀ (x y : AVal) (v : Value), WE σ τ x y → VRel β0 x v → VRel β1 y v
  | .any, _, _, h, _ => by simp only [WE] at h; subst h; simp [VRel]
  | .bool _, _, _, h, k => by simp only [WE] at h; subst h; simpa [VRel] using k
  | .int _ _, _, _, h, k => by simp only [WE] at h; subst h; simpa [VRel] using k
  | .str _, _, _, h, k => by simp only [WE] at h; subst h; simpa [VRel] using k
  | .nilp, _, _, h, k => by simp only [WE] at h; subst h; simpa [VRel] using k
  | .ptr b off, _, _, h, k => by
    simp only [WE] at h
    obtain ⟨b', rfl, hb⟩ := h
    simp only [VRel] at k ⊢
    obtain ⟨q1, q2, q3⟩ := hb.ok m k.1
    exact ⟨q1, by rw [q2, q3]; exact k.2⟩
  | .nils, _, _, h, k => by simp only [WE] at h; subst h; simpa [VRel] using k
  | .slice b off esz len cap, _, _, h, k => by
    simp only [WE] at h
    obtain ⟨b', rfl, hb, ha⟩ := h
    simp only [VRel] at k ⊢
    obtain ⟨k0, k⟩ := k
    obtain ⟨q1, q2, q3⟩ := hb.ok m k0
    refine ⟨q1, ?_⟩
    obtain k | ⟨ro, rc, r1, r2, r3, r4⟩ := k
    · exact .inl k
    · refine .inr ⟨ro, rc, by rw [q2]; exact r1, r2, r3, fun hp => ⟨by rw [q3]; exact (r4 hp).1, ?_⟩⟩
      cases b with
      | own i =>
        obtain rfl := hb
        have := (r4 hp).2
        simp only [Beta.fits] at this ⊢
        rw [(m.own i k0).2.2]; exact this
      | arg i => obtain ⟨j, rfl⟩ := ha i rfl; trivial
  | .nilm, _, _, h, k => by simp only [WE] at h; subst h; simpa [VRel] using k
  | .map b, _, _, h, k => by
    simp only [WE] at h
    obtain ⟨b', rfl, hb⟩ := h
    simp only [VRel] at k ⊢
    obtain ⟨q1, q2, q3⟩ := hb.ok m k.1
    exact ⟨q1, by rw [q2]; exact k.2⟩
  | .nilf, _, _, h, k => by simp only [WE] at h; subst h; simpa [VRel] using k
  | .func f fs cs, _, _, h, k => by
    simp only [WE] at h
    obtain ⟨fs', cs', rfl, h1, h2⟩ := h
    simp only [VRel] at k ⊢
    obtain ⟨rf, rc, k1, k2, k3⟩ := k
    exact ⟨rf, rc, k1, WEs.rel m _ _ _ h1 k2, WEs.rel m _ _ _ h2 k3⟩
  | .yld b, _, _, h, k => by
    simp only [WE] at h
    obtain ⟨b', rfl, hb⟩ := h
    simp only [VRel] at k ⊢
    obtain ⟨q1, q2, q3⟩ := hb.ok m k.1
    exact ⟨q1, by rw [q2]; exact k.2⟩
  | .nili, _, _, h, k => by simp only [WE] at h; subst h; simpa [VRel] using k
  | .iface t x, _, _, h, k => by
    simp only [WE] at h
    obtain ⟨x', rfl, h1⟩ := h
    simp only [VRel] at k ⊢
    obtain ⟨r, k1, k2⟩ := k
    exact ⟨r, k1, WE.rel m _ _ _ h1 k2⟩
  | .agg cs, _, _, h, k => by
    simp only [WE] at h
    obtain ⟨cs', rfl, h1⟩ := h
    simp only [VRel] at k ⊢
    obtain ⟨r, k1, k2⟩ := k
    exact ⟨r, k1, WEs.rel m _ _ _ h1 k2⟩
  | .tup cs, _, _, h, k => by
    simp only [WE] at h
    obtain ⟨cs', rfl, h1⟩ := h
    simp only [VRel] at k ⊢
    obtain ⟨r, k1, k2⟩ := k
    exact ⟨r, k1, WEs.rel m _ _ _ h1 k2⟩
theorem WEs.rel {σ : Nat → Nat} {τ : Nat → Bid} {β0 β1 : Beta} (m : BMap σ τ β0 β1) : ∀ (xs ys : List AVal) (vs : List Value), WEs σ τ xs ys → VRels β0 xs vs → VRels β1 ys vs
  | [], _, _, h, k => by simp only [WEs] at h; subst h; simpa [VRels] using k
  | c :: cs, _, _, h, k => by
    simp only [WEs] at h
    obtain ⟨d, ds, rfl, h1, h2⟩ := h
    simp only [VRels] at k ⊢
    obtain ⟨r, rs, k1, k2, k3⟩ := k
    exact ⟨r, rs, k1, WE.rel m _ _ _ h1 k2, WEs.rel m _ _ _ h2 k3⟩
end
theorem WEs.length {σ : Nat → Nat} {τ : Nat → Bid} : ∀ {xs ys : List AVal}, WEs σ τ xs ys → xs.length = ys.length
  | [], _, h => by simp only [WEs] at h; simp [h]
  | c :: cs, _, h => by
    simp only [WEs] at h
    obtain ⟨d, ds, rfl, _, h2⟩ := h
    simp [h2.length]

def WEnts (σ : Nat → Nat) (τ : Nat → Bid) : List (AVal × AVal × Nat) → List (AVal × AVal × Nat) → Prop
  | [], l => l = []
  | a :: as, l => ∃ b bs, l = b :: bs ∧ WE σ τ a.1 b.1 ∧ WE σ τ a.2.1 b.2.1 ∧ a.2.2 = b.2.2 ∧ WEnts σ τ as bs
theorem WEnts.rel {σ : Nat → Nat} {τ : Nat → Bid} {β0 β1 : Beta} (m : BMap σ τ β0 β1) : ∀ {as bs : List (AVal × AVal × Nat)} {l : List MapEntry}, WEnts σ τ as bs → EntriesRel β0 as l → EntriesRel β1 bs l
  | [], _, _, h, k => by simp only [WEnts] at h; subst h; exact k
  | a :: as, _, _, ⟨b, bs, h0, h1, h2, h3, h4⟩, ⟨e, es, k1, ⟨k2, k3, k4⟩, k5⟩ => by
    subst h0
    exact ⟨e, es, k1, ⟨h1.rel m _ _ _ k2, h2.rel m _ _ _ k3, by rw [k4, h3]⟩, h4.rel m k5⟩

/-- The same of objects. -/
def WO (σ : Nat → Nat) (τ : Nat → Bid) : AObj → AObj → Prop
  | .cells cs t, o => ∃ cs', o = .cells cs' t ∧ WEs σ τ cs cs'
  | .map es clock, o => ∃ es', o = .map es' clock ∧ WEnts σ τ es es'
  | .defs, o => o = .defs
  | .loop st pend env nt ps asg body d, o => ∃ env' d', o = .loop st pend env' nt ps asg body d' ∧ (∀ t v', env' t = some v' → ∃ v, env t = some v ∧ WE σ τ v v') ∧ WB σ τ d d'
  | _, _ => False

/-- Names behind a call. -/
def Beta.join (β β0 : Beta) (nx nx0 : Nat) (ρ : Rho) : Beta where
  nx := nx + β0.nx
  blk := fun b => match b with
    | .own j => if j < nx then β.blk (.own j) else β0.blk (.own (j - nx))
    | .arg i => β.blk (.arg i)
  off := β.off
  tot := fun j => if j < nx then β.tot j else β0.tot (j - nx)
  fp := fun j b => if j < nx then ((∀ i, i < nx0 → ρ.own i ≠ some j) ∧ β.fp j b) ∨ ∃ i, i < nx0 ∧ ρ.own i = some j ∧ β0.fp i b else β0.fp (j - nx) b

/-- How the call's names are called behind it. -/
def Rho.back (ρ : Rho) (nx nx0 i : Nat) : Nat :=
  match (if i < nx0 then ρ.own i else none) with
  | some j => j
  | none => nx + i

/-- What a contract asks, under the caller's names. -/
structure CEmb (rom0 rom : Rom) (ρ : Rho) (h0 : Heap) (nx0 : Nat) (h : Heap) (nx : Nat) : Prop where
  obj : ∀ i o, h0 i = some o → i < nx0 ∧ ((∃ t, o = .cells [] t ∧ ρ.own i = none) ∨ ∃ j o', ρ.own i = some j ∧ h j = some o' ∧ OE nx0 ρ o o')
  dom : ∀ i j, i < nx0 → ρ.own i = some j → h0 i ≠ none
  inj : ∀ i i' j, i < nx0 → i' < nx0 → ρ.own i = some j → ρ.own i' = some j → i = i'
  arg : ∀ i j, ρ.arg i = .own j → j < nx
  rom : ∀ i cs e, rom0 i = some (cs, e) → cs = [] ∨ (∃ j cs' e', ρ.arg i = .own j ∧ h j = some (.cells cs' e') ∧ VEs nx0 ρ cs cs' ∧ ∀ i', i' < nx0 → ρ.own i' ≠ some j) ∨ ∃ j cs' e', ρ.arg i = .arg j ∧ rom j = some (cs', e') ∧ VEs nx0 ρ cs cs'

variable {P : Program}
theorem CEmb.rel {rom0 rom : Rom} {ρ : Rho} {h0 h : Heap} {nx0 nx : Nat} (E : CEmb rom0 rom ρ h0 nx0 h nx) {β : Beta} {w : World} (H : HRel P β rom h w) : HRel P (β.ren nx0 ρ) rom0 h0 w := by
  have key : ∀ i b, h0 i ≠ none → (β.ren nx0 ρ).fp i b → ∃ j, i < nx0 ∧ ρ.own i = some j ∧ h j ≠ none ∧ β.fp j b := by
    intro i b hi hf
    cases ho : h0 i with
    | none => exact absurd ho hi
    | some o =>
      obtain ⟨hlt, ⟨t, _, hr⟩ | ⟨j, o', hr, hj, _⟩⟩ := E.obj i o ho
      · simp [Beta.ren, hr] at hf
      · exact ⟨j, hlt, hr, by rw [hj]; simp, by simpa [Beta.ren, hr] using hf⟩
  refine ⟨?_, ?_, ?_, ?_, ?_⟩
  · intro i o ho
    obtain ⟨hlt, ⟨t, rfl, hr⟩ | ⟨j, o', hr, hj, hoe⟩⟩ := E.obj i o ho
    · exact ⟨hlt, .inl ⟨rfl, by simp [Beta.ren, hr], fun b hb => by simp [Beta.ren, hr] at hb⟩⟩
    · exact ⟨hlt, hoe.rel hr (H.obj j o' hj).2⟩
  · intro i i' b hi hi' hf hf'
    obtain ⟨j, l, r1, r2, r3⟩ := key i b hi hf
    obtain ⟨j', l', r1', r2', r3'⟩ := key i' b hi' hf'
    have := H.disj j j' b r2 r2' r3 r3'
    subst this
    exact E.inj i i' j l l' r1 r1'
  · intro i b hi hf
    obtain ⟨j, _, r1, r2, r3⟩ := key i b hi hf
    exact H.bnd j b r2 r3
  · intro i cs e hr
    obtain h0' | ⟨j, cs', e', ha, hj, hv, _⟩ | ⟨j, cs', e', ha, hj, hv⟩ := E.rom i cs e hr
    · exact .inl h0'
    · obtain ⟨_, ⟨h1, _⟩ | ⟨h1, pre, spare, fz, h2, h3, h4, h5⟩⟩ := H.obj j _ hj
      · exact .inl (List.eq_nil_of_length_eq_zero (by rw [hv.length, h1]; rfl))
      · have hl : cs.length = pre.length := by rw [hv.length, h3.length]
        refine .inr ⟨_, _, fz, by simp only [Beta.ren, ha]; exact h2, by simp [Beta.ren, ha, Beta.offOf, hl], ?_⟩
        have e1 : (β.ren nx0 ρ).off i = 0 := by simp [Beta.ren, ha, Beta.offOf]
        rw [e1, hl]
        simpa using VEs.rel _ _ _ hv h3
    · obtain hn | ⟨rcs, e2, fz, h1, h2, h3⟩ := H.args j cs' e' hj
      · exact .inl (List.eq_nil_of_length_eq_zero (by rw [hv.length, hn]; rfl))
      · have e1 : (β.ren nx0 ρ).off i = β.off j := by simp [Beta.ren, ha, Beta.offOf]
        refine .inr ⟨rcs, e2, fz, by simp only [Beta.ren, ha]; exact h1, by rw [e1, hv.length]; exact h2, ?_⟩
        rw [e1, hv.length]
        exact VEs.rel _ _ _ hv h3
  · intro i i' hr hj hf
    obtain ⟨cs, e, hr, hn⟩ := hr
    obtain ⟨j', l, r1, r2, r3⟩ := key i' _ hj hf
    obtain h0' | ⟨j, cs', e', ha, hj, hv, hno⟩ | ⟨j, cs', e', ha, hj, hv⟩ := E.rom i cs e hr
    · exact hn h0'
    · obtain ⟨_, ⟨h1, _⟩ | ⟨h1, pre, spare, fz, h2, h3, h4, h5⟩⟩ := H.obj j _ hj
      · exact hn (List.eq_nil_of_length_eq_zero (by rw [hv.length, h1]; rfl))
      · simp only [Beta.ren, ha] at r3
        have := H.disj j' j _ r2 (by rw [hj]; simp) r3 ((h1 _).2 rfl)
        subst this
        exact hno i' l r1
    · simp only [Beta.ren, ha] at r3
      exact H.argd j j' ⟨cs', e', hj, fun h => hn (List.eq_nil_of_length_eq_zero (by rw [hv.length, h]; rfl))⟩ r2 r3

theorem WO.rel {σ : Nat → Nat} {τ : Nat → Bid} {β0 β1 : Beta} (m : BMap σ τ β0 β1) {i j : Nat} {w : World} {o o' : AObj} (hi : i < β0.nx) (hj : σ i = j) (hf : ∀ b, β1.fp j b ↔ β0.fp i b) (h : WO σ τ o o') (k : ORel P β0 i w o) : ORel P β1 j w o' := by
  subst hj
  obtain ⟨m1, m2, m3⟩ := m.own i hi
  cases o with
  | cells cs t =>
    obtain ⟨cs', rfl, h1⟩ := h
    obtain ⟨k1, k2, k3⟩ | ⟨k1, pre, spare, fz, k2, k3, k4, k5⟩ := k
    · refine .inl ⟨List.eq_nil_of_length_eq_zero (by rw [← h1.length, k1]; rfl), by rw [m3]; exact k2, fun b hb => k3 b ((hf b).1 hb)⟩
    · exact .inr ⟨fun b => by rw [hf, k1, m2], pre, spare, fz, by rw [m2]; exact k2, WEs.rel m _ _ _ h1 k3, by rw [m3]; exact k4, by rw [m3]; exact k5⟩
  | map es clock =>
    obtain ⟨es', rfl, h1⟩ := h
    obtain ⟨k1, res, k2, k3⟩ := k
    exact ⟨fun b => by rw [hf, k1, m2], res, by rw [m2]; exact k2, h1.rel m k3⟩
  | loop st pend env nt ps asg body d =>
    obtain ⟨env', d', rfl, h1, h2⟩ := h
    obtain ⟨k1, fn, tmps, ra, rb, k2, k3, c1, c2, k4⟩ := k
    obtain ⟨q1, q2, _⟩ := h2.ok m k3
    exact ⟨fun b => by rw [hf, k1, m2], fn, tmps, ra, rb, ⟨k2.size, fun t v hv => let ⟨v0, g1, g2⟩ := h1 t v hv; g2.rel m _ _ _ (k2.get t v0 g1)⟩, q1, c1, c2, by rw [m2, q2]; exact k4⟩
  | defs =>
    obtain rfl := h
    obtain ⟨k1, k2⟩ := k
    exact ⟨fun b => by rw [hf, k1, m2], by rw [m2]; exact k2⟩
  | strIter s p => exact h.elim
  | mapIter m since seen stepped => exact h.elim
  | opq R => exact h.elim

/-- A contract under its own names, used where things are called otherwise. -/
theorem CallT.use {rom0 rom : Rom} {f : FuncId} {args0 : List AVal} {h0 : Heap} {nx0 : Nat} {Q0 : AVal → Heap → Nat → Prop} (hc : CallT P rom0 f args0 h0 nx0 Q0)
    {args : List AVal} {h : Heap} {nx : Nat} {Q : AVal → Heap → Nat → Prop} (ρ : Rho) (E : CEmb rom0 rom ρ h0 nx0 h nx) (hargs : VEs nx0 ρ args0 args)
    (hQ : ∀ v0 h0' nx0', nx0 ≤ nx0' → Q0 v0 h0' nx0' → ∃ v h', WE (ρ.back nx nx0) ρ.arg v0 v ∧
      (∀ j o, h' j = some o → (h j = some o ∧ ∀ i, i < nx0 → ρ.own i ≠ some j) ∨ ∃ i o0, ρ.back nx nx0 i = j ∧ h0' i = some o0 ∧ WO (ρ.back nx nx0) ρ.arg o0 o) ∧ Q v h' (nx + nx0')) :
    CallT P rom f args h nx Q := by
  refine ⟨hc.1, fun β w rargs hnx H hv => ?_⟩
  refine (hc.2 (β.ren nx0 ρ) w rargs rfl (E.rel H) (VEs.rel _ _ _ hargs hv)).mono ?_
  rintro e w' ⟨β0, v0, h0', rv, rfl, q, g2, g3, g4⟩
  have hle : nx0 ≤ β0.nx := g4.ext.nx
  obtain ⟨v, h', hw, hh, hq⟩ := hQ v0 h0' β0.nx hle q
  subst hnx
  let β' := β.join β0 β.nx nx0 ρ
  have hown : ∀ i j, i < nx0 → ρ.own i = some j → j < β.nx := fun i j hi hr => by
    have h1 := E.dom i j hi hr
    cases ho : h0 i with
    | none => exact absurd ho h1
    | some o =>
      obtain ⟨_, ⟨t, _, hr'⟩ | ⟨j', o', hr', hj, _⟩⟩ := E.obj i o ho
      · rw [hr] at hr'; cases hr'
      · rw [hr] at hr'; injection hr' with hr'; subst hr'
        exact (H.obj j o' hj).1
  have hback : ∀ i, (∃ j, i < nx0 ∧ ρ.own i = some j ∧ ρ.back β.nx nx0 i = j ∧ j < β.nx) ∨ (ρ.back β.nx nx0 i = β.nx + i ∧ ∀ j, i < nx0 → ρ.own i ≠ some j) := fun i => by
    unfold Rho.back
    by_cases hi : i < nx0
    · cases hr : ρ.own i with
      | none => right; simp [hi]
      | some j => left; exact ⟨j, hi, rfl, by simp [hi], hown i j hi hr⟩
    · right; simp [hi]
  have M : BMap (ρ.back β.nx nx0) ρ.arg β0 β' := by
    refine ⟨fun i hi => ?_, fun i => ?_⟩
    · obtain ⟨j, h1, h2, h3, h4⟩ | ⟨h1, h2⟩ := hback i
      · have e1 := (g4.ext.own i h1)
        simp only [Beta.ren, h2] at e1
        refine ⟨by rw [h3]; show j < β.nx + β0.nx; omega, ?_, ?_⟩
        · rw [h3, e1.1]; simp [β', Beta.join, h4]
        · rw [h3, e1.2]; simp [β', Beta.join, h4]
      · have hn : ¬ β.nx + i < β.nx := by omega
        have hs : β.nx + i - β.nx = i := by omega
        refine ⟨by rw [h1]; show β.nx + i < β.nx + β0.nx; omega, ?_, ?_⟩
        · rw [h1]; simp only [β', Beta.join, hn, if_false, hs]
        · rw [h1]; simp only [β', Beta.join, hn, if_false, hs]
    · have e1 := g4.ext.arg i
      simp only [Beta.ren] at e1
      rw [e1.1, e1.2]
      cases ha : ρ.arg i with
      | own j =>
        have hj := E.arg i j ha
        refine ⟨by show j < β.nx + β0.nx; omega, by simp [β', Beta.join, hj], rfl⟩
      | arg j => exact ⟨trivial, rfl, rfl⟩
  have hext : Ext β β' := by
    refine ⟨by show β.nx ≤ β.nx + β0.nx; omega, fun i hi => ?_, fun i => ⟨rfl, rfl⟩⟩
    simp [β', Beta.join, hi]
  -- blocks that the call had
  have had : ∀ i b, h0' i ≠ none → β0.fp i b → b < w.heap.size → ∃ i' j, i' < nx0 ∧ ρ.own i' = some j ∧ h j ≠ none ∧ β.fp j b := by
    intro i b hi hf hb
    obtain ⟨i', h1, h2⟩ := g4.stay i b hi hf hb
    cases ho : h0 i' with
    | none => exact absurd ho h1
    | some o =>
      obtain ⟨hlt, ⟨t, _, hr⟩ | ⟨j, o', hr, hj, _⟩⟩ := E.obj i' o ho
      · simp [Beta.ren, hr] at h2
      · exact ⟨i', j, hlt, hr, by rw [hj]; simp, by simpa [Beta.ren, hr] using h2⟩
  have hsame : ∀ b, b < w.heap.size → (∀ i j, i < nx0 → ρ.own i = some j → h j ≠ none → ¬ β.fp j b) → w'.heap[b]? = w.heap[b]? := by
    intro b hb hno
    refine g4.same b hb fun i hi hf => ?_
    cases ho : h0 i with
    | none => exact absurd ho hi
    | some o =>
      obtain ⟨hlt, ⟨t, _, hr⟩ | ⟨j, o', hr, hj, _⟩⟩ := E.obj i o ho
      · simp [Beta.ren, hr] at hf
      · exact hno i j hlt hr (by rw [hj]; simp) (by simpa [Beta.ren, hr] using hf)
  -- footprints behind the call
  have fpF : ∀ j b, j < β.nx → (∀ i, i < nx0 → ρ.own i ≠ some j) → (β'.fp j b ↔ β.fp j b) := by
    intro j b hj hno
    simp only [β', Beta.join, hj, if_true]
    constructor
    · rintro (⟨_, h⟩ | ⟨i, h1, h2, _⟩)
      · exact h
      · exact absurd h2 (hno i h1)
    · exact fun h => .inl ⟨hno, h⟩
  have fpC : ∀ i b, β'.fp (ρ.back β.nx nx0 i) b ↔ β0.fp i b := by
    intro i b
    obtain ⟨j, h1, h2, h3, h4⟩ | ⟨h1, h2⟩ := hback i
    · rw [h3]
      simp only [β', Beta.join, h4, if_true]
      constructor
      · rintro (⟨h, _⟩ | ⟨i', g1, g2, g3⟩)
        · exact absurd h2 (h i h1)
        · rw [E.inj i i' j h1 g1 h2 g2]; exact g3
      · exact fun h => .inr ⟨i, h1, h2, h⟩
    · rw [h1]
      have hn : ¬ β.nx + i < β.nx := by omega
      have hs : β.nx + i - β.nx = i := by omega
      simp only [β', Beta.join, hn, if_false, hs]
  have binj : ∀ i i', ρ.back β.nx nx0 i = ρ.back β.nx nx0 i' → i = i' := by
    intro i i' he
    obtain ⟨j, h1, h2, h3, h4⟩ | ⟨h1, h2⟩ := hback i <;> obtain ⟨j', h1', h2', h3', h4'⟩ | ⟨h1', h2'⟩ := hback i'
    · rw [h3, h3'] at he; subst he; exact E.inj i i' j h1 h1' h2 h2'
    · omega
    · omega
    · omega
  -- each object behind the call: the caller's, or the call's
  have hcase : ∀ j, h' j ≠ none → (j < β.nx ∧ h j ≠ none ∧ h' j = h j ∧ ∀ i, i < nx0 → ρ.own i ≠ some j) ∨ ∃ i, ρ.back β.nx nx0 i = j ∧ h0' i ≠ none := by
    intro j hj
    cases ho : h' j with
    | none => exact absurd ho hj
    | some o =>
      obtain ⟨h1, h2⟩ | ⟨i, o0, h1, h2, _⟩ := hh j o ho
      · exact .inl ⟨(H.obj j o h1).1, by rw [h1]; simp, by rw [h1], h2⟩
      · exact .inr ⟨i, h1, by rw [h2]; simp⟩
  have apart : ∀ j b i, h j ≠ none → (∀ i, i < nx0 → ρ.own i ≠ some j) → β.fp j b → h0' i ≠ none → β0.fp i b → False := by
    intro j b i hj hno hf hi hf'
    obtain ⟨i', j', k1, k2, k3, k4⟩ := had i b hi hf' (H.bnd j b hj hf)
    have := H.disj j j' b hj k3 hf k4
    subst this
    exact hno i' k1 k2
  refine ⟨β', v, h', rv, rfl, hq, hw.rel M _ _ _ g2, ⟨?_, ?_, ?_, ?_, ?_⟩, ⟨hext, g4.size, ?_, ?_, g4.os, g4.out⟩⟩
  · intro j o ho
    obtain ⟨h1, h2⟩ | ⟨i, o0, h1, h2, h3⟩ := hh j o ho
    · obtain ⟨k1, k2⟩ := H.obj j o h1
      refine ⟨Nat.lt_of_lt_of_le k1 hext.nx, k2.same hext k1 (fun b => fpF j b k1 h2) fun b hb => hsame b (H.bnd j b (by rw [h1]; simp) hb) fun i j' hi hr hj' hf => ?_⟩
      have := H.disj j j' b (by rw [h1]; simp) hj' hb hf
      subst this
      exact h2 i hi hr
    · obtain ⟨k1, k2⟩ := g3.obj i o0 h2
      refine ⟨by rw [← h1]; exact (M.own i k1).1, h3.rel M k1 h1 (fun b => by rw [← h1]; exact fpC i b) k2⟩
  · intro j j' b hj hj' hf hf'
    obtain ⟨a1, a2, _, a3⟩ | ⟨i, a1, a2⟩ := hcase j hj <;> obtain ⟨b1, b2, _, b3⟩ | ⟨i', b1, b2⟩ := hcase j' hj'
    · exact H.disj j j' b a2 b2 ((fpF j b a1 a3).1 hf) ((fpF j' b b1 b3).1 hf')
    · subst b1; exact (apart j b i' a2 a3 ((fpF j b a1 a3).1 hf) b2 ((fpC i' b).1 hf')).elim
    · subst a1; exact (apart j' b i b2 b3 ((fpF j' b b1 b3).1 hf') a2 ((fpC i b).1 hf)).elim
    · subst a1 b1
      rw [g3.disj i i' b a2 b2 ((fpC i b).1 hf) ((fpC i' b).1 hf')]
  · intro j b hj hf
    obtain ⟨a1, a2, _, a3⟩ | ⟨i, a1, a2⟩ := hcase j hj
    · exact Nat.lt_of_lt_of_le (H.bnd j b a2 ((fpF j b a1 a3).1 hf)) g4.size
    · subst a1; exact g3.bnd i b a2 ((fpC i b).1 hf)
  · intro i cs e hr
    refine (H.args i cs e hr).same hext fun hn => hsame _ (H.rom_lt i ⟨cs, e, hr, hn⟩) fun i' j hi hr' hj hf => H.argd i j ⟨cs, e, hr, hn⟩ hj hf
  · intro i j hr hj hf
    have hb : β'.blk (.arg i) = β.blk (.arg i) := rfl
    rw [hb] at hf
    obtain ⟨a1, a2, _, a3⟩ | ⟨i', a1, a2⟩ := hcase j hj
    · exact H.argd i j hr a2 ((fpF j _ a1 a3).1 hf)
    · subst a1
      obtain ⟨i'', j', k1, k2, k3, k4⟩ := had i' _ a2 ((fpC i' _).1 hf) (H.rom_lt i hr)
      exact H.argd i j' hr k3 k4
  · intro b hb hno
    exact hsame b hb fun i j _ _ hj => hno j hj
  · intro j b hj hf hb
    obtain ⟨a1, a2, _, a3⟩ | ⟨i, a1, a2⟩ := hcase j hj
    · exact ⟨j, a2, (fpF j b a1 a3).1 hf⟩
    · subst a1
      obtain ⟨i'', j', k1, k2, k3, k4⟩ := had i b a2 ((fpC i b).1 hf) hb
      exact ⟨j', k3, k4⟩

end Go.AL

/- Helper text: values and heaps that are told in part by numbers that are not known. -/
namespace Go.SL
open Go.AL

/-- A number: known, or any term. -/
inductive SI where
  | lit (n : Int)
  | sym (n : Int)
def SI.v : SI → Int
  | .lit n => n
  | .sym n => n
/-- A truth: known, or any proposition. -/
inductive SB where
  | lit (b : Bool)
  | sym (p : Prop)
open Classical in
noncomputable def SB.v : SB → Bool
  | .lit b => b
  | .sym p => decide p
/-- A text. -/
inductive SS where
  | lit (s : ByteArray)
  | sym (s : ByteArray)
def SS.v : SS → ByteArray
  | .lit s => s
  | .sym s => s

inductive SV where
  | any
  | bool (b : SB)
  | int (k : IntKind) (n : SI)
  | str (s : SS)
  | nilp
  | ptr (b : Bid) (off : Nat)
  | eptr (b : Bid) (base : Nat) (num : Option Nat) (i : SI) (esz o : Nat)
  | nils
  | sl (b : Bid) (lo : SI) (esz : Nat) (len : SI) (cap : Option SI)
  | nilm
  | map (b : Bid)
  | nilf
  | func (f : FuncId) (first caps : List SV)
  | yld (b : Bid)
  | nili
  | iface (t : TypeId) (v : SV)
  | agg (cs : List SV)
  | tup (cs : List SV)
  -- many cells
  | arr (n : SI) (esz : Nat) (f : Int → List SV)
  | aset (a : SV) (i : SI) (c : List SV)
  | alit (esz : Nat) (l : List SV)
  | asub (a : SV) (lo n : SI)
  | acat (a b : SV)
  deriving Inhabited

def SV.isArr : SV → Bool
  | .arr _ _ _ | .aset _ _ _ | .alit _ _ | .asub _ _ _ | .acat _ _ => true
  | _ => false
/-- One cell's value. -/
def SV.one : SV → Bool
  | .any | .agg _ | .tup _ | .arr _ _ _ | .aset _ _ _ | .alit _ _ | .asub _ _ _ | .acat _ _ => false
  | _ => true

def SI.add : SI → SI → SI
  | .lit a, .lit b => .lit (a + b)
  | .lit 0, x => x
  | x, .lit 0 => x
  | x, y => .sym (x.v + y.v)
def SI.sub : SI → SI → SI
  | .lit a, .lit b => .lit (a - b)
  | x, .lit 0 => x
  | x, y => .sym (x.v - y.v)
theorem SI.add_v (x y : SI) : (x.add y).v = x.v + y.v := by
  unfold SI.add; split <;> simp [SI.v]
theorem SI.sub_v (x y : SI) : (x.sub y).v = x.v - y.v := by
  unfold SI.sub; split <;> simp [SI.v]

/-- How many elements. -/
def SV.cnt : SV → SI
  | .arr n _ _ => n
  | .aset a _ _ => a.cnt
  | .alit esz l => .lit (l.length / esz : Nat)
  | .asub _ _ n => n
  | .acat a b => a.cnt.add b.cnt
  | _ => .lit 0
def SV.esz : SV → Nat
  | .arr _ z _ => z
  | .aset a _ _ => a.esz
  | .alit z _ => z
  | .asub a _ _ => a.esz
  | .acat a _ => a.esz
  | _ => 1

/-- What a slice surely has. -/
def capS (len : SI) : Option SI → SI
  | none => len
  | some c => c

/-- Just so many cells. -/
def fix (z : Nat) (l : List AVal) : List AVal := (l ++ List.replicate z (AVal.bool false)).take z
theorem fix_length (z : Nat) (l : List AVal) : (fix z l).length = z := by simp [fix]
theorem fix_eq {z : Nat} {l : List AVal} (h : l.length = z) : fix z l = l := by simp [fix, ← h]

/-- A cell's value: never several. -/
def cellV (v : AVal) : AVal := if v.one then v else .bool false

mutual
noncomputable def γ : SV → AVal
  | .any => .any
  | .bool b => .bool b.v
  | .int k n => .int k n.v
  | .str s => .str s.v
  | .nilp => .nilp
  | .ptr b off => .ptr b off
  | .eptr b base _ i esz o => .ptr b (base + i.v.toNat * esz + o)
  | .nils => .nils
  | .sl b lo esz len cap => .slice b (lo.v.toNat * esz) esz len.v.toNat (capS len cap).v.toNat
  | .nilm => .nilm
  | .map b => .map b
  | .nilf => .nilf
  | .func f first caps => .func f (γs first) (γs caps)
  | .yld b => .yld b
  | .nili => .nili
  | .iface t v => .iface t (γ v)
  | .agg cs => .agg (flat cs)
  | .tup cs => .tup (γs cs)
  | .arr _ _ _ | .aset _ _ _ | .alit _ _ | .asub _ _ _ | .acat _ _ => .any
noncomputable def γs : List SV → List AVal
  | [] => []
  | v :: vs => γ v :: γs vs
/-- The cells that a list tells. -/
noncomputable def flat : List SV → List AVal
  | [] => []
  | v :: vs => (bif v.isArr then (List.range v.cnt.v.toNat).flatMap (fun j => fix v.esz (elem v j)) else [cellV (γ v)]) ++ flat vs
/-- An element's cells. -/
noncomputable def elem : SV → Nat → List AVal
  | .arr _ _ f, j => flat (f j)
  | .aset a i c, j => if (j : Int) = i.v then flat c else elem a j
  | .alit z l, j => ((flat l).drop (j * z)).take z
  | .asub a lo _, j => elem a (lo.v + j).toNat
  | .acat a b, j => if (j : Int) < a.cnt.v then elem a j else elem b (j - a.cnt.v).toNat
  | _, _ => []
end

theorem γs_map (l : List SV) : γs l = l.map γ := by
  induction l with
  | nil => rfl
  | cons v vs ih => simp [γs, ih]

end Go.SL

/- Helper text: reading and writing told cells. -/
namespace Go.SL
open Go.AL

/-! ### Tests -/
def eqS : SI → SI → SB
  | .lit a, .lit b => .lit (decide (a = b))
  | x, y => .sym (x.v = y.v)
def ltS : SI → SI → SB
  | .lit a, .lit b => .lit (decide (a < b))
  | x, y => .sym (x.v < y.v)
def leS : SI → SI → SB
  | .lit a, .lit b => .lit (decide (a ≤ b))
  | x, y => .sym (x.v ≤ y.v)
theorem SB.v_lit (b : Bool) : (SB.lit b).v = b := rfl
theorem SB.v_sym (p : Prop) : (SB.sym p).v = true ↔ p := by simp [SB.v]
theorem eqS_v (x y : SI) : (eqS x y).v = true ↔ x.v = y.v := by
  cases x <;> cases y <;> simp [eqS, SB.v, SI.v]
theorem ltS_v (x y : SI) : (ltS x y).v = true ↔ x.v < y.v := by
  cases x <;> cases y <;> simp [ltS, SB.v, SI.v]
theorem leS_v (x y : SI) : (leS x y).v = true ↔ x.v ≤ y.v := by
  cases x <;> cases y <;> simp [leS, SB.v, SI.v]

/-- A test, then the rest. -/
def gS : SB → Prop → Prop
  | .lit true, P => P
  | .lit false, _ => False
  | .sym p, P => p ∧ P
/-- Two ways. -/
def forkS : SB → Prop → Prop → Prop
  | .lit true, P, _ => P
  | .lit false, _, Q => Q
  | .sym p, P, Q => (p → P) ∧ (¬ p → Q)
theorem gS_spec {b : SB} {P : Prop} (h : gS b P) : b.v = true ∧ P := by
  unfold gS at h
  split at h
  · exact ⟨rfl, h⟩
  · exact h.elim
  · exact ⟨by rw [SB.v_sym]; exact h.1, h.2⟩
theorem forkS_spec {b : SB} {P Q : Prop} (h : forkS b P Q) : (b.v = true ∧ P) ∨ (b.v = false ∧ Q) := by
  unfold forkS at h
  split at h
  · exact .inl ⟨rfl, h⟩
  · exact .inr ⟨rfl, h⟩
  · rename_i p
    by_cases hp : p
    · exact .inl ⟨by rw [SB.v_sym]; exact hp, h.1 hp⟩
    · exact .inr ⟨by simp [SB.v, hp], h.2 hp⟩
theorem forkS_mono {b : SB} {P Q P' Q' : Prop} (hp : P → P') (hq : Q → Q') (h : forkS b P Q) : forkS b P' Q' := by
  unfold forkS at h ⊢
  split at h
  · exact hp h
  · exact hq h
  · exact ⟨fun x => hp (h.1 x), fun x => hq (h.2 x)⟩
theorem gS_mono {b : SB} {P P' : Prop} (hp : P → P') (h : gS b P) : gS b P' := by
  unfold gS at h ⊢
  split at h
  · exact hp h
  · exact h
  · exact ⟨h.1, hp h.2⟩

/-! ### Rows of equal width -/
theorem fm_length {α : Type} {z : Nat} (g : Nat → List α) (h : ∀ j, (g j).length = z) : ∀ n, ((List.range n).flatMap g).length = n * z
  | 0 => by simp
  | n + 1 => by
    rw [List.range_succ, List.flatMap_append, List.length_append, fm_length g h n]
    simp [h, Nat.add_mul]
theorem fm_get {α : Type} {z : Nat} (g : Nat → List α) (h : ∀ j, (g j).length = z) {j o : Nat} (ho : o < z) : ∀ n, j < n → ((List.range n).flatMap g)[j * z + o]? = (g j)[o]?
  | 0, hj => absurd hj (Nat.not_lt_zero _)
  | n + 1, hj => by
    rw [List.range_succ, List.flatMap_append]
    rcases Nat.lt_or_ge j n with h1 | h1
    · rw [List.getElem?_append_left, fm_get g h ho n h1]
      rw [fm_length g h]
      have : (j + 1) * z ≤ n * z := Nat.mul_le_mul_right _ h1
      rw [Nat.add_mul] at this; omega
    · have : j = n := by omega
      subst this
      rw [List.getElem?_append_right (by rw [fm_length g h]; omega), fm_length g h]
      simp

/-- What an array tells. -/
noncomputable def rows (v : SV) : List AVal := (List.range v.cnt.v.toNat).flatMap fun j => fix v.esz (elem v j)
theorem rows_length (v : SV) : (rows v).length = v.cnt.v.toNat * v.esz := fm_length _ (fun _ => fix_length _ _) _
theorem rows_get {v : SV} {j o : Nat} (ho : o < v.esz) (hj : j < v.cnt.v.toNat) : (rows v)[j * v.esz + o]? = (fix v.esz (elem v j))[o]? :=
  fm_get _ (fun _ => fix_length _ _) ho _ hj
theorem fix_get {z : Nat} {l : List AVal} {o : Nat} (ho : o < z) (hl : o < l.length) : (fix z l)[o]? = l[o]? := by
  simp only [fix]
  rw [List.getElem?_take, if_pos ho, List.getElem?_append_left hl]

theorem flat_cons (v : SV) (vs : List SV) : flat (v :: vs) = (bif v.isArr then rows v else [cellV (γ v)]) ++ flat vs := by simp [flat, rows]
theorem flat_arr {v : SV} {vs : List SV} (h : v.isArr = true) : flat (v :: vs) = rows v ++ flat vs := by rw [flat_cons, h]; rfl
theorem flat_one {v : SV} {vs : List SV} (h : v.isArr = false) : flat (v :: vs) = cellV (γ v) :: flat vs := by rw [flat_cons, h]; rfl

theorem cellV_one (v : AVal) : (cellV v).one = true := by unfold cellV; split <;> first | assumption | rfl
theorem one_γ {v : SV} (h : v.one = true) : (γ v).one = true ∧ v.isArr = false := by
  cases v <;> simp_all [SV.one, γ, AVal.one, SV.isArr]
theorem cellV_γ {v : SV} (h : v.one = true) : cellV (γ v) = γ v := by simp [cellV, (one_γ h).1]

mutual
theorem flat_allOne : ∀ (l : List SV) (c : AVal), c ∈ flat l → c.one = true
  | [], c, h => by simp [flat] at h
  | v :: vs, c, h => by
    simp only [flat, List.mem_append] at h
    rcases h with h | h
    · cases hv : v.isArr with
      | true =>
        rw [hv] at h
        simp only [cond_true, List.mem_flatMap] at h
        obtain ⟨j, _, h⟩ := h
        have := List.mem_of_mem_take h
        rw [List.mem_append] at this
        rcases this with h | h
        · exact elem_allOne v j c h
        · rw [(List.mem_replicate.1 h).2]; rfl
      | false =>
        rw [hv] at h
        simp only [cond_false, List.mem_singleton] at h
        rw [h]; exact cellV_one _
    · exact flat_allOne vs c h
theorem elem_allOne : ∀ (v : SV) (j : Nat) (c : AVal), c ∈ elem v j → c.one = true
  | .arr n z f, j, c, h => by simp only [elem] at h; exact flat_allOne _ c h
  | .aset a i l, j, c, h => by
    simp only [elem] at h
    split at h
    · exact flat_allOne _ c h
    · exact elem_allOne a j c h
  | .alit z l, j, c, h => by
    simp only [elem] at h
    exact flat_allOne l c (List.mem_of_mem_drop (List.mem_of_mem_take h))
  | .asub a lo n, j, c, h => by simp only [elem] at h; exact elem_allOne a _ c h
  | .acat a b, j, c, h => by
    simp only [elem] at h
    split at h
    · exact elem_allOne a _ c h
    · exact elem_allOne b _ c h
  | .any, _, _, h | .bool _, _, _, h | .int _ _, _, _, h | .str _, _, _, h | .nilp, _, _, h | .ptr _ _, _, _, h | .eptr _ _ _ _ _ _, _, _, h | .nils, _, _, h | .sl _ _ _ _ _, _, _, h
  | .nilm, _, _, h | .map _, _, _, h | .nilf, _, _, h | .func _ _ _, _, _, h | .yld _, _, _, h | .nili, _, _, h | .iface _ _, _, _, h | .agg _, _, _, h | .tup _, _, _, h => by simp [elem] at h
end
theorem flat_allOneB (l : List SV) : allOne (flat l) = true := by
  unfold allOne; rw [List.all_eq_true]; exact flat_allOne l

/-! ### One cell, some cells of a list of plain cells -/
def oneAt : List SV → Nat → Option SV
  | [], _ => none
  | v :: vs, o => bif v.isArr then none else match o with
    | 0 => bif v.one then some v else none
    | o + 1 => oneAt vs o
theorem oneAt_spec : ∀ {l : List SV} {o : Nat} {v : SV}, oneAt l o = some v → (flat l)[o]? = some (γ v)
  | [], _, _, h => by simp [oneAt] at h
  | x :: xs, o, v, h => by
    simp only [oneAt] at h
    cases hx : x.isArr with
    | true => rw [hx] at h; simp at h
    | false =>
      rw [hx] at h
      rw [flat_one hx]
      cases o with
      | zero =>
        simp only [cond_false] at h
        cases ho : x.one with
        | true => rw [ho] at h; simp at h; subst h; simp [cellV_γ ho]
        | false => rw [ho] at h; simp at h
      | succ o => simp only [cond_false] at h; simpa using oneAt_spec h

def plain : List SV → Bool
  | [] => true
  | v :: vs => bif v.isArr then false else plain vs
theorem plain_flat : ∀ {l : List SV}, plain l = true → flat l = l.map fun v => cellV (γ v)
  | [], _ => rfl
  | v :: vs, h => by
    simp only [plain] at h
    cases hv : v.isArr with
    | true => rw [hv] at h; simp at h
    | false => rw [hv] at h; rw [flat_one hv, plain_flat h]; rfl

/-! ### Elements -/
/-- Two plain values that surely are the same. -/
def SV.sameS : SV → SV → Bool
  | .int k (.lit a), .int k' (.lit b) => decide (k = k') && decide (a = b)
  | .bool (.lit a), .bool (.lit b) => a == b
  | .nilp, .nilp => true
  | .nils, .nils => true
  | .nilm, .nilm => true
  | .nilf, .nilf => true
  | .nili, .nili => true
  | _, _ => false
theorem SV.sameS_spec {a b : SV} (h : a.sameS b = true) : γ a = γ b := by
  unfold SV.sameS at h
  split at h <;> simp_all [γ, SI.v, SB.v]
def sameL : List SV → List SV → Bool
  | [], [] => true
  | a :: as, b :: bs => bif a.sameS b then sameL as bs else false
  | _, _ => false
/-- All rows the same. -/
def sameRows (z : Nat) (c : List SV) : Nat → List SV → Bool
  | 0, _ => true
  | n + 1, l => bif sameL (l.take z) c then sameRows z c n (l.drop z) else false

def litForks (z : Nat) (n : Int) (K : List SV → Prop) : Nat → Int → List SV → Prop
  | 0, _, _ => False
  | 1, k, l => n = k ∧ K (l.take z)
  | m + 2, k, l => (n = k → K (l.take z)) ∧ (n ≠ k → litForks z n K (m + 1) (k + 1) (l.drop z))

def litGet (z : Nat) (l : List SV) : SI → (List SV → Prop) → Prop
  | .lit n, K => bif plain l && Nat.ble (n.toNat * z + z) l.length then K ((l.drop (n.toNat * z)).take z) else False
  | .sym n, K => bif plain l && Nat.ble 1 z then
      (bif sameRows z (l.take z) (l.length / z) l then n < (l.length / z : Nat) ∧ K (l.take z) else litForks z n K (l.length / z) 0 l) else False

def SI.isZero : SI → Bool
  | .lit n => decide (n = 0)
  | _ => false
theorem SI.isZero_spec {x : SI} (h : x.isZero = true) : x.v = 0 := by
  cases x <;> simp_all [SI.isZero, SI.v]

def elemGet : SV → SI → (List SV → Prop) → Prop
  | .arr _ _ f, i, K => K (f i.v)
  | .aset a i' c, i, K => forkS (eqS i i') (K c) (elemGet a i K)
  | .alit z l, i, K => litGet z l i K
  | .asub a lo _, i, K => bif lo.isZero then elemGet a i K else gS (leS (.lit 0) (lo.add i)) (elemGet a (lo.add i) K)
  | .acat a b, i, K => forkS (ltS i a.cnt) (elemGet a i K) (elemGet b (i.sub a.cnt) K)
  | _, _, _ => False

theorem sameL_spec : ∀ {a b : List SV}, sameL a b = true → plain a = true → plain b = true → flat a = flat b
  | [], [], _, _, _ => rfl
  | a :: as, b :: bs, h, ha, hb => by
    simp only [sameL] at h
    cases hs : a.sameS b with
    | false => rw [hs] at h; simp at h
    | true =>
      rw [hs] at h
      simp only [plain] at ha hb
      cases ha' : a.isArr with
      | true => rw [ha'] at ha; simp at ha
      | false =>
        cases hb' : b.isArr with
        | true => rw [hb'] at hb; simp at hb
        | false =>
          rw [ha'] at ha; rw [hb'] at hb
          rw [flat_one ha', flat_one hb', sameL_spec h ha hb, SV.sameS_spec hs]
  | [], _ :: _, h, _, _ => by simp [sameL] at h
  | _ :: _, [], h, _, _ => by simp [sameL] at h
theorem plain_take : ∀ {l : List SV} {n : Nat}, plain l = true → plain (l.take n) = true
  | [], _, _ => by simp [plain]
  | v :: vs, 0, _ => rfl
  | v :: vs, n + 1, h => by
    simp only [plain] at h ⊢
    cases hv : v.isArr with
    | true => rw [hv] at h; simp at h
    | false => rw [hv] at h; simp only [List.take_succ_cons, plain, hv, cond_false]; exact plain_take h
theorem plain_drop : ∀ {l : List SV} {n : Nat}, plain l = true → plain (l.drop n) = true
  | [], _, _ => by simp [plain]
  | v :: vs, 0, h => h
  | v :: vs, n + 1, h => by
    simp only [plain] at h
    cases hv : v.isArr with
    | true => rw [hv] at h; simp at h
    | false => rw [hv] at h; simp only [List.drop_succ_cons]; exact plain_drop h
theorem flat_take {l : List SV} (h : plain l = true) (n : Nat) : flat (l.take n) = (flat l).take n := by
  rw [plain_flat h, plain_flat (plain_take h), List.map_take]
theorem flat_drop {l : List SV} (h : plain l = true) (n : Nat) : flat (l.drop n) = (flat l).drop n := by
  rw [plain_flat h, plain_flat (plain_drop h), List.map_drop]
theorem flat_length {l : List SV} (h : plain l = true) : (flat l).length = l.length := by rw [plain_flat h, List.length_map]

theorem sameRows_spec {z : Nat} {c : List SV} (hc : plain c = true) : ∀ {n : Nat} {l : List SV}, sameRows z c n l = true → plain l = true → ∀ j, j < n → ((flat l).drop (j * z)).take z = flat c
  | n + 1, l, h, hl, j, hj => by
    simp only [sameRows] at h
    cases hs : sameL (l.take z) c with
    | false => rw [hs] at h; simp at h
    | true =>
      rw [hs] at h
      cases j with
      | zero => simp only [Nat.zero_mul, List.drop_zero]; rw [← flat_take hl]; exact sameL_spec hs (plain_take hl) hc
      | succ j =>
        have := sameRows_spec hc h (plain_drop hl) j (by omega)
        rw [flat_drop hl, List.drop_drop] at this
        rw [Nat.add_mul, Nat.one_mul, Nat.add_comm]; exact this
theorem litForks_spec {z : Nat} {n : Int} {K : List SV → Prop} : ∀ {m : Nat} {k : Int} {l : List SV}, litForks z n K m k l → plain l = true → k ≤ n → ∃ c, K c ∧ flat c = ((flat l).drop ((n - k).toNat * z)).take z
  | 1, k, l, h, hl, hk => by
    obtain ⟨rfl, h⟩ := h
    exact ⟨_, h, by rw [flat_take hl]; simp⟩
  | m + 2, k, l, h, hl, hk => by
    by_cases he : n = k
    · subst he; exact ⟨_, h.1 rfl, by rw [flat_take hl]; simp⟩
    · obtain ⟨c, h1, h2⟩ := litForks_spec (h.2 he) (plain_drop hl) (by omega)
      refine ⟨c, h1, ?_⟩
      rw [h2, flat_drop hl, List.drop_drop]
      have : (n - k).toNat = (n - (k + 1)).toNat + 1 := by omega
      rw [this, Nat.add_mul, Nat.one_mul, Nat.add_comm]
theorem litGet_spec {z : Nat} {l : List SV} {i : SI} {K : List SV → Prop} (h : litGet z l i K) (h0 : 0 ≤ i.v) : ∃ c, K c ∧ flat c = elem (.alit z l) i.v.toNat := by
  simp only [elem]
  cases i with
  | lit n =>
    simp only [litGet] at h
    cases hp : plain l && Nat.ble (n.toNat * z + z) l.length with
    | false => rw [hp] at h; exact h.elim
    | true =>
      rw [hp] at h
      simp only [Bool.and_eq_true] at hp
      exact ⟨_, h, by rw [flat_take (plain_drop hp.1), flat_drop hp.1]; rfl⟩
  | sym n =>
    simp only [litGet] at h
    cases hp : plain l && Nat.ble 1 z with
    | false => rw [hp] at h; exact h.elim
    | true =>
      rw [hp] at h
      simp only [Bool.and_eq_true] at hp
      simp only [cond_true] at h
      simp only [SI.v] at h0 ⊢
      cases hs : sameRows z (l.take z) (l.length / z) l with
      | true =>
        rw [hs] at h
        obtain ⟨h1, h2⟩ := h
        exact ⟨_, h2, (sameRows_spec (plain_take hp.1) hs hp.1 _ (by omega)).symm⟩
      | false =>
        rw [hs] at h
        obtain ⟨c, h1, h2⟩ := litForks_spec h hp.1 h0
        exact ⟨c, h1, by rw [h2]; simp⟩

theorem elemGet_spec : ∀ {a : SV} {i : SI} {K : List SV → Prop}, elemGet a i K → 0 ≤ i.v → ∃ c, K c ∧ flat c = elem a i.v.toNat
  | .arr n z f, i, K, h, h0 => ⟨_, h, by simp only [elem]; rw [Int.toNat_of_nonneg h0]⟩
  | .aset a i' c, i, K, h, h0 => by
    simp only [elemGet] at h
    simp only [elem, Int.toNat_of_nonneg h0]
    rcases forkS_spec h with ⟨h1, h2⟩ | ⟨h1, h2⟩
    · rw [if_pos ((eqS_v _ _).1 h1)]; exact ⟨c, h2, rfl⟩
    · rw [if_neg (fun e => by rw [(eqS_v _ _).2 e] at h1; cases h1)]; exact elemGet_spec h2 h0
  | .alit z l, i, K, h, h0 => litGet_spec (by simpa [elemGet] using h) h0
  | .asub a lo n, i, K, h, h0 => by
    simp only [elemGet] at h
    simp only [elem, Int.toNat_of_nonneg h0]
    cases hz : lo.isZero with
    | true =>
      rw [hz] at h
      rw [SI.isZero_spec hz, Int.zero_add]
      exact elemGet_spec h h0
    | false =>
      rw [hz] at h
      obtain ⟨h1, h2⟩ := gS_spec h
      have h3 := (leS_v _ _).1 h1
      have := elemGet_spec h2 h3
      rwa [SI.add_v] at this
  | .acat a b, i, K, h, h0 => by
    simp only [elemGet] at h
    simp only [elem, Int.toNat_of_nonneg h0]
    rcases forkS_spec h with ⟨h1, h2⟩ | ⟨h1, h2⟩
    · rw [if_pos ((ltS_v _ _).1 h1)]; exact elemGet_spec h2 h0
    · have hn : ¬ i.v < a.cnt.v := fun e => by rw [(ltS_v _ _).2 e] at h1; cases h1
      rw [if_neg hn]
      have := elemGet_spec h2 (by rw [SI.sub_v]; omega)
      rwa [SI.sub_v] at this
  | .any, _, _, h, _ | .bool _, _, _, h, _ | .int _ _, _, _, h, _ | .str _, _, _, h, _ | .nilp, _, _, h, _ | .ptr _ _, _, _, h, _ | .eptr _ _ _ _ _ _, _, _, h, _ | .nils, _, _, h, _ | .sl _ _ _ _ _, _, _, h, _
  | .nilm, _, _, h, _ | .map _, _, _, h, _ | .nilf, _, _, h, _ | .func _ _ _, _, _, h, _ | .yld _, _, _, h, _ | .nili, _, _, h, _ | .iface _ _, _, _, h, _ | .agg _, _, _, h, _ | .tup _, _, _, h, _ => by simp [elemGet] at h

end Go.SL

/- Helper text: reading and writing told cells, by place. -/
namespace Go.SL
open Go.AL

theorem flat_append (a b : List SV) : flat (a ++ b) = flat a ++ flat b := by
  induction a with
  | nil => rfl
  | cons v vs ih => rw [List.cons_append, flat_cons, flat_cons, ih, List.append_assoc]

theorem setMany_length {α : Type} : ∀ (vs cs : List α) (o : Nat), (setMany cs o vs).length = cs.length
  | [], cs, o => rfl
  | v :: vs, cs, o => by simp [setMany, setMany_length vs]
theorem setMany_get {α : Type} : ∀ (vs cs : List α) (o x : Nat), o + vs.length ≤ cs.length → (setMany cs o vs)[x]? = if o ≤ x ∧ x < o + vs.length then vs[x - o]? else cs[x]?
  | [], cs, o, x, _ => by simp [setMany]; omega
  | v :: vs, cs, o, x, h => by
    simp only [setMany]
    rw [setMany_get vs _ (o + 1) x (by simp at h ⊢; omega)]
    simp only [List.length_cons] at h ⊢
    by_cases h1 : o + 1 ≤ x ∧ x < o + 1 + vs.length
    · rw [if_pos h1, if_pos (by omega)]
      have : x - o = (x - (o + 1)) + 1 := by omega
      rw [this, List.getElem?_cons_succ]
    · rw [if_neg h1]
      by_cases h2 : x = o
      · subst h2
        rw [if_pos (by omega)]
        simp [List.getElem?_set]; omega
      · rw [if_neg (by omega), List.getElem?_set_ne (by omega)]

/-- Of a list of plain cells some. -/
def onesN (c : List SV) (o n : Nat) : Option (List SV) := bif plain c && Nat.ble (o + n) c.length then some ((c.drop o).take n) else none
theorem onesN_spec {c r : List SV} {o n : Nat} (h : onesN c o n = some r) : flat r = ((flat c).drop o).take n ∧ o + n ≤ (flat c).length := by
  unfold onesN at h
  cases hp : plain c && Nat.ble (o + n) c.length with
  | false => rw [hp] at h; cases h
  | true =>
    rw [hp] at h
    simp only [cond_true, Option.some.injEq] at h
    simp only [Bool.and_eq_true] at hp
    subst h
    exact ⟨by rw [flat_take (plain_drop hp.1), flat_drop hp.1], by rw [flat_length hp.1]; exact Nat.le_of_ble_eq_true hp.2⟩
/-- Some are set. -/
def setOnes (z : Nat) (c : List SV) (o n : Nat) (vals : List SV) : Option (List SV) :=
  bif plain c && (plain vals && (Nat.beq c.length z && (Nat.beq vals.length n && Nat.ble (o + n) z))) then some (c.take o ++ (vals ++ c.drop (o + n))) else none
theorem setOnes_spec {z : Nat} {c r vals : List SV} {o n : Nat} (h : setOnes z c o n vals = some r) : (flat c).length = z ∧ (flat vals).length = n ∧ o + n ≤ z ∧ flat r = setMany (flat c) o (flat vals) := by
  unfold setOnes at h
  cases hp : plain c && (plain vals && (Nat.beq c.length z && (Nat.beq vals.length n && Nat.ble (o + n) z))) with
  | false => rw [hp] at h; cases h
  | true =>
    rw [hp] at h
    simp only [cond_true, Option.some.injEq] at h
    simp only [Bool.and_eq_true] at hp
    obtain ⟨h1, h2, h3, h4, h5⟩ := hp
    have h3 := Nat.eq_of_beq_eq_true h3
    have h4 := Nat.eq_of_beq_eq_true h4
    have h5 := Nat.le_of_ble_eq_true h5
    have e1 : (flat c).length = z := by rw [flat_length h1, h3]
    have e2 : (flat vals).length = n := by rw [flat_length h2, h4]
    refine ⟨e1, e2, h5, ?_⟩
    subst h
    rw [flat_append, flat_append, flat_take h1, flat_drop h1]
    apply List.ext_getElem?
    intro x
    rw [setMany_get _ _ _ _ (by omega)]
    by_cases hx : x < o
    · rw [List.getElem?_append_left (by simp; omega), if_neg (by omega), List.getElem?_take, if_pos hx]
    · rw [List.getElem?_append_right (by simp; omega)]
      have ht : ((flat c).take o).length = o := by simp; omega
      rw [ht]
      by_cases hx2 : x < o + n
      · rw [List.getElem?_append_left (by omega), if_pos (by omega)]
      · rw [List.getElem?_append_right (by omega), if_neg (by omega), List.getElem?_drop, e2]
        congr 1; omega

/-- A told value at a place of a row. -/
theorem row_cell {a : SV} {j o : Nat} {c : List SV} {v : AVal} (hc : flat c = elem a j) (hv : (flat c)[o]? = some v) (ho : o < a.esz) (hj : j < a.cnt.v.toNat) : (rows a)[j * a.esz + o]? = some v := by
  rw [rows_get ho hj, fix_get ho, ← hc, hv]
  rw [← hc]; exact (List.getElem?_eq_some_iff.1 hv).1
theorem drop_take_get {α : Type} {l : List α} {o n x : Nat} : ((l.drop o).take n)[x]? = if x < n then l[o + x]? else none := by
  rw [List.getElem?_take, List.getElem?_drop]
theorem row_cells {a : SV} {j o n : Nat} {c r : List SV} (hc : flat c = elem a j) (hr : flat r = ((flat c).drop o).take n) (hl : o + n ≤ (flat c).length) (ho : o + n ≤ a.esz) (hj : j < a.cnt.v.toNat) :
    flat r = ((rows a).drop (j * a.esz + o)).take n ∧ j * a.esz + o + n ≤ (rows a).length := by
  have h1 : (j + 1) * a.esz ≤ a.cnt.v.toNat * a.esz := Nat.mul_le_mul_right _ hj
  rw [Nat.add_mul] at h1
  refine ⟨?_, by rw [rows_length]; omega⟩
  rw [hr]
  apply List.ext_getElem?
  intro x
  rw [drop_take_get, drop_take_get]
  by_cases hx : x < n
  · rw [if_pos hx, if_pos hx, Nat.add_assoc, rows_get (by omega) hj, fix_get (by omega) (by rw [← hc]; omega), hc]
  · rw [if_neg hx, if_neg hx]
theorem rows_aset {a : SV} {i : SI} {c c' vals : List SV} {o n : Nat} (h0 : 0 ≤ i.v) (hj : i.v < a.cnt.v) (hc : flat c = elem a i.v.toNat) (hs : setOnes a.esz c o n vals = some c') :
    rows (.aset a i c') = setMany (rows a) (i.v.toNat * a.esz + o) (flat vals) ∧ (flat vals).length = n ∧ i.v.toNat * a.esz + o + n ≤ (rows a).length := by
  obtain ⟨h1, h2, h3, h4⟩ := setOnes_spec hs
  have hj' : i.v.toNat < a.cnt.v.toNat := by omega
  have g1 : (i.v.toNat + 1) * a.esz ≤ a.cnt.v.toNat * a.esz := Nat.mul_le_mul_right _ hj'
  rw [Nat.add_mul] at g1
  have hle : i.v.toNat * a.esz + o + n ≤ (rows a).length := by rw [rows_length]; omega
  refine ⟨?_, h2, hle⟩
  apply List.ext_getElem?
  intro x
  have hl : (rows (.aset a i c')).length = (rows a).length := by simp [rows_length, SV.cnt, SV.esz]
  rw [setMany_get _ _ _ _ (by omega)]
  by_cases hx : x < (rows a).length
  · have hz : 0 < a.esz := by
      rcases Nat.eq_zero_or_pos a.esz with h | h
      · rw [rows_length, h] at hx; omega
      · exact h
    have hq : x / a.esz < a.cnt.v.toNat := by rw [rows_length, Nat.mul_comm] at hx; exact Nat.div_lt_of_lt_mul hx
    have hr : x % a.esz < a.esz := Nat.mod_lt _ hz
    have hxe : x = x / a.esz * a.esz + x % a.esz := by rw [Nat.mul_comm]; exact (Nat.div_add_mod _ _).symm
    have e1 : (rows (.aset a i c'))[x]? = (fix a.esz (elem (.aset a i c') (x / a.esz)))[x % a.esz]? := by
      conv => lhs; rw [hxe]
      exact rows_get (v := .aset a i c') hr hq
    have e2 : (rows a)[x]? = (fix a.esz (elem a (x / a.esz)))[x % a.esz]? := by
      conv => lhs; rw [hxe]
      exact rows_get (v := a) hr hq
    rw [e1, e2]
    simp only [elem]
    by_cases he : x / a.esz = i.v.toNat
    · rw [if_pos (by omega), fix_eq (by rw [h4, setMany_length, h1]), h4, setMany_get _ _ _ _ (by omega)]
      rw [he] at hxe ⊢
      rw [fix_eq (by rw [← hc]; exact h1), ← hc]
      by_cases hin : o ≤ x % a.esz ∧ x % a.esz < o + (flat vals).length
      · rw [if_pos hin, if_pos (by omega)]; congr 1; omega
      · rw [if_neg hin, if_neg (by omega)]
    · rw [if_neg (by omega)]
      have hno : ¬ (i.v.toNat * a.esz + o ≤ x ∧ x < i.v.toNat * a.esz + o + (flat vals).length) := by
        rintro ⟨k1, k2⟩
        apply he
        have k3 : x < (i.v.toNat + 1) * a.esz := by rw [Nat.add_mul]; omega
        have k4 : i.v.toNat ≤ x / a.esz := (Nat.le_div_iff_mul_le hz).2 (by omega)
        have k5 : x / a.esz < i.v.toNat + 1 := (Nat.div_lt_iff_lt_mul hz).2 k3
        omega
      rw [if_neg hno]
  · rw [List.getElem?_eq_none (by omega), if_neg (by omega), List.getElem?_eq_none (by omega)]

/-- A place that is told. -/
def SV.asetN (a : SV) (i : SI) (c : List SV) : SV :=
  match a, i with
  | .aset a' (.lit x) c', .lit y => bif decide (x = y) then .aset a' (.lit y) c else .aset (.aset a' (.lit x) c') (.lit y) c
  | a, i => .aset a i c
theorem rows_asetN (a : SV) (i : SI) (c : List SV) : rows (a.asetN i c) = rows (.aset a i c) ∧ (a.asetN i c).isArr = true := by
  unfold SV.asetN
  split
  · rename_i a' x c' y
    cases hd : decide (x = y) with
    | false => exact ⟨rfl, rfl⟩
    | true =>
      have := of_decide_eq_true hd
      subst this
      refine ⟨?_, rfl⟩
      simp only [cond_true, rows, SV.cnt, SV.esz, elem]
      congr 1
      funext j
      by_cases h : (j : Int) = SI.v (.lit x)
      · simp only [h, if_true]
      · simp only [h, if_false]
  · exact ⟨rfl, rfl⟩

/-- The array that begins at a place. -/
def segAt : List SV → Nat → Option Nat → Nat → Option (List SV × SV × List SV)
  | [], _, _, _ => none
  | v :: vs, base, num, z =>
    match base with
    | 0 => bif v.isArr && Nat.beq v.esz z then some ([], v, vs) else
        (match num with
         | some k => bif plain ((v :: vs).take (k * z)) && (Nat.ble (k * z) (vs.length + 1) && Nat.ble 1 z) then some ([], .alit z ((v :: vs).take (k * z)), (v :: vs).drop (k * z)) else none
         | none => bif plain (v :: vs) && (Nat.beq ((vs.length + 1) % z) 0 && Nat.ble 1 z) then some ([], .alit z (v :: vs), []) else none)
    | b + 1 => bif v.isArr then
        (match v.cnt with
         | .lit n => bif Nat.ble (n.toNat * v.esz) (b + 1) then (segAt vs (b + 1 - n.toNat * v.esz) num z).map fun p => (v :: p.1, p.2) else none
         | .sym _ => none)
        else (segAt vs b num z).map fun p => (v :: p.1, p.2)

theorem rows_alit {z : Nat} {l : List SV} (hp : plain l = true) (hz : 0 < z) (hd : l.length % z = 0) : rows (.alit z l) = flat l := by
  have hl : l.length / z * z = l.length := Nat.div_mul_cancel (Nat.dvd_of_mod_eq_zero hd)
  apply List.ext_getElem?
  intro x
  have hrl : (rows (.alit z l)).length = l.length := by rw [rows_length]; show (((l.length / z : Nat) : Int)).toNat * z = l.length; rw [Int.toNat_natCast, hl]
  by_cases hx : x < l.length
  · have hq : x / z < l.length / z := by
      rw [Nat.div_lt_iff_lt_mul hz, hl]; exact hx
    have hr : x % z < z := Nat.mod_lt _ hz
    have hxe : x = x / z * z + x % z := by rw [Nat.mul_comm]; exact (Nat.div_add_mod _ _).symm
    have e1 : (rows (.alit z l))[x]? = (fix z (elem (.alit z l) (x / z)))[x % z]? := by
      conv => lhs; rw [hxe]
      exact rows_get (v := .alit z l) hr (by show x / z < (((l.length / z : Nat) : Int)).toNat; rw [Int.toNat_natCast]; exact hq)
    rw [e1]
    simp only [elem]
    have g1 : (x / z + 1) * z ≤ l.length / z * z := Nat.mul_le_mul_right _ hq
    rw [Nat.add_mul, hl] at g1
    rw [fix_eq (by simp [flat_length hp]; omega), drop_take_get, if_pos hr, ← hxe]
  · rw [List.getElem?_eq_none (by omega), List.getElem?_eq_none (by rw [flat_length hp]; omega)]

theorem segAt_spec : ∀ {cs : List SV} {base : Nat} {num : Option Nat} {z : Nat} {pre post : List SV} {a : SV}, segAt cs base num z = some (pre, a, post) →
    flat cs = flat pre ++ (rows a ++ flat post) ∧ (flat pre).length = base ∧ a.esz = z ∧ a.isArr = true
  | [], _, _, _, _, _, _, h => by simp [segAt] at h
  | v :: vs, base, num, z, pre, post, a, h => by
    simp only [segAt] at h
    cases base with
    | zero =>
      simp only at h
      cases h1 : v.isArr && Nat.beq v.esz z with
      | true =>
        rw [h1] at h
        simp only [cond_true, Option.some.injEq, Prod.mk.injEq] at h
        obtain ⟨rfl, rfl, rfl⟩ := h
        simp only [Bool.and_eq_true] at h1
        exact ⟨by rw [flat_arr h1.1]; rfl, rfl, Nat.eq_of_beq_eq_true h1.2, h1.1⟩
      | false =>
        rw [h1] at h
        simp only [cond_false] at h
        cases num with
        | some k =>
          simp only at h
          cases h2 : plain ((v :: vs).take (k * z)) && (Nat.ble (k * z) (vs.length + 1) && Nat.ble 1 z) with
          | false => rw [h2] at h; cases h
          | true =>
            rw [h2] at h
            simp only [cond_true, Option.some.injEq, Prod.mk.injEq] at h
            obtain ⟨rfl, rfl, rfl⟩ := h
            simp only [Bool.and_eq_true] at h2
            have k2 := Nat.le_of_ble_eq_true h2.2.1
            have k3 := Nat.le_of_ble_eq_true h2.2.2
            refine ⟨?_, rfl, rfl, rfl⟩
            rw [rows_alit h2.1 k3 (by simp [List.length_take, Nat.min_eq_left k2])]
            show flat (v :: vs) = [] ++ _
            rw [List.nil_append, ← flat_append, List.take_append_drop]
        | none =>
          simp only at h
          cases h2 : plain (v :: vs) && (Nat.beq ((vs.length + 1) % z) 0 && Nat.ble 1 z) with
          | false => rw [h2] at h; cases h
          | true =>
            rw [h2] at h
            simp only [cond_true, Option.some.injEq, Prod.mk.injEq] at h
            obtain ⟨rfl, rfl, rfl⟩ := h
            simp only [Bool.and_eq_true] at h2
            refine ⟨?_, rfl, rfl, rfl⟩
            rw [rows_alit h2.1 (Nat.le_of_ble_eq_true h2.2.2) (Nat.eq_of_beq_eq_true h2.2.1)]
            simp [flat]
    | succ b =>
      simp only at h
      cases hv : v.isArr with
      | true =>
        rw [hv] at h
        simp only [cond_true] at h
        split at h
        · rename_i n hn
          cases h2 : Nat.ble (n.toNat * v.esz) (b + 1) with
          | false => rw [h2] at h; cases h
          | true =>
            rw [h2] at h
            simp only [cond_true, Option.map_eq_some_iff] at h
            obtain ⟨p, hp, h⟩ := h
            simp only [Prod.mk.injEq] at h
            obtain ⟨rfl, h⟩ := h
            obtain ⟨g1, g2, g3⟩ := segAt_spec (pre := p.1) (a := a) (post := post) (by rw [hp, ← h])
            have h2 := Nat.le_of_ble_eq_true h2
            refine ⟨by rw [flat_arr hv, flat_arr hv, g1, List.append_assoc], ?_, g3⟩
            rw [flat_arr hv, List.length_append, rows_length, g2, hn]
            simp only [SI.v]; omega
        · cases h
      | false =>
        rw [hv] at h
        simp only [cond_false, Option.map_eq_some_iff] at h
        obtain ⟨p, hp, h⟩ := h
        simp only [Prod.mk.injEq] at h
        obtain ⟨rfl, h⟩ := h
        obtain ⟨g1, g2, g3⟩ := segAt_spec (pre := p.1) (a := a) (post := post) (by rw [hp, ← h])
        refine ⟨by rw [flat_one hv, flat_one hv, g1]; rfl, ?_, g3⟩
        rw [flat_one hv, List.length_cons, g2]

/-- One cell of an element. -/
def getE (cs : List SV) (base : Nat) (num : Option Nat) (i : SI) (z o : Nat) (K : SV → Prop) : Prop :=
  match segAt cs base num z with
  | some (_, a, _) => gS (leS (.lit 0) i) (gS (ltS i a.cnt) (elemGet a i fun c => match oneAt c o with | some v => bif Nat.blt o z then K v else False | none => False))
  | none => False
theorem getE_spec {cs : List SV} {base : Nat} {num : Option Nat} {i : SI} {z o : Nat} {K : SV → Prop} (h : getE cs base num i z o K) : ∃ v, K v ∧ (flat cs)[base + i.v.toNat * z + o]? = some (γ v) := by
  unfold getE at h
  split at h
  · rename_i pre a post hs
    obtain ⟨g1, g2, g3, _⟩ := segAt_spec hs
    obtain ⟨h0, h⟩ := gS_spec h
    obtain ⟨h1, h⟩ := gS_spec h
    have h0 : 0 ≤ i.v := (leS_v _ _).1 h0
    have h1 := (ltS_v _ _).1 h1
    obtain ⟨c, h2, h3⟩ := elemGet_spec h h0
    split at h2
    · rename_i v hv
      cases ho : Nat.blt o z with
      | false => rw [ho] at h2; exact h2.elim
      | true =>
        rw [ho] at h2
        have ho : o < z := Nat.le_of_ble_eq_true ho
        have hz : z = a.esz := g3.symm
        subst hz
        refine ⟨v, h2, ?_⟩
        have h4 := row_cell h3 (oneAt_spec hv) ho (by omega)
        rw [g1, List.getElem?_append_right (by omega), g2]
        have : base + i.v.toNat * a.esz + o - base = i.v.toNat * a.esz + o := by omega
        rw [this, List.getElem?_append_left (List.getElem?_eq_some_iff.1 h4).1, h4]
    · exact h2.elim
  · exact h.elim
/-- Some cells of an element. -/
def getEN (cs : List SV) (base : Nat) (num : Option Nat) (i : SI) (z o n : Nat) (K : List SV → Prop) : Prop :=
  match segAt cs base num z with
  | some (_, a, _) => gS (leS (.lit 0) i) (gS (ltS i a.cnt) (elemGet a i fun c => match onesN c o n with | some r => bif Nat.ble (o + n) z then K r else False | none => False))
  | none => False
theorem getEN_spec {cs : List SV} {base : Nat} {num : Option Nat} {i : SI} {z o n : Nat} {K : List SV → Prop} (h : getEN cs base num i z o n K) :
    ∃ r, K r ∧ flat r = ((flat cs).drop (base + i.v.toNat * z + o)).take n ∧ base + i.v.toNat * z + o + n ≤ (flat cs).length := by
  unfold getEN at h
  split at h
  · rename_i pre a post hs
    obtain ⟨g1, g2, g3, _⟩ := segAt_spec hs
    obtain ⟨h0, h⟩ := gS_spec h
    obtain ⟨h1, h⟩ := gS_spec h
    have h0 : 0 ≤ i.v := (leS_v _ _).1 h0
    have h1 := (ltS_v _ _).1 h1
    obtain ⟨c, h2, h3⟩ := elemGet_spec h h0
    split at h2
    · rename_i r hr
      cases ho : Nat.ble (o + n) z with
      | false => rw [ho] at h2; exact h2.elim
      | true =>
        rw [ho] at h2
        have ho := Nat.le_of_ble_eq_true ho
        have hz : z = a.esz := g3.symm
        subst hz
        obtain ⟨k1, k2⟩ := onesN_spec hr
        obtain ⟨q1, q2⟩ := row_cells h3 k1 k2 ho (by omega)
        refine ⟨r, h2, ?_, by rw [g1]; simp; omega⟩
        rw [q1, g1]
        apply List.ext_getElem?
        intro x
        rw [drop_take_get, drop_take_get]
        by_cases hx : x < n
        · rw [if_pos hx, if_pos hx, List.getElem?_append_right (by omega), g2, List.getElem?_append_left (by omega)]
          congr 1; omega
        · rw [if_neg hx, if_neg hx]
    · exact h2.elim
  · exact h.elim
/-- Cells of an element are set. -/
def putE (cs : List SV) (base : Nat) (num : Option Nat) (i : SI) (z o n : Nat) (vals : List SV) (K : List SV → Prop) : Prop :=
  match segAt cs base num z with
  | some (pre, a, post) => gS (leS (.lit 0) i) (gS (ltS i a.cnt) (elemGet a i fun c => match setOnes z c o n vals with | some c' => K (pre ++ (a.asetN i c' :: post)) | none => False))
  | none => False
theorem setMany_mid {α : Type} {pre l post vs : List α} {o : Nat} (h : o + vs.length ≤ l.length) : setMany (pre ++ (l ++ post)) (pre.length + o) vs = pre ++ (setMany l o vs ++ post) := by
  apply List.ext_getElem?
  intro x
  have hl := SL.setMany_length vs l o
  rw [setMany_get _ _ _ _ (by simp; omega)]
  by_cases h1 : x < pre.length
  · rw [if_neg (by omega), List.getElem?_append_left h1, List.getElem?_append_left h1]
  · have e1 : (pre ++ (l ++ post))[x]? = (l ++ post)[x - pre.length]? := List.getElem?_append_right (by omega)
    have e2 : (pre ++ (setMany l o vs ++ post))[x]? = (setMany l o vs ++ post)[x - pre.length]? := List.getElem?_append_right (by omega)
    rw [e1, e2]
    by_cases h2 : x - pre.length < l.length
    · have e3 : (l ++ post)[x - pre.length]? = l[x - pre.length]? := List.getElem?_append_left h2
      have e4 : (setMany l o vs ++ post)[x - pre.length]? = (setMany l o vs)[x - pre.length]? := List.getElem?_append_left (by rw [hl]; exact h2)
      rw [e3, e4, setMany_get _ _ _ _ h]
      by_cases h3 : o ≤ x - pre.length ∧ x - pre.length < o + vs.length
      · rw [if_pos h3, if_pos (by omega)]; congr 1; omega
      · rw [if_neg h3, if_neg (by omega)]
    · have e3 : (l ++ post)[x - pre.length]? = post[x - pre.length - l.length]? := List.getElem?_append_right (by omega)
      have e4 : (setMany l o vs ++ post)[x - pre.length]? = post[x - pre.length - (setMany l o vs).length]? := List.getElem?_append_right (by rw [hl]; omega)
      rw [e3, e4, hl, if_neg (by omega)]
theorem putE_spec {cs : List SV} {base : Nat} {num : Option Nat} {i : SI} {z o n : Nat} {vals : List SV} {K : List SV → Prop} (h : putE cs base num i z o n vals K) :
    ∃ r, K r ∧ flat r = setMany (flat cs) (base + i.v.toNat * z + o) (flat vals) ∧ (flat vals).length = n ∧ base + i.v.toNat * z + o + n ≤ (flat cs).length := by
  unfold putE at h
  split at h
  · rename_i pre a post hs
    obtain ⟨g1, g2, g3, _⟩ := segAt_spec hs
    obtain ⟨h0, h⟩ := gS_spec h
    obtain ⟨h1, h⟩ := gS_spec h
    have h0 : 0 ≤ i.v := (leS_v _ _).1 h0
    have h1 := (ltS_v _ _).1 h1
    obtain ⟨c, h2, h3⟩ := elemGet_spec h h0
    split at h2
    · rename_i c' hc
      have hz : z = a.esz := g3.symm
      subst hz
      obtain ⟨k1, k2, k3⟩ := rows_aset h0 h1 h3 hc
      refine ⟨_, h2, ?_, k2, by rw [g1]; simp; omega⟩
      obtain ⟨q1, q2⟩ := rows_asetN a i c'
      rw [flat_append, flat_arr q2, q1, k1, g1, Nat.add_assoc, ← g2, setMany_mid (by omega)]
    · exact h2.elim
  · exact h.elim

/-! ### Places that are known -/
def SV.sz (v : SV) : Option Nat := bif v.isArr then (match v.cnt with | .lit n => some (n.toNat * v.esz) | .sym _ => none) else some 1
theorem SV.sz_spec {v : SV} {k : Nat} {vs : List SV} (h : v.sz = some k) : ∃ l, flat (v :: vs) = l ++ flat vs ∧ l.length = k := by
  unfold SV.sz at h
  cases hv : v.isArr with
  | true =>
    rw [hv] at h
    simp only [cond_true] at h
    split at h
    · rename_i n hn
      injection h with h
      exact ⟨_, flat_arr hv, by rw [rows_length, hn]; exact h⟩
    · cases h
  | false => rw [hv] at h; simp at h; subst h; exact ⟨[cellV (γ v)], flat_one hv, rfl⟩

/-- Cut off so many cells. -/
def cutN : List SV → Nat → Option (List SV × List SV)
  | vs, 0 => some ([], vs)
  | [], _ + 1 => none
  | v :: vs, n + 1 => match v.sz with
    | some k => bif Nat.ble k (n + 1) then (cutN vs (n + 1 - k)).map fun p => (v :: p.1, p.2) else none
    | none => none
theorem cutN_spec : ∀ {cs : List SV} {n : Nat} {a b : List SV}, cutN cs n = some (a, b) → flat cs = flat a ++ flat b ∧ (flat a).length = n
  | cs, 0, a, b, h => by
    cases cs <;> (simp only [cutN, Option.some.injEq, Prod.mk.injEq] at h; obtain ⟨rfl, rfl⟩ := h; exact ⟨rfl, rfl⟩)
  | [], n + 1, a, b, h => by simp [cutN] at h
  | v :: vs, n + 1, a, b, h => by
    simp only [cutN] at h
    split at h
    · rename_i k hk
      cases h2 : Nat.ble k (n + 1) with
      | false => rw [h2] at h; cases h
      | true =>
        rw [h2] at h
        simp only [cond_true, Option.map_eq_some_iff] at h
        obtain ⟨p, hp, h⟩ := h
        simp only [Prod.mk.injEq] at h
        obtain ⟨rfl, rfl⟩ := h
        obtain ⟨g1, g2⟩ := cutN_spec (a := p.1) (b := p.2) hp
        obtain ⟨l, e1, e2⟩ := SV.sz_spec (vs := vs) hk
        obtain ⟨l', e1', e2'⟩ := SV.sz_spec (vs := p.1) hk
        have hll : l = l' := by
          have q1 := e1; have q2 := e1'
          rw [flat_cons] at q1 q2
          exact (List.append_cancel_right q1).symm.trans (List.append_cancel_right q2)
        have h2 := Nat.le_of_ble_eq_true h2
        refine ⟨by rw [e1, e1', g1, hll, List.append_assoc], by rw [e1', List.length_append, g2, e2']; omega⟩
    · cases h

/-- Where a known place lies: behind some cells; in an element of an array, or at a cell's beginning. -/
def findAt : List SV → Nat → Option (List SV × List SV × Nat)
  | cs, 0 => some ([], cs, 0)
  | [], _ + 1 => none
  | v :: vs, n + 1 => match v.sz with
    | some k => bif Nat.ble k (n + 1) then (findAt vs (n + 1 - k)).map fun p => (v :: p.1, p.2) else some ([], v :: vs, n + 1)
    | none => some ([], v :: vs, n + 1)
theorem findAt_spec : ∀ {cs : List SV} {n : Nat} {a b : List SV} {r : Nat}, findAt cs n = some (a, b, r) → cs = a ++ b ∧ (flat a).length + r = n
  | cs, 0, a, b, r, h => by
    cases cs <;> (simp only [findAt, Option.some.injEq, Prod.mk.injEq] at h; obtain ⟨rfl, rfl, rfl⟩ := h; exact ⟨rfl, rfl⟩)
  | [], n + 1, a, b, r, h => by simp [findAt] at h
  | v :: vs, n + 1, a, b, r, h => by
    simp only [findAt] at h
    split at h
    · rename_i k hk
      cases h2 : Nat.ble k (n + 1) with
      | false =>
        rw [h2] at h
        simp only [cond_false, Option.some.injEq, Prod.mk.injEq] at h
        obtain ⟨rfl, rfl, rfl⟩ := h
        exact ⟨rfl, by simp [flat]⟩
      | true =>
        rw [h2] at h
        simp only [cond_true, Option.map_eq_some_iff] at h
        obtain ⟨p, hp, h⟩ := h
        simp only [Prod.mk.injEq] at h
        obtain ⟨rfl, h⟩ := h
        obtain ⟨g1, g2⟩ := findAt_spec (a := p.1) (b := b) (r := r) (by rw [hp, ← h])
        obtain ⟨l', e1', e2'⟩ := SV.sz_spec (vs := p.1) hk
        have h2 := Nat.le_of_ble_eq_true h2
        exact ⟨by rw [g1]; rfl, by rw [e1', List.length_append, e2']; omega⟩
    · simp only [Option.some.injEq, Prod.mk.injEq] at h
      obtain ⟨rfl, rfl, rfl⟩ := h
      exact ⟨rfl, by simp [flat]⟩

/-- The first array's element at a known place. -/
def elemAt (cs : List SV) (r : Nat) (K : SV → List SV → SI → Nat → Prop) : Prop :=
  match cs with
  | v :: vs => bif v.isArr && Nat.ble 1 v.esz then gS (ltS (.lit (r / v.esz : Nat)) v.cnt) (K v vs (.lit (r / v.esz : Nat)) (r % v.esz)) else False
  | [] => False
theorem elemAt_spec {cs : List SV} {r : Nat} {K : SV → List SV → SI → Nat → Prop} (h : elemAt cs r K) : ∃ v vs i o, cs = v :: vs ∧ v.isArr = true ∧ K v vs i o ∧ 0 ≤ i.v ∧ i.v < v.cnt.v ∧ o < v.esz ∧ r = i.v.toNat * v.esz + o := by
  unfold elemAt at h
  split at h
  · rename_i v vs
    cases hv : v.isArr && Nat.ble 1 v.esz with
    | false => rw [hv] at h; exact h.elim
    | true =>
      rw [hv] at h
      simp only [Bool.and_eq_true] at hv
      obtain ⟨h1, h2⟩ := gS_spec h
      have h1 := (ltS_v _ _).1 h1
      refine ⟨v, vs, _, _, rfl, hv.1, h2, Int.natCast_nonneg _, h1, Nat.mod_lt _ (Nat.le_of_ble_eq_true hv.2), ?_⟩
      simp only [SI.v, Int.toNat_natCast]
      rw [Nat.mul_comm]; exact (Nat.div_add_mod _ _).symm
  · exact h.elim

def getCell (cs : List SV) (off : Nat) (K : SV → Prop) : Prop :=
  match findAt cs off with
  | some (_, b, r) => match r, oneAt b 0 with
    | 0, some v => K v
    | r, _ => elemAt b r fun v _ i o => elemGet v i fun c => match oneAt c o with | some x => K x | none => False
  | none => False
theorem getCell_spec {cs : List SV} {off : Nat} {K : SV → Prop} (h : getCell cs off K) : ∃ v, K v ∧ (flat cs)[off]? = some (γ v) := by
  unfold getCell at h
  split at h
  · rename_i a b r hf
    obtain ⟨rfl, h1⟩ := findAt_spec hf
    split at h
    · rename_i v ho
      refine ⟨v, h, ?_⟩
      rw [flat_append, List.getElem?_append_right (by omega)]
      have : off - (flat a).length = 0 := by omega
      rw [this]; exact oneAt_spec ho
    · obtain ⟨v, vs, i, o, rfl, hv, h2, h3, h4, h5, rfl⟩ := elemAt_spec h
      obtain ⟨c, h6, h7⟩ := elemGet_spec h2 h3
      split at h6
      · rename_i x hx
        refine ⟨x, h6, ?_⟩
        have h8 := row_cell h7 (oneAt_spec hx) h5 (by omega)
        rw [flat_append, List.getElem?_append_right (by omega), flat_arr hv]
        have : off - (flat a).length = i.v.toNat * v.esz + o := by omega
        rw [this, List.getElem?_append_left (List.getElem?_eq_some_iff.1 h8).1, h8]
      · exact h6.elim
  · exact h.elim

def getN (cs : List SV) (off n : Nat) (K : List SV → Prop) : Prop :=
  match findAt cs off with
  | some (_, b, r) => match r, cutN b n with
    | 0, some (x, _) => K x
    | r, _ => elemAt b r fun v _ i o => elemGet v i fun c => match onesN c o n with | some x => bif Nat.ble (o + n) v.esz then K x else False | none => False
  | none => False
theorem getN_spec {cs : List SV} {off n : Nat} {K : List SV → Prop} (h : getN cs off n K) : ∃ r, K r ∧ flat r = ((flat cs).drop off).take n ∧ off + n ≤ (flat cs).length := by
  unfold getN at h
  split at h
  · rename_i a b r hf
    obtain ⟨rfl, h1⟩ := findAt_spec hf
    split at h
    · rename_i x y hc
      obtain ⟨h2, h3⟩ := cutN_spec hc
      refine ⟨x, h, ?_, by rw [flat_append, h2]; simp; omega⟩
      have e : off = (flat a).length := by omega
      rw [flat_append, h2, e, List.drop_append_of_le_length (Nat.le_refl _), List.drop_length, List.nil_append, ← h3, List.take_left]
    · obtain ⟨v, vs, i, o, rfl, hv, h2, h3, h4, h5, rfl⟩ := elemAt_spec h
      obtain ⟨c, h6, h7⟩ := elemGet_spec h2 h3
      split at h6
      · rename_i x hx
        cases hz : Nat.ble (o + n) v.esz with
        | false => rw [hz] at h6; exact h6.elim
        | true =>
          rw [hz] at h6
          obtain ⟨k1, k2⟩ := onesN_spec hx
          obtain ⟨q1, q2⟩ := row_cells h7 k1 k2 (Nat.le_of_ble_eq_true hz) (by omega)
          refine ⟨x, h6, ?_, by rw [flat_append, flat_arr hv]; simp; omega⟩
          rw [q1, flat_append, flat_arr hv]
          apply List.ext_getElem?
          intro y
          rw [drop_take_get, drop_take_get]
          by_cases hy : y < n
          · rw [if_pos hy, if_pos hy, List.getElem?_append_right (by omega), List.getElem?_append_left (by omega)]
            congr 1; omega
          · rw [if_neg hy, if_neg hy]
      · exact h6.elim
  · exact h.elim

def putN (cs : List SV) (off n : Nat) (vals : List SV) (K : List SV → Prop) : Prop :=
  match findAt cs off with
  | some (a, b, r) => match r, cutN b n with
    | 0, some (_, y) => match cutN vals n with | some (vals', []) => K (a ++ (vals' ++ y)) | _ => False
    | r, _ => elemAt b r fun v vs i o => elemGet v i fun c => match setOnes v.esz c o n vals with | some c' => K (a ++ (v.asetN i c' :: vs)) | none => False
  | none => False
theorem putN_spec {cs : List SV} {off n : Nat} {vals : List SV} {K : List SV → Prop} (h : putN cs off n vals K) : ∃ r, K r ∧ flat r = setMany (flat cs) off (flat vals) ∧ (flat vals).length = n ∧ off + n ≤ (flat cs).length := by
  unfold putN at h
  split at h
  · rename_i a b r hf
    obtain ⟨rfl, h1⟩ := findAt_spec hf
    split at h
    · rename_i x y hc
      obtain ⟨h2, h3⟩ := cutN_spec hc
      split at h
      · rename_i vals' hv
        obtain ⟨h4, h5⟩ := cutN_spec hv
        have h4 : flat vals = flat vals' := by simpa [flat] using h4
        refine ⟨_, h, ?_, by rw [h4, h5], by rw [flat_append, h2]; simp; omega⟩
        have e : off = (flat a).length + 0 := by omega
        rw [flat_append, flat_append, flat_append, h2, e, setMany_mid (by rw [h4]; omega), h4]
        congr 2
        apply List.ext_getElem?
        intro q
        rw [setMany_get _ _ _ _ (by omega)]
        by_cases hq : q < n
        · rw [if_pos (by omega)]; rfl
        · rw [if_neg (by omega), List.getElem?_eq_none (by omega), List.getElem?_eq_none (by omega)]
      · exact h.elim
    · obtain ⟨v, vs, i, o, rfl, hv, h2, h3, h4, h5, rfl⟩ := elemAt_spec h
      obtain ⟨c, h6, h7⟩ := elemGet_spec h2 h3
      split at h6
      · rename_i c' hc
        obtain ⟨k1, k2, k3⟩ := rows_aset h3 h4 h7 hc
        obtain ⟨q1, q2⟩ := rows_asetN v i c'
        refine ⟨_, h6, ?_, k2, by rw [flat_append, flat_arr hv]; simp; omega⟩
        rw [flat_append, flat_append, flat_arr q2, q1, k1, flat_arr hv, ← h1, setMany_mid (by omega)]
      · exact h6.elim
  · exact h.elim

end Go.SL

/- Helper text: operations on told values that touch no memory. -/
namespace Go.SL
open Go.AL

/-- Within a kind's bounds. -/
def InK : IntKind → Int → Prop
  | .i8, n => -128 ≤ n ∧ n ≤ 127
  | .i16, n => -32768 ≤ n ∧ n ≤ 32767
  | .i32, n => -2147483648 ≤ n ∧ n ≤ 2147483647
  | .i64, n => -9223372036854775808 ≤ n ∧ n ≤ 9223372036854775807
  | .u8, n => 0 ≤ n ∧ n ≤ 255
  | .u16, n => 0 ≤ n ∧ n ≤ 65535
  | .u32, n => 0 ≤ n ∧ n ≤ 4294967295
  | .u64, n => 0 ≤ n ∧ n ≤ 18446744073709551615
theorem InK.wrap {k : IntKind} {n : Int} (h : InK k n) : k.wrap n = n := by
  cases k <;> simp only [InK] at h <;> simp only [IntKind.wrap, IntKind.bits, IntKind.signed, Bool.true_and, Bool.false_and] <;> first | (split <;> omega) | (simp; omega)

mutual
/-- Constants. -/
def δ : AVal → Option SV
  | .bool b => some (.bool (.lit b))
  | .int k n => some (.int k (.lit n))
  | .str s => some (.str (.lit s))
  | .nilp => some .nilp
  | .nils => some .nils
  | .nilm => some .nilm
  | .nilf => some .nilf
  | .nili => some .nili
  | .func f [] [] => some (.func f [] [])
  | .agg cs => match δs cs with
    | some l => some (.agg l)
    | none => none
  | _ => none
def δs : List AVal → Option (List SV)
  | [] => some []
  | v :: vs => match δ v, δs vs with
    | some x, some xs => bif x.one then some (x :: xs) else none
    | _, _ => none
end
mutual
theorem δ_spec : ∀ (v : AVal) (x : SV), δ v = some x → γ x = v
  | .bool b, x, h => by simp only [δ, Option.some.injEq] at h; subst h; rfl
  | .int k n, x, h => by simp only [δ, Option.some.injEq] at h; subst h; rfl
  | .str s, x, h => by simp only [δ, Option.some.injEq] at h; subst h; rfl
  | .nilp, x, h => by simp only [δ, Option.some.injEq] at h; subst h; rfl
  | .nils, x, h => by simp only [δ, Option.some.injEq] at h; subst h; rfl
  | .nilm, x, h => by simp only [δ, Option.some.injEq] at h; subst h; rfl
  | .nilf, x, h => by simp only [δ, Option.some.injEq] at h; subst h; rfl
  | .nili, x, h => by simp only [δ, Option.some.injEq] at h; subst h; rfl
  | .func f [] [], x, h => by simp only [δ, Option.some.injEq] at h; subst h; rfl
  | .agg cs, x, h => by
    simp only [δ] at h
    split at h
    · rename_i l hl
      injection h with h; subst h
      simp only [γ]; rw [(δs_spec cs l hl).1]
    · cases h
  | .any, x, h => by simp [δ] at h
  | .ptr _ _, x, h => by simp [δ] at h
  | .slice _ _ _ _ _, x, h => by simp [δ] at h
  | .map _, x, h => by simp [δ] at h
  | .func f (_ :: _) _, x, h => by simp [δ] at h
  | .func f [] (_ :: _), x, h => by simp [δ] at h
  | .yld _, x, h => by simp [δ] at h
  | .iface _ _, x, h => by simp [δ] at h
  | .tup _, x, h => by simp [δ] at h
theorem δs_spec : ∀ (vs : List AVal) (l : List SV), δs vs = some l → flat l = vs ∧ plain l = true
  | [], l, h => by simp only [δs, Option.some.injEq] at h; subst h; exact ⟨rfl, rfl⟩
  | v :: vs, l, h => by
    simp only [δs] at h
    split at h
    · rename_i x xs h1 h2
      cases ho : x.one with
      | false => rw [ho] at h; cases h
      | true =>
        rw [ho] at h
        simp only [cond_true, Option.some.injEq] at h
        subst h
        obtain ⟨g1, g2⟩ := δs_spec vs xs h2
        have := (one_γ ho).2
        exact ⟨by rw [flat_one this, cellV_γ ho, δ_spec v x h1, g1], by simp [plain, this, g2]⟩
    · cases h
end

/-! ### Environments -/
abbrev SEnv := List (Option SV)
def getEnv : SEnv → Nat → Option SV
  | [], _ => none
  | x :: _, 0 => x
  | _ :: xs, n + 1 => getEnv xs n
def setEnv : SEnv → Nat → Option SV → SEnv
  | [], _, _ => []
  | _ :: xs, 0, v => v :: xs
  | x :: xs, n + 1, v => x :: setEnv xs n v
/-- The same, so that the whole is told before one goes on. -/
def setK {R : Sort _} : SEnv → Nat → Option SV → (SEnv → R) → R
  | [], _, _, K => K []
  | _ :: xs, 0, v, K => K (v :: xs)
  | x :: xs, n + 1, v, K => setK xs n v fun xs' => K (x :: xs')
theorem setK_eq {R : Sort _} : ∀ (e : SEnv) (n : Nat) (v : Option SV) (K : SEnv → R), setK e n v K = K (setEnv e n v)
  | [], _, _, _ => rfl
  | _ :: _, 0, _, _ => rfl
  | x :: xs, n + 1, v, K => setK_eq xs n v fun xs' => K (x :: xs')
def EnvR (e : SEnv) (a : Env) : Prop := ∀ t v, getEnv e t = some v → a t = some (γ v)
theorem getEnv_set : ∀ {e : SEnv} {n t : Nat} {v : Option SV} {x : SV}, getEnv (setEnv e n v) t = some x → (t = n ∧ v = some x) ∨ (t ≠ n ∧ getEnv e t = some x)
  | [], _, _, _, _, h => by simp [setEnv, getEnv] at h
  | _ :: _, 0, 0, _, _, h => .inl ⟨rfl, h⟩
  | _ :: _, 0, t + 1, _, _, h => .inr ⟨by omega, h⟩
  | _ :: _, n + 1, 0, _, _, h => .inr ⟨by omega, h⟩
  | _ :: xs, n + 1, t + 1, v, x, h => by
    rcases getEnv_set (e := xs) (n := n) (t := t) h with ⟨h1, h2⟩ | ⟨h1, h2⟩
    · exact .inl ⟨by omega, h2⟩
    · exact .inr ⟨by omega, h2⟩
theorem EnvR.upd {e : SEnv} {a : Env} (h : EnvR e a) (n : Nat) (v : Option SV) : EnvR (setEnv e n v) (upd a n (v.map γ)) := by
  intro t x hx
  rcases getEnv_set hx with ⟨rfl, rfl⟩ | ⟨h1, h2⟩
  · simp
  · rw [upd_ne _ _ h1]; exact h t x h2
/-- A result goes to its slot. -/
def putK {R : Sort _} (e : SEnv) (d : Option Nat) (v : Option SV) (K : SEnv → R) : R :=
  match d with
  | some d => setK e d v K
  | none => K e
def putS (e : SEnv) (d : Option Nat) (v : Option SV) : SEnv :=
  match d with
  | some d => setEnv e d v
  | none => e
theorem putK_eq {R : Sort _} (e : SEnv) (d : Option Nat) (v : Option SV) (K : SEnv → R) : putK e d v K = K (putS e d v) := by
  cases d with
  | none => rfl
  | some d => exact setK_eq _ _ _ _
theorem EnvR.put {e : SEnv} {a : Env} (h : EnvR e a) (d : Option Nat) (v : Option SV) : EnvR (putS e d v) (AL.put a d (v.map γ)) := by
  cases d with
  | none => exact h
  | some d => exact h.upd d v

def evS (e : SEnv) : AOpd → Option SV
  | .tmp t => getEnv e t
  | .val v => δ v
theorem evS_spec {e : SEnv} {a : Env} (h : EnvR e a) {x : AOpd} {v : SV} (hv : evS e x = some v) : x.ev a = some (γ v) := by
  cases x with
  | tmp t => exact h t v hv
  | val w => simp only [AOpd.ev]; rw [δ_spec w v hv]
def evsS (e : SEnv) : List AOpd → Option (List SV)
  | [] => some []
  | x :: xs => match evS e x, evsS e xs with
    | some v, some vs => some (v :: vs)
    | _, _ => none
theorem evsS_spec {e : SEnv} {a : Env} (h : EnvR e a) : ∀ {xs : List AOpd} {vs : List SV}, evsS e xs = some vs → evs a xs = some (γs vs)
  | [], vs, hv => by simp only [evsS, Option.some.injEq] at hv; subst hv; rfl
  | x :: xs, vs, hv => by
    simp only [evsS] at hv
    split at hv
    · rename_i v vs' h1 h2
      injection hv with hv; subst hv
      simp only [evs, evS_spec h h1, evsS_spec h h2, γs]
    · cases hv

/-! ### Truths -/
def SB.p : SB → Prop
  | .lit b => b = true
  | .sym p => p
theorem SB.p_v (b : SB) : b.p ↔ b.v = true := by cases b <;> simp [SB.p, SB.v]
theorem bool_of_iff' {a b : Bool} (h : a = true ↔ b = true) : a = b := by cases a <;> cases b <;> simp_all
def notS : SB → SB
  | .lit b => .lit !b
  | .sym p => .sym ¬p
theorem notS_v (b : SB) : (notS b).v = !b.v := by
  cases b with
  | lit b => rfl
  | sym p => by_cases h : p <;> simp [notS, SB.v, h]
def andS : SB → SB → SB
  | .lit true, x => x
  | .lit false, _ => .lit false
  | x, .lit true => x
  | _, .lit false => .lit false
  | .sym p, .sym q => .sym (p ∧ q)
theorem andS_v (a b : SB) : (andS a b).v = (a.v && b.v) := by
  unfold andS
  split <;> first
    | simp_all [SB.v]; done
    | (rename_i p q; by_cases h1 : p <;> by_cases h2 : q <;> simp [SB.v, h1, h2])
def iffS (ng : Bool) : SB → SB → SB
  | .lit a, .lit b => .lit (xor ng (a == b))
  | a, b => bif ng then .sym ¬(a.p ↔ b.p) else .sym (a.p ↔ b.p)
open Classical in
theorem iffS_v (ng : Bool) (a b : SB) : (iffS ng a b).v = xor ng (a.v == b.v) := by
  have key : ∀ p : Prop, (p ↔ (a.p ↔ b.p)) → ((SB.sym (¬p)).v = !(a.v == b.v) ∧ (SB.sym p).v = (a.v == b.v)) := by
    intro p hp
    rw [SB.p_v, SB.p_v] at hp
    have : (a.v == b.v) = decide p := by
      by_cases h : p
      · have := hp.1 h
        simp only [h, decide_true, beq_iff_eq]
        cases ha : a.v <;> cases hb : b.v <;> simp_all
      · have h2 : ¬ (a.v = true ↔ b.v = true) := fun e => h (hp.2 e)
        simp only [h, decide_false, beq_eq_false_iff_ne, ne_eq]
        intro e; rw [e] at h2; exact h2 Iff.rfl
    rw [this]
    by_cases h : p <;> simp [SB.v, h]
  obtain ⟨k1, k2⟩ := key (a.p ↔ b.p) Iff.rfl
  unfold iffS
  split
  · rfl
  · cases ng with
    | true => simp only [cond_true, Bool.true_xor]; exact k1
    | false => simp only [cond_false, Bool.false_xor]; exact k2

/-- One truth or the other. -/
def iteS (c a b : SB) : SB :=
  match c, a, b with
  | .lit true, a, _ => a
  | .lit false, _, b => b
  | c, .lit true, .lit false => c
  | .sym c, .lit true, .sym b => .sym (c ∨ b)
  | .sym c, .sym a, .lit false => .sym (c ∧ a)
  | c, a, b => .sym ((c.p → a.p) ∧ (¬ c.p → b.p))
open Classical in
theorem iteS_v (c a b : SB) : (iteS c a b).v = bif c.v then a.v else b.v := by
  unfold iteS
  split
  · rfl
  · rfl
  · cases c.v <;> rfl
  · rename_i c b; by_cases h : c <;> simp [SB.v, h]
  · rename_i c a; by_cases h : c <;> simp [SB.v, h]
  · apply bool_of_iff'
    rw [SB.v_sym, SB.p_v, SB.p_v, SB.p_v]
    cases c.v <;> simp

/-! ### Numbers -/
/-- A number of a kind; 'ov': it may go round. -/
def numS (ov : Bool) (k : IntKind) (n : SI) (K : SV → Prop) : Prop :=
  match n with
  | .lit n => K (.int k (.lit (k.wrap n)))
  | .sym n => bif ov then K (.int k (.sym (k.wrap n))) else InK k n ∧ K (.int k (.sym n))
theorem numS_spec {ov : Bool} {k : IntKind} {n : SI} {K : SV → Prop} (h : numS ov k n K) : ∃ v, K v ∧ γ v = .int k (k.wrap n.v) := by
  cases n with
  | lit n => exact ⟨_, h, rfl⟩
  | sym n =>
    simp only [numS] at h
    cases ov with
    | true => exact ⟨_, h, rfl⟩
    | false => exact ⟨_, h.2, by simp only [γ, SI.v]; rw [h.1.wrap]⟩
def SI.op (f : Int → Int → Int) : SI → SI → SI
  | .lit a, .lit b => .lit (f a b)
  | a, b => .sym (f a.v b.v)
theorem SI.op_v (f : Int → Int → Int) (a b : SI) : (SI.op f a b).v = f a.v b.v := by cases a <;> cases b <;> rfl
def bitS (op : BinOp) (k : IntKind) (a b : Int) : Int :=
  match op with
  | .and => (BitVec.ofInt k.bits a &&& BitVec.ofInt k.bits b).toNat
  | .or => (BitVec.ofInt k.bits a ||| BitVec.ofInt k.bits b).toNat
  | _ => (BitVec.ofInt k.bits a ^^^ BitVec.ofInt k.bits b).toNat

def binS (ov : Bool) (op : BinOp) (k : IntKind) (a b : SI) (K : SV → Prop) : Prop :=
  match op with
  | .add => numS ov k (a.add b) K
  | .sub => numS ov k (a.sub b) K
  | .mul => numS ov k (SI.op (· * ·) a b) K
  | .quo => gS (notS (eqS b (.lit 0))) (numS ov k (SI.op Int.tdiv a b) K)
  | .rem => gS (notS (eqS b (.lit 0))) (K (.int k (SI.op Int.tmod a b)))
  | .and => numS true k (SI.op (bitS .and k) a b) K
  | .or => numS true k (SI.op (bitS .or k) a b) K
  | .xor => numS true k (SI.op (bitS .xor k) a b) K
  | .eql => K (.bool (eqS a b))
  | .neq => K (.bool (notS (eqS a b)))
  | .lss => K (.bool (ltS a b))
  | .leq => K (.bool (leS a b))
  | .gtr => K (.bool (ltS b a))
  | .geq => K (.bool (leS b a))
  | _ => False
theorem bool_of_iff {a b : Bool} (h : a = true ↔ b = true) : a = b := by cases a <;> cases b <;> simp_all
theorem binS_spec {ov : Bool} {op : BinOp} {k : IntKind} {a b : SI} {K : SV → Prop} (h : binS ov op k a b K) : ∃ v, K v ∧ intBin op k a.v b.v = some (γ v) := by
  have ne0 : ∀ {P : Prop}, gS (notS (eqS b (.lit 0))) P → b.v ≠ 0 ∧ P := by
    intro P h
    obtain ⟨h1, h2⟩ := gS_spec h
    refine ⟨fun e => ?_, h2⟩
    rw [notS_v, (eqS_v b (.lit 0)).2 e] at h1
    cases h1
  cases op <;> simp only [binS] at h <;> simp only [intBin] <;> first
    | exact h.elim
    | (obtain ⟨v, h1, h2⟩ := numS_spec h
       exact ⟨v, h1, by rw [h2]; simp only [SI.add_v, SI.sub_v, SI.op_v, bitS]⟩)
    | (obtain ⟨h0, h⟩ := ne0 h
       obtain ⟨v, h1, h2⟩ := numS_spec h
       exact ⟨v, h1, by rw [h2, if_neg h0]; simp only [SI.op_v]⟩)
    | (obtain ⟨h0, h⟩ := ne0 h
       exact ⟨_, h, by rw [if_neg h0]; simp only [γ, SI.op_v]⟩)
    | (refine ⟨_, h, ?_⟩
       simp only [γ, Option.some.injEq, AVal.bool.injEq]
       apply bool_of_iff
       simp only [eqS_v, ltS_v, leS_v, beq_iff_eq, decide_eq_true_eq, gt_iff_lt, ge_iff_le]; done)
    | (refine ⟨_, h, ?_⟩
       simp only [γ, Option.some.injEq, AVal.bool.injEq, notS_v]
       apply bool_of_iff
       rw [Bool.not_eq_true', bne_iff_ne, ne_eq, ← eqS_v a b]
       simp)

/-- Texts. -/
def sEqS : SS → SS → SB
  | .lit a, .lit b => .lit (a.toList == b.toList)
  | a, b => .sym (a.v = b.v)
theorem byteArray_toList_inj {a b : ByteArray} : a.toList = b.toList ↔ a = b := by
  constructor
  · intro h
    have h1 : ∀ x : ByteArray, x.toList = x.data.toList := fun x => ByteArray.toList_eq x
    rw [h1, h1] at h
    cases a; cases b
    simp only at h
    congr 1
    exact Array.toList_inj.1 h
  · rintro rfl; rfl
theorem byteArray_beq (a b : ByteArray) : (a == b) = true ↔ a = b := by
  cases a with
  | mk x => cases b with
    | mk y =>
      show (x == y) = true ↔ _
      rw [beq_iff_eq]
      exact ⟨fun h => by rw [h], fun h => by injection h⟩
theorem sEqS_v (a b : SS) : (sEqS a b).v = (a.v.toList == b.v.toList) := by
  have : ∀ x y : ByteArray, (SB.sym (x = y)).v = (x.toList == y.toList) := fun x y => by
    apply bool_of_iff
    rw [SB.v_sym, beq_iff_eq, byteArray_toList_inj]
  cases a <;> cases b <;> first | rfl | exact this _ _
def strS (op : BinOp) (a b : SS) (K : SV → Prop) : Prop :=
  match op with
  | .eql => K (.bool (sEqS a b))
  | .neq => K (.bool (notS (sEqS a b)))
  | _ => False
theorem strS_spec {op : BinOp} {a b : SS} {K : SV → Prop} (h : strS op a b K) : ∃ v, K v ∧ strBin op a.v b.v = some (γ v) := by
  cases op <;> simp only [strS] at h <;> first
    | exact h.elim
    | (refine ⟨_, h, ?_⟩; simp only [strBin, γ, notS_v, sEqS_v]; done)

/-- Nil or not. -/
def nilS (cls : NilCls) : SV → Option Bool
  | .nilp => bif decide (cls = .ptr) then some true else none
  | .ptr _ _ | .eptr _ _ _ _ _ _ => bif decide (cls = .ptr) then some false else none
  | .nils => bif decide (cls = .slc) then some true else none
  | .sl _ _ _ (.lit n) none => bif decide (cls = .slc) && decide (0 < n) then some false else none
  | .sl _ _ _ _ (some (.lit n)) => bif decide (cls = .slc) && decide (0 < n) then some false else none
  | .nilm => bif decide (cls = .map) then some true else none
  | .map _ => bif decide (cls = .map) then some false else none
  | .nilf => bif decide (cls = .fn) then some true else none
  | .func _ _ _ | .yld _ => bif decide (cls = .fn) then some false else none
  | _ => none
theorem bifc {cls c : NilCls} {x b : Bool} (h : (bif decide (cls = c) then some x else none) = some b) : cls = c ∧ x = b := by
  cases hc : decide (cls = c) with
  | false => rw [hc] at h; cases h
  | true => rw [hc] at h; exact ⟨of_decide_eq_true hc, Option.some.inj h⟩
theorem bifn {cls c : NilCls} {n : Int} {x b : Bool} (h : (bif decide (cls = c) && decide (0 < n) then some x else none) = some b) : cls = c ∧ 0 < n ∧ x = b := by
  cases hc : decide (cls = c) && decide (0 < n) with
  | false => rw [hc] at h; cases h
  | true =>
    rw [hc] at h
    simp only [Bool.and_eq_true, decide_eq_true_eq] at hc
    exact ⟨hc.1, hc.2, Option.some.inj h⟩
theorem nilS_spec {cls : NilCls} {v : SV} {b : Bool} (h : nilS cls v = some b) : nilV cls (γ v) = some b := by
  unfold nilS at h
  split at h <;> first
    | (cases h; done)
    | (obtain ⟨rfl, rfl⟩ := bifc h; simp [γ, nilV]; done)
    | (obtain ⟨rfl, h1, rfl⟩ := bifn h
       simp only [γ, nilV, capS, SI.v]
       rw [if_pos ⟨trivial, by omega⟩])

/-- Plain cells, compared. -/
def leafS : LK → Option SV → Option SV → Option SB
  | .b, some (.bool a), some (.bool b) => some (iffS false a b)
  | .i, some (.int k a), some (.int k' b) => bif decide (k = k') then some (eqS a b) else none
  | .s, some (.str a), some (.str b) => some (sEqS a b)
  | _, _, _ => none
theorem leafS_spec {lk : LK} {a b : Option SV} {r : SB} (h : leafS lk a b = some r) : leafEq lk (a.map γ) (b.map γ) = some r.v := by
  unfold leafS at h
  split at h
  · injection h with h; subst h
    simp only [Option.map_some, γ, leafEq, iffS_v, Bool.false_xor]
  · rename_i k a k' b
    cases hk : decide (k = k') with
    | false => rw [hk] at h; cases h
    | true =>
      rw [hk] at h
      simp only [cond_true, Option.some.injEq] at h
      subst h
      have hk := of_decide_eq_true hk
      simp only [Option.map_some, γ, leafEq, hk, if_true, Option.some.injEq]
      apply bool_of_iff
      rw [eqS_v, beq_iff_eq]
  · injection h with h; subst h
    simp only [Option.map_some, γ, leafEq, sEqS_v, Option.some.injEq]
    apply bool_of_iff
    rw [byteArray_beq, beq_iff_eq, byteArray_toList_inj]
  · cases h

/-- Cells at offsets, compared. -/
def eqLS : List (Nat × LK) → List SV → List SV → Option SB
  | [], _, _ => some (.lit true)
  | o :: os, a, b => match leafS o.2 (oneAt a o.1) (oneAt b o.1), eqLS os a b with
    | some r, some s => some (andS r s)
    | _, _ => none
theorem leafS_some {lk : LK} {a b : Option SV} {r : SB} (h : leafS lk a b = some r) : ∃ x y, a = some x ∧ b = some y := by
  unfold leafS at h
  split at h <;> first | (cases h; done) | exact ⟨_, _, rfl, rfl⟩
theorem eqLS_spec : ∀ {os : List (Nat × LK)} {a b : List SV} {r : SB}, eqLS os a b = some r → eqL os (flat a) (flat b) = some r.v
  | [], a, b, r, h => by simp only [eqLS, Option.some.injEq] at h; subst h; rfl
  | o :: os, a, b, r, h => by
    simp only [eqLS] at h
    split at h
    · rename_i r1 r2 h1 h2
      injection h with h; subst h
      obtain ⟨x, y, hx, hy⟩ := leafS_some h1
      have h3 := leafS_spec h1
      rw [hx, hy] at h3
      simp only [Option.map_some] at h3
      simp only [eqL, oneAt_spec hx, oneAt_spec hy, h3, eqLS_spec h2, andS_v]
    · cases h

end Go.SL
