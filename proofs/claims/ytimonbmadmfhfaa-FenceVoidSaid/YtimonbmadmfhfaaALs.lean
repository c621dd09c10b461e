/- Helper text: calls, deferred calls, ranges over functions. -/
import Derived.Test.YtimonbmadmfhfaaALr
namespace Go.AL

variable {P : Program} {rom : Rom} {nt : Nat} {rd : Option Bid} {s : St} {K : Exit → St → Prop}

theorem mkDOps_spec {xs : List AOp} {bef : List (List Nat)} : ∀ {ord : List Nat} {earlier : List Nat} {ds : List DOp}, mkDOps xs bef earlier ord = some ds → ∀ d ∈ ds, xs[d.idx]? = some d.op
  | [], _, ds, h, d, hd => by simp [mkDOps] at h; subst h; cases hd
  | i :: ord, earlier, ds, h, d, hd => by
    simp only [mkDOps] at h
    split at h
    · rename_i x ds' h1 h2
      injection h with h; subst h
      rcases List.mem_cons.1 hd with rfl | hd
      · exact h1
      · exact mkDOps_spec h2 d hd
    · cases h
theorem compOpers_get {ops : Array Oper} : ∀ {os : List Oper} {xs : List AOp}, compOpers P ops nt os = some xs → ∀ {i : Nat} {x : AOp}, xs[i]? = some x → ∃ o, os[i]? = some o ∧ compOper P ops nt o = some x
  | [], xs, h, i, x, hx => by simp [compOpers] at h; subst h; simp at hx
  | o :: os, xs, h, i, x, hx => by
    simp only [compOpers] at h
    split at h
    · rename_i y ys h1 h2
      injection h with h; subst h
      cases i with
      | zero => simp at hx; subst hx; exact ⟨o, rfl, h1⟩
      | succ i => simp at hx; simpa using compOpers_get h2 hx
    · cases h
theorem Firsts.nodup {ops : Array Oper} : ∀ {l : List DOp} {don : Nat → Prop}, Firsts ops don l → (l.map (·.idx)).Nodup
  | [], _, _ => .nil
  | x :: rest, don, ⟨_, _, h3⟩ => by
    rw [List.map_cons, List.nodup_cons]
    refine ⟨fun hm => ?_, h3.nodup⟩
    obtain ⟨d, hd, he⟩ := List.mem_map.1 hm
    exact h3.notMem d hd (.inl he)

theorem T_dops {cv : CV} (hcv : CVOk P rom cv) (hm : P.follows .mixedOrders = true) {id : Nat} {ops : Array Oper} {ds : List DOp} (hc : compDrawn P nt ops = some (.dops ds)) (h : EOpsD rom cv rd ds (fun _ => none) s (K .normal)) :
    T P rom rd nt (.region id ops true) s K := by
  intro β a w R hb
  unfold compDrawn at hc
  split at hc
  · cases hc
  · rename_i xs hxs
    simp only at hc
    split at hc
    · rename_i ds' hds
      split at hc
      · rename_i hcond
        injection hc with hc; injection hc with hc; subst hc
        obtain ⟨c1, c2, c3, c4, c5⟩ := hcond
        have hF := predsFirst_spec c2
        refine wpIn_region_any hm (any_sound hcv rfl hb ops.size _ ds' (fun _ => none) β s a _ c1 (by simp) ?_ ?_ (pairsOk_spec c3) (hF.congr fun j => ?_) hF.nodup ?_ (fun _ _ => rfl) ⟨R.nx, R.env, R.heap.heap rfl, R.dfs⟩ (Mv.heap rfl rfl rfl) h)
        · intro i hi
          rw [List.all_eq_true] at c5
          have := c5 i (List.mem_range.2 hi)
          rw [List.any_eq_true] at this
          obtain ⟨d, hd, he⟩ := this
          exact .inr ⟨d, hd, by simpa using he⟩
        · intro d hd
          rw [List.all_eq_true] at c4
          have hlt := of_decide_eq_true (c4 d hd)
          obtain ⟨o, ho, hco⟩ := compOpers_get hxs (mkDOps_spec hds d hd)
          exact ⟨hlt, o, by simpa using ho, hco⟩
        · simp [Array.getD_eq_getD_getElem?, Array.getElem?_replicate]
          split <;> simp
        · intro i o hi
          simp [Array.getD_eq_getD_getElem?, Array.getElem?_replicate] at hi
          split at hi <;> simp at hi
      · cases hc
    · cases hc

/-! ### Functions -/

def initEnv (args : List AVal) : Env := fun t => args[t]?

theorem initEnv_rel {β : Beta} {args : List AVal} {rargs : Array Value} (hv : VRels β args rargs.toList) (hl : args.length ≤ nt) : ERel β nt (initEnv args) (rargs ++ Array.replicate (nt - rargs.size) undef) := by
  have hs : rargs.size = args.length := by simpa using hv.length.symm
  refine ⟨by simp; omega, fun t v ht => ?_⟩
  obtain ⟨r, h1, h2⟩ := hv.get ht
  have hlt : t < rargs.size := by
    have := (List.getElem?_eq_some_iff.1 h1).1; simpa using this
  have : (rargs ++ Array.replicate (nt - rargs.size) undef).getD t undef = r := by
    rw [Array.getD_eq_getD_getElem?, Array.getElem?_append_left hlt, ← Array.getElem?_toList, h1]; rfl
  rw [this]; exact h2

def slotVals (env : Env) : List Nat → Option (List AVal)
  | [] => some []
  | t :: ts => match env t, slotVals env ts with
    | some v, some vs => some (v :: vs)
    | _, _ => none
/-- What a call hands back. -/
def resVal (env : Env) (res : List Nat) : Option AVal :=
  match slotVals env res with
  | some [v] => some v
  | some vs => some (.tup vs)
  | none => none

theorem results_run {fn : Func} {rs : List Nat} (hr : resSlots fn.results.toList = some rs) (tmps : Array Value) (w : World) :
    (results fn tmps).run P w = .ok (match rs.map (tmps.getD · undef) with | [v] => v | vs => .tuple vs.toArray) w := by
  have key : ∀ (l : List ResultVar) (rs : List Nat), resSlots l = some rs → (l.mapM (fun x => (match x with
      | .tmp t => pure (tmps.getD t undef)
      | .cell a t => do loadVar t (← asAddr (tmps.getD a undef)) : Sem Value))).run P w = .ok (rs.map (tmps.getD · undef)) w := by
    intro l
    induction l with
    | nil => intro rs h; simp [resSlots] at h; subst h; rfl
    | cons x l ih =>
      intro rs h
      cases x with
      | tmp t =>
        simp only [resSlots, Option.map_eq_some_iff] at h
        obtain ⟨rs', h1, rfl⟩ := h
        have h2 := ih rs' h1
        simp only [List.mapM_cons, Sem.run_bind, Sem.run_pure, Result.andThen_ok, h2, List.map_cons]
      | cell a t => simp [resSlots] at h
  unfold results
  have hk := key _ _ hr
  rw [Array.mapM_eq_mapM_toList, Sem.run_bind, Sem.run_map]
  refine (congrArg (fun r => (Result.andThen (r.andThen fun a w' => .ok a.toArray w') _)) hk).trans ?_
  simp only [Result.andThen_ok]
  generalize rs.map (tmps.getD · undef) = vs
  match vs with
  | [] => rfl
  | [v] => rfl
  | v :: u :: vs => rfl
theorem slotVals_rel {β : Beta} {env : Env} {tmps : Array Value} (hE : ERel β nt env tmps) : ∀ {ts : List Nat} {vs : List AVal}, slotVals env ts = some vs → VRels β vs (ts.map (tmps.getD · undef))
  | [], vs, h => by simp [slotVals] at h; subst h; exact VRels.nil
  | t :: ts, vs, h => by
    simp only [slotVals] at h
    split at h
    · rename_i v vs' h1 h2
      injection h with h; subst h
      exact VRels.cons (hE.get t v h1) (slotVals_rel hE h2)
    · cases h
theorem resVal_rel {β : Beta} {env : Env} {tmps : Array Value} (hE : ERel β nt env tmps) {rs : List Nat} {v : AVal} (h : resVal env rs = some v) : VRel β v (match rs.map (tmps.getD · undef) with | [v] => v | vs => .tuple vs.toArray) := by
  unfold resVal at h
  split at h
  · rename_i x hx
    injection h with h; subst h
    have := slotVals_rel hE hx
    simp only [VRels] at this
    obtain ⟨r, rs', h1, h2, rfl⟩ := this
    rw [h1]; exact h2
  · rename_i vs hne hx
    injection h with h; subst h
    have h1 := slotVals_rel hE hx
    have hl := h1.length
    split
    · rename_i r hr
      rw [hr] at hl
      match vs, hl, hne with
      | [v], _, hne => exact absurd rfl (hne v)
    · simp only [VRel]
      exact ⟨_, rfl, by simpa using h1⟩
  · cases h

/-- A function that is called as a deferred one. -/
def CallDT (P : Program) (rom : Rom) (f : FuncId) (args : List AVal) (h : Heap) (nx : Nat) (Q : AVal → Heap → Nat → Prop) : Prop :=
  okFun P f = true ∧ ∀ β w rargs u, β.nx = nx → HRel P β rom h w → VRels β args rargs.toList → CallsDIn Fence.wide 0 P f rargs u w fun e u' w' => u' = u ∧
    ∃ β' v h' rv, e = .returned rv ∧ Q v h' β'.nx ∧ VRel β' v rv ∧ HRel P β' rom h' w' ∧ Mv β h w β' h' w'

/-- On the way out: the deferred calls. 'cd' meets them. -/
def Leave (cd : FuncId → List AVal → Heap → Nat → (AVal → Heap → Nat → Prop) → Prop) (Q : Heap → Nat → Prop) : List ADef → Heap → Nat → Prop
  | [], h, nx => Q h nx
  | .coll b :: ds, h, nx => match b with
    | .own i => gd (match h i with | some .defs => true | _ => false) (Leave cd Q ds (upd h i none) nx)
    | .arg _ => False
  | .clo f args :: ds, h, nx => cd f args h nx fun _ h' nx' => Leave cd Q ds h' nx'

/-- A way out of a function. -/
def outK (cd : FuncId → List AVal → Heap → Nat → (AVal → Heap → Nat → Prop) → Prop) (res : List Nat) (Q : AVal → Heap → Nat → Prop) : Exit → St → Prop
  | .normal, s | .ret, s => match resVal s.env res with
    | some v => Leave cd (Q v) s.dfs s.h s.nx
    | none => False
  | _, _ => False

theorem takeDeferred_run {w : World} {b : Nat} (h : w.heap[b]? = some (.deferred (some []))) : (Instr.takeDeferred b).run P w = .ok [] { w with heap := w.heap.setIfInBounds b (.deferred none) } := by
  simp [Instr.takeDeferred, getObj_run h (by simp), setObj, Sem.run, h]

theorem leave_sound {cd : FuncId → List AVal → Heap → Nat → (AVal → Heap → Nat → Prop) → Prop} (hcd : ∀ f args h nx Q, cd f args h nx Q → CallDT P rom f args h nx Q) {fn : Func} {rs : List Nat} (hr : resSlots fn.results.toList = some rs)
    {β₀ : Beta} {h₀ : Heap} {w₀ : World} {tmps : Array Value} {env : Env} {v : AVal} {Q : AVal → Heap → Nat → Prop} (hv : resVal env rs = some v) :
    ∀ (ds : List ADef) (rds : List Deferred) (β : Beta) (h : Heap) (w : World), ERel β nt env tmps → HRel P β rom h w → DRel β ds rds → Mv β₀ h₀ w₀ β h w → Leave cd (Q v) ds h β.nx →
      LeavesInM Fence.wide 0 P fn tmps (fun e w' => ∃ β' v h' rv, e = .returned rv ∧ Q v h' β'.nx ∧ VRel β' v rv ∧ HRel P β' rom h' w' ∧ Mv β₀ h₀ w₀ β' h' w') rds .returning w
  | [], rds, β, h, w, hE, H, D, M, hL => by
    simp only [DRel] at D; subst D
    exact ⟨_, results_run hr tmps w, β, v, h, _, rfl, hL, resVal_rel hE hv, H, M⟩
  | .coll b :: ds, rds, β, h, w, hE, H, D, M, hL => by
    obtain ⟨d, rds', rfl, D1, D2⟩ := D
    obtain ⟨D1, rfl⟩ := D1
    cases b with
    | arg i => exact hL.elim
    | own i =>
      obtain ⟨L1, L2⟩ := gd_iff.1 hL
      split at L1
      · rename_i hi
        obtain ⟨_, hfp, hob⟩ := H.obj i _ hi
        have hbl : β.blk (.own i) < w.heap.size := by
          rcases Nat.lt_or_ge (β.blk (.own i)) w.heap.size with h' | h'
          · exact h'
          · simp [Array.getElem?_eq_none h'] at hob
        have hput := H.put (o' := .opq fun _ _ => True) (w' := { w with heap := w.heap.setIfInBounds (β.blk (.own i)) (.deferred none) }) hi hfp (by simp)
          (fun b hb => by simp [Array.getElem?_setIfInBounds, Ne.symm hb]) rfl rfl ⟨(hfp _).2 rfl, trivial⟩
        have hdr : ∀ j ob, upd h i none j = some ob → upd h i (some (.opq fun _ _ => True)) j = some ob := fun j ob hj => by
          by_cases hji : j = i
          · subst hji; simp at hj
          · rw [upd_ne _ _ hji] at hj ⊢; exact hj
        refine ⟨by simp, .inl ⟨β.blk (.own i), _, rfl, takeDeferred_run hob, ?_⟩⟩
        exact leave_sound hcd hr hv ds rds' β (upd h i none) _ hE (hput.1.drop hdr) D2 (M.trans (hput.2.trans (Mv.drop hdr))) L2
      · cases L1
  | .clo f args :: ds, rds, β, h, w, hE, H, D, M, hL => by
    obtain ⟨d, rds', rfl, ⟨given, caps, rfl, D1⟩, D2⟩ := D
    have hc := hcd _ _ _ _ _ hL
    obtain ⟨hok, hc⟩ := hc
    refine ⟨by simp, .inr ⟨by simp [Fence.wide], .func f, caps, f, given ++ caps, rfl, ?_, fun _ _ => trivial, ?_⟩⟩
    · unfold okFun at hok
      split at hok
      case h_2 => cases hok
      rename_i fn' g1
      simp only [Bool.and_eq_true, Bool.not_eq_true'] at hok
      obtain ⟨g2, g3⟩ := hok
      have hb : ¬ fn'.body = none := by cases hh : fn'.body <;> simp [hh] at g2 ⊢
      have g4 : ¬ fn'.name = "runtime.NumGoroutine" := by simpa using g3
      simp [invoke, callFunc, g1, g4, hb]
    · refine (hc β w (given ++ caps) .returning rfl H (by simpa using D1)).mono ?_
      rintro e u' w' ⟨rfl, β', v', h', rv, rfl, q1, q2, q3, q4⟩
      exact leave_sound hcd hr hv ds rds' β' h' w' (hE.ext q4.ext) q3 (D2.ext q4.ext) (M.trans q4) q1

/-- A function's contract, out of its body. -/
theorem callT_of_T {cd : FuncId → List AVal → Heap → Nat → (AVal → Heap → Nat → Prop) → Prop} (hcd : ∀ f args h nx Q, cd f args h nx Q → CallDT P rom f args h nx Q) {f : FuncId} {fn : Func} {c : Code} {rs : List Nat} (hok : okFun P f = true)
    (hf : P.funcs[f]? = some fn) (hb : fn.body = some c) (hr : resSlots fn.results.toList = some rs) {args : List AVal} {h : Heap} {nx : Nat} {Q : AVal → Heap → Nat → Prop} (hl : args.length ≤ fn.ntmps)
    (hT : T P rom none fn.ntmps c ⟨initEnv args, h, nx, []⟩ (outK cd rs Q)) : CallT P rom f args h nx Q := by
  refine ⟨hok, fun β w rargs hnx H hv => ?_⟩
  have h1 := hT β { tmps := rargs ++ Array.replicate (fn.ntmps - rargs.size) undef, defers := [] } w ⟨hnx, initEnv_rel hv hl, H, rfl⟩ (fun b hb => by cases hb)
  refine callsIn_of_wp_marks hf hb trivial (wpIn_mono h1 ?_)
  have key : ∀ β' s' a' w', (match resVal s'.env rs with | some v => Leave cd (Q v) s'.dfs s'.h s'.nx | none => False) → SRel P β' rom fn.ntmps s' a' w' → Mv β h w β' s'.h w' →
      LeavesInM Fence.wide 0 P fn a'.tmps (fun e w' => ∃ β' v h' rv, e = .returned rv ∧ Q v h' β'.nx ∧ VRel β' v rv ∧ HRel P β' rom h' w' ∧ Mv β h w β' h' w') a'.defers .returning w' := by
    intro β' s' a' w' k R M
    split at k
    · rename_i v hv
      exact leave_sound hcd hr hv s'.dfs a'.defers β' s'.h w' R.env R.heap R.dfs M (by rw [R.nx]; exact k)
    · exact k.elim
  rintro e a' w' ⟨β', s', k, R, M⟩
  cases e with
  | normal => exact key β' s' a' w' k R M
  | ret => exact key β' s' a' w' k R M
  | exit id => exact k.elim
  | goto l => exact k.elim
  | panic c => exact k.elim
  | outgrown => exact k.elim

theorem callDT_of_T {f : FuncId} {fn : Func} {c : Code} {rs : List Nat} (hok : okFun P f = true)
    (hf : P.funcs[f]? = some fn) (hb : fn.body = some c) (hr : resSlots fn.results.toList = some rs) {args : List AVal} {h : Heap} {nx : Nat} {Q : AVal → Heap → Nat → Prop} (hl : args.length ≤ fn.ntmps)
    (hT : T P rom none fn.ntmps c ⟨initEnv args, h, nx, []⟩ (fun e s => (e = .normal ∨ e = .ret) ∧ s.dfs = [] ∧ ∃ v, resVal s.env rs = some v ∧ Q v s.h s.nx)) : CallDT P rom f args h nx Q := by
  refine ⟨hok, fun β w rargs u hnx H hv => ?_⟩
  have h1 := hT β { tmps := rargs ++ Array.replicate (fn.ntmps - rargs.size) undef, defers := [] } w ⟨hnx, initEnv_rel hv hl, H, rfl⟩ (fun b hb => by cases hb)
  refine callsDIn_of_wp hf hb trivial (wpIn_mono h1 ?_)
  rintro e a' w' ⟨β', s', ⟨k1, k2, v, k3, k4⟩, R, M⟩
  have hd : a'.defers = [] := by have := R.dfs; rw [k2] at this; exact this
  have hfin : a'.defers = [] ∧ ∃ v, (results fn a'.tmps).run P w' = .ok v w' ∧ ∃ β' v₁ h' rv, Ending.returned v = .returned rv ∧ Q v₁ h' β'.nx ∧ VRel β' v₁ rv ∧ HRel P β' rom h' w' ∧ Mv β h w β' h' w' :=
    ⟨hd, _, results_run hr a'.tmps w', β', v, s'.h, _, rfl, by rw [R.nx]; exact k4, resVal_rel R.env k3, R.heap, M⟩
  rcases k1 with rfl | rfl
  · exact hfin
  · exact hfin

end Go.AL
