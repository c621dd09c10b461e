/- Helper text: an evaluator of code; what it comes to is what the machine comes to. -/
import Derived.Test.YtimonbmadmfhfaaALt
namespace Go.AL

variable {P : Program} {rom : Rom}

def loopN (step : St → (Exit → St → Prop) → Prop) : Nat → St → (Exit → St → Prop) → Prop
  | 0, _, _ => False
  | n + 1, s, K => step s (andThen (fun s' => loopN step n s' K) K)

/-- A piece of code that is not looked into. -/
def TA (P : Program) (rom : Rom) (rd : Option Bid) (nt : Nat) (a : ACode) (s : St) (K : Exit → St → Prop) : Prop :=
  ∀ c, compCode P nt c = some a → T P rom rd nt c s K

def EC (P : Program) (rom : Rom) (cv : CV) (lf : Option Nat) (rd : Option Bid) (nt : Nat) : ACode → St → (Exit → St → Prop) → Prop
  | .skip, s, K => K .normal s
  | .ops l, s, K => EOps rom cv rd l s (K .normal)
  | .dops l, s, K => EOpsD rom cv rd l (fun _ => none) s (K .normal)
  | .seq a b, s, K => EC P rom cv lf rd nt a s (andThen (fun s' => EC P rom cv lf rd nt b s' K) K)
  | .cond c a b, s, K => match c.ev s.env with
    | some (.bool t) => bif t then EC P rom cv lf rd nt a s K else EC P rom cv lf rd nt b s K
    | _ => False
  | .block id a, s, K => EC P rom cv lf rd nt a s (inBlk id K)
  | .loop a, s, K => match lf with
    | none => TA P rom rd nt (.loop a) s K
    | some n => loopN (fun s K => EC P rom cv lf rd nt a s K) n s K
  | .exit id, s, K => K (.exit id) s
  | .ret, s, K => K .ret s
  | .rfunc f ps asg body, s, K => match rd, f.ev s.env with
    | none, some (.func g first caps) => cv (.func g first caps) [.yld (.own (s.nx + 1))] (rfHeap s ps asg body nt) (s.nx + 2) fun _ h2 nx2 => rfEnd s K h2 nx2
    | _, _ => False

def outD (res : List Nat) (Q : AVal → Heap → Nat → Prop) : Exit → St → Prop
  | .normal, s | .ret, s => match s.dfs, resVal s.env res with
    | [], some v => Q v s.h s.nx
    | _, _ => False
  | _, _ => False

abbrev AProg := FuncId → Option AFun
/-- What is told of functions is so. -/
def AProgOk (P : Program) (pg : AProg) : Prop := ∀ f af, pg f = some af → compFun P f = some af

def CDn (P : Program) (rom : Rom) (pg : AProg) (cv : CV) (lf : Option Nat) (f : FuncId) (args : List AVal) (h : Heap) (nx : Nat) (Q : AVal → Heap → Nat → Prop) : Prop :=
  match pg f with
  | some af => gd (decide (args.length ≤ af.nt)) (EC P rom cv lf none af.nt af.body ⟨initEnv args, h, nx, []⟩ (outD af.res Q))
  | none => CallDT P rom f args h nx Q

/-- Calls are gone into, so deep; below, or where nothing is told of a function, they are left as they are. -/
def CVn (P : Program) (rom : Rom) (pg : AProg) (lf : Option Nat) : Nat → CV
  | 0, fv, args, h, nx, Q => CallV P rom fv args h nx Q
  | n + 1, fv, args, h, nx, Q => match fv with
    | .func f first caps => match pg f with
      | some af => gd (decide ((first ++ args ++ caps).length ≤ af.nt))
          (EC P rom (CVn P rom pg lf n) lf none af.nt af.body ⟨initEnv (first ++ args ++ caps), h, nx, []⟩ (outK (CDn P rom pg (CVn P rom pg lf n) lf) af.res Q))
      | none => CallT P rom f (first ++ args ++ caps) h nx Q
    | .yld (.own i) => match h i with
      | some (.loop _ _ env nt ps asg body _) => gd (args.length == ps.length && (ps.all fun p => decide (p < nt)))
          (EC P rom (CVn P rom pg lf n) lf (some (.own i)) nt asg ⟨putMany env ps args, h, nx, []⟩ (roundMid i fun s' =>
            EC P rom (CVn P rom pg lf n) lf (some (.own i)) nt body s' (roundEnd i Q)))
      | _ => False
    | _ => False

theorem EOp.mono {cv : CV} (hcv : CVOk P rom cv) {rd : Option Bid} {o : AOp} {s : St} {K K' : St → Prop} (hk : ∀ s', K s' → K' s') (h : EOp rom cv rd o s K) : EOp rom cv rd o s K' := by
  have act : EAct rom cv rd o s K → EAct rom cv rd o s K' := by
    intro h
    unfold EAct at h ⊢
    split at h
    · split at h
      · exact hk _ h
      · exact h.elim
    · split at h
      · exact hcv.mono _ _ _ _ _ _ (fun v h' nx' q => hk _ q) h
      · exact h.elim
    · split at h
      · exact hk _ h
      · exact h.elim
  unfold EOp at h ⊢
  split at h
  · exact act h
  · split at h
    · rename_i b _
      revert h
      cases b == _ with
      | true => exact act
      | false => exact hk _
    · exact h.elim
theorem EOps.mono {cv : CV} (hcv : CVOk P rom cv) {rd : Option Bid} : ∀ {l : List AOp} {s : St} {K K' : St → Prop}, (∀ s', K s' → K' s') → EOps rom cv rd l s K → EOps rom cv rd l s K'
  | [], _, _, _, hk, h => hk _ h
  | _ :: _, _, _, _, hk, h => EOp.mono hcv (fun _ h' => EOps.mono hcv hk h') h
theorem EOpsD.mono {cv : CV} (hcv : CVOk P rom cv) {rd : Option Bid} : ∀ {l : List DOp} {lds : Lds} {s : St} {K K' : St → Prop}, (∀ s', K s' → K' s') → EOpsD rom cv rd l lds s K → EOpsD rom cv rd l lds s K'
  | [], _, _, _, _, hk, h => hk _ h
  | _ :: _, _, _, _, _, hk, h => EOpD.mono hcv h fun _ _ h' => EOpsD.mono hcv hk h'

theorem andThen_mono {k k' : St → Prop} {K K' : Exit → St → Prop} (h1 : ∀ s, k s → k' s) (h2 : ∀ e s, K e s → K' e s) : ∀ e s, andThen k K e s → andThen k' K' e s := by
  intro e s h
  cases e <;> first | exact h1 _ h | exact h2 _ _ h
theorem inBlk_mono {id : Nat} {K K' : Exit → St → Prop} (h2 : ∀ e s, K e s → K' e s) : ∀ e s, inBlk id K e s → inBlk id K' e s := by
  intro e s h
  cases e with
  | exit id' =>
    simp only [inBlk] at h ⊢
    split
    · rename_i hi; rw [if_pos hi] at h; exact h2 _ _ h
    · rename_i hi; rw [if_neg hi] at h; exact h2 _ _ h
  | _ => exact h2 _ _ h
theorem loopN_mono {step : St → (Exit → St → Prop) → Prop} (hs : ∀ s K K', (∀ e s, K e s → K' e s) → step s K → step s K') : ∀ n s K K', (∀ e s, K e s → K' e s) → loopN step n s K → loopN step n s K'
  | 0, _, _, _, _, h => h
  | n + 1, s, K, K', hk, h => hs _ _ _ (andThen_mono (fun s => loopN_mono hs n s K K' hk) hk) h
theorem rfEnd_mono {s : St} {K K' : Exit → St → Prop} (hk : ∀ e s, K e s → K' e s) {h2 : Heap} {nx2 : Nat} (h : rfEnd s K h2 nx2) : rfEnd s K' h2 nx2 := by
  unfold rfEnd at h ⊢
  split at h
  · rw [gd_iff] at h ⊢
    refine ⟨h.1, ?_⟩
    have h := h.2
    split at h
    · exact hk _ _ h
    · exact hk _ _ h
    · exact hk _ _ h
    · exact h
  · exact h

theorem EC_mono {cv : CV} (hcv : CVOk P rom cv) {lf : Option Nat} {rd : Option Bid} {nt : Nat} : ∀ (a : ACode) (s : St) (K K' : Exit → St → Prop), (∀ e s, K e s → K' e s) → EC P rom cv lf rd nt a s K → EC P rom cv lf rd nt a s K'
  | .skip, _, _, _, hk, h => hk _ _ h
  | .ops l, _, _, _, hk, h => EOps.mono hcv (hk _) h
  | .dops l, _, _, _, hk, h => EOpsD.mono hcv (hk _) h
  | .seq a b, s, K, K', hk, h => EC_mono hcv a s _ _ (andThen_mono (fun s' => EC_mono hcv b s' K K' hk) hk) h
  | .cond c a b, s, K, K', hk, h => by
    simp only [EC] at h ⊢
    split at h
    · rename_i t _
      cases t with
      | true => exact EC_mono hcv a s K K' hk h
      | false => exact EC_mono hcv b s K K' hk h
    · exact h
  | .block id a, s, K, K', hk, h => EC_mono hcv a s _ _ (inBlk_mono hk) h
  | .loop a, s, K, K', hk, h => by
    simp only [EC] at h ⊢
    split at h
    · exact fun c hc => (h c hc).mono hk
    · exact loopN_mono (fun s K K' => EC_mono hcv a s K K') _ _ _ _ hk h
  | .exit id, _, _, _, hk, h => hk _ _ h
  | .ret, _, _, _, hk, h => hk _ _ h
  | .rfunc f ps asg body, s, K, K', hk, h => by
    simp only [EC] at h ⊢
    split at h
    · exact hcv.mono _ _ _ _ _ _ (fun _ _ _ q => rfEnd_mono hk q) h
    · exact h

theorem Leave_mono {cd : FuncId → List AVal → Heap → Nat → (AVal → Heap → Nat → Prop) → Prop} (hcd : ∀ f args h nx Q Q', (∀ v h' nx', Q v h' nx' → Q' v h' nx') → cd f args h nx Q → cd f args h nx Q') {Q Q' : Heap → Nat → Prop} (hq : ∀ h nx, Q h nx → Q' h nx) :
    ∀ (ds : List ADef) (h : Heap) (nx : Nat), Leave cd Q ds h nx → Leave cd Q' ds h nx
  | [], _, _, hh => hq _ _ hh
  | .coll b :: ds, h, nx, hh => by
    cases b with
    | own i => exact gd_iff.2 ⟨(gd_iff.1 hh).1, Leave_mono hcd hq ds _ _ (gd_iff.1 hh).2⟩
    | arg i => exact hh
  | .clo f args :: ds, h, nx, hh => hcd _ _ _ _ _ _ (fun _ h' nx' => Leave_mono hcd hq ds h' nx') hh
theorem outK_mono {cd : FuncId → List AVal → Heap → Nat → (AVal → Heap → Nat → Prop) → Prop} (hcd : ∀ f args h nx Q Q', (∀ v h' nx', Q v h' nx' → Q' v h' nx') → cd f args h nx Q → cd f args h nx Q') {res : List Nat} {Q Q' : AVal → Heap → Nat → Prop} (hq : ∀ v h nx, Q v h nx → Q' v h nx) :
    ∀ e s, outK cd res Q e s → outK cd res Q' e s := by
  intro e s h
  cases e <;> simp only [outK] at h ⊢ <;> first
    | (split at h
       · exact Leave_mono hcd (hq _) _ _ _ h
       · exact h)
    | exact h
theorem outD_mono {res : List Nat} {Q Q' : AVal → Heap → Nat → Prop} (hq : ∀ v h nx, Q v h nx → Q' v h nx) : ∀ e s, outD res Q e s → outD res Q' e s := by
  intro e s h
  cases e <;> simp only [outD] at h ⊢ <;> first
    | (split at h
       · exact hq _ _ _ h
       · exact h)
    | exact h

theorem CallDT.mono {f : FuncId} {args : List AVal} {h : Heap} {nx : Nat} {Q Q' : AVal → Heap → Nat → Prop} (hq : ∀ v h' nx', Q v h' nx' → Q' v h' nx') (hc : CallDT P rom f args h nx Q) : CallDT P rom f args h nx Q' :=
  ⟨hc.1, fun β w rargs u h1 h2 h3 => (hc.2 β w rargs u h1 h2 h3).mono fun _ _ _ ⟨g0, β', v, h', rv, g1, g2, g3⟩ => ⟨g0, β', v, h', rv, g1, hq _ _ _ g2, g3⟩⟩

/-- The evaluator's word on a piece of code is true. -/
theorem EC_sound {cv : CV} (hcv : CVOk P rom cv) (hm : P.follows .mixedOrders = true) {lf : Option Nat} {rd : Option Bid} {nt : Nat} : ∀ (c : Code) (a : ACode) (s : St) (K : Exit → St → Prop), compCode P nt c = some a → EC P rom cv lf rd nt a s K → T P rom rd nt c s K := by
  intro c
  induction c with
  | skip => intro a s K hc h; simp [compCode] at hc; subst hc; exact T_skip h
  | label l => intro a s K hc h; simp [compCode] at hc; subst hc; exact T_label h
  | region id ops draw =>
    intro a s K hc h
    simp only [compCode] at hc
    cases draw with
    | true =>
      simp only [if_true] at hc
      have hd : ∃ ds, a = .dops ds := by
        have hc' := hc
        unfold compDrawn at hc'
        split at hc'
        · cases hc'
        · simp only at hc'
          split at hc'
          · split at hc'
            · injection hc' with hc'; exact ⟨_, hc'.symm⟩
            · cases hc'
          · cases hc'
      obtain ⟨ds, rfl⟩ := hd
      exact T_dops hcv hm hc h
    | false =>
      simp only [Bool.false_eq_true, if_false, Option.map_eq_some_iff] at hc
      obtain ⟨xs, h1, rfl⟩ := hc
      exact T_ops hcv h1 h
  | seq x y ihx ihy =>
    intro a s K hc h
    simp only [compCode] at hc
    split at hc
    · rename_i x' y' h1 h2
      injection hc with hc; subst hc
      refine T_seq (ihx _ s _ h1 (EC_mono hcv _ _ _ _ (andThen_mono (fun s' => ihy _ s' K h2) fun _ _ h => h) h))
    · cases hc
  | cond c x y ihx ihy =>
    intro a s K hc h
    simp only [compCode] at hc
    split at hc
    · rename_i c' x' y' h0 h1 h2
      injection hc with hc; subst hc
      simp only [EC] at h
      split at h
      · rename_i t ht
        refine T_cond h0 ht ?_
        cases t with
        | true => exact ihx _ s K h1 h
        | false => exact ihy _ s K h2 h
      · exact h.elim
    · cases hc
  | block id x ih =>
    intro a s K hc h
    simp only [compCode, Option.map_eq_some_iff] at hc
    obtain ⟨x', h1, rfl⟩ := hc
    exact T_block (ih _ s _ h1 h)
  | loop x ih =>
    intro a s K hc h
    have hc0 := hc
    simp only [compCode, Option.map_eq_some_iff] at hc
    obtain ⟨x', h1, rfl⟩ := hc
    simp only [EC] at h
    split at h
    · exact h _ hc0
    · rename_i n
      refine T_loop (fun n s => loopN (fun s K => EC P rom cv (some _) rd nt x' s K) n s K) n h ?_
      intro m s' hj
      cases m with
      | zero => exact hj.elim
      | succ m => exact ih _ s' _ h1 (EC_mono hcv _ _ _ _ (andThen_mono (fun s'' q => ⟨m, Nat.lt_succ_self m, q⟩) fun _ _ h => h) hj)
  | rangeFunc f ps asg body iha ihb =>
    intro a s K hc h
    simp only [compCode] at hc
    split at hc
    · rename_i f' x y h0 h1 h2
      injection hc with hc; subst hc
      simp only [EC] at h
      split at h
      · rename_i g first caps hv
        exact T_rfunc hcv h0 h1 h2 hv h
      · exact h.elim
    · cases hc
  | exit id => intro a s K hc h; simp [compCode] at hc; subst hc; exact T_exit h
  | ret => intro a s K hc h; simp [compCode] at hc; subst hc; exact T_ret h
  | scope b ih => intro a s K hc h; simp [compCode] at hc
  | goto l => intro a s K hc h; simp [compCode] at hc
  | refuse y => intro a s K hc h; simp [compCode] at hc

theorem compFun_spec {f : FuncId} {af : AFun} (h : compFun P f = some af) : okFun P f = true ∧ ∃ fn c, P.funcs[f]? = some fn ∧ fn.body = some c ∧ resSlots fn.results.toList = some af.res ∧ compCode P fn.ntmps c = some af.body ∧ af.nt = fn.ntmps := by
  unfold compFun at h
  split at h
  · rename_i hok
    split at h
    · rename_i fn hf
      split at h
      · rename_i c rs hb hr
        simp only [Option.map_eq_some_iff] at h
        obtain ⟨a, h1, rfl⟩ := h
        exact ⟨hok, fn, c, hf, hb, hr, h1, rfl⟩
      · cases h
    · cases h
  · cases h

theorem CDn_ok {pg : AProg} (hpg : AProgOk P pg) (hm : P.follows .mixedOrders = true) {cv : CV} (hcv : CVOk P rom cv) {lf : Option Nat} : ∀ f args h nx Q, CDn P rom pg cv lf f args h nx Q → CallDT P rom f args h nx Q := by
  intro f args h nx Q hc
  unfold CDn at hc
  split at hc
  · rename_i af haf
    obtain ⟨hok, fn, c, hf, hb, hr, hcc, hnt⟩ := compFun_spec (hpg f af haf)
    rw [hnt, gd_iff, decide_eq_true_eq] at hc
    refine callDT_of_T hok hf hb hr hc.1 ((EC_sound hcv hm c _ _ _ hcc hc.2).mono ?_)
    intro e s' k
    cases e <;> simp only [outD] at k <;> first
      | (split at k
         · rename_i h1 h2
           exact ⟨by simp, h1, _, h2, k⟩
         · exact k.elim)
      | exact k.elim
  · exact hc
theorem CDn_mono {pg : AProg} {cv : CV} (hcv : CVOk P rom cv) {lf : Option Nat} : ∀ f args h nx (Q Q' : AVal → Heap → Nat → Prop), (∀ v h' nx', Q v h' nx' → Q' v h' nx') → CDn P rom pg cv lf f args h nx Q → CDn P rom pg cv lf f args h nx Q' := by
  intro f args h nx Q Q' hq hc
  unfold CDn at hc ⊢
  split at hc
  · rw [gd_iff] at hc ⊢
    exact ⟨hc.1, EC_mono hcv _ _ _ _ (outD_mono hq) hc.2⟩
  · exact hc.mono hq

theorem CVn_ok {pg : AProg} (hpg : AProgOk P pg) (hm : P.follows .mixedOrders = true) {lf : Option Nat} : ∀ n, CVOk P rom (CVn P rom pg lf n)
  | 0 => CVOk.sem
  | n + 1 => by
    have ih := CVn_ok hpg hm (lf := lf) n
    refine ⟨?_, ?_⟩
    · intro fv args h nx Q hc
      unfold CVn at hc
      unfold CallV
      split at hc
      · rename_i f first caps
        split at hc
        · rename_i af haf
          obtain ⟨hok, fn, c, hf, hb, hr, hcc, hnt⟩ := compFun_spec (hpg f af haf)
          rw [hnt, gd_iff, decide_eq_true_eq] at hc
          exact callT_of_T (CDn_ok hpg hm ih) hok hf hb hr hc.1 (EC_sound ih hm c _ _ _ hcc hc.2)
        · exact hc
      · rename_i i
        split at hc
        · rename_i st pend env nt ps asg body d hi
          rw [gd_iff, Bool.and_eq_true, beq_iff_eq] at hc
          obtain ⟨⟨h1, h2⟩, h3⟩ := hc
          refine yldT_of_T hi h1 h2 fun ra rb ca cb => ?_
          refine EC_sound ih hm ra _ _ _ ca (EC_mono ih _ _ _ _ ?_ h3)
          intro e s' k
          unfold roundMid at k ⊢
          split at k
          · exact EC_sound ih hm rb _ _ _ cb k
          · exact k
        · exact hc.elim
      · exact hc.elim
    · intro fv args h nx Q Q' hq hc
      unfold CVn at hc ⊢
      split at hc
      · split at hc
        · rw [gd_iff] at hc ⊢
          exact ⟨hc.1, EC_mono ih _ _ _ _ (outK_mono (CDn_mono ih) hq) hc.2⟩
        · exact hc.mono hq
      · rename_i i
        split at hc
        · rw [gd_iff] at hc ⊢
          refine ⟨hc.1, EC_mono ih _ _ _ _ ?_ hc.2⟩
          intro e s' k
          unfold roundMid at k ⊢
          split at k
          · refine EC_mono ih _ _ _ _ ?_ k
            intro e2 s2 k2
            unfold roundEnd at k2 ⊢
            split at k2
            · exact hq _ _ _ k2
            · exact k2
          · exact k
        · exact hc
      · exact hc

/-- A function's contract by evaluation. -/
theorem callT_of_EC {pg : AProg} (hpg : AProgOk P pg) (hm : P.follows .mixedOrders = true) (lf : Option Nat) (n : Nat) {f : FuncId} {af : AFun} (hf : compFun P f = some af) {args : List AVal} {h : Heap} {nx : Nat} {Q : AVal → Heap → Nat → Prop} (hl : args.length ≤ af.nt)
    (hE : EC P rom (CVn P rom pg lf n) lf none af.nt af.body ⟨initEnv args, h, nx, []⟩ (outK (CDn P rom pg (CVn P rom pg lf n) lf) af.res Q)) : CallT P rom f args h nx Q := by
  obtain ⟨hok, fn, c, hf', hb, hr, hcc, hnt⟩ := compFun_spec hf
  rw [hnt] at hE hl
  exact callT_of_T (CDn_ok hpg hm (CVn_ok hpg hm n)) hok hf' hb hr hl (EC_sound (CVn_ok hpg hm n) hm c _ _ _ hcc hE)

end Go.AL
