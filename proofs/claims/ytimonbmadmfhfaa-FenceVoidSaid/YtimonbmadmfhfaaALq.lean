/- Helper text: regions that draw their order (2): what may come later is brought behind. -/
import Derived.Test.YtimonbmadmfhfaaALp
namespace Go.AL

variable {P : Program} {rom : Rom} {nt : Nat} {rd : Option Bid}

theorem exec_new {ai : AI} {env : Env} {h h' : Heap} {nx nx' : Nat} {v : AVal} (hk : ai.kind = 2) (hs : ∀ n a x, ai ≠ .store n a x) (ha : ∀ e z b s x, ai ≠ .append e z b s x) (hx : ai.exec rom env h nx = some (v, h', nx')) :
    ∃ o, h' = upd h nx (some o) := by
  cases ai <;> simp only [AI.kind] at hk <;> (try omega) <;> simp only [AI.exec] at hx <;> (repeat' split at hx) <;> first
    | (cases hx; done)
    | exact absurd rfl (hs _ _ _)
    | exact absurd rfl (ha _ _ _ _ _)
    | (simp only [Option.some.injEq, Prod.mk.injEq] at hx; exact ⟨_, hx.2.1.symm⟩)

theorem put_get {env : Env} {d : Option Nat} {v : Option AVal} {t : Nat} (h : d ≠ some t) : put env d v t = env t := by
  cases d with
  | none => rfl
  | some d => exact upd_ne _ _ (fun e => h (by rw [e]))
theorem put_comm {env : Env} {d d' : Option Nat} (v v' : Option AVal) (h : ∀ t, d = some t → d' ≠ some t) : put (put env d v) d' v' = put (put env d' v') d v := by
  cases d with
  | none => rfl
  | some d => cases d' with
    | none => rfl
    | some d' => exact upd_comm _ _ _ (fun e => h d rfl (by rw [e]))

theorem apart_spec {x y : AOp} (h : x.apart y = true) : (∀ t, x.dst = some t → t ∉ y.uses) ∧ (∀ t, x.dst = some t → y.dst ≠ some t) ∧ (∀ t, y.dst = some t → t ∉ x.uses) := by
  unfold AOp.apart at h
  simp only [Bool.and_eq_true] at h
  refine ⟨fun t ht => ?_, fun t ht => ?_, fun t ht => ?_⟩
  · have := h.1; rw [ht] at this; simp at this; exact this.1
  · have := h.1; rw [ht] at this; simp at this; exact this.2
  · have := h.2; rw [ht] at this; simp at this; exact this

theorem gst_put {o : AOp} {env : Env} {d : Option Nat} {v : Option AVal} (h : ∀ t, d = some t → t ∉ o.uses) : gst o (put env d v) = gst o env := by
  unfold gst
  cases hg : o.guard with
  | none => rfl
  | some g =>
    obtain ⟨e, w⟩ := g
    have : d ≠ some e := fun he => h e he (by simp [AOp.uses, hg])
    simp only [put_get this]
theorem use_put {o : AOp} {env : Env} {d : Option Nat} {v : Option AVal} (h : ∀ t, d = some t → t ∉ o.uses) : ∀ t, t ∈ o.act.slots → put env d v t = env t := by
  intro t ht
  exact put_get fun he => h t he (by simp [AOp.uses, ht])

/-- A light operation's step. -/
def YStep (rom : Rom) (y : DOp) (lds : Lds) (s : St) (u : Option AVal) (lds' : Lds) : Prop :=
  (gst y.op s.env = some false ∧ u = none ∧ lds' = lds) ∨
  (gst y.op s.env = some true ∧ ∃ ai v, y.op.act = .plain ai ∧ ai.exec rom s.env s.h s.nx = some (v, s.h, s.nx) ∧ u = some v ∧
    lds' = if ai.kind = 1 then upd lds y.idx (some fun h nx => ai.exec rom s.env h nx = some (v, h, nx)) else lds)

theorem ystep_iff {cv : CV} {y : DOp} (hk : y.op.act.kind ≤ 1) {lds : Lds} {s : St} {K : Lds → St → Prop} :
    EOpD rom cv rd y lds s K ↔ ∃ u lds', YStep rom y lds s u lds' ∧ K lds' ⟨put s.env y.op.dst u, s.h, s.nx, s.dfs⟩ := by
  constructor
  · intro h
    unfold EOpD at h
    split at h
    · rename_i hg
      unfold EActD at h
      split at h
      · rename_i ai hai
        split at h
        · rename_i v h' nx' hx
          rw [hai] at hk
          obtain ⟨rfl, rfl⟩ := exec_light hk hx
          exact ⟨_, _, .inr ⟨hg, ai, v, hai, hx, rfl, rfl⟩, h⟩
        · exact h.elim
      · rename_i hai; rw [hai] at hk; simp [AAct.kind] at hk
      · rename_i hai; rw [hai] at hk; simp [AAct.kind] at hk
    · rename_i hg
      exact ⟨none, lds, .inl ⟨hg, rfl, rfl⟩, h⟩
    · exact h.elim
  · rintro ⟨u, lds', hy | ⟨hg, ai, v, hai, hx, rfl, rfl⟩, k⟩
    · obtain ⟨hg, rfl, rfl⟩ := hy
      unfold EOpD; rw [hg]; exact k
    · unfold EOpD EActD
      simp only [hg, hai, hx]
      exact k

theorem ldsOk_upd {l : Lds} {h : Heap} {nx i : Nat} {e : Option (Heap → Nat → Prop)} : ∀ {re : List Nat}, ldsOk (upd l i e) h nx re → l i = none → ldsOk l h nx re
  | [], _, _ => trivial
  | j :: re, hh, hn => by
    refine ⟨?_, ldsOk_upd hh.2 hn⟩
    by_cases hj : j = i
    · subst hj; rw [hn]; trivial
    · have := hh.1; rwa [upd_ne _ _ hj] at this
theorem ldsOk_mem {l : Lds} {h : Heap} {nx i : Nat} {e : Heap → Nat → Prop} : ∀ {re : List Nat}, ldsOk l h nx re → i ∈ re → l i = some e → e h nx
  | j :: re, hh, hm, hl => by
    rcases List.mem_cons.1 hm with rfl | hm
    · have := hh.1; rwa [hl] at this
    · exact ldsOk_mem hh.2 hm hl

/-- The light one behind the other. -/
theorem swap {cv : CV} (hcv : CVOk P rom cv) {x y : DOp} {lds : Lds} {s : St} {K : Lds → St → Prop} (hp : y.op.passes x.op = true) (hi : y.idx ≠ x.idx)
    (hre : y.op.act.kind ≠ 1 ∨ isCall x.op.act = false ∨ y.idx ∈ x.re) (hf : s.h s.nx = none) (hly : lds y.idx = none)
    (h : EOpD rom cv rd y lds s fun l1 s1 => EOpD rom cv rd x l1 s1 K) : EOpD rom cv rd x lds s fun l1 s1 => EOpD rom cv rd y l1 s1 K := by
  unfold AOp.passes at hp
  simp only [Bool.and_eq_true, decide_eq_true_eq] at hp
  obtain ⟨⟨hap, hky⟩, hkx⟩ := hp
  obtain ⟨a1, a2, a3⟩ := apart_spec hap
  obtain ⟨u, l1, hy, hx⟩ := (ystep_iff hky).1 h
  have hgx : gst x.op (put s.env y.op.dst u) = gst x.op s.env := gst_put a1
  have hgy : ∀ v, gst y.op (put s.env x.op.dst v) = gst y.op s.env := fun v => gst_put a3
  have hcm : ∀ v, put (put s.env y.op.dst u) x.op.dst v = put (put s.env x.op.dst v) y.op.dst u := fun v => put_comm _ _ a2
  have hsx := use_put (env := s.env) (v := u) a1
  -- the light one's step at a later state
  have later : ∀ (v : Option AVal) (h' : Heap) (nx' : Nat) (dfs' : List ADef) (lds2 : Lds), lds2 y.idx = none ∨ True →
      (gst y.op s.env = some true → ∀ ai w, y.op.act = .plain ai → ai.exec rom s.env s.h s.nx = some (w, s.h, s.nx) → ai.exec rom s.env h' nx' = some (w, h', nx')) →
      ∀ (K2 : Lds → St → Prop), (∀ l2, (l1 = lds → l2 = lds2) → (∀ e, l1 = upd lds y.idx (some e) → l2 = upd lds2 y.idx (some e)) → (l1 = lds ∨ ∃ e, l1 = upd lds y.idx (some e)) → K2 l2 ⟨put (put s.env x.op.dst v) y.op.dst u, h', nx', dfs'⟩) →
      EOpD rom cv rd y lds2 ⟨put s.env x.op.dst v, h', nx', dfs'⟩ K2 := by
    intro v h' nx' dfs' lds2 _ hex K2 hk2
    refine (ystep_iff hky).2 ?_
    rcases hy with ⟨g, rfl, rfl⟩ | ⟨g, ai, w, hai, hxe, rfl, hl1⟩
    · refine ⟨none, lds2, .inl ⟨by rw [hgy]; exact g, rfl, rfl⟩, hk2 lds2 (fun _ => rfl) (fun e he => ?_) (.inl rfl)⟩
      have := congrFun he y.idx
      rw [upd_same, hly] at this; cases this
    · have hsy : ∀ t, t ∈ ai.slots → put s.env x.op.dst v t = s.env t := fun t ht => use_put (o := y.op) a3 t (by rw [hai]; exact ht)
      refine ⟨some w, if ai.kind = 1 then upd lds2 y.idx (some fun h nx => ai.exec rom s.env h nx = some (w, h, nx)) else lds2, .inr ⟨by rw [hgy]; exact g, ai, w, hai, ?_, rfl, ?_⟩, ?_⟩
      · rw [exec_congr hsy]; exact hex g ai w hai hxe
      · by_cases h1 : ai.kind = 1
        · rw [if_pos h1, if_pos h1]
          congr 2; funext h nx; rw [exec_congr hsy]
        · rw [if_neg h1, if_neg h1]
      · refine hk2 _ (fun he => ?_) (fun e he => ?_) ?_
        · by_cases h1 : ai.kind = 1
          · rw [if_pos h1] at hl1
            have := congrFun (hl1.symm.trans he) y.idx
            rw [upd_same, hly] at this; cases this
          · rw [if_neg h1]
        · by_cases h1 : ai.kind = 1
          · rw [if_pos h1] at hl1 ⊢
            have := congrFun (hl1.symm.trans he) y.idx
            rw [upd_same, upd_same] at this; rw [this]
          · rw [if_neg h1] at hl1
            have := congrFun (hl1.symm.trans he) y.idx
            rw [upd_same, hly] at this; cases this
        · by_cases h1 : ai.kind = 1
          · rw [if_pos h1] at hl1; exact .inr ⟨_, hl1⟩
          · rw [if_neg h1] at hl1; exact .inl hl1
  have same : gst y.op s.env = some true → ∀ ai w, y.op.act = .plain ai → ai.exec rom s.env s.h s.nx = some (w, s.h, s.nx) → ai.exec rom s.env s.h s.nx = some (w, s.h, s.nx) := fun _ _ _ _ h => h
  have hlcase : l1 = lds ∨ ∃ e, l1 = upd lds y.idx (some e) := by
    rcases hy with ⟨g, rfl, rfl⟩ | ⟨g, ai, w, hai, hxe, rfl, hl1⟩
    · exact .inl rfl
    · by_cases h1 : ai.kind = 1
      · rw [if_pos h1] at hl1; exact .inr ⟨_, hl1⟩
      · rw [if_neg h1] at hl1; exact .inl hl1
  unfold EOpD at hx ⊢
  rw [hgx] at hx
  split at hx
  · rename_i hg
    unfold EActD at hx ⊢
    split at hx
    · -- a plain one
      rename_i ai hai
      rw [hai] at hsx
      have hsx' : ∀ t, t ∈ ai.slots → put s.env y.op.dst u t = s.env t := hsx
      simp only [exec_congr hsx'] at hx
      split at hx
      · rename_i v h' nx' hxe
        simp only [hai, hxe]
        refine later (some v) h' nx' s.dfs _ (.inr trivial) ?_ K ?_
        · intro hgt bi w hbi hb
          by_cases hb0 : bi.kind = 0
          · exact exec_pure hb0 hb h' nx'
          · have hb1 : bi.kind = 1 := by rw [hbi] at hky; simp only [AAct.kind] at hky; omega
            by_cases hk1 : ai.kind ≤ 1
            · obtain ⟨rfl, rfl⟩ := exec_light hk1 hxe; exact hb
            · have hk2 : ai.kind = 2 := by cases ai <;> simp [AI.kind] at hk1 ⊢
              rw [hai, hbi] at hkx
              simp only [AAct.kind, Bool.or_eq_true] at hkx
              rcases hkx with hkx | hkx
              · exact absurd (of_decide_eq_true hkx) hk1
              · obtain ⟨o, ho⟩ := exec_new hk2 (by rintro n p q rfl; exact hb0 (of_decide_eq_true hkx)) (by rintro e z b p q rfl; exact hb0 (of_decide_eq_true hkx)) hxe
                subst ho
                exact exec_read hb1 hb o hf nx'
        · intro l2 q1 q2 q3
          rw [← hcm]
          rcases q3 with rfl | ⟨e, rfl⟩
          · rw [q1 rfl]; exact hx
          · rw [q2 e rfl]
            by_cases h1 : ai.kind = 1
            · rw [if_pos h1] at hx ⊢
              rw [upd_comm _ _ _ (Ne.symm hi)]
              first | exact hx | (simp only [exec_congr hsx'] at hx; exact hx)
            · rw [if_neg h1] at hx ⊢; exact hx
      · exact hx.elim
    · -- a call
      rename_i f args hai
      rw [hai] at hsx
      have e1 : f.ev (put s.env y.op.dst u) = f.ev s.env := ev_congr fun t ht => hsx t (by simp [AAct.slots, ht])
      have e2 : evs (put s.env y.op.dst u) args = evs s.env args := evs_congr fun t ht => hsx t (by simp [AAct.slots, ht])
      rw [e1, e2] at hx
      split at hx
      · rename_i fv vs hfv hvs
        simp only [hai, hfv, hvs]
        refine hcv.mono _ _ _ _ _ _ ?_ hx
        rintro r h' nx' ⟨q1, q2⟩
        refine ⟨?_, later (some r) h' nx' s.dfs lds (.inr trivial) ?_ K ?_⟩
        · rcases hlcase with rfl | ⟨e, rfl⟩
          · exact q1
          · exact ldsOk_upd q1 hly
        · intro hgt bi w hbi hb
          by_cases hb0 : bi.kind = 0
          · exact exec_pure hb0 hb h' nx'
          · have hb1 : bi.kind = 1 := by rw [hbi] at hky; simp only [AAct.kind] at hky; omega
            rcases hre with hre | hre | hre
            · rw [hbi] at hre; exact absurd hb1 hre
            · rw [hai] at hre; simp [isCall] at hre
            · -- it was read again
              rcases hy with ⟨g, _, _⟩ | ⟨g, ai', w', hai', hxe', _, hl1⟩
              · rw [hgt] at g; simp at g
              · rw [hbi] at hai'; injection hai' with hai'; subst hai'
                rw [if_pos hb1] at hl1
                subst hl1
                have := ldsOk_mem q1 hre (upd_same _ _ _)
                rw [hb] at hxe'
                simp only [Option.some.injEq, Prod.mk.injEq, and_true] at hxe'
                rw [hxe']; exact this
        · intro l2 p1 p2 p3
          rw [← hcm]
          rcases p3 with rfl | ⟨e, rfl⟩
          · rw [p1 rfl]; exact q2
          · rw [p2 e rfl]; exact q2
      · exact hx.elim
    · -- a deferred call
      rename_i f args hai
      rw [hai] at hsx
      have e1 : f.ev (put s.env y.op.dst u) = f.ev s.env := ev_congr fun t ht => hsx t (by simp [AAct.slots, ht])
      have e2 : evs (put s.env y.op.dst u) args = evs s.env args := evs_congr fun t ht => hsx t (by simp [AAct.slots, ht])
      rw [e1, e2] at hx
      split at hx
      · rename_i g first caps vs hfv hvs
        simp only [hai, hfv, hvs]
        refine later none s.h s.nx _ lds (.inr trivial) same K ?_
        intro l2 p1 p2 p3
        rw [← hcm]
        rcases p3 with rfl | ⟨e, rfl⟩
        · rw [p1 rfl]; exact hx
        · rw [p2 e rfl]; exact hx
      · exact hx.elim
  · refine later none s.h s.nx s.dfs lds (.inr trivial) same K ?_
    intro l2 q1 q2 q3
    rw [← hcm]
    rcases q3 with rfl | ⟨e, rfl⟩
    · rw [q1 rfl]; exact hx
    · rw [q2 e rfl]; exact hx
  · exact hx.elim

end Go.AL
