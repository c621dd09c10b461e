/- Helper text: regions that draw their order (3): one order serves all. -/
import Derived.Test.YtimonbmadmfhfaaALq
namespace Go.AL

variable {P : Program} {rom : Rom} {nt : Nat} {rd : Option Bid}

inductive Anc (ops : Array Oper) : Nat → Nat → Prop
  | base {i j : Nat} {o : Oper} (h : ops[j]? = some o) (hi : i ∈ preds o) : Anc ops i j
  | step {i k j : Nat} {o : Oper} (h : ops[j]? = some o) (hk : k ∈ preds o) (ha : Anc ops i k) : Anc ops i j

theorem beforeAll_go {ops : Array Oper} : ∀ (l : List Oper) (acc : List (List Nat)), (∀ p o, l[p]? = some o → ops[acc.length + p]? = some o) → (∀ j i, i ∈ acc.getD j [] → Anc ops i j) →
    ∀ j i, i ∈ (l.foldl (fun (acc : List (List Nat)) o => acc ++ [((preds o).flatMap fun j => j :: acc.getD j []).eraseDups]) acc).getD j [] → Anc ops i j
  | [], acc, _, h2, j, i, hi => h2 j i hi
  | o :: l, acc, h1, h2, j, i, hi => by
    simp only [List.foldl_cons] at hi
    refine beforeAll_go l _ (fun p o' hp => ?_) (fun j i hi => ?_) j i hi
    · have := h1 (p + 1) o' (by simpa using hp)
      simpa [Nat.add_assoc, Nat.add_comm 1] using this
    · rw [List.getD_eq_getElem?_getD] at hi
      by_cases hj : j < acc.length
      · rw [List.getElem?_append_left hj, ← List.getD_eq_getElem?_getD] at hi
        exact h2 j i hi
      · rw [List.getElem?_append_right (by omega)] at hi
        by_cases he : j = acc.length
        · subst he
          simp only [Nat.sub_self, List.getElem?_cons_zero, Option.getD_some, List.mem_eraseDups, List.mem_flatMap, List.mem_cons] at hi
          obtain ⟨k, hk, rfl | hik⟩ := hi
          · exact .base (h1 0 o rfl) hk
          · exact .step (h1 0 o rfl) hk (h2 k i hik)
        · rw [List.getElem?_eq_none (by simp; omega)] at hi
          cases hi
theorem beforeAll_anc {ops : Array Oper} {i j : Nat} (h : i ∈ (beforeAll ops.toList).getD j []) : Anc ops i j :=
  beforeAll_go ops.toList [] (fun p o hp => by simpa using hp) (fun j i hi => by simp at hi) j i h

theorem anc_listed {ops : Array Oper} {listed : Array Bool} (hcl : ∀ i o, listed.getD i false = true → ops[i]? = some o → ∀ j ∈ preds o, listed.getD j false = true) {i j : Nat} (ha : Anc ops i j) :
    (∀ o, ops[j]? = some o → ∀ k ∈ preds o, listed.getD k false = true) → listed.getD i false = true := by
  induction ha with
  | base h hi => exact fun hp => hp _ h _ hi
  | step h hk ha ih => exact fun hp => ih fun o ho => hcl _ o (hp _ h _ hk) ho

/-- Which may stand in which order. -/
def Rok (bef : List (List Nat)) (x y : DOp) : Prop :=
  x.idx ∈ bef.getD y.idx [] ∨ (x.idx ≠ y.idx ∧ x.op.passes y.op = true ∧ (x.op.act.kind ≠ 1 ∨ isCall y.op.act = false ∨ x.idx ∈ y.re))

theorem pairsOk_spec {bef : List (List Nat)} : ∀ {l : List DOp}, pairsOk bef l = true → l.Pairwise (Rok bef)
  | [], _ => .nil
  | x :: rest, h => by
    simp only [pairsOk, Bool.and_eq_true, List.all_eq_true] at h
    refine .cons (fun y hy => ?_) (pairsOk_spec h.2)
    have := h.1 y hy
    simp only [Bool.or_eq_true, Bool.and_eq_true, decide_eq_true_eq, Bool.not_eq_true', List.contains_iff_mem] at this
    rcases this with this | ⟨⟨h1, h2⟩, h3⟩
    · exact .inl this
    · refine .inr ⟨h1, h2, ?_⟩
      rcases h3 with (h3 | h3) | h3
      · exact .inl h3
      · exact .inr (.inl h3)
      · exact .inr (.inr h3)

def Firsts (ops : Array Oper) (don : Nat → Prop) : List DOp → Prop
  | [] => True
  | x :: rest => (∃ o, ops[x.idx]? = some o ∧ ∀ j ∈ preds o, don j) ∧ ¬ don x.idx ∧ Firsts ops (fun j => j = x.idx ∨ don j) rest
theorem Firsts.congr {ops : Array Oper} : ∀ {l : List DOp} {d d' : Nat → Prop}, (∀ j, d j ↔ d' j) → Firsts ops d l → Firsts ops d' l
  | [], _, _, _, _ => trivial
  | x :: rest, d, d', h, ⟨⟨o, h1, h2⟩, h3, h4⟩ => ⟨⟨o, h1, fun j hj => (h j).1 (h2 j hj)⟩, fun hh => h3 ((h _).2 hh), h4.congr fun j => by rw [h j]⟩
theorem predsFirst_spec {ops : Array Oper} : ∀ {l : List DOp} {don : List Nat}, predsFirst ops don l = true → Firsts ops (· ∈ don) l
  | [], _, _ => trivial
  | x :: rest, don, h => by
    simp only [predsFirst, Bool.and_eq_true, Bool.not_eq_true'] at h
    obtain ⟨⟨h1, h2⟩, h3⟩ := h
    refine ⟨?_, fun hm => ?_, (predsFirst_spec h3).congr fun j => by simp⟩
    · split at h1
      · rename_i o ho
        simp only [List.all_eq_true, List.contains_iff_mem] at h1
        exact ⟨o, ho, h1⟩
      · cases h1
    · rw [← Bool.not_eq_true, List.contains_iff_mem] at h2; exact h2 hm
/-- One is taken out of the midst, all ahead of it being done. -/
theorem Firsts.take {ops : Array Oper} {d : DOp} {l2 : List DOp} : ∀ {l1 : List DOp} {don : Nat → Prop}, Firsts ops don (l1 ++ d :: l2) → Firsts ops (fun j => j = d.idx ∨ don j) (l1 ++ l2)
  | [], don, ⟨_, _, h⟩ => h
  | x :: l1, don, ⟨⟨o, h1, h2⟩, h3, h4⟩ => by
    refine ⟨⟨o, h1, fun j hj => .inr (h2 j hj)⟩, ?_, ?_⟩
    · rintro (he | he)
      · have : ∀ {l : List DOp} {e : Nat → Prop}, Firsts ops e (l ++ d :: l2) → ¬ e d.idx := by
          intro l
          induction l with
          | nil => exact fun h => h.2.1
          | cons y l ih => exact fun h hh => ih h.2.2 (.inr hh)
        exact this h4 (.inl he.symm)
      · exact h3 he
    · exact (Firsts.take h4).congr fun j => by
        constructor
        · rintro (h | h | h)
          · exact .inr (.inl h)
          · exact .inl h
          · exact .inr (.inr h)
        · rintro (h | h | h)
          · exact .inr (.inl h)
          · exact .inl h
          · exact .inr (.inr h)
theorem Firsts.notMem {ops : Array Oper} : ∀ {l : List DOp} {don : Nat → Prop}, Firsts ops don l → ∀ d ∈ l, ¬ don d.idx
  | x :: l, don, ⟨_, h2, h3⟩, d, hd => by
    rcases List.mem_cons.1 hd with rfl | hd
    · exact h2
    · exact fun hh => Firsts.notMem h3 d hd (.inr hh)

theorem EOpD.lds {cv : CV} (hcv : CVOk P rom cv) {d : DOp} {lds : Lds} {s : St} {K : Lds → St → Prop} (h : EOpD rom cv rd d lds s K) : EOpD rom cv rd d lds s fun l' s' => (∀ j, j ≠ d.idx → l' j = lds j) ∧ K l' s' := by
  unfold EOpD at h ⊢
  split at h
  · unfold EActD at h ⊢
    split at h
    · rename_i ai hai
      split at h
      · refine ⟨fun j hj => ?_, h⟩
        split
        · exact upd_ne _ _ hj
        · rfl
      · exact h.elim
    · split at h
      · exact hcv.mono _ _ _ _ _ _ (fun v h' nx' q => ⟨q.1, fun _ _ => rfl, q.2⟩) h
      · exact h.elim
    · split at h
      · exact ⟨fun _ _ => rfl, h⟩
      · exact h.elim
  · exact ⟨fun _ _ => rfl, h⟩
  · exact h.elim

theorem bubble {cv : CV} (hcv : CVOk P rom cv) {d : DOp} {l2 : List DOp} {K : St → Prop} : ∀ {l1 : List DOp} {lds : Lds} {s : St}, s.h s.nx = none → (∀ y ∈ l1, y.idx ≠ d.idx ∧ y.op.passes d.op = true ∧ (y.op.act.kind ≠ 1 ∨ isCall d.op.act = false ∨ y.idx ∈ d.re)) →
    (∀ y ∈ l1, lds y.idx = none) → (l1.map (·.idx)).Nodup → EOpsD rom cv rd (l1 ++ d :: l2) lds s K → EOpD rom cv rd d lds s fun l' s' => EOpsD rom cv rd (l1 ++ l2) l' s' K
  | [], _, _, _, _, _, _, h => h
  | y :: l1, lds, s, hf, hp, hl, hn, h => by
    obtain ⟨p1, p2, p3⟩ := hp y (by simp)
    have hk : y.op.act.kind ≤ 1 := by
      unfold AOp.passes at p2
      simp only [Bool.and_eq_true, decide_eq_true_eq] at p2
      exact p2.1.2
    obtain ⟨u, lds', hy, hk2⟩ := (ystep_iff hk).1 h
    simp only [List.map_cons, List.nodup_cons] at hn
    have hl' : ∀ z ∈ l1, lds' z.idx = none := fun z hz => by
      have hzy : z.idx ≠ y.idx := fun e => hn.1 (by rw [← e]; exact List.mem_map_of_mem hz)
      rcases hy with ⟨_, _, rfl⟩ | ⟨_, ai, w, _, _, _, rfl⟩
      · exact hl z (by simp [hz])
      · split
        · rw [upd_ne _ _ hzy]; exact hl z (by simp [hz])
        · exact hl z (by simp [hz])
    have ih := bubble hcv (l1 := l1) (lds := lds') (s := ⟨put s.env y.op.dst u, s.h, s.nx, s.dfs⟩) hf (fun z hz => hp z (by simp [hz])) hl' hn.2 hk2
    exact swap hcv p2 p1 p3 hf (hl y (by simp)) ((ystep_iff hk).2 ⟨u, lds', hy, ih⟩)

theorem any_sound {cv : CV} (hcv : CVOk P rom cv) {ops : Array Oper} {bef : List (List Nat)} (hbef : bef = beforeAll ops.toList) {β₀ : Beta} {h₀ : Heap} {w₀ : World} {K : Exit → St → Prop} (hb : ∀ b, rd = some b → β₀.ok b) :
    ∀ (fuel : Nat) (listed : Array Bool) (L : List DOp) (lds : Lds) (β : Beta) (s : St) (a : Act) (w : World), L.length = fuel → listed.size = ops.size → (∀ i, i < ops.size → (listed.getD i false = true ∨ ∃ d ∈ L, d.idx = i)) →
      (∀ d ∈ L, d.idx < ops.size ∧ ∃ o, ops[d.idx]? = some o ∧ compOper P ops nt o = some d.op) → L.Pairwise (Rok bef) → Firsts ops (fun j => listed.getD j false = true) L → (L.map (·.idx)).Nodup →
      (∀ i o, listed.getD i false = true → ops[i]? = some o → ∀ j ∈ preds o, listed.getD j false = true) → (∀ d ∈ L, lds d.idx = none) →
      SRel P β rom nt s a w → Mv β₀ h₀ w₀ β s.h w → EOpsD rom cv rd L lds s (K .normal) → wpAnyIn (FF β₀ rd) 0 P .any ops (Post P rom nt β₀ h₀ w₀ K) fuel listed a w := by
  intro fuel
  induction fuel with
  | zero =>
    intro listed L lds β s a w hlen hsz hcov _ _ _ _ _ _ R M hE
    have hL : L = [] := List.eq_nil_of_length_eq_zero hlen
    subst hL
    refine ⟨?_, β, s, hE, R, M⟩
    unfold Region.ready
    rw [List.filter_eq_nil_iff]
    intro i hi
    simp only [List.mem_range] at hi
    rcases hcov i hi with h | ⟨d, hd, _⟩
    · have : listed.getD i true = true := by
        have hlt : i < listed.size := by omega
        rw [Array.getD_eq_getD_getElem?, Array.getElem?_eq_getElem hlt] at h ⊢
        simpa using h
      simp [this]
    · cases hd
  | succ fuel ih =>
    intro listed L lds β s a w hlen hsz hcov hcomp hpair hfirst hnod hcl hlds R M hE
    have hget : ∀ i, i < ops.size → listed.getD i true = listed.getD i false := fun i hi => by
      have hlt : i < listed.size := by omega
      rw [Array.getD_eq_getD_getElem?, Array.getD_eq_getD_getElem?, Array.getElem?_eq_getElem hlt]; rfl
    refine ⟨fun hr => ?_, fun i hi => ?_⟩
    · exfalso
      cases L with
      | nil => simp at hlen
      | cons d L =>
        obtain ⟨⟨o, ho, hp⟩, hnd, _⟩ := hfirst
        have hd := (hcomp d (by simp)).1
        have : d.idx ∈ Region.ready .any ops listed := by
          unfold Region.ready
          rw [List.mem_filter]
          refine ⟨List.mem_range.2 hd, ?_⟩
          rw [hget _ hd]
          have h1 : listed.getD d.idx false = false := by simpa using hnd
          simp only [h1, Bool.not_false, ho, Option.map_some, Option.getD_some, Bool.true_and]
          rw [Array.all_eq_true']
          intro e he
          by_cases hbd : Region.binds .any e = true
          · have : e.on ∈ preds o := by simp only [preds, List.mem_map, List.mem_filter]; exact ⟨e, ⟨by simpa using he, hbd⟩, rfl⟩
            simp [hp _ this]
          · simp [hbd]
        rw [hr] at this; cases this
    · unfold Region.ready at hi
      rw [List.mem_filter] at hi
      obtain ⟨hi1, hi2⟩ := hi
      have hi1 := List.mem_range.1 hi1
      rw [hget _ hi1] at hi2
      simp only [Bool.and_eq_true, Bool.not_eq_true'] at hi2
      obtain ⟨hi2, hi3⟩ := hi2
      rcases hcov i hi1 with hx | ⟨d, hd, rfl⟩
      · rw [hx] at hi2; cases hi2
      · obtain ⟨hlt, o, ho, hco⟩ := hcomp d hd
        have hpd : ∀ k ∈ preds o, listed.getD k false = true := by
          intro k hk
          simp only [preds, List.mem_map, List.mem_filter] at hk
          obtain ⟨e, ⟨he, hbd⟩, rfl⟩ := hk
          simp only [ho, Option.map_some, Option.getD_some] at hi3
          rw [Array.all_eq_true'] at hi3
          have := hi3 e (by simpa using he)
          simpa [hbd] using this
        obtain ⟨l1, l2, rfl⟩ := List.append_of_mem hd
        have hno := hfirst.notMem
        have hpass : ∀ y ∈ l1, y.idx ≠ d.idx ∧ y.op.passes d.op = true ∧ (y.op.act.kind ≠ 1 ∨ isCall d.op.act = false ∨ y.idx ∈ d.re) := by
          intro y hy
          have hR : Rok bef y d := (List.pairwise_append.1 hpair).2.2 y hy d (by simp)
          rcases hR with hR | hR
          · exfalso
            rw [hbef] at hR
            have := anc_listed hcl (beforeAll_anc hR) fun o' ho' => by rw [ho] at ho'; injection ho' with ho'; exact ho' ▸ hpd
            exact hno y (by simp [hy]) this
          · exact hR
        have hfr : s.h s.nx = none := by
          cases hh : s.h s.nx with
          | none => rfl
          | some ob => have := (R.heap.obj _ ob hh).1; rw [R.nx] at this; exact absurd this (Nat.lt_irrefl _)
        have hnod' : ((l1 ++ l2).map (·.idx)).Nodup ∧ ∀ z ∈ l1 ++ l2, z.idx ≠ d.idx := by
          rw [List.map_append, List.map_cons, List.nodup_append] at hnod
          obtain ⟨q1, q2, q3⟩ := hnod
          rw [List.nodup_cons] at q2
          refine ⟨?_, ?_⟩
          · rw [List.map_append, List.nodup_append]
            exact ⟨q1, q2.2, fun x hx y hy => q3 x hx y (by simp [hy])⟩
          · intro z hz e
            rcases List.mem_append.1 hz with hz | hz
            · exact q3 z.idx (List.mem_map_of_mem hz) d.idx (by simp) e
            · exact q2.1 (by rw [← e]; exact List.mem_map_of_mem hz)
        have hnl1 : (l1.map (·.idx)).Nodup := by
          rw [List.map_append, List.nodup_append] at hnod; exact hnod.1
        have hB := (bubble hcv hfr hpass (fun y hy => hlds y (by simp [hy])) hnl1 hE).lds hcv
        have hE2 := hB.op hcv (K' := fun s' => ∃ l', (∀ j, j ≠ d.idx → l' j = lds j) ∧ EOpsD rom cv rd (l1 ++ l2) l' s' (K .normal)) fun l' s' q => ⟨l', q⟩
        rw [← FF_ext M.ext hb]
        refine EOp_sound hcv ho hco R hE2 ?_
        rintro β' s' a' w' ⟨l', q1, q2⟩ R' M'
        rw [FF_ext M.ext hb]
        have hset : ∀ j, (listed.setIfInBounds d.idx true).getD j false = true ↔ j = d.idx ∨ listed.getD j false = true := by
          intro j
          rw [Array.getD_eq_getD_getElem?, Array.getElem?_setIfInBounds, Array.getD_eq_getD_getElem?]
          by_cases hj : d.idx = j
          · subst hj
            have : d.idx < listed.size := by omega
            simp [this]
          · simp [hj, Ne.symm hj]
        refine ih (listed.setIfInBounds d.idx true) (l1 ++ l2) l' β' s' a' w' (by simp at hlen ⊢; omega) (by simpa using hsz) ?_ (fun z hz => hcomp z (by simp only [List.mem_append, List.mem_cons] at hz ⊢; rcases hz with hz | hz; exact .inl hz; exact .inr (.inr hz))) ?_ ?_ hnod'.1 ?_ ?_ R' (M.trans M') q2
        · intro i hi
          rcases hcov i hi with h | ⟨z, hz, rfl⟩
          · exact .inl ((hset i).2 (.inr h))
          · by_cases hzd : z.idx = d.idx
            · exact .inl ((hset _).2 (.inl hzd))
            · refine .inr ⟨z, ?_, rfl⟩
              simp only [List.mem_append, List.mem_cons] at hz ⊢
              rcases hz with hz | rfl | hz
              · exact .inl hz
              · exact absurd rfl hzd
              · exact .inr hz
        · rw [List.pairwise_append] at hpair ⊢
          obtain ⟨r1, r2, r3⟩ := hpair
          exact ⟨r1, (List.pairwise_cons.1 r2).2, fun x hx y hy => r3 x hx y (by simp [hy])⟩
        · exact (Firsts.take hfirst).congr fun j => (hset j).symm
        · intro i o' hi ho' j hj
          rw [hset] at hi ⊢
          rcases hi with rfl | hi
          · rw [ho] at ho'; injection ho' with ho'; subst ho'
            exact .inr (hpd j hj)
          · exact .inr (hcl i o' hi ho' j hj)
        · intro z hz
          rw [q1 z.idx (hnod'.2 z hz)]
          exact hlds z (by simp only [List.mem_append, List.mem_cons] at hz ⊢; rcases hz with hz | hz; exact .inl hz; exact .inr (.inr hz))

end Go.AL
