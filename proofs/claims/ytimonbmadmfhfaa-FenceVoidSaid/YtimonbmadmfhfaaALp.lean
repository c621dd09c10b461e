/- Helper text: regions that draw their order. -/
import Derived.Test.YtimonbmadmfhfaaALo
namespace Go.AL

variable {P : Program} {rom : Rom} {nt : Nat} {rd : Option Bid}

abbrev Lds := Nat → Option (Heap → Nat → Prop)
def ldsOk (l : Lds) (h : Heap) (nx : Nat) : List Nat → Prop
  | [] => True
  | i :: r => (match l i with | some e => e h nx | none => True) ∧ ldsOk l h nx r

/-- Is it carried out? -/
def gst (o : AOp) (env : Env) : Option Bool :=
  match o.guard with
  | none => some true
  | some (d, w) => match env d with
    | some (.bool b) => some (b == w)
    | _ => none

def EActD (rom : Rom) (cv : CV) (rd : Option Bid) (d : DOp) (lds : Lds) (s : St) (K : Lds → St → Prop) : Prop :=
  match d.op.act with
  | .plain ai => match ai.exec rom s.env s.h s.nx with
    | some (v, h', nx') => K (if ai.kind = 1 then upd lds d.idx (some fun h nx => ai.exec rom s.env h nx = some (v, h, nx)) else lds) ⟨put s.env d.op.dst (some v), h', nx', s.dfs⟩
    | none => False
  | .call f args => match f.ev s.env, evs s.env args with
    | some fv, some vs => cv fv vs s.h s.nx fun v h' nx' => ldsOk lds h' nx' d.re ∧ K lds ⟨put s.env d.op.dst (some v), h', nx', s.dfs⟩
    | _, _ => False
  | .dfr f args => match rd, f.ev s.env, evs s.env args with
    | none, some (.func g first caps), some vs => K lds ⟨put s.env d.op.dst none, s.h, s.nx, .clo g (first ++ vs ++ caps) :: s.dfs⟩
    | _, _, _ => False

def EOpD (rom : Rom) (cv : CV) (rd : Option Bid) (d : DOp) (lds : Lds) (s : St) (K : Lds → St → Prop) : Prop :=
  match gst d.op s.env with
  | some true => EActD rom cv rd d lds s K
  | some false => K lds ⟨put s.env d.op.dst none, s.h, s.nx, s.dfs⟩
  | none => False

def EOpsD (rom : Rom) (cv : CV) (rd : Option Bid) : List DOp → Lds → St → (St → Prop) → Prop
  | [], _, s, K => K s
  | d :: ds, lds, s, K => EOpD rom cv rd d lds s fun l' s' => EOpsD rom cv rd ds l' s' K

theorem EOpD.op {cv : CV} (hcv : CVOk P rom cv) {d : DOp} {lds : Lds} {s : St} {K : Lds → St → Prop} {K' : St → Prop} (h : EOpD rom cv rd d lds s K) (hk : ∀ l s', K l s' → K' s') : EOp rom cv rd d.op s K' := by
  have act : EActD rom cv rd d lds s K → EAct rom cv rd d.op s K' := by
    intro h
    unfold EActD at h; unfold EAct
    split at h
    · rename_i ai hai
      simp only [hai]
      split at h
      · rename_i v h' nx' hx
        simp only [hx]
        exact hk _ _ h
      · exact h.elim
    · rename_i f args hai
      simp only [hai]
      split at h
      · rename_i fv vs h1 h2
        simp only [h1, h2]
        exact hcv.mono _ _ _ _ _ _ (fun v h' nx' q => hk _ _ q.2) h
      · exact h.elim
    · rename_i f args hai
      simp only [hai]
      split at h
      · rename_i h0 h1 h2
        simp only [h0, h1]
        exact hk _ _ h
      · exact h.elim
  unfold EOpD gst at h; unfold EOp
  cases hg : d.op.guard with
  | none => rw [hg] at h; exact act h
  | some g =>
    obtain ⟨e, w⟩ := g
    rw [hg] at h
    simp only at h ⊢
    split at h
    · rename_i hb
      split at hb
      · rename_i b he
        injection hb with hb
        simp only [he, hb, cond_true]
        exact act h
      · cases hb
    · rename_i hb
      split at hb
      · rename_i b he
        injection hb with hb
        simp only [he, hb, cond_false]
        exact hk _ _ h
      · cases hb
    · exact h.elim

theorem EOpD.mono {cv : CV} (hcv : CVOk P rom cv) {d : DOp} {lds : Lds} {s : St} {K K' : Lds → St → Prop} (h : EOpD rom cv rd d lds s K) (hk : ∀ l s', K l s' → K' l s') : EOpD rom cv rd d lds s K' := by
  unfold EOpD at h ⊢
  split at h
  · unfold EActD at h ⊢
    split at h
    · split at h
      · exact hk _ _ h
      · exact h.elim
    · split at h
      · exact hcv.mono _ _ _ _ _ _ (fun v h' nx' q => ⟨q.1, hk _ _ q.2⟩) h
      · exact h.elim
    · split at h
      · exact hk _ _ h
      · exact h.elim
  · exact hk _ _ h
  · exact h.elim

theorem ev_congr {x : AOpd} {env env' : Env} (h : ∀ t, t ∈ x.slots → env' t = env t) : x.ev env' = x.ev env := by
  cases x with
  | tmp t => exact h t (by simp [AOpd.slots])
  | val v => rfl
theorem evs_congr {env env' : Env} : ∀ {xs : List AOpd}, (∀ t, t ∈ slotsOf xs → env' t = env t) → evs env' xs = evs env xs
  | [], _ => rfl
  | x :: xs, h => by
    have h1 := ev_congr (x := x) (fun t ht => h t (by simp [slotsOf, ht]))
    have h2 := evs_congr (xs := xs) (fun t ht => h t (by simp only [slotsOf, List.flatMap_cons, List.mem_append] at *; exact .inr ht))
    simp only [evs, h1, h2]
theorem parts_congr {env env' : Env} : ∀ {ps : List (Nat × Nat × AOpd)}, (∀ t, t ∈ (ps.flatMap fun p => p.2.2.slots) → env' t = env t) → evParts env' ps = evParts env ps
  | [], _ => rfl
  | (o, n, x) :: ps, h => by
    have h1 := ev_congr (x := x) (fun t ht => h t (by simp [ht]))
    have h2 := parts_congr (ps := ps) (fun t ht => h t (by simp only [List.flatMap_cons, List.mem_append]; exact .inr ht))
    simp only [evParts, h1, h2]
theorem lo_congr {x : Option AOpd} {env env' : Env} (h : ∀ t, t ∈ optSlots x → env' t = env t) : loOf env' x = loOf env x := by
  cases x with
  | none => rfl
  | some x => simp only [loOf]; rw [ev_congr h]
theorem hi_congr {x : Option AOpd} {env env' : Env} {d : Int} (h : ∀ t, t ∈ optSlots x → env' t = env t) : hiEv env' d x = hiEv env d x := by
  cases x with
  | none => rfl
  | some x => simp only [hiEv]; rw [ev_congr h]

theorem exec_congr {ai : AI} {env env' : Env} (he : ∀ t, t ∈ ai.slots → env' t = env t) (h : Heap) (nx : Nat) : ai.exec rom env' h nx = ai.exec rom env h nx := by
  cases ai <;> simp only [AI.slots, List.mem_append] at he <;> simp only [AI.exec] <;> first
    | rfl
    | (rw [ev_congr fun t ht => he t ht]; done)
    | (rw [ev_congr fun t ht => he t (.inl ht), ev_congr fun t ht => he t (.inr ht)]; done)
    | (rw [ev_congr fun t ht => he t (.inl (.inl ht)), ev_congr fun t ht => he t (.inl (.inr ht)), ev_congr fun t ht => he t (.inr ht)]; done)
    | (rw [parts_congr fun t ht => he t ht]; done)
    | (rw [evs_congr fun t ht => he t (.inl ht), evs_congr fun t ht => he t (.inr ht)]; done)
    | (rw [ev_congr fun t ht => he t (.inl (.inl ht)), lo_congr fun t ht => he t (.inl (.inr ht))]; simp only [hi_congr (fun t ht => he t (.inr ht))]; done)

theorem okL {o : Option AVal} {h h' : Heap} {nx nx' : Nat} {v : AVal} (e : (match o with | some v => some (v, h, nx) | none => (none : Out)) = some (v, h', nx')) : h' = h ∧ nx' = nx := (okOut e).2

/-- What touches memory at most to read leaves it. -/
theorem exec_light {ai : AI} {env : Env} {h h' : Heap} {nx nx' : Nat} {v : AVal} (hk : ai.kind ≤ 1) (hx : ai.exec rom env h nx = some (v, h', nx')) : h' = h ∧ nx' = nx := by
  cases ai <;> simp only [AI.kind] at hk <;> (try omega) <;> simp only [AI.exec] at hx <;> (repeat' split at hx) <;> first
    | exact okL hx
    | exact okL (o := some _) hx
    | cases hx

/-- What touches no memory is the same wherever. -/
theorem exec_pure {ai : AI} {env : Env} {h : Heap} {nx : Nat} {v : AVal} (hk : ai.kind = 0) (hx : ai.exec rom env h nx = some (v, h, nx)) (h2 : Heap) (nx2 : Nat) : ai.exec rom env h2 nx2 = some (v, h2, nx2) := by
  cases ai <;> simp only [AI.kind] at hk <;> (try omega) <;> simp only [AI.exec] at hx ⊢ <;> (repeat' split at hx) <;> first
    | cases hx; done
    | (simp_all; done)
    | (simp_all; rw [if_neg (by omega)]; assumption)
    | (simp_all; rw [if_pos (by omega)]; assumption)

theorem blockCells_upd {h : Heap} {nx : Nat} {b : Bid} {cs : List AVal} (o : AObj) (hf : h nx = none) (hb : blockCells rom h b = some cs) : blockCells rom (upd h nx (some o)) b = some cs := by
  cases b with
  | arg i => exact hb
  | own i =>
    simp only [blockCells] at hb ⊢
    have hne : i ≠ nx := by rintro rfl; rw [hf] at hb; cases hb
    rw [upd_ne _ _ hne]; exact hb
/-- A read, more memory being there. -/
theorem exec_read {ai : AI} {env : Env} {h : Heap} {nx : Nat} {v : AVal} (hk : ai.kind = 1) (hx : ai.exec rom env h nx = some (v, h, nx)) (o : AObj) (hf : h nx = none) (nx2 : Nat) :
    ai.exec rom env (upd h nx (some o)) nx2 = some (v, upd h nx (some o), nx2) := by
  cases ai <;> simp only [AI.kind] at hk <;> (try omega) <;> simp only [AI.exec] at hx ⊢
  · split at hx
    · rename_i b off he
      split at hx
      · rename_i cs hb
        have e1 := (okOut hx).1
        simp only [blockCells_upd o hf hb, e1]
      · cases hx
    · cases hx
  · split at hx
    · rename_i b off he
      split at hx
      · rename_i cs hb
        split at hx
        · rename_i hle
          have e1 := (okOut (o := some _) hx).1
          injection e1 with e1
          simp only [blockCells_upd o hf hb, hle, if_true, e1]
        · cases hx
      · cases hx
    · cases hx
  · split at hx
    · rename_i he
      have e1 := (okOut (o := some _) hx).1
      injection e1 with e1
      simp only [e1]
    · rename_i i he
      split at hx
      · rename_i es c hi
        have e1 := (okOut (o := some _) hx).1
        injection e1 with e1
        have hne : i ≠ nx := by rintro rfl; rw [hf] at hi; cases hi
        simp only [upd_ne _ _ hne, hi, e1]
      · cases hx
    · cases hx

end Go.AL
