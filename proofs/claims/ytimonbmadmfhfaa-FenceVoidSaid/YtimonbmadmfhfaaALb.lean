/- Helper text: abstract heaps. -/
import Derived.Test.YtimonbmadmfhfaaALx
namespace Go.AL
open Classical

abbrev Env := Nat → Option AVal

/-- Abstract objects. -/
inductive AObj where
  | cells (cs : List AVal) (elem : TypeId)
  | map (es : List (AVal × AVal × Nat)) (clock : Nat)
  | strIter (s : ByteArray) (pos : Nat)
  | mapIter (m : Option Bid) (since : Nat) (seen : List Nat) (stepped : Nat)
  | loop (state : LoopState) (pending : Option Code) (env : Env) (nt : Nat) (params : List Tmp) (asg body : ACode) (defers : Bid)
  | defs
  | opq (R : (Nat → Option Obj) → Nat → Prop)

abbrev Heap := Nat → Option AObj
/-- What came in: blocks that are read only. -/
abbrev Rom := Nat → Option (List AVal × TypeId)

def upd {α : Type} (f : Nat → Option α) (i : Nat) (a : Option α) : Nat → Option α := fun j => if j = i then a else f j

@[simp] theorem upd_same {α : Type} (f : Nat → Option α) (i : Nat) (a : Option α) : upd f i a i = a := by simp [upd]
theorem upd_ne {α : Type} (f : Nat → Option α) {i j : Nat} (a : Option α) (h : j ≠ i) : upd f i a j = f j := by simp [upd, h]
theorem upd_comm {α : Type} (f : Nat → Option α) {i j : Nat} (a b : Option α) (h : i ≠ j) : upd (upd f i a) j b = upd (upd f j b) i a := by
  funext k
  by_cases h1 : k = j
  · subst h1; rw [upd_same, upd_ne _ _ (Ne.symm h), upd_same]
  · by_cases h2 : k = i
    · subst h2; rw [upd_same, upd_ne _ _ h1, upd_same]
    · rw [upd_ne _ _ h1, upd_ne _ _ h2, upd_ne _ _ h2, upd_ne _ _ h1]
theorem upd_upd {α : Type} (f : Nat → Option α) (i : Nat) (a b : Option α) : upd (upd f i a) i b = upd f i b := by
  funext k
  by_cases h1 : k = i
  · subst h1; simp
  · rw [upd_ne _ _ h1, upd_ne _ _ h1, upd_ne _ _ h1]

/-- The environment of an activation. -/
structure ERel (β : Beta) (nt : Nat) (env : Env) (tmps : Array Value) : Prop where
  size : tmps.size = nt
  get : ∀ t v, env t = some v → VRel β v (tmps.getD t undef)

def Unfrozen (n : Nat) (fz : Nat × Nat) : Prop := fz.2 ≤ fz.1 ∨ n ≤ fz.1

def EntryRel (β : Beta) (a : AVal × AVal × Nat) (e : MapEntry) : Prop := VRel β a.1 e.key ∧ VRel β a.2.1 e.val ∧ e.born = a.2.2

def EntriesRel (β : Beta) : List (AVal × AVal × Nat) → List MapEntry → Prop
  | [], l => l = []
  | a :: as, l => ∃ e es, l = e :: es ∧ EntryRel β a e ∧ EntriesRel β as es

/-- What the world holds of one object. -/
def ORel (P : Program) (β : Beta) (i : Nat) (w : World) : AObj → Prop
  | .cells cs elem => (∀ b, β.fp i b ↔ b = β.blk (.own i)) ∧ ∃ pre spare fz, w.heap[β.blk (.own i)]? = some (.cells (pre ++ spare).toArray elem fz) ∧ VRels β cs pre ∧
      (pre ++ spare).length = β.tot i ∧ Unfrozen (β.tot i) fz
  | .map es clock => (∀ b, β.fp i b ↔ b = β.blk (.own i)) ∧ ∃ res, w.heap[β.blk (.own i)]? = some (.map res clock) ∧ EntriesRel β es res.toList
  | .strIter s pos => (∀ b, β.fp i b ↔ b = β.blk (.own i)) ∧ w.heap[β.blk (.own i)]? = some (.stringIter s pos)
  | .mapIter m since seen stepped => (∀ b, β.fp i b ↔ b = β.blk (.own i)) ∧ (∀ b : Bid, m = some b → β.ok b) ∧
      w.heap[β.blk (.own i)]? = some (.mapIter (m.map β.blk) since seen.toArray stepped)
  | .loop state pending env nt params asg body defers => (∀ b, β.fp i b ↔ b = β.blk (.own i)) ∧ ∃ fn tmps rasg rbody, ERel β nt env tmps ∧ β.ok defers ∧ compCode P nt rasg = some asg ∧ compCode P nt rbody = some body ∧
      w.heap[β.blk (.own i)]? = some (.loop { state, pending, fn, tmps, params := params.toArray, assign := rasg, body := rbody, defers := β.blk defers })
  | .defs => (∀ b, β.fp i b ↔ b = β.blk (.own i)) ∧ w.heap[β.blk (.own i)]? = some (.deferred (some []))
  | .opq R => β.fp i (β.blk (.own i)) ∧ R (fun b => if β.fp i b then w.heap[b]? else none) (β.blk (.own i))

/-- What came in, as it lies. -/
def ARel (β : Beta) (i : Nat) (w : World) (cs : List AVal) (e : TypeId) : Prop :=
  ∃ rcs fz, w.heap[β.blk (.arg i)]? = some (.cells rcs e fz) ∧ β.off i + cs.length ≤ rcs.size ∧ VRels β cs ((rcs.toList.drop (β.off i)).take cs.length)

structure HRel (P : Program) (β : Beta) (rom : Rom) (h : Heap) (w : World) : Prop where
  obj : ∀ i o, h i = some o → i < β.nx ∧ ORel P β i w o
  disj : ∀ i j b, h i ≠ none → h j ≠ none → β.fp i b → β.fp j b → i = j
  bnd : ∀ i b, h i ≠ none → β.fp i b → b < w.heap.size
  args : ∀ i cs e, rom i = some (cs, e) → ARel β i w cs e
  argd : ∀ i j, rom i ≠ none → h j ≠ none → ¬ β.fp j (β.blk (.arg i))

/-- What else there is stays; names keep their meaning. -/
structure Mv (β : Beta) (h : Heap) (w : World) (β' : Beta) (h' : Heap) (w' : World) : Prop where
  ext : Ext β β'
  size : w.heap.size ≤ w'.heap.size
  same : ∀ b, b < w.heap.size → (∀ i, h i ≠ none → ¬ β.fp i b) → w'.heap[b]? = w.heap[b]?
  stay : ∀ i b, h' i ≠ none → β'.fp i b → b < w.heap.size → ∃ j, h j ≠ none ∧ β.fp j b
  os : w'.os = w.os
  out : w'.output = w.output

theorem Mv.refl (β : Beta) (h : Heap) (w : World) : Mv β h w β h w :=
  ⟨Ext.refl β, Nat.le_refl _, fun _ _ _ => rfl, fun i b h1 h2 _ => ⟨i, h1, h2⟩, rfl, rfl⟩
theorem Mv.trans {β₁ β₂ β₃ : Beta} {h₁ h₂ h₃ : Heap} {w₁ w₂ w₃ : World} (a : Mv β₁ h₁ w₁ β₂ h₂ w₂) (b : Mv β₂ h₂ w₂ β₃ h₃ w₃) : Mv β₁ h₁ w₁ β₃ h₃ w₃ where
  ext := a.ext.trans b.ext
  size := Nat.le_trans a.size b.size
  same := fun x hx hn => by
    rw [b.same x (Nat.lt_of_lt_of_le hx a.size) (fun i hi hf => by
      obtain ⟨j, hj, hfj⟩ := a.stay i x hi hf hx
      exact hn j hj hfj), a.same x hx hn]
  stay := fun i x hi hf hx => by
    obtain ⟨j, hj, hfj⟩ := b.stay i x hi hf (Nat.lt_of_lt_of_le hx a.size)
    exact a.stay j x hj hfj hx
  os := b.os.trans a.os
  out := b.out.trans a.out

variable {P : Program}
/-- Knowing less. -/
theorem HRel.drop {β : Beta} {rom : Rom} {h h' : Heap} {w : World} (H : HRel P β rom h w) (hs : ∀ i o, h' i = some o → h i = some o) : HRel P β rom h' w := by
  have hn : ∀ i, h' i ≠ none → h i ≠ none := fun i hi => by
    cases hh : h' i with
    | none => exact absurd hh hi
    | some o => rw [hs i o hh]; simp
  exact ⟨fun i o ho => H.obj i o (hs i o ho), fun i j b hi hj => H.disj i j b (hn i hi) (hn j hj), fun i b hi => H.bnd i b (hn i hi), H.args,
    fun i j hi hj => H.argd i j hi (hn j hj)⟩
theorem Mv.drop {β : Beta} {h h' : Heap} {w : World} (hs : ∀ i o, h' i = some o → h i = some o) : Mv β h w β h' w := by
  refine ⟨Ext.refl β, Nat.le_refl _, fun _ _ _ => rfl, fun i b h1 h2 _ => ⟨i, ?_, h2⟩, rfl, rfl⟩
  cases hh : h' i with
  | none => exact absurd hh h1
  | some o => rw [hs i o hh]; simp

theorem EntriesRel.ext {β β' : Beta} (e : Ext β β') : ∀ {as : List (AVal × AVal × Nat)} {l : List MapEntry}, EntriesRel β as l → EntriesRel β' as l
  | [], _, h => h
  | _ :: _, _, ⟨x, xs, h1, h2, h3⟩ => ⟨x, xs, h1, ⟨VRel.ext e _ _ h2.1, VRel.ext e _ _ h2.2.1, h2.2.2⟩, EntriesRel.ext e h3⟩
theorem ERel.ext {β β' : Beta} (e : Ext β β') {nt : Nat} {env : Env} {tmps : Array Value} (h : ERel β nt env tmps) : ERel β' nt env tmps :=
  ⟨h.size, fun t v hv => VRel.ext e _ _ (h.get t v hv)⟩

/-- An object is as it was, where its blocks are. -/
theorem ORel.same {β β' : Beta} {i : Nat} {w w' : World} {o : AObj} (e : Ext β β') (hi : i < β.nx) (hfp : ∀ b, β'.fp i b ↔ β.fp i b)
    (hs : ∀ b, β.fp i b → w'.heap[b]? = w.heap[b]?) (h : ORel P β i w o) : ORel P β' i w' o := by
  have hb : β'.blk (.own i) = β.blk (.own i) := (e.own i hi).1
  cases o with
  | cells cs elem =>
    obtain ⟨h1, pre, spare, fz, h2, h3, h4, h5⟩ := h
    refine ⟨fun b => by rw [hfp, h1, hb], pre, spare, fz, ?_, VRels.ext e _ _ h3, by rw [(e.own i hi).2]; exact h4, by rw [(e.own i hi).2]; exact h5⟩
    rw [hb, hs _ ((h1 _).2 rfl), h2]
  | map es clock =>
    obtain ⟨h1, res, h2, h3⟩ := h
    exact ⟨fun b => by rw [hfp, h1, hb], res, by rw [hb, hs _ ((h1 _).2 rfl), h2], h3.ext e⟩
  | strIter s pos =>
    obtain ⟨h1, h2⟩ := h
    exact ⟨fun b => by rw [hfp, h1, hb], by rw [hb, hs _ ((h1 _).2 rfl), h2]⟩
  | mapIter m since seen stepped =>
    obtain ⟨h1, h2, h3⟩ := h
    refine ⟨fun b => by rw [hfp, h1, hb], fun b hm => e.okb (h2 b hm), ?_⟩
    rw [hb, hs _ ((h1 _).2 rfl), h3]
    cases m with
    | none => rfl
    | some b => simp [e.blk (h2 b rfl)]
  | loop state pending env nt params asg body defers =>
    obtain ⟨h1, fn, tmps, ra, rb, h2, h3, c1, c2, h4⟩ := h
    exact ⟨fun b => by rw [hfp, h1, hb], fn, tmps, ra, rb, h2.ext e, e.okb h3, c1, c2, by rw [hb, hs _ ((h1 _).2 rfl), h4, e.blk h3]⟩
  | defs =>
    obtain ⟨h1, h2⟩ := h
    exact ⟨fun b => by rw [hfp, h1, hb], by rw [hb, hs _ ((h1 _).2 rfl), h2]⟩
  | opq R =>
    obtain ⟨h1, h2⟩ := h
    have : (fun b => if β'.fp i b then w'.heap[b]? else none) = (fun b => if β.fp i b then w.heap[b]? else none) := by
      funext b
      by_cases hf : β.fp i b
      · simp [hf, (hfp b).2 hf, hs b hf]
      · have : ¬ β'.fp i b := fun h => hf ((hfp b).1 h)
        simp [hf, this]
    exact ⟨by rw [hfp, hb]; exact h1, by simp only [this]; rw [hb]; exact h2⟩
theorem ARel.same {β β' : Beta} {i : Nat} {w w' : World} {cs : List AVal} {t : TypeId} (e : Ext β β')
    (hs : w'.heap[β.blk (.arg i)]? = w.heap[β.blk (.arg i)]?) (h : ARel β i w cs t) : ARel β' i w' cs t := by
  obtain ⟨rcs, fz, h1, h0, h2⟩ := h
  exact ⟨rcs, fz, by rw [(e.arg i).1, hs, h1], by rw [(e.arg i).2]; exact h0, by rw [(e.arg i).2]; exact VRels.ext e _ _ h2⟩

/-- One more block. -/
def Beta.push (β : Beta) (b tot : Nat) : Beta :=
  { nx := β.nx + 1
    blk := fun x => if x = .own β.nx then b else β.blk x
    off := β.off
    tot := fun i => if i = β.nx then tot else β.tot i
    fp := fun i x => if i = β.nx then x = b else β.fp i x }
theorem Beta.push_ext (β : Beta) (b tot : Nat) : Ext β (β.push b tot) where
  nx := Nat.le_succ _
  own := fun i hi => by
    have : i ≠ β.nx := Nat.ne_of_lt hi
    simp [Beta.push, this]
  arg := fun i => by simp [Beta.push]

theorem heap_push_old {w : World} {o : Obj} {b : Nat} (h : b < w.heap.size) : (w.alloc o).heap[b]? = w.heap[b]? := by
  show (w.heap.push o)[b]? = w.heap[b]?
  rw [Array.getElem?_push]; simp [Nat.ne_of_lt h]
theorem heap_push_new {w : World} {o : Obj} : (w.alloc o).heap[w.heap.size]? = some o := by
  show (w.heap.push o)[w.heap.size]? = some o
  simp

theorem HRel.push {β : Beta} {rom : Rom} {h : Heap} {w : World} (H : HRel P β rom h w) (tot : Nat) (o : AObj) (ro : Obj)
    (ho : ORel P (β.push w.heap.size tot) β.nx (w.alloc ro) o) (hrom : ∀ i, rom i ≠ none → β.blk (.arg i) < w.heap.size) :
    HRel P (β.push w.heap.size tot) rom (upd h β.nx (some o)) (w.alloc ro) ∧ Mv β h w (β.push w.heap.size tot) (upd h β.nx (some o)) (w.alloc ro) := by
  have e := β.push_ext w.heap.size tot
  have hlt : ∀ i, h i ≠ none → i < β.nx := fun i hi => by
    cases hh : h i with
    | none => exact absurd hh hi
    | some o => exact (H.obj i o hh).1
  have hfo : ∀ i b, i ≠ β.nx → ((β.push w.heap.size tot).fp i b ↔ β.fp i b) := fun i b hi => by simp [Beta.push, hi]
  have hfn : ∀ b, (β.push w.heap.size tot).fp β.nx b ↔ b = w.heap.size := fun b => by simp [Beta.push]
  have hold : ∀ i, i ≠ β.nx → upd h β.nx (some o) i ≠ none → h i ≠ none := fun i hi hu => by rwa [upd_ne _ _ hi] at hu
  refine ⟨⟨?_, ?_, ?_, ?_, ?_⟩, ⟨e, by simp, ?_, ?_, rfl, rfl⟩⟩
  · intro i x hx
    by_cases hi : i = β.nx
    · subst hi
      rw [upd_same] at hx; injection hx with hx; subst hx
      exact ⟨Nat.lt_succ_self _, ho⟩
    · rw [upd_ne _ _ hi] at hx
      obtain ⟨h1, h2⟩ := H.obj i x hx
      exact ⟨Nat.lt_succ_of_lt h1, h2.same e h1 (fun b => hfo i b hi) (fun b hb => heap_push_old (H.bnd i b (by rw [hx]; simp) hb))⟩
  · intro i j b hi hj hfi hfj
    by_cases hi' : i = β.nx
    · by_cases hj' : j = β.nx
      · rw [hi', hj']
      · subst hi'
        rw [hfn] at hfi
        have := H.bnd j b (hold j hj' hj) ((hfo j b hj').1 hfj)
        omega
    · by_cases hj' : j = β.nx
      · subst hj'
        rw [hfn] at hfj
        have := H.bnd i b (hold i hi' hi) ((hfo i b hi').1 hfi)
        omega
      · exact H.disj i j b (hold i hi' hi) (hold j hj' hj) ((hfo i b hi').1 hfi) ((hfo j b hj').1 hfj)
  · intro i b hi hf
    by_cases hi' : i = β.nx
    · subst hi'
      rw [hfn] at hf; subst hf; simp
    · have := H.bnd i b (hold i hi' hi) ((hfo i b hi').1 hf)
      simp; omega
  · intro i cs t hr
    exact (H.args i cs t hr).same e (heap_push_old (hrom i (by rw [hr]; simp)))
  · intro i j hr hj hf
    have hb : (β.push w.heap.size tot).blk (.arg i) = β.blk (.arg i) := (e.arg i).1
    rw [hb] at hf
    by_cases hj' : j = β.nx
    · subst hj'
      rw [hfn] at hf
      have := hrom i hr
      omega
    · exact H.argd i j hr (hold j hj' hj) ((hfo j _ hj').1 hf)
  · intro b hb _
    exact heap_push_old hb
  · intro i b hi hf hb
    by_cases hi' : i = β.nx
    · subst hi'
      rw [hfn] at hf
      omega
    · exact ⟨i, hold i hi' hi, (hfo i b hi').1 hf⟩

/-- What came in lies below the heap's end. -/
theorem HRel.rom_lt {β : Beta} {rom : Rom} {h : Heap} {w : World} (H : HRel P β rom h w) (i : Nat) (hi : rom i ≠ none) : β.blk (.arg i) < w.heap.size := by
  cases hr : rom i with
  | none => exact absurd hr hi
  | some p =>
    obtain ⟨rcs, fz, h1, _⟩ := H.args i p.1 p.2 hr
    rcases Nat.lt_or_ge (β.blk (.arg i)) w.heap.size with h' | h'
    · exact h'
    · simp [Array.getElem?_eq_none h'] at h1

/-- One object is changed in place. -/
theorem HRel.put {β : Beta} {rom : Rom} {h : Heap} {w w' : World} (H : HRel P β rom h w) {i : Nat} {o o' : AObj} (hi : h i = some o)
    (hfp : ∀ b, β.fp i b ↔ b = β.blk (.own i)) (hsz : w'.heap.size = w.heap.size) (hs : ∀ b, b ≠ β.blk (.own i) → w'.heap[b]? = w.heap[b]?)
    (hos : w'.os = w.os) (hout : w'.output = w.output) (ho : ORel P β i w' o') :
    HRel P β rom (upd h i (some o')) w' ∧ Mv β h w β (upd h i (some o')) w' := by
  have hn : ∀ j, upd h i (some o') j ≠ none → h j ≠ none := fun j hj => by
    by_cases hij : j = i
    · subst hij; rw [hi]; simp
    · rwa [upd_ne _ _ hij] at hj
  have hb : β.fp i (β.blk (.own i)) := (hfp _).2 rfl
  refine ⟨⟨?_, ?_, ?_, ?_, ?_⟩, ⟨Ext.refl β, by omega, ?_, ?_, hos, hout⟩⟩
  · intro j x hx
    by_cases hij : j = i
    · subst hij
      rw [upd_same] at hx; injection hx with hx; subst hx
      exact ⟨(H.obj j o hi).1, ho⟩
    · rw [upd_ne _ _ hij] at hx
      obtain ⟨h1, h2⟩ := H.obj j x hx
      refine ⟨h1, h2.same (Ext.refl β) h1 (fun _ => Iff.rfl) (fun b hf => hs b fun e => hij ?_)⟩
      exact H.disj j i b (by rw [hx]; simp) (by rw [hi]; simp) hf (e ▸ hb)
  · exact fun a b c ha hb' => H.disj a b c (hn a ha) (hn b hb')
  · exact fun a b ha hf => by rw [hsz]; exact H.bnd a b (hn a ha) hf
  · intro j cs t hr
    refine (H.args j cs t hr).same (Ext.refl β) (hs _ fun e => H.argd j i (by rw [hr]; simp) (by rw [hi]; simp) (e ▸ hb))
  · exact fun a b ha hb' => H.argd a b ha (hn b hb')
  · intro b _ hno
    refine hs b fun e => hno i (by rw [hi]; simp) (e ▸ hb)
  · exact fun a b ha hf _ => ⟨a, hn a ha, hf⟩

/-- Draws change nothing. -/
theorem HRel.heap {β : Beta} {rom : Rom} {h : Heap} {w w' : World} (H : HRel P β rom h w) (e : w'.heap = w.heap) : HRel P β rom h w' := by
  refine ⟨fun i o ho => ⟨(H.obj i o ho).1, (H.obj i o ho).2.same (Ext.refl β) (H.obj i o ho).1 (fun _ => Iff.rfl) (fun b _ => by rw [e])⟩, H.disj, fun i b hi hf => by rw [e]; exact H.bnd i b hi hf,
    fun i cs t hr => (H.args i cs t hr).same (Ext.refl β) (by rw [e]), H.argd⟩
theorem Mv.heap {β : Beta} {h : Heap} {w w' : World} (e : w'.heap = w.heap) (e1 : w'.os = w.os) (e2 : w'.output = w.output) : Mv β h w β h w' :=
  ⟨Ext.refl β, by rw [e]; exact Nat.le_refl _, fun _ _ _ => by rw [e], fun i b h1 h2 _ => ⟨i, h1, h2⟩, e1, e2⟩

end Go.AL
