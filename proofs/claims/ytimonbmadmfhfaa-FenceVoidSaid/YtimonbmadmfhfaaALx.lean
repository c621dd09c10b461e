/- Helper text: operations and code, with all types told. -/
import Derived.Test.YtimonbmadmfhfaaALa
namespace Go.AL

inductive AOpd where
  | tmp (t : Nat)
  | val (v : AVal)
  deriving Inhabited

mutual
def cval : Value → Option AVal
  | .bool b => some (.bool b)
  | .int k n => some (.int k n)
  | .string s => some (.str s)
  | .pointer none => some .nilp
  | .slice none 0 0 => some .nils
  | .map none => some .nilm
  | .nilFunc => some .nilf
  | .nilIface => some .nili
  | .agg cs => (cvals cs.toList).map .agg
  | .tuple cs => (cvals cs.toList).map .tup
  | _ => none
def cvals : List Value → Option (List AVal)
  | [] => some []
  | v :: vs => match cval v, cvals vs with
    | some a, some as => some (a :: as)
    | _, _ => none
end
mutual
theorem cval_rel {β : Beta} : ∀ (v : Value) (a : AVal), cval v = some a → VRel β a v
  | .bool b, a, h => by simp [cval] at h; subst h; simp [VRel]
  | .int k n, a, h => by simp [cval] at h; subst h; simp [VRel]
  | .string s, a, h => by simp [cval] at h; subst h; simp [VRel]
  | .pointer none, a, h => by simp [cval] at h; subst h; simp [VRel]
  | .slice none 0 0, a, h => by simp [cval] at h; subst h; simp [VRel]
  | .map none, a, h => by simp [cval] at h; subst h; simp [VRel]
  | .nilFunc, a, h => by simp [cval] at h; subst h; simp [VRel]
  | .nilIface, a, h => by simp [cval] at h; subst h; simp [VRel]
  | .agg cs, a, h => by
    simp only [cval, Option.map_eq_some_iff] at h
    obtain ⟨as, h1, rfl⟩ := h
    simp only [VRel]
    exact ⟨cs, rfl, cvals_rel _ _ h1⟩
  | .tuple cs, a, h => by
    simp only [cval, Option.map_eq_some_iff] at h
    obtain ⟨as, h1, rfl⟩ := h
    simp only [VRel]
    exact ⟨cs, rfl, cvals_rel _ _ h1⟩
  | .pointer (some _), a, h => by simp [cval] at h
  | .slice none 0 (_ + 1), a, h => by simp [cval] at h
  | .slice none (_ + 1) _, a, h => by simp [cval] at h
  | .slice (some _) _ _, a, h => by simp [cval] at h
  | .float _ _, a, h => by simp [cval] at h
  | .complex _ _ _, a, h => by simp [cval] at h
  | .map (some _), a, h => by simp [cval] at h
  | .chan _, a, h => by simp [cval] at h
  | .func _ _ _, a, h => by simp [cval] at h
  | .iface _ _, a, h => by simp [cval] at h
theorem cvals_rel {β : Beta} : ∀ (l : List Value) (as : List AVal), cvals l = some as → VRels β as l
  | [], as, h => by simp [cvals] at h; subst h; exact VRels.nil
  | v :: vs, as, h => by
    simp only [cvals] at h
    split at h
    · rename_i a as' h1 h2
      injection h with h; subst h
      exact VRels.cons (cval_rel v a h1) (cvals_rel vs as' h2)
    · cases h
end

def compOpd : Operand → Option AOpd
  | .tmp t => some (.tmp t)
  | .const v => (cval v).map .val
  | .func f => some (.val (.func f [] []))
  | .global _ => none
def compOpds : List Operand → Option (List AOpd)
  | [] => some []
  | x :: xs => match compOpd x, compOpds xs with
    | some y, some ys => some (y :: ys)
    | _, _ => none
/-- Which comparison with nil. -/
inductive NilCls where
  | ptr | slc | map | fn | ifc
  deriving DecidableEq, Inhabited

inductive AI where
  | mv (x : AOpd)
  | pick (c a b : AOpd)
  | bin (op : BinOp) (x y : AOpd)
  | shift (op : BinOp) (x y : AOpd)
  | eqb (neg : Bool) (x y : AOpd)
  | eqn (cls : NilCls) (neg : Bool) (x y : AOpd)
  | not (x : AOpd)
  | neg (x : AOpd)
  | conv (k : IntKind) (x : AOpd)
  | alloc (t : TypeId) (zero : List AVal)
  | box (t : TypeId) (x : AOpd)
  | build (zero : List AVal) (parts : List (Nat × Nat × AOpd))
  | buildSlice (elem : TypeId) (esz : Nat) (zero : List AVal) (len : Nat) (parts : List (Nat × Nat × AOpd))
  | load1 (a : AOpd)
  | loadN (n : Nat) (a : AOpd)
  | store (n : Nat) (a x : AOpd)
  | nilCheck (x : AOpd)
  | addOff (off : Nat) (x : AOpd)
  | field1 (off : Nat) (x : AOpd)
  | fieldN (off n : Nat) (x : AOpd)
  | idxA (len esz : Nat) (x i : AOpd)
  | idxS (esz : Nat) (x i : AOpd)
  | index1 (len esz : Nat) (x i : AOpd)
  | indexN (len esz : Nat) (x i : AOpd)
  | indexStr (x i : AOpd)
  | extract (x : AOpd) (i : Nat)
  | mkFunc (f : FuncId) (first caps : List AOpd)
  | makeMap
  | makeSlice (elem : TypeId) (esz bytes : Nat) (zero : List AVal) (len cap : AOpd)
  | slice (esz : Nat) (x : AOpd) (lo hi : Option AOpd)
  | sliceStr (x : AOpd) (lo hi : Option AOpd)
  | lenS (x : AOpd)
  | lenStr (x : AOpd)
  | lenM (x : AOpd)
  | append (elem : TypeId) (esz bytes : Nat) (s x : AOpd)
  | min (x y : AOpd)
  | max (x y : AOpd)
  deriving Inhabited

def isAggD : TypeDesc → Bool
  | .struct _ | .array _ _ => true
  | _ => false
def sizeAt (P : Program) (t : TypeId) : Option Nat := (P.info? t).map (·.size)
def bytesAt (P : Program) (t : TypeId) : Option Nat := (P.info? t).map (·.bytes)
def zeroAt (P : Program) (t : TypeId) : Option (List AVal) := (P.info? t).bind fun i => i.zero.bind fun z => cvals z.cells.toList
def fieldOf (P : Program) (t : TypeId) (f : Nat) : Option (Nat × Nat × Bool) :=
  match P.underlying t with
  | some (.struct fs) => match fs[f]? with
    | some g => match sizeAt P g.type, P.underlying g.type with
      | some n, some d => some (g.offset, n, isAggD d)
      | _, _ => none
    | none => none
  | _ => none

def compParts (P : Program) (place : Nat → Option (Nat × Nat)) : List (Nat × Operand) → Option (List (Nat × Nat × AOpd))
  | [] => some []
  | (i, x) :: rest => match place i, compOpd x, compParts P place rest with
    | some (o, n), some y, some ys => some ((o, n, y) :: ys)
    | _, _, _ => none

def compOpt : Option Operand → Option (Option AOpd)
  | none => some none
  | some x => (compOpd x).map some

def nilClsOf : TypeDesc → Option NilCls
  | .pointer _ => some .ptr
  | .slice _ => some .slc
  | .map _ _ => some .map
  | .func _ _ _ => some .fn
  | _ => none

def compBin (P : Program) (op : BinOp) (t : TypeId) (x y : AOpd) : Option AI :=
  match P.underlying t with
  | some (.int _) => match op with
    | .shl | .shr => some (.shift op x y)
    | .andNot => none
    | _ => some (.bin op x y)
  | some .string => match op with
    | .eql | .neq => some (.bin op x y)
    | _ => none
  | some .bool => match op with
    | .eql => some (.eqb false x y)
    | .neq => some (.eqb true x y)
    | _ => none
  | some d => match nilClsOf d, op with
    | some c, .eql => some (.eqn c false x y)
    | some c, .neq => some (.eqn c true x y)
    | _, _ => none
  | none => none

def compBuiltin (P : Program) (b : Builtin) (args : List Operand) (ts : List TypeId) : Option AI :=
  match b, args, ts with
  | .len, [x], [t] => match compOpd x, P.underlying t with
    | some y, some (.slice _) => some (.lenS y)
    | some y, some .string => some (.lenStr y)
    | some y, some (.map _ _) => some (.lenM y)
    | _, _ => none
  | .append, [s, x], [t, t'] => match compOpd s, compOpd x, P.underlying t, P.underlying t' with
    | some a, some b, some (.slice e), some (.slice _) => match sizeAt P e, bytesAt P e, zeroAt P e with
      | some n, some k, some z => if z.length = n then some (.append e n k a b) else none
      | _, _, _ => none
    | _, _, _, _ => none
  | .min, [x, y], _ => match compOpd x, compOpd y with
    | some a, some b => some (.min a b)
    | _, _ => none
  | .max, [x, y], _ => match compOpd x, compOpd y with
    | some a, some b => some (.max a b)
    | _, _ => none
  | _, _, _ => none

/-- The plain operations. -/
def compOp (P : Program) (op : Op) : Option AI :=
  match op with
  | .move x | .assign x => (compOpd x).map .mv
  | .pick c a b => match compOpd c, compOpd a, compOpd b with
    | some c, some a, some b => some (.pick c a b)
    | _, _, _ => none
  | .binOp op t x y _ => match compOpd x, compOpd y with
    | some a, some b => compBin P op t a b
    | _, _ => none
  | .unOp .not _ x => (compOpd x).map .not
  | .unOp .neg _ x => (compOpd x).map .neg
  | .convert s d x => match P.underlying s, P.underlying d with
    | some (.int _), some (.int k) => (compOpd x).map (.conv k)
    | _, _ => none
  | .alloc t => match zeroAt P t, sizeAt P t with
    | some z, some n => if z.length = n then some (.alloc t z) else none
    | _, _ => none
  | .box t x => (compOpd x).map (.box t)
  | .build t ps => match P.underlying t, zeroAt P t with
    | some (.struct fs), some z => (fs.toList.mapM fun f => (P.info? f.type).map fun i => (f.offset, i.size)).bind fun pl => (compParts P (pl[·]?) ps.toList).map (.build z)
    | some (.array _ e), some z => (sizeAt P e).bind fun n => (compParts P (fun i => some (i * n, n)) ps.toList).map (.build z)
    | _, _ => none
  | .buildSlice t len ps => match P.underlying t with
    | some (.slice e) => match sizeAt P e, zeroAt P e with
      | some n, some z => if z.length = n ∧ 0 < n ∧ len * n ≤ 65536 then (compParts P (fun i => some (i * n, n)) ps.toList).map (.buildSlice e n (List.flatten (List.replicate len z)) len) else none
      | _, _ => none
    | _ => none
  | .load t x => match P.underlying t, sizeAt P t, compOpd x with
    | some d, some n, some y => if isAggD d then some (.loadN n y) else some (.load1 y)
    | _, _, _ => none
  | .store t a x => match sizeAt P t, compOpd a, compOpd x with
    | some n, some y, some z => some (.store n y z)
    | _, _, _ => none
  | .nilCheck x => (compOpd x).map .nilCheck
  | .fieldAddr t x f => match fieldOf P t f, compOpd x with
    | some (o, n, _), some y => if n = 0 then none else some (.addOff o y)
    | _, _ => none
  | .field t x f => match fieldOf P t f, compOpd x with
    | some (o, n, a), some y => if a then some (.fieldN o n y) else some (.field1 o y)
    | _, _ => none
  | .indexAddr t x i => match P.underlying t, compOpd x, compOpd i with
    | some (.array n e), some y, some j => (sizeAt P e).map fun s => .idxA n s y j
    | some (.slice e), some y, some j => (sizeAt P e).map fun s => .idxS s y j
    | _, _, _ => none
  | .index t x i => match P.underlying t, compOpd x, compOpd i with
    | some (.array n e), some y, some j => match sizeAt P e, P.underlying e with
      | some s, some d => if isAggD d then some (.indexN n s y j) else some (.index1 n s y j)
      | _, _ => none
    | some .string, some y, some j => some (.indexStr y j)
    | _, _, _ => none
  | .extract x i => (compOpd x).map fun y => .extract y i
  | .makeFunc (.func f) first caps => match compOpds first.toList, compOpds caps.toList with
    | some a, some b => some (.mkFunc f a b)
    | _, _ => none
  | .makeMap _ none => some .makeMap
  | .makeSlice t l c => match P.underlying t, compOpd l, compOpd c with
    | some (.slice e), some x, some y => match sizeAt P e, bytesAt P e, zeroAt P e with
      | some n, some k, some z => if z.length = n ∧ 0 < n then some (.makeSlice e n k z x y) else none
      | _, _, _ => none
    | _, _, _ => none
  | .slice t x lo hi none => match P.underlying t, compOpd x, compOpt lo, compOpt hi with
    | some (.slice e), some y, some l, some m => (sizeAt P e).map fun n => .slice n y l m
    | some .string, some y, some l, some m => some (.sliceStr y l m)
    | _, _, _, _ => none
  | .call { callee := .builtin b, args, argTypes } => compBuiltin P b args.toList argTypes.toList
  | _ => none


/-- What an operation does: a plain one; or a call of a function's value. -/
inductive AAct where
  | plain (ai : AI)
  | call (f : AOpd) (args : List AOpd)
  | dfr (f : AOpd) (args : List AOpd)
  deriving Inhabited
structure AOp where
  dst : Option Nat
  act : AAct
  guard : Option (Nat × Bool)
  deriving Inhabited

def compAct (P : Program) (op : Op) : Option AAct :=
  match op with
  | .call { callee := .value f, args, .. } => match compOpd f, compOpds args.toList with
    | some g, some xs => some (.call g xs)
    | _, _ => none
  | .defer { callee := .value f, args, .. } => match compOpd f, compOpds args.toList with
    | some g, some xs => some (.dfr g xs)
    | _, _ => none
  | op => (compOp P op).map .plain

def dstOk (nt : Nat) : Option Nat → Bool
  | some d => decide (d < nt)
  | none => true
def compOper (P : Program) (ops : Array Oper) (nt : Nat) (o : Oper) : Option AOp :=
  match compAct P o.op with
  | none => none
  | some act =>
    if dstOk nt o.dst = true then
      match o.guard with
      | none => some ⟨o.dst, act, none⟩
      | some (j, want) => match (ops[j]?).bind (·.dst) with
        | some d => some ⟨o.dst, act, some (d, want)⟩
        | none => none
    else none

def compOpers (P : Program) (ops : Array Oper) (nt : Nat) : List Oper → Option (List AOp)
  | [] => some []
  | o :: os => match compOper P ops nt o, compOpers P ops nt os with
    | some x, some xs => some (x :: xs)
    | _, _ => none

/-- One operation of a region that draws its order: its number, and for a call: the reads that may also come behind it. -/
structure DOp where
  idx : Nat
  op : AOp
  re : List Nat
  deriving Inhabited

inductive ACode where
  | skip
  | ops (l : List AOp)
  | dops (l : List DOp)
  | seq (a b : ACode)
  | cond (c : AOpd) (a b : ACode)
  | block (id : Nat) (a : ACode)
  | loop (a : ACode)
  | exit (id : Nat)
  | ret
  | rfunc (f : AOpd) (params : List Nat) (asg body : ACode)
  deriving Inhabited

/-! ### Regions that draw their order: one order that is told, and what makes it serve all others. -/

/-- Kinds: 0 touches no memory, 1 reads, 2 all else. -/
def AI.kind : AI → Nat
  | .load1 _ | .loadN _ _ | .lenM _ => 1
  | .alloc _ _ | .box _ _ | .buildSlice _ _ _ _ _ | .store _ _ _ | .makeMap | .makeSlice _ _ _ _ _ _ | .append _ _ _ _ _ => 2
  | _ => 0
def AAct.kind : AAct → Nat
  | .plain ai => ai.kind
  | _ => 2
def AOpd.slots : AOpd → List Nat
  | .tmp t => [t]
  | .val _ => []
def slotsOf (l : List AOpd) : List Nat := l.flatMap AOpd.slots
def optSlots : Option AOpd → List Nat
  | none => []
  | some x => x.slots
def AI.slots : AI → List Nat
  | .mv x | .not x | .neg x | .conv _ x | .box _ x | .load1 x | .loadN _ x | .nilCheck x | .addOff _ x | .field1 _ x | .fieldN _ _ x | .extract x _ | .lenS x | .lenStr x | .lenM x => x.slots
  | .pick a b c => a.slots ++ b.slots ++ c.slots
  | .bin _ x y | .shift _ x y | .eqb _ x y | .eqn _ _ x y | .store _ x y | .idxA _ _ x y | .idxS _ x y | .index1 _ _ x y | .indexN _ _ x y | .indexStr x y | .makeSlice _ _ _ _ x y | .append _ _ _ x y | .min x y | .max x y => x.slots ++ y.slots
  | .alloc _ _ | .makeMap => []
  | .build _ ps => ps.flatMap fun p => p.2.2.slots
  | .buildSlice _ _ _ _ ps => ps.flatMap fun p => p.2.2.slots
  | .mkFunc _ a b => slotsOf a ++ slotsOf b
  | .slice _ x l h => x.slots ++ optSlots l ++ optSlots h
  | .sliceStr x l h => x.slots ++ optSlots l ++ optSlots h
def AAct.slots : AAct → List Nat
  | .plain ai => ai.slots
  | .call f xs => f.slots ++ slotsOf xs
  | .dfr f xs => f.slots ++ slotsOf xs
def AOp.uses (o : AOp) : List Nat := o.act.slots ++ (match o.guard with | some (d, _) => [d] | none => [])
/-- Neither writes what the other reads or writes. -/
def AOp.apart (x y : AOp) : Bool :=
  (match x.dst with | some d => !y.uses.contains d && decide (y.dst ≠ some d) | none => true) && (match y.dst with | some d => !x.uses.contains d | none => true)

/-- May x, which comes first, also come behind y? -/
def AOp.passes (x y : AOp) : Bool :=
  x.apart y && decide (x.act.kind ≤ 1) &&
  (decide (y.act.kind ≤ 1) || (match y.act with
    | .plain ai => (match ai with
      | .store _ _ _ | .append _ _ _ _ _ => decide (x.act.kind = 0)
      | _ => true)
    | .call _ _ => true
    | .dfr _ _ => true))

/-- The direct predecessors that bind. -/
def preds (o : Oper) : List Nat := (o.after.toList.filter fun e => Region.binds .any e).map (·.on)

/-- One order: what touches or reads memory as soon as it may, all else as late as it may. -/
def orderGo (ops : Array Oper) (ks : List Nat) : Nat → List Nat → List Nat → List Nat
  | 0, done, _ => done.reverse
  | n + 1, done, left =>
    let ready := left.filter fun i => ((ops[i]?).map fun o => (preds o).all fun j => done.contains j).getD false
    match (ready.find? fun i => ks.getD i 2 ≤ 1) with
    | some i => orderGo ops ks n (i :: done) (left.filter (· ≠ i))
    | none => match ready with
      | i :: _ => orderGo ops ks n (i :: done) (left.filter (· ≠ i))
      | [] => done.reverse

/-- Everything ahead, in closure. -/
def closure (ops : Array Oper) : Nat → Nat → List Nat
  | 0, _ => []
  | n + 1, i => match ops[i]? with
    | some o => (preds o).flatMap fun j => j :: closure ops n j
    | none => []
/-- Bitwise: who comes ahead of each, in closure. -/
def beforeAll (ops : List Oper) : List (List Nat) :=
  (ops.foldl (fun (acc : List (List Nat)) o => acc ++ [((preds o).flatMap fun j => j :: acc.getD j []).eraseDups]) [])

/-- For a call: the reads that came first and are not ahead of it. -/
def reOf (xs : List AOp) (bef : List (List Nat)) (earlier : List Nat) (i : Nat) : List Nat :=
  earlier.filter fun j => (match xs[j]? with | some x => x.act.kind == 1 | none => false) && !(bef.getD i []).contains j
def isCall : AAct → Bool
  | .call _ _ => true
  | _ => false
def mkDOps (xs : List AOp) (bef : List (List Nat)) : List Nat → List Nat → Option (List DOp)
  | _, [] => some []
  | earlier, i :: rest => match xs[i]?, mkDOps xs bef (earlier ++ [i]) rest with
    | some x, some ds => some (⟨i, x, if isCall x.act then reOf xs bef earlier i else []⟩ :: ds)
    | _, _ => none

/-- Each may come behind those that follow it, or is ahead of them. -/
def pairsOk (bef : List (List Nat)) : List DOp → Bool
  | [] => true
  | x :: rest => (rest.all fun y => (bef.getD y.idx []).contains x.idx ||
      (decide (x.idx ≠ y.idx) && x.op.passes y.op && (decide (x.op.act.kind ≠ 1) || !isCall y.op.act || y.re.contains x.idx))) && pairsOk bef rest
/-- Those ahead of each come first. -/
def predsFirst (ops : Array Oper) : List Nat → List DOp → Bool
  | _, [] => true
  | done, x :: rest => (match ops[x.idx]? with | some o => (preds o).all fun j => done.contains j | none => false) && !done.contains x.idx && predsFirst ops (x.idx :: done) rest

def compDrawn (P : Program) (nt : Nat) (ops : Array Oper) : Option ACode :=
  match compOpers P ops nt ops.toList with
  | none => none
  | some xs =>
    let ord := orderGo ops (xs.map fun x => x.act.kind) ops.size [] (List.range ops.size)
    let bef := beforeAll ops.toList
    match mkDOps xs bef [] ord with
    | some ds => if ds.length = ops.size ∧ predsFirst ops [] ds = true ∧ pairsOk bef ds = true ∧ (ds.all fun d => decide (d.idx < ops.size)) = true ∧ ((List.range ops.size).all fun i => ds.any fun d => d.idx == i) = true then some (.dops ds) else none
    | none => none

def compCode (P : Program) (nt : Nat) : Code → Option ACode
  | .skip => some .skip
  | .label _ => some .skip
  | .region _ ops draw => if draw then compDrawn P nt ops else (compOpers P ops nt ops.toList).map .ops
  | .seq a b => match compCode P nt a, compCode P nt b with
    | some x, some y => some (.seq x y)
    | _, _ => none
  | .cond c a b => match compOpd c, compCode P nt a, compCode P nt b with
    | some z, some x, some y => some (.cond z x y)
    | _, _, _ => none
  | .block id a => (compCode P nt a).map (.block id)
  | .loop a => (compCode P nt a).map .loop
  | .exit id => some (.exit id)
  | .ret => some .ret
  | .rangeFunc f ps a b => match compOpd f, compCode P nt a, compCode P nt b with
    | some z, some x, some y => some (.rfunc z ps.toList x y)
    | _, _, _ => none
  | _ => none

/-- A function, compiled. -/
structure AFun where
  nt : Nat
  res : List Nat
  body : ACode
  deriving Inhabited
def resSlots : List ResultVar → Option (List Nat)
  | [] => some []
  | .tmp t :: rs => (resSlots rs).map (t :: ·)
  | .cell _ _ :: _ => none
/-- A function of Go text. -/
def okFun (P : Program) (f : FuncId) : Bool :=
  match P.funcs[f]? with
  | some fn => fn.body.isSome && !(fn.name == "runtime.NumGoroutine")
  | none => false
def compFun (P : Program) (f : FuncId) : Option AFun :=
  if okFun P f = true then
  match P.funcs[f]? with
  | some fn => match fn.body, resSlots fn.results.toList with
    | some c, some rs => (compCode P fn.ntmps c).map fun a => ⟨fn.ntmps, rs, a⟩
    | _, _ => none
  | none => none
  else none

end Go.AL
