/- Helper text: operations, abstractly; each is what the model's own operation does. -/
import Derived.Test.YtimonbmadmfhfaaALc
namespace Go.AL

def AOpd.ev (env : Env) : AOpd → Option AVal
  | .tmp t => env t
  | .val v => some v

theorem ev_rel {β : Beta} {nt : Nat} {env : Env} {a : Act} {x : Operand} {y : AOpd} {v : AVal} (hc : compOpd x = some y) (hE : ERel β nt env a.tmps) (hv : y.ev env = some v) : VRel β v (a.eval x) := by
  cases x with
  | tmp t =>
    simp [compOpd] at hc; subst hc
    exact hE.get t v hv
  | const c =>
    simp only [compOpd, Option.map_eq_some_iff] at hc
    obtain ⟨a', h1, rfl⟩ := hc
    simp [AOpd.ev] at hv; subst hv
    exact cval_rel _ _ h1
  | func f =>
    simp [compOpd] at hc; subst hc
    simp [AOpd.ev] at hv; subst hv
    simp only [VRel]
    exact ⟨#[], #[], rfl, VRels.nil, VRels.nil⟩
  | global g => simp [compOpd] at hc

def evs (env : Env) : List AOpd → Option (List AVal)
  | [] => some []
  | x :: xs => match x.ev env, evs env xs with
    | some v, some vs => some (v :: vs)
    | _, _ => none
theorem evs_rel {β : Beta} {nt : Nat} {env : Env} {a : Act} (hE : ERel β nt env a.tmps) : ∀ {xs : List Operand} {ys : List AOpd} {vs : List AVal}, compOpds xs = some ys → evs env ys = some vs → VRels β vs (xs.map a.eval)
  | [], ys, vs, hc, hv => by
    simp [compOpds] at hc; subst hc
    simp [evs] at hv; subst hv
    exact VRels.nil
  | x :: xs, ys, vs, hc, hv => by
    simp only [compOpds] at hc
    split at hc
    · rename_i y ys' h1 h2
      injection hc with hc; subst hc
      simp only [evs] at hv
      split at hv
      · rename_i v vs' h3 h4
        injection hv with hv; subst hv
        exact VRels.cons (ev_rel h1 hE h3) (evs_rel hE h2 h4)
      · cases hv
    · cases hc

def intBin (op : BinOp) (k : IntKind) (a b : Int) : Option AVal :=
  match op with
  | .add => some (.int k (k.wrap (a + b)))
  | .sub => some (.int k (k.wrap (a - b)))
  | .mul => some (.int k (k.wrap (a * b)))
  | .quo => if b = 0 then none else some (.int k (k.wrap (a.tdiv b)))
  | .rem => if b = 0 then none else some (.int k (a.tmod b))
  | .and => some (.int k (k.wrap (BitVec.ofInt k.bits a &&& BitVec.ofInt k.bits b).toNat))
  | .or => some (.int k (k.wrap (BitVec.ofInt k.bits a ||| BitVec.ofInt k.bits b).toNat))
  | .xor => some (.int k (k.wrap (BitVec.ofInt k.bits a ^^^ BitVec.ofInt k.bits b).toNat))
  | .eql => some (.bool (a == b))
  | .neq => some (.bool (a != b))
  | .lss => some (.bool (decide (a < b)))
  | .leq => some (.bool (decide (a ≤ b)))
  | .gtr => some (.bool (decide (a > b)))
  | .geq => some (.bool (decide (a ≥ b)))
  | _ => none
def strBin (op : BinOp) (a b : ByteArray) : Option AVal :=
  match op with
  | .eql => some (.bool (a.toList == b.toList))
  | .neq => some (.bool !(a.toList == b.toList))
  | _ => none
def binV (op : BinOp) : AVal → AVal → Option AVal
  | .int k a, .int k' b => if k = k' then intBin op k a b else none
  | .str a, .str b => strBin op a b
  | _, _ => none
def shiftV (op : BinOp) : AVal → AVal → Option AVal
  | .int k a, .int _ b => if b < 0 then none else match op with
    | .shl => some (.int k (k.wrap (a * 2 ^ (min b.toNat k.bits))))
    | .shr => some (.int k (a.fdiv (2 ^ (min b.toNat k.bits))))
    | _ => none
  | _, _ => none
/-- Is it nil? -/
def nilV (cls : NilCls) : AVal → Option Bool
  | .nilp => if cls = .ptr then some true else none
  | .ptr _ _ => if cls = .ptr then some false else none
  | .nils => if cls = .slc then some true else none
  | .slice _ _ _ _ _ => if cls = .slc then some false else none
  | .nilm => if cls = .map then some true else none
  | .map _ => if cls = .map then some false else none
  | .nilf => if cls = .fn then some true else none
  | .func _ _ _ => if cls = .fn then some false else none
  | .yld _ => if cls = .fn then some false else none
  | _ => none
/-- 'x == y' where one of them is nil. -/
def eqnV (cls : NilCls) (x y : AVal) : Option Bool :=
  match nilV cls x, nilV cls y with
  | some true, some b => some b
  | some false, some true => some false
  | _, _ => none

def AVal.isAny : AVal → Bool
  | .any => true
  | _ => false
def fillA : List AVal → List (Nat × Nat × AVal) → Option (List AVal)
  | cs, [] => some cs
  | cs, (off, n, v) :: rest => if v.cells.length = n ∧ off + n ≤ cs.length ∧ v.isAny = false then fillA (setMany cs off v.cells) rest else none
def evParts (env : Env) : List (Nat × Nat × AOpd) → Option (List (Nat × Nat × AVal))
  | [] => some []
  | (o, n, x) :: xs => match x.ev env, evParts env xs with
    | some v, some vs => some ((o, n, v) :: vs)
    | _, _ => none

/-- The cells of a block, from one on. -/
def blockCells (rom : Rom) (h : Heap) : Bid → Option (List AVal)
  | .own i => match h i with
    | some (.cells cs _) => some cs
    | _ => none
  | .arg i => match rom i with
    | some (cs, _) => some cs
    | none => none

/-- A value that fits one cell. -/
def AVal.one : AVal → Bool
  | .any | .agg _ | .tup _ => false
  | _ => true
def allOne (cs : List AVal) : Bool := cs.all AVal.one

/-- A slice's bounds. -/
def loOf (env : Env) : Option AOpd → Option Int
  | none => some 0
  | some x => match x.ev env with
    | some (.int _ n) => some n
    | _ => none
def hiEv (env : Env) (d : Int) : Option AOpd → Option Int
  | none => some d
  | some x => match x.ev env with
    | some (.int _ n) => some n
    | _ => none

abbrev Out := Option (AVal × Heap × Nat)

/-- Cells of what is appended. -/
def srcCells (rom : Rom) (h : Heap) (esz : Nat) : AVal → Option (Nat × List AVal)
  | .nils => some (0, [])
  | .slice b off z len _ => match blockCells rom h b with
    | some cs => if z = esz ∧ off + len * esz ≤ cs.length then some (len, (cs.drop off).take (len * esz)) else none
    | none => none
  | _ => none

def AI.exec (rom : Rom) (ai : AI) (env : Env) (h : Heap) (nx : Nat) : Out :=
  let ok (v : Option AVal) : Out := match v with | some v => some (v, h, nx) | none => none
  match ai with
  | .mv x => ok (x.ev env)
  | .pick c a b => match c.ev env with
    | some (.bool t) => ok (bif t then a.ev env else b.ev env)
    | _ => none
  | .bin op x y => match x.ev env, y.ev env with
    | some a, some b => ok (binV op a b)
    | _, _ => none
  | .shift op x y => match x.ev env, y.ev env with
    | some a, some b => ok (shiftV op a b)
    | _, _ => none
  | .eqb ng x y => match x.ev env, y.ev env with
    | some (.bool a), some (.bool b) => ok (some (.bool (xor ng (a == b))))
    | _, _ => none
  | .eqn cls ng x y => match x.ev env, y.ev env with
    | some a, some b => match eqnV cls a b with
      | some r => ok (some (.bool (xor ng r)))
      | none => none
    | _, _ => none
  | .not x => match x.ev env with
    | some (.bool a) => ok (some (.bool !a))
    | _ => none
  | .neg x => match x.ev env with
    | some (.int k n) => ok (some (.int k (k.wrap (0 - n))))
    | _ => none
  | .conv k x => match x.ev env with
    | some (.int _ n) => ok (some (.int k (k.wrap n)))
    | _ => none
  | .alloc t zero => some (.ptr (.own nx) 0, upd h nx (some (.cells zero t)), nx + 1)
  | .box t x => match x.ev env with
    | some .any => none
    | some v => some (.ptr (.own nx) 0, upd h nx (some (.cells v.cells t)), nx + 1)
    | none => none
  | .build zero parts => match evParts env parts with
    | some ps => ok ((fillA zero ps).map .agg)
    | none => none
  | .buildSlice elem esz zero len parts => match evParts env parts with
    | some ps => match fillA zero ps with
      | some cs => some (.slice (.own nx) 0 esz len len, upd h nx (some (.cells cs elem)), nx + 1)
      | none => none
    | none => none
  | .load1 a => match a.ev env with
    | some (.ptr b off) => match blockCells rom h b with
      | some cs => ok cs[off]?
      | none => none
    | _ => none
  | .loadN n a => match a.ev env with
    | some (.ptr b off) => match blockCells rom h b with
      | some cs => if off + n ≤ cs.length then ok (some (.agg ((cs.drop off).take n))) else none
      | none => none
    | _ => none
  | .store n a x => match a.ev env, x.ev env with
    | some (.ptr (.own i) off), some v => match h i with
      | some (.cells cs t) => if v.cells.length = n ∧ off + n ≤ cs.length ∧ allOne v.cells = true then some (.any, upd h i (some (.cells (setMany cs off v.cells) t)), nx) else none
      | _ => none
    | _, _ => none
  | .nilCheck x => match x.ev env with
    | some (.ptr b o) => ok (some (.ptr b o))
    | some (.func f a b) => ok (some (.func f a b))
    | some (.yld b) => ok (some (.yld b))
    | some (.iface t v) => ok (some (.iface t v))
    | _ => none
  | .addOff off x => match x.ev env with
    | some (.ptr b o) => ok (some (.ptr b (o + off)))
    | _ => none
  | .field1 off x => match x.ev env with
    | some (.agg cs) => ok cs[off]?
    | _ => none
  | .fieldN off n x => match x.ev env with
    | some (.agg cs) => if off + n ≤ cs.length then ok (some (.agg ((cs.drop off).take n))) else none
    | _ => none
  | .idxA len esz x i => match x.ev env, i.ev env with
    | some (.ptr b o), some (.int _ j) => if 0 ≤ j ∧ j < (len : Int) then ok (some (.ptr b (o + j.toNat * esz))) else none
    | _, _ => none
  | .idxS esz x i => match x.ev env, i.ev env with
    | some (.slice b o z len _), some (.int _ j) => if z = esz ∧ 0 ≤ j ∧ j < (len : Int) then ok (some (.ptr b (o + j.toNat * esz))) else none
    | _, _ => none
  | .index1 len esz x i => match x.ev env, i.ev env with
    | some (.agg cs), some (.int _ j) => if 0 ≤ j ∧ j < (len : Int) then ok cs[j.toNat * esz]? else none
    | _, _ => none
  | .indexN len esz x i => match x.ev env, i.ev env with
    | some (.agg cs), some (.int _ j) => if 0 ≤ j ∧ j < (len : Int) ∧ j.toNat * esz + esz ≤ cs.length then ok (some (.agg ((cs.drop (j.toNat * esz)).take esz))) else none
    | _, _ => none
  | .indexStr x i => match x.ev env, i.ev env with
    | some (.str s), some (.int _ j) => if 0 ≤ j ∧ j < (s.size : Int) then ok (some (.int .u8 (s.get! j.toNat).toNat)) else none
    | _, _ => none
  | .extract x i => match x.ev env with
    | some (.tup vs) => ok vs[i]?
    | _ => none
  | .mkFunc f first caps => match evs env first, evs env caps with
    | some a, some b => ok (some (.func f a b))
    | _, _ => none
  | .makeMap => some (.map (.own nx), upd h nx (some (.map [] 0)), nx + 1)
  | .makeSlice elem esz bytes zero len cap => match len.ev env, cap.ev env with
    | some (.int .i64 l), some (.int .i64 c) =>
      if 0 ≤ l ∧ l ≤ c ∧ (bytes : Int) * c ≤ 2 ^ 44 ∧ c ≤ 2 ^ 44 then some (.slice (.own nx) 0 esz l.toNat c.toNat, upd h nx (some (.cells (List.flatten (List.replicate c.toNat zero)) elem)), nx + 1) else none
    | _, _ => none
  | .slice esz x lo hi =>
    match x.ev env with
    | some (.slice b o z len cap) => match loOf env lo, hiEv env (len : Int) hi with
      | some l, some n => if z = esz ∧ 0 ≤ l ∧ l ≤ n ∧ (n ≤ (len : Int) ∨ n ≤ (cap : Int)) then ok (some (.slice b (o + l.toNat * esz) z (n - l).toNat (cap - l.toNat))) else none
      | _, _ => none
    | some .nils => match loOf env lo, hiEv env 0 hi with
      | some l, some n => if l = 0 ∧ n = 0 then ok (some .nils) else none
      | _, _ => none
    | _ => none
  | .sliceStr x lo hi =>
    match x.ev env with
    | some (.str s) => match loOf env lo, hiEv env (s.size : Int) hi with
      | some l, some n => if 0 ≤ l ∧ l ≤ n ∧ n ≤ (s.size : Int) then ok (some (.str (s.extract l.toNat n.toNat))) else none
      | _, _ => none
    | _ => none
  | .lenS x => match x.ev env with
    | some (.slice _ _ _ len _) => ok (some (.int .i64 len))
    | some .nils => ok (some (.int .i64 0))
    | _ => none
  | .lenStr x => match x.ev env with
    | some (.str s) => ok (some (.int .i64 s.size))
    | _ => none
  | .lenM x => match x.ev env with
    | some .nilm => ok (some (.int .i64 0))
    | some (.map (.own i)) => match h i with
      | some (.map es _) => ok (some (.int .i64 es.length))
      | _ => none
    | _ => none
  | .append elem esz bytes s x => match s.ev env, x.ev env with
    | some .nils, some xv => match srcCells rom h esz xv with
      | some (n, cs) => if n = 0 then ok (some .nils) else if n ≤ 2 ^ 40 ∧ bytes ≤ 64 then some (.slice (.own nx) 0 esz n n, upd h nx (some (.cells cs elem)), nx + 1) else none
      | none => none
    | some (.slice (.own i) off z len cap), some xv => match srcCells rom h esz xv, h i with
      | some (n, cs), some (.cells old t) =>
        if z ≠ esz then none else if len + n ≤ cap ∧ off + (len + n) * esz ≤ old.length ∧ allOne cs = true ∧ 0 < len + n then some (.slice (.own i) off z (len + n) cap, upd h i (some (.cells (setMany old (off + len * esz) cs) t)), nx)
        else if off = 0 ∧ t = elem ∧ len * esz ≤ old.length ∧ len + n ≤ 2 ^ 40 ∧ bytes ≤ 64 ∧ allOne cs = true then
          some (.slice (.own nx) 0 esz (len + n) (len + n), upd (upd h i none) nx (some (.cells (old.take (len * esz) ++ cs) elem)), nx + 1)
        else none
      | _, _ => none
    | _, _ => none
  | .min x y => match x.ev env, y.ev env with
    | some (.int k a), some (.int k' b) => if k = k' then ok (some (.int k (if b < a then b else a))) else none
    | _, _ => none
  | .max x y => match x.ev env, y.ev env with
    | some (.int k a), some (.int k' b) => if k = k' then ok (some (.int k (if a < b then b else a))) else none
    | _, _ => none

end Go.AL
