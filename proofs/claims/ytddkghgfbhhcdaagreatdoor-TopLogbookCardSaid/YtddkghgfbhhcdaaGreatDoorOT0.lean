/- The theory, part T0. -/
import GoSem.Step
import Derived.Below
import Derived.Laws.Rows
import Derived.WalkKit
import Derived.Laws.StructEq
import Derived.DeepKeys
import Derived.Laws.Slices
import Derived.Laws.Strings
import Derived.Laws.Cover3
import Derived.Laws.Pointers
import Derived.WideLaws
import Derived.Lib.Bytealg
/- An abstract interpreter for the part of the language that the octant programs use: its values, its heap of numbered objects, its operations, and the run of code. Nothing here is trusted: what it computes is tied to the model by a theorem of its own (the texts ..Rel, ..Ops, ..Sound). -/
section
set_option linter.unusedVariables false
set_option linter.unusedSimpArgs false
namespace Go.Oct

/-- The capacity of a slice: known, or up to the end of its block (z: cells of an element). -/
inductive ACap where
  | ex (c : Nat)
  | op (z : Nat)

/-- Values. Addresses are pairs (object, offset). -/
inductive AV where
  | undef
  | int (k : IntKind) (n : Int)
  | bool (b : Bool)
  | str (s : ByteArray)
  | ptr (a : Option (Nat × Nat))
  | slice (a : Option (Nat × Nat)) (len : Nat) (cap : ACap)
  | map (r : Option Nat)
  | func (fn : Fn) (xs ys : List AV)
  | nilFunc
  | iface (t : Nat) (v : AV)
  | nilIface
  | agg (cs : List AV)
  | tuple (vs : List AV)
  /-- A slice whose elements no one will write; nl: it is nil (then without elements). -/
  | vsl (nl : Bool) (es : List AV)
  /-- A pointer into cells that no one will write. -/
  | vptr (cs : List AV) (o : Nat)
  /-- A slice of n elements whose array is in no one's hands: what is appended. -/
  | tsl (n : Nat) (cs : List AV)
instance : Inhabited AV := ⟨.undef⟩

def AV.cells : AV → List AV
  | .agg cs => cs
  | v => [v]
/-- A value that fills one cell. -/
def AV.one : AV → Bool
  | .undef | .agg _ | .tuple _ => false
  | _ => true

/-- A value of which something is known. -/
def AV.dfd : AV → Bool
  | .undef => false
  | _ => true

abbrev Env := List (Nat × AV)
def Env.get : Env → Nat → AV
  | [], _ => .undef
  | (s, u) :: r, t => if s = t then u else Env.get r t
def Env.set : Env → Nat → AV → Env
  | [], t, v => [(t, v)]
  | (s, u) :: r, t, v => if t < s then (t, v) :: (s, u) :: r else if t = s then (t, v) :: r else (s, u) :: Env.set r t v
def Env.keep (ks : List Nat) (env : Env) : Env := ks.map fun k => (k, env.get k)
def Env.puts : Env → List Nat → List AV → Env
  | env, k :: ks, v :: vs => Env.puts (env.set k v) ks vs
  | env, _, _ => env

/-- Why a part of code is left. -/
inductive AEx where
  | normal
  | exit (id : Nat)
  | ret

/-- Objects. -/
inductive AObj where
  | cells (cs : List AV)
  | ro (cs : List AV)
  | map (es : List (AV × AV × Nat)) (clock : Nat)
  | loop (f i : Nat) (env : Env) (state : LoopState) (pend : Option AEx) (dfr : Nat)
  | dfr
  | siter (s : ByteArray) (pos : Nat)
  | dead

/-- A map from numbers, as a tree. -/
inductive Tr (α : Type) where
  | leaf
  | node (l : Tr α) (v : Option α) (r : Tr α)
def Tr.get {α : Type} : Tr α → Nat → Option α
  | .leaf, _ => none
  | .node l v r, n => if n = 0 then v else if n % 2 = 1 then l.get (n / 2) else r.get (n / 2 - 1)
def Tr.setF {α : Type} : Nat → Tr α → Nat → α → Tr α
  | 0, t, _, _ => t
  | k + 1, t, n, x =>
    match t with
    | .leaf => if n = 0 then .node .leaf (some x) .leaf else if n % 2 = 1 then .node (Tr.setF k .leaf (n / 2) x) none .leaf else .node .leaf none (Tr.setF k .leaf (n / 2 - 1) x)
    | .node l v r => if n = 0 then .node l (some x) r else if n % 2 = 1 then .node (Tr.setF k l (n / 2) x) v r else .node l v (Tr.setF k r (n / 2 - 1) x)
def Tr.set {α : Type} (t : Tr α) (n : Nat) (x : α) : Tr α := Tr.setF (n + 1) t n x
def Tr.ofList {α : Type} (l : List (Nat × α)) : Tr α := l.foldl (fun t p => t.set p.1 p.2) .leaf

/-- The heap: objects below 'lim' may not be written. -/
structure AH where
  next : Nat
  lim : Nat
  tab : Tr AObj
def AH.get (σ : AH) (i : Nat) : Option AObj := if i < σ.next then σ.tab.get i else none
def AH.set (σ : AH) (i : Nat) (o : AObj) : AH := { σ with tab := σ.tab.set i o }
def AH.push (σ : AH) (o : AObj) : AH := { σ with next := σ.next + 1, tab := σ.tab.set σ.next o }
/-- The cells of an object that may be read. -/
def AH.row (σ : AH) (i : Nat) : Option (List AV) :=
  match σ.get i with
  | some (.cells cs) | some (.ro cs) => some cs
  | _ => none
/-- The cells of an object that may be written. -/
def AH.own (σ : AH) (i : Nat) : Option (List AV) :=
  if σ.lim ≤ i then
    match σ.get i with
    | some (.cells cs) => some cs
    | _ => none
  else none

inductive Opd where
  | tmp (t : Nat)
  | const (v : AV)
  | glob (g : Nat)
def Opd.ev (env : Env) : Opd → AV
  | .tmp t => env.get t
  | .const v => v
  | .glob g => .ptr (some (g, 0))

/-- The leaves of a type whose values can be compared cell by cell. -/
inductive Leaf where
  | int | bool | str

/-- The kinds of values that can be nil. -/
inductive NilK where
  | slice | map | ptr | func | iface

/-- Operations that only compute. -/
inductive VOp where
  | mov (x : Opd)
  | pick (c a b : Opd)
  | bin (op : BinOp) (x y : Opd)
  | eqB (neg : Bool) (x y : Opd)
  | eqA (neg : Bool) (sh : List Leaf) (x y : Opd)
  | eqN (neg : Bool) (k : NilK) (x : Opd)
  | un (op : UnOp) (x : Opd)
  | conv (k : IntKind) (x : Opd)
  | build (zero : List AV) (parts : List (Nat × Nat × Opd))
  | fieldV (agg : Bool) (off n : Nat) (x : Opd)
  | indexA (agg : Bool) (len z : Nat) (x i : Opd)
  | indexS (x i : Opd)
  | fieldAddr (off : Nat) (x : Opd)
  | indexAddrS (z : Nat) (x i : Opd)
  | indexAddrA (len z : Nat) (x i : Opd)
  | slS (z : Nat) (x : Opd) (lo hi mx : Option Opd)
  | slA (n z : Nat) (x : Opd) (lo hi mx : Option Opd)
  | slT (x : Opd) (lo hi : Option Opd)
  | mkI (t : Nat) (x : Opd)
  | mkF (f : Nat) (first captured : List Opd)
  | extract (i : Nat) (x : Opd)
  | len (x : Opd)
  | lenT (x : Opd)
  | lenC (n : Nat)
  | min (x : Opd) (xs : List Opd)
  | max (x : Opd) (xs : List Opd)
  | nilCheck (x : Opd)
  /-- A method of a value, bound. -/
  | mkM (name : String) (x : Opd)
  /-- Strings, compared. -/
  | cmpS (x y : Opd)
  /-- How often a byte stands in a string. -/
  | cntS (x y : Opd)

/-- Operations on the heap. -/
inductive HOp where
  | alloc (cs : List AV)
  | box (x : Opd)
  | bslice (z len : Nat) (zero : List AV) (parts : List (Nat × Nat × Opd))
  /-- The same, read by an append alone. -/
  | tslice (z len : Nat) (zero : List AV) (parts : List (Nat × Nat × Opd))
  | load (agg : Bool) (n : Nat) (a : Opd)
  | store (n : Nat) (a x : Opd)
  | mkMap
  | mkSlice (bytes : Nat) (zero : List AV) (len cap : Opd)
  | append (z bytes : Nat) (s x : Opd)
  | appendZ (bytes : Nat) (zero : List AV) (s n : Opd)
  | copy (z : Nat) (d s : Opd)
  | lookup (agg : Bool) (sh : List Leaf) (zero : AV) (ok : Bool) (m k : Opd)
  | mapUpd (agg : Bool) (sh : List Leaf) (m k v : Opd)
  | mapEntry (agg : Bool) (sh : List Leaf) (zero : AV) (m k : Opd)
  | entryStore (m s v : Opd)
  | lenM (m : Opd)
  | cap (s : Opd)
  | s2b (x : Opd)
  | nextS (it : Opd)
  /-- The string of a slice of bytes. -/
  | b2s (x : Opd)

inductive AOp where
  | v (o : VOp)
  | h (o : HOp)
  | call (f : Opd) (args : List Opd)
  | invoke (name : String) (recv : Opd) (args : List Opd)
  | fail

/-- How an operation of a region whose order is open stands to the others. -/
inductive Cls where
  | full | semi | sload | st1 | froz

structure AOper where
  dst : Option Nat
  op : AOp
  guard : Option (Nat × Bool)
  cls : Cls

inductive ACode where
  | skip
  | region (draw : Bool) (ops : List AOper) (keep : List Nat)
  | seq (a b : ACode)
  | cond (c : Opd) (a b : ACode)
  | block (id : Nat) (b : ACode)
  | loop (b : ACode)
  | rangeFunc (i : Nat) (f : Opd)
  | exit (id : Nat)
  | scope (b : ACode)
  | ret

structure ALoop where
  params : List Nat
  asg : ACode
  body : ACode
inductive ARes where
  | tmp (t : Nat)
  | cell (agg : Bool) (a n : Nat)
structure AFunc where
  np : Nat
  res : List ARes
  body : ACode
  loops : List ALoop
  /-- Its calls are run apart, on what no one will write. -/
  pure : Bool
structure AProg where
  funcs : Tr AFunc
  meths : List (Nat × String × Nat)

/-- The wrap of a number, with no reckoning where the number fits. -/
def wr (k : IntKind) (n : Int) : Int :=
  match k with
  | .i64 => if -9223372036854775808 ≤ n ∧ n ≤ 9223372036854775807 then n else IntKind.wrap .i64 n
  | k => k.wrap n

def abin (op : BinOp) : AV → AV → Option AV
  | .int k a, .int k' b =>
    match op with
    | .shl => if b < 0 then none else some (.int k (wr k (a * 2 ^ (min b.toNat k.bits))))
    | .shr => if b < 0 then none else some (.int k (a.fdiv (2 ^ (min b.toNat k.bits))))
    | .add => if k = k' then some (.int k (wr k (a + b))) else none
    | .sub => if k = k' then some (.int k (wr k (a - b))) else none
    | .mul => if k = k' then some (.int k (wr k (a * b))) else none
    | .quo => if k = k' ∧ b ≠ 0 then some (.int k (wr k (a.tdiv b))) else none
    | .rem => if k = k' ∧ b ≠ 0 then some (.int k (a.tmod b)) else none
    | .and => if k = k' then some (.int k (k.wrap (BitVec.ofInt k.bits a &&& BitVec.ofInt k.bits b).toNat)) else none
    | .or => if k = k' then some (.int k (k.wrap (BitVec.ofInt k.bits a ||| BitVec.ofInt k.bits b).toNat)) else none
    | .xor => if k = k' then some (.int k (k.wrap (BitVec.ofInt k.bits a ^^^ BitVec.ofInt k.bits b).toNat)) else none
    | .andNot => if k = k' then some (.int k (k.wrap (BitVec.ofInt k.bits a &&& ~~~ BitVec.ofInt k.bits b).toNat)) else none
    | .eql => if k = k' then some (.bool (a == b)) else none
    | .neq => if k = k' then some (.bool (a != b)) else none
    | .lss => if k = k' then some (.bool (decide (a < b))) else none
    | .leq => if k = k' then some (.bool (decide (a ≤ b))) else none
    | .gtr => if k = k' then some (.bool (decide (b < a))) else none
    | .geq => if k = k' then some (.bool (decide (b ≤ a))) else none
  | .str a, .str b =>
    match op with
    | .eql => some (.bool (a.toList == b.toList))
    | .neq => some (.bool !(a.toList == b.toList))
    | .lss => some (.bool (Op.bytesLess a.toList b.toList))
    | .geq => some (.bool !(Op.bytesLess a.toList b.toList))
    | .leq => some (.bool (Op.bytesLess a.toList b.toList || a.toList == b.toList))
    | .gtr => some (.bool !(Op.bytesLess a.toList b.toList || a.toList == b.toList))
    | .add => if a.size + b.size ≤ 9223372036854775807 then some (.str (a ++ b)) else none
    | _ => none
  | _, _ => none

/-- Are cells of the shape alike? -/
def eqCells : List Leaf → List AV → List AV → Option Bool
  | [], [], [] => some true
  | .int :: sh, .int k a :: xs, .int k' b :: ys => if k = k' then (eqCells sh xs ys).map fun r => (a == b) && r else none
  | .bool :: sh, .bool a :: xs, .bool b :: ys => (eqCells sh xs ys).map fun r => (a == b) && r
  | .str :: sh, .str a :: xs, .str b :: ys => (eqCells sh xs ys).map fun r => (a.toList == b.toList) && r
  | _, _, _ => none
def isNil : NilK → AV → Option Bool
  | .slice, .slice a _ _ => some a.isNone
  | .slice, .vsl nl _ => some nl
  | .ptr, .vptr _ _ => some false
  | .map, .map r => some r.isNone
  | .ptr, .ptr a => some a.isNone
  | .func, .nilFunc => some true
  | .func, .func .. => some false
  | .iface, .nilIface => some true
  | .iface, .iface .. => some false
  | _, _ => none
def aun (op : UnOp) : AV → Option AV
  | .int k n =>
    match op with
    | .neg => some (.int k (wr k (0 - n)))
    | .xor => some (.int k (k.wrap (BitVec.ofInt k.bits (if k.signed then -1 else k.max) ^^^ BitVec.ofInt k.bits n).toNat))
    | _ => none
  | .bool b =>
    match op with
    | .not => some (.bool !b)
    | _ => none
  | _ => none
def putCells : List AV → Nat → List AV → List AV
  | cs, _, [] => cs
  | cs, off, x :: xs => putCells (cs.set off x) (off + 1) xs
def afill (ρ : Opd → AV) : List AV → List (Nat × Nat × Opd) → Option (List AV)
  | cs, [] => some cs
  | cs, (off, n, x) :: rest => if (ρ x).dfd ∧ (ρ x).cells.length = n ∧ off + n ≤ cs.length then afill ρ (putCells cs off (ρ x).cells) rest else none
def partV (agg : Bool) (n : Nat) (cs : List AV) (off : Nat) : Option AV :=
  if agg then some (.agg ((cs.drop off).take n)) else cs[off]?
def amin : AV → AV → Option AV
  | .int k x, .int _ y => some (.int k (if y < x then y else x))
  | _, _ => none
def amax : AV → AV → Option AV
  | .int k x, .int _ y => some (.int k (if x < y then y else x))
  | _, _ => none
def foldAV (f : AV → AV → Option AV) : AV → List AV → Option AV
  | x, [] => some x
  | x, y :: ys => match f x y with | some z => foldAV f z ys | none => none
/-- A bound of a slice expression: what is not there is 'd'; at most 'top'. -/
def abound (top d : Nat) : Option AV → Option Nat
  | none => some d
  | some (.int _ i) => if 0 ≤ i ∧ i ≤ (top : Int) then some i.toNat else none
  | some _ => none
/-- The most that a slice surely can be sliced to. -/
def ACap.sure (len : Nat) : ACap → Nat
  | .ex c => c
  | .op _ => len
def ACap.less (z l : Nat) (m : Option Nat) : ACap → Option ACap
  | .ex c => some (.ex ((m.getD c) - l))
  | .op z' => match m with | some m => some (.ex (m - l)) | none => if z = z' then some (.op z) else none
/-- The bounds (low, high, max) of s[lo:hi:mx]; 'top': up to what it surely goes; 'm?': max, where it is known. -/
def abounds (top len : Nat) (lo hi mx : Option AV) : Option (Nat × Nat × Option Nat) :=
  match mx with
  | some v =>
    match abound top top (some v) with
    | some m => match hi with
      | none => none
      | some h => match abound m m (some h) with
        | some h => (abound h 0 lo).map fun l => (l, h, some m)
        | none => none
    | none => none
  | none => match abound top len hi with
    | some h => (abound h 0 lo).map fun l => (l, h, none)
    | none => none

/-- Have the elements z cells each? (The first one tells.) -/
def widthOK (z : Nat) : List AV → Bool
  | [] => true
  | e :: _ => e.cells.length == z

def avop (ρ : Opd → AV) : VOp → Option AV
  | .mov x => some (ρ x)
  | .pick c a b => match ρ c with | .bool c => some (if c then ρ a else ρ b) | _ => none
  | .bin op x y => abin op (ρ x) (ρ y)
  | .eqB neg x y => match ρ x, ρ y with | .bool a, .bool b => some (.bool (if neg then !(a == b) else (a == b))) | _, _ => none
  | .eqA neg sh x y => match ρ x, ρ y with
    | .agg xs, .agg ys => (eqCells sh xs ys).map fun r => .bool (if neg then !r else r)
    | _, _ => none
  | .eqN neg k x => (isNil k (ρ x)).map fun r => .bool (if neg then !r else r)
  | .un op x => aun op (ρ x)
  | .conv k x => match ρ x with | .int _ n => some (.int k (wr k n)) | _ => none
  | .build zero parts => (afill ρ zero parts).map .agg
  | .fieldV agg off n x => match ρ x with | .agg cs => partV agg n cs off | _ => none
  | .indexA agg len z x i => match ρ x, ρ i with
    | .agg cs, .int _ i => if 0 ≤ i ∧ i < (len : Int) then partV agg z cs (i.toNat * z) else none
    | _, _ => none
  | .indexS x i => match ρ x, ρ i with
    | .str s, .int _ i => if 0 ≤ i then (s[i.toNat]?).map fun b => .int .u8 b.toNat else none
    | _, _ => none
  | .fieldAddr off x => match ρ x with | .ptr (some (i, o)) => some (.ptr (some (i, o + off))) | .vptr cs o => some (.vptr cs (o + off)) | _ => none
  | .indexAddrS z x i => match ρ x, ρ i with
    | .slice (some (id, o)) len _, .int _ i => if 0 ≤ i ∧ i < (len : Int) then some (.ptr (some (id, o + i.toNat * z))) else none
    | .vsl _ es, .int _ i => if 0 ≤ i then
        match es[i.toNat]? with
        | some e => if e.cells.length = z then some (.vptr e.cells 0) else none
        | none => none
      else none
    | _, _ => none
  | .indexAddrA len z x i => match ρ x, ρ i with
    | .ptr (some (id, o)), .int _ i => if 0 ≤ i ∧ i < (len : Int) then some (.ptr (some (id, o + i.toNat * z))) else none
    | .vptr cs o, .int _ i => if 0 ≤ i ∧ i < (len : Int) then some (.vptr cs (o + i.toNat * z)) else none
    | _, _ => none
  | .slS z x lo hi mx => match ρ x with
    | .slice a len cap => match abounds (cap.sure len) len (lo.map ρ) (hi.map ρ) (mx.map ρ) with
      | some (l, h, m) => (cap.less z l m).map fun c => .slice (a.map fun p => (p.1, p.2 + l * z)) (h - l) c
      | none => none
    | .vsl nl es => if widthOK z es then (abounds es.length es.length (lo.map ρ) (hi.map ρ) (mx.map ρ)).map fun (l, h, _) => .vsl nl ((es.drop l).take (h - l)) else none
    | _ => none
  | .slA n z x lo hi mx => match ρ x with
    | .ptr (some (id, o)) => (abounds n n (lo.map ρ) (hi.map ρ) (mx.map ρ)).map fun (l, h, m) => .slice (some (id, o + l * z)) (h - l) (.ex (m.getD n - l))
    | _ => none
  | .slT x lo hi => match ρ x with
    | .str s => (abounds s.size s.size (lo.map ρ) (hi.map ρ) none).map fun (l, h, _) => .str (s.extract l h)
    | _ => none
  | .mkI t x => some (.iface t (ρ x))
  | .mkF f first captured => some (.func (.func f) (first.map ρ) (captured.map ρ))
  | .extract i x => match ρ x with | .tuple vs => vs[i]? | _ => none
  | .len x => match ρ x with | .slice _ n _ => some (.int .i64 n) | .vsl _ es => some (.int .i64 es.length) | _ => none
  | .lenT x => match ρ x with | .str s => some (.int .i64 s.size) | _ => none
  | .lenC n => some (.int .i64 n)
  | .min x xs => foldAV amin (ρ x) (xs.map ρ)
  | .max x xs => foldAV amax (ρ x) (xs.map ρ)
  | .nilCheck x => match ρ x with
    | .ptr (some p) => some (.ptr (some p))
    | .vptr cs o => some (.vptr cs o)
    | .func (.func f) xs ys => some (.func (.func f) xs ys)
    | .func (.yield l) xs ys => some (.func (.yield l) xs ys)
    | .iface t v => some (.iface t v)
    | _ => none
  | .mkM name x => some (.func (.method name) [ρ x] [])
  | .cmpS x y => match ρ x, ρ y with
    | .str a, .str b => some (.int .i64 (Extern.BytealgCompare.cmp a b))
    | _, _ => none
  | .cntS x y => match ρ x, ρ y with
    | .str a, .int .u8 c => some (.int .i64 (a.data.toList.count c.toNat.toUInt8 : Nat))
    | _, _ => none

/-- Keys of maps. -/
def keyEq (agg : Bool) (sh : List Leaf) (a b : AV) : Option Bool :=
  if agg then match a, b with | .agg xs, .agg ys => eqCells sh xs ys | _, _ => none
  else eqCells sh [a] [b]
def findE (agg : Bool) (sh : List Leaf) (k : AV) : List (AV × AV × Nat) → Nat → Option (Option (Nat × AV × Nat))
  | [], _ => some none
  | (x, v, b) :: es, i => match keyEq agg sh k x with
    | some true => some (some (i, v, b))
    | some false => findE agg sh k es (i + 1)
    | none => none
def setE (k v : AV) : List (AV × AV × Nat) → Nat → List (AV × AV × Nat)
  | [], _ => []
  | (_, _, b) :: es, 0 => (k, v, b) :: es
  | e :: es, i + 1 => e :: setE k v es i
def stampE (v : AV) (n : Int) : List (AV × AV × Nat) → Option (List (AV × AV × Nat))
  | [] => none
  | (x, u, b) :: es => if (b : Int) = n then some ((x, v, b) :: es) else (stampE v n es).map fun es => (x, u, b) :: es

/-- The bytes that one slice may take. -/
def topBytes : Nat := 140737488355328

def zcells (zero : List AV) (n : Nat) : List AV :=
  match zero with
  | [v] => List.replicate n v
  | zs => (List.replicate n zs).flatten

/-- The first n cells of a slice. -/
def cellsAt (σ : AH) (n : Nat) : Option (Nat × Nat) → Option (List AV)
  | none => if n = 0 then some [] else none
  | some (i, o) => match σ.row i with
    | some cs => if o + n ≤ cs.length then some ((cs.drop o).take n) else none
    | none => none

/-- n elements more, whose cells are given, behind a slice. -/
def agrow (z bytes : Nat) (a : Option (Nat × Nat)) (len : Nat) (cap : ACap) (n : Nat) (new : List AV) (σ : AH) : Option (AV × AH) :=
      let copied : Option (AV × AH) := if (len + n) * bytes ≤ topBytes ∧ new.all AV.one then
        match cellsAt σ (len * z) a with
        | some old => some (.slice (some (σ.next, 0)) (len + n) (.op z), σ.push (.cells (old ++ new)))
        | none => none else none
      match cap with
      | .ex c => if len + n ≤ c then
          match a with
          | some (i, o) => match σ.own i with
            | some cs => if o + (len + n) * z ≤ cs.length ∧ new.all AV.one then some (.slice a (len + n) cap, σ.set i (.cells (putCells cs (o + len * z) new))) else none
            | none => none
          | none => none
        else copied
      | .op z' => if z = z' then
          match a with
          | some (i, o) => match σ.own i with
            | some cs => if o + (len + n) * z ≤ cs.length then
                if new.all AV.one then some (.slice a (len + n) cap, σ.set i (.cells (putCells cs (o + len * z) new))) else none
              else match copied with
                | some (v, σ') => some (v, σ'.set i .dead)
                | none => none
            | none => none
          | none => none
        else none
/-- What is appended to: where, its length, its capacity. -/
def dstOf : AV → Option (Option (Nat × Nat) × Nat × ACap)
  | .slice a len cap => some (a, len, cap)
  | .vsl true _ => some (none, 0, .ex 0)
  | _ => none
def lenOf : AV → Option Nat
  | .slice _ n _ => some n
  | .vsl _ es => some es.length
  | .tsl n _ => some n
  | _ => none
/-- The first n elements of a slice, as cells. -/
def srcOf (σ : AH) (z n : Nat) : AV → Option (List AV)
  | .slice b _ _ => cellsAt σ (n * z) b
  | .vsl _ es => if (es.take n).all (fun e => e.cells.length == z) then some ((es.take n).flatMap AV.cells) else none
  | .tsl _ cs => if n * z ≤ cs.length then some (cs.take (n * z)) else none
  | _ => none
def aappend (z bytes : Nat) (s x : AV) (σ : AH) : Option (AV × AH) :=
  match dstOf s, lenOf x with
  | some (a, len, cap), some n =>
    if n = 0 then some (s, σ) else
    match srcOf σ z n x with
    | none => none
    | some new => agrow z bytes a len cap n new σ
  | _, _ => none
def aappendZ (bytes : Nat) (zero : List AV) (s x : AV) (σ : AH) : Option (AV × AH) :=
  match dstOf s, x with
  | some (a, len, cap), .int _ n =>
    if n < 0 ∨ n * bytes > topBytes ∨ n > topBytes then none else
    if n = 0 then some (s, σ) else agrow zero.length bytes a len cap n.toNat (zcells zero n.toNat) σ
  | _, _ => none

/-- The bytes of cells. -/
def bytesA : List AV → Option (List Int)
  | [] => some []
  | .int .u8 k :: r => (bytesA r).map (k :: ·)
  | _ :: _ => none
def strA (l : List Int) : ByteArray := l.foldl (fun r n => r.push (UInt8.ofNat n.toNat)) ByteArray.empty
def ahop (ρ : Opd → AV) (σ : AH) : HOp → Option (AV × AH)
  | .alloc cs => some (.ptr (some (σ.next, 0)), σ.push (.cells cs))
  | .box x => if (ρ x).dfd then some (.ptr (some (σ.next, 0)), σ.push (.cells (ρ x).cells)) else none
  | .bslice _ len zero parts => match afill ρ zero parts with
    | some cs => some (.slice (some (σ.next, 0)) len (.ex len), σ.push (.cells cs))
    | none => none
  | .tslice _ len zero parts => match afill ρ zero parts with
    | some cs => some (.tsl len cs, σ)
    | none => none
  | .load agg n a => match ρ a with
    | .ptr (some (i, o)) => match σ.row i with
      | some cs => if o + n ≤ cs.length then (partV agg n cs o).map fun v => (v, σ) else none
      | none => none
    | .vptr cs o => if o + n ≤ cs.length then (partV agg n cs o).map fun v => (v, σ) else none
    | _ => none
  | .store n a x => match ρ a with
    | .ptr (some (i, o)) => match σ.own i with
      | some cs => if (ρ x).dfd ∧ (ρ x).cells.length = n ∧ o + n ≤ cs.length ∧ (ρ x).cells.all AV.one then some (.undef, σ.set i (.cells (putCells cs o (ρ x).cells))) else none
      | none => none
    | _ => none
  | .mkMap => some (.map (some σ.next), σ.push (.map [] 0))
  | .mkSlice bytes zero len cap => match ρ len, ρ cap with
    | .int _ l, .int _ c => if 0 ≤ l ∧ l ≤ c ∧ c * bytes ≤ topBytes ∧ c ≤ topBytes then
        some (.slice (some (σ.next, 0)) l.toNat (.ex c.toNat), σ.push (.cells (zcells zero c.toNat))) else none
    | _, _ => none
  | .append z bytes s x => aappend z bytes (ρ s) (ρ x) σ
  | .appendZ bytes zero s n => aappendZ bytes zero (ρ s) (ρ n) σ
  | .copy z d s => match dstOf (ρ d), lenOf (ρ s) with
    | some (a, dl, _), some sl => match srcOf σ z (min sl dl) (ρ s) with
      | some new => match a with
        | none => some (.int .i64 ((min sl dl : Nat) : Int), σ)
        | some (i, o) => match σ.own i with
          | some cs => if o + min sl dl * z ≤ cs.length ∧ new.all AV.one then some (.int .i64 ((min sl dl : Nat) : Int), σ.set i (.cells (putCells cs o new))) else none
          | none => none
      | none => none
    | _, _ => none
  | .lookup agg sh zero ok m k => match ρ m with
    | .map none => match keyEq agg sh (ρ k) (ρ k) with
      | some _ => some (if ok then .tuple [zero, .bool false] else zero, σ)
      | none => none
    | .map (some i) => match σ.get i with
      | some (.map es _) => match keyEq agg sh (ρ k) (ρ k), findE agg sh (ρ k) es 0 with
        | some _, some (some (_, v, _)) => some (if ok then .tuple [v, .bool true] else v, σ)
        | some _, some none => some (if ok then .tuple [zero, .bool false] else zero, σ)
        | _, _ => none
      | _ => none
    | _ => none
  | .mapUpd agg sh m k v => match ρ m with
    | .map (some i) => if σ.lim ≤ i then match σ.get i with
      | some (.map es c) => match keyEq agg sh (ρ k) (ρ k), findE agg sh (ρ k) es 0 with
        | some _, some (some (j, _, _)) => some (.undef, σ.set i (.map (setE (ρ k) (ρ v) es j) c))
        | some _, some none => some (.undef, σ.set i (.map (es ++ [(ρ k, ρ v, c)]) (c + 1)))
        | _, _ => none
      | _ => none else none
    | _ => none
  | .mapEntry agg sh zero m k => match ρ m with
    | .map (some i) => if σ.lim ≤ i then match σ.get i with
      | some (.map es c) => match keyEq agg sh (ρ k) (ρ k), findE agg sh (ρ k) es 0 with
        | some _, some (some (j, v, b)) => some (.tuple [v, .int .i64 b], σ.set i (.map (setE (ρ k) v es j) c))
        | some _, some none => some (.tuple [zero, .int .i64 c], σ.set i (.map (es ++ [(ρ k, zero, c)]) (c + 1)))
        | _, _ => none
      | _ => none else none
    | _ => none
  | .entryStore m s v => match ρ m, ρ s with
    | .map (some i), .int _ n => if σ.lim ≤ i then match σ.get i with
      | some (.map es c) => (stampE (ρ v) n es).map fun es => (.undef, σ.set i (.map es c))
      | _ => none else none
    | _, _ => none
  | .lenM m => match ρ m with
    | .map none => some (.int .i64 0, σ)
    | .map (some i) => match σ.get i with
      | some (.map es _) => some (.int .i64 es.length, σ)
      | _ => none
    | _ => none
  | .cap s => match ρ s with
    | .slice _ _ (.ex c) => some (.int .i64 c, σ)
    | .vsl true _ => some (.int .i64 0, σ)
    | _ => none
  | .s2b x => match ρ x with
    | .str s => some (.slice (some (σ.next, 0)) s.size (.op 1), σ.push (.cells (s.data.toList.map fun b => .int .u8 b.toNat)))
    | _ => none
  | .nextS _ => none
  | .b2s x => match ρ x with
    | .slice (some (i, o)) n _ => match σ.row i with
      | some cs => if 0 < n ∧ o + n ≤ cs.length then (bytesA ((cs.drop o).take n)).map fun l => (.str (strA l), σ) else none
      | none => none
    | _ => none

/-- Whom a call calls. -/
inductive Tgt where
  | fn (f : Nat)
  | yield (l : Nat)
def target : AV → Option (Tgt × List AV × List AV)
  | .func (.func f) xs ys => some (.fn f, xs, ys)
  | .func (.yield l) xs ys => some (.yield l, xs, ys)
  | _ => none
def AProg.meth (p : AProg) (t : Nat) (name : String) : Option Nat := (p.meths.find? fun m => m.1 == t && m.2.1 == name).map (·.2.2)

abbrev Caller := Tgt → List AV → AH → Option (AV × AH)

/-- A bound method, of which it is to be seen that its receiver is not nil. -/
def nilM (p : AProg) (v : AV) : Option AV :=
  match v with
  | .func (.method name) [.iface t v] [] => match p.meth t name with
    | some _ => some (.func (.method name) [.iface t v] [])
    | none => none
  | _ => none
/-- An operation that only computes, with the program's methods in sight. -/
def avopM (p : AProg) (ρ : Opd → AV) (o : VOp) : Option AV :=
  match avop ρ o with
  | some v => some v
  | none => match o with
    | .nilCheck x => nilM p (ρ x)
    | _ => none
theorem nilM_some {p : AProg} {v r : AV} (h : nilM p v = some r) : ∃ name t u f, v = .func (.method name) [.iface t u] [] ∧ p.meth t name = some f ∧ r = v := by
  unfold nilM at h
  split at h
  · rename_i name t u
    split at h
    · rename_i f hf
      cases h
      exact ⟨name, t, u, f, rfl, hf, rfl⟩
    · cases h
  · cases h
theorem avopM_some {p : AProg} {ρ : Opd → AV} {o : VOp} {v : AV} (h : avopM p ρ o = some v) : avop ρ o = some v ∨ ∃ x, o = .nilCheck x ∧ nilM p (ρ x) = some v := by
  unfold avopM at h
  split at h
  · rename_i hv; cases h; exact .inl hv
  · split at h
    · exact .inr ⟨_, rfl, h⟩
    · cases h

/-! The program's methods matter to one operation alone. -/
theorem avopM_id {p : AProg} {ρ : Opd → AV} {o : VOp} (h : ∀ x, o ≠ .nilCheck x) : avopM p ρ o = avop ρ o := by
  unfold avopM
  cases avop ρ o with
  | some v => rfl
  | none => cases o <;> first | rfl | exact absurd rfl (h _)
def aop (p : AProg) (C : Caller) (ρ : Opd → AV) (σ : AH) : AOp → Option (AV × AH)
  | .v o => (avopM p ρ o).map fun v => (v, σ)
  | .h o => ahop ρ σ o
  | .call f args => match target (ρ f) with
    | some (.fn g, xs, ys) => C (.fn g) (xs ++ args.map ρ ++ ys) σ
    | some (.yield l, xs, _) => C (.yield l) (xs ++ args.map ρ) σ
    | none => none
  | .invoke name recv args => match ρ recv with
    | .iface t v => match p.meth t name with
      | some f => C (.fn f) (v :: args.map ρ) σ
      | none => none
    | _ => none
  | .fail => none

def wantedA (env : Env) : Option (Nat × Bool) → Option Bool
  | none => some true
  | some (t, want) => match env.get t with
    | .bool b => some (b == want)
    | .undef => none
    | _ => some false
def putDst (env : Env) (d : Option Nat) (v : AV) : Env :=
  match d with
  | some d => env.set d v
  | none => env

/-- Operations one behind the other. -/
def aops (p : AProg) (C : Caller) : List AOper → Env → AH → Option (Env × AH)
  | [], env, σ => some (env, σ)
  | o :: rest, env, σ => match wantedA env o.guard with
    | some true => match aop p C (Opd.ev env) σ o.op with
      | some (v, σ') => aops p C rest (putDst env o.dst v) σ'
      | none => none
    | some false => aops p C rest (putDst env o.dst (.tuple [])) σ
    | none => none

/-- The state of a region whose order is open: from which object on it has made all itself, and which objects were loaded from and stored into since. -/
structure Seg where
  seg : Nat
  lds : List Nat
  sts : List Nat
def addrOf (ρ : Opd → AV) : AOp → Option Nat
  | .h (.load _ _ a) | .h (.store _ a _) => match ρ a with
    | .ptr (some (i, _)) => some i
    | _ => none
  | _ => none
/-- A load from cells that no one will write. -/
def isVLoad (ρ : Opd → AV) : AOp → Bool
  | .h (.load _ _ a) => match ρ a with
    | .vptr _ _ => true
    | _ => false
  | _ => false
/-- The object that is appended to. -/
def appOf (ρ : Opd → AV) : AOp → Option Nat
  | .h (.append _ _ a _) => match ρ a with
    | .slice (some (i, _)) _ _ => some i
    | _ => none
  | _ => none
/-- An append to what lay there before, which no load of the segment looks at. -/
def oldApp (ρ : Opd → AV) (o : AOp) (s : Seg) : Option Nat :=
  match appOf ρ o with
  | some i => if i < s.seg ∧ !s.lds.contains i then some i else none
  | none => none
/-- The same number, or truth value. -/
def sameC : AV → AV → Bool
  | .int k a, .int k' b => decide (k = k') && decide (a = b)
  | .bool a, .bool b => a == b
  | _, _ => false
/-- A store of what stands there already. -/
def keepsV (n : Nat) (a x : AV) (σ : AH) : Bool :=
  if n = 1 then
    match a with
    | .ptr (some (i, q)) => match σ.get i with
      | some (.cells cs) => match cs[q]? with
        | some y => sameC y x
        | none => false
      | _ => false
    | _ => false
  else false
def keeps (ρ : Opd → AV) (σ : AH) : AOp → Bool
  | .h (.store n a x) => keepsV n (ρ a) (ρ x) σ
  | _ => false
/-- A store into what lay there before, which no load of the segment looks at (or which leaves it as it is). -/
def oldSto (ρ : Opd → AV) (σ : AH) (o : AOp) (s : Seg) : Option Nat :=
  match addrOf ρ o with
  | some i => if i < s.seg ∧ (!s.lds.contains i || keeps ρ σ o) then some i else none
  | none => none
def isV : AOp → Bool
  | .v _ | .h (.tslice _ _ _ _) => true
  | _ => false

/-- One operation of a region whose order is open. -/
def dstep (p : AProg) (C : Caller) (o : AOper) (env : Env) (σ : AH) (s : Seg) : Option (AV × AH × Seg) :=
  match wantedA env o.guard with
  | some false => some (.tuple [], σ, s)
  | none => none
  | some true =>
    if isV o.op then
      match aop p C (Opd.ev env) σ o.op with
      | some (v, _) => some (v, σ, s)
      | none => none
    else match o.cls with
    | .full => match aop p C (Opd.ev env) σ o.op with
      | some (v, σ') => some (v, σ', ⟨σ'.next, [], []⟩)
      | none => none
    | .semi => match oldApp (Opd.ev env) o.op s with
      | some i => match aop p C (Opd.ev env) σ o.op with
        | some (v, σ') => some (v, σ', { s with sts := i :: s.sts })
        | none => none
      | none => if σ.lim ≤ s.seg then
          match aop p C (Opd.ev env) { σ with lim := s.seg } o.op with
          | some (v, σ') => some (v, { σ' with lim := σ.lim }, s)
          | none => none
        else none
    | .froz => match aop p C (Opd.ev env) { σ with lim := σ.next } o.op with
      | some (v, σ') => some (v, { σ' with lim := σ.lim }, s)
      | none => none
    | .sload => match addrOf (Opd.ev env) o.op with
      | some i => if i < s.seg ∧ !s.sts.contains i then
          match aop p C (Opd.ev env) σ o.op with
          | some (v, σ') => some (v, σ', { s with lds := i :: s.lds })
          | none => none
        else none
      | none => if isVLoad (Opd.ev env) o.op then
          match aop p C (Opd.ev env) σ o.op with
          | some (v, _) => some (v, σ, s)
          | none => none
        else none
    | .st1 => match oldSto (Opd.ev env) σ o.op s with
      | some i => match aop p C (Opd.ev env) σ o.op with
        | some (v, σ') => some (v, σ', { s with sts := i :: s.sts })
        | none => none
      | none => if σ.lim ≤ s.seg then
          match aop p C (Opd.ev env) { σ with lim := s.seg } o.op with
          | some (v, σ') => some (v, { σ' with lim := σ.lim }, s)
          | none => none
        else none
def adraw (p : AProg) (C : Caller) : List AOper → Env → AH → Seg → Option (Env × AH)
  | [], env, σ, _ => some (env, σ)
  | o :: rest, env, σ, s => match dstep p C o env σ s with
    | some (v, σ', s') => adraw p C rest (putDst env o.dst v) σ' s'
    | none => none

structure Fr where
  env : Env
  marks : List Nat

abbrev Out := AEx × Fr × AH

/-- A loop, round by round. -/
def aloop (body : Fr → AH → Option Out) : Nat → Fr → AH → Option Out
  | 0, _, _ => none
  | n + 1, fr, σ => match body fr σ with
    | some (.normal, fr', σ') => aloop body n fr' σ'
    | r => r

def acode (p : AProg) (C : Caller) (n : Nat) (f : Nat) (rd : Option Nat) : ACode → Fr → AH → Option Out
  | .skip, fr, σ => some (.normal, fr, σ)
  | .region false ops keep, fr, σ => match aops p C ops fr.env σ with
    | some (env, σ') => some (.normal, { fr with env := env.keep keep }, σ')
    | none => none
  | .region true ops keep, fr, σ => match adraw p C ops fr.env σ ⟨σ.next, [], []⟩ with
    | some (env, σ') => some (.normal, { fr with env := env.keep keep }, σ')
    | none => none
  | .seq a b, fr, σ => match acode p C n f rd a fr σ with
    | some (.normal, fr', σ') => acode p C n f rd b fr' σ'
    | r => r
  | .cond c a b, fr, σ => match c.ev fr.env with
    | .bool true => acode p C n f rd a fr σ
    | .bool false => acode p C n f rd b fr σ
    | _ => none
  | .block id b, fr, σ => match acode p C n f rd b fr σ with
    | some (.exit j, fr', σ') => if j = id then some (.normal, fr', σ') else some (.exit j, fr', σ')
    | r => r
  | .loop b, fr, σ => aloop (acode p C n f rd b) n fr σ
  | .rangeFunc i g, fr, σ =>
    match target (g.ev fr.env) with
    | some (.fn g, xs, ys) =>
      -- outside every round a block for deferred calls is laid first
      let start : Option (List Nat × Nat × AH) := match rd with
        | none => some (σ.next :: fr.marks, σ.next, σ.push .dfr)
        | some l => match σ.get l with
          | some (.loop _ _ _ _ _ d) => some (fr.marks, d, σ)
          | _ => none
      match start with
      | some (marks, d, σ1) =>
        match C (.fn g) (xs ++ [.func (.yield σ1.next) [] []] ++ ys) (σ1.push (.loop f i fr.env .ready none d)) with
        | some (_, σ2) => match σ2.get σ1.next with
          | some (.loop f' i' env st pend d') =>
            match st with
            | .busy => none
            | _ => if σ2.lim ≤ σ1.next then some (pend.getD .normal, { fr with marks }, σ2.set σ1.next (.loop f' i' env .exhausted pend d')) else none
          | _ => none
        | none => none
      | none => none
    | _ => none
  | .exit id, fr, σ => some (.exit id, fr, σ)
  | .scope b, fr, σ => acode p C n f rd b fr σ
  | .ret, fr, σ => some (.ret, fr, σ)

def aresult (env : Env) (σ : AH) : ARes → Option AV
  | .tmp t => some (env.get t)
  | .cell agg a n => match env.get a with
    | .ptr (some (i, o)) => match σ.row i with
      | some cs => if o + n ≤ cs.length then partV agg n cs o else none
      | none => none
    | _ => none
def aresults (env : Env) (σ : AH) : List ARes → Option (List AV)
  | [] => some []
  | r :: rs => match aresult env σ r, aresults env σ rs with
    | some v, some vs => some (v :: vs)
    | _, _ => none
def oneOf : List AV → AV
  | [v] => v
  | vs => .tuple vs
def takeMarks (σ : AH) : List Nat → Option AH
  | [] => some σ
  | d :: ds => match σ.get d with
    | some .dfr => if σ.lim ≤ d then takeMarks (σ.set d .dead) ds else none
    | _ => none
def argEnv : Nat → List AV → Env
  | _, [] => []
  | k, v :: vs => (k, v) :: argEnv (k + 1) vs

/-- The run of a function's body. -/
def abody (p : AProg) (C : Caller) (n f : Nat) (af : AFunc) (args : List AV) (σ : AH) : Option (AV × AH) :=
  if args.length = af.np then
    match acode p C n f none af.body ⟨argEnv 0 args, []⟩ σ with
    | some (.exit _, _, _) => none
    | some (_, fr, σ') => match takeMarks σ' fr.marks with
      | some σ'' => match aresults fr.env σ'' af.res with
        | some vs => some (oneOf vs, σ'')
        | none => none
      | none => none
    | none => none
  else none

/-- What fills one cell of a row that is frozen. -/
def AV.na : AV → AV
  | .agg _ => .undef
  | x => x
/-- The cells of an object. -/
def AH.cel (σ : AH) (i : Nat) : Option (List AV) :=
  match σ.get i with
  | some (.cells cs) | some (.ro cs) => some cs
  | _ => none
/-- An element, of its cells. -/
def AV.elem : List AV → AV
  | [x] => x
  | l => .agg l
/-- n elements of z cells each. -/
def chunks (z : Nat) : Nat → List AV → List AV
  | 0, _ => []
  | n + 1, cs => AV.elem (cs.take z) :: chunks z n (cs.drop z)
/-- How many cells an element has. -/
def ACap.cellsOf (n m : Nat) : ACap → Option Nat
  | .op z => if n * z ≤ m then some z else none
  | .ex c => if n = 0 then some 1 else if m / c * c = m ∧ n ≤ c then some (m / c) else none
/-- A value as it stands, with all that it leads to (c: the objects that may be looked into): no one will write that. -/
def fzV : Nat → (Nat → Option (List AV)) → AV → AV
  | 0, _, _ => .undef
  | k + 1, c, x =>
    match x with
    | .ptr (some (i, o)) => match c i with
      | some cs => .vptr (cs.map fun x => (fzV k c x).na) o
      | none => .undef
    | .slice none _ _ => .vsl true []
    | .slice (some (i, o)) n cap => match c i with
      | some cs => if o ≤ cs.length then
          match cap.cellsOf n (cs.length - o) with
          | some z => .vsl false (chunks z n ((cs.drop o).map fun x => (fzV k c x).na))
          | none => .undef
        else .undef
      | none => .undef
    | .map (some _) => .undef
    | .func (.func f) xs ys => .func (.func f) (xs.map (fzV k c)) (ys.map (fzV k c))
    | .func _ _ _ => .undef
    | .iface t v => .iface t (fzV k c v)
    | .agg cs => .agg (cs.map (fzV k c))
    | .tuple vs => .tuple (vs.map (fzV k c))
    | .tsl _ _ => .undef
    | x => x
/-- The objects that a value leads to. -/
def idsV : Nat → (Nat → Option (List AV)) → AV → List Nat
  | 0, _, _ => []
  | k + 1, c, x =>
    match x with
    | .ptr (some (i, _)) => match c i with
      | some cs => i :: cs.flatMap (idsV k c)
      | none => []
    | .slice (some (i, _)) _ _ => match c i with
      | some cs => i :: cs.flatMap (idsV k c)
      | none => []
    | .func (.func _) xs ys => xs.flatMap (idsV k c) ++ ys.flatMap (idsV k c)
    | .iface _ v => idsV k c v
    | .agg cs => cs.flatMap (idsV k c)
    | .tuple vs => vs.flatMap (idsV k c)
    | _ => []
/-- Does a value lead to no object? -/
def closed : Nat → AV → Bool
  | 0, _ => false
  | k + 1, x =>
    match x with
    | .ptr (some _) => false
    | .slice (some _) _ _ => false
    | .map (some _) => false
    | .func (.func _) xs ys => xs.all (closed k) && ys.all (closed k)
    | .func _ _ _ => false
    | .iface _ v => closed k v
    | .agg cs => cs.all (closed k)
    | .tuple vs => vs.all (closed k)
    | .tsl _ _ => false
    | _ => true
/-- Is a value numbers, bools and texts alone? -/
def isScal : Nat → AV → Bool
  | 0, _ => false
  | k + 1, x =>
    match x with
    | .int _ _ | .bool _ | .str _ | .vsl _ [] | .nilFunc | .nilIface | .ptr none | .map none => true
    | .agg cs => cs.all (isScal k)
    | .tuple vs => vs.all (isScal k)
    | _ => false
/-- What is left of an object that no one will write any more. -/
def AH.left (σ : AH) (i : Nat) : AObj := match σ.cel i with | some cs => .ro cs | none => .dead
/-- Objects that no one will write any more. -/
def AH.kills : AH → List Nat → AH
  | σ, [] => σ
  | σ, i :: is => (σ.set i (σ.left i)).kills is
def AH.celOf (σ : AH) (S : List Nat) (i : Nat) : Option (List AV) := if S.contains i then σ.cel i else none
/-- A run apart: on an empty heap, with arguments that no one will write meanwhile. Objects that its result may lead to are given up. -/
def apart (run : List AV → AH → Option (AV × AH)) (args : List AV) (σ : AH) : Option (AV × AH) :=
  if args.all (closed 8) then
    match run args ⟨0, 0, .leaf⟩ with
    | some (v, σ') => some (fzV 8 σ'.cel v, σ)
    | none => none
  else
    match run (args.map (fzV 8 (σ.celOf (args.flatMap (idsV 8 σ.cel))))) ⟨0, 0, .leaf⟩ with
    | some (v, σ') => if isScal 8 (fzV 8 σ'.cel v) then some (fzV 8 σ'.cel v, σ)
        else if (args.flatMap (idsV 8 σ.cel)).all (fun i => decide (σ.lim ≤ i)) then some (fzV 8 σ'.cel v, σ.kills (args.flatMap (idsV 8 σ.cel)))
        else none
    | none => none

/-- A call, or a round of a loop over a function; C: what is called from there; loops of n rounds at most. -/
def arun1 (p : AProg) (C : Caller) (n : Nat) : Caller
  | .fn f, args, σ =>
    match p.funcs.get f with
    | some af => if af.pure then apart (abody p C n f af) args σ else abody p C n f af args σ
    | none => none
  | .yield l, args, σ =>
    match σ.get l with
    | some (.loop f i env _ _ _) =>
      match p.funcs.get f with
      | some af => match af.loops[i]? with
        | some lp => if args.length = lp.params.length ∧ σ.lim ≤ l then
            match acode p C n f (some l) lp.asg ⟨env.puts lp.params args, []⟩ σ with
            | some (.normal, fr, σ1) => match σ1.get l with
              | some (.loop f1 i1 env1 .ready pend d) =>
                match acode p C n f (some l) lp.body fr (σ1.set l (.loop f1 i1 env1 .busy pend d)) with
                | some (ex, _, σ2) => match σ2.get l with
                  | some (.loop f2 i2 env2 _ _ d2) =>
                    match ex with
                    | .normal => some (.bool true, σ2.set l (.loop f2 i2 env2 .ready none d2))
                    | ex => some (.bool false, σ2.set l (.loop f2 i2 env2 .done (some ex) d2))
                  | _ => none
                | none => none
              | _ => none
            | _ => none
          else none
        | none => none
      | none => none
    | _ => none

/-- n calls deep at most. O: what is known of some calls beforehand. -/
def arun (p : AProg) (O : Caller) : Nat → Caller
  | 0, t, args, σ => O t args σ
  | n + 1, t, args, σ => match O t args σ with
    | some r => some r
    | none => arun1 p (arun p O n) n t args σ
/-- Nothing is known. -/
def noO : Caller := fun _ _ _ => none

/-! Each way through the tests above is named once, here (what Lean makes for it is then the same everywhere). -/
end Go.Oct
end
/- Short words for printed code. -/
section
namespace Go.Oct.L
abbrev t (n : Nat) : Opd := .tmp n
abbrev i (n : Int) : Opd := .const (.int .i64 n)
abbrev z (n : Int) : AV := .int .i64 n
abbrev g (f : Nat) : Opd := .const (.func (.func f) [] [])
abbrev m (d s : Nat) : AOper := ⟨some d, .v (.mov (.tmp s)), none, .full⟩
abbrev n (d : Nat) (x : Int) : AOper := ⟨some d, .v (.mov (.const (.int .i64 x))), none, .full⟩
abbrev a (d o s : Nat) : AOper := ⟨some d, .v (.fieldAddr o (.tmp s)), none, .full⟩
abbrev l (d s : Nat) : AOper := ⟨some d, .h (.load false 1 (.tmp s)), none, .full⟩
abbrev lf (d s : Nat) : AOper := ⟨some d, .h (.load false 1 (.tmp s)), none, .froz⟩
abbrev b (d : Nat) (o : BinOp) (x y : Nat) : AOper := ⟨some d, .v (.bin o (.tmp x) (.tmp y)), none, .full⟩
abbrev v (d : Nat) (o : VOp) : AOper := ⟨some d, .v o, none, .full⟩
abbrev h (d : Nat) (c : Cls) (o : HOp) : AOper := ⟨some d, .h o, none, c⟩
abbrev e (c : Cls) (o : HOp) : AOper := ⟨none, .h o, none, c⟩
abbrev k (d f : Nat) (as : List Opd) : AOper := ⟨some d, .call (.const (.func (.func f) [] [])) as, none, .full⟩
abbrev r (os : List AOper) (ks : List Nat) : ACode := .region false os ks
abbrev s (x y : ACode) : ACode := .seq x y
abbrev c (x : Opd) (y z : ACode) : ACode := .cond x y z
end Go.Oct.L
end
/- The model's code, compiled to the abstract interpreter's. -/
section
set_option linter.unusedVariables false
set_option linter.unusedSimpArgs false
set_option linter.unusedSectionVars false
namespace Go.Oct

/-- A constant that fills one cell. -/
def cvt1 : Value → Option AV
  | .bool b => some (.bool b)
  | .int k n => some (.int k n)
  | .string s => some (.str s)
  | .pointer none => some (.ptr none)
  | .slice none 0 0 => some (.vsl true [])
  | .map none => some (.map none)
  | .nilFunc => some .nilFunc
  | .nilIface => some .nilIface
  | .func (.func f) xs ys => if xs.size = 0 ∧ ys.size = 0 then some (.func (.func f) [] []) else none
  | _ => none
def cvts : List Value → Option (List AV)
  | [] => some []
  | v :: vs => match cvt1 v, cvts vs with
    | some x, some xs => some (x :: xs)
    | _, _ => none
def cvt : Value → Option AV
  | .agg cs => (cvts cs.toList).map .agg
  | v => cvt1 v
/-- What package-level variables hold that no one writes. -/
class Gl where
  tab : Nat → Option (List AV)
/-- Unless it is said: nothing is known of them. -/
instance (priority := low) noGl : Gl := ⟨fun _ => none⟩
section
variable [Gl]
def compOpd : Operand → Option Opd
  | .tmp t => some (.tmp t)
  | .const v => (cvt v).map .const
  | .global g => (Gl.tab g).map fun cs => .const (.vptr cs 0)
  | .func f => some (.const (.func (.func f) [] []))
def compOpds : List Operand → Option (List Opd)
  | [] => some []
  | x :: xs => match compOpd x, compOpds xs with
    | some y, some ys => some (y :: ys)
    | _, _ => none
def compOpt : Option Operand → Option (Option Opd)
  | none => some none
  | some x => (compOpd x).map some

def aggOf (P : Program) (t : TypeId) : Option Bool := (P.underlying t).map fun | .struct _ | .array _ _ => true | _ => false
def sizeOf? (P : Program) (t : TypeId) : Option Nat := (P.info? t).map (·.size)
def zeroOf (P : Program) (t : TypeId) : Option AV := ((P.info? t).bind (·.zero)).bind cvt

/-- The leaves of the types of a struct's fields, one behind the other from a cell on. -/
def shapeFs (sh : TypeId → Option (List Leaf)) : List Field → Nat → Option (List Leaf)
  | [], _ => some []
  | f :: fs, off => if f.name ≠ "_" ∧ f.offset = off then
      match sh f.type with
      | some s => (shapeFs sh fs (off + s.length)).map fun r => s ++ r
      | none => none
    else none
def shape (P : Program) : Nat → TypeId → Option (List Leaf)
  | 0, _ => none
  | d + 1, t => match P.underlying t with
    | some .bool => if sizeOf? P t = some 1 then some [.bool] else none
    | some (.int _) => if sizeOf? P t = some 1 then some [.int] else none
    | some .string => if sizeOf? P t = some 1 then some [.str] else none
    | some (.struct fs) => if P.stoodInHeld t then none else
      match shapeFs (shape P d) fs.toList 0 with
      | some s => if sizeOf? P t = some s.length then some s else none
      | none => none
    | some (.array n e) => match shape P d e with
      | some s => if sizeOf? P e = some s.length ∧ sizeOf? P t = some (n * s.length) then some (List.replicate n s).flatten else none
      | none => none
    | _ => none
def keyShape (P : Program) (t : TypeId) : Option (Bool × List Leaf) :=
  match aggOf P t, shape P 20 t with
  | some a, some s => some (a, s)
  | _, _ => none

def compParts (place : Nat → Option (Nat × Nat)) : List (Nat × Operand) → Option (List (Nat × Nat × Opd))
  | [] => some []
  | (i, x) :: rest => match place i, compOpd x, compParts place rest with
    | some (off, n), some y, some ys => some ((off, n, y) :: ys)
    | _, _, _ => none
/-- Where the fields of a struct lie. -/
def fieldPlaces (P : Program) : List Field → Option (List (Nat × Nat))
  | [] => some []
  | f :: fs => match sizeOf? P f.type, fieldPlaces P fs with
    | some n, some r => some ((f.offset, n) :: r)
    | _, _ => none

def isNilOp : NilK → Operand → Bool
  | .ptr, .const (.pointer none) => true
  | .slice, .const (.slice none 0 0) => true
  | .map, .const (.map none) => true
  | .func, .const .nilFunc => true
  | .iface, .const .nilIface => true
  | _, _ => false
def nilKind : TypeDesc → Option NilK
  | .slice _ => some .slice
  | .map _ _ => some .map
  | .func _ _ _ => some .func
  | .pointer _ => some .ptr
  | .interface _ => some .iface
  | _ => none

/-- '==' and '!=' at a type; y: the second operand. -/
def compEq (P : Program) (t : TypeId) (a b : Opd) (y : Operand) (op : BinOp) (neg : Bool) : Option VOp :=
  match P.underlying t with
  | some (.int _) => some (.bin op a b)
  | some .string => some (.bin op a b)
  | some .bool => some (.eqB neg a b)
  | some d =>
    if aggOf P t = some true then
      if P.eqGuardType P.depth t then none else (shape P 20 t).map fun s => .eqA neg s a b
    else match nilKind d with
      | some k => if isNilOp k y then some (.eqN neg k a) else none
      | none => none
  | none => none
def compBin (P : Program) (op : BinOp) (t : TypeId) (x y : Operand) : Option VOp :=
  match compOpd x, compOpd y with
  | some a, some b =>
    match op with
    | .eql => compEq P t a b y .eql false
    | .neq => compEq P t a b y .neq true
    | op => some (.bin op a b)
  | _, _ => none

def compBuiltin (P : Program) (b : Builtin) (ts : List TypeId) (args : List Operand) : Option AOp :=
  match b, ts, args with
  | .len, [t], [x] => match P.underlying t with
    | some (.slice _) => (compOpd x).map fun x => .v (.len x)
    | some .string => (compOpd x).map fun x => .v (.lenT x)
    | some (.array n _) => some (.v (.lenC n))
    | some (.map _ _) => (compOpd x).map fun x => .h (.lenM x)
    | some (.pointer arr) => match P.underlying arr with
      | some (.array n _) => some (.v (.lenC n))
      | _ => none
    | _ => none
  | .cap, [t], [x] => match P.underlying t with
    | some (.slice _) => (compOpd x).map fun x => .h (.cap x)
    | _ => none
  | .min, _, x :: xs => match compOpd x, compOpds xs with
    | some x, some xs => some (.v (.min x xs))
    | _, _ => none
  | .max, _, x :: xs => match compOpd x, compOpds xs with
    | some x, some xs => some (.v (.max x xs))
    | _, _ => none
  | .append, [t, u], [s, x] => match P.underlying t, P.underlying u, compOpd s, compOpd x with
    | some (.slice e), some du, some s, some x => match P.info? e with
      | some i => match i.zero.bind cvt with
        | some zero => if zero.cells.length = i.size ∧ 0 < i.size ∧ 0 < i.bytes then
            match du with
            | .int _ => some (.h (.appendZ i.bytes zero.cells s x))
            | .slice _ => some (.h (.append i.size i.bytes s x))
            | _ => none
          else none
        | none => none
      | none => none
    | _, _, _, _ => none
  | .copy, [t, u], [d, s] => match P.underlying t, P.underlying u, compOpd d, compOpd s with
    | some (.slice e), some (.slice _), some d, some s => (sizeOf? P e).map fun z => .h (.copy z d s)
    | _, _, _, _ => none
  | _, _, _ => none

/-- The function without a body that compares strings. -/
def isCmp (P : Program) (f : Nat) : Bool :=
  match P.funcs[f]? with
  | some fn => fn.body.isNone && (fn.name == "internal/bytealg.abigen_runtime_cmpstring") && (Extern.findNext fn).isNone
  | none => false
def cmpOf (P : Program) : Operand → Bool
  | .func f => isCmp P f
  | _ => false
/-- The function without a body that counts a byte in a string. -/
def isCnt (P : Program) (f : Nat) : Bool :=
  match P.funcs[f]? with
  | some fn => fn.body.isNone && (fn.name == "internal/bytealg.CountString") && (Extern.findNext fn).isNone
  | none => false
def cntOf (P : Program) : Operand → Bool
  | .func f => isCnt P f
  | _ => false
def compOp (P : Program) : Op → Option AOp
  | .move x | .assign x => (compOpd x).map fun x => .v (.mov x)
  | .pick c a b => match compOpd c, compOpd a, compOpd b with
    | some c, some a, some b => some (.v (.pick c a b))
    | _, _, _ => none
  | .alloc t => (zeroOf P t).map fun z => .h (.alloc z.cells)
  | .box _ x => (compOpd x).map fun x => .h (.box x)
  | .build t parts => match zeroOf P t, P.underlying t with
    | some z, some (.struct fs) => match fieldPlaces P fs.toList with
      | some ps => (compParts (ps[·]?) parts.toList).map fun ps => .v (.build z.cells ps)
      | none => none
    | some z, some (.array _ e) => match sizeOf? P e with
      | some n => (compParts (fun i => some (i * n, n)) parts.toList).map fun ps => .v (.build z.cells ps)
      | none => none
    | _, _ => none
  | .buildSlice t len parts => match P.underlying t with
    | some (.slice e) => match zeroOf P e, sizeOf? P e with
      | some z, some n => if z.cells.length = n ∧ 0 < n ∧ len * n ≤ 2 ^ 24 then
          (compParts (fun i => some (i * n, n)) parts.toList).map fun ps => .h (.bslice n len (zcells z.cells len) ps) else none
      | _, _ => none
    | _ => none
  | .load t a => match aggOf P t, sizeOf? P t, compOpd a with
    | some g, some n, some a => if g || n == 1 then some (.h (.load g n a)) else none
    | _, _, _ => none
  | .store t a x => match sizeOf? P t, compOpd a, compOpd x with
    | some n, some a, some x => some (.h (.store n a x))
    | _, _, _ => none
  | .nilCheck x => (compOpd x).map fun x => .v (.nilCheck x)
  | .binOp op t x y _ => (compBin P op t x y).map .v
  | .unOp op _ x => (compOpd x).map fun x => .v (.un op x)
  | .convert src dst x => match P.underlying src, P.underlying dst, compOpd x with
    | some (.int _), some (.int k), some x => some (.v (.conv k x))
    | some .string, some (.slice e), some x => match P.underlying e with
      | some (.int .u8) => some (.h (.s2b x))
      | _ => none
    | some (.slice e), some .string, some x => match P.underlying e with
      | some (.int .u8) => some (.h (.b2s x))
      | _ => none
    | _, _, _ => none
  | .makeInterface t x => match P.underlying t, compOpd x with
    | some (.interface _), _ => none
    | some _, some x => some (.v (.mkI t x))
    | _, _ => none
  | .makeFunc (.func f) first captured => match compOpds first.toList, compOpds captured.toList with
    | some a, some b => some (.v (.mkF f a b))
    | _, _ => none
  | .makeFunc (.method name) first captured => match first.toList, captured.toList with
    | [x], [] => (compOpd x).map fun x => .v (.mkM name x)
    | _, _ => none
  | .makeMap _ none => some (.h .mkMap)
  | .makeSlice t l c => match P.underlying t, compOpd l, compOpd c with
    | some (.slice e), some l, some c => match P.info? e with
      | some i => match i.zero.bind cvt with
        | some zero => if zero.cells.length = i.size ∧ 0 < i.size then some (.h (.mkSlice i.bytes zero.cells l c)) else none
        | none => none
      | none => none
    | _, _, _ => none
  | .slice t x lo hi mx => match compOpd x, compOpt lo, compOpt hi, compOpt mx with
    | some x, some lo, some hi, some mx => match P.underlying t with
      | some (.slice e) => (sizeOf? P e).map fun z => .v (.slS z x lo hi mx)
      | some (.array n e) => (sizeOf? P e).map fun z => .v (.slA n z x lo hi mx)
      | some (.pointer arr) => match P.underlying arr with
        | some (.array n e) => (sizeOf? P e).map fun z => .v (.slA n z x lo hi mx)
        | _ => none
      | some .string => match mx with
        | none => some (.v (.slT x lo hi))
        | some _ => none
      | _ => none
    | _, _, _, _ => none
  | .fieldAddr t x f => match P.underlying t, compOpd x with
    | some (.struct fs), some x => match fs[f]? with
      | some fd => match sizeOf? P fd.type with
        | some n => if n = 0 then none else some (.v (.fieldAddr fd.offset x))
        | none => none
      | none => none
    | _, _ => none
  | .field t x f => match P.underlying t, compOpd x with
    | some (.struct fs), some x => match fs[f]? with
      | some fd => match aggOf P fd.type, sizeOf? P fd.type with
        | some g, some n => some (.v (.fieldV g fd.offset n x))
        | _, _ => none
      | none => none
    | _, _ => none
  | .indexAddr t x i => match P.underlying t, compOpd x, compOpd i with
    | some (.slice e), some x, some i => (sizeOf? P e).map fun z => .v (.indexAddrS z x i)
    | some (.array n e), some x, some i => (sizeOf? P e).map fun z => .v (.indexAddrA n z x i)
    | _, _, _ => none
  | .index t x i => match P.underlying t, compOpd x, compOpd i with
    | some (.array n e), some x, some i => match aggOf P e, sizeOf? P e with
      | some g, some z => some (.v (.indexA g n z x i))
      | _, _ => none
    | some .string, some x, some i => some (.v (.indexS x i))
    | _, _, _ => none
  | .lookup t m k ok => match P.underlying t, compOpd m, compOpd k with
    | some (.map kt e), some m, some k => match keyShape P kt, zeroOf P e with
      | some (g, s), some z => some (.h (.lookup g s z ok m k))
      | _, _ => none
    | _, _, _ => none
  | .mapUpdate t m k v => match P.underlying t, compOpd m, compOpd k, compOpd v with
    | some (.map kt _), some m, some k, some v => (keyShape P kt).map fun (g, s) => .h (.mapUpd g s m k v)
    | _, _, _, _ => none
  | .mapEntry t m k => match P.underlying t, compOpd m, compOpd k with
    | some (.map kt e), some m, some k => match keyShape P kt, zeroOf P e with
      | some (g, s), some z => some (.h (.mapEntry g s z m k))
      | _, _ => none
    | _, _, _ => none
  | .entryStore _ m s v => match compOpd m, compOpd s, compOpd v with
    | some m, some s, some v => some (.h (.entryStore m s v))
    | _, _, _ => none
  | .extract x i => (compOpd x).map fun x => .v (.extract i x)
  | .panic _ => some .fail
  | .call c => match c.callee with
    | .builtin b => compBuiltin P b c.argTypes.toList c.args.toList
    | .value f => if cmpOf P f then
        match compOpds c.args.toList with
        | some [x, y] => some (.v (.cmpS x y))
        | _ => none
      else if cntOf P f then
        match compOpds c.args.toList with
        | some [x, y] => some (.v (.cntS x y))
        | _ => none
      else match compOpd f, compOpds c.args.toList with
      | some f, some args => some (.call f args)
      | _, _ => none
    | .invoke r name => match compOpd r, compOpds c.args.toList with
      | some r, some args => some (.invoke name r args)
      | _, _ => none
  | _ => none

def isLoadOp : AOp → Bool
  | .h (.load _ _ _) => true
  | _ => false
def isStoreOp : AOp → Bool
  | .h (.store _ _ _) => true
  | _ => false

/-- Are two operations of a region ordered? (b: what is before each, as bits.) -/
def ordered (b : Array Nat) (i j : Nat) : Bool := if j < i then (b.getD i 0).testBit j else (b.getD j 0).testBit i
def isFull (b : Array Nat) (ops : List (AOp × Nat)) (i : Nat) : Bool := ops.all fun (o, j) => i == j || isV o || ordered b i j
def isSemi (b : Array Nat) (ops : List (AOp × Nat)) (i : Nat) : Bool := ops.all fun (o, j) => i == j || isV o || isLoadOp o || ordered b i j
def clsOf (b : Array Nat) (ops : List (AOp × Nat)) (o : AOp) (i : Nat) : Cls :=
  if isV o then .full
  else if isFull b ops i then .full
  else if isLoadOp o then
    if ops.all (fun (o', j) => i == j || isV o' || isLoadOp o' || !isSemi b ops j || ordered b i j) then .froz else .sload
  else if isSemi b ops i then (if isStoreOp o then .st1 else .semi)
  else .froz

/-! What an operation reads. -/
def opdsO : Option Opd → List Opd
  | some x => [x]
  | none => []
def opdsV : VOp → List Opd
  | .mov x | .un _ x | .conv _ x | .fieldV _ _ _ x | .fieldAddr _ x | .mkI _ x | .extract _ x | .len x | .lenT x | .nilCheck x | .mkM _ x | .eqN _ _ x => [x]
  | .pick c a b => [c, a, b]
  | .bin _ x y | .eqB _ x y | .eqA _ _ x y | .indexA _ _ _ x y | .indexS x y | .indexAddrS _ x y | .indexAddrA _ _ x y | .cmpS x y | .cntS x y => [x, y]
  | .build _ ps => ps.map (·.2.2)
  | .slS _ x lo hi mx | .slA _ _ x lo hi mx => x :: (opdsO lo ++ opdsO hi ++ opdsO mx)
  | .slT x lo hi => x :: (opdsO lo ++ opdsO hi)
  | .mkF _ xs ys => xs ++ ys
  | .lenC _ => []
  | .min x xs | .max x xs => x :: xs
def opdsH : HOp → List Opd
  | .alloc _ | .mkMap => []
  | .box x | .load _ _ x | .lenM x | .cap x | .s2b x | .nextS x | .b2s x => [x]
  | .bslice _ _ _ ps | .tslice _ _ _ ps => ps.map (·.2.2)
  | .store _ a x => [a, x]
  | .mkSlice _ _ a b | .append _ _ a b | .appendZ _ _ a b | .copy _ a b => [a, b]
  | .lookup _ _ _ _ m k | .mapEntry _ _ _ m k => [m, k]
  | .mapUpd _ _ m k v | .entryStore m k v => [m, k, v]
def opdsA : AOp → List Opd
  | .v o => opdsV o
  | .h o => opdsH o
  | .call f xs => f :: xs
  | .invoke _ r xs => r :: xs
  | .fail => []
def tmpsOf : List Opd → List Nat
  | [] => []
  | .tmp t :: xs => t :: tmpsOf xs
  | _ :: xs => tmpsOf xs
def readsOf (o : AOper) : List Nat := match o.guard with
  | some (t, _) => t :: tmpsOf (opdsA o.op)
  | none => tmpsOf (opdsA o.op)
/-- An operation that reads a temporary is ordered against the one that writes it; none is written twice; edges lead back. -/
def scopeOK (b : Array Nat) (ops : Array Oper) (os : List AOper) : Bool :=
  (ops.toList.zipIdx.all fun x => x.1.after.toList.all fun e => !Region.binds .any e || decide (e.on < x.2)) &&
  os.zipIdx.all fun x =>
    ((readsOf x.1).all fun t => os.zipIdx.all fun y => y.1.dst != some t || x.2 == y.2 || (if y.2 < x.2 then (b.getD x.2 0).testBit y.2 else (b.getD y.2 0).testBit x.2)) &&
    (x.1.dst.isNone || os.zipIdx.all fun y => x.2 == y.2 || y.1.dst != x.1.dst)

def compOps (P : Program) : List Oper → Option (List AOp)
  | [] => some []
  | o :: os => match compOp P o.op, compOps P os with
    | some a, some as => some (a :: as)
    | _, _ => none
def guardOf (ops : Array Oper) : Option (Nat × Bool) → Option (Option (Nat × Bool))
  | none => some none
  | some (j, w) => match (ops[j]?).bind (·.dst) with
    | some d => some (some (d, w))
    | none => none
def compOpers (ops : Array Oper) (cls : AOp → Nat → Cls) : List Oper → List AOp → Nat → Option (List AOper)
  | [], [], _ => some []
  | o :: os, a :: as, i => match guardOf ops o.guard, compOpers ops cls os as (i + 1) with
    | some g, some r => some (⟨o.dst, a, g, cls a i⟩ :: r)
    | _, _ => none
  | _, _, _ => none
/-- Slices that appends of the region read, and nothing else does. -/
def isFrozApp (o : AOper) : Bool := match o.op, o.cls with
  | .h (.append _ _ _ _), .froz => true
  | _, _ => false
def onlySrc (os : List AOper) (d : Nat) : Bool := os.all fun o => match o.op with
  | .h (.append _ _ s _) => !(tmpsOf [s]).contains d && o.guard.all fun g => g.1 != d
  | _ => !(readsOf o).contains d
def tslOp : AOp → AOp
  | .h (.bslice z n zero ps) => .h (.tslice z n zero ps)
  | o => o
def looseOp (os : List AOper) (o : AOper) : AOp := match o.dst with
  | some d => if onlySrc os d then tslOp o.op else o.op
  | none => o.op
def compRegion (P : Program) (ops : Array Oper) (draw : Bool) : Option (List AOper) :=
  match compOps P ops.toList with
  | some as =>
    if draw then
      let b := Region.before ops
      let l := as.zipIdx
      match compOpers ops (fun a i => clsOf b l a i) ops.toList as 0 with
      | some os =>
        if os.any isFrozApp then
          let as' := os.map (looseOp os)
          let l' := as'.zipIdx
          match compOpers ops (fun a i => clsOf b l' a i) ops.toList as' 0 with
          | some os => if scopeOK b ops os then some os else none
          | none => none
        else if scopeOK b ops os then some os else none
      | none => none
    else compOpers ops (fun _ _ => .full) ops.toList as 0
  | none => none

/-- Code: the hints (what is kept behind each region) are used up one by one; the loops over functions are laid in a list. -/
def compC (P : Program) : Code → List (List Nat) → List ALoop → Option (ACode × List (List Nat) × List ALoop)
  | .skip, ks, ls | .label _, ks, ls => some (.skip, ks, ls)
  | .region _ ops draw, k :: ks, ls => (compRegion P ops draw).map fun os => (.region draw os k, ks, ls)
  | .seq a b, ks, ls => match compC P a ks ls with
    | some (a', ks, ls) => match compC P b ks ls with
      | some (b', ks, ls) => some (.seq a' b', ks, ls)
      | none => none
    | none => none
  | .cond c a b, ks, ls => match compOpd c, compC P a ks ls with
    | some c', some (a', ks, ls) => match compC P b ks ls with
      | some (b', ks, ls) => some (.cond c' a' b', ks, ls)
      | none => none
    | _, _ => none
  | .block id b, ks, ls => (compC P b ks ls).map fun (b', ks, ls) => (.block id b', ks, ls)
  | .loop b, ks, ls => (compC P b ks ls).map fun (b', ks, ls) => (.loop b', ks, ls)
  | .scope b, ks, ls => (compC P b ks ls).map fun (b', ks, ls) => (.scope b', ks, ls)
  | .rangeFunc f params a b, ks, ls => match compOpd f, compC P a ks ls with
    | some f', some (a', ks, ls) => match compC P b ks ls with
      | some (b', ks, ls) => some (.rangeFunc ls.length f', ks, ls ++ [⟨params.toList, a', b'⟩])
      | none => none
    | _, _ => none
  | .exit id, ks, ls => some (.exit id, ks, ls)
  | .ret, ks, ls => some (.ret, ks, ls)
  | _, _, _ => none

def compRes (P : Program) : List ResultVar → Option (List ARes)
  | [] => some []
  | .tmp t :: rs => (compRes P rs).map fun r => .tmp t :: r
  | .cell a t :: rs => match aggOf P t, sizeOf? P t, compRes P rs with
    | some g, some n, some r => if g || n == 1 then some (.cell g a n :: r) else none
    | _, _, _ => none
def compF (P : Program) (fn : Func) (pu : Bool) (ks : List (List Nat)) : Option AFunc :=
  match fn.body with
  | some c => match compC P c ks [], compRes P fn.results.toList with
    | some (body, [], ls), some res => some ⟨fn.params.size + fn.nfree, res, body, ls, pu⟩
    | _, _ => none
  | none => none

end
end Go.Oct
end
/- How the abstract interpreter's values and heap stand to the model's: the relation, and how it is kept when an object is made, written or given up. -/
section
set_option linter.unusedVariables false
set_option linter.unusedSimpArgs false
set_option linter.unusedSectionVars false
namespace Go.Oct
variable [Gl]
open Go.RowKit

theorem Tr.get_setF_same {α : Type} (x : α) : ∀ (k : Nat) (t : Tr α) (n : Nat), n < k → (Tr.setF k t n x).get n = some x
  | 0, _, _, h => absurd h (Nat.not_lt_zero _)
  | k + 1, t, n, h => by
    cases t with
    | leaf =>
      by_cases h0 : n = 0
      · simp [Tr.setF, h0, Tr.get]
      · by_cases h1 : n % 2 = 1
        · simp only [Tr.setF, h0, h1, if_true, if_false, Tr.get]
          exact Tr.get_setF_same x k _ _ (by omega)
        · simp only [Tr.setF, h0, h1, if_false, Tr.get]
          exact Tr.get_setF_same x k _ _ (by omega)
    | node l v r =>
      by_cases h0 : n = 0
      · simp [Tr.setF, h0, Tr.get]
      · by_cases h1 : n % 2 = 1
        · simp only [Tr.setF, h0, h1, if_true, if_false, Tr.get]
          exact Tr.get_setF_same x k _ _ (by omega)
        · simp only [Tr.setF, h0, h1, if_false, Tr.get]
          exact Tr.get_setF_same x k _ _ (by omega)
theorem Tr.get_setF_other {α : Type} (x : α) : ∀ (k : Nat) (t : Tr α) (n m : Nat), n < k → m ≠ n → (Tr.setF k t n x).get m = t.get m
  | 0, _, _, _, h, _ => absurd h (Nat.not_lt_zero _)
  | k + 1, t, n, m, h, hm => by
    cases t with
    | leaf =>
      by_cases h0 : n = 0
      · have : m ≠ 0 := by omega
        by_cases m1 : m % 2 = 1 <;> simp [Tr.setF, h0, Tr.get, this, m1]
      · by_cases h1 : n % 2 = 1
        · simp only [Tr.setF, h0, h1, if_true, if_false, Tr.get]
          by_cases m0 : m = 0
          · simp [m0]
          · by_cases m1 : m % 2 = 1
            · simp only [m0, m1, if_true, if_false]
              rw [Tr.get_setF_other x k _ _ _ (by omega) (by omega)]; rfl
            · simp [m0, m1]
        · simp only [Tr.setF, h0, h1, if_false, Tr.get]
          by_cases m0 : m = 0
          · simp [m0]
          · by_cases m1 : m % 2 = 1
            · simp [m0, m1]
            · simp only [m0, m1, if_false]
              rw [Tr.get_setF_other x k _ _ _ (by omega) (by omega)]; rfl
    | node l v r =>
      by_cases h0 : n = 0
      · have : m ≠ 0 := by omega
        by_cases m1 : m % 2 = 1 <;> simp [Tr.setF, h0, Tr.get, this, m1]
      · by_cases h1 : n % 2 = 1
        · simp only [Tr.setF, h0, h1, if_true, if_false, Tr.get]
          by_cases m0 : m = 0
          · simp [m0]
          · by_cases m1 : m % 2 = 1
            · simp only [m0, m1, if_true, if_false]
              rw [Tr.get_setF_other x k _ _ _ (by omega) (by omega)]
            · simp [m0, m1]
        · simp only [Tr.setF, h0, h1, if_false, Tr.get]
          by_cases m0 : m = 0
          · simp [m0]
          · by_cases m1 : m % 2 = 1
            · simp [m0, m1]
            · simp only [m0, m1, if_false]
              rw [Tr.get_setF_other x k _ _ _ (by omega) (by omega)]
theorem Tr.get_set_same {α : Type} (t : Tr α) (n : Nat) (x : α) : (t.set n x).get n = some x := Tr.get_setF_same x _ _ _ (Nat.lt_succ_self n)
theorem Tr.get_set_other {α : Type} (t : Tr α) (n m : Nat) (x : α) (h : m ≠ n) : (t.set n x).get m = t.get m := Tr.get_setF_other x _ _ _ _ (Nat.lt_succ_self n) h

theorem AH.get_lt {σ : AH} {i : Nat} {o : AObj} (h : σ.get i = some o) : i < σ.next := by
  unfold AH.get at h
  split at h
  · assumption
  · cases h
theorem AH.get_push_new (σ : AH) (o : AObj) : (σ.push o).get σ.next = some o := by
  simp [AH.get, AH.push, Tr.get_set_same]
theorem AH.get_push_old (σ : AH) (o : AObj) (i : Nat) (h : i ≠ σ.next) : (σ.push o).get i = σ.get i := by
  unfold AH.get AH.push
  simp only [Tr.get_set_other _ _ _ _ h]
  by_cases h1 : i < σ.next
  · rw [if_pos h1, if_pos (by omega)]
  · rw [if_neg h1, if_neg (by omega)]
theorem AH.get_set_same (σ : AH) (i : Nat) (o : AObj) (h : i < σ.next) : (σ.set i o).get i = some o := by
  simp [AH.get, AH.set, Tr.get_set_same, h]
theorem AH.get_set_other (σ : AH) (i j : Nat) (o : AObj) (h : j ≠ i) : (σ.set i o).get j = σ.get j := by
  simp [AH.get, AH.set, Tr.get_set_other _ _ _ _ h]
@[simp] theorem AH.next_push (σ : AH) (o : AObj) : (σ.push o).next = σ.next + 1 := rfl
@[simp] theorem AH.lim_push (σ : AH) (o : AObj) : (σ.push o).lim = σ.lim := rfl
@[simp] theorem AH.next_set (σ : AH) (i : Nat) (o : AObj) : (σ.set i o).next = σ.next := rfl
@[simp] theorem AH.lim_set (σ : AH) (i : Nat) (o : AObj) : (σ.set i o).lim = σ.lim := rfl

/-- Where an object lies: its block, the first cell, and how many cells the block has from there on. -/
structure Place where
  b : Nat
  o : Nat
  ext : Nat
/-- What lies where no one will write: cells of which something is known, or just these values. -/
inductive FzK where
  | av (cs : List AV)
  | ex (vs : List Value)
/-- Where objects lie (pl), what cells no one will write any more (fz: block, first cell, what is there), and the first block of the interpreter's own. -/
structure Phi where
  pl : Nat → Option Place
  fz : Nat → Nat → FzK → Prop
  base : Nat
  gl : ∀ g cs, Gl.tab g = some cs → fz g 0 (.av cs)
instance : CoeFun Phi (fun _ => Nat → Option Place) := ⟨Phi.pl⟩
structure Phi.le (φ φ' : Phi) : Prop where
  pl : ∀ i pl, φ i = some pl → φ' i = some pl
  fz : ∀ b o cs, φ.fz b o cs → φ'.fz b o cs
  base : φ'.base = φ.base
instance {φ φ' : Phi} : CoeFun (φ.le φ') (fun _ => ∀ i pl, φ i = some pl → φ' i = some pl) := ⟨Phi.le.pl⟩
theorem Phi.le_refl (φ : Phi) : φ.le φ := ⟨fun _ _ h => h, fun _ _ _ h => h, rfl⟩
theorem Phi.le_trans {a b c : Phi} (h : a.le b) (k : b.le c) : a.le c := ⟨fun i pl e => k i pl (h i pl e), fun b o cs e => k.fz b o cs (h.fz b o cs e), k.base.trans h.base⟩
def Phi.put (φ : Phi) (i : Nat) (pl : Place) : Phi := { φ with pl := fun j => if j = i then some pl else φ j }
/-- Nothing but what no one will write. -/
def Phi.bare (φ : Phi) : Phi := { φ with pl := fun _ => none }
theorem Phi.bare_le (φ : Phi) : φ.bare.le φ := ⟨fun _ _ h => by simp [Phi.bare] at h, fun _ _ _ h => h, rfl⟩
theorem Phi.bare_mono {φ φ' : Phi} (h : φ.le φ') : φ.bare.le φ'.bare := ⟨fun _ _ h => by simp [Phi.bare] at h, h.fz, h.base⟩
/-- Cells that no one will write, from a place on. -/
def Phi.has (φ : Phi) (b o : Nat) (cs : List AV) : Prop := ∃ o0 cs0 d, φ.fz b o0 (.av cs0) ∧ o = o0 + d ∧ ∃ t, cs0.drop d = cs ++ t
theorem Phi.has_fzle {φ φ' : Phi} (h : ∀ b o cs, φ.fz b o cs → φ'.fz b o cs) {b o : Nat} {cs : List AV} : φ.has b o cs → φ'.has b o cs
  | ⟨o0, cs0, d, h1, h2, h3⟩ => ⟨o0, cs0, d, h _ _ _ h1, h2, h3⟩
theorem Phi.has_fz {φ : Phi} {b o : Nat} {cs : List AV} (h : φ.fz b o (.av cs)) : φ.has b o cs := ⟨o, cs, 0, h, rfl, [], by simp⟩
theorem Phi.has_drop {φ : Phi} {b o : Nat} {cs : List AV} (h : φ.has b o cs) (d : Nat) (hd : d ≤ cs.length) : φ.has b (o + d) (cs.drop d) := by
  obtain ⟨o0, cs0, d0, h1, h2, t, h3⟩ := h
  refine ⟨o0, cs0, d0 + d, h1, by omega, t, ?_⟩
  rw [← List.drop_drop, h3, List.drop_append_of_le_length hd]
theorem Phi.has_take {φ : Phi} {b o : Nat} {cs : List AV} (h : φ.has b o cs) (n : Nat) : φ.has b o (cs.take n) := by
  obtain ⟨o0, cs0, d0, h1, h2, t, h3⟩ := h
  exact ⟨o0, cs0, d0, h1, h2, cs.drop n ++ t, by rw [h3, ← List.append_assoc, List.take_append_drop]⟩
theorem Phi.put_same (φ : Phi) (i : Nat) (pl : Place) : (φ.put i pl) i = some pl := by simp [Phi.put]
theorem Phi.put_other (φ : Phi) (i j : Nat) (pl : Place) (h : j ≠ i) : (φ.put i pl) j = φ j := by simp [Phi.put, h]
theorem Phi.le_put {φ : Phi} {i : Nat} {pl : Place} (h : φ i = none) : φ.le (φ.put i pl) := by
  refine ⟨fun j p e => ?_, fun _ _ _ h => h, rfl⟩
  rw [Phi.put_other]; exact e
  rintro rfl
  rw [h] at e; cases e

/-- An abstract value stands for a value. -/
inductive VR (φ : Phi) : AV → Value → Prop where
  | undef (v : Value) : VR φ .undef v
  | int (k : IntKind) (n : Int) : VR φ (.int k n) (.int k n)
  | bool (b : Bool) : VR φ (.bool b) (.bool b)
  | str (s : ByteArray) : VR φ (.str s) (.string s)
  | ptrN : VR φ (.ptr none) (.pointer none)
  | ptr (i o : Nat) (pl : Place) (h : φ i = some pl) : VR φ (.ptr (some (i, o))) (.pointer (some ⟨pl.b, pl.o + o, none⟩))
  | sliceN : VR φ (.slice none 0 (.ex 0)) (.slice none 0 0)
  | sliceX (i o : Nat) (pl : Place) (len c : Nat) (a : Addr) (h : φ i = some pl) (hb : a.block = pl.b) (ha : c ≠ 0 → a = ⟨pl.b, pl.o + o, none⟩) (hl : len ≤ c) :
      VR φ (.slice (some (i, o)) len (.ex c)) (.slice (some a) len c)
  | sliceO (i o : Nat) (pl : Place) (len z c : Nat) (a : Addr) (h : φ i = some pl) (hb : a.block = pl.b) (ha : c ≠ 0 → a = ⟨pl.b, pl.o + o, none⟩) (hl : len ≤ c) (he : o + c * z = pl.ext) :
      VR φ (.slice (some (i, o)) len (.op z)) (.slice (some a) len c)
  | mapN : VR φ (.map none) (.map none)
  | map (i : Nat) (pl : Place) (h : φ i = some pl) : VR φ (.map (some i)) (.map (some pl.b))
  | func (f : Nat) (xs ys : List AV) (vx vy : Array Value) (hx : xs.length = vx.size) (hy : ys.length = vy.size)
      (h1 : ∀ i, VR φ (xs.getD i .undef) (vx.getD i undef)) (h2 : ∀ i, VR φ (ys.getD i .undef) (vy.getD i undef)) : VR φ (.func (.func f) xs ys) (.func (.func f) vx vy)
  | yield (l : Nat) (pl : Place) (xs ys : List AV) (vx vy : Array Value) (h : φ l = some pl) (hx : xs.length = vx.size) (hy : ys.length = vy.size)
      (h1 : ∀ i, VR φ (xs.getD i .undef) (vx.getD i undef)) (h2 : ∀ i, VR φ (ys.getD i .undef) (vy.getD i undef)) : VR φ (.func (.yield l) xs ys) (.func (.yield pl.b) vx vy)
  | meth (name : String) (x : AV) (v : Value) (h : VR φ x v) : VR φ (.func (.method name) [x] []) (.func (.method name) #[v] #[])
  | nilFunc : VR φ .nilFunc .nilFunc
  | iface (t : Nat) (x : AV) (v : Value) (h : VR φ x v) : VR φ (.iface t x) (.iface t v)
  | nilIface : VR φ .nilIface .nilIface
  | agg (xs : List AV) (vs : Array Value) (hs : xs.length = vs.size) (h : ∀ i, VR φ (xs.getD i .undef) (vs.getD i undef)) : VR φ (.agg xs) (.agg vs)
  | tuple (xs : List AV) (vs : Array Value) (hs : xs.length = vs.size) (h : ∀ i, VR φ (xs.getD i .undef) (vs.getD i undef)) : VR φ (.tuple xs) (.tuple vs)
  | vslN : VR φ (.vsl true []) (.slice none 0 0)
  | vsl (es : List AV) (z c : Nat) (a : Addr) (hz : ∀ e ∈ es, e.cells.length = z) (hl : es.length ≤ c) (h : es ≠ [] → ∃ b o, a = ⟨b, o, none⟩ ∧ φ.has b o (es.flatMap AV.cells)) :
      VR φ (.vsl false es) (.slice (some a) es.length c)
  | vptr (cs : List AV) (k b o : Nat) (h : φ.has b o cs) : VR φ (.vptr cs k) (.pointer (some ⟨b, o + k, none⟩))
  | tsl (n : Nat) (cs : List AV) (vs : List Value) (b : Nat) (h : φ.fz b 0 (.ex vs)) (hs : cs.length = vs.length) (h1 : ∀ i, VR φ (cs.getD i .undef) (vs.getD i undef)) : VR φ (.tsl n cs) (.slice (some ⟨b, 0, none⟩) n n)

theorem VR.mono0 {φ φ' : Phi} (hle : ∀ i pl, φ i = some pl → φ' i = some pl) (hfz : ∀ b o cs, φ.fz b o cs → φ'.fz b o cs) {x : AV} {v : Value} (h : VR φ x v) : VR φ' x v := by
  induction h with
  | undef v => exact .undef v
  | int k n => exact .int k n
  | bool b => exact .bool b
  | str s => exact .str s
  | ptrN => exact .ptrN
  | ptr i o pl h => exact .ptr i o pl (hle _ _ h)
  | sliceN => exact .sliceN
  | sliceX i o pl len c a h hb ha hl => exact .sliceX i o pl len c a (hle _ _ h) hb ha hl
  | sliceO i o pl len z c a h hb ha hl he => exact .sliceO i o pl len z c a (hle _ _ h) hb ha hl he
  | mapN => exact .mapN
  | map i pl h => exact .map i pl (hle _ _ h)
  | func f xs ys vx vy hx hy _ _ i1 i2 => exact .func f xs ys vx vy hx hy i1 i2
  | yield l pl xs ys vx vy h hx hy _ _ i1 i2 => exact .yield l pl xs ys vx vy (hle _ _ h) hx hy i1 i2
  | meth name x v _ ih => exact .meth name x v ih
  | nilFunc => exact .nilFunc
  | iface t x v _ ih => exact .iface t x v ih
  | nilIface => exact .nilIface
  | agg xs vs hs _ ih => exact .agg xs vs hs ih
  | tuple xs vs hs _ ih => exact .tuple xs vs hs ih
  | vslN => exact .vslN
  | vsl es z c a hz hl h => exact .vsl es z c a hz hl fun he => let ⟨b, o, h1, h2⟩ := h he; ⟨b, o, h1, Phi.has_fzle hfz h2⟩
  | vptr cs k b o h => exact .vptr cs k b o (Phi.has_fzle hfz h)
  | tsl n cs vs b h hs _ ih => exact .tsl n cs vs b (hfz _ _ _ h) hs ih

theorem VR.mono {φ φ' : Phi} (hle : φ.le φ') {x : AV} {v : Value} (h : VR φ x v) : VR φ' x v := h.mono0 hle.pl hle.fz

/-- Lists of values. -/
def VRL (φ : Phi) (xs : List AV) (vs : List Value) : Prop := xs.length = vs.length ∧ ∀ i, VR φ (xs.getD i .undef) (vs.getD i undef)
theorem VRL.nil (φ : Phi) : VRL φ [] [] := ⟨rfl, fun i => by simp [List.getD]; exact .undef _⟩
theorem VRL.cons {φ : Phi} {x : AV} {v : Value} {xs : List AV} {vs : List Value} (h : VR φ x v) (hs : VRL φ xs vs) : VRL φ (x :: xs) (v :: vs) :=
  ⟨by simp [hs.1], fun i => by cases i with | zero => simpa using h | succ i => simpa using hs.2 i⟩
theorem VRL.head {φ : Phi} {x : AV} {v : Value} {xs : List AV} {vs : List Value} (h : VRL φ (x :: xs) (v :: vs)) : VR φ x v := by simpa using h.2 0
theorem VRL.tail {φ : Phi} {x : AV} {v : Value} {xs : List AV} {vs : List Value} (h : VRL φ (x :: xs) (v :: vs)) : VRL φ xs vs :=
  ⟨by simpa using h.1, fun i => by simpa using h.2 (i + 1)⟩
theorem VRL.mono {φ φ' : Phi} (hle : φ.le φ') {xs : List AV} {vs : List Value} (h : VRL φ xs vs) : VRL φ' xs vs := ⟨h.1, fun i => (h.2 i).mono hle⟩
theorem VRL.append {φ : Phi} {xs ys : List AV} {vs us : List Value} (h : VRL φ xs vs) (k : VRL φ ys us) : VRL φ (xs ++ ys) (vs ++ us) := by
  induction xs generalizing vs with
  | nil =>
    cases vs with
    | nil => exact k
    | cons v vs => exact absurd h.1 (by simp)
  | cons x xs ih =>
    cases vs with
    | nil => exact absurd h.1 (by simp)
    | cons v vs => exact VRL.cons h.head (ih h.tail)
theorem VRL.get? {φ : Phi} {xs : List AV} {vs : List Value} (h : VRL φ xs vs) {i : Nat} {x : AV} (hx : xs[i]? = some x) : ∃ v, vs[i]? = some v ∧ VR φ x v := by
  have hi : i < xs.length := (List.getElem?_eq_some_iff.1 hx).1
  have hi' : i < vs.length := h.1 ▸ hi
  refine ⟨vs[i], List.getElem?_eq_getElem hi', ?_⟩
  have := h.2 i
  rw [List.getD_eq_getElem?_getD, List.getD_eq_getElem?_getD, hx, List.getElem?_eq_getElem hi'] at this
  exact this
theorem VRL.of_get {φ : Phi} {xs : List AV} {vs : List Value} (hl : xs.length = vs.length) (h : ∀ (i : Nat) (x : AV) (v : Value), xs[i]? = some x → vs[i]? = some v → VR φ x v) : VRL φ xs vs := by
  refine ⟨hl, fun i => ?_⟩
  rw [List.getD_eq_getElem?_getD, List.getD_eq_getElem?_getD]
  by_cases hi : i < xs.length
  · rw [List.getElem?_eq_getElem hi, List.getElem?_eq_getElem (hl ▸ hi)]
    exact h i _ _ (List.getElem?_eq_getElem hi) (List.getElem?_eq_getElem (hl ▸ hi))
  · rw [List.getElem?_eq_none (by omega)]
    exact .undef _
theorem VRL.take {φ : Phi} {xs : List AV} {vs : List Value} (h : VRL φ xs vs) (n : Nat) : VRL φ (xs.take n) (vs.take n) :=
  VRL.of_get (by simp [h.1]) fun i x v hx hv => by
    rw [List.getElem?_take] at hx hv
    split at hx
    · rename_i hi
      rw [if_pos hi] at hv
      obtain ⟨v', hv', hr⟩ := h.get? hx
      rw [hv] at hv'; cases hv'; exact hr
    · cases hx
theorem VRL.drop {φ : Phi} {xs : List AV} {vs : List Value} (h : VRL φ xs vs) (n : Nat) : VRL φ (xs.drop n) (vs.drop n) :=
  VRL.of_get (by simp [h.1]) fun i x v hx hv => by
    rw [List.getElem?_drop] at hx hv
    obtain ⟨v', hv', hr⟩ := h.get? hx
    rw [hv] at hv'; cases hv'; exact hr
theorem VRL.agg {φ : Phi} {xs : List AV} {vs : List Value} (h : VRL φ xs vs) : VR φ (.agg xs) (.agg vs.toArray) :=
  .agg xs vs.toArray (by simpa using h.1) (fun i => by
    have := h.2 i
    simpa [Array.getD_eq_getD_getElem?] using this)
theorem VRL.tuple {φ : Phi} {xs : List AV} {vs : List Value} (h : VRL φ xs vs) : VR φ (.tuple xs) (.tuple vs.toArray) :=
  .tuple xs vs.toArray (by simpa using h.1) (fun i => by
    have := h.2 i
    simpa [Array.getD_eq_getD_getElem?] using this)
theorem VRL.of_array {φ : Phi} {xs : List AV} {vs : Array Value} (hs : xs.length = vs.size) (h : ∀ i, VR φ (xs.getD i .undef) (vs.getD i undef)) : VRL φ xs vs.toList :=
  ⟨by simpa using hs, fun i => by
    have := h i
    simpa [Array.getD_eq_getD_getElem?, List.getD_eq_getElem?_getD] using this⟩
theorem VRL.cells {φ : Phi} {x : AV} {v : Value} (h : VR φ x v) (hu : x ≠ .undef) : VRL φ x.cells v.cells.toList := by
  cases h <;> first | exact absurd rfl hu | skip
  case agg xs vs hs h => exact VRL.of_array hs h
  all_goals
    simp only [AV.cells, Value.cells]
    refine VRL.cons ?_ (VRL.nil _)
    constructor <;> assumption

/-- What is in a frame: N temporaries, of which those that the environment names are known. -/
structure EnvR (φ : Phi) (N : Nat) (env : Env) (tmps : Array Value) : Prop where
  size : tmps.size = N
  get : ∀ t, VR φ (env.get t) (tmps.getD t undef)
theorem EnvR.mono0 {φ φ' : Phi} {N : Nat} {env : Env} {tmps : Array Value} (hle : ∀ i pl, φ i = some pl → φ' i = some pl) (hfz : ∀ b o cs, φ.fz b o cs → φ'.fz b o cs) (h : EnvR φ N env tmps) : EnvR φ' N env tmps :=
  ⟨h.size, fun t => (h.get t).mono0 hle hfz⟩
theorem EnvR.mono {φ φ' : Phi} {N : Nat} {env : Env} {tmps : Array Value} (hle : φ.le φ') (h : EnvR φ N env tmps) : EnvR φ' N env tmps :=
  ⟨h.size, fun t => (h.get t).mono hle⟩
theorem Env.get_set_same : ∀ (env : Env) (t : Nat) (v : AV), (env.set t v).get t = v
  | [], t, v => by simp [Env.set, Env.get]
  | (s, u) :: r, t, v => by
    by_cases h : t < s
    · simp [Env.set, Env.get, h]
    · by_cases h2 : t = s
      · subst h2; simp [Env.set, Env.get]
      · simp [Env.set, Env.get, h, h2, Ne.symm h2, Env.get_set_same r t v]
theorem Env.get_set_other : ∀ (env : Env) (t s : Nat) (v : AV), s ≠ t → (env.set t v).get s = env.get s
  | [], t, s, v, h => by simp [Env.set, Env.get, Ne.symm h]
  | (a, u) :: r, t, s, v, h => by
    by_cases h1 : t < a
    · simp [Env.set, Env.get, h1, Ne.symm h]
    · by_cases h2 : t = a
      · subst h2; simp [Env.set, Env.get, Ne.symm h]
      · simp only [Env.set, h1, h2, if_false, Env.get]
        rw [Env.get_set_other r t s v h]
theorem Env.get_keep (env : Env) (ks : List Nat) (t : Nat) : (Env.keep ks env).get t = env.get t ∨ (Env.keep ks env).get t = .undef := by
  induction ks with
  | nil => exact .inr rfl
  | cons k ks ih =>
    show (if k = t then env.get k else (Env.keep ks env).get t) = _ ∨ _
    by_cases h : k = t
    · subst h; exact .inl (by simp)
    · have e : Env.get (Env.keep (k :: ks) env) t = (Env.keep ks env).get t := by simp [Env.keep, Env.get, h]
      rw [e, if_neg h]; exact ih
theorem EnvR.keep {φ : Phi} {N : Nat} {env : Env} {tmps : Array Value} (h : EnvR φ N env tmps) (ks : List Nat) : EnvR φ N (env.keep ks) tmps :=
  ⟨h.size, fun t => by rcases Env.get_keep env ks t with e | e <;> rw [e]; exact h.get t; exact .undef _⟩
theorem EnvR.set {φ : Phi} {N : Nat} {env : Env} {tmps : Array Value} (h : EnvR φ N env tmps) {t : Nat} (ht : t < N) {x : AV} {v : Value} (hv : VR φ x v) :
    EnvR φ N (env.set t x) (tmps.setIfInBounds t v) := by
  refine ⟨by simpa using h.size, fun s => ?_⟩
  by_cases e : s = t
  · subst e
    rw [Env.get_set_same]
    have hs : s < tmps.size := by rw [h.size]; exact ht
    simpa [Array.getD_eq_getD_getElem?, hs] using hv
  · rw [Env.get_set_other _ _ _ _ e]
    have := h.get s
    simpa [Array.getD_eq_getD_getElem?, Array.getElem?_setIfInBounds, Ne.symm e] using this
/-- The jump that a loop over a function holds. -/
def AEx.code : AEx → Option Code
  | .normal => none
  | .exit id => some (.exit id)
  | .ret => some .ret
def pendR (a : Option AEx) (c : Option Code) : Prop := (a.getD .normal).code = c

/-- What is asked of the code of the loops: LC f i params assign body. -/
abbrev LCode := Nat → Nat → Array Tmp → Code → Code → Prop

def EntR (φ : Phi) (e : AV × AV × Nat) (c : MapEntry) : Prop := VR φ e.1 c.key ∧ VR φ e.2.1 c.val ∧ e.2.2 = c.born

/-- Nothing of a row is shared with a string. -/
def frF (fr : Nat × Nat) (n : Nat) : Prop := ∀ k, k < n → ¬ (fr.1 ≤ k ∧ k < fr.2)
theorem frF0 (n : Nat) : frF (0, 0) n := fun k _ h => absurd h.2 (Nat.not_lt_zero k)
/-- An object, and the block that stands for it. N f: how many temporaries the function f has. -/
def OR (LC : LCode) (N : Nat → Nat) (φ : Phi) (w : World) (pl : Place) : AObj → Prop
  | .cells cs => ∃ c e fr, w.heap[pl.b]? = some (.cells c e fr) ∧ frF fr c.size ∧ c.size = pl.o + pl.ext ∧ cs.length ≤ pl.ext ∧ ∀ (j : Nat) (x : AV), cs[j]? = some x → ∃ v, c[pl.o + j]? = some v ∧ VR φ x v
  | .ro cs => ∃ c e fr, w.heap[pl.b]? = some (.cells c e fr) ∧ ∀ (j : Nat) (x : AV), cs[j]? = some x → ∃ v, c[pl.o + j]? = some v ∧ VR φ x v
  | .map es ck => ∃ ces : Array MapEntry, w.heap[pl.b]? = some (.map ces ck) ∧ ces.size = es.length ∧ ∀ (j : Nat) (e : AV × AV × Nat) (c : MapEntry), es[j]? = some e → ces[j]? = some c → EntR φ e c
  | .loop f i env st pend d => ∃ r : Loop, w.heap[pl.b]? = some (.loop r) ∧ r.fn = f ∧ r.state = st ∧ pendR pend r.pending ∧ EnvR φ (N f) env r.tmps ∧ LC f i r.params r.assign r.body ∧
      ∃ pd, φ d = some pd ∧ r.defers = pd.b
  | .dfr => w.heap[pl.b]? = some (.deferred (some []))
  | .siter s pos => w.heap[pl.b]? = some (.stringIter s pos)
  | .dead => True

/-- May an object be written? -/
def AObj.mut : AObj → Bool
  | .ro _ | .dead => false
  | _ => true
def AObj.alive : AObj → Bool
  | .dead => false
  | _ => true
theorem AObj.alive_of {o : AObj} (h : o.mut = true) : o.alive = true := by cases o <;> first | rfl | cases h

section
variable {LC : LCode} {N : Nat → Nat}
theorem OR.mono0 {φ φ' : Phi} (hle : ∀ i pl, φ i = some pl → φ' i = some pl) (hfz : ∀ b o cs, φ.fz b o cs → φ'.fz b o cs) {w : World} {pl : Place} {o : AObj} (h : OR LC N φ w pl o) : OR LC N φ' w pl o := by
  cases o with
  | cells cs =>
    obtain ⟨c, e, fr, h1, hf, h2, h3, h4⟩ := h
    exact ⟨c, e, fr, h1, hf, h2, h3, fun j x hx => let ⟨v, hv, hr⟩ := h4 j x hx; ⟨v, hv, hr.mono0 hle hfz⟩⟩
  | ro cs =>
    obtain ⟨c, e, fr, h1, h4⟩ := h
    exact ⟨c, e, fr, h1, fun j x hx => let ⟨v, hv, hr⟩ := h4 j x hx; ⟨v, hv, hr.mono0 hle hfz⟩⟩
  | map es ck =>
    obtain ⟨ces, h1, h2, h3⟩ := h
    exact ⟨ces, h1, h2, fun j e c he hc => let ⟨a, b, d⟩ := h3 j e c he hc; ⟨a.mono0 hle hfz, b.mono0 hle hfz, d⟩⟩
  | loop f i env st pend d =>
    obtain ⟨r, h1, h2, h3, h4, h5, h6, pd, h7, h8⟩ := h
    exact ⟨r, h1, h2, h3, h4, h5.mono0 hle hfz, h6, pd, hle _ _ h7, h8⟩
  | dfr => exact h
  | siter s pos => exact h
  | dead => trivial
theorem OR.mono {φ φ' : Phi} (hle : φ.le φ') {w : World} {pl : Place} {o : AObj} (h : OR LC N φ w pl o) : OR LC N φ' w pl o := h.mono0 hle.pl hle.fz
theorem OR.heap {φ : Phi} {w w' : World} {pl : Place} {o : AObj} (hw : w'.heap[pl.b]? = w.heap[pl.b]?) (h : OR LC N φ w pl o) : OR LC N φ w' pl o := by
  cases o <;> simp only [OR] at h ⊢ <;> first | (rw [hw]; exact h) | trivial

def FzK.ok (φ : Phi) (c : Array Value) (o : Nat) : FzK → Prop
  | .av cs => ∀ (j : Nat) (x : AV), cs[j]? = some x → ∃ v, c[o + j]? = some v ∧ VR φ x v
  | .ex vs => ∀ (j : Nat) (v : Value), vs[j]? = some v → c[o + j]? = some v
theorem FzK.ok.mono0 {φ φ' : Phi} (hle : ∀ i pl, φ i = some pl → φ' i = some pl) (hfz : ∀ b o cs, φ.fz b o cs → φ'.fz b o cs) {c : Array Value} {o : Nat} {cs : FzK} (h : cs.ok φ c o) : cs.ok φ' c o := by
  cases cs with
  | av cs => exact fun j x hx => let ⟨v, hv, hr⟩ := h j x hx; ⟨v, hv, hr.mono0 hle hfz⟩
  | ex vs => exact h
theorem FzK.ok.mono {φ φ' : Phi} (hle : φ.le φ') {c : Array Value} {o : Nat} {cs : FzK} (h : cs.ok φ c o) : cs.ok φ' c o := h.mono0 hle.pl hle.fz
/-- What no one will write is there, and no object that may be written lies in its blocks. -/
def FrzOK (φ : Phi) (σ : AH) (w : World) : Prop :=
  ∀ b o cs, φ.fz b o cs → b < w.heap.size ∧ (∃ c e fr, w.heap[b]? = some (.cells c e fr) ∧ cs.ok φ.bare c o) ∧
    ∀ i pl ob, φ i = some pl → σ.get i = some ob → ob.mut = true → pl.b ≠ b
theorem FrzOK.to {φ φ' : Phi} {σ σ' : AH} {w w' : World} (h : FrzOK φ σ w) (hfz : ∀ b o cs, φ'.fz b o cs → φ.fz b o cs) (hle : φ.bare.le φ'.bare) (hsz : w.heap.size ≤ w'.heap.size) (hold : ∀ b o cs, φ.fz b o cs → w'.heap[b]? = w.heap[b]?)
    (hm : ∀ b o cs, φ.fz b o cs → ∀ i pl ob, φ' i = some pl → σ'.get i = some ob → ob.mut = true → pl.b ≠ b) : FrzOK φ' σ' w' := by
  intro b o cs hb
  have hb' := hfz b o cs hb
  obtain ⟨h1, ⟨c, e, fr, h2, h3⟩, h4⟩ := h b o cs hb'
  exact ⟨by omega, ⟨c, e, fr, by rw [hold b o cs hb']; exact h2, h3.mono hle⟩, hm b o cs hb'⟩

/-- The abstract heap stands for the world; below block B0 the world is as w0; what the interpreter may write lies from B0 on, each in a block of its own. -/
structure R (LC : LCode) (N : Nat → Nat) (B0 : Nat) (w0 : World) (φ : Phi) (σ : AH) (w : World) : Prop where
  below : Below B0 w0 w
  size : B0 ≤ w.heap.size
  dom : ∀ i pl, φ i = some pl → i < σ.next ∧ pl.b < w.heap.size
  obj : ∀ i pl, φ i = some pl → ∃ o, σ.get i = some o ∧ OR LC N φ w pl o
  own : ∀ i pl o, φ i = some pl → σ.lim ≤ i → σ.get i = some o → o.alive = true → B0 ≤ pl.b ∧ ∀ j pj oj, j ≠ i → φ j = some pj → σ.get j = some oj → oj.alive = true → pj.b ≠ pl.b
  base : φ.base = B0
  frz : FrzOK φ σ w

/-- One state behind another. -/
structure Ext (φ φ' : Phi) (σ σ' : AH) : Prop where
  le : φ.le φ'
  new : ∀ i pl, φ' i = some pl → φ i = some pl ∨ σ.next ≤ i
  full : ∀ i, σ.next ≤ i → i < σ'.next → φ' i ≠ none
  next : σ.next ≤ σ'.next
  lim : σ'.lim = σ.lim
  fzn : ∀ b o cs, φ'.fz b o cs → φ.fz b o cs ∨ φ.base ≤ b
theorem Ext.refl (φ : Phi) (σ : AH) : Ext φ φ σ σ := ⟨φ.le_refl, fun _ _ h => .inl h, fun i h h' => by omega, Nat.le_refl _, rfl, fun _ _ _ h => .inl h⟩
theorem Ext.trans {φ φ' φ'' : Phi} {σ σ' σ'' : AH} (h : Ext φ φ' σ σ') (k : Ext φ' φ'' σ' σ'') : Ext φ φ'' σ σ'' :=
  ⟨Phi.le_trans h.le k.le, fun i pl e => by
    rcases k.new i pl e with e | e
    · exact h.new i pl e
    · exact .inr (Nat.le_trans h.next e), fun i h1 h2 => by
    by_cases h3 : i < σ'.next
    · intro e
      cases h4 : φ' i with
      | none => exact h.full i h1 h3 h4
      | some pl => rw [k.le i pl h4] at e; cases e
    · exact k.full i (by omega) h2, Nat.le_trans h.next k.next, k.lim.trans h.lim, fun b o cs e => by
    rcases k.fzn b o cs e with e | e
    · exact h.fzn b o cs e
    · rw [h.le.base] at e; exact .inr e⟩

theorem R.fresh {B0 : Nat} {w0 : World} {φ : Phi} {σ : AH} {w : World} (h : R LC N B0 w0 φ σ w) : φ σ.next = none := by
  cases e : φ σ.next with
  | none => rfl
  | some pl => exact absurd (h.dom _ _ e).1 (Nat.lt_irrefl _)

/-- A new object, a new block (and perhaps a draw). -/
theorem R.push {B0 : Nat} {w0 : World} {φ : Phi} {σ : AH} {w w' : World} (h : R LC N B0 w0 φ σ w) (o : AObj) (O : Obj) (ext : Nat)
    (hos : w'.os = w.os) (htape : w'.tape = w.tape) (hout : w'.output = w.output) (hheap : w'.heap = w.heap.push O)
    (ho : OR LC N (φ.put σ.next ⟨w.heap.size, 0, ext⟩) w' ⟨w.heap.size, 0, ext⟩ o) :
    R LC N B0 w0 (φ.put σ.next ⟨w.heap.size, 0, ext⟩) (σ.push o) w' ∧ Ext φ (φ.put σ.next ⟨w.heap.size, 0, ext⟩) σ (σ.push o) := by
  have hf := h.fresh
  have hle := Phi.le_put (pl := ⟨w.heap.size, 0, ext⟩) hf
  have hold : ∀ k, k < w.heap.size → w'.heap[k]? = w.heap[k]? := by
    intro k hk
    rw [hheap, Array.getElem?_push, if_neg (by omega)]
  have hsz : w'.heap.size = w.heap.size + 1 := by rw [hheap]; simp
  have hb : Below B0 w w' := ⟨hos, htape, hout, by omega, fun k hk => hold k (by have := h.size; omega)⟩
  refine ⟨⟨h.below.trans hb, by have := h.size; omega, ?_, ?_, ?_, h.base, h.frz.to (fun _ _ _ e => e) (Phi.bare_mono hle) (by omega) (fun b o cs e => hold b (h.frz b o cs e).1) (fun b o cs hb i pl ob e hg hm => ?_)⟩, ⟨hle, ?_, ?_, by simp, rfl, fun _ _ _ h => .inl h⟩⟩
  · intro i pl e
    by_cases hi : i = σ.next
    · subst hi
      rw [Phi.put_same] at e
      cases e
      exact ⟨Nat.lt_succ_self _, by simp only; omega⟩
    · rw [Phi.put_other _ _ _ _ hi] at e
      have := h.dom i pl e
      exact ⟨Nat.lt_succ_of_lt this.1, by omega⟩
  · intro i pl e
    by_cases hi : i = σ.next
    · subst hi
      rw [Phi.put_same] at e
      cases e
      exact ⟨o, AH.get_push_new _ _, ho⟩
    · rw [Phi.put_other _ _ _ _ hi] at e
      obtain ⟨o', h1, h2⟩ := h.obj i pl e
      exact ⟨o', by rw [AH.get_push_old _ _ _ hi]; exact h1, (h2.mono hle).heap (hold _ (h.dom i pl e).2)⟩
  · intro i pl oi e hl hg hm
    by_cases hi : i = σ.next
    · subst hi
      rw [Phi.put_same] at e
      cases e
      refine ⟨h.size, fun j pj oj hj ej gj aj => ?_⟩
      rw [Phi.put_other _ _ _ _ hj] at ej
      have := (h.dom j pj ej).2
      simp only
      omega
    · rw [Phi.put_other _ _ _ _ hi] at e
      rw [AH.get_push_old _ _ _ hi] at hg
      obtain ⟨h1, h2⟩ := h.own i pl oi e hl hg hm
      refine ⟨h1, fun j pj oj hj ej gj aj => ?_⟩
      by_cases hj2 : j = σ.next
      · subst hj2
        rw [Phi.put_same] at ej
        cases ej
        have := (h.dom i pl e).2
        simp only
        omega
      · rw [Phi.put_other _ _ _ _ hj2] at ej
        rw [AH.get_push_old _ _ _ hj2] at gj
        exact h2 j pj oj hj ej gj aj
  · by_cases hi : i = σ.next
    · subst hi
      rw [Phi.put_same] at e
      cases e
      have := (h.frz b o cs hb).1
      simp only
      omega
    · rw [Phi.put_other _ _ _ _ hi] at e
      rw [AH.get_push_old _ _ _ hi] at hg
      exact (h.frz b o cs hb).2.2 i pl ob e hg hm
  · intro i pl e
    by_cases hi : i = σ.next
    · exact .inr (by omega)
    · rw [Phi.put_other _ _ _ _ hi] at e
      exact .inl e
  · intro i h1 h2
    have : i = σ.next := by simp at h2; omega
    subst this
    rw [Phi.put_same]; simp

/-- The world has grown. -/
theorem R.grown {B0 : Nat} {w0 : World} {φ : Phi} {σ : AH} {w w' : World} (h : R LC N B0 w0 φ σ w) (hb : Below w.heap.size w w') : R LC N B0 w0 φ σ w' :=
  ⟨h.below.trans (hb.mono h.size), Nat.le_trans h.size hb.size, fun i pl e => ⟨(h.dom i pl e).1, Nat.lt_of_lt_of_le (h.dom i pl e).2 hb.size⟩,
    fun i pl e => let ⟨o, h1, h2⟩ := h.obj i pl e; ⟨o, h1, h2.heap (hb.block _ (h.dom i pl e).2)⟩, h.own, h.base,
    h.frz.to (fun _ _ _ e => e) (Phi.bare φ).le_refl hb.size (fun b o cs e => hb.block b (h.frz b o cs e).1) (fun b o cs e => (h.frz b o cs e).2.2)⟩

/-- A world in which one block alone has turned. -/
structure Turned (b : Nat) (w w' : World) : Prop where
  os : w'.os = w.os
  tape : w'.tape = w.tape
  output : w'.output = w.output
  size : w'.heap.size = w.heap.size
  old : ∀ k, k ≠ b → w'.heap[k]? = w.heap[k]?
theorem Turned.refl (b : Nat) (w : World) : Turned b w w := ⟨rfl, rfl, rfl, rfl, fun _ _ => rfl⟩
theorem Turned.trans {b : Nat} {a c d : World} (h : Turned b a c) (k : Turned b c d) : Turned b a d :=
  ⟨k.os.trans h.os, k.tape.trans h.tape, k.output.trans h.output, k.size.trans h.size, fun i hi => (k.old i hi).trans (h.old i hi)⟩

/-- An object is written. -/
theorem R.set {B0 : Nat} {w0 : World} {φ : Phi} {σ : AH} {w w' : World} (h : R LC N B0 w0 φ σ w) {i : Nat} {pl : Place} (hi : φ i = some pl) (hl : σ.lim ≤ i)
    {o : AObj} (hg : σ.get i = some o) (hm : o.mut = true) (o' : AObj) (ht : Turned pl.b w w') (ho : OR LC N φ w' pl o') : R LC N B0 w0 φ (σ.set i o') w' := by
  obtain ⟨hB, hx⟩ := h.own i pl o hi hl hg (AObj.alive_of hm)
  have hlt := (h.dom i pl hi).1
  refine ⟨h.below.trans ⟨ht.os, ht.tape, ht.output, by rw [ht.size]; exact Nat.le_refl _, fun k hk => ht.old k (by omega)⟩, by rw [ht.size]; exact h.size,
    fun j pj e => by rw [ht.size]; exact h.dom j pj e, ?_, ?_, h.base, h.frz.to (fun _ _ _ e => e) (Phi.bare φ).le_refl (by rw [ht.size]; exact Nat.le_refl _) (fun b o cs e => ht.old b (Ne.symm ((h.frz b o cs e).2.2 i pl _ hi hg hm))) (fun b o cs hb j pj oj e hgj hmj => ?_)⟩
  · intro j pj e
    by_cases hj : j = i
    · subst hj
      rw [hi] at e; cases e
      exact ⟨o', AH.get_set_same _ _ _ hlt, ho⟩
    · obtain ⟨oj, g1, g2⟩ := h.obj j pj e
      refine ⟨oj, by rw [AH.get_set_other _ _ _ _ hj]; exact g1, ?_⟩
      by_cases ha : oj.alive = true
      · exact g2.heap (ht.old _ (hx j pj oj hj e g1 ha))
      · cases oj <;> first | trivial | exact absurd rfl ha
  · intro j pj oj e hlj gj mj
    by_cases hj : j = i
    · subst hj
      rw [hi] at e; cases e
      refine ⟨hB, fun k pk ok hk ek gk ak => ?_⟩
      rw [AH.get_set_other _ _ _ _ hk] at gk
      exact hx k pk ok hk ek gk ak
    · rw [AH.get_set_other _ _ _ _ hj] at gj
      obtain ⟨h1, h2⟩ := h.own j pj oj e hlj gj mj
      refine ⟨h1, fun k pk ok hk ek gk ak => ?_⟩
      by_cases hk2 : k = i
      · subst hk2
        rw [hi] at ek; cases ek
        exact h2 k pl o hk hi hg (by cases o <;> first | rfl | cases hm)
      · rw [AH.get_set_other _ _ _ _ hk2] at gk
        exact h2 k pk ok hk ek gk ak
  · by_cases hj : j = i
    · subst hj
      rw [hi] at e; cases e
      exact (h.frz b o cs hb).2.2 j pl _ hi hg hm
    · rw [AH.get_set_other _ _ _ _ hj] at hgj
      exact (h.frz b o cs hb).2.2 j pj oj e hgj hmj

/-- An object is given up. -/
theorem R.kill {B0 : Nat} {w0 : World} {φ : Phi} {σ : AH} {w : World} (h : R LC N B0 w0 φ σ w) (i : Nat) : R LC N B0 w0 φ (σ.set i .dead) w := by
  refine ⟨h.below, h.size, h.dom, ?_, ?_, h.base, h.frz.to (fun _ _ _ e => e) (Phi.bare φ).le_refl (Nat.le_refl _) (fun _ _ _ _ => rfl) (fun b o cs hb j pj oj e hgj hmj => ?_)⟩
  rotate_left 2
  · by_cases hj : j = i
    · subst hj
      rw [AH.get_set_same _ _ _ (h.dom j pj e).1] at hgj
      cases hgj; cases hmj
    · rw [AH.get_set_other _ _ _ _ hj] at hgj
      exact (h.frz b o cs hb).2.2 j pj oj e hgj hmj
  · intro j pj e
    by_cases hj : j = i
    · subst hj
      exact ⟨.dead, AH.get_set_same _ _ _ (h.dom j pj e).1, trivial⟩
    · rw [AH.get_set_other _ _ _ _ hj]; exact h.obj j pj e
  · intro j pj oj e hlj gj mj
    by_cases hj : j = i
    · subst hj
      rw [AH.get_set_same _ _ _ (h.dom j pj e).1] at gj
      cases gj; cases mj
    · rw [AH.get_set_other _ _ _ _ hj] at gj
      obtain ⟨h1, h2⟩ := h.own j pj oj e hlj gj mj
      refine ⟨h1, fun k pk ok hk ek gk ak => ?_⟩
      by_cases hk2 : k = i
      · subst hk2
        rw [AH.get_set_same _ _ _ (h.dom k pk ek).1] at gk
        cases gk; cases ak
      · rw [AH.get_set_other _ _ _ _ hk2] at gk
        exact h2 k pk ok hk ek gk ak
/-- An object that no one will write any more. -/
theorem R.retire {B0 : Nat} {w0 : World} {φ : Phi} {σ : AH} {w : World} (h : R LC N B0 w0 φ σ w) {i : Nat} {cs : List AV} (hg : σ.get i = some (.cells cs) ∨ σ.get i = some (.ro cs)) : R LC N B0 w0 φ (σ.set i (.ro cs)) w := by
  have hlt : i < σ.next := by rcases hg with hg | hg <;> exact AH.get_lt hg
  obtain ⟨o, ho, hoa⟩ : ∃ o, σ.get i = some o ∧ o.alive = true := by rcases hg with hg | hg <;> exact ⟨_, hg, rfl⟩
  have hs := AH.get_set_same σ i (.ro cs) hlt
  refine ⟨h.below, h.size, h.dom, ?_, ?_, h.base, h.frz.to (fun _ _ _ e => e) (Phi.bare φ).le_refl (Nat.le_refl _) (fun _ _ _ _ => rfl) (fun b o cs hb j pj oj e hgj hmj => ?_)⟩
  rotate_left 2
  · by_cases hj : j = i
    · subst hj
      rw [hs] at hgj
      cases hgj; cases hmj
    · rw [AH.get_set_other _ _ _ _ hj] at hgj
      exact (h.frz b o cs hb).2.2 j pj oj e hgj hmj
  · intro j pj e
    by_cases hj : j = i
    · subst hj
      refine ⟨_, hs, ?_⟩
      obtain ⟨o, g1, g2⟩ := h.obj j pj e
      rcases hg with hg | hg
      · rw [hg] at g1; cases g1
        obtain ⟨c, t, fr, q1, _, q2, q3, q4⟩ := g2
        exact ⟨c, t, _, q1, q4⟩
      · rw [hg] at g1; cases g1
        exact g2
    · rw [AH.get_set_other _ _ _ _ hj]; exact h.obj j pj e
  · intro j pj oj e hlj gj mj
    by_cases hj : j = i
    · subst hj
      obtain ⟨h1, h2⟩ := h.own j pj o e hlj ho hoa
      refine ⟨h1, fun k pk ok hk ek gk ak => ?_⟩
      rw [AH.get_set_other _ _ _ _ hk] at gk
      exact h2 k pk ok hk ek gk ak
    · rw [AH.get_set_other _ _ _ _ hj] at gj
      obtain ⟨h1, h2⟩ := h.own j pj oj e hlj gj mj
      refine ⟨h1, fun k pk ok hk ek gk ak => ?_⟩
      by_cases hk2 : k = i
      · subst hk2
        exact h2 k pk o hk ek ho hoa
      · rw [AH.get_set_other _ _ _ _ hk2] at gk
        exact h2 k pk ok hk ek gk ak
theorem R.left {B0 : Nat} {w0 : World} {φ : Phi} {σ : AH} {w : World} (h : R LC N B0 w0 φ σ w) (i : Nat) : R LC N B0 w0 φ (σ.set i (σ.left i)) w := by
  unfold AH.left AH.cel
  split
  · rename_i cs e
    split at e
    · rename_i hg; cases e; exact h.retire (.inl hg)
    · rename_i hg; cases e; exact h.retire (.inr hg)
    · cases e
  · exact h.kill i
/-- A new object takes over the block of one that is given up (an append within the capacity). -/
theorem R.take {B0 : Nat} {w0 : World} {φ : Phi} {σ : AH} {w w' : World} (h : R LC N B0 w0 φ σ w) {i : Nat} {pl : Place} (hi : φ i = some pl) (hl : σ.lim ≤ i)
    {o : AObj} (hg : σ.get i = some o) (hm : o.mut = true) (o' : AObj) (p' : Place) (hp : p'.b = pl.b) (ht : Turned pl.b w w') (ho : OR LC N (φ.put σ.next p') w' p' o') :
    R LC N B0 w0 (φ.put σ.next p') ((σ.push o').set i .dead) w' ∧ Ext φ (φ.put σ.next p') σ ((σ.push o').set i .dead) := by
  obtain ⟨hB, hx⟩ := h.own i pl o hi hl hg (AObj.alive_of hm)
  have hlt := (h.dom i pl hi).1
  have hf := h.fresh
  have hle := Phi.le_put (pl := p') hf
  have hne : σ.next ≠ i := by omega
  have hgn : ((σ.push o').set i .dead).get σ.next = some o' := by rw [AH.get_set_other _ _ _ _ hne, AH.get_push_new]
  have hgi : ((σ.push o').set i .dead).get i = some .dead := AH.get_set_same _ _ _ (Nat.lt_succ_of_lt hlt)
  have hgo : ∀ j, j ≠ i → j ≠ σ.next → ((σ.push o').set i .dead).get j = σ.get j := fun j h1 h2 => by rw [AH.get_set_other _ _ _ _ h1, AH.get_push_old _ _ _ h2]
  refine ⟨⟨h.below.trans ⟨ht.os, ht.tape, ht.output, by rw [ht.size]; exact Nat.le_refl _, fun k hk => ht.old k (by omega)⟩, by rw [ht.size]; exact h.size, ?_, ?_, ?_, h.base,
    h.frz.to (fun _ _ _ e => e) (Phi.bare_mono hle) (by rw [ht.size]; exact Nat.le_refl _) (fun b o cs e => ht.old b (Ne.symm ((h.frz b o cs e).2.2 i pl _ hi hg hm))) (fun b o cs hb j pj oj e hgj hmj => ?_)⟩, ⟨hle, ?_, ?_, by simp, rfl, fun _ _ _ h => .inl h⟩⟩
  · intro j pj e
    rw [ht.size]
    by_cases hj : j = σ.next
    · subst hj
      rw [Phi.put_same] at e; cases e
      exact ⟨Nat.lt_succ_self _, by rw [hp]; exact (h.dom i pl hi).2⟩
    · rw [Phi.put_other _ _ _ _ hj] at e
      have := h.dom j pj e
      exact ⟨Nat.lt_succ_of_lt this.1, this.2⟩
  · intro j pj e
    by_cases hj : j = σ.next
    · subst hj
      rw [Phi.put_same] at e; cases e
      exact ⟨o', hgn, ho⟩
    · rw [Phi.put_other _ _ _ _ hj] at e
      by_cases hj2 : j = i
      · subst hj2
        exact ⟨.dead, hgi, trivial⟩
      · obtain ⟨oj, g1, g2⟩ := h.obj j pj e
        refine ⟨oj, by rw [hgo j hj2 hj]; exact g1, ?_⟩
        by_cases ha : oj.alive = true
        · exact (g2.mono hle).heap (ht.old _ (hx j pj oj hj2 e g1 ha))
        · cases oj <;> first | trivial | exact absurd rfl ha
  · intro j pj oj e hlj gj mj
    by_cases hj : j = σ.next
    · subst hj
      rw [Phi.put_same] at e; cases e
      refine ⟨by rw [hp]; exact hB, fun k pk ok hk ek gk ak => ?_⟩
      rw [Phi.put_other _ _ _ _ hk] at ek
      rw [hp]
      by_cases hk2 : k = i
      · subst hk2
        rw [hgi] at gk; cases gk; cases ak
      · rw [hgo k hk2 hk] at gk
        exact hx k pk ok hk2 ek gk ak
    · rw [Phi.put_other _ _ _ _ hj] at e
      by_cases hj2 : j = i
      · subst hj2
        rw [hgi] at gj; cases gj; cases mj
      · rw [hgo j hj2 hj] at gj
        obtain ⟨h1, h2⟩ := h.own j pj oj e hlj gj mj
        refine ⟨h1, fun k pk ok hk ek gk ak => ?_⟩
        by_cases hk1 : k = σ.next
        · subst hk1
          rw [Phi.put_same] at ek; cases ek
          rw [hp]
          exact h2 i pl o (Ne.symm hj2) hi hg (by cases o <;> first | rfl | cases hm)
        · rw [Phi.put_other _ _ _ _ hk1] at ek
          by_cases hk2 : k = i
          · subst hk2
            rw [hgi] at gk; cases gk; cases ak
          · rw [hgo k hk2 hk1] at gk
            exact h2 k pk ok hk ek gk ak
  · by_cases hj : j = σ.next
    · subst hj
      rw [Phi.put_same] at e; cases e
      rw [hp]
      exact (h.frz b o cs hb).2.2 i pl _ hi hg hm
    · rw [Phi.put_other _ _ _ _ hj] at e
      by_cases hj2 : j = i
      · subst hj2
        rw [hgi] at hgj; cases hgj; cases hmj
      · rw [hgo j hj2 hj] at hgj
        exact (h.frz b o cs hb).2.2 j pj oj e hgj hmj
  · intro j pj e
    by_cases hj : j = σ.next
    · exact .inr (by omega)
    · rw [Phi.put_other _ _ _ _ hj] at e
      exact .inl e
  · intro j h1 h2
    have : j = σ.next := by simp at h2; omega
    subst this
    rw [Phi.put_same]; simp
end
end Go.Oct
end
/- The operations that only compute: what the abstract interpreter reckons stands for what the model yields, and the world is as it was. -/
section
set_option linter.unusedVariables false
set_option linter.unusedSimpArgs false
set_option linter.unusedSectionVars false
namespace Go.Oct
variable [Gl]
open Go.RowKit

/-- Operands. -/
structure OpdR (φ : Phi) (ρ : Opd → AV) (ρc : Operand → Value) : Prop where
  rel : ∀ x y, compOpd x = some y → VR φ (ρ y) (ρc x)
  con : ∀ v, ρc (.const v) = v
  fn : ∀ f, ρc (.func f) = .func (.func f) #[] #[]
theorem OpdR.list {φ : Phi} {ρ : Opd → AV} {ρc : Operand → Value} (h : OpdR φ ρ ρc) : ∀ {xs : List Operand} {ys : List Opd}, compOpds xs = some ys → VRL φ (ys.map ρ) (xs.map ρc)
  | [], ys, e => by simp only [compOpds, Option.some.injEq] at e; subst e; exact VRL.nil _
  | x :: xs, ys, e => by
    simp only [compOpds] at e
    split at e
    · rename_i y ys' h1 h2
      cases e
      exact VRL.cons (h.rel _ _ h1) (h.list h2)
    · cases e

theorem wr_eq (k : IntKind) (n : Int) : wr k n = k.wrap n := by
  cases k <;> simp only [wr]
  split
  · rename_i h
    rw [IntKind.wrap_i64 n]
    omega
  · rfl

section
variable {P : Program} {φ : Phi}

theorem abin_sound {op : BinOp} {x y v : AV} (h : abin op x y = some v) {a b : Value} (hx : VR φ x a) (hy : VR φ y b) (t : TypeId) (ox oy : Operand) (w : World) :
    ∃ v', (do eqGuard op t ox oy a b; binOp op t a b : Sem Value).run P w = .ok v' w ∧ VR φ v v' := by
  cases x <;> try (cases y <;> simp [abin] at h <;> done)
  case int k a' =>
    cases y <;> try (simp [abin] at h; done)
    rename_i k' b'
    cases hx; cases hy
    cases op <;> simp only [abin] at h
    all_goals try (split at h <;> try (cases h; done))
    all_goals try (cases h)
    all_goals try (rename_i hk; first | (obtain ⟨rfl, hb⟩ := hk) | (subst hk) | skip)
    all_goals
      apply Exists.intro; apply And.intro; rotate_left
      · first | (rw [wr_eq]; exact .int _ _) | exact .int _ _ | exact .bool _
      simp [eqGuard, binOp, Op.intArith, Op.intCmp, Op.intDiv, Op.shift, Op.intBits, *]
  case str a' =>
    cases y <;> try (simp [abin] at h; done)
    rename_i b'
    cases hx; cases hy
    cases op <;> simp only [abin] at h
    all_goals try (cases h; done)
    all_goals try (split at h <;> try (cases h; done))
    all_goals try (cases h)
    all_goals
      apply Exists.intro; apply And.intro; rotate_left
      · first | exact .str _ | exact .bool _
      (simp [eqGuard, binOp, Op.stringOp, *]) <;> omega
end
end Go.Oct
end
/- Comparison of values of plain types (integers, bools, strings, structs and arrays of these): what '==' yields, and what a map's key is found by. -/
section
set_option linter.unusedVariables false
set_option linter.unusedSimpArgs false
set_option linter.unusedSectionVars false
namespace Go.Oct
variable [Gl]
open Go.RowKit

section
variable {P : Program} {φ : Phi}

theorem size_info {t : TypeId} {n : Nat} (h : sizeOf? P t = some n) : ∃ i, P.info? t = some i ∧ i.size = n := by
  unfold sizeOf? at h
  cases hi : P.info? t with
  | none => simp [hi] at h
  | some i => exact ⟨i, rfl, by simpa [hi] using h⟩
theorem run_size {t : TypeId} {n : Nat} (h : sizeOf? P t = some n) (w : World) : (sizeOf t).run P w = .ok n w := by
  obtain ⟨i, hi, rfl⟩ := size_info h
  simp [sizeOf, typeInfo, hi]
theorem cells_size {t : TypeId} {n : Nat} (h : sizeOf? P t = some n) : P.cellsOf t = n := by
  obtain ⟨i, hi, rfl⟩ := size_info h
  simp [Program.cellsOf, hi]

/-- The value of a type whose cells are these. -/
def Val (P : Program) (t : TypeId) (vs : List Value) (v : Value) : Prop := (aggOf P t = some true ∧ v = .agg vs.toArray) ∨ (aggOf P t = some false ∧ vs = [v])

theorem shape_size {d : Nat} {t : TypeId} {s : List Leaf} (h : shape P d t = some s) : sizeOf? P t = some s.length := by
  cases d with
  | zero => cases h
  | succ d =>
    simp only [shape] at h
    split at h
    · split at h
      · cases h; assumption
      · cases h
    · split at h
      · cases h; assumption
      · cases h
    · split at h
      · cases h; assumption
      · cases h
    · split at h
      · cases h
      · split at h
        · split at h
          · cases h; assumption
          · cases h
        · cases h
    · split at h
      · split at h
        · rename_i hs
          cases h
          rw [hs.2]
          simp
        · cases h
      · cases h
    · cases h

/-- What a leaf says of two cells. -/
def leafIs : Leaf → AV → AV → Bool → Prop
  | .int, x, y, c => ∃ k a b, x = .int k a ∧ y = .int k b ∧ c = (a == b)
  | .bool, x, y, c => ∃ a b, x = .bool a ∧ y = .bool b ∧ c = (a == b)
  | .str, x, y, c => ∃ a b : ByteArray, x = .str a ∧ y = .str b ∧ c = (a.toList == b.toList)
theorem eqCells_cons {l : Leaf} {sh : List Leaf} {X Y : List AV} {r : Bool} (h : eqCells (l :: sh) X Y = some r) :
    ∃ x xs y ys q c, X = x :: xs ∧ Y = y :: ys ∧ eqCells sh xs ys = some q ∧ r = (c && q) ∧ leafIs l x y c := by
  cases X with
  | nil => cases l <;> simp [eqCells] at h
  | cons x xs =>
    cases Y with
    | nil => cases l <;> simp [eqCells] at h
    | cons y ys =>
      cases l <;> cases x <;> cases y <;> simp only [eqCells, reduceCtorEq] at h
      · split at h
        · rename_i hk
          subst hk
          obtain ⟨q, hq, rfl⟩ := Option.map_eq_some_iff.1 h
          exact ⟨_, _, _, _, q, _, rfl, rfl, hq, rfl, _, _, _, rfl, rfl, rfl⟩
        · cases h
      · obtain ⟨q, hq, rfl⟩ := Option.map_eq_some_iff.1 h
        exact ⟨_, _, _, _, q, _, rfl, rfl, hq, rfl, _, _, rfl, rfl, rfl⟩
      · obtain ⟨q, hq, rfl⟩ := Option.map_eq_some_iff.1 h
        exact ⟨_, _, _, _, q, _, rfl, rfl, hq, rfl, _, _, rfl, rfl, rfl⟩
theorem eqCells_mk {l : Leaf} {sh : List Leaf} {x y : AV} {xs ys : List AV} {q c : Bool} (hl : leafIs l x y c) (h : eqCells sh xs ys = some q) :
    eqCells (l :: sh) (x :: xs) (y :: ys) = some (c && q) := by
  cases l
  · obtain ⟨k, a, b, rfl, rfl, rfl⟩ := hl
    simp [eqCells, h]
  · obtain ⟨a, b, rfl, rfl, rfl⟩ := hl
    simp [eqCells, h]
  · obtain ⟨a, b, rfl, rfl, rfl⟩ := hl
    simp [eqCells, h]
theorem eqCells_nil {X Y : List AV} {r : Bool} (h : eqCells [] X Y = some r) : X = [] ∧ Y = [] ∧ r = true := by
  cases X <;> cases Y <;> simp [eqCells] at h
  exact ⟨rfl, rfl, h⟩
theorem eqCells_len : ∀ (sh : List Leaf) {xs ys : List AV} {r : Bool}, eqCells sh xs ys = some r → xs.length = sh.length ∧ ys.length = sh.length
  | [], xs, ys, r, h => by obtain ⟨rfl, rfl, _⟩ := eqCells_nil h; exact ⟨rfl, rfl⟩
  | l :: sh, xs, ys, r, h => by
    obtain ⟨x, xs, y, ys, q, c, rfl, rfl, hq, _, _⟩ := eqCells_cons h
    have := eqCells_len sh hq
    simp [this]
theorem eqCells_append : ∀ (s : List Leaf) {s2 : List Leaf} {xs ys : List AV} {r : Bool}, eqCells (s ++ s2) xs ys = some r →
    ∃ r1 r2, eqCells s (xs.take s.length) (ys.take s.length) = some r1 ∧ eqCells s2 (xs.drop s.length) (ys.drop s.length) = some r2 ∧ r = (r1 && r2)
  | [], s2, xs, ys, r, h => ⟨true, r, by simp [eqCells], by simpa using h, by simp⟩
  | l :: s, s2, xs, ys, r, h => by
    obtain ⟨x, xs, y, ys, q, c, rfl, rfl, hq, rfl, hl⟩ := eqCells_cons h
    obtain ⟨r1, r2, h1, h2, rfl⟩ := eqCells_append s hq
    exact ⟨c && r1, r2, by simpa using eqCells_mk hl h1, by simpa using h2, by simp [Bool.and_assoc]⟩

/-- A part of an aggregate, in the model. -/
theorem run_part_val {t : TypeId} {g : Bool} {n : Nat} (hg : aggOf P t = some g) (hn : sizeOf? P t = some n) (cs : Array Value) (off : Nat) (hl : g = false → off + n ≤ cs.size) (h1 : g = false → n = 1) (w : World) :
    ∃ v, (part t cs off).run P w = .ok v w ∧ Val P t ((cs.toList.drop off).take n) v := by
  unfold aggOf at hg
  cases hu : P.underlying t with
  | none => simp [hu] at hg
  | some d =>
    have hs := run_size hn
    cases g with
    | true =>
      refine ⟨.agg ((cs.toList.drop off).take n).toArray, ?_, .inl ⟨by simpa [aggOf] using hg, rfl⟩⟩
      have e : cs.extract off (off + n) = ((cs.toList.drop off).take n).toArray := by
        apply Array.ext'
        simp [Array.toList_extract, List.extract]
      cases d <;> simp [hu] at hg <;> simp [part, isAgg, run_underlying hu, hs, e]
    | false =>
      have hn1 := h1 rfl
      subst hn1
      have hlt : off < cs.size := by have := hl rfl; omega
      refine ⟨cs[off], ?_, .inr ⟨by simpa [aggOf] using hg, ?_⟩⟩
      · cases d <;> simp [hu] at hg <;> simp [part, isAgg, run_underlying hu, hlt]
      · apply List.ext_getElem?
        intro j
        cases j with
        | zero => simp [List.getElem?_drop, hlt]
        | succ j => simp [List.getElem?_take]

theorem shape_agg {d : Nat} {t : TypeId} {s : List Leaf} (h : shape P d t = some s) : ∃ g, aggOf P t = some g ∧ (g = false → s.length = 1) := by
  cases d with
  | zero => cases h
  | succ d =>
    simp only [shape] at h
    split at h
    all_goals (try rename_i hu)
    · split at h <;> cases h; exact ⟨false, by simp [aggOf, hu], fun _ => rfl⟩
    · split at h <;> cases h; exact ⟨false, by simp [aggOf, hu], fun _ => rfl⟩
    · split at h <;> cases h; exact ⟨false, by simp [aggOf, hu], fun _ => rfl⟩
    · exact ⟨true, by simp [aggOf, hu], fun e => by cases e⟩
    · exact ⟨true, by simp [aggOf, hu], fun e => by cases e⟩
    · cases h

/-- '==' at depth D, on values of a type. -/
def EqOk (P : Program) (φ : Phi) (t : TypeId) (s : List Leaf) (D : Nat) : Prop :=
  ∀ (xs ys : List AV) (vs us : List Value) (r : Bool) (v u : Value), eqCells s xs ys = some r → VRL φ xs vs → VRL φ ys us → Val P t vs v → Val P t us u →
    ∀ w, (Op.equalIn D t v u).run P w = .ok r w

theorem eqFields_ok {D : Nat} {sh : TypeId → Option (List Leaf)} (ih : ∀ t s, sh t = some s → EqOk P φ t s D ∧ sizeOf? P t = some s.length ∧ ∃ g, aggOf P t = some g ∧ (g = false → s.length = 1))
    (vs us : Array Value) (XS YS : List AV) (hv : VRL φ XS vs.toList) (hu : VRL φ YS us.toList) :
    ∀ (fs : List Field) (off : Nat) (s : List Leaf) (r : Bool), shapeFs sh fs off = some s → eqCells s (XS.drop off) (YS.drop off) = some r → ∀ w, (Op.eqFields D vs us fs).run P w = .ok r w
  | [], off, s, r, h, he, w => by
    simp only [shapeFs, Option.some.injEq] at h
    subst h
    have : r = true := by
      have hl := eqCells_len _ he
      generalize XS.drop off = A at *
      generalize YS.drop off = B at *
      cases A with
      | nil => cases B with
        | nil => simpa [eqCells] using he.symm
        | cons _ _ => simp at hl
      | cons _ _ => simp at hl
    simp [Op.eqFields, this]
  | f :: fs, off, s, r, h, he, w => by
    simp only [shapeFs] at h
    split at h
    · rename_i hf
      split at h
      · rename_i s1 hs1
        simp only [Option.map_eq_some_iff] at h
        obtain ⟨s2, hs2, rfl⟩ := h
        obtain ⟨r1, r2, h1, h2, rfl⟩ := eqCells_append s1 he
        obtain ⟨hok, hsz, g, hg, hg1⟩ := ih _ _ hs1
        have hl1 := eqCells_len _ h1
        have hb1 : g = false → off + s1.length ≤ vs.size := by
          intro hg0
          have h4 := hg1 hg0
          have := hv.1
          have h3 := hl1.1
          rw [List.length_take, List.length_drop] at h3
          have hq : vs.toList.length = vs.size := Array.length_toList
          omega
        have hb2 : g = false → off + s1.length ≤ us.size := by
          intro hg0
          have h4 := hg1 hg0
          have := hu.1
          have h3 := hl1.2
          rw [List.length_take, List.length_drop] at h3
          have hq : us.toList.length = us.size := Array.length_toList
          omega
        obtain ⟨a, p1, va⟩ := run_part_val hg hsz vs off hb1 hg1 w
        obtain ⟨b, p2, vb⟩ := run_part_val hg hsz us off hb2 hg1 w
        have p3 := hok _ _ _ _ r1 a b h1 ((hv.drop off).take _) ((hu.drop off).take _) va vb w
        rw [List.drop_drop, List.drop_drop] at h2
        have p4 := eqFields_ok ih vs us XS YS hv hu fs (off + s1.length) s2 r2 hs2 h2 w
        simp only [Op.eqFields, hf.1, hf.2, ne_eq, not_false_eq_true, if_true, Sem.run_bind, p1, p2, p3, Result.andThen_ok]
        cases r1
        · simp
        · simpa using p4
      · cases h
    · cases h

theorem eqItems_ok {D : Nat} {e : TypeId} {s : List Leaf} (hok : EqOk P φ e s D) (hsz : sizeOf? P e = some s.length) (hg : ∃ g, aggOf P e = some g ∧ (g = false → s.length = 1))
    (vs us : Array Value) (XS YS : List AV) (hv : VRL φ XS vs.toList) (hu : VRL φ YS us.toList) :
    ∀ (k i : Nat) (r : Bool), eqCells (List.replicate k s).flatten (XS.drop (i * s.length)) (YS.drop (i * s.length)) = some r → ∀ w, (Op.eqItems D e (P.cellsOf e) vs us (List.range' i k)).run P w = .ok r w
  | 0, i, r, he, w => by
    have : r = true := by
      have hl := eqCells_len _ he
      simp only [List.replicate_zero, List.flatten_nil] at he hl
      generalize XS.drop _ = A at *
      generalize YS.drop _ = B at *
      cases A with
      | nil => cases B with
        | nil => simpa [eqCells] using he.symm
        | cons _ _ => simp at hl
      | cons _ _ => simp at hl
    simp [Op.eqItems, this]
  | k + 1, i, r, he, w => by
    rw [List.replicate_succ, List.flatten_cons] at he
    obtain ⟨r1, r2, h1, h2, rfl⟩ := eqCells_append s he
    obtain ⟨g, hg, hg1⟩ := hg
    have hl1 := eqCells_len _ h1
    have hb1 : g = false → i * s.length + s.length ≤ vs.size := by
      intro hg0
      have h4 := hg1 hg0
      have := hv.1
      have h3 := hl1.1
      rw [List.length_take, List.length_drop] at h3
      have hq : vs.toList.length = vs.size := Array.length_toList
      omega
    have hb2 : g = false → i * s.length + s.length ≤ us.size := by
      intro hg0
      have h4 := hg1 hg0
      have := hu.1
      have h3 := hl1.2
      rw [List.length_take, List.length_drop] at h3
      have hq : us.toList.length = us.size := Array.length_toList
      omega
    obtain ⟨a, p1, va⟩ := run_part_val hg hsz vs _ hb1 hg1 w
    obtain ⟨b, p2, vb⟩ := run_part_val hg hsz us _ hb2 hg1 w
    have p3 := hok _ _ _ _ r1 a b h1 ((hv.drop _).take _) ((hu.drop _).take _) va vb w
    rw [List.drop_drop, List.drop_drop, ← Nat.succ_mul] at h2
    have p4 := eqItems_ok hok hsz ⟨g, hg, hg1⟩ vs us XS YS hv hu k (i + 1) r2 h2 w
    rw [List.range'_succ]
    simp only [Op.eqItems, Sem.run_bind, cells_size hsz, p1, p2, p3, Result.andThen_ok]
    rw [cells_size hsz] at p4
    cases r1
    · simp
    · simpa using p4

theorem eqIn_ok (d : Nat) : ∀ (t : TypeId) (s : List Leaf), shape P d t = some s → ∀ D, d ≤ D → EqOk P φ t s D := by
  induction d with
  | zero => intro t s h; cases h
  | succ d ih =>
    intro t s h D hD
    have hag := shape_agg h
    have hsz := shape_size h
    obtain ⟨D, rfl⟩ : ∃ D', D = D' + 1 := ⟨D - 1, by omega⟩
    intro xs ys vs us r v u he hv hu v1 u1 w
    simp only [shape] at h
    split at h
    · rename_i hun
      split at h <;> cases h
      have hl := eqCells_len _ he
      rcases v1 with ⟨a, _⟩ | ⟨_, rfl⟩
      · simp [aggOf, hun] at a
      · rcases u1 with ⟨a, _⟩ | ⟨_, rfl⟩
        · simp [aggOf, hun] at a
        · obtain ⟨x, xs, y, ys, q, c, rfl, rfl, hq, rfl, a, b, rfl, rfl, rfl⟩ := eqCells_cons he
          obtain ⟨rfl, rfl, rfl⟩ := eqCells_nil hq
          have h1 := hv.head; have h2 := hu.head
          cases h1; cases h2
          simpa using run_equalIn_bool w D t _ _ hun
    · rename_i k hun
      split at h <;> cases h
      have hl := eqCells_len _ he
      rcases v1 with ⟨a, _⟩ | ⟨_, rfl⟩
      · simp [aggOf, hun] at a
      · rcases u1 with ⟨a, _⟩ | ⟨_, rfl⟩
        · simp [aggOf, hun] at a
        · obtain ⟨x, xs, y, ys, q, c, rfl, rfl, hq, rfl, k', a, b, rfl, rfl, rfl⟩ := eqCells_cons he
          obtain ⟨rfl, rfl, rfl⟩ := eqCells_nil hq
          have h1 := hv.head; have h2 := hu.head
          cases h1; cases h2
          simpa using run_equalIn_int w D t _ _ _ _ hun
    · rename_i hun
      split at h <;> cases h
      have hl := eqCells_len _ he
      rcases v1 with ⟨a, _⟩ | ⟨_, rfl⟩
      · simp [aggOf, hun] at a
      · rcases u1 with ⟨a, _⟩ | ⟨_, rfl⟩
        · simp [aggOf, hun] at a
        · obtain ⟨x, xs, y, ys, q, c, rfl, rfl, hq, rfl, a, b, rfl, rfl, rfl⟩ := eqCells_cons he
          obtain ⟨rfl, rfl, rfl⟩ := eqCells_nil hq
          have h1 := hv.head; have h2 := hu.head
          cases h1; cases h2
          simpa using run_equalIn_string w D t _ _ hun
    · rename_i fs hun
      split at h
      · cases h
      · rename_i hst
        split at h
        · rename_i s' hs'
          split at h
          · cases h
            rcases v1 with ⟨_, rfl⟩ | ⟨a, _⟩
            · rcases u1 with ⟨_, rfl⟩ | ⟨a, _⟩
              · have hfs : P.fieldsOf t = fs := by simp [Program.fieldsOf, hun]
                rw [run_equalIn_struct w D t _ _ (by rw [hfs]; exact hun) (by simpa using hst), hfs]
                exact eqFields_ok (sh := shape P d) (fun t s h => ⟨ih t s h D (by omega), shape_size h, shape_agg h⟩) vs.toArray us.toArray xs ys (by simpa using hv) (by simpa using hu) _ 0 _ r hs' (by simpa using he) w
              · simp [aggOf, hun] at a
            · simp [aggOf, hun] at a
          · cases h
        · cases h
    · rename_i n e hun
      split at h
      · rename_i s' hs'
        split at h
        · rename_i hsz2
          cases h
          rcases v1 with ⟨_, rfl⟩ | ⟨a, _⟩
          · rcases u1 with ⟨_, rfl⟩ | ⟨a, _⟩
            · obtain ⟨i, hi, _⟩ := size_info hsz2.1
              rw [run_equalIn_array w D _ _ hun hi, List.range_eq_range']
              exact eqItems_ok (ih _ _ hs' D (by omega)) (shape_size hs') (shape_agg hs') vs.toArray us.toArray xs ys (by simpa using hv) (by simpa using hu) n 0 r (by simpa using he) w
            · simp [aggOf, hun] at a
          · simp [aggOf, hun] at a
        · cases h
      · cases h
    · cases h
end
end Go.Oct
end
/- The operations that only compute: each one's theorem. -/
section
set_option linter.unusedVariables false
set_option linter.unusedSimpArgs false
set_option linter.unusedSectionVars false
namespace Go.Oct
variable [Gl]
open Go.RowKit

section
variable {P : Program} {φ : Phi} {ρ : Opd → AV} {ρc : Operand → Value}

theorem OpdR.opt (hρ : OpdR φ ρ ρc) {x : Option Operand} {y : Option Opd} (h : compOpt x = some y) :
    (x = none ∧ y = none) ∨ ∃ a b, x = some a ∧ y = some b ∧ VR φ (ρ b) (ρc a) := by
  cases x with
  | none => simp only [compOpt, Option.some.injEq] at h; exact .inl ⟨rfl, h.symm⟩
  | some a =>
    simp only [compOpt, Option.map_eq_some_iff] at h
    obtain ⟨b, hb, rfl⟩ := h
    exact .inr ⟨a, b, rfl, rfl, hρ.rel _ _ hb⟩

/-- What an operation of its own yields. -/
def Yields (P : Program) (φ : Phi) (s : Sem Value) (v : AV) : Prop := ∀ w, ∃ v', s.run P w = .ok v' w ∧ VR φ v v'
theorem Yields.pure {v : AV} {v' : Value} (h : VR φ v v') : Yields P φ (Pure.pure v') v := fun w => ⟨v', by simp, h⟩

theorem y_eqB {t : TypeId} {neg : Bool} {a b : Bool} (hu : P.underlying t = some .bool) (ox oy : Operand) :
    Yields P φ (do eqGuard (if neg then .neq else .eql) t ox oy (.bool a) (.bool b); binOp (if neg then .neq else .eql) t (.bool a) (.bool b)) (.bool (if neg then !(a == b) else (a == b))) := by
  intro w
  cases neg
  · exact ⟨_, by simp [eqGuard, run_eql_bool _ _ _ _ hu], .bool _⟩
  · exact ⟨_, by simp [eqGuard, run_neq_bool _ _ _ _ hu], .bool _⟩

theorem y_eqA {t : TypeId} {neg : Bool} {sh : List Leaf} {xs ys : List AV} {a b : Value} {r : Bool} (hag : aggOf P t = some true) (hs : shape P 20 t = some sh) (hg : P.eqGuardType P.depth t = false)
    (hx : VR φ (.agg xs) a) (hy : VR φ (.agg ys) b) (he : eqCells sh xs ys = some r) (ox oy : Operand) :
    Yields P φ (do eqGuard (if neg then .neq else .eql) t ox oy a b; binOp (if neg then .neq else .eql) t a b) (.bool (if neg then !r else r)) := by
  intro w
  cases hx with
  | agg _ vs h1 h2 =>
    cases hy with
    | agg _ us h3 h4 =>
      have h5 := eqIn_ok (P := P) (φ := φ) 20 t sh hs 10000 (by omega) xs ys vs.toList us.toList r (.agg vs) (.agg us) he (VRL.of_array h1 h2) (VRL.of_array h3 h4) (.inl ⟨hag, by simp⟩) (.inl ⟨hag, by simp⟩) w
      cases neg
      · exact ⟨_, by simp [run_eqGuard_agg _ _ _ _ _ _ _ hg, run_eql_struct, h5], .bool _⟩
      · exact ⟨_, by simp [run_eqGuard_agg _ _ _ _ _ _ _ hg, run_neq_struct, h5], .bool _⟩

def nilOf : NilK → Value
  | .slice => .slice none 0 0
  | .map => .map none
  | .ptr => .pointer none
  | .func => .nilFunc
  | .iface => .nilIface
theorem isNilOp_eq {k : NilK} {y : Operand} (h : isNilOp k y = true) : y = .const (nilOf k) := by
  unfold isNilOp at h
  split at h <;> first | rfl | cases h
theorem run_equalIn_nil {k : NilK} {t : TypeId} {d : TypeDesc} (hu : P.underlying t = some d) (hk : nilKind d = some k) {x : AV} {a : Value} {r : Bool} (hx : VR φ x a) (he : isNil k x = some r)
    (D : Nat) (w : World) : (Op.equalIn (D + 1) t a (nilOf k)).run P w = .ok r w := by
  unfold Op.equalIn
  simp only [Sem.run_bind, run_underlying hu, Result.andThen_ok]
  cases d <;> simp only [nilKind, reduceCtorEq, Option.some.injEq] at hk <;> subst hk <;> cases x <;> simp only [isNil, reduceCtorEq, Option.some.injEq] at he <;> subst he
  all_goals (cases hx)
  all_goals rfl
theorem y_eqN {k : NilK} {t : TypeId} {neg : Bool} {d : TypeDesc} (hu : P.underlying t = some d) (hk : nilKind d = some k) {x : AV} {a : Value} {r : Bool} (hx : VR φ x a) (he : isNil k x = some r) (ox : Operand) :
    Yields P φ (do eqGuard (if neg then .neq else .eql) t ox (.const (nilOf k)) a (nilOf k); binOp (if neg then .neq else .eql) t a (nilOf k)) (.bool (if neg then !r else r)) := by
  intro w
  have h := run_equalIn_nil (P := P) hu hk hx he 9999 w
  have h' : (Op.equal t a (nilOf k)).run P w = .ok r w := h
  have hg : ∀ op, (eqGuard op t ox (.const (nilOf k)) a (nilOf k)) = Pure.pure () := by
    intro op
    cases op <;> cases k <;> cases x <;> simp only [isNil, reduceCtorEq] at he <;> cases hx <;> simp [eqGuard, nilOf]
  have hb : ∀ (q : Bool), binOp (if q then .neq else .eql) t a (nilOf k) = (Op.equal t a (nilOf k) >>= fun b => Pure.pure (.bool (if q then !b else b))) := by
    intro q
    cases q <;> cases k <;> cases x <;> simp only [isNil, reduceCtorEq] at he <;> cases hx <;> rfl
  refine ⟨.bool (if neg then !r else r), ?_, .bool _⟩
  simp only [hg, Sem.run_bind, Sem.run_pure, Result.andThen_ok, hb]
  cases neg <;> simp [h']

theorem y_un {op : UnOp} {x v : AV} {a : Value} (hx : VR φ x a) (h : aun op x = some v) : Yields P φ (Op.unary op a) v := by
  intro w
  cases x <;> simp only [aun, reduceCtorEq] at h
  · cases hx
    cases op <;> simp only [reduceCtorEq, Option.some.injEq] at h <;> subst h
    · rename_i k n
      exact ⟨.int k (k.wrap (0 - n)), by simp [Op.unary, Op.intArith], by rw [wr_eq]; exact .int _ _⟩
    · exact ⟨_, by simp only [Op.unary, Op.intBits, Sem.run_pure], .int _ _⟩
  · cases hx
    cases op <;> simp only [reduceCtorEq, Option.some.injEq] at h <;> subst h
    exact ⟨_, by simp [Op.unary], .bool _⟩

theorem y_conv {src dst : TypeId} {j k : IntKind} (hs : P.underlying src = some (.int j)) (hd : P.underlying dst = some (.int k)) {q : IntKind} {n : Int} :
    Yields P φ (convert src dst (.int q n)) (.int k (wr k n)) := fun w =>
  ⟨.int k (k.wrap n), by simp [convert, run_underlying hs, run_underlying hd, Conv.intToInt], by rw [wr_eq]; exact .int _ _⟩

/-- A part of an aggregate. -/
theorem y_part {t : TypeId} {g : Bool} {n off : Nat} (hg : aggOf P t = some g) (hn : sizeOf? P t = some n) {cs : List AV} {vs : Array Value} (hs : VRL φ cs vs.toList) {v : AV} (h : partV g n cs off = some v) :
    Yields P φ (part t vs off) v := by
  intro w
  unfold aggOf at hg
  cases hu : P.underlying t with
  | none => simp [hu] at hg
  | some d =>
    have hz := run_size hn w
    cases g with
    | true =>
      simp only [partV, if_true, Option.some.injEq] at h
      subst h
      refine ⟨.agg (vs.extract off (off + n)), ?_, ?_⟩
      · cases d <;> simp [hu] at hg <;> simp [part, isAgg, run_underlying hu, hz]
      · have e : vs.extract off (off + n) = ((vs.toList.drop off).take n).toArray := by
          apply Array.ext'
          simp [Array.toList_extract, List.extract]
        rw [e]
        exact ((hs.drop off).take n).agg
    | false =>
      simp only [partV, Bool.false_eq_true, if_false] at h
      obtain ⟨v', hv', hr⟩ := hs.get? h
      have hv2 : vs[off]? = some v' := by simpa using hv'
      refine ⟨v', ?_, hr⟩
      cases d <;> simp [hu] at hg <;> simp [part, isAgg, run_underlying hu, hv2]

theorem y_field {t : TypeId} {fs : Array Field} {f : Nat} {fd : Field} {g : Bool} {n : Nat} (hu : P.underlying t = some (.struct fs)) (hf : fs[f]? = some fd) (hg : aggOf P fd.type = some g) (hn : sizeOf? P fd.type = some n)
    {cs : List AV} {vs : Array Value} (hs : VRL φ cs vs.toList) {v : AV} (h : partV g n cs fd.offset = some v) : Yields P φ (Instr.field t (.agg vs) f) v := by
  intro w
  obtain ⟨v', h1, h2⟩ := y_part hg hn hs h w
  exact ⟨v', by simp [Instr.field, run_underlying hu, hf, asAgg, h1], h2⟩

theorem y_indexA {t e : TypeId} {n z : Nat} {g : Bool} (hu : P.underlying t = some (.array n e)) (hg : aggOf P e = some g) (hn : sizeOf? P e = some z) {k : IntKind} {i : Int} (h0 : 0 ≤ i) (h1 : i < (n : Int))
    {cs : List AV} {vs : Array Value} (hs : VRL φ cs vs.toList) {v : AV} (h : partV g z cs (i.toNat * z) = some v) : Yields P φ (Instr.index t (.agg vs) (.int k i)) v := by
  intro w
  obtain ⟨v', h2, h3⟩ := y_part hg hn hs h w
  exact ⟨v', by simp [Instr.index, asIntOf, run_underlying hu, h0, h1, run_size hn, h2], h3⟩

theorem y_indexS {t : TypeId} (hu : P.underlying t = some .string) {k : IntKind} {i : Int} (h0 : 0 ≤ i) {s : ByteArray} {b : UInt8} (h : s[i.toNat]? = some b) : Yields P φ (Instr.index t (.string s) (.int k i)) (.int .u8 b.toNat) := by
  intro w
  exact ⟨_, by simp [Instr.index, asIntOf, run_underlying hu, h0, h], .int _ _⟩

theorem addr_add (b o n : Nat) : (⟨b, o, none⟩ : Addr).add n = ⟨b, o + n, none⟩ := Addr.add_lit b o n

theorem y_fieldAddr {t : TypeId} {fs : Array Field} {f n : Nat} {fd : Field} (hu : P.underlying t = some (.struct fs)) (hf : fs[f]? = some fd) (hn : sizeOf? P fd.type = some n) (h0 : n ≠ 0) {i o : Nat} {a : Value}
    (hx : VR φ (.ptr (some (i, o))) a) : Yields P φ (Instr.fieldAt t a f) (.ptr (some (i, o + fd.offset))) := by
  intro w
  cases hx with
  | ptr _ _ pl h =>
    refine ⟨.pointer (some ⟨pl.b, pl.o + (o + fd.offset), none⟩), ?_, .ptr _ _ pl h⟩
    simp [Instr.fieldAt, run_underlying hu, hf, Instr.sureAddr, fieldPlace, run_size hn, h0, addr_add, Nat.add_assoc]

theorem y_indexAddrS {t e : TypeId} {z : Nat} (hu : P.underlying t = some (.slice e)) (hn : sizeOf? P e = some z) {id o len : Nat} {cap : ACap} {a : Value} (hx : VR φ (.slice (some (id, o)) len cap) a) {k : IntKind} {i : Int}
    (h0 : 0 ≤ i) (h1 : i < (len : Int)) : Yields P φ (Instr.indexAt t a (.int k i)) (.ptr (some (id, o + i.toNat * z))) := by
  intro w
  have main : ∀ (pl : Place) (c : Nat) (ad : Addr), φ id = some pl → (c ≠ 0 → ad = ⟨pl.b, pl.o + o, none⟩) → len ≤ c → a = .slice (some ad) len c →
      ∃ v', (Instr.indexAt t a (.int k i)).run P w = .ok v' w ∧ VR φ (.ptr (some (id, o + i.toNat * z))) v' := by
    rintro pl c ad hp ha hl rfl
    have hc : c ≠ 0 := by omega
    rw [ha hc]
    refine ⟨.pointer (some ⟨pl.b, pl.o + (o + i.toNat * z), none⟩), ?_, .ptr _ _ pl hp⟩
    simp [Instr.indexAt, asIntOf, run_underlying hu, h0, h1, run_size hn, addr_add, Nat.add_assoc]
  cases hx with
  | sliceX _ _ pl _ c ad h hb ha hl => exact main pl c ad h ha hl rfl
  | sliceO _ _ pl _ _ c ad h hb ha hl _ => exact main pl c ad h ha hl rfl

theorem y_indexAddrA {t e : TypeId} {n z : Nat} (hu : P.underlying t = some (.array n e)) (hn : sizeOf? P e = some z) {id o : Nat} {a : Value} (hx : VR φ (.ptr (some (id, o))) a) {k : IntKind} {i : Int}
    (h0 : 0 ≤ i) (h1 : i < (n : Int)) : Yields P φ (Instr.indexAt t a (.int k i)) (.ptr (some (id, o + i.toNat * z))) := by
  intro w
  cases hx with
  | ptr _ _ pl h =>
    refine ⟨.pointer (some ⟨pl.b, pl.o + (o + i.toNat * z), none⟩), ?_, .ptr _ _ pl h⟩
    simp [Instr.indexAt, asIntOf, run_underlying hu, Instr.sureAddr, h0, h1, run_size hn, addr_add, Nat.add_assoc]

theorem y_len {t ty : TypeId} {e : TypeId} (hu : P.underlying t = some (.slice e)) {a : Option (Nat × Nat)} {n : Nat} {c : ACap} {v : Value} (hx : VR φ (.slice a n c) v) : Yields P φ (Builtin.len_ #[t] ty #[v]) (.int .i64 n) := by
  intro w
  refine ⟨.int .i64 n, ?_, .int _ _⟩
  cases hx <;> simp [Builtin.len_, run_underlying hu, goInt]
theorem y_lenT {t ty : TypeId} (hu : P.underlying t = some .string) {s : ByteArray} : Yields P φ (Builtin.len_ #[t] ty #[.string s]) (.int .i64 s.size) := by
  intro w
  exact ⟨.int .i64 s.size, by simp [Builtin.len_, run_underlying hu, goInt], .int _ _⟩
theorem y_lenA {t ty e : TypeId} {n : Nat} (hu : P.underlying t = some (.array n e)) (x : Value) : Yields P φ (Builtin.len_ #[t] ty #[x]) (.int .i64 n) := by
  intro w
  exact ⟨.int .i64 n, by simp [Builtin.len_, run_underlying hu, goInt], .int _ _⟩
theorem y_lenP {t ty arr e : TypeId} {n : Nat} (hu : P.underlying t = some (.pointer arr)) (ha : P.underlying arr = some (.array n e)) (x : Value) : Yields P φ (Builtin.len_ #[t] ty #[x]) (.int .i64 n) := by
  intro w
  exact ⟨.int .i64 n, by simp [Builtin.len_, run_underlying hu, run_underlying ha, goInt], .int _ _⟩

theorem y_fold {f : AV → AV → Option AV} {g : Value → Value → Sem Value} (hf : ∀ x y v a b, f x y = some v → VR φ x a → VR φ y b → Yields P φ (g a b) v) :
    ∀ (ys : List AV) (us : List Value) (x v : AV) (a : Value), foldAV f x ys = some v → VR φ x a → VRL φ ys us → Yields P φ (us.foldlM g a) v
  | [], us, x, v, a, h, hx, hs => by
    simp only [foldAV, Option.some.injEq] at h
    subst h
    have : us = [] := by simpa using hs.1.symm
    subst this
    intro w
    exact ⟨a, by simp, hx⟩
  | y :: ys, us, x, v, a, h, hx, hs => by
    simp only [foldAV] at h
    cases us with
    | nil => exact absurd hs.1 (by simp)
    | cons u us =>
      split at h
      · rename_i z hz
        intro w
        obtain ⟨v1, h1, h2⟩ := hf _ _ _ _ _ hz hx hs.head w
        obtain ⟨v2, h3, h4⟩ := y_fold hf ys us z v v1 h h2 hs.tail w
        exact ⟨v2, by simp [List.foldlM_cons, h1, h3], h4⟩
      · cases h
theorem y_min {ts : Array TypeId} {ty : TypeId} {x v : AV} {a : Value} {ys : List AV} {us : List Value} (h : foldAV amin x ys = some v) (hx : VR φ x a) (hs : VRL φ ys us) : Yields P φ (Builtin.min_ ts ty (a :: us).toArray) v := by
  intro w
  obtain ⟨v', h1, h2⟩ := y_fold (P := P) (g := Builtin.min2) (fun x y v a b h hx hy w => by
    cases x <;> cases y <;> simp only [amin, reduceCtorEq, Option.some.injEq] at h
    subst h
    cases hx; cases hy
    exact ⟨_, by simp [Builtin.min2], .int _ _⟩) ys us x v a h hx hs w
  exact ⟨v', by simpa [Builtin.min_] using h1, h2⟩
theorem y_max {ts : Array TypeId} {ty : TypeId} {x v : AV} {a : Value} {ys : List AV} {us : List Value} (h : foldAV amax x ys = some v) (hx : VR φ x a) (hs : VRL φ ys us) : Yields P φ (Builtin.max_ ts ty (a :: us).toArray) v := by
  intro w
  obtain ⟨v', h1, h2⟩ := y_fold (P := P) (g := Builtin.max2) (fun x y v a b h hx hy w => by
    cases x <;> cases y <;> simp only [amax, reduceCtorEq, Option.some.injEq] at h
    subst h
    cases hx; cases hy
    exact ⟨_, by simp [Builtin.max2], .int _ _⟩) ys us x v a h hx hs w
  exact ⟨v', by simpa [Builtin.max_] using h1, h2⟩

/-- The bounds of a slice expression. -/
theorem run_bound {x : AV} {a : Value} {top d n top' : Nat} (hx : VR φ x a) (h : abound top d (some x) = some n) (ht : top ≤ top') (code : BoundsCode) (w : World) : (Instr.sliceBound a top' code).run P w = .ok n w ∧ n ≤ top := by
  cases x <;> simp only [abound, reduceCtorEq] at h
  split at h
  · rename_i hi
    cases h
    cases hx
    refine ⟨?_, by omega⟩
    rw [Instr.sliceBound]
    simp only [asIntOf, Sem.run_bind, Sem.run_pure, Result.andThen_ok]
    rw [if_pos ⟨hi.1, by omega⟩]
    simp
  · cases h
theorem run_bounds {lo hi mx : Option Opd} {lo' hi' mx' : Option Operand} (hρ : OpdR φ ρ ρc) (h1 : compOpt lo' = some lo) (h2 : compOpt hi' = some hi) (h3 : compOpt mx' = some mx) {top len cap l h : Nat} {m : Option Nat}
    (hb : abounds top len (lo.map ρ) (hi.map ρ) (mx.map ρ) = some (l, h, m)) (ht : top ≤ cap) (hl : len ≤ cap) (isSlice : Bool) (w : World) :
    (Instr.sliceBounds isSlice len cap (lo'.map ρc) (hi'.map ρc) (mx'.map ρc)).run P w = .ok (l, h, m.getD cap) w ∧ l ≤ h ∧ h ≤ m.getD cap ∧ (∀ k, m = some k → k ≤ cap) ∧ (m = none → h ≤ max top len) := by
  have low : ∀ {l h : Nat} (code : BoundsCode), abound h 0 (lo.map ρ) = some l →
      ((match lo'.map ρc with | some v => Instr.sliceBound v h code | none => pure 0 : Sem Nat)).run P w = .ok l w ∧ l ≤ h := by
    intro l h code e
    rcases hρ.opt h1 with ⟨rfl, rfl⟩ | ⟨a, b, rfl, rfl, hr⟩
    · simp only [Option.map_none, abound, Option.some.injEq] at e
      subst e
      exact ⟨by simp, Nat.zero_le _⟩
    · exact run_bound hr e (Nat.le_refl _) code w
  rcases hρ.opt h3 with ⟨rfl, rfl⟩ | ⟨am, bm, rfl, rfl, hm⟩
  · simp only [Option.map_none, abounds] at hb
    split at hb
    · rename_i hh hhe
      obtain ⟨l', hl', e⟩ := Option.map_eq_some_iff.1 hb
      simp only [Prod.mk.injEq] at e
      obtain ⟨rfl, rfl, rfl⟩ := e
      obtain ⟨r1, r2⟩ := low .sliceB hl'
      rcases hρ.opt h2 with ⟨rfl, rfl⟩ | ⟨ah, bh, rfl, rfl, hr⟩
      · simp only [Option.map_none, abound, Option.some.injEq] at hhe
        subst hhe
        refine ⟨?_, r2, by simpa using hl, by simp, by simp; omega⟩
        simp only [Instr.sliceBounds, Option.map_none, Sem.run_bind, Sem.run_pure, Result.andThen_ok]
        generalize Option.map ρc lo' = q at r1 ⊢
        cases q with
        | none => simp at r1 ⊢; exact r1
        | some v => simp at r1 ⊢; simp [r1]
      · obtain ⟨r3, r4⟩ := run_bound (P := P) hr hhe ht (if isSlice then .sliceAcap else .sliceAlen) w
        refine ⟨?_, r2, by simp; omega, by simp, by simp; omega⟩
        simp only [Instr.sliceBounds, Option.map_none, Option.map_some, Sem.run_bind, Sem.run_pure, Result.andThen_ok, r3]
        generalize Option.map ρc lo' = q at r1 ⊢
        cases q with
        | none => simp at r1 ⊢; exact r1
        | some v => simp at r1 ⊢; simp [r1]
    · cases hb
  · simp only [Option.map_some, abounds] at hb
    split at hb
    · rename_i m' hme
      split at hb
      · cases hb
      · rename_i hv hhv
        split at hb
        · rename_i h' hhe
          obtain ⟨l', hl', e⟩ := Option.map_eq_some_iff.1 hb
          simp only [Prod.mk.injEq] at e
          obtain ⟨rfl, rfl, rfl⟩ := e
          obtain ⟨r1, r2⟩ := low .slice3C hl'
          obtain ⟨r5, r6⟩ := run_bound (P := P) hm hme ht (if isSlice then .slice3Acap else .slice3Alen) w
          rcases hρ.opt h2 with ⟨rfl, rfl⟩ | ⟨ah, bh, rfl, rfl, hr⟩
          · simp at hhv
          · simp only [Option.map_some, Option.some.injEq] at hhv
            subst hhv
            obtain ⟨r3, r4⟩ := run_bound (P := P) hr hhe (Nat.le_refl _) .slice3B w
            refine ⟨?_, r2, by simpa using r4, by simp; omega, by simp⟩
            simp only [Instr.sliceBounds, Option.map_some, Sem.run_bind, Result.andThen_ok, r5, r3]
            generalize Option.map ρc lo' = q at r1 ⊢
            cases q with
            | none => simp at r1 ⊢; exact r1
            | some v => simp at r1 ⊢; simp [r1]
        · cases hb
    · cases hb

theorem ACap.sure_le {φ : Phi} {a : Option (Nat × Nat)} {len : Nat} {cap : ACap} {v : Value} (h : VR φ (.slice a len cap) v) : ∃ ad c, v = .slice ad len c ∧ cap.sure len ≤ c ∧ len ≤ c := by
  cases h with
  | sliceN => exact ⟨_, _, rfl, Nat.le_refl _, Nat.le_refl _⟩
  | sliceX _ _ _ _ _ _ _ _ _ hl => exact ⟨_, _, rfl, Nat.le_refl _, hl⟩
  | sliceO _ _ _ _ _ _ _ _ _ _ hl _ => exact ⟨_, _, rfl, hl, hl⟩

/-- A slice of a slice. -/
theorem y_slS {t e : TypeId} {z : Nat} (hu : P.underlying t = some (.slice e)) (hn : sizeOf? P e = some z) {lo hi mx : Option Opd} {lo' hi' mx' : Option Operand} (hρ : OpdR φ ρ ρc)
    (h1 : compOpt lo' = some lo) (h2 : compOpt hi' = some hi) (h3 : compOpt mx' = some mx) {a : Option (Nat × Nat)} {len : Nat} {cap c : ACap} {v : Value} (hx : VR φ (.slice a len cap) v) {l h : Nat} {m : Option Nat}
    (hb : abounds (cap.sure len) len (lo.map ρ) (hi.map ρ) (mx.map ρ) = some (l, h, m)) (hc : cap.less z l m = some c) :
    Yields P φ (Instr.sliceAt t v (lo'.map ρc) (hi'.map ρc) (mx'.map ρc)) (.slice (a.map fun p => (p.1, p.2 + l * z)) (h - l) c) := by
  intro w
  have hz := run_size hn w
  have main : ∀ (ad : Option Addr) (cc : Nat), v = .slice ad len cc → cap.sure len ≤ cc → len ≤ cc →
      (Instr.sliceAt t v (lo'.map ρc) (hi'.map ρc) (mx'.map ρc)).run P w = .ok (.slice (if m.getD cc = l then ad else ad.map (·.add (l * z))) (h - l) (m.getD cc - l)) w ∧ l ≤ h ∧ h ≤ m.getD cc ∧ (∀ k, m = some k → k ≤ cc) := by
    rintro ad cc rfl hs hl
    obtain ⟨r1, r2, r3, r4, r5⟩ := run_bounds (P := P) hρ h1 h2 h3 hb hs hl true w
    refine ⟨?_, r2, r3, r4⟩
    simp [Instr.sliceAt, run_underlying hu, Instr.slice, r1, hz]
  cases hx with
  | sliceN =>
    obtain ⟨r1, r2, r3, r4⟩ := main none 0 rfl (Nat.le_refl _) (Nat.le_refl _)
    have hm0 : m.getD 0 = 0 := by cases m with | none => rfl | some k => simpa using r4 k rfl
    have hl0 : l = 0 := by omega
    have hh0 : h = 0 := by omega
    refine ⟨_, r1, ?_⟩
    simp only [hm0, hl0, hh0, Nat.sub_zero, if_true, Option.map_none]
    simp only [ACap.less, Option.some.injEq] at hc
    subst hc
    simp only [hm0, hl0, Nat.sub_zero]
    exact .sliceN
  | sliceX i o pl _ cc ad hp hbk ha hl =>
    obtain ⟨r1, r2, r3, r4⟩ := main (some ad) cc rfl (Nat.le_refl _) hl
    simp only [ACap.less, Option.some.injEq] at hc
    subst hc
    refine ⟨_, r1, ?_⟩
    have hmc : m.getD cc ≤ cc := by cases m with | none => exact Nat.le_refl _ | some k => exact r4 k rfl
    simp only [Option.map_some]
    split
    · exact .sliceX i (o + l * z) pl _ _ ad hp hbk (fun hne => by omega) (by omega)
    · rename_i hne
      have hc0 : cc ≠ 0 := by omega
      rw [ha hc0, addr_add]
      exact .sliceX i (o + l * z) pl _ _ _ hp rfl (fun _ => by rw [Nat.add_assoc]) (by omega)
  | sliceO i o pl _ z' cc ad hp hbk ha hl he =>
    obtain ⟨r1, r2, r3, r4⟩ := main (some ad) cc rfl hl hl
    have hmc : m.getD cc ≤ cc := by cases m with | none => exact Nat.le_refl _ | some k => exact r4 k rfl
    refine ⟨_, r1, ?_⟩
    simp only [Option.map_some]
    cases m with
    | some k =>
      simp only [ACap.less, Option.some.injEq] at hc
      subst hc
      simp only [Option.getD_some] at *
      split
      · exact .sliceX i (o + l * z) pl _ _ ad hp hbk (fun hne => by omega) (by omega)
      · rename_i hne
        have hc0 : cc ≠ 0 := by omega
        rw [ha hc0, addr_add]
        exact .sliceX i (o + l * z) pl _ _ _ hp rfl (fun _ => by rw [Nat.add_assoc]) (by omega)
    | none =>
      simp only [ACap.less] at hc
      split at hc
      · rename_i hzz
        simp only [Option.some.injEq] at hc
        subst hc
        subst hzz
        simp only [Option.getD_none] at *
        have hext : o + l * z + (cc - l) * z = pl.ext := by
          rw [← he, Nat.add_assoc, ← Nat.add_mul]
          congr 2
          omega
        split
        · exact .sliceO i (o + l * z) pl _ _ _ ad hp hbk (fun hne => by omega) (by omega) hext
        · rename_i hne
          have hc0 : cc ≠ 0 := by omega
          rw [ha hc0, addr_add]
          exact .sliceO i (o + l * z) pl _ _ _ _ hp rfl (fun _ => by rw [Nat.add_assoc]) (by omega) hext
      · cases hc

/-! ### What no one will write -/
theorem flatMap_drop {z : Nat} : ∀ (es : List AV) (i : Nat), (∀ e ∈ es, e.cells.length = z) → (es.flatMap AV.cells).drop (i * z) = (es.drop i).flatMap AV.cells
  | es, 0, h => by simp
  | [], i + 1, h => by simp
  | e :: es, i + 1, h => by
    have h1 := h e (List.mem_cons_self ..)
    rw [List.flatMap_cons, Nat.succ_mul, List.drop_succ_cons, Nat.add_comm, ← List.drop_drop, ← h1, List.drop_left, h1]
    exact flatMap_drop es i fun e he => h e (List.mem_cons_of_mem _ he)
theorem flatMap_take {z : Nat} : ∀ (es : List AV) (i : Nat), (∀ e ∈ es, e.cells.length = z) → (es.flatMap AV.cells).take (i * z) = (es.take i).flatMap AV.cells
  | es, 0, h => by simp
  | [], i + 1, h => by simp
  | e :: es, i + 1, h => by
    have h1 := h e (List.mem_cons_self ..)
    rw [List.flatMap_cons, Nat.succ_mul, List.take_succ_cons, Nat.add_comm, ← h1, List.take_length_add_append, h1, List.flatMap_cons]
    rw [flatMap_take es i fun e he => h e (List.mem_cons_of_mem _ he)]
theorem flatMap_length {z : Nat} : ∀ (es : List AV), (∀ e ∈ es, e.cells.length = z) → (es.flatMap AV.cells).length = es.length * z
  | [], h => by simp
  | e :: es, h => by
    rw [List.flatMap_cons, List.length_append, h e (List.mem_cons_self ..), flatMap_length es fun e he => h e (List.mem_cons_of_mem _ he), List.length_cons, Nat.succ_mul]
    omega

theorem y_fieldAddrV {t : TypeId} {fs : Array Field} {f n : Nat} {fd : Field} (hu : P.underlying t = some (.struct fs)) (hf : fs[f]? = some fd) (hn : sizeOf? P fd.type = some n) (h0 : n ≠ 0) {cs : List AV} {o : Nat} {a : Value}
    (hx : VR φ (.vptr cs o) a) : Yields P φ (Instr.fieldAt t a f) (.vptr cs (o + fd.offset)) := by
  intro w
  cases hx with
  | vptr _ _ b o0 h =>
    refine ⟨.pointer (some ⟨b, o0 + (o + fd.offset), none⟩), ?_, .vptr cs _ b o0 h⟩
    simp [Instr.fieldAt, run_underlying hu, hf, Instr.sureAddr, fieldPlace, run_size hn, h0, addr_add, Nat.add_assoc]
theorem y_indexAddrV {t e : TypeId} {z : Nat} (hu : P.underlying t = some (.slice e)) (hn : sizeOf? P e = some z) {nl : Bool} {es : List AV} {a : Value} (hx : VR φ (.vsl nl es) a) {k : IntKind} {i : Int}
    (h0 : 0 ≤ i) {x : AV} (hi : es[i.toNat]? = some x) (hz : x.cells.length = z) : Yields P φ (Instr.indexAt t a (.int k i)) (.vptr x.cells 0) := by
  intro w
  have hlt : i.toNat < es.length := (List.getElem?_eq_some_iff.1 hi).1
  cases hx with
  | vslN => simp at hlt
  | vsl _ z0 c ad hz0 hl h =>
    have hne : es ≠ [] := by rintro rfl; simp at hlt
    obtain ⟨b, o, rfl, hh⟩ := h hne
    have hzz : z0 = z := by rw [← hz]; exact (hz0 x (List.mem_of_getElem? hi)).symm
    subst hzz
    have h1 := Phi.has_drop hh (i.toNat * z0) (by rw [flatMap_length es hz0]; exact Nat.mul_le_mul_right _ (by omega))
    rw [flatMap_drop es _ hz0, List.drop_eq_getElem_cons hlt, List.flatMap_cons] at h1
    have h2 := Phi.has_take h1 x.cells.length
    have hx : es[i.toNat] = x := by rw [List.getElem?_eq_getElem hlt] at hi; exact Option.some.inj hi
    rw [hx, List.take_left' rfl] at h2
    refine ⟨.pointer (some ⟨b, o + i.toNat * z0 + 0, none⟩), ?_, .vptr _ _ b _ h2⟩
    have hlt2 : i < (es.length : Int) := by omega
    simp [Instr.indexAt, asIntOf, run_underlying hu, h0, hlt2, run_size hn, addr_add]
theorem y_indexAddrAV {t e : TypeId} {n z : Nat} (hu : P.underlying t = some (.array n e)) (hn : sizeOf? P e = some z) {cs : List AV} {o : Nat} {a : Value} (hx : VR φ (.vptr cs o) a) {k : IntKind} {i : Int}
    (h0 : 0 ≤ i) (h1 : i < (n : Int)) : Yields P φ (Instr.indexAt t a (.int k i)) (.vptr cs (o + i.toNat * z)) := by
  intro w
  cases hx with
  | vptr _ _ b o0 h =>
    refine ⟨.pointer (some ⟨b, o0 + (o + i.toNat * z), none⟩), ?_, .vptr cs _ b o0 h⟩
    simp [Instr.indexAt, asIntOf, run_underlying hu, Instr.sureAddr, h0, h1, run_size hn, addr_add, Nat.add_assoc]
theorem vsl_inv {nl : Bool} {es : List AV} {v : Value} (hx : VR φ (.vsl nl es) v) : ∃ ad c, v = .slice ad es.length c ∧ es.length ≤ c := by
  cases hx with
  | vslN => exact ⟨none, 0, rfl, Nat.le_refl _⟩
  | vsl _ z c a hz hl h => exact ⟨_, _, rfl, hl⟩
theorem y_lenV {t ty : TypeId} {e : TypeId} (hu : P.underlying t = some (.slice e)) {nl : Bool} {es : List AV} {v : Value} (hx : VR φ (.vsl nl es) v) : Yields P φ (Builtin.len_ #[t] ty #[v]) (.int .i64 es.length) := by
  intro w
  obtain ⟨ad, c, rfl, _⟩ := vsl_inv hx
  exact ⟨.int .i64 es.length, by simp [Builtin.len_, run_underlying hu, goInt], .int _ _⟩
theorem y_slV {t e : TypeId} {z : Nat} (hu : P.underlying t = some (.slice e)) (hn : sizeOf? P e = some z) {lo hi mx : Option Opd} {lo' hi' mx' : Option Operand} (hρ : OpdR φ ρ ρc)
    (h1 : compOpt lo' = some lo) (h2 : compOpt hi' = some hi) (h3 : compOpt mx' = some mx) {nl : Bool} {es : List AV} {v : Value} (hx : VR φ (.vsl nl es) v) {l h : Nat} {m : Option Nat}
    (hb : abounds es.length es.length (lo.map ρ) (hi.map ρ) (mx.map ρ) = some (l, h, m)) (hw : widthOK z es = true) :
    Yields P φ (Instr.sliceAt t v (lo'.map ρc) (hi'.map ρc) (mx'.map ρc)) (.vsl nl ((es.drop l).take (h - l))) := by
  intro w
  have hz := run_size hn w
  have hh : h ≤ es.length := by
    obtain ⟨_, _, q3, q4, q5⟩ := run_bounds (P := P) hρ h1 h2 h3 hb (Nat.le_refl _) (Nat.le_refl _) true w
    cases m with
    | none => simpa using q3
    | some k => simp at q3; have := q4 k rfl; omega
  have main : ∀ (ad : Option Addr) (cc : Nat), v = .slice ad es.length cc → es.length ≤ cc →
      (Instr.sliceAt t v (lo'.map ρc) (hi'.map ρc) (mx'.map ρc)).run P w = .ok (.slice (if m.getD cc = l then ad else ad.map (·.add (l * z))) (h - l) (m.getD cc - l)) w ∧ l ≤ h ∧ h ≤ m.getD cc := by
    rintro ad cc rfl hs
    obtain ⟨r1, r2, r3, r4, r5⟩ := run_bounds (P := P) hρ h1 h2 h3 hb hs hs true w
    refine ⟨?_, r2, r3⟩
    simp [Instr.sliceAt, run_underlying hu, Instr.slice, r1, hz]
  cases hx with
  | vslN =>
    obtain ⟨r1, r2, r3⟩ := main none 0 rfl (Nat.le_refl _)
    have hh0 : h = 0 := by simpa using hh
    have hl0 : l = 0 := by omega
    have hm0 : m.getD 0 = 0 := by
      obtain ⟨_, _, q3, q4, q5⟩ := run_bounds (P := P) hρ h1 h2 h3 hb (Nat.le_refl _) (Nat.le_refl _) true w
      cases m with
      | none => rfl
      | some k => simpa using q4 k rfl
    refine ⟨_, r1, ?_⟩
    simp only [hm0, hl0, hh0, Nat.sub_zero, if_true]
    exact .vslN
  | vsl _ z0 c ad hz0 hl hf =>
    obtain ⟨r1, r2, r3⟩ := main (some ad) c rfl hl
    refine ⟨_, r1, ?_⟩
    have hlen : ((es.drop l).take (h - l)).length = h - l := by simp; omega
    have key : ∀ (a2 : Addr), ((es.drop l).take (h - l) ≠ [] → ∃ b o, a2 = ⟨b, o, none⟩ ∧ φ.has b o (((es.drop l).take (h - l)).flatMap AV.cells)) → VR φ (.vsl false ((es.drop l).take (h - l))) (.slice (some a2) (h - l) (m.getD c - l)) := by
      intro a2 h5
      have := VR.vsl (φ := φ) ((es.drop l).take (h - l)) z0 (m.getD c - l) a2 (fun e he => hz0 e (List.mem_of_mem_drop (List.mem_of_mem_take he))) (by rw [hlen]; omega) h5
      rwa [hlen] at this
    have hfact : (es.drop l).take (h - l) ≠ [] → ∃ b o, ad = ⟨b, o, none⟩ ∧ φ.has b (o + l * z) (((es.drop l).take (h - l)).flatMap AV.cells) := by
      intro hne
      have hne2 : es ≠ [] := by rintro rfl; simp at hne
      obtain ⟨b, o, e1, e2⟩ := hf hne2
      have hzz : z0 = z := by
        cases es with
        | nil => exact absurd rfl hne2
        | cons e es =>
          simp only [widthOK, beq_iff_eq] at hw
          rw [← hw]
          exact (hz0 e (List.mem_cons_self ..)).symm
      subst hzz
      have e3 := Phi.has_drop e2 (l * z0) (by rw [flatMap_length es hz0]; exact Nat.mul_le_mul_right _ (by omega))
      rw [flatMap_drop es _ hz0] at e3
      have e4 := Phi.has_take e3 ((h - l) * z0)
      rw [flatMap_take _ _ (fun e he => hz0 e (List.mem_of_mem_drop he))] at e4
      exact ⟨b, o, e1, e4⟩
    simp only [Option.map_some]
    split
    · rename_i hml
      refine key ad fun hne => ?_
      exfalso
      have : h - l = 0 := by omega
      rw [this] at hne
      simp at hne
    · refine key _ fun hne => ?_
      obtain ⟨b, o, rfl, e2⟩ := hfact hne
      exact ⟨b, o + l * z, by rw [addr_add], e2⟩

/-- A slice of an array behind a pointer. -/
theorem y_slA {t e : TypeId} {n z : Nat} (hu : P.underlying t = some (.array n e) ∨ ∃ arr, P.underlying t = some (.pointer arr) ∧ P.underlying arr = some (.array n e)) (hn : sizeOf? P e = some z)
    {lo hi mx : Option Opd} {lo' hi' mx' : Option Operand} (hρ : OpdR φ ρ ρc)
    (h1 : compOpt lo' = some lo) (h2 : compOpt hi' = some hi) (h3 : compOpt mx' = some mx) {id o : Nat} {v : Value} (hx : VR φ (.ptr (some (id, o))) v) {l h : Nat} {m : Option Nat}
    (hb : abounds n n (lo.map ρ) (hi.map ρ) (mx.map ρ) = some (l, h, m)) :
    Yields P φ (Instr.sliceAt t v (lo'.map ρc) (hi'.map ρc) (mx'.map ρc)) (.slice (some (id, o + l * z)) (h - l) (.ex (m.getD n - l))) := by
  intro w
  have hz := run_size hn w
  cases hx with
  | ptr _ _ pl hp =>
    obtain ⟨r1, r2, r3, r4, r5⟩ := run_bounds (P := P) hρ h1 h2 h3 hb (Nat.le_refl _) (Nat.le_refl _) false w
    refine ⟨.slice (some (if m.getD n = l then ⟨pl.b, pl.o + o, none⟩ else ⟨pl.b, pl.o + o + l * z, none⟩)) (h - l) (m.getD n - l), ?_, ?_⟩
    · rcases hu with hu | ⟨arr, hu, ha⟩
      · simp [Instr.sliceAt, run_underlying hu, Instr.sureAddr, r1, hz, addr_add]
      · simp [Instr.sliceAt, run_underlying hu, Instr.slice, run_underlying ha, asAddr, r1, hz, addr_add]
    · split
      · exact .sliceX id (o + l * z) pl _ _ _ hp rfl (fun hne => by omega) (by omega)
      · exact .sliceX id (o + l * z) pl _ _ _ hp rfl (fun _ => by rw [Nat.add_assoc]) (by omega)

theorem y_slT {t : TypeId} (hu : P.underlying t = some .string) {lo hi : Option Opd} {lo' hi' : Option Operand} (hρ : OpdR φ ρ ρc)
    (h1 : compOpt lo' = some lo) (h2 : compOpt hi' = some hi) {s : ByteArray} {l h : Nat} {m : Option Nat} (hb : abounds s.size s.size (lo.map ρ) (hi.map ρ) none = some (l, h, m)) :
    Yields P φ (Instr.sliceAt t (.string s) (lo'.map ρc) (hi'.map ρc) none) (.str (s.extract l h)) := by
  intro w
  obtain ⟨r1, _⟩ := run_bounds (P := P) (mx := none) (mx' := none) hρ h1 h2 rfl hb (Nat.le_refl _) (Nat.le_refl _) false w
  refine ⟨.string (s.extract l h), ?_, .str _⟩
  simp only [Option.map_none] at r1
  simp [Instr.sliceAt, run_underlying hu, Instr.slice, r1]

/-- Values laid into a row. -/
def putA : Array Value → Nat → List Value → Array Value
  | cs, _, [] => cs
  | cs, off, x :: xs => putA (cs.setIfInBounds off x) (off + 1) xs
theorem putA_foldl (off : Nat) : ∀ (us : List Value) (k : Nat) (cs : Array Value), (us.zipIdx k).foldl (fun (cs : Array Value) (p : Value × Nat) => cs.setIfInBounds (off + p.2) p.1) cs = putA cs (off + k) us
  | [], _, _ => rfl
  | u :: us, k, cs => by
    rw [List.zipIdx_cons, List.foldl_cons, putA_foldl off us (k + 1), putA, Nat.add_assoc]
theorem VRL.set {xs : List AV} {vs : List Value} (h : VRL φ xs vs) (i : Nat) {x : AV} {v : Value} (hv : VR φ x v) : VRL φ (xs.set i x) (vs.set i v) :=
  VRL.of_get (by simp [h.1]) fun j y u hy hu => by
    rw [List.getElem?_set] at hy hu
    split at hy
    · rename_i e
      rw [if_pos e] at hu
      subst e
      split at hy
      · rw [if_pos (by rw [← h.1]; assumption)] at hu
        cases hy; cases hu; exact hv
      · cases hy
    · rename_i e
      rw [if_neg e] at hu
      obtain ⟨v', hv', hr⟩ := h.get? hy
      rw [hu] at hv'; cases hv'; exact hr
theorem put_vrl : ∀ {ys : List AV} {us : List Value} {xs : List AV} {vs : Array Value} (off : Nat), VRL φ xs vs.toList → VRL φ ys us → VRL φ (putCells xs off ys) (putA vs off us).toList
  | [], us, xs, vs, off, h, hs => by
    have : us = [] := by simpa using hs.1.symm
    subst this
    exact h
  | y :: ys, us, xs, vs, off, h, hs => by
    cases us with
    | nil => exact absurd hs.1 (by simp)
    | cons u us =>
      exact put_vrl (off + 1) (by rw [Array.toList_setIfInBounds]; exact h.set off hs.head) hs.tail
theorem putCells_length : ∀ (ys xs : List AV) (off : Nat), (putCells xs off ys).length = xs.length
  | [], _, _ => rfl
  | y :: ys, xs, off => by rw [putCells, putCells_length ys]; simp

theorem VR.cells_size {x : AV} {v : Value} (h : VR φ x v) (hd : x.dfd = true) : VRL φ x.cells v.cells.toList := VRL.cells h (by rintro rfl; cases hd)

/-- A composite literal. -/
theorem fill_ok {place : Nat → Option (Nat × Nat)} (hρ : OpdR φ ρ ρc) : ∀ (parts : List (Nat × Operand)) (ps : List (Nat × Nat × Opd)) (cs cs' : List AV) (vs : Array Value), compParts place parts = some ps → VRL φ cs vs.toList →
    afill ρ cs ps = some cs' → ∃ vs', Instr.fill place vs (parts.map fun (i, x) => (i, ρc x)) = some vs' ∧ VRL φ cs' vs'.toList
  | [], ps, cs, cs', vs, hp, hs, h => by
    simp only [compParts, Option.some.injEq] at hp
    subst hp
    simp only [afill, Option.some.injEq] at h
    subst h
    exact ⟨vs, by simp [Instr.fill], hs⟩
  | (i, x) :: parts, ps, cs, cs', vs, hp, hs, h => by
    simp only [compParts] at hp
    split at hp
    · rename_i off n y r h1 h2 h3
      cases hp
      simp only [afill] at h
      split at h
      · rename_i hc
        have hx := (hρ.rel _ _ h2).cells_size hc.1
        have hl : (ρc x).cells.size = n := by have := hx.1; rw [hc.2.1] at this; simpa using this.symm
        have hvs : vs.size = cs.length := by have := hs.1; simpa using this.symm
        obtain ⟨vs', h4, h5⟩ := fill_ok hρ parts r _ cs' (putA vs off (ρc x).cells.toList) h3 (put_vrl off hs hx) h
        refine ⟨vs', ?_, h5⟩
        simp only [List.map_cons, Instr.fill, h1]
        rw [if_neg (by simp [hl]; omega)]
        rw [← Array.foldl_toList, Array.toList_zipIdx, putA_foldl off _ 0]
        exact h4
      · cases h
    · cases hp

/-- Constants. -/
theorem cvt1_ok {v : Value} {x : AV} (h : cvt1 v = some x) : VR φ x v := by
  unfold cvt1 at h
  split at h <;> try (simp only [reduceCtorEq, Option.some.injEq] at h <;> subst h)
  · exact .bool _
  · exact .int _ _
  · exact .str _
  · exact .ptrN
  · exact .vslN
  · exact .mapN
  · exact .nilFunc
  · exact .nilIface
  · split at h
    · rename_i hs
      cases h
      exact .func _ [] [] _ _ (by simp [hs.1]) (by simp [hs.2]) (fun i => by simp [List.getD]; exact .undef _) (fun i => by simp [List.getD]; exact .undef _)
    · cases h
theorem cvts_ok : ∀ {vs : List Value} {xs : List AV}, cvts vs = some xs → VRL φ xs vs
  | [], xs, h => by simp only [cvts, Option.some.injEq] at h; subst h; exact VRL.nil _
  | v :: vs, xs, h => by
    simp only [cvts] at h
    split at h
    · rename_i x xs' h1 h2
      cases h
      exact VRL.cons (cvt1_ok h1) (cvts_ok h2)
    · cases h
theorem cvt_ok {v : Value} {x : AV} (h : cvt v = some x) : VR φ x v := by
  unfold cvt at h
  split at h
  · obtain ⟨xs, h1, rfl⟩ := Option.map_eq_some_iff.1 h
    simpa using (cvts_ok (φ := φ) h1).agg
  · exact cvt1_ok h
theorem cvt1_dfd {v : Value} {x : AV} (h : cvt1 v = some x) : x.dfd = true ∧ x.one = true := by
  unfold cvt1 at h
  split at h <;> try (simp only [reduceCtorEq, Option.some.injEq] at h <;> subst h <;> exact ⟨rfl, rfl⟩)
  split at h
  · cases h; exact ⟨rfl, rfl⟩
  · cases h
theorem cvt_dfd {v : Value} {x : AV} (h : cvt v = some x) : x.dfd = true := by
  unfold cvt at h
  split at h
  · obtain ⟨xs, h1, rfl⟩ := Option.map_eq_some_iff.1 h
    rfl
  · exact (cvt1_dfd h).1
theorem zero_ok {t : TypeId} {z : AV} (h : zeroOf P t = some z) : ∃ v, (∀ w, (zeroValue t).run P w = .ok v w) ∧ VR φ z v ∧ VRL φ z.cells v.cells.toList := by
  unfold zeroOf at h
  cases hi : P.info? t with
  | none => simp [hi] at h
  | some i =>
    cases hz : i.zero with
    | none => simp [hi, hz] at h
    | some v =>
      simp only [hi, hz, Option.bind_some] at h
      exact ⟨v, fun w => by simp [zeroValue, typeInfo, hi, hz], cvt_ok h, (cvt_ok h).cells_size (cvt_dfd h)⟩

theorem run_mapM {α β : Type} (g : α → Sem β) : ∀ (l : List α) (rs : List β), l.length = rs.length → (∀ (i : Nat) (x : α) (r : β), l[i]? = some x → rs[i]? = some r → ∀ w, (g x).run P w = .ok r w) → ∀ w, (l.mapM g).run P w = .ok rs w
  | [], rs, hl, _, w => by
    have : rs = [] := by simpa using hl.symm
    subst this
    simp
  | x :: l, [], hl, _, _ => by simp at hl
  | x :: l, r :: rs, hl, h, w => by
    have h0 := h 0 x r rfl rfl w
    have ih := run_mapM g l rs (by simpa using hl) (fun i y q hy hq => h (i + 1) y q (by simpa using hy) (by simpa using hq)) w
    simp [List.mapM_cons, h0, ih]
theorem fieldPlaces_get : ∀ (fs : List Field) (ps : List (Nat × Nat)), fieldPlaces P fs = some ps → fs.length = ps.length ∧ ∀ (i : Nat) (f : Field) (p : Nat × Nat), fs[i]? = some f → ps[i]? = some p → p.1 = f.offset ∧ sizeOf? P f.type = some p.2
  | [], ps, h => by simp only [fieldPlaces, Option.some.injEq] at h; subst h; simp
  | f :: fs, ps, h => by
    simp only [fieldPlaces] at h
    split at h
    · rename_i n r h1 h2
      cases h
      obtain ⟨h3, h4⟩ := fieldPlaces_get fs r h2
      refine ⟨by simp [h3], fun i g p hg hp => ?_⟩
      cases i with
      | zero => simp at hg hp; subst hg; subst hp; exact ⟨rfl, h1⟩
      | succ i => exact h4 i g p (by simpa using hg) (by simpa using hp)
    · cases h

theorem y_buildS {t : TypeId} {fs : Array Field} {z : AV} {pl : List (Nat × Nat)} {ps : List (Nat × Nat × Opd)} {parts : Array (Nat × Operand)} (hρ : OpdR φ ρ ρc) (hu : P.underlying t = some (.struct fs)) (hz : zeroOf P t = some z)
    (hpl : fieldPlaces P fs.toList = some pl) (hp : compParts (pl[·]?) parts.toList = some ps) {cs : List AV} (h : afill ρ z.cells ps = some cs) : Yields P φ (Instr.build t (parts.map fun (i, x) => (i, ρc x))) (.agg cs) := by
  intro w
  obtain ⟨v, z1, z2, z3⟩ := zero_ok (φ := φ) hz
  obtain ⟨vs', h1, h2⟩ := fill_ok hρ _ _ _ cs v.cells hp z3 h
  obtain ⟨hpl1, hpl2⟩ := fieldPlaces_get fs.toList pl hpl
  refine ⟨.agg vs', ?_, by simpa using h2.agg⟩
  have hm' : ∀ (g : Field → Sem (Nat × Nat)), (∀ f p, p.1 = f.offset → sizeOf? P f.type = some p.2 → ∀ w, (g f).run P w = .ok p w) → (fs.mapM g).run P w = .ok pl.toArray w := by
    intro g hg
    rw [Array.mapM_eq_mapM_toList, Sem.run_map, run_mapM g fs.toList pl hpl1 (fun i f p hf hp w => by
      obtain ⟨e1, e2⟩ := hpl2 i f p hf hp
      exact hg f p e1 e2 w) w]
    simp
  have h1' : Instr.fill (fun x => pl.toArray[x]?) v.cells (parts.map fun (i, x) => (i, ρc x)).toList = some vs' := by
    rw [Array.toList_map]
    simpa using h1
  simp only [Instr.build, Sem.run_bind, z1, Result.andThen_ok, run_underlying hu]
  rw [hm' _ (fun f p e1 e2 w => by simp [run_size e2, ← e1])]
  simp only [Result.andThen_ok, h1']
  simp

theorem y_buildA {t e : TypeId} {len n : Nat} {z : AV} {ps : List (Nat × Nat × Opd)} {parts : Array (Nat × Operand)} (hρ : OpdR φ ρ ρc) (hu : P.underlying t = some (.array len e)) (hz : zeroOf P t = some z)
    (hn : sizeOf? P e = some n) (hp : compParts (fun i => some (i * n, n)) parts.toList = some ps) {cs : List AV} (h : afill ρ z.cells ps = some cs) : Yields P φ (Instr.build t (parts.map fun (i, x) => (i, ρc x))) (.agg cs) := by
  intro w
  obtain ⟨v, z1, z2, z3⟩ := zero_ok (φ := φ) hz
  obtain ⟨vs', h1, h2⟩ := fill_ok hρ _ _ _ cs v.cells hp z3 h
  refine ⟨.agg vs', ?_, by simpa using h2.agg⟩
  have h1' : Instr.fill (fun i => some (i * n, n)) v.cells (parts.map fun (i, x) => (i, ρc x)).toList = some vs' := by
    rw [Array.toList_map]
    exact h1
  simp only [Instr.build, Sem.run_bind, z1, Result.andThen_ok, run_underlying hu, run_size hn, h1']
  simp

theorem y_extract {i : Nat} {vs : List AV} {v : AV} {a : Value} (hx : VR φ (.tuple vs) a) (h : vs[i]? = some v) : Yields P φ (Instr.extract a i) v := by
  intro w
  cases hx with
  | tuple _ us h1 h2 =>
    obtain ⟨u, h3, h4⟩ := (VRL.of_array h1 h2).get? h
    have h5 : us[i]? = some u := by simpa using h3
    exact ⟨u, by simp [Instr.extract, h5], h4⟩
end
end Go.Oct
end
/- Every operation that only computes: joined. -/
section
set_option linter.unusedVariables false
set_option linter.unusedSimpArgs false
set_option linter.unusedSectionVars false
namespace Go.Oct
variable [Gl]
open Go.RowKit

section
variable {P : Program} {φ : Phi} {ρ : Opd → AV} {ρc : Operand → Value}

/-- An operation that yields a value. -/
def asNext (s : Sem Value) : Sem Next := do
  let v ← s
  pure (Next.value v)
theorem Yields.next {s : Sem Value} {v : AV} (h : Yields P φ s v) (w : World) : ∃ v', (asNext s).run P w = .ok (.value v') w ∧ VR φ v v' := by
  obtain ⟨v', h1, h2⟩ := h w
  exact ⟨v', by simp [asNext, h1], h2⟩

theorem y_eq (hρ : OpdR φ ρ ρc) {op : BinOp} {neg : Bool} (hop : op = if neg then .neq else .eql) {t : TypeId} {x y : Operand} {a b : Opd} (hx : VR φ (ρ a) (ρc x)) (hy : VR φ (ρ b) (ρc y)) {vo : VOp}
    (hc : compEq P t a b y op neg = some vo) {v : AV} (hv : avop ρ vo = some v) : Yields P φ (do eqGuard op t x y (ρc x) (ρc y); binOp op t (ρc x) (ρc y)) v := by
  unfold compEq at hc
  split at hc
  · cases hc
    exact fun w => abin_sound hv hx hy t x y w
  · cases hc
    exact fun w => abin_sound hv hx hy t x y w
  · rename_i hu
    cases hc
    simp only [avop] at hv
    split at hv
    · rename_i p q hp hq
      cases hv
      rw [hp] at hx; rw [hq] at hy
      generalize ρc x = a' at hx ⊢
      generalize ρc y = b' at hy ⊢
      subst hop
      cases hx; cases hy
      exact y_eqB hu x y
    · cases hv
  · rename_i d _ _ _ hu
    split at hc
    · rename_i hag
      split at hc
      · cases hc
      · rename_i hg
        obtain ⟨s, hs, rfl⟩ := Option.map_eq_some_iff.1 hc
        simp only [avop] at hv
        split at hv
        · rename_i xs ys hp hq
          obtain ⟨r, hr, rfl⟩ := Option.map_eq_some_iff.1 hv
          rw [hp] at hx; rw [hq] at hy
          subst hop
          exact y_eqA hag hs (by simpa using hg) hx hy hr x y
        · cases hv
    · split at hc
      · rename_i k hk
        split at hc
        · rename_i hn
          cases hc
          simp only [avop] at hv
          obtain ⟨r, hr, rfl⟩ := Option.map_eq_some_iff.1 hv
          have hyc := isNilOp_eq hn
          subst hyc
          subst hop
          rw [hρ.con]
          exact y_eqN hu hk hx hr x
        · cases hc
      · cases hc
  · cases hc

theorem y_bin (hρ : OpdR φ ρ ρc) {op : BinOp} {t : TypeId} {x y : Operand} {vo : VOp} (hc : compBin P op t x y = some vo) {v : AV} (hv : avop ρ vo = some v) :
    Yields P φ (do eqGuard op t x y (ρc x) (ρc y); binOp op t (ρc x) (ρc y)) v := by
  unfold compBin at hc
  split at hc
  · rename_i a b ha hb
    have hx := hρ.rel _ _ ha
    have hy := hρ.rel _ _ hb
    split at hc
    · exact y_eq (op := .eql) (neg := false) hρ rfl hx hy hc hv
    · exact y_eq (op := .neq) (neg := true) hρ rfl hx hy hc hv
    · cases hc
      exact fun w => abin_sound hv hx hy t x y w
  · cases hc

theorem y_pick {c a b : Value} {x y z v : AV} (h : (match x with | .bool c => some (if c then y else z) | _ => none) = some v) (hc : VR φ x c) (ha : VR φ y a) (hb : VR φ z b) :
    Yields P φ (do pure (if ← asBool c then a else b)) v := by
  intro w
  cases x <;> simp only [reduceCtorEq, Option.some.injEq] at h
  cases hc
  rename_i q
  subst h
  cases q
  · exact ⟨b, by simp [asBool], hb⟩
  · exact ⟨a, by simp [asBool], ha⟩

theorem y_mkI {t : TypeId} {d : TypeDesc} (hu : P.underlying t = some d) (hd : ∀ ms, d ≠ .interface ms) {x : AV} {a : Value} (hx : VR φ x a) : Yields P φ (Instr.makeInterface t a) (.iface t x) := by
  intro w
  refine ⟨.iface t a, ?_, .iface _ _ _ hx⟩
  cases d <;> first | exact absurd rfl (hd _) | simp [Instr.makeInterface, run_underlying hu]

theorem y_mkF {f : Nat} {xs ys : List Operand} {as bs : List Opd} (hρ : OpdR φ ρ ρc) (h1 : compOpds xs = some as) (h2 : compOpds ys = some bs) :
    Yields P φ (Instr.makeFunc (.func f) (xs.toArray.map ρc) (ys.toArray.map ρc)) (.func (.func f) (as.map ρ) (bs.map ρ)) := by
  intro w
  have v1 := hρ.list h1
  have v2 := hρ.list h2
  refine ⟨.func (.func f) (xs.toArray.map ρc) (ys.toArray.map ρc), by simp [Instr.makeFunc], .func _ _ _ _ _ (by simpa using v1.1) (by simpa using v2.1) (fun i => ?_) (fun i => ?_)⟩
  · have := v1.2 i
    simpa [List.getD_eq_getElem?_getD, Array.getD_eq_getD_getElem?] using this
  · have := v2.2 i
    simpa [List.getD_eq_getElem?_getD, Array.getD_eq_getD_getElem?] using this

theorem VR.str_inv {s : ByteArray} {a : Value} (h : VR φ (.str s) a) : a = .string s := by cases h; rfl
theorem VR.int_inv {k : IntKind} {n : Int} {a : Value} (h : VR φ (.int k n) a) : a = .int k n := by cases h; rfl
theorem VR.bool_inv {b : Bool} {a : Value} (h : VR φ (.bool b) a) : a = .bool b := by cases h; rfl
theorem next_mov {x : AV} {a : Value} (h : VR φ x a) (w : World) : ∃ v', (pure (Next.value a) : Sem Next).run P w = .ok (.value v') w ∧ VR φ x v' := ⟨a, by simp, h⟩

theorem args_of {as : Array Operand} {l : List Operand} (h : as.toList = l) : as = l.toArray := by
  rw [← h]

/-- A builtin that only computes. -/
theorem b_sound (hρ : OpdR φ ρ ρc) {b : Builtin} {ts : Array TypeId} {args : Array Operand} {vo : VOp} (hc : compBuiltin P b ts.toList args.toList = some (.v vo)) {v : AV} (hv : avop ρ vo = some v) (ty : TypeId) (cs : Array Bool) (w : World) :
    ∃ v', (builtin b ts ty cs (args.map ρc)).run P w = .ok (.value v') w ∧ VR φ v v' := by
  unfold compBuiltin at hc
  split at hc
  · rename_i t x hts hargs
    have e1 := args_of hargs
    have e2 : ts = #[t] := by rw [← Array.toArray_toList (xs := ts), hts]
    subst e1; subst e2
    split at hc
    · rename_i e hu
      obtain ⟨y, hy, e⟩ := Option.map_eq_some_iff.1 hc
      cases e
      simp only [avop] at hv
      split at hv
      · rename_i a n c hq
        cases hv
        have hx := hρ.rel _ _ hy
        rw [hq] at hx
        simpa [builtin, asNext] using (y_len (P := P) (ty := ty) hu hx).next w
      · rename_i nl es hq
        cases hv
        have hx := hρ.rel _ _ hy
        rw [hq] at hx
        simpa [builtin, asNext] using (y_lenV (P := P) (ty := ty) hu hx).next w
      · cases hv
    · rename_i hu
      obtain ⟨y, hy, e⟩ := Option.map_eq_some_iff.1 hc
      cases e
      simp only [avop] at hv
      split at hv
      · rename_i s hq
        cases hv
        have hx := hρ.rel _ _ hy
        rw [hq] at hx
        have : ρc x = .string s := hx.str_inv
        have h := (y_lenT (P := P) (φ := φ) (ty := ty) (s := s) hu).next w
        simpa [builtin, asNext, this] using h
      · cases hv
    · rename_i n e hu
      cases hc
      simp only [avop, Option.some.injEq] at hv
      subst hv
      simpa [builtin, asNext] using (y_lenA (P := P) (φ := φ) (ty := ty) hu (ρc x)).next w
    · obtain ⟨y, hy, e⟩ := Option.map_eq_some_iff.1 hc
      cases e
    · rename_i arr hu
      split at hc
      · rename_i n e ha
        cases hc
        simp only [avop, Option.some.injEq] at hv
        subst hv
        simpa [builtin, asNext] using (y_lenP (P := P) (φ := φ) (ty := ty) hu ha (ρc x)).next w
      · cases hc
    · cases hc
  · rename_i t x hts hargs
    split at hc
    · obtain ⟨y, hy, e⟩ := Option.map_eq_some_iff.1 hc
      cases e
    · cases hc
  · rename_i x xs hargs
    have e1 := args_of hargs
    subst e1
    split at hc
    · rename_i y ys h1 h2
      cases hc
      have h := (y_min (P := P) (ts := ts) (ty := ty) hv (hρ.rel _ _ h1) (hρ.list h2)).next w
      simpa [builtin, asNext] using h
    · cases hc
  · rename_i x xs hargs
    have e1 := args_of hargs
    subst e1
    split at hc
    · rename_i y ys h1 h2
      cases hc
      have h := (y_max (P := P) (ts := ts) (ty := ty) hv (hρ.rel _ _ h1) (hρ.list h2)).next w
      simpa [builtin, asNext] using h
    · cases hc
  · split at hc
    · split at hc
      · split at hc
        · split at hc
          · split at hc <;> cases hc
          · cases hc
        · cases hc
      · cases hc
    · cases hc
  · split at hc
    · obtain ⟨y, hy, e⟩ := Option.map_eq_some_iff.1 hc
      cases e
    · cases hc
  · cases hc

theorem cmpOf_some {x : Operand} (h : cmpOf P x = true) : ∃ f fn, x = .func f ∧ P.funcs[f]? = some fn ∧ fn.body.isNone = true ∧ fn.name = "internal/bytealg.abigen_runtime_cmpstring" ∧ Extern.findNext fn = none := by
  unfold cmpOf at h
  split at h
  · rename_i f
    unfold isCmp at h
    split at h
    · rename_i fn hf
      simp only [Bool.and_eq_true, beq_iff_eq, Option.isNone_iff_eq_none] at h
      exact ⟨f, fn, rfl, hf, by simp [h.1.1], h.1.2, h.2⟩
    · cases h
  · cases h
theorem find_cmp {fn : Func} (h : fn.name = "internal/bytealg.abigen_runtime_cmpstring") : Extern.find fn = some Extern.BytealgCompare.compare := by
  have h1 : Extern.allGenericRows.lookup "internal/bytealg.abigen_runtime_cmpstring" = none := by kernel_rfl
  have h2 : Extern.allTypedRows.lookup "internal/bytealg.abigen_runtime_cmpstring" = none := by kernel_rfl
  have h3 : Extern.allRows.lookup "internal/bytealg.abigen_runtime_cmpstring" = some Extern.BytealgCompare.compare := by kernel_rfl
  simp [Extern.find, h, h1, h2, h3]
theorem run_cmp {f : Nat} {fn : Func} (hf : P.funcs[f]? = some fn) (hb : fn.body.isNone = true) (hn : fn.name = "internal/bytealg.abigen_runtime_cmpstring") (hx : Extern.findNext fn = none) (a b : ByteArray) (w : World) :
    (callFunc f (#[.string a, .string b] ++ #[])).run P w = .ok (.value (.int .i64 (Extern.BytealgCompare.cmp a b))) w := by
  have hr : ¬ fn.name = "runtime.NumGoroutine" := by rw [hn]; decide
  have hb : fn.body = none := by simpa using hb
  have hc : (Extern.BytealgCompare.compare #[.string a, .string b]).run P w = .ok (.int .i64 (Extern.BytealgCompare.cmp a b)) w := rfl
  simp [callFunc, hf, hr, hb, hx, find_cmp hn, hc]
theorem cntOf_some {x : Operand} (h : cntOf P x = true) : ∃ f fn, x = .func f ∧ P.funcs[f]? = some fn ∧ fn.body.isNone = true ∧ fn.name = "internal/bytealg.CountString" ∧ Extern.findNext fn = none := by
  unfold cntOf at h
  split at h
  · rename_i f
    unfold isCnt at h
    split at h
    · rename_i fn hf
      simp only [Bool.and_eq_true, beq_iff_eq, Option.isNone_iff_eq_none] at h
      exact ⟨f, fn, rfl, hf, by simp [h.1.1], h.1.2, h.2⟩
    · cases h
  · cases h
theorem find_cnt {fn : Func} (h : fn.name = "internal/bytealg.CountString") : Extern.find fn = some Extern.BytealgCount.count := by
  have h1 : Extern.allGenericRows.lookup "internal/bytealg.CountString" = none := by kernel_rfl
  have h2 : Extern.allTypedRows.lookup "internal/bytealg.CountString" = none := by kernel_rfl
  have h3 : Extern.allRows.lookup "internal/bytealg.CountString" = some Extern.BytealgCount.count := by kernel_rfl
  simp [Extern.find, h, h1, h2, h3]
theorem run_cnt {f : Nat} {fn : Func} (hf : P.funcs[f]? = some fn) (hb : fn.body.isNone = true) (hn : fn.name = "internal/bytealg.CountString") (hx : Extern.findNext fn = none) (a : ByteArray) (c : Int) (w : World) :
    (callFunc f (#[.string a, .int .u8 c] ++ #[])).run P w = .ok (.value (.int .i64 (a.data.toList.count c.toNat.toUInt8 : Nat))) w := by
  have hr : ¬ fn.name = "runtime.NumGoroutine" := by rw [hn]; decide
  have hb : fn.body = none := by simpa using hb
  have hc : (Extern.BytealgCount.count #[.string a, .int .u8 c]).run P w = .ok (.int .i64 (a.data.toList.count c.toNat.toUInt8 : Nat)) w := Lib.run_countString a c w
  simp [callFunc, hf, hr, hb, hx, find_cnt hn, hc]
theorem VRL.two {φ : Phi} {x y : AV} {vs : List Value} (h : VRL φ [x, y] vs) : ∃ a b, vs = [a, b] ∧ VR φ x a ∧ VR φ y b := by
  cases vs with
  | nil => exact absurd h.1 (by simp)
  | cons a vs =>
    have h0 := h.head
    have ht := h.tail
    cases vs with
    | nil => exact absurd ht.1 (by simp)
    | cons b vs =>
      have h1 := ht.head
      have h2 := ht.tail
      cases vs with
      | nil => exact ⟨a, b, rfl, h0, h1⟩
      | cons c vs => exact absurd h2.1 (by simp)
theorem vop_sound (hρ : OpdR φ ρ ρc) {o : Oper} {vo : VOp} (hc : compOp P o.op = some (.v vo)) {v : AV} (hv : avop ρ vo = some v) (w : World) : ∃ v', (execOp ρc o).run P w = .ok (.value v') w ∧ VR φ v v' := by
  obtain ⟨dst, op, ty, pos, after, guard⟩ := o
  simp only at hc
  cases op <;> simp only [compOp] at hc
  case move x =>
    obtain ⟨y, hy, e⟩ := Option.map_eq_some_iff.1 hc
    cases e; cases hv
    exact next_mov (hρ.rel _ _ hy) w
  case assign x =>
    obtain ⟨y, hy, e⟩ := Option.map_eq_some_iff.1 hc
    cases e; cases hv
    exact next_mov (hρ.rel _ _ hy) w
  case pick c a b =>
    split at hc
    · rename_i c' a' b' h1 h2 h3
      cases hc
      have h := (y_pick (P := P) hv (hρ.rel _ _ h1) (hρ.rel _ _ h2) (hρ.rel _ _ h3)).next w
      obtain ⟨v', r1, r2⟩ := h
      refine ⟨v', ?_, r2⟩
      rw [← r1]
      simp [execOp, asNext]
    · cases hc
  case alloc t => obtain ⟨y, hy, e⟩ := Option.map_eq_some_iff.1 hc; cases e
  case box t x => obtain ⟨y, hy, e⟩ := Option.map_eq_some_iff.1 hc; cases e
  case build t parts =>
    split at hc
    · rename_i z fs hz hu
      split at hc
      · rename_i pl hpl
        obtain ⟨ps, hps, e⟩ := Option.map_eq_some_iff.1 hc
        cases e
        simp only [avop] at hv
        obtain ⟨cs, hcs, rfl⟩ := Option.map_eq_some_iff.1 hv
        exact (y_buildS (P := P) hρ hu hz hpl hps hcs).next w
      · cases hc
    · rename_i z n e hz hu
      split at hc
      · rename_i n' hn
        obtain ⟨ps, hps, e⟩ := Option.map_eq_some_iff.1 hc
        cases e
        simp only [avop] at hv
        obtain ⟨cs, hcs, rfl⟩ := Option.map_eq_some_iff.1 hv
        exact (y_buildA (P := P) hρ hu hz hn hps hcs).next w
      · cases hc
    · cases hc
  case buildSlice t len parts =>
    split at hc
    · split at hc
      · split at hc
        · obtain ⟨y, hy, e⟩ := Option.map_eq_some_iff.1 hc; cases e
        · cases hc
      · cases hc
    · cases hc
  case load t a =>
    split at hc
    · split at hc <;> cases hc
    · cases hc
  case store t a x =>
    split at hc <;> cases hc
  case nilCheck x =>
    obtain ⟨y, hy, e⟩ := Option.map_eq_some_iff.1 hc
    cases e
    have hx := hρ.rel _ _ hy
    simp only [avop] at hv
    simp only [execOp]
    generalize ρc x = a at hx ⊢
    split at hv
    · rename_i p hq
      cases hv
      rw [hq] at hx
      cases hx with
      | ptr i o pl h => exact next_mov (.ptr i o pl h) w
    · rename_i cs o hq
      cases hv
      rw [hq] at hx
      cases hx with
      | vptr _ _ b o0 h => exact next_mov (.vptr cs o b o0 h) w
    · rename_i f xs ys hq
      cases hv
      rw [hq] at hx
      cases hx with
      | func _ _ _ vx vy h1 h2 h3 h4 => exact next_mov (.func f xs ys vx vy h1 h2 h3 h4) w
    · rename_i l xs ys hq
      cases hv
      rw [hq] at hx
      cases hx with
      | yield _ pl _ _ vx vy h h1 h2 h3 h4 => exact next_mov (.yield l pl xs ys vx vy h h1 h2 h3 h4) w
    · rename_i t u hq
      cases hv
      rw [hq] at hx
      cases hx with
      | iface _ _ v h => exact next_mov (.iface t u v h) w
    · cases hv
  case binOp op t x y yt =>
    obtain ⟨vo', hvo, e⟩ := Option.map_eq_some_iff.1 hc
    cases e
    exact (y_bin (P := P) hρ hvo hv).next w
  case unOp op t x =>
    obtain ⟨y, hy, e⟩ := Option.map_eq_some_iff.1 hc
    cases e
    exact (y_un (P := P) (hρ.rel _ _ hy) hv).next w
  case convert src dst x =>
    split at hc
    · rename_i j k y hs hd hy
      cases hc
      have hx := hρ.rel _ _ hy
      simp only [avop] at hv
      split at hv
      · rename_i q n hq
        cases hv
        rw [hq] at hx
        have : ρc x = .int q n := hx.int_inv
        have h := (y_conv (P := P) (φ := φ) (q := q) (n := n) hs hd).next w
        simpa [execOp, asNext, this] using h
      · cases hv
    · split at hc <;> cases hc
    · split at hc <;> cases hc
    · cases hc
  case makeInterface t x =>
    split at hc
    · cases hc
    · rename_i d y hni hu hy
      cases hc
      cases hv
      exact (y_mkI (P := P) hu (fun ms e => hni ms e) (hρ.rel _ _ hy)).next w
    · cases hc
  case makeFunc fn first captured =>
    cases fn <;> simp only at hc
    case func f =>
      split at hc
      · rename_i a b h1 h2
        cases hc
        cases hv
        have h := (y_mkF (P := P) (f := f) hρ h1 h2).next w
        simpa [execOp, asNext] using h
      · cases hc
    case method name =>
      split at hc
      · rename_i x h1 h2
        obtain ⟨y, hy, e⟩ := Option.map_eq_some_iff.1 hc
        cases e
        cases hv
        have e1 : first = #[x] := by rw [← Array.toArray_toList (xs := first), h1]
        have e2 : captured = #[] := by rw [← Array.toArray_toList (xs := captured), h2]
        subst e1; subst e2
        exact ⟨.func (.method name) #[ρc x] #[], by simp [execOp, Instr.makeFunc], .meth name _ _ (hρ.rel _ _ hy)⟩
      · cases hc
    all_goals cases hc
  case makeMap t r =>
    cases r <;> simp only at hc <;> cases hc
  case makeSlice t l c =>
    split at hc
    · split at hc
      · split at hc
        · split at hc <;> cases hc
        · cases hc
      · cases hc
    · cases hc
  case slice t x lo hi mx =>
    split at hc
    · rename_i x' lo' hi' mx' hx1 hlo hhi hmx
      have hx := hρ.rel _ _ hx1
      split at hc
      · rename_i e hu
        obtain ⟨z, hz, ez⟩ := Option.map_eq_some_iff.1 hc
        cases ez
        simp only [avop] at hv
        split at hv
        · rename_i a len cap hq
          rw [hq] at hx
          split at hv
          · rename_i l h m hb
            obtain ⟨c, hcl, rfl⟩ := Option.map_eq_some_iff.1 hv
            exact (y_slS (P := P) hu hz hρ hlo hhi hmx hx hb hcl).next w
          · cases hv
        · rename_i nl es hq
          rw [hq] at hx
          split at hv
          · rename_i hw
            obtain ⟨⟨l, h, m⟩, hb, rfl⟩ := Option.map_eq_some_iff.1 hv
            exact (y_slV (P := P) hu hz hρ hlo hhi hmx hx hb hw).next w
          · cases hv
        · cases hv
      · rename_i n e hu
        obtain ⟨z, hz, ez⟩ := Option.map_eq_some_iff.1 hc
        cases ez
        simp only [avop] at hv
        split at hv
        · rename_i id o hq
          rw [hq] at hx
          obtain ⟨⟨l, h, m⟩, hb, rfl⟩ := Option.map_eq_some_iff.1 hv
          exact (y_slA (P := P) (.inl hu) hz hρ hlo hhi hmx hx hb).next w
        · cases hv
      · rename_i arr hu
        split at hc
        · rename_i n e ha
          obtain ⟨z, hz, ez⟩ := Option.map_eq_some_iff.1 hc
          cases ez
          simp only [avop] at hv
          split at hv
          · rename_i id o hq
            rw [hq] at hx
            obtain ⟨⟨l, h, m⟩, hb, rfl⟩ := Option.map_eq_some_iff.1 hv
            exact (y_slA (P := P) (.inr ⟨arr, hu, ha⟩) hz hρ hlo hhi hmx hx hb).next w
          · cases hv
        · cases hc
      · rename_i hu
        split at hc
        · cases hc
          simp only [avop] at hv
          split at hv
          · rename_i s hq
            rw [hq] at hx
            obtain ⟨⟨l, h, m⟩, hb, rfl⟩ := Option.map_eq_some_iff.1 hv
            have hmx0 : mx = none := by
              cases mx with
              | none => rfl
              | some q => simp [compOpt] at hmx
            subst hmx0
            have : ρc x = .string s := hx.str_inv
            have h := (y_slT (P := P) hu hρ hlo hhi hb).next w
            simpa [execOp, asNext, this] using h
          · cases hv
        · cases hc
      · cases hc
    · cases hc
  case fieldAddr t x f =>
    split at hc
    · rename_i fs x' hu hx1
      have hx := hρ.rel _ _ hx1
      split at hc
      · rename_i fd hf
        split at hc
        · rename_i n hn
          split at hc
          · cases hc
          · rename_i h0
            cases hc
            simp only [avop] at hv
            split at hv
            · rename_i i o hq
              cases hv
              rw [hq] at hx
              exact (y_fieldAddr (P := P) hu hf hn h0 hx).next w
            · rename_i cs o hq
              cases hv
              rw [hq] at hx
              exact (y_fieldAddrV (P := P) hu hf hn h0 hx).next w
            · cases hv
        · cases hc
      · cases hc
    · cases hc
  case field t x f =>
    split at hc
    · rename_i fs x' hu hx1
      have hx := hρ.rel _ _ hx1
      split at hc
      · rename_i fd hf
        split at hc
        · rename_i g n hg hn
          cases hc
          simp only [avop] at hv
          split at hv
          · rename_i cs hq
            rw [hq] at hx
            simp only [execOp]
            generalize ρc x = a at hx ⊢
            cases hx with
            | agg _ vs h1 h2 => exact (y_field (P := P) hu hf hg hn (VRL.of_array h1 h2) hv).next w
          · cases hv
        · cases hc
      · cases hc
    · cases hc
  case indexAddr t x i =>
    split at hc
    · rename_i e x' i' hu hx1 hi1
      have hx := hρ.rel _ _ hx1
      have hi := hρ.rel _ _ hi1
      obtain ⟨z, hz, ez⟩ := Option.map_eq_some_iff.1 hc
      cases ez
      simp only [avop] at hv
      split at hv
      · rename_i id o len cap k n hq hq2
        rw [hq] at hx; rw [hq2] at hi
        split at hv
        · rename_i hb
          cases hv
          simp only [execOp]
          generalize ρc x = a at hx ⊢
          generalize ρc i = b at hi ⊢
          cases hi
          exact (y_indexAddrS (P := P) hu hz hx hb.1 hb.2).next w
        · cases hv
      · rename_i nl es k n hq hq2
        rw [hq] at hx; rw [hq2] at hi
        split at hv
        · rename_i h0
          split at hv
          · rename_i y hy
            split at hv
            · rename_i hyz
              cases hv
              simp only [execOp]
              generalize ρc x = a at hx ⊢
              generalize ρc i = b at hi ⊢
              cases hi
              exact (y_indexAddrV (P := P) hu hz hx h0 hy hyz).next w
            · cases hv
          · cases hv
        · cases hv
      · cases hv
    · rename_i n e x' i' hu hx1 hi1
      have hx := hρ.rel _ _ hx1
      have hi := hρ.rel _ _ hi1
      obtain ⟨z, hz, ez⟩ := Option.map_eq_some_iff.1 hc
      cases ez
      simp only [avop] at hv
      split at hv
      · rename_i id o k m hq hq2
        rw [hq] at hx; rw [hq2] at hi
        split at hv
        · rename_i hb
          cases hv
          simp only [execOp]
          generalize ρc x = a at hx ⊢
          generalize ρc i = b at hi ⊢
          cases hi
          exact (y_indexAddrA (P := P) hu hz hx hb.1 hb.2).next w
        · cases hv
      · rename_i cs o k m hq hq2
        rw [hq] at hx; rw [hq2] at hi
        split at hv
        · rename_i hb
          cases hv
          simp only [execOp]
          generalize ρc x = a at hx ⊢
          generalize ρc i = b at hi ⊢
          cases hi
          exact (y_indexAddrAV (P := P) hu hz hx hb.1 hb.2).next w
        · cases hv
      · cases hv
    · cases hc
  case index t x i =>
    split at hc
    · rename_i n e x' i' hu hx1 hi1
      have hx := hρ.rel _ _ hx1
      have hi := hρ.rel _ _ hi1
      split at hc
      · rename_i g z hg hz
        cases hc
        simp only [avop] at hv
        split at hv
        · rename_i cs k m hq hq2
          rw [hq] at hx; rw [hq2] at hi
          split at hv
          · rename_i hb
            simp only [execOp]
            generalize ρc x = a at hx ⊢
            generalize ρc i = b at hi ⊢
            cases hi
            cases hx with
            | agg _ vs h1 h2 => exact (y_indexA (P := P) hu hg hz hb.1 hb.2 (VRL.of_array h1 h2) hv).next w
          · cases hv
        · cases hv
      · cases hc
    · rename_i x' i' hu hx1 hi1
      have hx := hρ.rel _ _ hx1
      have hi := hρ.rel _ _ hi1
      cases hc
      simp only [avop] at hv
      split at hv
      · rename_i s k m hq hq2
        rw [hq] at hx; rw [hq2] at hi
        split at hv
        · rename_i hb
          obtain ⟨b, hb2, rfl⟩ := Option.map_eq_some_iff.1 hv
          simp only [execOp]
          generalize ρc x = a at hx ⊢
          generalize ρc i = b' at hi ⊢
          cases hi; cases hx
          exact (y_indexS (P := P) (φ := φ) hu hb hb2).next w
        · cases hv
      · cases hv
    · cases hc
  case lookup t m k ok =>
    split at hc
    · split at hc <;> cases hc
    · cases hc
  case mapUpdate t m k x =>
    split at hc
    · obtain ⟨y, hy, e⟩ := Option.map_eq_some_iff.1 hc; cases e
    · cases hc
  case mapEntry t m k =>
    split at hc
    · split at hc <;> cases hc
    · cases hc
  case entryStore t m s x =>
    split at hc <;> cases hc
  case extract t i =>
    obtain ⟨y, hy, e⟩ := Option.map_eq_some_iff.1 hc
    cases e
    have hx := hρ.rel _ _ hy
    simp only [avop] at hv
    split at hv
    · rename_i vs hq
      rw [hq] at hx
      exact (y_extract (P := P) hx hv).next w
    · cases hv
  case call c =>
    obtain ⟨callee, args, ats⟩ := c
    cases callee <;> simp only at hc
    case builtin b =>
      obtain ⟨v', h1, h2⟩ := b_sound (P := P) hρ hc hv ty (args.map fun | .const _ => true | _ => false) w
      refine ⟨v', ?_, h2⟩
      simp only [execOp, resolve, Sem.run_bind, Sem.run_pure, Result.andThen_ok, invoke]
      exact h1
    case value f =>
      split at hc
      · rename_i hcmp
        split at hc
        · rename_i x y hxy
          cases hc
          obtain ⟨g, fn, rfl, hf, hb, hn, hx⟩ := cmpOf_some hcmp
          simp only [avop] at hv
          split at hv
          · rename_i s1 s2 hs1 hs2
            cases hv
            have hl := hρ.list hxy
            rw [List.map_cons, List.map_cons, List.map_nil, hs1, hs2] at hl
            obtain ⟨v1, v2, hl1, hr1, hr2⟩ := hl.two
            cases hr1; cases hr2
            have ea : args.map ρc = #[.string s1, .string s2] := by
              apply Array.toList_inj.1
              simpa using hl1
            refine ⟨_, ?_, .int _ _⟩
            simp only [execOp, resolve, hρ.fn, Deferred.ofValue, ea, Sem.run_bind, Sem.run_pure, Result.andThen_ok, invoke]
            exact run_cmp hf hb hn hx s1 s2 w
          · cases hv
        · cases hc
      · split at hc
        · rename_i hcnt
          split at hc
          · rename_i x y hxy
            cases hc
            obtain ⟨g, fn, rfl, hf, hb, hn, hx⟩ := cntOf_some hcnt
            simp only [avop] at hv
            split at hv
            · rename_i s1 n2 hs1 hs2
              cases hv
              have hl := hρ.list hxy
              rw [List.map_cons, List.map_cons, List.map_nil, hs1, hs2] at hl
              obtain ⟨v1, v2, hl1, hr1, hr2⟩ := hl.two
              cases hr1; cases hr2
              have ea : args.map ρc = #[.string s1, .int .u8 n2] := by
                apply Array.toList_inj.1
                simpa using hl1
              refine ⟨_, ?_, .int _ _⟩
              simp only [execOp, resolve, hρ.fn, Deferred.ofValue, ea, Sem.run_bind, Sem.run_pure, Result.andThen_ok, invoke]
              exact run_cnt hf hb hn hx s1 n2 w
            · cases hv
          · cases hc
        · split at hc <;> cases hc
    case invoke r name => split at hc <;> cases hc
  all_goals cases hc
end
end Go.Oct
end
