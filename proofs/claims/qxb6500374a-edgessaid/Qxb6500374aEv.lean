import Derived.Orders
import Derived.Tactics
set_option linter.unusedSimpArgs false
set_option linter.unusedVariables false
namespace Go.Rel

/-! The evaluator on relative worlds. Block i of the list 'h' stands for block N + i of the true heap. -/

def tyI (P : Program) (t : TypeId) : Option TypeInfo := P.types.toList[t]?

def tyU (P : Program) (t : TypeId) : Option TypeDesc :=
  match tyI P t with
  | some i => match i.desc with
    | .named _ u => (match tyI P u with | some j => some j.desc | none => none)
    | d => some d
  | none => none

def aggB : TypeDesc → Bool
  | .struct _ | .array _ _ => true
  | _ => false

def tySz (P : Program) (t : TypeId) : Option Nat :=
  match tyI P t with
  | some i => some i.size
  | none => none

/-- Values that hold no address and nothing that stands for an unknown. -/
def scal : Value → Bool
  | .bool _ | .int _ _ | .string _ | .complex _ _ _ | .nilFunc | .nilIface | .pointer none | .map none => true
  | .float _ b => decide (b < 18446744073709551616)
  | .slice none _ c => decide (c < 18446744073709551616)
  | .tuple vs => vs.toList.isEmpty
  | _ => false

def cellsL : Value → List Value
  | .agg cs => cs.toList
  | v => [v]

def zeroR (P : Program) (t : TypeId) : Option Value :=
  match tyI P t with
  | some i => match i.zero with
    | some z => if (cellsL z).all scal then some z else none
    | none => none
  | none => none

def xOk : Operand → Bool
  | .const v => scal v
  | .global _ => false
  | _ => true

/-- What an operand holds. -/
def rho (tm : List Value) : Operand → Value
  | .tmp t => tm.getD t undef
  | .const v => v
  | .global _ => undef
  | .func f => .func (.func f) #[] #[]

def prun {α : Type} (P : Program) : Sem α → Option α
  | .pure a => some a
  | .program k => prun P (k P)
  | _ => none

/-! ### parts of aggregates -/
def partR (P : Program) (t : TypeId) (cs : List Value) (off : Nat) : Option Value :=
  match tyU P t, tySz P t with
  | some d, some n => if aggB d then some (.agg ⟨(cs.drop off).take n⟩) else cs[off]?
  | _, _ => none

def splice (l : List Value) (off : Nat) (vs : List Value) : List Value := l.take off ++ vs ++ l.drop (off + vs.length)

def fillR (place : Nat → Option (Nat × Nat)) : List Value → List (Nat × Value) → Option (List Value)
  | cells, [] => some cells
  | cells, (i, v) :: rest =>
    match place i with
    | none => none
    | some (off, size) =>
      if (cellsL v).length = size ∧ off + (cellsL v).length ≤ cells.length then fillR place (splice cells off (cellsL v)) rest else none

def placesR (P : Program) : List Field → Option (List (Nat × Nat))
  | [] => some []
  | f :: fs =>
    match tySz P f.type, placesR P fs with
    | some n, some l => some ((f.offset, n) :: l)
    | _, _ => none

def buildR (P : Program) (t : TypeId) (parts : List (Nat × Value)) : Option Value :=
  match zeroR P t, tyU P t with
  | some z, some (.struct fields) =>
    match placesR P fields.toList with
    | some places => match fillR (fun i => places[i]?) (cellsL z) parts with
      | some cs => some (.agg ⟨cs⟩)
      | none => none
    | none => none
  | some z, some (.array _ elem) =>
    match tySz P elem with
    | some size => match fillR (fun i => some (i * size, size)) (cellsL z) parts with
      | some cs => some (.agg ⟨cs⟩)
      | none => none
    | none => none
  | _, _ => none

/-! ### memory -/
def rd (h : List Obj) (a : Addr) (n : Nat) : Option (List Value) :=
  match a.spot, h[a.block]? with
  | none, some (.cells c _ _) => if a.off + n ≤ c.toList.length then some ((c.toList.drop a.off).take n) else none
  | none, some (.chan _ c _ _ _ _) => if a.off + n ≤ c.toList.length then some ((c.toList.drop a.off).take n) else none
  | _, _ => none

def flatV : Value → Bool
  | .agg _ | .tuple _ => false
  | _ => true

def wr (h : List Obj) (a : Addr) (vs : List Value) : Option (List Obj) :=
  match a.spot, h[a.block]? with
  | none, some (.cells c e fr) =>
    if fr = (0, 0) ∧ a.off + vs.length ≤ c.toList.length ∧ vs.all flatV = true then some (h.set a.block (.cells ⟨splice c.toList a.off vs⟩ e fr)) else none
  | none, some (.chan i c x e y z) =>
    if a.off + vs.length ≤ c.toList.length ∧ vs.all flatV = true then some (h.set a.block (.chan i ⟨splice c.toList a.off vs⟩ x e y z)) else none
  | _, _ => none

def loadR (P : Program) (h : List Obj) (t : TypeId) (a : Addr) : Option Value :=
  match tyU P t, tySz P t with
  | some d, some n => if aggB d then (match rd h a n with | some vs => some (.agg ⟨vs⟩) | none => none) else (match rd h a 1 with | some [v] => some v | _ => none)
  | _, _ => none

def storeR (P : Program) (h : List Obj) (t : TypeId) (a : Addr) (v : Value) : Option (List Obj) :=
  match tySz P t with
  | some n => if (cellsL v).length = n then wr h a (cellsL v) else none
  | none => none

/-! ### equality -/
def eqScal : TypeDesc → Value → Value → Option Bool
  | .bool, .bool a, .bool b => some (a == b)
  | .int _, .int k a, .int k' b => if k = k' then some (a == b) else none
  | .string, .string a, .string b => some (a.data.toList == b.data.toList)
  | .pointer _, .pointer none, .pointer none => some true
  | .pointer _, .pointer none, .pointer (some _) => some false
  | .pointer _, .pointer (some _), .pointer none => some false
  | .interface _, .nilIface, .nilIface => some true
  | .interface _, .nilIface, .iface _ _ => some false
  | .interface _, .iface _ _, .nilIface => some false
  | .slice _, .slice none _ _, .slice none _ _ => some true
  | .slice _, .slice none _ _, .slice (some _) _ _ => some false
  | .slice _, .slice (some _) _ _, .slice none _ _ => some false
  | .map _ _, .map none, .map none => some true
  | .map _ _, .map none, .map (some _) => some false
  | .map _ _, .map (some _), .map none => some false
  | .func _ _ _, .nilFunc, .nilFunc => some true
  | .func _ _ _, .nilFunc, .func _ _ _ => some false
  | .func _ _ _, .func _ _ _, .nilFunc => some false
  | _, _, _ => none

def eqFields (P : Program) (xs ys : List Value) : List Field → Option Bool
  | [] => some true
  | f :: fs =>
    if f.name = "_" then eqFields P xs ys fs else
    match tyU P f.type, partR P f.type xs f.offset, partR P f.type ys f.offset with
    | some d, some x, some y => match eqScal d x y with
      | some true => eqFields P xs ys fs
      | some false => some false
      | none => none
    | _, _, _ => none

def eqR (P : Program) (t : TypeId) (x y : Value) : Option Bool :=
  match tyU P t with
  | some (.struct fields) => (match x, y with
    | .agg xs, .agg ys => if P.stoodInHeld t = false then eqFields P xs.toList ys.toList fields.toList else none
    | _, _ => none)
  | some d => eqScal d x y
  | none => none

def guardR (P : Program) (t : TypeId) (x y : Operand) (a b : Value) : Bool :=
  match a, b with
  | .nilIface, .nilIface => (match x, y with | .const _, _ => true | _, .const _ => true | _, _ => false)
  | .agg _, .agg _ => !P.eqGuardType P.depth t
  | _, _ => true

def strOp : BinOp → ByteArray → ByteArray → Option Value
  | .add, a, b => if a.data.toList.length + b.data.toList.length < 1000000000000 then some (.string ⟨⟨a.data.toList ++ b.data.toList⟩⟩) else none
  | .eql, a, b => some (.bool (a.data.toList == b.data.toList))
  | .neq, a, b => some (.bool (!(a.data.toList == b.data.toList)))
  | _, _, _ => none

def scalO : Option Value → Option Value
  | some v => if scal v then some v else none
  | none => none

def numV : Value → Bool
  | .int _ _ => true
  | .float _ b => decide (b < 18446744073709551616)
  | .complex _ _ _ => true
  | _ => false

/-- A comparison in which a float that is no number takes part. -/
def nanCmp : BinOp → Option Value
  | .eql => some (.bool false)
  | .neq => some (.bool true)
  | .lss => some (.bool false)
  | .leq => some (.bool false)
  | .gtr => some (.bool false)
  | .geq => some (.bool false)
  | _ => none

def nanPair : Value → Value → Bool
  | .float .f64 a, .float .f64 b => decide (18446744073709551616 ≤ a) || decide (18446744073709551616 ≤ b)
  | _, _ => false

def binR (P : Program) (op : BinOp) (t : TypeId) (x y : Operand) (a b : Value) : Option Value :=
  match a, b with
  | .string s, .string u => strOp op s u
  | a, b =>
    if numV a && numV b then scalO (prun P (binOp op t a b)) else
    if nanPair a b then nanCmp op else
    match op with
    | .eql => if guardR P t x y a b then (match eqR P t a b with | some r => some (.bool r) | none => none) else none
    | .neq => if guardR P t x y a b then (match eqR P t a b with | some r => some (.bool (!r)) | none => none) else none
    | _ => none

def bndR : Option Value → Nat → Nat → Option Nat
  | none, d, _ => some d
  | some (.int _ i), _, y => if 0 ≤ i ∧ i ≤ (y : Int) then some i.toNat else none
  | _, _, _ => none

def addrAdd (a : Addr) (n : Nat) : Addr := ⟨a.block, a.off + n, none⟩

def getF (P : Program) (s : TypeId) (i : Nat) : Option Field :=
  match tyU P s with
  | some (.struct fs) => fs.toList[i]?
  | _ => none

def fieldAddrR (P : Program) (s : TypeId) (a : Addr) (i : Nat) : Option Addr :=
  match a.spot, getF P s i with
  | none, some f => match tySz P f.type with
    | some (_ + 1) => some (addrAdd a f.offset)
    | _ => none
  | _, _ => none

def lacks (want : List (String × TypeId)) (got : List Method) : Bool :=
  want.any fun w => !got.any fun m => m.name == w.1 && m.sig == w.2

def assertR (P : Program) (x : Value) (asserted : TypeId) : Option Value :=
  match tyU P asserted, x, zeroR P asserted with
  | some (.interface _), .nilIface, some z => some (.tuple #[z, .bool false])
  | some (.interface want), .iface t v, some z => (match tyI P t with
    | some i => if lacks want.toList i.methods.toList then some (.tuple #[z, .bool false]) else some (.tuple #[.iface t v, .bool true])
    | none => none)
  | some _, .nilIface, some z => some (.tuple #[z, .bool false])
  | some _, .iface t v, some z => if t = asserted then some (.tuple #[v, .bool true]) else some (.tuple #[z, .bool false])
  | _, _, _ => none

def numB : Builtin → Bool
  | .complex | .real | .imag | .min | .max => true
  | _ => false

/-- Operations that neither look into memory nor touch it. -/
def pureR (P : Program) (ρ : Operand → Value) (o : Oper) : Option Value :=
  match o.op with
  | .move x => some (ρ x)
  | .assign x => some (ρ x)
  | .pick c a b => match ρ c with
    | .bool t => some (if t then ρ a else ρ b)
    | _ => none
  | .nilCheck x => match ρ x with
    | .pointer (some a) => some (.pointer (some a))
    | .iface t v => some (.iface t v)
    | .func (.func f) a b => some (.func (.func f) a b)
    | _ => none
  | .binOp op t x y _ => binR P op t x y (ρ x) (ρ y)
  | .unOp op _ x => if scal (ρ x) then scalO (prun P (Op.unary op (ρ x))) else none
  | .convert src dst x => if scal (ρ x) then scalO (prun P (convert src dst (ρ x))) else none
  | .makeInterface t x => match tyU P t with
    | some (.interface _) => none
    | some _ => some (.iface t (ρ x))
    | none => none
  | .makeFunc fn first captured => some (.func fn ⟨first.toList.map ρ⟩ ⟨captured.toList.map ρ⟩)
  | .fieldAddr s x i => match ρ x with
    | .pointer (some a) => (match fieldAddrR P s a i with | some b => some (.pointer (some b)) | none => none)
    | _ => none
  | .field s x i => match ρ x, getF P s i with
    | .agg cs, some f => partR P f.type cs.toList f.offset
    | _, _ => none
  | .indexAddr t x ix => match tyU P t, ρ x, ρ ix with
    | some (.array n e), .pointer (some a), .int _ i =>
      if a.spot = none ∧ 0 ≤ i ∧ i < (n : Int) then (match tySz P e with | some z => some (.pointer (some (addrAdd a (i.toNat * z)))) | none => none) else none
    | some (.slice e), .slice (some a) n _, .int _ i =>
      if a.spot = none ∧ 0 ≤ i ∧ i < (n : Int) then (match tySz P e with | some z => some (.pointer (some (addrAdd a (i.toNat * z)))) | none => none) else none
    | _, _, _ => none
  | .index t x ix => match tyU P t, ρ x, ρ ix with
    | some (.array n e), .agg cs, .int _ i =>
      if 0 ≤ i ∧ i < (n : Int) then (match tySz P e with | some z => partR P e cs.toList (i.toNat * z) | none => none) else none
    | _, _, _ => none
  | .slice t x lo hi mx => match tyU P t, ρ x, mx with
    | some (.array n e), .pointer (some a), none =>
      if a.spot = none ∧ n < 18446744073709551616 then
        match tySz P e, bndR (hi.map ρ) n n with
        | some z, some h => (match bndR (lo.map ρ) 0 h with
          | some l => some (.slice (some (if n = l then a else addrAdd a (l * z))) (h - l) (n - l))
          | none => none)
        | _, _ => none
      else none
    | _, _, _ => none
  | .extract t i => match ρ t with
    | .tuple vs => vs.toList[i]?
    | _ => none
  | .typeAssert x _ u ok => if ok then assertR P (ρ x) u else none
  | .build t parts => buildR P t (parts.toList.map fun p => (p.1, ρ p.2))
  | .call c => match c.callee, c.args.toList, c.argTypes.toList with
    | .builtin .len, [x], [t] => (match tyU P t, ρ x with
      | some (.slice _), .slice _ n _ => some (.int .i64 n)
      | some .string, .string s => some (.int .i64 s.data.toList.length)
      | some (.array n _), _ => some (.int .i64 n)
      | _, _ => none)
    | .builtin b, args, ts =>
      if args.all (fun x => scal (ρ x)) && numB b then
        (match prun P (builtin b ⟨ts⟩ o.type #[] ⟨args.map ρ⟩) with | some (.value v) => if scal v then some v else none | _ => none)
      else none
    | _, _, _ => none
  | _ => none

/-! ### maps -/
def sameK : Value → Value → Option Bool
  | .int k a, .int k' b => if k = k' then some (a == b) else none
  | .float .f64 a, .float .f64 b => if a < 18446744073709551616 ∧ b < 18446744073709551616 then some (Op.floatEq .f64 a b) else some false
  | _, _ => none

/-- The very same key: nothing is open about which of the two stays. -/
def sameBit : Value → Value → Bool
  | .int k a, .int k' b => decide (k = k') && decide (a = b)
  | .float .f64 a, .float .f64 b => decide (a < 18446744073709551616) && decide (a = b)
  | _, _ => false

def findR (k : Value) : List MapEntry → Nat → Option (Option (Nat × Value))
  | [], _ => some none
  | e :: es, i =>
    match sameK k e.key with
    | some true => some (some (i, e.val))
    | some false => findR k es (i + 1)
    | none => none

/-- A key of an integer type or of float64. -/
def keyT (P : Program) (t : TypeId) (k : Value) : Bool :=
  match tyU P t, k with
  | some (.int _), .int _ _ => true
  | some (.float .f64), .float .f64 _ => true
  | _, _ => false

def isU8T (P : Program) (t : TypeId) : Bool :=
  match tyU P t with
  | some (.int .u8) => true
  | _ => false

def mapOf (h : List Obj) : Value → Option (Nat × List MapEntry × Nat)
  | .map (some r) => match h[r]? with
    | some (.map es c) => some (r, es.toList, c)
    | _ => none
  | _ => none

def modE (es : List MapEntry) (i : Nat) (k v : Value) : List MapEntry :=
  match es[i]? with
  | some e => es.set i ⟨k, v, e.born⟩
  | none => es

/-- The entries that a range may give next; 'none': it may end. -/
def candR (es : List MapEntry) (since : Nat) (seen : List Nat) : List (Option MapEntry) :=
  (if (es.filter fun e => !seen.contains e.born && decide (e.born < since)).isEmpty then [none] else []) ++
  ((es.filter fun e => !seen.contains e.born && decide (e.born < since)) ++ (es.filter fun e => !seen.contains e.born && !decide (e.born < since))).map some

structure St where
  tm : List Value
  hp : List Obj
  u : Nat

def St.put (s : St) (dst : Option Tmp) (v : Value) : St :=
  match dst with
  | some d => ⟨s.tm.set d v, s.hp, s.u⟩
  | none => s

def newR (h : List Obj) (o : Obj) : List Obj := h ++ [o]

abbrev Outs := List (Value × List Obj × Nat)

def one (v : Value) (h : List Obj) (u : Nat) : Option Outs := some [(v, h, u)]

def isort1 (n : Nat) : List Nat → List Nat
  | [] => [n]
  | m :: r => if n ≤ m then n :: m :: r else m :: isort1 n r

def isort : List Nat → List Nat
  | [] => []
  | n :: r => isort1 n (isort r)

/-- No unknown from u on stands in a value. -/
def okV (u : Nat) : Nat → Value → Bool
  | 0, _ => false
  | n + 1, v => match v with
    | .float _ b => decide (b < 18446744073709551616 + u)
    | .slice _ _ c => decide (c < 18446744073709551616 + u)
    | .func _ x y => x.toList.all (okV u n) && y.toList.all (okV u n)
    | .iface _ x => okV u n x
    | .agg x => x.toList.all (okV u n)
    | .tuple x => x.toList.all (okV u n)
    | _ => true

def okO (u : Nat) : Obj → Bool
  | .cells c _ _ => c.toList.all (okV u 9)
  | .map es _ => es.toList.all fun e => okV u 9 e.key && okV u 9 e.val
  | .chan i c _ _ _ _ => decide (i < u) && c.toList.all (okV u 9)
  | _ => true

def okSt (s : St) : Bool := s.tm.all (okV s.u 9) && s.hp.all (okO s.u)

/-- The cells that an append adds: elements of one cell. -/
def moreR (h : List Obj) : Value → Option (List Value)
  | .slice (some a) n _ => rd h a n
  | .slice none 0 _ => some []
  | _ => none

/-- An append that has room for certain, or may have: in place. -/
def inPlaceR (s : St) (a : Addr) (len cap : Nat) (vs : List Value) : Option Outs :=
  match a.spot, s.hp[a.block]? with
  | none, some (.cells _ _ _) =>
    if cap < 18446744073709551616 then (match wr s.hp (addrAdd a len) vs with
      | some h' => one (.slice (some a) (len + vs.length) cap) h' s.u
      | none => none) else none
  | none, some (.chan i c x e y z) =>
    if a.off = 0 ∧ cap = 18446744073709551616 + i ∧ len = c.toList.length ∧ vs.all flatV = true then
      one (.slice (some a) (len + vs.length) cap) (s.hp.set a.block (.chan i ⟨c.toList ++ vs⟩ x e y z)) s.u
    else none
  | _, _ => none

/-- An append that lays a new array: its capacity is open. -/
def growR (s : St) (e : TypeId) (old vs : List Value) : Option Outs :=
  if okSt s && vs.all (okV s.u 9) && old.all (okV s.u 9) then
    some [(.slice (some ⟨s.hp.length, 0, none⟩) (old.length + vs.length) (18446744073709551616 + s.u), newR s.hp (.chan s.u ⟨old ++ vs⟩ false e 0 false), s.u + 1)]
  else none

def zeroI : Option Value → Bool
  | some (.int .i64 n) => decide (n = 0)
  | _ => false

def appendR (P : Program) (s : St) (t : TypeId) (x y : Value) : Option Outs :=
  match tyU P t, x with
  | some (.slice e), .slice b len cap =>
    match tyI P e, moreR s.hp x, moreR s.hp y with
    | some i, some old, some vs =>
      if i.size = 1 ∧ i.bytes = 8 ∧ old.length = len ∧ len + vs.length < 200 ∧ zeroI i.zero = true then
        if cap < 18446744073709551616 then
          if len + vs.length ≤ cap then
            match b with
            | some a => inPlaceR s a len cap vs
            | none => if vs.isEmpty then one (.slice none len cap) s.hp s.u else none
          else growR s e old vs
        else
          match b with
          | some a => (match inPlaceR s a len cap vs, growR s e old vs with
            | some l, some m => some (l ++ m)
            | _, _ => none)
          | none => none
      else none
    | _, _, _ => none
  | _, _ => none

def bytesOfR : List Value → Option (List UInt8)
  | [] => some []
  | .int .u8 n :: r => match bytesOfR r with
    | some l => some (UInt8.ofNat n.toNat :: l)
    | none => none
  | _ :: _ => none

def updR (P : Program) (s : St) (t : TypeId) (m k v : Value) : Option Outs :=
  match tyU P t, m with
  | some (.map kt _), .map (some r) => (match s.hp[r]? with
    | some (.map es c) =>
      if keyT P kt k then
        match findR k es.toList 0 with
        | some (some (i, _)) => (match es.toList[i]? with
          | some e => if sameBit e.key k then one undef (s.hp.set r (.map ⟨modE es.toList i k v⟩ c)) s.u else none
          | none => none)
        | some none => one undef (s.hp.set r (.map ⟨es.toList ++ [⟨k, v, c⟩]⟩ (c + 1))) s.u
        | none => none
      else none
    | _ => none)
  | _, _ => none

/-- Operations on memory that are no calls of Go functions. -/
def heapR (P : Program) (ρ : Operand → Value) (s : St) (o : Oper) : Option Outs :=
  match o.op with
  | .alloc t => match zeroR P t with
    | some z => one (.pointer (some ⟨s.hp.length, 0, none⟩)) (newR s.hp (.cells ⟨cellsL z⟩ t (0, 0))) s.u
    | none => none
  | .box t x => one (.pointer (some ⟨s.hp.length, 0, none⟩)) (newR s.hp (.cells ⟨cellsL (ρ x)⟩ t (0, 0))) s.u
  | .buildSlice t len parts => match tyU P t with
    | some (.slice e) => (match tySz P e, zeroR P e with
      | some z, some zv =>
        if len * z ≤ 65536 ∧ 0 < len * z ∧ 0 < (cellsL zv).length then
          match fillR (fun i => some (i * z, z)) ((List.range (len * z)).map fun i => (cellsL zv).getD (i % (cellsL zv).length) undef) (parts.toList.map fun p => (p.1, ρ p.2)) with
          | some cs => one (.slice (some ⟨s.hp.length, 0, none⟩) len len) (newR s.hp (.cells ⟨cs⟩ e (0, 0))) s.u
          | none => none
        else none
      | _, _ => none)
    | _ => none
  | .load t x => match ρ x with
    | .pointer (some a) => (match loadR P s.hp t a with | some v => one v s.hp s.u | none => none)
    | _ => none
  | .store t x y => match ρ x with
    | .pointer (some a) => (match storeR P s.hp t a (ρ y) with | some h' => one undef h' s.u | none => none)
    | _ => none
  | .convert src dst x => match tyU P src, tyU P dst, ρ x with
    | some (.slice e), some .string, .slice (some a) n _ =>
      if isU8T P e then
        (match rd s.hp a n with | some vs => (match bytesOfR vs with | some l => one (.string ⟨⟨l⟩⟩) s.hp s.u | none => none) | none => none)
      else none
    | _, _, _ => none
  | .makeMap _ none => one (.map (some s.hp.length)) (newR s.hp (.map #[] 0)) s.u
  | .lookup t m k ok => match tyU P t, ρ m with
    | some (.map kt et), .map (some r) => (match s.hp[r]?, zeroR P et with
      | some (.map es _), some z =>
        if keyT P kt (ρ k) then
          match findR (ρ k) es.toList 0 with
          | some (some (_, v)) => one (if ok then .tuple #[v, .bool true] else v) s.hp s.u
          | some none => one (if ok then .tuple #[z, .bool false] else z) s.hp s.u
          | none => none
        else none
      | _, _ => none)
    | _, _ => none
  | .mapUpdate t m k v => updR P s t (ρ m) (ρ k) (ρ v)
  | .insert t m k v => updR P s t (ρ m) (ρ k) (ρ v)
  | .binOp op _ x y _ => (match op, ρ x, ρ y with
    | .quo, .float .f64 a, .float .f64 b =>
      if a < 18446744073709551616 ∧ b < 18446744073709551616 ∧ (FloatKind.f64.format.div a b).isNone = true ∧ okSt s = true then
        some [(.float .f64 (18446744073709551616 + s.u), s.hp, s.u + 1)]
      else none
    | _, _, _ => none)
  | .makeSlice t x y => (match tyU P t, ρ x, ρ y with
    | some (.slice e), .int .i64 l, .int .i64 c => (match tyI P e, zeroR P e with
      | some i, some zv =>
        if i.size = 1 ∧ (cellsL zv).length = 1 ∧ 0 ≤ l ∧ l ≤ c ∧ 0 < c ∧ c ≤ 1000 ∧ i.bytes ≤ 1000 then
          one (.slice (some ⟨s.hp.length, 0, none⟩) l.toNat c.toNat) (newR s.hp (.cells ⟨List.replicate c.toNat ((cellsL zv).getD 0 undef)⟩ e (0, 0))) s.u
        else none
      | _, _ => none)
    | _, _, _ => none)
  | .range t x => match tyU P t, ρ x with
    | some (.map _ _), .map (some r) => (match s.hp[r]? with
      | some (.map _ c) => one (.pointer (some ⟨s.hp.length, 0, none⟩)) (newR s.hp (.mapIter (some r) c #[] c)) s.u
      | _ => none)
    | _, _ => none
  | .next x false => match ρ x with
    | .pointer (some ⟨b, 0, none⟩) => (match s.hp[b]? with
      | some (.mapIter (some m) since seen last) => (match s.hp[m]? with
        | some (.map es c) =>
          if !seen.toList.isEmpty && !es.toList.isEmpty && es.toList.all (fun e => decide (e.born ≥ last)) then none else
          some ((candR es.toList since seen.toList).map fun
            | some e => (.tuple #[.bool true, e.key, e.val], s.hp.set b (.mapIter (some m) since ⟨isort seen.toList ++ [e.born]⟩ c), s.u)
            | none => (.tuple #[.bool false], s.hp.set b (.coro none), s.u))
        | _ => none)
      | _ => none)
    | _ => none
  | .entry x => match ρ x with
    | .pointer (some ⟨b, 0, none⟩) => (match s.hp[b]? with
      | some (.mapIter (some m) _ seen stepped) => (match s.hp[m]?, seen.toList.getLast? with
        | some (.map es c), some stamp =>
          if c = stepped then
            match es.toList.find? (fun e => e.born == stamp) with
            | some e => one (.tuple #[e.key, e.val]) s.hp s.u
            | none => none
          else none
        | _, _ => none)
      | _ => none)
    | _ => none
  | .call c => match c.callee, c.args.toList, c.argTypes.toList with
    | .builtin .len, [x], [t] => (match tyU P t, ρ x with
      | some (.map _ _), .map (some r) => (match s.hp[r]? with
        | some (.map es _) => one (.int .i64 es.toList.length) s.hp s.u
        | _ => none)
      | _, _ => none)
    | .builtin .delete, [x, k], [t, _] => (match tyU P t, ρ x with
      | some (.map kt _), .map (some r) => (match s.hp[r]? with
        | some (.map es c) =>
          if keyT P kt (ρ k) then
            match findR (ρ k) es.toList 0 with
            | some (some (i, _)) => one (.tuple #[]) (s.hp.set r (.map ⟨es.toList.eraseIdx i⟩ c)) s.u
            | some none => one (.tuple #[]) (s.hp.set r (.map ⟨es.toList⟩ c)) s.u
            | none => none
          else none
        | _ => none)
      | _, _ => none)
    | .builtin .clear, [x], [t] => (match tyU P t, ρ x with
      | some (.map _ _), .map (some r) => (match s.hp[r]? with
        | some (.map _ c) => one (.tuple #[]) (s.hp.set r (.map #[] c)) s.u
        | _ => none)
      | _, _ => none)
    | .builtin .append, [x, y], [t, t2] => (match tyU P t2 with
      | some (.slice _) => appendR P s t (ρ x) (ρ y)
      | _ => none)
    | _, _, _ => none
  | _ => none

/-! ### calls -/
def getP (P : Program) (h : List Obj) (t : TypeId) : Value ⊕ Addr → Option Value
  | .inl v => some v
  | .inr a => loadR P h t a

def followR (P : Program) (h : List Obj) : List FieldStep → TypeId → Value ⊕ Addr → Option (TypeId × (Value ⊕ Addr))
  | [], t, x => some (t, x)
  | s :: rest, t, x =>
    match getF P s.struct s.index with
    | none => none
    | some f =>
      if s.deref then
        match getP P h t x with
        | some (.pointer (some a)) => (match fieldAddrR P s.struct a s.index with
          | some b => followR P h rest f.type (.inr b)
          | none => none)
        | _ => none
      else match x with
        | .inr a => (match fieldAddrR P s.struct a s.index with
          | some b => followR P h rest f.type (.inr b)
          | none => none)
        | .inl (.agg cs) => (match partR P f.type cs.toList f.offset with
          | some v => followR P h rest f.type (.inl v)
          | none => none)
        | _ => none

def recvR (P : Program) (h : List Obj) (xt : TypeId) (x : Value ⊕ Addr) (ptr : Bool) : Option Value :=
  match tyU P xt, ptr, x with
  | some (.pointer _), true, x => getP P h xt x
  | some (.pointer _), false, _ => none
  | some _, true, .inr a => some (.pointer (some a))
  | some _, true, .inl _ => none
  | some _, false, x => getP P h xt x
  | none, _, _ => none

def methodR (P : Program) (h : List Obj) (name : String) : Nat → TypeId → Value → Option (FuncId × Value)
  | 0, _, _ => none
  | n + 1, t, v =>
    match tyI P t with
    | none => none
    | some i => match i.methods.toList.find? (fun m => m.name == name) with
      | none => none
      | some m => match followR P h m.path.toList t (.inl v) with
        | none => none
        | some (xt, x) => match m.func with
          | none => (match getP P h xt x with
            | some (.iface t' v') => methodR P h name n t' v'
            | _ => none)
          | some (f, ptr) => (match recvR P h xt x ptr with
            | some r => some (f, r)
            | none => none)

/-- Which Go function a call enters, and with which arguments. -/
def callR (P : Program) (ρ : Operand → Value) (h : List Obj) (o : Oper) : Option (FuncId × List Value) :=
  match o.op with
  | .call c => match c.callee with
    | .value f => (match ρ f with
      | .func (.func g) first captured => some (g, first.toList ++ c.args.toList.map ρ ++ captured.toList)
      | .func (.method name) first _ => (match first.toList ++ c.args.toList.map ρ with
        | .iface t v :: rest => (match methodR P h name 50 t v with
          | some (g, r) => some (g, r :: rest)
          | none => none)
        | _ => none)
      | _ => none)
    | .invoke r name => (match ρ r with
      | .iface t v => (match methodR P h name 50 t v with
        | some (g, r) => some (g, r :: c.args.toList.map ρ)
        | none => none)
      | _ => none)
    | .builtin _ => none
  | _ => none

def putAll (tm : List Value) (dst : Option Tmp) : Outs → List St
  | [] => []
  | (v, h, u) :: r => (St.put ⟨tm, h, u⟩ dst v) :: putAll tm dst r

def wantR (ops : List Oper) (tm : List Value) (o : Oper) : Bool :=
  match o.guard with
  | none => true
  | some (j, want) => match ops[j]? with
    | some p => match p.dst with
      | some d => (match tm[d]? with
        | some (.bool b) => b == want
        | _ => false)
      | none => false
    | none => false

abbrev CallF := FuncId → List Value → List Obj → Nat → Option Outs

/-- Behind a call that has laid unknowns: the caller's slots name none of them. -/
def okOuts (s : St) (outs : Outs) : Bool := outs.all fun x => decide (x.2.2 = s.u) || (decide (s.u ≤ x.2.2) && s.tm.all (okV s.u 9))

/-- One operation of a region. -/
def opR (P : Program) (call : CallF) (ops : List Oper) (o : Oper) (s : St) : Option (List St) :=
  if wantR ops s.tm o then
    if o.op.operands.toList.all xOk then
      match pureR P (rho s.tm) o with
      | some v => some [s.put o.dst v]
      | none => match heapR P (rho s.tm) s o with
        | some outs => some (putAll s.tm o.dst outs)
        | none => match callR P (rho s.tm) s.hp o with
          | some (f, args) => (match call f args s.hp s.u with
            | some outs => if okOuts s outs then some (putAll s.tm o.dst outs) else none
            | none => none)
          | none => none
    else none
  else some [s.put o.dst undef]

def bindAll (f : St → Option (List St)) : List St → Option (List St)
  | [] => some []
  | s :: r => match f s, bindAll f r with
    | some a, some b => some (a ++ b)
    | _, _ => none

def opsR (P : Program) (call : CallF) (ops : List Oper) : List Oper → St → Option (List St)
  | [], s => some [s]
  | o :: r, s => match opR P call ops o s with
    | some [s'] => opsR P call ops r s'
    | some l => bindAll (opsR P call ops r) l
    | none => none

abbrev Ex := List (Exit × St)

def bindX (f : St → Option Ex) : Ex → Option Ex
  | [] => some []
  | (.normal, s) :: r => match f s, bindX f r with
    | some a, some b => some (a ++ b)
    | _, _ => none
  | (e, s) :: r => match bindX f r with
    | some b => some ((e, s) :: b)
    | none => none

def unexit (id : Nat) : Exit × St → Exit × St
  | (.exit j, s) => if j = id then (.normal, s) else (.exit j, s)
  | x => x

def normals : Ex → List St
  | [] => []
  | (.normal, s) :: r => s :: normals r
  | _ :: r => normals r

def others : Ex → Ex
  | [] => []
  | (.normal, _) :: r => others r
  | x :: r => x :: others r

def allX (f : St → Option Ex) : List St → Option Ex
  | [] => some []
  | s :: r => match f s, allX f r with
    | some a, some b => some (a ++ b)
    | _, _ => none

/-! ### equal states -/
def leqB {α : Type} (f : α → α → Bool) : List α → List α → Bool
  | [], [] => true
  | a :: as, b :: bs => f a b && leqB f as bs
  | _, _ => false

def veq : Nat → Value → Value → Bool
  | 0, _, _ => false
  | n + 1, a, b => match a, b with
    | .bool x, .bool y => x == y
    | .int k x, .int l y => decide (k = l) && decide (x = y)
    | .float k x, .float l y => decide (k = l) && decide (x = y)
    | .complex k x u, .complex l y v => decide (k = l) && decide (x = y) && decide (u = v)
    | .string x, .string y => leqB (fun a b => decide (a = b)) x.data.toList y.data.toList
    | .pointer x, .pointer y => decide (x = y)
    | .slice x l c, .slice y m d => decide (x = y) && decide (l = m) && decide (c = d)
    | .map x, .map y => decide (x = y)
    | .chan x, .chan y => decide (x = y)
    | .func f x u, .func g y v => decide (f = g) && leqB (veq n) x.toList y.toList && leqB (veq n) u.toList v.toList
    | .nilFunc, .nilFunc => true
    | .iface t x, .iface u y => decide (t = u) && veq n x y
    | .nilIface, .nilIface => true
    | .agg x, .agg y => leqB (veq n) x.toList y.toList
    | .tuple x, .tuple y => leqB (veq n) x.toList y.toList
    | _, _ => false

def entEq (a b : MapEntry) : Bool := veq 9 a.key b.key && veq 9 a.val b.val && decide (a.born = b.born)

def objEq : Obj → Obj → Bool
  | .cells c t fr, .cells c' t' fr' => leqB (veq 9) c.toList c'.toList && decide (t = t') && decide (fr = fr')
  | .map es c, .map es' c' => leqB entEq es.toList es'.toList && decide (c = c')
  | .coro none, .coro none => true
  | .chan i c x t y z, .chan i' c' x' t' y' z' => decide (i = i') && leqB (veq 9) c.toList c'.toList && decide (x = x') && decide (t = t') && decide (y = y') && decide (z = z')
  | .mapIter m s se st, .mapIter m' s' se' st' => decide (m = m') && decide (s = s') && leqB (fun a b => decide (a = b)) se.toList se'.toList && decide (st = st')
  | _, _ => false

def stEq (s t : St) : Bool := decide (s.u = t.u) && leqB (veq 9) s.tm t.tm && leqB objEq s.hp t.hp

def dedup : List St → List St
  | [] => []
  | [s] => [s]
  | s :: r => if (dedup r).any (stEq s) then dedup r else s :: dedup r

def loopR (f : St → Option Ex) : Nat → List St → Option Ex
  | 0, _ => none
  | _ + 1, [] => some []
  | n + 1, s :: r => match allX f (s :: r) with
    | none => none
    | some outs => match loopR f n (dedup (normals outs)) with
      | none => none
      | some more => some (others outs ++ more)

def codeR (P : Program) (call : CallF) (drawn : Array Oper → St → Option (List St)) (fuel : Nat) : Code → St → Option Ex
  | .skip, s => some [(.normal, s)]
  | .region _ ops draw, s =>
    (match (if draw then drawn ops s else opsR P call ops.toList ops.toList s) with
     | some l => some (l.map fun s => (.normal, s))
     | none => none)
  | .seq a b, s => match codeR P call drawn fuel a s with
    | some outs => bindX (codeR P call drawn fuel b) outs
    | none => none
  | .cond c a b, s => if xOk c then (match rho s.tm c with
    | .bool true => codeR P call drawn fuel a s
    | .bool false => codeR P call drawn fuel b s
    | _ => none) else none
  | .block id c, s => match codeR P call drawn fuel c s with
    | some outs => some (outs.map (unexit id))
    | none => none
  | .loop c, s => loopR (codeR P call drawn fuel c) fuel [s]
  | .exit id, s => some [(.exit id, s)]
  | .ret, s => some [(.ret, s)]
  | _, _ => none

def resR (P : Program) (tm : List Value) (h : List Obj) : List ResultVar → Option (List Value)
  | [] => some []
  | .tmp t :: r => match resR P tm h r with
    | some l => some (tm.getD t undef :: l)
    | none => none
  | .cell a t :: r => match tm.getD a undef, resR P tm h r with
    | .pointer (some p), some l => (match loadR P h t p with | some v => some (v :: l) | none => none)
    | _, _ => none

def packR : List Value → Value
  | [v] => v
  | l => .tuple ⟨l⟩

def endR (P : Program) (fn : Func) : Ex → Option Outs
  | [] => some []
  | (e, s) :: r => match (match e with | .normal => true | .ret => true | _ => false), resR P s.tm s.hp fn.results.toList, endR P fn r with
    | true, some vs, some l => some ((packR vs, s.hp, s.u) :: l)
    | _, _, _ => none

def outEq (a b : Value × List Obj × Nat) : Bool := decide (a.2.2 = b.2.2) && veq 9 a.1 b.1 && leqB objEq a.2.1 b.2.1

def dedupO : Outs → Outs
  | [] => []
  | [s] => [s]
  | s :: r => if (dedupO r).any (outEq s) then dedupO r else s :: dedupO r

def eachR (g : Nat → Option (List St)) : List Nat → Option (List St)
  | [] => some []
  | i :: r => match g i, eachR g r with
    | some a, some b => some (a ++ b)
    | _, _ => none

/-- May operation i of the region be taken first? -/
def freeR (P : Program) (ops : Array Oper) (listed : Array Bool) (s : St) (i : Nat) : Bool :=
  match ops[i]? with
  | some o => (wantR ops.toList s.tm o == false || (o.op.operands.toList.all xOk && (pureR P (rho s.tm) o).isSome)) && Region.free .any ops listed i
  | none => false

def drawR (P : Program) (call : CallF) (ops : Array Oper) : Nat → Array Bool → St → Option (List St)
  | 0, listed, s => if (Region.ready .any ops listed).isEmpty then some [s] else none
  | n + 1, listed, s =>
    match Region.ready .any ops listed with
    | [] => some [s]
    | i :: rs =>
      match (i :: rs).find? (freeR P ops listed s) with
      | some j => (match ops[j]? with
        | some o => (match opR P call ops.toList o s with
          | some [s'] => drawR P call ops n (listed.setIfInBounds j true) s'
          | _ => none)
        | none => none)
      | none => eachR (fun j => match ops[j]? with
          | some o => (match opR P call ops.toList o s with
            | some l => bindAll (drawR P call ops n (listed.setIfInBounds j true)) l
            | none => none)
          | none => none) (i :: rs)

def regionR (P : Program) (call : CallF) (ops : Array Oper) (s : St) : Option (List St) :=
  if Region.noSelect ops then
    match drawR P call ops ops.size (Array.replicate ops.size false) s with
    | some l => some (dedup l)
    | none => none
  else none

def funR (P : Program) (fuel : Nat) : Nat → CallF
  | 0, _, _, _, _ => none
  | n + 1, f, args, h, u =>
    match P.funcs.toList[f]? with
    | some fn => match fn.body with
      | some c => (match codeR P (funR P fuel n) (regionR P (funR P fuel n)) fuel c ⟨args ++ List.replicate (fn.ntmps - args.length) undef, h, u⟩ with
        | some outs => (match endR P fn outs with
          | some l => some (dedupO l)
          | none => none)
        | none => none)
      | none => none
    | none => none

end Go.Rel
