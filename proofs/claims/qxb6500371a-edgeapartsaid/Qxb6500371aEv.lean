import Derived.Orders
import Derived.Tactics
set_option linter.unusedSimpArgs false
set_option linter.unusedVariables false
namespace Go.Rel

/-! The evaluator on relative worlds. Block i of the list 'h' stands for block N + i of the true heap. -/

def tyI (P : Program) (t : TypeId) : Option TypeInfo := P.types.toList[t]?

def tyU (P : Program) (t : TypeId) : Option TypeDesc :=
  match tyI P t with
  | some i => match i.desc with
    | .named _ u => (match tyI P u with | some j => some j.desc | none => none)
    | d => some d
  | none => none

def aggB : TypeDesc → Bool
  | .struct _ | .array _ _ => true
  | _ => false

def tySz (P : Program) (t : TypeId) : Option Nat :=
  match tyI P t with
  | some i => some i.size
  | none => none

/-- Values that hold no address and nothing that stands for an unknown. -/
def scal : Value → Bool
  | .bool _ | .int _ _ | .string _ | .complex _ _ _ | .nilFunc | .nilIface | .pointer none | .map none => true
  | .float _ b => decide (b < 18446744073709551616)
  | .slice none _ c => decide (c < 18446744073709551616)
  | .tuple vs => vs.toList.isEmpty
  | _ => false

def cellsL : Value → List Value
  | .agg cs => cs.toList
  | v => [v]

def zeroR (P : Program) (t : TypeId) : Option Value :=
  match tyI P t with
  | some i => match i.zero with
    | some z => if (cellsL z).all scal then some z else none
    | none => none
  | none => none

def xOk : Operand → Bool
  | .const v => scal v
  | .global _ => false
  | _ => true

/-- What an operand holds. -/
def rho (tm : List Value) : Operand → Value
  | .tmp t => tm.getD t undef
  | .const v => v
  | .global _ => undef
  | .func f => .func (.func f) #[] #[]

def prun {α : Type} (P : Program) : Sem α → Option α
  | .pure a => some a
  | .program k => prun P (k P)
  | _ => none

/-! ### parts of aggregates -/
def partR (P : Program) (t : TypeId) (cs : List Value) (off : Nat) : Option Value :=
  match tyU P t, tySz P t with
  | some d, some n => if aggB d then some (.agg ⟨(cs.drop off).take n⟩) else cs[off]?
  | _, _ => none

def splice (l : List Value) (off : Nat) (vs : List Value) : List Value := l.take off ++ vs ++ l.drop (off + vs.length)

def fillR (place : Nat → Option (Nat × Nat)) : List Value → List (Nat × Value) → Option (List Value)
  | cells, [] => some cells
  | cells, (i, v) :: rest =>
    match place i with
    | none => none
    | some (off, size) =>
      if (cellsL v).length = size ∧ off + (cellsL v).length ≤ cells.length then fillR place (splice cells off (cellsL v)) rest else none

def placesR (P : Program) : List Field → Option (List (Nat × Nat))
  | [] => some []
  | f :: fs =>
    match tySz P f.type, placesR P fs with
    | some n, some l => some ((f.offset, n) :: l)
    | _, _ => none

def buildR (P : Program) (t : TypeId) (parts : List (Nat × Value)) : Option Value :=
  match zeroR P t, tyU P t with
  | some z, some (.struct fields) =>
    match placesR P fields.toList with
    | some places => match fillR (fun i => places[i]?) (cellsL z) parts with
      | some cs => some (.agg ⟨cs⟩)
      | none => none
    | none => none
  | some z, some (.array _ elem) =>
    match tySz P elem with
    | some size => match fillR (fun i => some (i * size, size)) (cellsL z) parts with
      | some cs => some (.agg ⟨cs⟩)
      | none => none
    | none => none
  | _, _ => none

/-! ### memory -/
def rd (h : List Obj) (a : Addr) (n : Nat) : Option (List Value) :=
  match a.spot, h[a.block]? with
  | none, some (.cells c _ _) => if a.off + n ≤ c.toList.length then some ((c.toList.drop a.off).take n) else none
  | _, _ => none

def flatV : Value → Bool
  | .agg _ | .tuple _ => false
  | _ => true

def wr (h : List Obj) (a : Addr) (vs : List Value) : Option (List Obj) :=
  match a.spot, h[a.block]? with
  | none, some (.cells c e fr) =>
    if fr = (0, 0) ∧ a.off + vs.length ≤ c.toList.length ∧ vs.all flatV = true then some (h.set a.block (.cells ⟨splice c.toList a.off vs⟩ e fr)) else none
  | _, _ => none

def loadR (P : Program) (h : List Obj) (t : TypeId) (a : Addr) : Option Value :=
  match tyU P t, tySz P t with
  | some d, some n => if aggB d then (match rd h a n with | some vs => some (.agg ⟨vs⟩) | none => none) else (match rd h a 1 with | some [v] => some v | _ => none)
  | _, _ => none

def storeR (P : Program) (h : List Obj) (t : TypeId) (a : Addr) (v : Value) : Option (List Obj) :=
  match tySz P t with
  | some n => if (cellsL v).length = n then wr h a (cellsL v) else none
  | none => none

/-! ### equality -/
def eqScal : TypeDesc → Value → Value → Option Bool
  | .bool, .bool a, .bool b => some (a == b)
  | .int _, .int k a, .int k' b => if k = k' then some (a == b) else none
  | .string, .string a, .string b => some (a.data.toList == b.data.toList)
  | .pointer _, .pointer none, .pointer none => some true
  | .pointer _, .pointer none, .pointer (some _) => some false
  | .pointer _, .pointer (some _), .pointer none => some false
  | .interface _, .nilIface, .nilIface => some true
  | .interface _, .nilIface, .iface _ _ => some false
  | .interface _, .iface _ _, .nilIface => some false
  | .slice _, .slice none _ _, .slice none _ _ => some true
  | .slice _, .slice none _ _, .slice (some _) _ _ => some false
  | .slice _, .slice (some _) _ _, .slice none _ _ => some false
  | .map _ _, .map none, .map none => some true
  | .map _ _, .map none, .map (some _) => some false
  | .map _ _, .map (some _), .map none => some false
  | .func _ _ _, .nilFunc, .nilFunc => some true
  | .func _ _ _, .nilFunc, .func _ _ _ => some false
  | .func _ _ _, .func _ _ _, .nilFunc => some false
  | _, _, _ => none

def eqFields (P : Program) (xs ys : List Value) : List Field → Option Bool
  | [] => some true
  | f :: fs =>
    if f.name = "_" then eqFields P xs ys fs else
    match tyU P f.type, partR P f.type xs f.offset, partR P f.type ys f.offset with
    | some d, some x, some y => match eqScal d x y with
      | some true => eqFields P xs ys fs
      | some false => some false
      | none => none
    | _, _, _ => none

def eqR (P : Program) (t : TypeId) (x y : Value) : Option Bool :=
  match tyU P t with
  | some (.struct fields) => (match x, y with
    | .agg xs, .agg ys => if P.stoodInHeld t = false then eqFields P xs.toList ys.toList fields.toList else none
    | _, _ => none)
  | some d => eqScal d x y
  | none => none

def guardR (P : Program) (t : TypeId) (x y : Operand) (a b : Value) : Bool :=
  match a, b with
  | .nilIface, .nilIface => (match x, y with | .const _, _ => true | _, .const _ => true | _, _ => false)
  | .agg _, .agg _ => !P.eqGuardType P.depth t
  | _, _ => true

def strOp : BinOp → ByteArray → ByteArray → Option Value
  | .add, a, b => if a.data.toList.length + b.data.toList.length < 1000000000000 then some (.string ⟨⟨a.data.toList ++ b.data.toList⟩⟩) else none
  | .eql, a, b => some (.bool (a.data.toList == b.data.toList))
  | .neq, a, b => some (.bool (!(a.data.toList == b.data.toList)))
  | _, _, _ => none

def scalO : Option Value → Option Value
  | some v => if scal v then some v else none
  | none => none

def numV : Value → Bool
  | .int _ _ => true
  | .float _ b => decide (b < 18446744073709551616)
  | .complex _ _ _ => true
  | _ => false

def binR (P : Program) (op : BinOp) (t : TypeId) (x y : Operand) (a b : Value) : Option Value :=
  match a, b with
  | .string s, .string u => strOp op s u
  | a, b =>
    if numV a && numV b then scalO (prun P (binOp op t a b)) else
    match op with
    | .eql => if guardR P t x y a b then (match eqR P t a b with | some r => some (.bool r) | none => none) else none
    | .neq => if guardR P t x y a b then (match eqR P t a b with | some r => some (.bool (!r)) | none => none) else none
    | _ => none

def bndR : Option Value → Nat → Nat → Option Nat
  | none, d, _ => some d
  | some (.int _ i), _, y => if 0 ≤ i ∧ i ≤ (y : Int) then some i.toNat else none
  | _, _, _ => none

def addrAdd (a : Addr) (n : Nat) : Addr := ⟨a.block, a.off + n, none⟩

def getF (P : Program) (s : TypeId) (i : Nat) : Option Field :=
  match tyU P s with
  | some (.struct fs) => fs.toList[i]?
  | _ => none

def fieldAddrR (P : Program) (s : TypeId) (a : Addr) (i : Nat) : Option Addr :=
  match a.spot, getF P s i with
  | none, some f => match tySz P f.type with
    | some (_ + 1) => some (addrAdd a f.offset)
    | _ => none
  | _, _ => none

def lacks (want : List (String × TypeId)) (got : List Method) : Bool :=
  want.any fun w => !got.any fun m => m.name == w.1 && m.sig == w.2

def assertR (P : Program) (x : Value) (asserted : TypeId) : Option Value :=
  match tyU P asserted, x, zeroR P asserted with
  | some (.interface _), .nilIface, some z => some (.tuple #[z, .bool false])
  | some (.interface want), .iface t v, some z => (match tyI P t with
    | some i => if lacks want.toList i.methods.toList then some (.tuple #[z, .bool false]) else some (.tuple #[.iface t v, .bool true])
    | none => none)
  | some _, .nilIface, some z => some (.tuple #[z, .bool false])
  | some _, .iface t v, some z => if t = asserted then some (.tuple #[v, .bool true]) else some (.tuple #[z, .bool false])
  | _, _, _ => none

def numB : Builtin → Bool
  | .complex | .real | .imag | .min | .max => true
  | _ => false

/-- Operations that neither look into memory nor touch it. -/
def pureR (P : Program) (ρ : Operand → Value) (o : Oper) : Option Value :=
  match o.op with
  | .move x => some (ρ x)
  | .assign x => some (ρ x)
  | .pick c a b => match ρ c with
    | .bool t => some (if t then ρ a else ρ b)
    | _ => none
  | .nilCheck x => match ρ x with
    | .pointer (some a) => some (.pointer (some a))
    | .iface t v => some (.iface t v)
    | .func (.func f) a b => some (.func (.func f) a b)
    | _ => none
  | .binOp op t x y _ => binR P op t x y (ρ x) (ρ y)
  | .unOp op _ x => if scal (ρ x) then scalO (prun P (Op.unary op (ρ x))) else none
  | .convert src dst x => if scal (ρ x) then scalO (prun P (convert src dst (ρ x))) else none
  | .makeInterface t x => match tyU P t with
    | some (.interface _) => none
    | some _ => some (.iface t (ρ x))
    | none => none
  | .makeFunc fn first captured => some (.func fn ⟨first.toList.map ρ⟩ ⟨captured.toList.map ρ⟩)
  | .fieldAddr s x i => match ρ x with
    | .pointer (some a) => (match fieldAddrR P s a i with | some b => some (.pointer (some b)) | none => none)
    | _ => none
  | .field s x i => match ρ x, getF P s i with
    | .agg cs, some f => partR P f.type cs.toList f.offset
    | _, _ => none
  | .indexAddr t x ix => match tyU P t, ρ x, ρ ix with
    | some (.array n e), .pointer (some a), .int _ i =>
      if a.spot = none ∧ 0 ≤ i ∧ i < (n : Int) then (match tySz P e with | some z => some (.pointer (some (addrAdd a (i.toNat * z)))) | none => none) else none
    | some (.slice e), .slice (some a) n _, .int _ i =>
      if a.spot = none ∧ 0 ≤ i ∧ i < (n : Int) then (match tySz P e with | some z => some (.pointer (some (addrAdd a (i.toNat * z)))) | none => none) else none
    | _, _, _ => none
  | .index t x ix => match tyU P t, ρ x, ρ ix with
    | some (.array n e), .agg cs, .int _ i =>
      if 0 ≤ i ∧ i < (n : Int) then (match tySz P e with | some z => partR P e cs.toList (i.toNat * z) | none => none) else none
    | _, _, _ => none
  | .slice t x lo hi mx => match tyU P t, ρ x, mx with
    | some (.array n e), .pointer (some a), none =>
      if a.spot = none ∧ n < 18446744073709551616 then
        match tySz P e, bndR (hi.map ρ) n n with
        | some z, some h => (match bndR (lo.map ρ) 0 h with
          | some l => some (.slice (some (if n = l then a else addrAdd a (l * z))) (h - l) (n - l))
          | none => none)
        | _, _ => none
      else none
    | _, _, _ => none
  | .extract t i => match ρ t with
    | .tuple vs => vs.toList[i]?
    | _ => none
  | .typeAssert x _ u ok => if ok then assertR P (ρ x) u else none
  | .build t parts => buildR P t (parts.toList.map fun p => (p.1, ρ p.2))
  | .call c => match c.callee, c.args.toList, c.argTypes.toList with
    | .builtin .len, [x], [t] => (match tyU P t, ρ x with
      | some (.slice _), .slice _ n _ => some (.int .i64 n)
      | some .string, .string s => some (.int .i64 s.data.toList.length)
      | some (.array n _), _ => some (.int .i64 n)
      | _, _ => none)
    | .builtin b, args, ts =>
      if args.all (fun x => scal (ρ x)) && numB b then
        (match prun P (builtin b ⟨ts⟩ o.type #[] ⟨args.map ρ⟩) with | some (.value v) => if scal v then some v else none | _ => none)
      else none
    | _, _, _ => none
  | _ => none

/-! ### maps -/
def sameK : Value → Value → Option Bool
  | .int k a, .int k' b => if k = k' then some (a == b) else none
  | _, _ => none

def findR (k : Value) : List MapEntry → Nat → Option (Option (Nat × Value))
  | [], _ => some none
  | e :: es, i =>
    match sameK k e.key with
    | some true => some (some (i, e.val))
    | some false => findR k es (i + 1)
    | none => none

def isIntT (P : Program) (t : TypeId) : Bool :=
  match tyU P t with
  | some (.int _) => true
  | _ => false

def isU8T (P : Program) (t : TypeId) : Bool :=
  match tyU P t with
  | some (.int .u8) => true
  | _ => false

def mapOf (h : List Obj) : Value → Option (Nat × List MapEntry × Nat)
  | .map (some r) => match h[r]? with
    | some (.map es c) => some (r, es.toList, c)
    | _ => none
  | _ => none

def modE (es : List MapEntry) (i : Nat) (k v : Value) : List MapEntry :=
  match es[i]? with
  | some e => es.set i ⟨k, v, e.born⟩
  | none => es

/-- The entries that a range may give next; 'none': it may end. -/
def candR (es : List MapEntry) (since : Nat) (seen : List Nat) : List (Option MapEntry) :=
  (if (es.filter fun e => !seen.contains e.born && decide (e.born < since)).isEmpty then [none] else []) ++
  ((es.filter fun e => !seen.contains e.born && decide (e.born < since)) ++ (es.filter fun e => !seen.contains e.born && !decide (e.born < since))).map some

def newR (h : List Obj) (o : Obj) : List Obj := h ++ [o]

abbrev Outs := List (Value × List Obj)

def one (v : Value) (h : List Obj) : Option Outs := some [(v, h)]

def bytesOfR : List Value → Option (List UInt8)
  | [] => some []
  | .int .u8 n :: r => match bytesOfR r with
    | some l => some (UInt8.ofNat n.toNat :: l)
    | none => none
  | _ :: _ => none

/-- Operations on memory that are no calls of Go functions. -/
def heapR (P : Program) (ρ : Operand → Value) (h : List Obj) (o : Oper) : Option Outs :=
  match o.op with
  | .alloc t => match zeroR P t with
    | some z => one (.pointer (some ⟨h.length, 0, none⟩)) (newR h (.cells ⟨cellsL z⟩ t (0, 0)))
    | none => none
  | .box t x => one (.pointer (some ⟨h.length, 0, none⟩)) (newR h (.cells ⟨cellsL (ρ x)⟩ t (0, 0)))
  | .buildSlice t len parts => match tyU P t with
    | some (.slice e) => (match tySz P e, zeroR P e with
      | some z, some zv =>
        if len * z ≤ 65536 ∧ 0 < len * z ∧ 0 < (cellsL zv).length then
          match fillR (fun i => some (i * z, z)) ((List.range (len * z)).map fun i => (cellsL zv).getD (i % (cellsL zv).length) undef) (parts.toList.map fun p => (p.1, ρ p.2)) with
          | some cs => one (.slice (some ⟨h.length, 0, none⟩) len len) (newR h (.cells ⟨cs⟩ e (0, 0)))
          | none => none
        else none
      | _, _ => none)
    | _ => none
  | .load t x => match ρ x with
    | .pointer (some a) => (match loadR P h t a with | some v => one v h | none => none)
    | _ => none
  | .store t x y => match ρ x with
    | .pointer (some a) => (match storeR P h t a (ρ y) with | some h' => one undef h' | none => none)
    | _ => none
  | .convert src dst x => match tyU P src, tyU P dst, ρ x with
    | some (.slice e), some .string, .slice (some a) n _ =>
      if isU8T P e then
        (match rd h a n with | some vs => (match bytesOfR vs with | some l => one (.string ⟨⟨l⟩⟩) h | none => none) | none => none)
      else none
    | _, _, _ => none
  | .makeMap _ none => one (.map (some h.length)) (newR h (.map #[] 0))
  | .lookup t m k ok => match tyU P t, ρ m with
    | some (.map kt et), .map (some r) => (match h[r]?, zeroR P et with
      | some (.map es _), some z =>
        if isIntT P kt then
          match findR (ρ k) es.toList 0 with
          | some (some (_, v)) => one (if ok then .tuple #[v, .bool true] else v) h
          | some none => one (if ok then .tuple #[z, .bool false] else z) h
          | none => none
        else none
      | _, _ => none)
    | _, _ => none
  | .mapUpdate t m k v => match tyU P t, ρ m with
    | some (.map kt _), .map (some r) => (match h[r]? with
      | some (.map es c) =>
        if isIntT P kt then
          match findR (ρ k) es.toList 0 with
          | some (some (i, _)) => one undef (h.set r (.map ⟨modE es.toList i (ρ k) (ρ v)⟩ c))
          | some none => one undef (h.set r (.map ⟨es.toList ++ [⟨ρ k, ρ v, c⟩]⟩ (c + 1)))
          | none => none
        else none
      | _ => none)
    | _, _ => none
  | .range t x => match tyU P t, ρ x with
    | some (.map _ _), .map (some r) => (match h[r]? with
      | some (.map _ c) => one (.pointer (some ⟨h.length, 0, none⟩)) (newR h (.mapIter (some r) c #[] c))
      | _ => none)
    | _, _ => none
  | .next x false => match ρ x with
    | .pointer (some ⟨b, 0, none⟩) => (match h[b]? with
      | some (.mapIter (some m) since seen last) => (match h[m]? with
        | some (.map es c) =>
          if !seen.toList.isEmpty && !es.toList.isEmpty && es.toList.all (fun e => decide (e.born ≥ last)) then none else
          some ((candR es.toList since seen.toList).map fun
            | some e => (.tuple #[.bool true, e.key, e.val], h.set b (.mapIter (some m) since ⟨seen.toList ++ [e.born]⟩ c))
            | none => (.tuple #[.bool false], h))
        | _ => none)
      | _ => none)
    | _ => none
  | .entry x => match ρ x with
    | .pointer (some ⟨b, 0, none⟩) => (match h[b]? with
      | some (.mapIter (some m) _ seen stepped) => (match h[m]?, seen.toList.getLast? with
        | some (.map es c), some stamp =>
          if c = stepped then
            match es.toList.find? (fun e => e.born == stamp) with
            | some e => one (.tuple #[e.key, e.val]) h
            | none => none
          else none
        | _, _ => none)
      | _ => none)
    | _ => none
  | .call c => match c.callee, c.args.toList, c.argTypes.toList with
    | .builtin .len, [x], [t] => (match tyU P t, ρ x with
      | some (.map _ _), .map (some r) => (match h[r]? with
        | some (.map es _) => one (.int .i64 es.toList.length) h
        | _ => none)
      | _, _ => none)
    | .builtin .delete, [x, k], [t, _] => (match tyU P t, ρ x with
      | some (.map kt _), .map (some r) => (match h[r]? with
        | some (.map es c) =>
          if isIntT P kt then
            match findR (ρ k) es.toList 0 with
            | some (some (i, _)) => one (.tuple #[]) (h.set r (.map ⟨es.toList.eraseIdx i⟩ c))
            | some none => one (.tuple #[]) (h.set r (.map ⟨es.toList⟩ c))
            | none => none
          else none
        | _ => none)
      | _, _ => none)
    | _, _, _ => none
  | _ => none

/-! ### calls -/
def getP (P : Program) (h : List Obj) (t : TypeId) : Value ⊕ Addr → Option Value
  | .inl v => some v
  | .inr a => loadR P h t a

def followR (P : Program) (h : List Obj) : List FieldStep → TypeId → Value ⊕ Addr → Option (TypeId × (Value ⊕ Addr))
  | [], t, x => some (t, x)
  | s :: rest, t, x =>
    match getF P s.struct s.index with
    | none => none
    | some f =>
      if s.deref then
        match getP P h t x with
        | some (.pointer (some a)) => (match fieldAddrR P s.struct a s.index with
          | some b => followR P h rest f.type (.inr b)
          | none => none)
        | _ => none
      else match x with
        | .inr a => (match fieldAddrR P s.struct a s.index with
          | some b => followR P h rest f.type (.inr b)
          | none => none)
        | .inl (.agg cs) => (match partR P f.type cs.toList f.offset with
          | some v => followR P h rest f.type (.inl v)
          | none => none)
        | _ => none

def recvR (P : Program) (h : List Obj) (xt : TypeId) (x : Value ⊕ Addr) (ptr : Bool) : Option Value :=
  match tyU P xt, ptr, x with
  | some (.pointer _), true, x => getP P h xt x
  | some (.pointer _), false, _ => none
  | some _, true, .inr a => some (.pointer (some a))
  | some _, true, .inl _ => none
  | some _, false, x => getP P h xt x
  | none, _, _ => none

def methodR (P : Program) (h : List Obj) (name : String) : Nat → TypeId → Value → Option (FuncId × Value)
  | 0, _, _ => none
  | n + 1, t, v =>
    match tyI P t with
    | none => none
    | some i => match i.methods.toList.find? (fun m => m.name == name) with
      | none => none
      | some m => match followR P h m.path.toList t (.inl v) with
        | none => none
        | some (xt, x) => match m.func with
          | none => (match getP P h xt x with
            | some (.iface t' v') => methodR P h name n t' v'
            | _ => none)
          | some (f, ptr) => (match recvR P h xt x ptr with
            | some r => some (f, r)
            | none => none)

/-- Which Go function a call enters, and with which arguments. -/
def callR (P : Program) (ρ : Operand → Value) (h : List Obj) (o : Oper) : Option (FuncId × List Value) :=
  match o.op with
  | .call c => match c.callee with
    | .value f => (match ρ f with
      | .func (.func g) first captured => some (g, first.toList ++ c.args.toList.map ρ ++ captured.toList)
      | .func (.method name) first _ => (match first.toList ++ c.args.toList.map ρ with
        | .iface t v :: rest => (match methodR P h name 50 t v with
          | some (g, r) => some (g, r :: rest)
          | none => none)
        | _ => none)
      | _ => none)
    | .invoke r name => (match ρ r with
      | .iface t v => (match methodR P h name 50 t v with
        | some (g, r) => some (g, r :: c.args.toList.map ρ)
        | none => none)
      | _ => none)
    | .builtin _ => none
  | _ => none

structure St where
  tm : List Value
  hp : List Obj

def St.put (s : St) (dst : Option Tmp) (v : Value) : St :=
  match dst with
  | some d => ⟨s.tm.set d v, s.hp⟩
  | none => s

def putAll (tm : List Value) (dst : Option Tmp) : Outs → List St
  | [] => []
  | (v, h) :: r => (St.put ⟨tm, h⟩ dst v) :: putAll tm dst r

def wantR (ops : List Oper) (tm : List Value) (o : Oper) : Bool :=
  match o.guard with
  | none => true
  | some (j, want) => match ops[j]? with
    | some p => match p.dst with
      | some d => (match tm[d]? with
        | some (.bool b) => b == want
        | _ => false)
      | none => false
    | none => false

abbrev CallF := FuncId → List Value → List Obj → Option Outs

/-- One operation of a region. -/
def opR (P : Program) (call : CallF) (ops : List Oper) (o : Oper) (s : St) : Option (List St) :=
  if wantR ops s.tm o then
    if o.op.operands.toList.all xOk then
      match pureR P (rho s.tm) o with
      | some v => some [s.put o.dst v]
      | none => match heapR P (rho s.tm) s.hp o with
        | some outs => some (putAll s.tm o.dst outs)
        | none => match callR P (rho s.tm) s.hp o with
          | some (f, args) => (match call f args s.hp with
            | some outs => some (putAll s.tm o.dst outs)
            | none => none)
          | none => none
    else none
  else some [s.put o.dst undef]

def bindAll (f : St → Option (List St)) : List St → Option (List St)
  | [] => some []
  | s :: r => match f s, bindAll f r with
    | some a, some b => some (a ++ b)
    | _, _ => none

def opsR (P : Program) (call : CallF) (ops : List Oper) : List Oper → St → Option (List St)
  | [], s => some [s]
  | o :: r, s => match opR P call ops o s with
    | some [s'] => opsR P call ops r s'
    | some l => bindAll (opsR P call ops r) l
    | none => none

abbrev Ex := List (Exit × St)

def bindX (f : St → Option Ex) : Ex → Option Ex
  | [] => some []
  | (.normal, s) :: r => match f s, bindX f r with
    | some a, some b => some (a ++ b)
    | _, _ => none
  | (e, s) :: r => match bindX f r with
    | some b => some ((e, s) :: b)
    | none => none

def unexit (id : Nat) : Exit × St → Exit × St
  | (.exit j, s) => if j = id then (.normal, s) else (.exit j, s)
  | x => x

def normals : Ex → List St
  | [] => []
  | (.normal, s) :: r => s :: normals r
  | _ :: r => normals r

def others : Ex → Ex
  | [] => []
  | (.normal, _) :: r => others r
  | x :: r => x :: others r

def allX (f : St → Option Ex) : List St → Option Ex
  | [] => some []
  | s :: r => match f s, allX f r with
    | some a, some b => some (a ++ b)
    | _, _ => none

/-! ### equal states -/
def leqB {α : Type} (f : α → α → Bool) : List α → List α → Bool
  | [], [] => true
  | a :: as, b :: bs => f a b && leqB f as bs
  | _, _ => false

def veq : Nat → Value → Value → Bool
  | 0, _, _ => false
  | n + 1, a, b => match a, b with
    | .bool x, .bool y => x == y
    | .int k x, .int l y => decide (k = l) && decide (x = y)
    | .float k x, .float l y => decide (k = l) && decide (x = y)
    | .complex k x u, .complex l y v => decide (k = l) && decide (x = y) && decide (u = v)
    | .string x, .string y => leqB (fun a b => decide (a = b)) x.data.toList y.data.toList
    | .pointer x, .pointer y => decide (x = y)
    | .slice x l c, .slice y m d => decide (x = y) && decide (l = m) && decide (c = d)
    | .map x, .map y => decide (x = y)
    | .func f x u, .func g y v => decide (f = g) && leqB (veq n) x.toList y.toList && leqB (veq n) u.toList v.toList
    | .nilFunc, .nilFunc => true
    | .iface t x, .iface u y => decide (t = u) && veq n x y
    | .nilIface, .nilIface => true
    | .agg x, .agg y => leqB (veq n) x.toList y.toList
    | .tuple x, .tuple y => leqB (veq n) x.toList y.toList
    | _, _ => false

def entEq (a b : MapEntry) : Bool := veq 9 a.key b.key && veq 9 a.val b.val && decide (a.born = b.born)

def objEq : Obj → Obj → Bool
  | .cells c t fr, .cells c' t' fr' => leqB (veq 9) c.toList c'.toList && decide (t = t') && decide (fr = fr')
  | .map es c, .map es' c' => leqB entEq es.toList es'.toList && decide (c = c')
  | .mapIter m s se st, .mapIter m' s' se' st' => decide (m = m') && decide (s = s') && leqB (fun a b => decide (a = b)) se.toList se'.toList && decide (st = st')
  | _, _ => false

def stEq (s t : St) : Bool := leqB (veq 9) s.tm t.tm && leqB objEq s.hp t.hp

def dedup : List St → List St
  | [] => []
  | [s] => [s]
  | s :: r => if (dedup r).any (stEq s) then dedup r else s :: dedup r

def loopR (f : St → Option Ex) : Nat → List St → Option Ex
  | 0, _ => none
  | _ + 1, [] => some []
  | n + 1, s :: r => match allX f (s :: r) with
    | none => none
    | some outs => match loopR f n (dedup (normals outs)) with
      | none => none
      | some more => some (others outs ++ more)

def codeR (P : Program) (call : CallF) (drawn : Array Oper → St → Option (List St)) (fuel : Nat) : Code → St → Option Ex
  | .skip, s => some [(.normal, s)]
  | .region _ ops draw, s =>
    (match (if draw then drawn ops s else opsR P call ops.toList ops.toList s) with
     | some l => some (l.map fun s => (.normal, s))
     | none => none)
  | .seq a b, s => match codeR P call drawn fuel a s with
    | some outs => bindX (codeR P call drawn fuel b) outs
    | none => none
  | .cond c a b, s => if xOk c then (match rho s.tm c with
    | .bool true => codeR P call drawn fuel a s
    | .bool false => codeR P call drawn fuel b s
    | _ => none) else none
  | .block id c, s => match codeR P call drawn fuel c s with
    | some outs => some (outs.map (unexit id))
    | none => none
  | .loop c, s => loopR (codeR P call drawn fuel c) fuel [s]
  | .exit id, s => some [(.exit id, s)]
  | .ret, s => some [(.ret, s)]
  | _, _ => none

def resR (P : Program) (tm : List Value) (h : List Obj) : List ResultVar → Option (List Value)
  | [] => some []
  | .tmp t :: r => match resR P tm h r with
    | some l => some (tm.getD t undef :: l)
    | none => none
  | .cell a t :: r => match tm.getD a undef, resR P tm h r with
    | .pointer (some p), some l => (match loadR P h t p with | some v => some (v :: l) | none => none)
    | _, _ => none

def packR : List Value → Value
  | [v] => v
  | l => .tuple ⟨l⟩

def endR (P : Program) (fn : Func) : Ex → Option Outs
  | [] => some []
  | (e, s) :: r => match (match e with | .normal => true | .ret => true | _ => false), resR P s.tm s.hp fn.results.toList, endR P fn r with
    | true, some vs, some l => some ((packR vs, s.hp) :: l)
    | _, _, _ => none

def eachR (g : Nat → Option (List St)) : List Nat → Option (List St)
  | [] => some []
  | i :: r => match g i, eachR g r with
    | some a, some b => some (a ++ b)
    | _, _ => none

/-- May operation i of the region be taken first? -/
def freeR (P : Program) (ops : Array Oper) (listed : Array Bool) (s : St) (i : Nat) : Bool :=
  match ops[i]? with
  | some o => (wantR ops.toList s.tm o == false || (o.op.operands.toList.all xOk && (pureR P (rho s.tm) o).isSome)) && Region.free .any ops listed i
  | none => false

def drawR (P : Program) (call : CallF) (ops : Array Oper) : Nat → Array Bool → St → Option (List St)
  | 0, listed, s => if (Region.ready .any ops listed).isEmpty then some [s] else none
  | n + 1, listed, s =>
    match Region.ready .any ops listed with
    | [] => some [s]
    | i :: rs =>
      match (i :: rs).find? (freeR P ops listed s) with
      | some j => (match ops[j]? with
        | some o => (match opR P call ops.toList o s with
          | some [s'] => drawR P call ops n (listed.setIfInBounds j true) s'
          | _ => none)
        | none => none)
      | none => eachR (fun j => match ops[j]? with
          | some o => (match opR P call ops.toList o s with
            | some l => bindAll (drawR P call ops n (listed.setIfInBounds j true)) l
            | none => none)
          | none => none) (i :: rs)

def regionR (P : Program) (call : CallF) (ops : Array Oper) (s : St) : Option (List St) :=
  if Region.noSelect ops then
    match drawR P call ops ops.size (Array.replicate ops.size false) s with
    | some l => some (dedup l)
    | none => none
  else none

def funR (P : Program) (fuel : Nat) : Nat → CallF
  | 0, _, _, _ => none
  | n + 1, f, args, h =>
    match P.funcs.toList[f]? with
    | some fn => match fn.body with
      | some c => (match codeR P (funR P fuel n) (regionR P (funR P fuel n)) fuel c ⟨args ++ List.replicate (fn.ntmps - args.length) undef, h⟩ with
        | some outs => endR P fn outs
        | none => none)
      | none => none
    | none => none

end Go.Rel
