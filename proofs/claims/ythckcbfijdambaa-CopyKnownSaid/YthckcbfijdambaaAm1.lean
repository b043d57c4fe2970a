/- The abstract machine: a deterministic interpreter of the model's code over abstract values. What was there before a call is a tree (a value without addresses); what the call makes lies in an abstract heap. Definitions alone. -/
import Derived.RangeFuncRecord
import Derived.RangeFuncCalls
import Derived.OrdersIn
namespace Go.Am

/-- A map from numbers to values, as a tree. -/
inductive Trie (α : Type) where
  | leaf : Trie α
  | node (v : Option α) (l r : Trie α) : Trie α

def Trie.get {α : Type} : Trie α → Nat → Option α
  | .leaf, _ => none
  | .node v l r, n => bif Nat.beq n 0 then v else bif Nat.beq (n % 2) 1 then l.get (n / 2) else r.get (n / 2 - 1)

def Trie.put {α : Type} : Nat → Trie α → Nat → α → Trie α
  | 0, t, _, _ => t
  | f + 1, .leaf, n, x =>
    bif Nat.beq n 0 then .node (some x) .leaf .leaf
    else bif Nat.beq (n % 2) 1 then .node none (Trie.put f .leaf (n / 2) x) .leaf else .node none .leaf (Trie.put f .leaf (n / 2 - 1) x)
  | f + 1, .node v l r, n, x =>
    bif Nat.beq n 0 then .node (some x) l r
    else bif Nat.beq (n % 2) 1 then .node v (Trie.put f l (n / 2) x) r else .node v l (Trie.put f r (n / 2 - 1) x)

def Trie.set {α : Type} (t : Trie α) (n : Nat) (x : α) : Trie α := Trie.put (n + 1) t n x

/-- Abstract values. 'lit': a value without addresses. 'ptr', 'slice': places in a row of the abstract heap, as that row was when it had 'ver' cells. 'tree', 'tptr': memory that nobody writes, written out. 'empty': a slice of no length and no capacity that is not nil. -/
inductive AV where
  | lit (v : Value)
  | ptr (id off ver : Nat)
  | slice (id off ver : Nat) (exact : Bool) (len cap : Nat)
  | tree (unit len : Nat) (cells : List AV)
  | tptr (cells : List AV)
  | empty
  | map (id : Nat)
  | func (g : FuncId) (args cap : List AV)
  | yield (l : Nat)
  | iface (t : TypeId) (v : AV)
  | agg (cells : List AV)
  | tuple (vs : List AV)

def ofV : Nat → Value → AV
  | n + 1, .agg cs => .agg (cs.toList.map (ofV n))
  | n + 1, .tuple cs => .tuple (cs.toList.map (ofV n))
  | n + 1, .iface t v => .iface t (ofV n v)
  | _, v => .lit v

abbrev R (α : Type) := Except String α

def ofOpt {α : Type} (o : Option α) (why : String) : R α := match o with | some x => .ok x | none => .error why

def mapR {α β : Type} (f : α → R β) : List α → R (List β)
  | [] => .ok []
  | x :: l => (f x).bind fun y => (mapR f l).bind fun r => .ok (y :: r)

/-- The value itself, if it bears no address. -/
def toV : Nat → AV → R Value
  | _, .lit v => .ok v
  | n + 1, .agg cs => (mapR (toV n) cs).bind fun l => .ok (.agg l.toArray)
  | n + 1, .tuple cs => (mapR (toV n) cs).bind fun l => .ok (.tuple l.toArray)
  | n + 1, .iface t v => (toV n v).bind fun x => .ok (.iface t x)
  | _, _ => .error "an address"

def undefA : AV := .tuple []

def cellsOf : AV → List AV
  | .agg cs => cs
  | .lit (.agg cs) => cs.toList.map .lit
  | v => [v]

/-- What lies at an abstract number. -/
inductive AObj where
  | row (cells : List AV) (unit floor : Nat)
  | map (es : List (Value × AV × Nat)) (clock : Nat)
  | str (s : ByteArray) (pos : Nat)
  | loop (n : Nat) (tmps : Trie AV) (params : List Tmp) (assign body : Code) (state : LoopState) (pending : Option Code) (dfr : Nat)
  | dfr (isOpen : Bool)

structure St where
  heap : Trie AObj
  next : Nat
  low : Nat

/-- What the machine knows of the program, and of functions whose contracts are known ('orc'). -/
structure Env where
  P : Program
  und : Nat → Option TypeDesc
  siz : Nat → Option Nat
  byt : Nat → Option Nat
  zro : Nat → Option Value
  fn : Nat → Option Func
  orc : Nat → Option (List AV → Option AV)

structure AAct where
  n : Nat
  tmps : Trie AV
  marks : List Nat
  rnd : Option Nat

def AAct.get (a : AAct) (t : Nat) : AV := match a.tmps.get t with | some v => v | none => undefA

def AAct.ev (a : AAct) : Operand → AV
  | .tmp t => a.get t
  | .const v => ofV 4 v
  | .global g => .lit (.pointer (some ⟨g, 0, none⟩))
  | .func f => .func f [] []

def AAct.put (a : AAct) (dst : Option Tmp) (v : AV) : R AAct :=
  match dst with
  | none => .ok a
  | some d => bif Nat.blt d a.n then .ok { a with tmps := a.tmps.set d v } else .error "put"

/-- What a computation that asks nothing but the program comes to. -/
def pureVal {α : Type} (P : Program) : Sem α → Option α
  | .pure a => some a
  | .program k => pureVal P (k P)
  | .mark _ k => pureVal P k
  | _ => none

/-! ### Memory -/
def rowOf (S : St) (id : Nat) : R (List AV × Nat × Nat) :=
  match S.heap.get id with
  | some (.row cs u fl) => .ok (cs, u, fl)
  | _ => .error "no row"

def St.new (S : St) (o : AObj) : St := { heap := S.heap.set S.next o, next := S.next + 1, low := S.low }

def St.write (S : St) (id : Nat) (o : AObj) : St := { heap := S.heap.set id o, next := S.next, low := bif Nat.blt id S.low then id else S.low }

/-- n cells of a row, from a place on. -/
def loadN (S : St) (id off ver n : Nat) : R (List AV) :=
  (rowOf S id).bind fun (cs, _, fl) =>
    bif Nat.ble fl ver && Nat.ble (off + n) ver && Nat.ble ver cs.length then .ok ((cs.drop off).take n) else .error "load stale"

def readN (S : St) (p : AV) (n : Nat) : R (List AV) :=
  match p with
  | .ptr id off ver => loadN S id off ver n
  | .tptr cs => bif Nat.ble n cs.length && Nat.blt 0 n then .ok (cs.take n) else .error "load tree"
  | _ => .error "load pointer"

def oneCell : AV → Bool
  | .agg _ => false
  | .tuple _ => false
  | .lit (.agg _) => false
  | .lit (.tuple _) => false
  | _ => true

def spliceL (cs : List AV) (off : Nat) (vs : List AV) : List AV := cs.take off ++ vs ++ cs.drop (off + vs.length)

def storeN (S : St) (id off ver : Nat) (vs : List AV) : R St :=
  (rowOf S id).bind fun (cs, u, fl) =>
    bif Nat.beq cs.length ver && Nat.ble fl ver && Nat.ble (off + vs.length) ver && vs.all oneCell then
      .ok (S.write id (.row (spliceL cs off vs) u ver))
    else .error "store stale"

def isAggT (d : TypeDesc) : Bool := match d with | .struct _ => true | .array _ _ => true | _ => false

def loadVarA (E : Env) (S : St) (t : TypeId) (p : AV) : R AV :=
  (ofOpt (E.und t) "type").bind fun d =>
  bif isAggT d then (ofOpt (E.siz t) "size").bind fun n => (readN S p n).bind fun cs => .ok (.agg cs)
  else (readN S p 1).bind fun cs => match cs with | v :: _ => .ok v | [] => .error "load"

def storeVarA (E : Env) (S : St) (t : TypeId) (p v : AV) : R St :=
  match p with
  | .ptr id off ver =>
    (ofOpt (E.siz t) "size").bind fun n =>
    bif Nat.beq (cellsOf v).length n && !(Nat.beq n 0) then storeN S id off ver (cellsOf v) else .error "storeVar size"
  | _ => .error "store pointer"

def unitOf (E : Env) (t : TypeId) : R Nat :=
  (ofOpt (E.und t) "type").bind fun d =>
  match d with
  | .array _ e => ofOpt (E.siz e) "size"
  | _ => ofOpt (E.siz t) "size"

/-- A new variable. -/
def newVarA (E : Env) (S : St) (t : TypeId) (v : AV) : R (AV × St) :=
  (unitOf E t).bind fun u => .ok (.ptr S.next 0 (cellsOf v).length, S.new (.row (cellsOf v) u 0))

/-- A new row of elements, and the slice of all of it. -/
def newSliceA (S : St) (cs : List AV) (u len cap : Nat) (exact : Bool) : AV × St :=
  (.slice S.next 0 cs.length exact len cap, S.new (.row cs u 0))

inductive ANext where
  | val (v : AV)
  | enter (f : FuncId) (args : List AV)
  | round (l : Nat) (args : List AV)

abbrev RN := R (ANext × St)

def val (S : St) (v : AV) : RN := .ok (.val v, S)

/-! ### Operations on numbers, and comparisons -/
/-- x == y where one of them is nil and the other bears an address, by the kind of their type. -/
def nilEq (d : TypeDesc) (x y : AV) : R Bool :=
  match d, x, y with
  | .pointer _, .lit (.pointer none), .ptr _ _ _ => .ok false
  | .pointer _, .ptr _ _ _, .lit (.pointer none) => .ok false
  | .pointer _, .lit (.pointer none), .tptr _ => .ok false
  | .pointer _, .tptr _, .lit (.pointer none) => .ok false
  | .slice _, .lit (.slice none _ _), .slice _ _ _ _ _ _ => .ok false
  | .slice _, .slice _ _ _ _ _ _, .lit (.slice none _ _) => .ok false
  | .slice _, .lit (.slice none _ _), .tree _ _ _ => .ok false
  | .slice _, .tree _ _ _, .lit (.slice none _ _) => .ok false
  | .slice _, .lit (.slice none _ _), .empty => .ok false
  | .slice _, .empty, .lit (.slice none _ _) => .ok false
  | .map _ _, .lit (.map none), .map _ => .ok false
  | .map _ _, .map _, .lit (.map none) => .ok false
  | .func _ _ _, .lit .nilFunc, .func _ _ _ => .ok false
  | .func _ _ _, .func _ _ _, .lit .nilFunc => .ok false
  | .interface _, .lit .nilIface, .iface _ _ => .ok false
  | .interface _, .iface _ _, .lit .nilIface => .ok false
  | _, _, _ => .error "comparison"

def abinPure (E : Env) (op : BinOp) (xt : TypeId) (xo yo : Operand) (x y : AV) : R AV :=
  (toV 4 x).bind fun u => (toV 4 y).bind fun v =>
  (ofOpt (pureVal E.P (do eqGuard op xt xo yo u v; binOp op xt u v)) "binOp not pure").bind fun r => .ok (ofV 4 r)

def abin (E : Env) (op : BinOp) (xt : TypeId) (xo yo : Operand) (x y : AV) : R AV :=
  match op, x, y with
  | .add, .lit (.int .i64 a), .lit (.int .i64 b) => .ok (.lit (.int .i64 (IntKind.i64.wrap (a + b))))
  | .sub, .lit (.int .i64 a), .lit (.int .i64 b) => .ok (.lit (.int .i64 (IntKind.i64.wrap (a - b))))
  | .lss, .lit (.int .i64 a), .lit (.int .i64 b) => .ok (.lit (.bool (decide (a < b))))
  | .gtr, .lit (.int .i64 a), .lit (.int .i64 b) => .ok (.lit (.bool (decide (a > b))))
  | .leq, .lit (.int .i64 a), .lit (.int .i64 b) => .ok (.lit (.bool (decide (a ≤ b))))
  | .geq, .lit (.int .i64 a), .lit (.int .i64 b) => .ok (.lit (.bool (decide (a ≥ b))))
  | .eql, .lit (.int .i64 a), .lit (.int .i64 b) => .ok (.lit (.bool (a == b)))
  | .neq, .lit (.int .i64 a), .lit (.int .i64 b) => .ok (.lit (.bool (a != b)))
  | op, x, y =>
    match abinPure E op xt xo yo x y with
    | .ok v => .ok v
    | .error m =>
      match op, E.und xt with
      | .eql, some d => (nilEq d x y).bind fun b => .ok (.lit (.bool b))
      | .neq, some d => (nilEq d x y).bind fun b => .ok (.lit (.bool (!b)))
      | _, _ => .error m

/-! ### Slices -/
def intOf? : AV → R Int
  | .lit (.int _ n) => .ok n
  | _ => .error "int expected"

def boundOf (x : AV) (y : Nat) : R Nat :=
  (intOf? x).bind fun i => bif decide (0 ≤ i) && decide (i ≤ (y : Int)) then .ok i.toNat else .error "bounds"

def boundsOf (len cap : Nat) (lo hi mx : Option AV) : R (Nat × Nat × Nat) :=
  (match mx with | some v => boundOf v cap | none => .ok cap).bind fun m =>
  (match hi with | some v => boundOf v m | none => match mx with | none => .ok len | some _ => .error "max without high").bind fun h =>
  (match lo with | some v => boundOf v h | none => .ok 0).bind fun l => .ok (l, h, m)

def isLitInt (o : Option AV) (n : Int) : Bool := match o with | some (.lit (.int _ k)) => decide (k = n) | _ => false

def aslice (E : Env) (S : St) (t : TypeId) (x : AV) (lo hi mx : Option AV) : R AV :=
  (ofOpt (E.und t) "type").bind fun d =>
  match d, x with
  | .string, .lit (.string s) => match mx with
    | some _ => .error "slice of a string max"
    | none => (boundsOf s.size s.size lo hi none).bind fun (l, h, _) => .ok (.lit (.string (s.extract l h)))
  | .slice e, .slice id off ver exact len cap =>
    bif isLitInt mx 0 && isLitInt hi 0 && lo.isNone then (ofOpt (E.siz e) "size").bind fun _ => .ok .empty else
    match mx with
    | some _ => .error "slice max"
    | none =>
      (boundsOf len cap lo hi none).bind fun (l, h, m) =>
      (ofOpt (E.siz e) "size").bind fun sz =>
      (rowOf S id).bind fun (_, u, _) =>
      bif Nat.beq u sz && (!(Nat.beq m l) || exact || Nat.beq l 0) then .ok (.slice id (bif Nat.beq m l then off else off + l * sz) ver exact (h - l) (m - l)) else .error "slice unit"
  | .slice e, .tree u len cs =>
    bif isLitInt mx 0 && isLitInt hi 0 && lo.isNone then (ofOpt (E.siz e) "size").bind fun _ => .ok .empty else
    match mx with
    | some _ => .error "slice max"
    | none =>
      (boundsOf len len lo hi none).bind fun (l, h, _) =>
      (ofOpt (E.siz e) "size").bind fun sz =>
      bif Nat.beq u sz then .ok (.tree u (h - l) ((cs.drop (l * u)).take ((h - l) * u))) else .error "slice unit"
  | .slice e, .lit (.slice none 0 0) =>
    bif isLitInt mx 0 && isLitInt hi 0 && lo.isNone then (ofOpt (E.siz e) "size").bind fun _ => .ok (.lit (.slice none 0 0)) else
    match mx with
    | some _ => .error "slice max"
    | none => (boundsOf 0 0 lo hi none).bind fun _ => (ofOpt (E.siz e) "size").bind fun _ => .ok (.lit (.slice none 0 0))
  | .array n e, .ptr id off ver =>
    match mx with
    | some _ => .error "slice max"
    | none =>
      (boundsOf n n lo hi none).bind fun (l, h, m) =>
      (ofOpt (E.siz e) "size").bind fun sz =>
      (rowOf S id).bind fun (cs, u, fl) =>
      bif Nat.beq u sz && Nat.beq off 0 && Nat.beq cs.length (n * sz) && Nat.beq ver cs.length && Nat.ble fl ver then
        .ok (.slice id (bif Nat.beq m l then off else off + l * sz) ver true (h - l) (m - l))
      else .error "slice array"
  | _, _ => .error "slice kind"

def aindexAddr (E : Env) (t : TypeId) (x ix : AV) : R AV :=
  (intOf? ix).bind fun i =>
  (ofOpt (E.und t) "type").bind fun d =>
  match d, x with
  | .array len e, .ptr id off ver =>
    (ofOpt (E.siz e) "size").bind fun sz =>
    bif decide (0 ≤ i) && decide (i < (len : Int)) then .ok (.ptr id (off + i.toNat * sz) ver) else .error "index out of range"
  | .array len e, .tptr cs =>
    (ofOpt (E.siz e) "size").bind fun sz =>
    bif decide (0 ≤ i) && decide (i < (len : Int)) then .ok (.tptr (cs.drop (i.toNat * sz))) else .error "index out of range"
  | .slice e, .slice id off ver _ len _ =>
    (ofOpt (E.siz e) "size").bind fun sz =>
    bif decide (0 ≤ i) && decide (i < (len : Int)) then .ok (.ptr id (off + i.toNat * sz) ver) else .error "index out of range"
  | .slice e, .tree _ len cs =>
    (ofOpt (E.siz e) "size").bind fun sz =>
    bif decide (0 ≤ i) && decide (i < (len : Int)) then .ok (.tptr (cs.drop (i.toNat * sz))) else .error "index out of range"
  | _, _ => .error "indexAddr"

def partOf (E : Env) (t : TypeId) (cs : List AV) (off : Nat) : R AV :=
  (ofOpt (E.und t) "type").bind fun d =>
  bif isAggT d then (ofOpt (E.siz t) "size").bind fun n => .ok (.agg ((cs.drop off).take n))
  else ofOpt (cs[off]?) "part"

def aindex (E : Env) (t : TypeId) (x ix : AV) : R AV :=
  (intOf? ix).bind fun i =>
  (ofOpt (E.und t) "type").bind fun d =>
  match d, x with
  | .array len e, .agg cs =>
    (ofOpt (E.siz e) "size").bind fun sz =>
    bif decide (0 ≤ i) && decide (i < (len : Int)) then partOf E e cs (i.toNat * sz) else .error "index out of range"
  | .string, .lit (.string s) =>
    bif decide (0 ≤ i) then match s.data[i.toNat]? with
      | some b => .ok (.lit (.int .u8 b.toNat))
      | none => .error "index out of range"
    else .error "index out of range"
  | _, _ => .error "index"

def lenOf? : AV → R Nat
  | .slice _ _ _ _ n _ => .ok n
  | .tree _ n _ => .ok n
  | .empty => .ok 0
  | .lit (.slice none 0 0) => .ok 0
  | .lit (.string s) => .ok s.size
  | _ => .error "len"

/-- The first n elements' cells of a slice, or bytes of a string. -/
def firstN (S : St) (size n : Nat) : AV → R (List AV)
  | .slice id off ver _ _ _ => loadN S id off ver (n * size)
  | .tree u _ cs => bif Nat.beq u size && Nat.ble (n * size) cs.length then .ok (cs.take (n * size)) else .error "first unit"
  | .lit (.slice none 0 0) => .ok []
  | .empty => bif Nat.beq n 0 then .ok [] else .error "first"
  | .lit (.string s) => bif Nat.ble n s.size then .ok ((s.data.toList.take n).map fun b => AV.lit (.int .u8 b.toNat)) else .error "first"
  | _ => .error "first"

def zeroCells (z : Value) : List AV := z.cells.toList.map (ofV 3)

def notInt (E : Env) (o : Option TypeId) : R Unit :=
  match o with
  | none => .ok ()
  | some t => (ofOpt (E.und t) "type").bind fun d => match d with | .int _ => .error "append of zeros" | _ => .ok ()

def isSlice : AV → Bool
  | .slice _ _ _ _ _ _ => true
  | .tree _ _ _ => true
  | .empty => true
  | .lit (.slice none 0 0) => true
  | _ => false

def aappend (E : Env) (S : St) (argTypes : Array TypeId) (args : List AV) : R (AV × St) :=
  match argTypes[0]?, args with
  | some st, [s, x] =>
    (ofOpt (E.und st) "type").bind fun d =>
    match d with
    | .slice e =>
      (ofOpt (E.siz e) "size").bind fun sz =>
      (ofOpt (E.byt e) "bytes").bind fun by_ =>
      (notInt E argTypes[1]?).bind fun _ =>
      (lenOf? x).bind fun k =>
      bif Nat.beq k 0 then (bif isSlice s then .ok (s, S) else .error "append slice") else
      (firstN S sz k x).bind fun new =>
      (ofOpt (E.zro e) "zero").bind fun z =>
      bif Nat.beq by_ 0 || Nat.beq sz 0 || !(Nat.beq new.length (k * sz)) || !(Nat.beq (zeroCells z).length sz) then .error "append no size" else
      match s with
      | .lit (.slice none 0 0) =>
        bif Nat.blt ((2 * k + 1000) * by_) (2 ^ 48) then .ok (newSliceA S new sz k k false) else .error "append large"
      | .empty =>
        bif Nat.blt ((2 * k + 1000) * by_) (2 ^ 48) then .ok (newSliceA S new sz k k false) else .error "append large"
      | .slice id off ver exact len cap =>
        let need := len + k
        (rowOf S id).bind fun (cs, u, fl) =>
        bif !(Nat.beq u sz) then .error "append unit" else
        bif !(Nat.blt ((2 * need + 1000) * by_) (2 ^ 48)) then .error "append large" else
        bif Nat.ble need cap then
          (storeN S id (off + len * sz) ver new).bind fun S' => .ok (.slice id off ver exact need cap, S')
        else bif exact then
          (loadN S id off ver (len * sz)).bind fun old => .ok (newSliceA S (old ++ new) sz need need false)
        else bif new.all oneCell && Nat.beq off 0 && Nat.beq (len * sz) cs.length && Nat.beq ver cs.length && Nat.ble fl cs.length then
          .ok (.slice id 0 (cs.length + new.length) false need need, S.write id (.row (cs ++ new) u fl))
        else .error "append not at the end"
      | _ => .error "append slice expected"
    | _ => .error "append type"
  | _, _ => .error "append arguments"

def acopy (E : Env) (S : St) (argTypes : Array TypeId) (args : List AV) : R (AV × St) :=
  match argTypes[0]?, args with
  | some dt, [dst, src] =>
    (ofOpt (E.und dt) "type").bind fun d =>
    match d with
    | .slice e =>
      (ofOpt (E.siz e) "size").bind fun sz =>
      (lenOf? src).bind fun sl =>
      (lenOf? dst).bind fun dl =>
      let n := Nat.min sl dl
      bif Nat.beq n 0 then (bif isSlice dst then .ok (.lit (.int .i64 n), S) else .error "copy") else
      bif Nat.beq sz 0 then .error "copy no size" else
      (firstN S sz n src).bind fun cs =>
      match dst with
      | .slice id off ver _ _ _ => bif Nat.beq cs.length (n * sz) then (storeN S id off ver cs).bind fun S' => .ok (.lit (.int .i64 n), S') else .error "copy"
      | _ => .error "copy to a tree"
    | _ => .error "copy"
  | _, _ => .error "copy arguments"

/-! ### Maps -/
def mapOf (S : St) (id : Nat) : R (List (Value × AV × Nat) × Nat) :=
  match S.heap.get id with
  | some (.map es c) => .ok (es, c)
  | _ => .error "no map"

def keysOf (es : List (Value × AV × Nat)) : List MapEntry := es.map fun e => { key := e.1, val := undef, born := e.2.2 }

/-- The place of a key. -/
def findAt (E : Env) (kt : TypeId) (k : Value) (es : List (Value × AV × Nat)) (empty : Bool) : R (Option Nat) :=
  (ofOpt (pureVal E.P (Instr.checkKey empty 10000 kt k)) "key").bind fun _ =>
  (ofOpt (pureVal E.P (Instr.findKey kt k (keysOf es))) "find").bind fun r => .ok (r.map (·.1))

def entriesOf (S : St) (m : AV) : R (List (Value × AV × Nat)) :=
  match m with
  | .lit (.map none) => .ok []
  | .map r => (mapOf S r).bind fun (es, _) => .ok es
  | _ => .error "lookup map"

def pairOf (v : AV) (b : Bool) : AV := .tuple [v, .lit (.bool b)]

def alookup (E : Env) (S : St) (t : TypeId) (m k : AV) (ok : Bool) : R AV :=
  (ofOpt (E.und t) "type").bind fun d =>
  match d with
  | .map kt et =>
    (entriesOf S m).bind fun es =>
    (toV 4 k).bind fun key =>
    (findAt E kt key es es.isEmpty).bind fun at_ =>
    match at_ with
    | some i => (ofOpt (es[i]?) "lookup place").bind fun e => .ok (bif ok then pairOf e.2.1 true else e.2.1)
    | none => (ofOpt (E.zro et) "zero").bind fun z => .ok (bif ok then pairOf (ofV 4 z) false else ofV 4 z)
  | _ => .error "lookup type"

def setAt {α : Type} : List α → Nat → α → List α
  | [], _, _ => []
  | _ :: l, 0, x => x :: l
  | y :: l, i + 1, x => y :: setAt l i x

def aupdate (E : Env) (S : St) (t : TypeId) (m k v : AV) : R St :=
  (ofOpt (E.und t) "type").bind fun d =>
  match d, m with
  | .map kt _, .map r =>
    (mapOf S r).bind fun (es, c) =>
    (toV 4 k).bind fun key =>
    (findAt E kt key es false).bind fun at_ =>
    match at_ with
    | some i => (ofOpt (es[i]?) "update place").bind fun e =>
      bif Instr.sameBits 10000 e.1 key then .ok (S.write r (.map (setAt es i (key, v, e.2.2)) c)) else .error "update key"
    | none => .ok (S.write r (.map (es ++ [(key, v, c)]) (c + 1)))
  | _, _ => .error "update map"

def aentry (E : Env) (S : St) (t : TypeId) (m k : AV) : R (AV × St) :=
  (ofOpt (E.und t) "type").bind fun d =>
  match d, m with
  | .map kt et, .map r =>
    (mapOf S r).bind fun (es, c) =>
    (toV 4 k).bind fun key =>
    (findAt E kt key es false).bind fun at_ =>
    match at_ with
    | some i => (ofOpt (es[i]?) "entry place").bind fun e =>
      bif Instr.sameBits 10000 e.1 key then
        .ok (.tuple [e.2.1, .lit (.int .i64 e.2.2)], S.write r (.map (setAt es i (key, e.2.1, e.2.2)) c))
      else .error "entry key"
    | none => (ofOpt (E.zro et) "zero").bind fun z =>
      .ok (.tuple [ofV 4 z, .lit (.int .i64 c)], S.write r (.map (es ++ [(key, ofV 4 z, c)]) (c + 1)))
  | _, _ => .error "entry map"

def findBorn (b : Int) : List (Value × AV × Nat) → Nat → Option Nat
  | [], _ => none
  | e :: l, i => bif (e.2.2 : Int) == b then some i else findBorn b l (i + 1)

def aentryStore (S : St) (m st v : AV) : R St :=
  match m with
  | .map r =>
    (mapOf S r).bind fun (es, c) =>
    (intOf? st).bind fun b =>
    match findBorn b es 0 with
    | some i => (ofOpt (es[i]?) "entryStore").bind fun e => .ok (S.write r (.map (setAt es i (e.1, v, e.2.2)) c))
    | none => .error "entryStore gone"
  | _ => .error "entryStore map"

/-! ### Calls -/
def acallee (E : Env) (S : St) (f : AV) (args : List AV) : RN :=
  match f with
  | .func g first cap => (ofOpt (E.fn g) "function").bind fun _ => .ok (.enter g (first ++ args ++ cap), S)
  | .yield l => .ok (.round l args, S)
  | _ => .error "call callee"

def alen (E : Env) (S : St) (argTypes : Array TypeId) (args : List AV) : R AV :=
  match argTypes[0]?, args with
  | some t, [x] =>
    (ofOpt (E.und t) "type").bind fun d =>
    match d, x with
    | .slice _, x => bif isSlice x then (lenOf? x).bind fun n => .ok (.lit (.int .i64 n)) else .error "len"
    | .string, .lit (.string s) => .ok (.lit (.int .i64 s.size))
    | .array n _, _ => .ok (.lit (.int .i64 n))
    | .map _ _, m => (entriesOf S m).bind fun es => .ok (.lit (.int .i64 es.length))
    | _, _ => .error "len"
  | _, _ => .error "len"

def pureBuiltin (E : Env) (s : Array Value → Sem Value) (args : List AV) : R AV :=
  (mapR (toV 4) args).bind fun vs => (ofOpt (pureVal E.P (s vs.toArray)) "builtin not pure").bind fun v => .ok (ofV 4 v)

def abuiltin (E : Env) (S : St) (b : Builtin) (argTypes : Array TypeId) (type : TypeId) (args : List AV) : RN :=
  match b with
  | .len => (alen E S argTypes args).bind fun v => val S v
  | .append => (aappend E S argTypes args).bind fun (v, S') => .ok (.val v, S')
  | .copy => (acopy E S argTypes args).bind fun (v, S') => .ok (.val v, S')
  | .max => (pureBuiltin E (Builtin.max_ argTypes type) args).bind fun v => val S v
  | .min => (pureBuiltin E (Builtin.min_ argTypes type) args).bind fun v => val S v
  | _ => .error "builtin"

def acall (E : Env) (S : St) (ev : Operand → AV) (c : Call) (type : TypeId) : RN :=
  let args := c.args.toList.map ev
  match c.callee with
  | .builtin b => abuiltin E S b c.argTypes type args
  | .value f => acallee E S (ev f) args
  | .invoke _ _ => .error "invoke"

/-! ### One operation -/
def aassert (E : Env) (x : AV) (asserted : TypeId) (ok : Bool) : R AV :=
  (ofOpt (E.und asserted) "type").bind fun d =>
  match d, x with
  | .interface _, _ => .error "typeAssert interface"
  | _, .lit .nilIface => bif ok then (ofOpt (E.zro asserted) "zero").bind fun z => .ok (pairOf (ofV 4 z) false) else .error "typeAssert"
  | _, .iface t v =>
    bif Nat.beq t asserted then .ok (bif ok then pairOf v true else v)
    else bif ok then (ofOpt (E.zro asserted) "zero").bind fun z => .ok (pairOf (ofV 4 z) false) else .error "typeAssert"
  | _, _ => .error "typeAssert value"

def fillA (place : Nat → Option (Nat × Nat)) : List AV → List (Nat × AV) → R (List AV)
  | cells, [] => .ok cells
  | cells, (i, v) :: rest =>
    match place i with
    | none => .error "fill no such place"
    | some (off, size) =>
      bif Nat.beq (cellsOf v).length size && Nat.ble (off + (cellsOf v).length) cells.length then fillA place (spliceL cells off (cellsOf v)) rest
      else .error "fill size"

def placesOf (E : Env) : List Field → R (List (Nat × Nat))
  | [] => .ok []
  | f :: l => (ofOpt (E.siz f.type) "size").bind fun n => (placesOf E l).bind fun r => .ok ((f.offset, n) :: r)

def abuild (E : Env) (t : TypeId) (parts : List (Nat × AV)) : R AV :=
  (ofOpt (E.zro t) "zero").bind fun z =>
  (ofOpt (E.und t) "type").bind fun d =>
  match d with
  | .struct fields => (placesOf E fields.toList).bind fun ps => (fillA (fun i => ps[i]?) (zeroCells z) parts).bind fun cs => .ok (.agg cs)
  | .array _ e => (ofOpt (E.siz e) "size").bind fun sz => (fillA (fun i => some (i * sz, sz)) (zeroCells z) parts).bind fun cs => .ok (.agg cs)
  | _ => .error "build"

/-- n copies of the zero value's cells. -/
def repeatL (zs : List AV) : Nat → List AV
  | 0 => []
  | n + 1 => zs ++ repeatL zs n

def zerosOf (E : Env) (e sz n : Nat) : R (List AV) :=
  bif Nat.beq (n * sz) 0 then .ok [] else (ofOpt (E.zro e) "zero").bind fun z =>
    bif Nat.beq (zeroCells z).length sz then .ok (repeatL (zeroCells z) n) else .error "zero size"

def abuildSlice (E : Env) (S : St) (t : TypeId) (len : Nat) (parts : List (Nat × AV)) : R (AV × St) :=
  (ofOpt (E.und t) "type").bind fun d =>
  match d with
  | .slice e =>
    (ofOpt (E.siz e) "size").bind fun sz =>
    bif Nat.blt (2 ^ 24) (len * sz) then .error "buildSlice large" else
    (zerosOf E e sz len).bind fun zs =>
    (fillA (fun i => some (i * sz, sz)) zs parts).bind fun cs => .ok (newSliceA S cs sz len len true)
  | _ => .error "buildSlice"

def amakeSlice (E : Env) (S : St) (t : TypeId) (l c : AV) : R (AV × St) :=
  (ofOpt (E.und t) "type").bind fun d =>
  match d, l, c with
  | .slice e, .lit (.int .i64 l), .lit (.int .i64 c) =>
    (ofOpt (E.siz e) "size").bind fun sz =>
    (ofOpt (E.byt e) "bytes").bind fun by_ =>
    bif decide (0 ≤ l) && decide (l ≤ c) && decide (c < 2 ^ 62) && decide ((by_ : Int) * c ≤ 2 ^ 48) then
      (zerosOf E e sz c.toNat).bind fun zs => .ok (newSliceA S zs sz l.toNat c.toNat true)
    else .error "makeSlice"
  | _, _, _ => .error "makeSlice"

def fieldOf (E : Env) (s : TypeId) (f : Nat) : R (Field × Nat) :=
  (ofOpt (E.und s) "type").bind fun d =>
  match d with
  | .struct fields => (ofOpt (fields[f]?) "field").bind fun fd => (ofOpt (E.siz fd.type) "size").bind fun n =>
    bif Nat.beq n 0 then .error "field no size" else .ok (fd, n)
  | _ => .error "field struct"

def pureOp (E : Env) (s : Value → Sem Value) (x : AV) : R AV :=
  (toV 4 x).bind fun u => (ofOpt (pureVal E.P (s u)) "not pure").bind fun v => .ok (ofV 4 v)

def makeMapOk (E : Env) (t : TypeId) (r : Option AV) : R Unit :=
  match r with
  | none => .ok ()
  | some h => (ofOpt (E.und t) "type").bind fun d => match d with | .map _ _ => (intOf? h).bind fun _ => .ok () | _ => .error "makeMap"

def apick (S : St) (c x y : AV) : RN := match c with | .lit (.bool t) => val S (bif t then x else y) | _ => .error "pick"

def aload (E : Env) (S : St) (t : TypeId) (p : AV) : RN := (loadVarA E S t p).bind fun v => val S v

def done (S : R St) : RN := S.bind fun S' => .ok (.val undefA, S')

def valOf (S : St) (v : R AV) : RN := v.bind fun v => val S v

def newOf (r : R (AV × St)) : RN := r.bind fun x => .ok (.val x.1, x.2)

def afieldAddr (E : Env) (s f : Nat) (p : AV) : R AV :=
  (fieldOf E s f).bind fun x =>
    match p with
    | .ptr id off ver => .ok (.ptr id (off + x.1.offset) ver)
    | .tptr cs => .ok (.tptr (cs.drop x.1.offset))
    | _ => .error "fieldAddr"

def anilCheck : AV → R AV
  | .ptr id off ver => .ok (.ptr id off ver)
  | .tptr cs => .ok (.tptr cs)
  | .func g first cap => .ok (.func g first cap)
  | _ => .error "nilCheck"

def aextract (v : AV) (i : Nat) : R AV :=
  match v with
  | .tuple vs => ofOpt (vs[i]?) "extract"
  | _ => .error "extract"

def aalloc (E : Env) (S : St) (t : TypeId) : R (AV × St) := (ofOpt (E.zro t) "zero").bind fun z => newVarA E S t (ofV 4 z)

def partsOf (ev : Operand → AV) (parts : Array (Nat × Operand)) : List (Nat × AV) := parts.toList.map fun x => (x.1, ev x.2)

def amakeIface (E : Env) (t : TypeId) (v : AV) : R AV :=
  (ofOpt (E.und t) "type").bind fun d => match d with | .interface _ => .error "makeInterface" | _ => .ok (.iface t v)

def amakeFunc (ev : Operand → AV) (fn : Fn) (first cap : Array Operand) : R AV :=
  match fn with
  | .func g => .ok (.func g (first.toList.map ev) (cap.toList.map ev))
  | _ => .error "makeFunc"

def amakeMap (E : Env) (S : St) (t : TypeId) (r : Option AV) : R (AV × St) := (makeMapOk E t r).bind fun _ => .ok (.map S.next, S.new (.map [] 0))

def afield (E : Env) (t f : Nat) (x : AV) : R AV :=
  (fieldOf E t f).bind fun fd =>
    match x with
    | .agg cs => partOf E fd.1.type cs fd.1.offset
    | _ => .error "field"

def aop (E : Env) (S : St) (ev : Operand → AV) (o : Oper) : RN :=
  match o.op with
  | .move x => val S (ev x)
  | .assign x => val S (ev x)
  | .pick c x y => apick S (ev c) (ev x) (ev y)
  | .load t x => aload E S t (ev x)
  | .store t x v => done (storeVarA E S t (ev x) (ev v))
  | .binOp op xt x y _ => valOf S (abin E op xt x y (ev x) (ev y))
  | .call c => acall E S ev c o.type
  | .fieldAddr s x f => valOf S (afieldAddr E s f (ev x))
  | .indexAddr t x ix => valOf S (aindexAddr E t (ev x) (ev ix))
  | .nilCheck x => valOf S (anilCheck (ev x))
  | .extract t i => valOf S (aextract (ev t) i)
  | .alloc t => newOf (aalloc E S t)
  | .box t x => newOf (newVarA E S t (ev x))
  | .build t parts => valOf S (abuild E t (partsOf ev parts))
  | .buildSlice t len parts => newOf (abuildSlice E S t len (partsOf ev parts))
  | .unOp op _ x => valOf S (pureOp E (Op.unary op) (ev x))
  | .convert src dst x => valOf S (pureOp E (convert src dst) (ev x))
  | .makeInterface t x => valOf S (amakeIface E t (ev x))
  | .makeFunc fn first cap => valOf S (amakeFunc ev fn first cap)
  | .makeMap t r => newOf (amakeMap E S t (r.map ev))
  | .makeSlice t l c => newOf (amakeSlice E S t (ev l) (ev c))
  | .slice t x lo hi mx => valOf S (aslice E S t (ev x) (lo.map ev) (hi.map ev) (mx.map ev))
  | .field t x f => valOf S (afield E t f (ev x))
  | .index t x ix => valOf S (aindex E t (ev x) (ev ix))
  | .lookup t m k ok => valOf S (alookup E S t (ev m) (ev k) ok)
  | .mapUpdate t m k v => done (aupdate E S t (ev m) (ev k) (ev v))
  | .insert t m k v => done (aupdate E S t (ev m) (ev k) (ev v))
  | .mapEntry t m k => newOf (aentry E S t (ev m) (ev k))
  | .entryStore _ m s x => done (aentryStore S (ev m) (ev s) (ev x))
  | .typeAssert x _ t ok => valOf S (aassert E (ev x) t ok)
  | _ => .error "op"
end Go.Am
