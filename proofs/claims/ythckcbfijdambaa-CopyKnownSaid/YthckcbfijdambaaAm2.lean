/- The abstract machine: code, calls, loops, ranges over functions, regions that draw their order. Definitions alone. -/
import Derived.Test.YthckcbfijdambaaAm1
import Derived.CheckFast
namespace Go.Am

/-- The slots that an operation names. -/
def slotsOf (ops : Array Oper) (o : Oper) : List Tmp := o.dst.toList ++ o.looksAt ops

/-- 0: looks at no memory, and changes none; 1: looks at memory, and changes none; 3: makes one new row, and looks at no memory; 2: all others. -/
def kindOf (o : Oper) : Nat :=
  match o.op with
  | .move _ | .assign _ | .pick _ _ _ | .binOp _ _ _ _ _ | .fieldAddr _ _ _ | .indexAddr _ _ _ | .nilCheck _ | .extract _ _ | .unOp _ _ _ | .convert _ _ _
  | .makeInterface _ _ | .makeFunc _ _ _ | .field _ _ _ | .index _ _ _ | .typeAssert _ _ _ _ | .build _ _ => 0
  | .load _ _ | .lookup _ _ _ _ | .slice _ _ _ _ _ => 1
  | .call c => match c.callee with
    | .builtin .len => 1
    | _ => 2
  | .alloc _ | .box _ _ | .buildSlice _ _ _ => 3
  | _ => 2

/-- A list of numbers, each worked out. -/
def forceL {α : Type} : List Nat → (List Nat → α) → α
  | [], k => k []
  | x :: xs, k => CheckFast.force x fun y => forceL xs fun ys => k (y :: ys)

theorem forceL_eq {α : Type} : ∀ (l : List Nat) (k : List Nat → α), forceL l k = k l
  | [], _ => rfl
  | x :: xs, k => by rw [forceL, CheckFast.force_eq, forceL_eq xs]

def bitOf (masks : List Nat) (j i : Nat) : Bool := (masks.getD j 0).testBit i

/-- Two operations that may not change places: one writes a slot that the other names. -/
def clash (ops : Array Oper) (x y : Oper) : Bool :=
  (match x.dst with | some t => (slotsOf ops y).contains t | none => false) || (match y.dst with | some t => (slotsOf ops x).contains t | none => false)

/-- The operations of kind 2, as bits. -/
def heavyBits : List Oper → Nat → Nat → Nat
  | [], _, acc => acc
  | o :: l, i, acc => CheckFast.force (bif Nat.beq (kindOf o) 2 then acc + 2 ^ i else acc) fun acc1 => heavyBits l (i + 1) acc1

/-- Operations of the first pass: not of kind 2, and none of kind 2 comes before. -/
def isFirst (ops : Array Oper) (masks : List Nat) (bits i : Nat) : Bool :=
  match ops[i]? with
  | some o => !(Nat.beq (kindOf o) 2) && Nat.beq (Nat.land (masks.getD i 0) bits) 0
  | none => false

def firstPass (ops : Array Oper) (masks : List Nat) : List Nat := CheckFast.force (heavyBits ops.toList 0 0) fun bits => (List.range ops.size).filter (isFirst ops masks bits)
def secondPass (ops : Array Oper) (masks : List Nat) : List Nat := CheckFast.force (heavyBits ops.toList 0 0) fun bits => (List.range ops.size).filter fun i => !(isFirst ops masks bits i)

/-- In a list of operations no two clash that are not ordered; 'strong': nor may two of them change memory that are not ordered. -/
def ordered (ops : Array Oper) (masks : List Nat) (strong : Bool) : List Nat → List Nat → Bool
  | _, [] => true
  | before, j :: l => (match ops[j]? with
      | none => true
      | some o => before.all fun i => match ops[i]? with
        | none => true
        | some p => bitOf masks j i || !(clash ops p o || (strong && Nat.ble 2 (kindOf p) && Nat.ble 2 (kindOf o)))) && ordered ops masks strong (j :: before) l

/-- A region that draws its order: edges lead to the front; in the order of the two passes no two operations clash that are not ordered. -/
def regionOk (ops : Array Oper) : Bool := forceL (CheckFast.beforeL ops.toList 0 []) fun masks =>
  ((List.range ops.size).all fun j => match ops[j]? with
    | none => true
    | some o => o.after.all (fun e => Nat.blt e.on j || !(Region.binds .any e))) &&
  ordered ops masks false [] (firstPass ops masks ++ secondPass ops masks) && ordered ops masks true [] (secondPass ops masks)

def codeOk : Code → Bool
  | .region _ ops draw => !draw || regionOk ops
  | .seq x y => codeOk x && codeOk y
  | .cond _ x y => codeOk x && codeOk y
  | .block _ c => codeOk c
  | .loop c => codeOk c
  | .scope c => codeOk c
  | .rangeFunc _ _ x y => codeOk x && codeOk y
  | _ => true

inductive Task where
  | code (c : Code) (a : AAct)
  | call (f : FuncId) (args : List AV)

inductive Res where
  | exit (e : Exit) (a : AAct)
  | ret (v : AV)

abbrev RR := R (Res × St)

/-- A value as a tree, out of the memory as it stands. -/
def reify : Nat → St → AV → R AV
  | 0, _, _ => .error "reify depth"
  | n + 1, S, v =>
    match v with
    | .lit x => .ok (.lit x)
    | .tree u len cs => .ok (.tree u len cs)
    | .tptr cs => .ok (.tptr cs)
    | .empty => .ok (.tree 1 0 [])
    | .slice id off ver _ len _ =>
      (rowOf S id).bind fun (_, u, _) =>
      (loadN S id off ver (len * u)).bind fun cs => (mapR (reify n S) cs).bind fun ds => .ok (.tree u len ds)
    | .ptr id off ver =>
      (loadN S id off ver (ver - off)).bind fun cs => (mapR (reify n S) cs).bind fun ds => .ok (.tptr ds)
    | .agg cs => (mapR (reify n S) cs).bind fun ds => .ok (.agg ds)
    | .tuple cs => (mapR (reify n S) cs).bind fun ds => .ok (.tuple ds)
    | .iface t v => (reify n S v).bind fun d => .ok (.iface t d)
    | _ => .error "reify"

def setTmps (n : Nat) : List Tmp → List AV → Trie AV → R (Trie AV)
  | [], [], t => .ok t
  | p :: ps, v :: vs, t => bif Nat.blt p n then setTmps n ps vs (t.set p v) else .error "yield slot"
  | _, _, _ => .error "yield arguments"

def enterTmps : Nat → List AV → Trie AV → Trie AV
  | _, [], t => t
  | i, v :: vs, t => enterTmps (i + 1) vs (t.set i v)

def enterAct (fn : Func) (args : List AV) : AAct :=
  { n := args.length + (fn.ntmps - args.length), tmps := enterTmps 0 args .leaf, marks := [], rnd := none }

def loopState (S : St) (l : Nat) (st : LoopState) (jump : Option (Option Code)) : R St :=
  match S.heap.get l with
  | some (.loop n tmps ps assign body _ pending dfr) =>
    .ok (S.write l (.loop n tmps ps assign body st (match jump with | some j => j | none => pending) dfr))
  | _ => .error "loop record"

def stateOf (S : St) (l : Nat) : R LoopState :=
  match S.heap.get l with
  | some (.loop _ _ _ _ _ st _ _) => .ok st
  | _ => .error "loop record"

def jumpOf : Exit → R (Option Code)
  | .normal => .ok none
  | .ret => .ok (some .ret)
  | .exit id => .ok (some (.exit id))
  | .goto t => .ok (some (.goto t))
  | _ => .error "round exit"

def mustBe (b : Bool) (why : String) : R Unit := bif b then .ok () else .error why

/-- One round of a loop over a function: what yield returns. -/
def aRound (rec : Task → St → RR) (S : St) (l : Nat) (args : List AV) : R (AV × St) :=
  match S.heap.get l with
  | some (.loop n tmps ps assign body _ _ _) =>
    (setTmps n ps args tmps).bind fun t0 =>
    (rec (.code assign { n := n, tmps := t0, marks := [], rnd := some l }) S).bind fun
    | (.exit .normal a1, S1) =>
      (stateOf S1 l).bind fun st =>
      (mustBe (decide (st = .ready)) "yield loop not ready").bind fun _ =>
      (loopState S1 l .busy none).bind fun S2 =>
      (rec (.code body a1) S2).bind fun
      | (.exit e _, S3) =>
        (jumpOf e).bind fun jump =>
        (loopState S3 l (bif jump.isNone then .ready else .done) (some jump)).bind fun S4 => .ok (.lit (.bool jump.isNone), S4)
      | _ => .error "round"
    | _ => .error "round assign"
  | _ => .error "yield no loop"

def yieldedA (ops : Array Oper) (a : AAct) (j : Nat) : Option Bool :=
  match (ops[j]?).bind (·.dst) with
  | some t => match a.get t with
    | .lit (.bool b) => some b
    | _ => none
  | none => none

/-- A call: by its contract, if that is known; else its body is run. -/
def callA (rec : Task → St → RR) (E : Env) (f : FuncId) (args : List AV) (S : St) : R (AV × St) :=
  match E.orc f with
  | some g =>
    (mapR (reify 12 S) args).bind fun ds => (ofOpt (g ds) "contract").bind fun v => .ok (v, S)
  | none => (rec (.call f args) S).bind fun
    | (.ret v, S2) => .ok (v, S2)
    | _ => .error "call"

def dstAt (ops : Array Oper) (i : Nat) : Option Tmp := (ops[i]?).bind (·.dst)

/-- What one operation of a region yields, in its place. -/
def opVal (rec : Task → St → RR) (E : Env) (ops : Array Oper) (i : Nat) (a : AAct) (S : St) : R (AV × St) :=
  match ops[i]? with
  | none => .error "no operation"
  | some o =>
    bif Region.wanted o (yieldedA ops a) then
      match aop E S a.ev o with
      | .error m => .error (m ++ " " ++ o.pos)
      | .ok (.val v, S1) => .ok (v, S1)
      | .ok (.enter f args, S1) => callA rec E f args S1
      | .ok (.round l args, S1) => aRound rec S1 l args
    else .ok (undefA, S)

def opStep (rec : Task → St → RR) (E : Env) (ops : Array Oper) (i : Nat) (a : AAct) (S : St) : R (AAct × St) :=
  (opVal rec E ops i a S).bind fun (v, S1) => (a.put (dstAt ops i) v).bind fun a1 => .ok (a1, S1)

def opSteps (rec : Task → St → RR) (E : Env) (ops : Array Oper) : List Nat → AAct → St → R (AAct × St)
  | [], a, S => .ok (a, S)
  | i :: l, a, S => (opStep rec E ops i a S).bind fun (a1, S1) => opSteps rec E ops l a1 S1

def sameLit : Value → Value → Bool
  | .bool a, .bool b => a == b
  | .int j a, .int k b => decide (j = k) && decide (a = b)
  | .string a, .string b => decide (a = b)
  | .pointer none, .pointer none => true
  | .slice none a b, .slice none c d => Nat.beq a c && Nat.beq b d
  | .map none, .map none => true
  | .nilFunc, .nilFunc => true
  | .nilIface, .nilIface => true
  | _, _ => false

def allSame (f : AV → AV → Bool) : List AV → List AV → Bool
  | [], [] => true
  | x :: xs, y :: ys => f x y && allSame f xs ys
  | _, _ => false

def sameA : Nat → AV → AV → Bool
  | 0, _, _ => false
  | n + 1, v, w =>
    match v, w with
    | .lit a, .lit b => sameLit a b
    | .ptr a b c, .ptr x y z => Nat.beq a x && Nat.beq b y && Nat.beq c z
    | .slice a b c d e f, .slice u v w x y z => Nat.beq a u && Nat.beq b v && Nat.beq c w && (d == x) && Nat.beq e y && Nat.beq f z
    | .map a, .map b => Nat.beq a b
    | .tree a b c, .tree x y z => Nat.beq a x && Nat.beq b y && allSame (sameA n) c z
    | .tptr c, .tptr z => allSame (sameA n) c z
    | .empty, .empty => true
    | .agg c, .agg z => allSame (sameA n) c z
    | .tuple c, .tuple z => allSame (sameA n) c z
    | .iface t c, .iface u z => Nat.beq t u && sameA n c z
    | _, _ => false

abbrev Seen := List (Nat × AAct × AV)

/-- An operation that reads would read the same here. -/
def agrees (E : Env) (ops : Array Oper) (S : St) (x : Nat × AAct × AV) : Bool :=
  match ops[x.1]? with
  | some o => (match aop E S x.2.1.ev o with | .ok (.val v, _) => sameA 6 v x.2.2 | _ => false)
  | none => false

def kindAt (ops : Array Oper) (i : Nat) (a : AAct) : Nat :=
  match ops[i]? with
  | some o => bif Region.wanted o (yieldedA ops a) then kindOf o else 0
  | none => 0

def sameObj : AObj → AObj → Bool
  | .row a b c, .row x y z => allSame (sameA 6) a x && Nat.beq b y && Nat.beq c z
  | _, _ => false

abbrev Floats := List (Nat × Nat × AObj)

def floatSame (S : St) (f : Nat × Nat × AObj) : Bool := match S.heap.get f.2.1 with | some o => sameObj o f.2.2 | none => false

/-- The first pass. -/
def drawFirst (rec : Task → St → RR) (E : Env) (ops : Array Oper) : List Nat → AAct → St → Seen → Floats → R ((AAct × St) × Seen × Floats)
  | [], a, S, seen, fl => .ok ((a, S), seen, fl)
  | i :: l, a, S, seen, fl =>
    (opVal rec E ops i a S).bind fun (v, S1) =>
    (a.put (dstAt ops i) v).bind fun a1 =>
    match kindAt ops i a with
    | 0 => drawFirst rec E ops l a1 S1 seen fl
    | 1 => drawFirst rec E ops l a1 S1 ((i, a, v) :: seen) fl
    | 3 => (match S1.heap.get S.next with
      | some ob => drawFirst rec E ops l a1 S1 seen ((i, S.next, ob) :: fl)
      | none => .error "region float")
    | _ => .error "region first pass"

/-- The second pass. Those that may change memory are ordered among themselves; whoever reads must read the same before and behind each of them that it is not ordered with.
'past': those that may have changed memory, and the memory before them; 'seen': those that have read and may yet read behind one to come; 'fl': new rows of the first pass. -/
def drawSteps (rec : Task → St → RR) (E : Env) (ops : Array Oper) (masks : List Nat) (fl : Floats) : List Nat → AAct → St → List (Nat × St) → Seen → R (AAct × St)
  | [], a, S, _, _ => .ok (a, S)
  | i :: l, a, S, past, seen =>
    (opVal rec E ops i a S).bind fun (v, S1) =>
    (a.put (dstAt ops i) v).bind fun a1 =>
    match kindAt ops i a with
    | 0 => drawSteps rec E ops masks fl l a1 S1 past seen
    | 1 => bif past.all (fun g => bitOf masks i g.1 || agrees E ops g.2 (i, a, v)) then drawSteps rec E ops masks fl l a1 S1 past ((i, a, v) :: seen)
      else .error ("region early " ++ (match ops[i]? with | some o => o.pos | none => ""))
    | _ => bif seen.all (fun x => bitOf masks i x.1 || agrees E ops S1 x) && fl.all (fun f => bitOf masks i f.1 || floatSame S1 f) then drawSteps rec E ops masks fl l a1 S1 ((i, S) :: past) seen
      else .error ("region late " ++ (match ops[i]? with | some o => o.pos | none => ""))

/-- A region that draws its order. -/
def drawRun (rec : Task → St → RR) (E : Env) (ops : Array Oper) (masks : List Nat) (a : AAct) (S : St) : R (AAct × St) :=
  (drawFirst rec E ops (firstPass ops masks) a S [] []).bind fun x =>
  bif x.2.1.all (agrees E ops x.1.2) then drawSteps rec E ops masks x.2.2 (secondPass ops masks) x.1.1 x.1.2 [] x.2.1 else .error "region first reads"

def jumpExit : Code → R Exit
  | .ret => .ok .ret
  | .exit id => .ok (.exit id)
  | .goto t => .ok (.goto t)
  | _ => .error "jump"

def enterLoopA (S : St) (a : AAct) : R (Nat × List Nat × St) :=
  match a.rnd with
  | none => .ok (S.next, [S.next], S.new (.dfr true))
  | some l0 => match S.heap.get l0 with
    | some (.loop _ _ _ _ _ _ _ d) => .ok (d, [], S)
    | _ => .error "range outer loop"

def pendingOf (S : St) (l : Nat) : R (Option Code) :=
  match S.heap.get l with
  | some (.loop _ _ _ _ _ _ p _) => .ok p
  | _ => .error "loop record"

def aRange (rec : Task → St → RR) (E : Env) (S : St) (g : Operand) (ps : Array Tmp) (assign body : Code) (a : AAct) : RR :=
  (enterLoopA S a).bind fun (d, mark, S1) =>
  let l := S1.next
  let S2 := S1.new (.loop a.n a.tmps ps.toList assign body .ready none d)
  match a.ev g with
  | .func f first cap =>
    (ofOpt (E.fn f) "function").bind fun _ => (rec (.call f (first ++ [AV.yield l] ++ cap)) S2).bind fun
    | (.ret _, S3) =>
      (stateOf S3 l).bind fun st =>
      (mustBe (!(decide (st = .busy))) "range busy").bind fun _ =>
      (pendingOf S3 l).bind fun pending =>
      (loopState S3 l .exhausted none).bind fun S4 =>
      let a' : AAct := { n := a.n, tmps := a.tmps, marks := mark ++ a.marks, rnd := a.rnd }
      match pending with
      | none => .ok (.exit .normal a', S4)
      | some c => (jumpExit c).bind fun e => .ok (.exit e a', S4)
    | _ => .error "range call"
  | _ => .error "range function"

def resultsOf (E : Env) (S : St) (a : AAct) : List ResultVar → R (List AV)
  | [] => .ok []
  | .tmp t :: l => (resultsOf E S a l).bind fun r => .ok (a.get t :: r)
  | .cell p t :: l => (loadVarA E S t (a.get p)).bind fun v => (resultsOf E S a l).bind fun r => .ok (v :: r)

/-- The marks of loops over functions, as the function is left. -/
def leave (S : St) : List Nat → R St
  | [] => .ok S
  | r :: ds => match S.heap.get r with
    | some (.dfr true) => leave (S.write r (.dfr false)) ds
    | _ => .error "leave mark"

def oneOrTuple : List AV → AV
  | [v] => v
  | vs => .tuple vs

def isEnd : Exit → Bool
  | .normal => true
  | .ret => true
  | _ => false

def runCall (rec : Task → St → RR) (E : Env) (f : FuncId) (args : List AV) (S : St) : RR :=
    (ofOpt (E.fn f) "function").bind fun fn =>
    (ofOpt fn.body "body").bind fun c =>
    (rec (.code c (enterAct fn args)) S).bind fun
    | (.exit e a, S1) =>
      (mustBe (isEnd e) "call exit").bind fun _ =>
      (leave S1 a.marks).bind fun S2 =>
      (resultsOf E S2 a fn.results.toList).bind fun vs => .ok (.ret (oneOrTuple vs), S2)
    | _ => .error "call"

def runSeq (rec : Task → St → RR) (x y : Code) (a : AAct) (S : St) : RR :=
  (rec (.code x a) S).bind fun
  | (.exit .normal a1, S1) => rec (.code y a1) S1
  | r => .ok r

def runCond (rec : Task → St → RR) (c : AV) (x y : Code) (a : AAct) (S : St) : RR :=
  match c with
  | .lit (.bool b) => rec (.code (bif b then x else y) a) S
  | _ => .error "cond"

def runBlock (rec : Task → St → RR) (id : Nat) (c : Code) (a : AAct) (S : St) : RR :=
  (rec (.code c a) S).bind fun
  | (.exit (.exit id') a1, S1) => .ok (.exit (bif Nat.beq id' id then .normal else .exit id') a1, S1)
  | r => .ok r

def runScope (rec : Task → St → RR) (c : Code) (a : AAct) (S : St) : RR :=
  (rec (.code c a) S).bind fun
  | (.exit (.goto _) _, _) => .error "scope goto"
  | r => .ok r

def runRegion (rec : Task → St → RR) (E : Env) (ops : Array Oper) (draw : Bool) (a : AAct) (S : St) : RR :=
  (bif draw then forceL (CheckFast.beforeL ops.toList 0 []) (fun masks => drawRun rec E ops masks a S) else opSteps rec E ops (List.range ops.size) a S).bind fun x => .ok (.exit .normal x.1, x.2)

def runCode (rec : Task → St → RR) (E : Env) (c : Code) (a : AAct) (S : St) : RR :=
  match c with
  | .skip => .ok (.exit .normal a, S)
  | .label _ => .ok (.exit .normal a, S)
  | .exit id => .ok (.exit (.exit id) a, S)
  | .goto l => .ok (.exit (.goto l) a, S)
  | .ret => .ok (.exit .ret a, S)
  | .seq x y => runSeq rec x y a S
  | .cond c x y => runCond rec (a.ev c) x y a S
  | .block id c => runBlock rec id c a S
  | .loop c => runSeq rec c (.loop c) a S
  | .region _ ops draw => runRegion rec E ops draw a S
  | .rangeFunc g ps assign body => aRange rec E S g ps assign body a
  | .scope c => runScope rec c a S
  | .refuse _ => .error "refuse"

def runStep (rec : Task → St → RR) (E : Env) (t : Task) (S : St) : RR :=
  match t with
  | .call f args => runCall rec E f args S
  | .code c a => runCode rec E c a S

noncomputable def run (E : Env) (n : Nat) : Task → St → RR :=
  Nat.rec (motive := fun _ => Task → St → RR) (fun _ _ => .error "fuel") (fun _ rec t S => runStep rec E t S) n

theorem run_zero (E : Env) (t : Task) (S : St) : run E 0 t S = .error "fuel" := rfl
theorem run_succ (E : Env) (n : Nat) (t : Task) (S : St) : run E (n + 1) t S = runStep (run E n) E t S := rfl

end Go.Am
