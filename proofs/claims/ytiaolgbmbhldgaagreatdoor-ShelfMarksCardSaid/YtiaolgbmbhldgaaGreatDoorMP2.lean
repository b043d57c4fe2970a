/- Part 2. -/
import Derived.Test.YtiaolgbmbhldgaaGreatDoorMP1
import Derived.Laws.Strings
import Derived.Lib.Bytealg
section
namespace Go.Am
open Go.RowKit
set_option linter.unusedVariables false
set_option linter.unusedSimpArgs false
structure Rd where
 i : Nat
 sl : Sl
 v : AV
structure Fl where
 i : Nat
 id : Nat
 u : Nat
 cells : List AV
section
variable {E : Env} {n : Nat} {rnd : Option Nat} {ms : List Dfr}
def Same' (E : Env) (ops : Array Oper) (hs : List Thing) (r : Rd) : Prop := ∃ o, ops[r.i]? = some o ∧ Val E r.sl hs o.op r.v
def SeenR (n : Nat) (rnd : Option Nat) (ms : List Dfr) (x : Nat × AAct × AV) (r : Rd) : Prop := x.1 = r.i ∧ HasA x.2.1 n rnd ms r.sl ∧ x.2.2 = r.v
def SeenL (n : Nat) (rnd : Option Nat) (ms : List Dfr) (xs : Seen) (rs : List Rd) : Prop := ∀ x ∈ xs, ∃ r ∈ rs, SeenR n rnd ms x r
def FlL (fs : Floats) (fl : List Fl) : Prop := ∀ f ∈ fs, ∃ g ∈ fl, f = (g.i, g.id, .row g.cells g.u 0)
def PastL (ps : List (Nat × St)) (past : List (Nat × List Thing)) : Prop := ∀ p ∈ ps, ∃ q ∈ past, p.1 = q.1 ∧ HasS p.2 q.2
theorem Same'.agrees (hE : ∀ v, E.same.1 v v = true) {ops : Array Oper} {hs : List Thing} {r : Rd} {x : Nat × AAct × AV} {S : St} (h : Same' E ops hs r) (hx : SeenR n rnd ms x r) (hS : HasS S hs) : agrees E ops S x = true := by
 obtain ⟨o, ho, hv⟩ := h;obtain ⟨h1, h2, h3⟩ := hx;unfold Am.agrees;rw [h1, ho]
 have := hv x.2.1.ev S h2.ev hS o rfl;simp only [this, h3];exact hE _
def TD2 (E : Env) (n : Nat) (rnd : Option Nat) (ops : Array Oper) (l : List Nat) (s : Sy) (past : List (Nat × List Thing)) (seen : List Rd) (fl : List Fl) (Q : Sy → Prop) : Prop :=
 ∀ a S ps xs fs, Is n rnd a S s → PastL ps past → SeenL n rnd s.ms xs seen → FlL fs fl →
  Evt E (fun rec => drawSteps rec E ops (CheckFast.beforeL ops.toList 0 []) fs l a S ps xs) fun r => ∃ s', Is n rnd r.1 r.2 s' ∧ Q s'
def TD1 (E : Env) (n : Nat) (rnd : Option Nat) (ops : Array Oper) (l1 l2 : List Nat) (s : Sy) (seen : List Rd) (fl : List Fl) (Q : Sy → Prop) : Prop :=
 ∀ a S xs fs, Is n rnd a S s → SeenL n rnd s.ms xs seen → FlL fs fl →
  Evt E (fun rec => (drawFirst rec E ops l1 a S xs fs).bind fun x => bif x.2.1.all (agrees E ops x.1.2) then drawSteps rec E ops (CheckFast.beforeL ops.toList 0 []) x.2.2 l2 x.1.1 x.1.2 [] x.2.1 else .error "region first reads")
   fun r => ∃ s', Is n rnd r.1 r.2 s' ∧ Q s'
variable {ops : Array Oper} {i : Nat} {l l1 l2 : List Nat} {σ : Sl} {hs : List Thing} {past : List (Nat × List Thing)} {seen : List Rd} {fl : List Fl} {Q : Sy → Prop} {t : Tmp} {op : Op} {ty : TypeId} {pos : String} {af : Array Edge} {g : Option (Nat × Bool)} {v : AV}
theorem T.drawE {id : Nat} {s : Sy} {Q : Exit → Sy → Prop} (h1 : firstPass ops (CheckFast.beforeL ops.toList 0 []) = l1) (h2 : secondPass ops (CheckFast.beforeL ops.toList 0 []) = l2)
  (h : TD1 E n rnd ops l1 l2 s [] [] (Q .normal)) : T E n rnd (.region id ops true) s Q := .of_step fun a S hi => by
 obtain ⟨r, ⟨m0, hm⟩, s', h3, h4⟩ := h a S [] [] hi (fun x hx => by simp at hx) (fun x hx => by simp at hx);refine ⟨(.exit .normal r.1, r.2), ⟨m0, fun m hm' => ?_⟩, _, _, _, _, rfl, h3, h4⟩
 have := hm m hm';simp only [runCode, runRegion, cond_true, forceL_eq, drawRun, h1, h2];simp only at this;rw [this];rfl
theorem opVal_on {a : AAct} {S : St} {o : Oper} (ho : ops[i]? = some o) (hw : Region.wanted o (yieldedA ops a) = true) {rec : Rec} : opVal rec E ops i a S = (match aop E S a.ev o with
    | .error m => .error (m ++ " " ++ o.pos)
    | .ok (.val v, S1) => .ok (v, S1)
    | .ok (.enter f args, S1) => callA rec E f args S1
    | .ok (.round l args, S1) => aRound rec S1 l args
    | .ok (.thr _, _) => .error ("panic " ++ o.pos)) ∧ kindAt ops i a = kindOf o := by
  refine ⟨?_, ?_⟩
  · unfold opVal
    rw [ho]
    simp only [hw, cond_true]
    cases aop E S a.ev o with
    | error m => rfl
    | ok x =>
      obtain ⟨nx, S1⟩ := x
      cases nx <;> rfl
  · unfold kindAt; rw [ho]; simp only [hw, cond_true]
theorem opVal_val {a : AAct} {S S1 : St} {o : Oper} {v : AV} (ho : ops[i]? = some o) (hw : Region.wanted o (yieldedA ops a) = true) (h : aop E S a.ev o = .ok (.val v, S1)) {rec : Rec} : opVal rec E ops i a S = .ok (v, S1) ∧ kindAt ops i a = kindOf o := by
 obtain ⟨h1, h2⟩ := opVal_on (E := E) (S := S) (rec := rec) ho hw;exact ⟨by rw [h1, h], h2⟩
theorem opVal_off {a : AAct} {S : St} {o : Oper} (ho : ops[i]? = some o) (hw : Region.wanted o (yieldedA ops a) = false) {rec : Rec} : opVal rec E ops i a S = .ok (undefA, S) ∧ kindAt ops i a = 0 := by
 refine ⟨?_, ?_⟩
 ·unfold opVal; rw [ho]; simp only [hw, cond_false]
 ·unfold kindAt; rw [ho]; simp only [hw, cond_false]
theorem TD1.light (ho : ops[i]? = some ⟨some t, op, ty, pos, af, g⟩) (hk : kindOf ⟨some t, op, ty, pos, af, g⟩ = 0) (hd : Nat.blt t n = true) (hw : wantS ops σ g = some true) (h : Val E σ hs op v)
  (k : TD1 E n rnd ops l1 l2 ⟨ms, (t, v) :: σ, hs⟩ seen fl Q) : TD1 E n rnd ops (i :: l1) l2 ⟨ms, σ, hs⟩ seen fl Q := fun a S xs fs hi hx hf => by
 obtain ⟨a1, hp, ha1⟩ := hi.act.put (d := some t) hd v
 have hv := h a.ev S hi.act.ev hi.mem ⟨some t, op, ty, pos, af, g⟩ rfl
 have hwn := hi.act.wanted (ops := ops) (o := ⟨some t, op, ty, pos, af, g⟩) hw;refine (k a1 S xs fs ⟨ha1, hi.mem⟩ hx hf).congr fun rec => ?_
 obtain ⟨h1, h2⟩ := opVal_val (rec := rec) ho hwn hv
 have hdst : dstAt ops i = some t := by simp [dstAt, ho]
 simp only [drawFirst, h1, Except.bind, hdst, hp, h2, hk]
theorem TD1.read (ho : ops[i]? = some ⟨some t, op, ty, pos, af, g⟩) (hk : kindOf ⟨some t, op, ty, pos, af, g⟩ = 1) (hd : Nat.blt t n = true) (hw : wantS ops σ g = some true) (h : Val E σ hs op v)
  (k : TD1 E n rnd ops l1 l2 ⟨ms, (t, v) :: σ, hs⟩ (⟨i, σ, v⟩ :: seen) fl Q) : TD1 E n rnd ops (i :: l1) l2 ⟨ms, σ, hs⟩ seen fl Q := fun a S xs fs hi hx hf => by
 obtain ⟨a1, hp, ha1⟩ := hi.act.put (d := some t) hd v
 have hv := h a.ev S hi.act.ev hi.mem ⟨some t, op, ty, pos, af, g⟩ rfl
 have hwn := hi.act.wanted (ops := ops) (o := ⟨some t, op, ty, pos, af, g⟩) hw;refine (k a1 S ((i, a, v) :: xs) fs ⟨ha1, hi.mem⟩ (fun x hx' => ?_) hf).congr fun rec => ?_
 ·rcases List.mem_cons.1 hx' with rfl | hx'
  ·exact ⟨_, List.mem_cons_self, rfl, hi.act, rfl⟩
  ·obtain ⟨r, h1, h2⟩ := hx x hx'; exact ⟨r, List.mem_cons_of_mem _ h1, h2⟩
 obtain ⟨h1, h2⟩ := opVal_val (rec := rec) ho hwn hv
 have hdst : dstAt ops i = some t := by simp [dstAt, ho]
 simp only [drawFirst, h1, Except.bind, hdst, hp, h2, hk]
theorem TD1.over (hE : ∀ v, E.same.1 v v = true) (hr : ∀ r ∈ seen, Same' E ops hs r) (k : TD2 E n rnd ops l2 ⟨ms, σ, hs⟩ [] seen fl Q) : TD1 E n rnd ops [] l2 ⟨ms, σ, hs⟩ seen fl Q := fun a S xs fs hi hx hf => by
 refine (k a S [] xs fs hi (fun p hp => by simp at hp) hx hf).congr fun rec => ?_
 have hall : xs.all (agrees E ops S) = true := List.all_eq_true.2 fun x hx' => by
  obtain ⟨r, h1, h2⟩ := hx x hx';exact (hr r h1).agrees hE h2 hi.mem
 simp only [drawFirst, Except.bind, hall, cond_true]
theorem TD2.nil (h : Q ⟨ms, σ, hs⟩) : TD2 E n rnd ops [] ⟨ms, σ, hs⟩ past seen fl Q := fun a S ps xs fs hi hp hx hf => .ok ⟨_, hi, h⟩
theorem TD2.light (ho : ops[i]? = some ⟨some t, op, ty, pos, af, g⟩) (hk : kindOf ⟨some t, op, ty, pos, af, g⟩ = 0) (hd : Nat.blt t n = true) (hw : wantS ops σ g = some true) (h : Val E σ hs op v)
  (k : TD2 E n rnd ops l ⟨ms, (t, v) :: σ, hs⟩ past seen fl Q) : TD2 E n rnd ops (i :: l) ⟨ms, σ, hs⟩ past seen fl Q := fun a S ps xs fs hi hpa hx hf => by
 obtain ⟨a1, hp, ha1⟩ := hi.act.put (d := some t) hd v
 have hv := h a.ev S hi.act.ev hi.mem ⟨some t, op, ty, pos, af, g⟩ rfl
 have hwn := hi.act.wanted (ops := ops) (o := ⟨some t, op, ty, pos, af, g⟩) hw;refine (k a1 S ps xs fs ⟨ha1, hi.mem⟩ hpa hx hf).congr fun rec => ?_
 obtain ⟨h1, h2⟩ := opVal_val (rec := rec) ho hwn hv
 have hdst : dstAt ops i = some t := by simp [dstAt, ho]
 simp only [drawSteps, h1, Except.bind, hdst, hp, h2, hk]
theorem TD2.off (ho : ops[i]? = some ⟨some t, op, ty, pos, af, g⟩) (hd : Nat.blt t n = true) (hw : wantS ops σ g = some false)
  (k : TD2 E n rnd ops l ⟨ms, (t, undefA) :: σ, hs⟩ past seen fl Q) : TD2 E n rnd ops (i :: l) ⟨ms, σ, hs⟩ past seen fl Q := fun a S ps xs fs hi hpa hx hf => by
 obtain ⟨a1, hp, ha1⟩ := hi.act.put (d := some t) hd undefA
 have hwn := hi.act.wanted (ops := ops) (o := ⟨some t, op, ty, pos, af, g⟩) hw;refine (k a1 S ps xs fs ⟨ha1, hi.mem⟩ hpa hx hf).congr fun rec => ?_
 obtain ⟨h1, h2⟩ := opVal_off (E := E) (S := S) (rec := rec) ho hwn
 have hdst : dstAt ops i = some t := by simp [dstAt, ho]
 simp only [drawSteps, h1, Except.bind, hdst, hp, h2]
theorem TD2.heavy (hE : ∀ v, E.same.1 v v = true) {o : Oper} {K : AV → List Thing → Prop} (ho : ops[i]? = some o) (hk : 2 ≤ kindOf o) (hd : dstOk n o.dst = true) (hw : wantS ops σ o.guard = some true) (h : OpS E n rnd o ⟨ms, σ, hs⟩ K)
    (k : ∀ v hs', K v hs' → (∀ r ∈ seen, bitOf (CheckFast.beforeL ops.toList 0 []) i r.i = true ∨ Same' E ops hs' r) ∧ (∀ f ∈ fl, bitOf (CheckFast.beforeL ops.toList 0 []) i f.i = true ∨ Thing.obj f.id (.row f.cells f.u 0) ∈ hs') ∧
      TD2 E n rnd ops l ⟨ms, putS o.dst v σ, hs'⟩ ((i, hs) :: past) seen fl Q) : TD2 E n rnd ops (i :: l) ⟨ms, σ, hs⟩ past seen fl Q := fun a S ps xs fs hi hpa hx hf => by
  have hwn := hi.act.wanted (ops := ops) (o := o) hw
  obtain ⟨⟨v, S1⟩, ⟨m0, hm0⟩, hs', h1, h2⟩ := h a S hi
  obtain ⟨k1, k2, k3⟩ := k v hs' h2
  obtain ⟨a1, hp, ha1⟩ := hi.act.put hd v
  obtain ⟨y, ⟨m1, hm1⟩, hy⟩ := k3 a1 S1 ((i, S) :: ps) xs fs ⟨ha1, h1⟩ (fun p hp' => by
    rcases List.mem_cons.1 hp' with rfl | hp'
    · exact ⟨_, List.mem_cons_self, rfl, hi.mem⟩
    · obtain ⟨q, q1, q2⟩ := hpa p hp'; exact ⟨q, List.mem_cons_of_mem _ q1, q2⟩) hx hf
  refine ⟨y, ⟨max m0 m1, fun m hm => ?_⟩, hy⟩
  have hdst : dstAt ops i = o.dst := by simp [dstAt, ho]
  have e0 : opVal (run E m) E ops i a S = .ok (v, S1) := by
    have := hm0 m (by omega)
    unfold opVal
    rw [ho]
    simp only [hwn, cond_true]
    cases hop : aop E S a.ev o with
    | error e => rw [hop] at this; cases this
    | ok x =>
      rw [hop] at this
      obtain ⟨nx, S2⟩ := x
      cases nx <;> first | exact this | cases this
  have ek : kindAt ops i a = kindOf o := (opVal_on (E := E) (S := S) (rec := run E m) ho hwn).2
  have hk' : ∃ j, kindOf o = j + 2 := ⟨kindOf o - 2, by omega⟩
  obtain ⟨j, hj⟩ := hk'
  have all1 : xs.all (fun x => bitOf (CheckFast.beforeL ops.toList 0 []) i x.1 || agrees E ops S1 x) = true := List.all_eq_true.2 fun x hx' => by
    obtain ⟨r, r1, r2⟩ := hx x hx'
    rcases k1 r r1 with h | h
    · rw [r2.1, h, Bool.true_or]
    · rw [h.agrees hE r2 h1, Bool.or_true]
  have all2 : fs.all (fun f => bitOf (CheckFast.beforeL ops.toList 0 []) i f.1 || floatSame E S1 f) = true := List.all_eq_true.2 fun f hf' => by
    obtain ⟨q, q1, rfl⟩ := hf f hf'
    rcases k2 q q1 with h | h
    · simp only [h, Bool.true_or]
    · have hg : S1.heap.get q.id = some (.row q.cells q.u 0) := h1.ok _ h
      have hsame : allSame E.same.1 q.cells q.cells = true := by
        generalize q.cells = cs
        induction cs with
        | nil => rfl
        | cons c cs ih => simp only [allSame, hE, ih, Bool.and_self]
      have : floatSame E S1 (q.i, q.id, .row q.cells q.u 0) = true := by
        unfold floatSame
        simp only [hg, sameObj, hsame, Nat.beq_refl, Bool.and_self]
      rw [this, Bool.or_true]
  simp only [drawSteps, e0, Except.bind, hdst, hp, ek, hj, all1, all2, Bool.and_self, cond_true]
  exact hm1 m (by omega)
theorem OpS.eff {o : Oper} {K : AV → List Thing → Prop} (h : Eff E σ hs o.op K) : OpS E n rnd o ⟨ms, σ, hs⟩ K := fun a S hi => by
 obtain ⟨v, S', hs', h1, h2, h3⟩ := h a.ev S hi.act.ev hi.mem o rfl;rw [h1];exact .ok ⟨hs', h2, h3⟩
theorem OpS.call {o : Oper} {f : FuncId} {fn : Func} {xs : Array Operand} {ts : Array TypeId} {vs ds : List AV} {v : AV} {G : List AV → Option AV} (ho : o.op = .call { callee := .value (.func f), args := xs, argTypes := ts })
  (hx : evsL σ xs.toList = some vs) (hf : E.fn f = some fn) (hG : E.orc f = some G) (hr : ReifL 12 hs vs ds) (hg : G ds = some v) (hg0 : E.og f = [] := by rfl) : OpS E n rnd o ⟨ms, σ, hs⟩ (fun v' hs' => v' = v ∧ hs' = hs) := fun a S hi => by
 have e : aop E S a.ev o = .ok (.enter f vs, S) := by
  unfold aop;rw [ho];simp only [acall, AAct.ev, acallee, hf, ofOpt, Except.bind, List.nil_append, List.append_nil];rw [evsL_ok hi.act _ _ hx]
 rw [e];refine .pure (x := (v, S)) (fun rec => ?_) ⟨hs, hi.mem, rfl, rfl⟩;simp only [callA, hG, hr S hi.mem, hg, ofOpt, Except.bind, hg0, glbOk, List.all_nil, cond_true]
end
end Go.Am
end
section
namespace Go.Am
open Go.RowKit
set_option linter.unusedVariables false
set_option linter.unusedSimpArgs false
section
variable {E : Env} {d : Bool} {n : Nat} {rnd : Option Nat} {ops : Array Oper} {i : Nat} {ns : List Nat} {ms : List Dfr} {σ : Sl} {hs hs' : List Thing} {Q : Sy → Prop} {t : Tmp} {op : Op} {ty : TypeId} {pos : String} {af : Array Edge} {g : Option (Nat × Bool)}
theorem TF.mono {f : FuncId} {args : List AV} {K K' : AV → List Thing → Prop} (h : TF E f args hs K) (hk : ∀ v hs', K v hs' → K' v hs') : TF E f args hs K' :=
 fun S hS => (h S hS).mono fun r ⟨v, S', hs', h1, h2, h3⟩ => ⟨v, S', hs', h1, h2, hk _ _ h3⟩
theorem OpS.callV {o : Oper} {f : FuncId} {fn : Func} {x : Operand} {xs : Array Operand} {ts : Array TypeId} {vs first cap : List AV} {K : AV → List Thing → Prop} (ho : o.op = .call { callee := .value x, args := xs, argTypes := ts })
  (hc : evs σ x = some (.func f first cap)) (hx : evsL σ xs.toList = some vs) (hf : E.fn f = some fn) (hG : E.orc f = none) (h : TF E f (first ++ vs ++ cap) hs K) : OpS E n rnd o ⟨ms, σ, hs⟩ K := fun a S hi => by
 have e : aop E S a.ev o = .ok (.enter f (first ++ vs ++ cap), S) := by
  unfold aop;rw [ho];simp only [acall, hi.act.ev _ _ hc, acallee, hf, ofOpt, Except.bind];rw [evsL_ok hi.act _ _ hx]
 rw [e];obtain ⟨y, ⟨m0, hm⟩, v, S', hs', rfl, h2, h3⟩ := h S hi.mem;refine ⟨(v, S'), ⟨m0, fun m hm' => ?_⟩, hs', h2, h3⟩;simp only [callA, hG]
 have := hm m hm';simp only at this;rw [this];rfl
theorem TO.callV {f : FuncId} {fn : Func} {x : Operand} {xs : Array Operand} {ts : Array TypeId} {vs first cap : List AV} {K : AV → List Thing → Prop} (ho : ops[i]? = some ⟨some t, .call { callee := .value x, args := xs, argTypes := ts }, ty, pos, af, g⟩)
  (hd : Nat.blt t n = true) (hw : wantS ops σ g = some true) (hc : evs σ x = some (.func f first cap)) (hx : evsL σ xs.toList = some vs) (hf : E.fn f = some fn) (hG : E.orc f = none) (h : TF E f (first ++ vs ++ cap) hs K)
  (k : ∀ v hs', K v hs' → TO E false n rnd ops ns ⟨ms, (t, v) :: σ, hs'⟩ Q) : TO E false n rnd ops (i :: ns) ⟨ms, σ, hs⟩ Q :=
 TO.cons_of (K := K) ho hd (fun a ha => ha.wanted hw) (OpS.callV rfl hc hx hf hG h) k
theorem TO.callIn {f : FuncId} {fn : Func} {x : Operand} {xs : Array Operand} {ts : Array TypeId} {vs first cap : List AV} (ho : ops[i]? = some ⟨some t, .call { callee := .value x, args := xs, argTypes := ts }, ty, pos, af, g⟩)
  (hd : Nat.blt t n = true) (hw : wantS ops σ g = some true) (hc : evs σ x = some (.func f first cap)) (hx : evsL σ xs.toList = some vs) (hf : E.fn f = some fn) (hG : E.orc f = none)
  (h : TF E f (first ++ vs ++ cap) hs fun v hs' => TO E false n rnd ops ns ⟨ms, (t, v) :: σ, hs'⟩ Q) : TO E false n rnd ops (i :: ns) ⟨ms, σ, hs⟩ Q :=
 TO.callV ho hd hw hc hx hf hG h fun _ _ h => h
theorem Val.makeFunc {f : FuncId} {first cap : Array Operand} {vs ws : List AV} (h1 : evsL σ first.toList = some vs) (h2 : evsL σ cap.toList = some ws) : Val E σ hs (.makeFunc (.func f) first cap) (.func f vs ws) := fun ev S he _ o ho => by
 have key : ∀ (xs : List Operand) (vs : List AV), evsL σ xs = some vs → xs.map ev = vs := by
  intro xs
  induction xs with
  | nil => intro vs hv; cases hv; rfl
  | cons x xs ih =>
   intro vs hv;simp only [evsL] at hv;split at hv
   ·rename_i v r h1 h2
    cases hv;rw [List.map_cons, ih _ h2, he _ _ h1]
   ·cases hv
 unfold aop; rw [ho];simp only [amakeFunc, key _ _ h1, key _ _ h2, valOf, Except.bind];rfl
end
section
variable {E : Env} {n : Nat} {ms : List Dfr} {σ : Sl} {hs : List Thing}
def parS : List Tmp → List AV → Sl → Option Sl
 | [], [], σ => some σ
 | p :: ps, v :: vs, σ => parS ps vs ((p, v) :: σ)
 | _, _, _ => none
end
section
variable {E : Env}
def LoadR (E : Env) (hs : List Thing) (t : TypeId) (pv v : AV) : Prop := ∀ S, HasS S hs → loadVarA E S t pv = .ok v
def ResL (E : Env) (σ : Sl) (hs : List Thing) : List ResultVar → List AV → Prop
 | [], [] => True
 | .tmp t :: rs, v :: vs => lk σ t = some v ∧ ResL E σ hs rs vs
 | .cell p t :: rs, v :: vs => (∃ pv, lk σ p = some pv ∧ LoadR E hs t pv v) ∧ ResL E σ hs rs vs
 | _, _ => False
def LeaveL : List Dfr → List Thing → List Thing → Prop
 | [], hs, hs' => hs' = hs
 | .mark m :: ms, hs, hs' => ∃ p, hs[p]? = some (.obj m (.dfr true)) ∧ LeaveL ms (hs.eraseIdx p) hs'
 | .call _ _ :: _, _, _ => False
def RetG (E : Env) (rs : List ResultVar) (K : AV → List Thing → Prop) : Exit → Sy → Prop := fun e s =>
 isEnd e = true ∧ ∃ hs', LeaveL s.ms s.hs hs' ∧ ∃ vs, ResL E s.sl hs' rs vs ∧ K (oneOrTuple vs) hs'
theorem leave_ok : ∀ {ms : List Dfr} {S : St} {hs hs' : List Thing}, HasS S hs → LeaveL ms hs hs' → ∃ S', leave S ms = .ok S' ∧ HasS S' hs' := by
 intro ms
 induction ms with
 | nil => intro S hs hs' h hl; cases hl; exact ⟨S, rfl, h⟩
 | cons m ms ih =>
  intro S hs hs' h hl;cases m with
  | call g args => exact hl.elim
  | mark m =>
  obtain ⟨p, hp, hl⟩ := hl
  have hg : S.heap.get m = some (.dfr true) := h.ok _ (List.mem_of_getElem? hp)
  have h1 := h.writeAt hp (y := .obj m (.dfr false)) (i := m) (o := .dfr false) rfl rfl (by show (S.write m _).heap.get m = _; rw [write_get, if_pos rfl])
  have h2 := (h1.perm (pick_perm (.obj m (.dfr false)) hp).2.symm).sub (List.sublist_cons_self _ _);obtain ⟨S', h3, h4⟩ := ih h2 hl;exact ⟨S', by simp only [leave, hg]; exact h3, h4⟩
theorem resL_ok {S : St} {a : AAct} {n : Nat} {rnd : Option Nat} {mk : List Dfr} {σ : Sl} {hs : List Thing} (h : HasA a n rnd mk σ) (hS : HasS S hs) : ∀ (rs : List ResultVar) (vs : List AV), ResL E σ hs rs vs → resultsOf E S a rs = .ok vs := by
 intro rs
 induction rs with
 | nil => intro vs hv; cases vs with | nil => rfl | cons => exact hv.elim
 | cons r rs ih =>
  intro vs hv;cases vs with
  | nil => cases r <;> exact hv.elim
  | cons v vs =>
   cases r with
   | tmp t =>
    obtain ⟨h1, h2⟩ := hv;simp only [resultsOf, ih _ h2, h.get _ _ h1, Except.bind]
   | cell p t =>
    obtain ⟨⟨pv, h1, h3⟩, h2⟩ := hv;simp only [resultsOf, h.get _ _ h1, h3 S hS, ih _ h2, Except.bind]
theorem TF.enterG {f : FuncId} {args : List AV} {fn : Func} {c : Code} {n : Nat} {K : AV → List Thing → Prop} {σ : Sl} {rs : List ResultVar} {hs : List Thing} (hf : E.fn f = some fn) (hb : fn.body = some c) (hn : args.length + (fn.ntmps - args.length) = n) (hσ : zipN 0 args = σ)
  (hr : fn.results.toList = rs) (h : T E n none c ⟨[], σ, hs⟩ (RetG E rs K)) (he0 : E.eff f = none := by rfl) : TF E f args hs K := by
 intro S hS;refine Evt.task ?_
 have ha : HasA (enterAct fn args) n none [] σ := by
  refine ⟨hn, rfl, rfl, fun t v hv => ?_⟩;rw [← hσ] at hv;simp only [enterAct, AAct.get, enter_get _ _ _ _ _ hv]
 obtain ⟨x, ⟨m0, hm⟩, e, a', S', s', rfl, hi, he, hs', hl, vs, hv, hk⟩ := h _ S ⟨ha, hS⟩;obtain ⟨S2, h2, h3⟩ := leave_ok hi.mem hl;refine ⟨(.ret (oneOrTuple vs), S2), ⟨m0, fun m hm' => ?_⟩, _, _, _, rfl, h3, hk⟩
 have hm := hm m hm';simp only at hm
 have h2' : leaveD (run E m) E a'.marks .returning S' = .ok (.returning, S2) := leaveD_of_leave (by rw [hi.act.marks]; exact h2);simp only [runStep, runCall, he0, hf, hb, ofOpt, Except.bind, hm, modeOf_end he, h2', hr, resL_ok hi.act h3 rs vs hv]
theorem LoadR.row {bt : TypeId} {hs : List Thing} {p id u off k : Nat} {cells : List AV} {v : AV} (hp : hs[p]? = some (.row id u cells)) (ht : Scalar E bt) (hk : cells.length = k) (hv : cells[off]? = some v) : LoadR E hs bt (.ptr id off k) v := fun S hS => by
 subst hk;obtain ⟨dd, h1, h2⟩ := ht
 have hlt := (List.getElem?_eq_some_iff.1 hv).1;obtain ⟨_, hl⟩ := hS.loadAll (hS.row hp);simp only [loadVarA, h1, ofOpt, Except.bind, h2, cond_false, readN, hl off 1 (by omega)];rw [List.drop_eq_getElem_cons hlt]
 have : cells[off] = v := by rw [List.getElem?_eq_getElem hlt] at hv; exact Option.some.inj hv
 simp only [List.take_succ_cons, List.take_zero, this]
theorem LoadR.rows {bt : TypeId} {hs : List Thing} {p id u off k m : Nat} {cells c : List AV} (hp : hs[p]? = some (.row id u cells)) (ht : Aggr E bt m) (hk : cells.length = k) (hv : (cells.drop off).take m = c) (hm : Nat.ble (off + m) k = true) : LoadR E hs bt (.ptr id off k) (.agg c) := fun S hS => by
 subst hk;obtain ⟨⟨dd, h1, h2⟩, h3, h4⟩ := ht
 have hm' := Nat.le_of_ble_eq_true hm;obtain ⟨_, hl⟩ := hS.loadAll (hS.row hp);simp only [loadVarA, h1, h3, ofOpt, Except.bind, h2, cond_true, readN, hl off m hm', hv]
end
end Go.Am
end
section
namespace Go.Am
open Go.RowKit
set_option linter.unusedVariables false
set_option linter.unusedSimpArgs false
section
variable {E : Env} {d : Bool} {n : Nat} {rnd : Option Nat} {ops : Array Oper} {i : Nat} {ns : List Nat} {ms : List Dfr} {σ : Sl} {hs hs' : List Thing} {Q : Sy → Prop} {t : Tmp} {op : Op} {ty : TypeId} {pos : String} {af : Array Edge} {g : Option (Nat × Bool)}
def IsAt {α : Type} (v : AV) (e : En α) (l : List α) (id : Nat) : Prop := ∃ ex, v = .slice id 0 (l.flatMap e.f).length ex l.length l.length
theorem own_cell {S : St} {z : Bool} {v : AV} {u m : Nat} {cells : List AV} (h : Thing.ok S (.own z v u m cells)) : cellsOf v = [v] ∧ oneCell v = true := by
 rcases h with ⟨h0, h1, h2, h3⟩ | ⟨id, ex, h1, _⟩ <;> rw [h1] <;> exact ⟨rfl, rfl⟩
end
end Go.Am
end
section
namespace Go.Am
open Go.RowKit
set_option linter.unusedVariables false
end Go.Am
end
section
namespace Go.Am
open Go.RowKit
set_option linter.unusedVariables false
set_option linter.unusedSimpArgs false
section
variable {E : Env} {d : Bool} {n : Nat} {rnd : Option Nat} {ops : Array Oper} {i : Nat} {ns : List Nat} {ms : List Dfr} {σ : Sl} {hs hs' : List Thing} {Q : Sy → Prop} {t : Tmp} {op : Op} {ty : TypeId} {pos : String} {af : Array Edge} {g : Option (Nat × Bool)}
variable {KP : Value → Prop} {f : Value → Int} {mk : List (Value × Nat)}
end
end Go.Am
end
section
namespace Go.Am
open Go.RowKit
set_option linter.unusedVariables false
set_option linter.unusedSimpArgs false
theorem all_nil {α : Type} {p : α → Prop} : ∀ x ∈ ([] : List α), p x := fun _ h => absurd h (by simp)
theorem all_cons {α : Type} {p : α → Prop} {a : α} {l : List α} (h : p a) (hl : ∀ x ∈ l, p x) : ∀ x ∈ a :: l, p x := fun x hx => by
 rcases List.mem_cons.1 hx with rfl | hx
 ·exact h
 ·exact hl x hx
section
variable {E : Env} {d : Bool} {n : Nat} {rnd : Option Nat} {ops : Array Oper} {i : Nat} {l l1 l2 : List Nat} {ms : List Dfr} {σ : Sl} {hs hs' : List Thing} {Q : Sy → Prop} {t : Tmp} {op : Op} {ty : TypeId} {pos : String} {af : Array Edge} {g : Option (Nat × Bool)}
variable {past : List (Nat × List Thing)} {seen : List Rd} {fl : List Fl}
theorem TD2.things (he : hs = hs') (h : TD2 E n rnd ops l ⟨ms, σ, hs'⟩ past seen fl Q) : TD2 E n rnd ops l ⟨ms, σ, hs⟩ past seen fl Q := he ▸ h
def isIfaceT : TypeDesc → Bool | .interface _ => true | _ => false
theorem Val.makeIface {it : TypeId} {x : Operand} {v : AV} {dd : TypeDesc} (hx : evs σ x = some v) (hd : E.und it = some dd) (hn : isIfaceT dd = false) : Val E σ hs (.makeInterface it x) (.iface it v) := fun ev S he hS o ho => by
 unfold aop; rw [ho];simp only [he _ _ hx, amakeIface, hd, ofOpt, Except.bind, valOf];cases dd <;> first | rfl | simp [isIfaceT] at hn
theorem Val.index_gs {α : Type} {enc : En α} {gs : GS enc} {st e : TypeId} {x y : Operand} {k : Int} (ht : SliceT E st e enc.u) (hx : evs σ x = some gs.v) (hy : evs σ y = some (iv k)) (hk : 0 ≤ k ∧ k < gs.l.length) :
  ∃ a rest, gs.l[k.toNat]? = some a ∧ Val E σ hs (.indexAddr st x y) (.tptr (enc.f a ++ rest)) := by
 have hlt : k.toNat < gs.l.length := by omega
 have hr := flat_drop (enc := enc) gs.l k.toNat gs.l[k.toNat] (List.getElem?_eq_getElem hlt);refine ⟨gs.l[k.toNat], (gs.l.drop (k.toNat + 1)).flatMap enc.f, List.getElem?_eq_getElem hlt, fun ev S he _ o ho => ?_⟩
 rcases gs.ok with ⟨h1, h2, h3⟩ | ⟨h1, h2⟩
 ·omega
 ·unfold aop; rw [ho]
  have e1 : decide (0 ≤ k) = true := decide_eq_true hk.1
  have e2 : decide (k < (gs.l.length : Int)) = true := decide_eq_true hk.2;simp only [he _ _ hx, he _ _ hy, h1, aindexAddr, intOf?, ht.1, ht.2, ofOpt, Except.bind, e1, e2, Bool.and_self, cond_true, valOf, hr];rfl
theorem Eff.store_row {bt : TypeId} {x y : Operand} {p id u off k m : Nat} {cells cv cells' : List AV} {v : AV} (hp : hs[p]? = some (.row id u cells)) (ht : E.siz bt = some m) (hx : evs σ x = some (.ptr id off k)) (hk : cells.length = k) (hy : evs σ y = some v)
  (hcv : cellsOf v = cv) (hl : Nat.beq cv.length m = true) (hm : Nat.beq m 0 = false) (ho1 : cv.all oneCell = true) (hoff : off + m ≤ k) (hc : spliceL cells off cv = cells') : Eff E σ hs (.store bt x y) fun _ hs' => hs' = hs.set p (.row id u cells') := fun ev S he hS o ho => by
 subst hk;obtain ⟨fl, h1, h2⟩ := hS.row hp
 have hl' := Nat.eq_of_beq_eq_true hl
 have hlen : cells'.length = cells.length := by
  rw [← hc]; simp only [spliceL, List.length_append, List.length_take, List.length_drop]; omega
 refine ⟨undefA, S.write id (.row cells' u cells.length), _, ?_, hS.writeAt hp rfl (y := .row id u cells') rfl ⟨cells.length, by omega, by rw [write_get, if_pos rfl]⟩, rfl⟩;unfold aop; rw [ho]
 have e1 : Nat.beq cells.length cells.length = true := Nat.beq_refl _
 have e2 : Nat.ble fl cells.length = true := Nat.ble_eq_true_of_le h1
 have e3 : Nat.ble (off + cv.length) cells.length = true := Nat.ble_eq_true_of_le (by omega)
 have er : rowOf S id = .ok (cells, u, fl) := by unfold rowOf; rw [h2]
 simp only [he _ _ hx, he _ _ hy, storeVarA, ht, hcv, ofOpt, Except.bind, hl, hm, Bool.not_false, Bool.and_self, cond_true, storeN, er, e1, e2, e3, ho1, hc];rfl
end
end Go.Am
end
section
namespace Go.Am
open Go.RowKit
set_option linter.unusedVariables false
end Go.Am
end
section
namespace Go.Am
open Go.RowKit
set_option linter.unusedVariables false
set_option linter.unusedSimpArgs false
section
variable {E : Env} {d : Bool} {n : Nat} {rnd : Option Nat} {ops : Array Oper} {i : Nat} {ns : List Nat} {ms : List Dfr} {σ : Sl} {hs hs' : List Thing} {Q : Sy → Prop} {t : Tmp} {op : Op} {ty : TypeId} {pos : String} {af : Array Edge} {g : Option (Nat × Bool)}
end
end Go.Am
end
section
namespace Go.Am
open Go.RowKit
set_option linter.unusedVariables false
end Go.Am
end
section
namespace Go.Am
open Go.RowKit
set_option linter.unusedVariables false
end Go.Am
end
section
namespace Go.Am
open Go.RowKit
set_option linter.unusedVariables false
set_option linter.unusedSimpArgs false
section
variable {E : Env} {n : Nat} {ms : List Dfr} {σ : Sl} {hs : List Thing}
end
end Go.Am
end
section
namespace Go.Am
open Go.RowKit
set_option linter.unusedVariables false
set_option linter.unusedSimpArgs false
inductive Ex (J A : Type) where
 | nx (j : J)
 | rt (a : A)
inductive Stp (σ ε : Type) where
 | ag (s : σ)
 | dn (e : ε)
section
variable {α β J A σ ε : Type}
open Classical in
noncomputable def chk (p : Prop) (k : Option α) : Option α := if p then k else none
theorem chk_some {p : Prop} {k : Option α} {r : α} (h : chk p k = some r) : p ∧ k = some r := by
 unfold chk at h;split at h
 ·exact ⟨by assumption, h⟩
 ·cases h
theorem chk_pos {p : Prop} {k : Option α} (h : p) : chk p k = k := by unfold chk; rw [if_pos h]
def el (l : List α) (i : Int) (k : α → Option β) : Option β := if 0 ≤ i then (match l[i.toNat]? with | some a => k a | none => none) else none
theorem el_some {l : List α} {i : Int} {k : α → Option β} {r : β} (h : el l i k = some r) : ∃ a, (0 ≤ i ∧ i < l.length) ∧ l[i.toNat]? = some a ∧ k a = some r := by
 unfold el at h;split at h
 ·rename_i h0
  split at h
  ·rename_i a ha
   exact ⟨a, ⟨h0, by have := (List.getElem?_eq_some_iff.1 ha).1; omega⟩, ha, h⟩
  ·cases h
 ·cases h
def seqx (x : Option (Ex J A)) (k : J → Option A) : Option A :=
 match x with
 | some (.nx j) => k j
 | some (.rt a) => some a
 | none => none
def andx (x : Option J) (k : J → Option A) : Option A :=
 match x with
 | some j => k j
 | none => none
theorem andx_some {x : Option J} {k : J → Option A} {r : A} (h : andx x k = some r) : ∃ j, x = some j ∧ k j = some r := by
 cases x with
 | none => cases h
 | some j => exact ⟨j, rfl, h⟩
def iterN (body : σ → Option (Stp σ ε)) : Nat → σ → Option ε
 | 0, _ => none
 | n + 1, s => match body s with
  | some (.ag s') => iterN body n s'
  | some (.dn e) => some e
  | none => none
open Classical in
noncomputable def iter (body : σ → Option (Stp σ ε)) (s : σ) : Option ε := if h : ∃ n e, iterN body n s = some e then iterN body h.choose s else none
theorem iter_some {body : σ → Option (Stp σ ε)} {s : σ} {e : ε} (h : iter body s = some e) : ∃ n, iterN body n s = some e := by
 unfold iter at h;split at h
 ·exact ⟨_, h⟩
 ·cases h
theorem iterN_mono {body : σ → Option (Stp σ ε)} : ∀ {n m : Nat} {s : σ} {e : ε}, iterN body n s = some e → n ≤ m → iterN body m s = some e := by
 intro n
 induction n with
 | zero => intro m s e h; cases h
 | succ n ih =>
  intro m s e h hm;cases m with
  | zero => omega
  | succ m =>
   unfold iterN at h ⊢;cases hb : body s with
   | none => rw [hb] at h; cases h
   | some x =>
    rw [hb] at h;cases x with
    | ag s' => exact ih h (by omega)
    | dn e' => exact h
theorem iter_of {body : σ → Option (Stp σ ε)} {n : Nat} {s : σ} {e : ε} (h : iterN body n s = some e) : iter body s = some e := by
 have h' : ∃ n e, iterN body n s = some e := ⟨n, e, h⟩;unfold iter;rw [dif_pos h'];obtain ⟨e', he'⟩ := h'.choose_spec
 have h1 := iterN_mono he' (Nat.le_max_left h'.choose n)
 have h2 := iterN_mono h (Nat.le_max_right h'.choose n);rw [h1] at h2;cases h2;exact he'
theorem iter_eq {body : σ → Option (Stp σ ε)} {s : σ} {e : ε} : iter body s = some e ↔ (∃ s', body s = some (.ag s') ∧ iter body s' = some e) ∨ body s = some (.dn e) := by
 constructor
 ·intro h;obtain ⟨n, h⟩ := iter_some h;cases n with
  | zero => cases h
  | succ n =>
   unfold iterN at h;cases hb : body s with
   | none => rw [hb] at h; cases h
   | some x =>
    rw [hb] at h;cases x with
    | ag s' => exact .inl ⟨s', rfl, iter_of h⟩
    | dn e' => cases h; exact .inr rfl
 ·rintro (⟨s', hb, h⟩ | hb)
  ·obtain ⟨n, h⟩ := iter_some h;exact iter_of (n := n + 1) (by unfold iterN; rw [hb]; exact h)
  ·exact iter_of (n := 1) (by unfold iterN; rw [hb])
def Ok (x : Option α) (Q : α → Prop) : Prop := ∃ a, x = some a ∧ Q a
variable {Q : β → Prop}
theorem Ok.get {x : Option α} {a : α} (h : Ok x fun r => r = a) : x = some a := let ⟨_, h1, h2⟩ := h; h2 ▸ h1
theorem Ok.some {a : β} (h : Q a) : Ok (some a) Q := ⟨a, rfl, h⟩
theorem Ok.mono {x : Option β} {Q' : β → Prop} (h : Ok x Q) (hq : ∀ a, Q a → Q' a) : Ok x Q' := let ⟨a, h1, h2⟩ := h; ⟨a, h1, hq a h2⟩
theorem Ok.chk {p : Prop} {k : Option β} (h : p) (hk : Ok k Q) : Ok (Am.chk p k) Q := by rw [chk_pos h]; exact hk
theorem Ok.andx {x : Option J} {k : J → Option β} {P : J → Prop} (h : Ok x P) (hk : ∀ j, P j → Ok (k j) Q) : Ok (Am.andx x k) Q := by
 obtain ⟨j, rfl, hj⟩ := h;exact hk j hj
def OkX (k : J → Option A) (Q : A → Prop) : Ex J A → Prop
 | .nx j => Ok (k j) Q
 | .rt a => Q a
theorem Ok.seqx {x : Option (Ex J A)} {k : J → Option A} {Q : A → Prop} (h : Ok x (OkX k Q)) : Ok (Am.seqx x k) Q := by
 obtain ⟨j, rfl, hj⟩ := h;cases j with
 | nx j => exact hj
 | rt a => exact .some hj
theorem Ok.ite {p : Prop} [Decidable p] {x y : Option β} (h1 : p → Ok x Q) (h2 : ¬ p → Ok y Q) : Ok (if p then x else y) Q := by
 by_cases h : p
 ·rw [if_pos h]; exact h1 h
 ·rw [if_neg h]; exact h2 h
def OkS (I : σ → Prop) (m : σ → Nat) (s : σ) (Q : ε → Prop) : Stp σ ε → Prop
 | .ag s' => I s' ∧ m s' < m s
 | .dn e => Q e
theorem Ok.iter (I : σ → Prop) (m : σ → Nat) {body : σ → Option (Stp σ ε)} {s : σ} {Q : ε → Prop} (h0 : I s) (step : ∀ s, I s → Ok (body s) (OkS I m s Q)) : Ok (Am.iter body s) Q := by
 generalize hk : m s = k
 induction k using Nat.strongRecOn generalizing s with
 | _ k ih =>
  obtain ⟨x, hb, hx⟩ := step s h0;cases x with
  | ag s' =>
   obtain ⟨e, he, hq⟩ := ih (m s') (by have := hx.2; omega) hx.1 rfl;exact ⟨e, iter_eq.2 (.inl ⟨s', hb, he⟩), hq⟩
  | dn e => exact ⟨e, iter_eq.2 (.inr hb), hx⟩
theorem seqx_nx {j : J} {k : J → Option A} : seqx (some (.nx j)) k = k j := rfl
end
def Less (a b : List Thing) : Prop := ∀ S, HasS S b → HasS S a
theorem Less.refl {a : List Thing} : Less a a := fun S h => h
theorem Less.nil {b : List Thing} : Less [] b := fun S h => h.sub (List.nil_sublist _)
theorem Less.drop {a b : List Thing} {x : Thing} (h : Less a b) : Less a (x :: b) := fun S k => h S (k.sub (List.sublist_cons_self _ _))
theorem Less.cons {a b : List Thing} {x : Thing} (h : ∀ y ∈ a, y ∈ b ∨ y.id = none) (h' : Less a b) : Less (x :: a) (x :: b) := fun S k => by
 have hb := h' S (k.sub (List.sublist_cons_self _ _));refine ⟨k.wf, fun y hy => ?_, ?_⟩
 ·rcases List.mem_cons.1 hy with rfl | hy
  ·exact k.ok _ (by simp)
  ·exact hb.ok y hy
 ·refine List.pairwise_cons.2 ⟨fun y hy => ?_, hb.apart⟩
  rcases h y hy with h | h
  ·exact (List.pairwise_cons.1 k.apart).1 y h
  ·intro i hi e; rw [h] at e; cases e
inductive Pk : List Thing → List Thing → Prop
 | nil {b : List Thing} : Pk [] b
 | refl {b : List Thing} : Pk b b
 | drop {a b : List Thing} {x : Thing} (h : Pk a b) : Pk a (x :: b)
 | pick {a b : List Thing} {p : Nat} {x : Thing} (hp : b[p]? = some x) (h : Pk a (b.eraseIdx p)) : Pk (x :: a) b
 | own0 {a b : List Thing} {u : Nat} (h : Pk a b) : Pk (.own true nilS u 0 [] :: a) b
theorem Pk.mem {a b : List Thing} (h : Pk a b) : ∀ y ∈ a, y ∈ b ∨ y.id = none := by
 induction h with
 | nil => intro y hy; simp at hy
 | refl => intro y hy; exact .inl hy
 | drop h ih => intro y hy; exact (ih y hy).imp (List.mem_cons_of_mem _) id
 | pick hp h ih =>
  intro y hy
  rcases List.mem_cons.1 hy with rfl | hy
  ·exact .inl (List.mem_of_getElem? hp)
  ·exact (ih y hy).imp List.mem_of_mem_eraseIdx id
 | own0 h ih =>
  intro y hy
  rcases List.mem_cons.1 hy with rfl | hy
  ·exact .inr rfl
  ·exact ih y hy
theorem Pk.less {a b : List Thing} (h : Pk a b) : Less a b := by
  induction h with
  | nil => exact .nil
  | refl => exact .refl
  | drop h ih => exact .drop ih
  | @pick a b p x hp h ih => exact fun S k => (Less.cons (h.mem) ih) S (HasS.perm k ((pick_perm (p := p) x hp).1.symm))
  | own0 h ih => exact fun S k => ⟨k.wf, fun x hx => by
      rcases List.mem_cons.1 hx with rfl | hx
      · exact .inl ⟨rfl, rfl, rfl, rfl⟩
      · exact (ih S k).ok x hx, List.pairwise_cons.2 ⟨fun x hx i hi => (by cases hi), (ih S k).apart⟩⟩
structure Sub2 (s s' : Sy) : Prop where
 ms : s.ms = s'.ms
 sl : ∀ t v, lk s.sl t = some v → lk s'.sl t = some v
 hs : Pk s.hs s'.hs
theorem Is.sub2 {n : Nat} {rnd : Option Nat} {a : AAct} {S : St} {s s' : Sy} (h : Is n rnd a S s') (k : Sub2 s s') : Is n rnd a S s :=
 ⟨⟨h.act.n, h.act.rnd, h.act.marks.trans k.ms.symm, fun t v x => h.act.get t v (k.sl t v x)⟩, k.hs.less S h.mem⟩
section
variable {E : Env} {n : Nat} {rnd : Option Nat} {s : Sy} {J A σ ε W : Type}
theorem T.keep2 {c : Code} {s' : Sy} {Q : Exit → Sy → Prop} (k : Sub2 s' s) (h : T E n rnd c s' Q) : T E n rnd c s Q := fun a S hi => h a S (hi.sub2 k)
theorem T.at {c : Code} {s' : Sy} {Q : Exit → Sy → Prop} (e : s' = s) (h : T E n rnd c s' Q) : T E n rnd c s Q := e ▸ h
def RepJ (mid : J → W → Sy) (Rep : A → Exit → Sy → Prop) : Ex J A → Exit → Sy → Prop
 | .nx j, e, s => e = .normal ∧ ∃ w, Sub2 (mid j w) s
 | .rt a, e, s => e ≠ .normal ∧ Rep a e s
theorem T.join (mid : J → W → Sy) {x y : Code} {Rep : A → Exit → Sy → Prop} {X : Option (Ex J A)} {B : J → Option A} {r : A} (h : seqx X B = some r)
  (hx : ∀ a, X = some a → T E n rnd x s (RepJ mid Rep a)) (hy : ∀ j w, B j = some r → T E n rnd y (mid j w) (Rep r)) : T E n rnd (.seq x y) s (Rep r) := by
 refine T.seq ?_;cases X with
 | none => cases h
 | some a =>
  refine (hx a rfl).mono fun e s' hr => ?_
  cases a with
  | nx j =>
   obtain ⟨rfl, w, hs⟩ := hr;exact T.keep2 hs (hy j w h)
  | rt b =>
   obtain ⟨he, hr⟩ := hr;cases h;cases e <;> first | exact absurd rfl he | exact hr
def RepA (mid : J → W → Sy) (j : J) : Exit → Sy → Prop := fun e s => e = .normal ∧ ∃ w, Sub2 (mid j w) s
theorem T.joinA (mid : J → W → Sy) {x y : Code} {Rep : A → Exit → Sy → Prop} {X : Option J} {B : J → Option A} {r : A} (h : andx X B = some r)
  (hx : ∀ a, X = some a → T E n rnd x s (RepA mid a)) (hy : ∀ j w, B j = some r → T E n rnd y (mid j w) (Rep r)) : T E n rnd (.seq x y) s (Rep r) := by
 obtain ⟨j, hX, hB⟩ := andx_some h;refine T.seq ((hx j hX).mono fun e s' hr => ?_);obtain ⟨rfl, w, hs⟩ := hr;exact T.keep2 hs (hy j w hB)
def RepL (st : σ → W → Sy) (Rep : ε → Exit → Sy → Prop) : Stp σ ε → Exit → Sy → Prop
 | .ag s, e, sy => e = .normal ∧ ∃ w, Sub2 (st s w) sy
 | .dn x, e, sy => e ≠ .normal ∧ Rep x e sy
theorem T.iter (st : σ → W → Sy) {c : Code} {Rep : ε → Exit → Sy → Prop} {body : σ → Option (Stp σ ε)} {s0 : σ} {w0 : W} {r : ε} (h : iter body s0 = some r) (hs : Sub2 (st s0 w0) s)
  (step : ∀ s w a, body s = some a → T E n rnd c (st s w) (RepL st Rep a)) : T E n rnd (.loop c) s (Rep r) := by
 obtain ⟨k, h'⟩ := iter_some h;refine T.keep2 hs ?_
 clear hs h
 have h := h'
 clear h'
 induction k generalizing s0 w0 with
 | zero => cases h
 | succ m ih =>
  unfold iterN at h;cases hb : body s0 with
  | none => rw [hb] at h; cases h
  | some x =>
   rw [hb] at h;refine .of_step fun a S hi => ?_
   refine Evt.bind ((step s0 w0 x hb a S hi).mono fun rr ⟨e, a', S', s1, h1, h2, h3⟩ => ?_);subst h1;cases x with
   | ag s2 =>
    obtain ⟨rfl, w1, hs1⟩ := h3;exact ih h a' S' (h2.sub2 hs1)
   | dn x =>
    obtain ⟨he, hr⟩ := h3;cases h;refine Evt.pure (x := (.exit e a', S')) (fun rec => ?_) ⟨_, _, _, _, rfl, h2, hr⟩;cases e <;> first | exact absurd rfl he | rfl
theorem ex_ne {i : Nat} : Exit.exit i ≠ .normal := fun h => by cases h
theorem ret_ne : Exit.ret ≠ .normal := fun h => by cases h
end
section
variable {E : Env} {d : Bool} {n : Nat} {rnd : Option Nat} {ops : Array Oper} {i : Nat} {l : List Nat} {ms : List Dfr} {σ : Sl} {hs hs' : List Thing} {Q : Sy → Prop} {t : Tmp} {op : Op} {ty : TypeId} {pos : String} {af : Array Edge} {g : Option (Nat × Bool)}
def RepF {W : Type} (vw : W → AV) (hw : W → List Thing) : AV → List Thing → Prop := fun v hs' => ∃ w, v = vw w ∧ Pk (hw w) hs'
theorem RepF.conv {W : Type} {vw : W → AV} {hw : W → List Thing} {f : FuncId} {vs : List AV} (h : TF E f vs hs (RepF vw hw)) : TF E f vs hs fun v hs' => ∃ w, v = vw w ∧ hs' = hw w := fun S hS =>
 (h S hS).mono fun r ⟨v, S', hs', h1, h2, w, h3, h4⟩ => ⟨v, S', _, h1, h4.less S' h2, w, h3, rfl⟩
theorem TO.callJ {J A W : Type} (vw : J → W → AV) (hw : J → W → List Thing) {X : Option J} {B : J → Option A} {r : A} {f : FuncId} {fn : Func} {x : Operand} {xs : Array Operand} {ts : Array TypeId} {vs first cap : List AV} (h : andx X B = some r)
  (ho : ops[i]? = some ⟨some t, .call { callee := .value x, args := xs, argTypes := ts }, ty, pos, af, g⟩) (hd : Nat.blt t n = true) (hwt : wantS ops σ g = some true) (hx : evs σ x = some (.func f first cap)) (hxs : evsL σ xs.toList = some vs) (hf : E.fn f = some fn) (hG : E.orc f = none)
  (hc : ∀ j, X = some j → TF E f (first ++ vs ++ cap) hs (RepF (vw j) (hw j)))
  (k : ∀ j w, B j = some r → TO E false n rnd ops l ⟨ms, (t, vw j w) :: σ, hw j w⟩ Q) : TO E false n rnd ops (i :: l) ⟨ms, σ, hs⟩ Q := by
 obtain ⟨j, hX, hB⟩ := andx_some h;refine TO.callV ho hd hwt hx hxs hf hG (RepF.conv (hc j hX)) ?_;rintro v hs' ⟨w, rfl, rfl⟩;exact k j w hB
theorem TO.callT {W : Type} {vw : W → AV} {hw : W → List Thing} {f : FuncId} {fn : Func} {x : Operand} {xs : Array Operand} {ts : Array TypeId} {vs first cap : List AV}
  (ho : ops[i]? = some ⟨some t, .call { callee := .value x, args := xs, argTypes := ts }, ty, pos, af, g⟩) (hd : Nat.blt t n = true) (hwt : wantS ops σ g = some true) (hx : evs σ x = some (.func f first cap)) (hxs : evsL σ xs.toList = some vs) (hf : E.fn f = some fn) (hG : E.orc f = none)
  (hc : TF E f (first ++ vs ++ cap) hs (RepF vw hw)) (k : ∀ w, TO E false n rnd ops l ⟨ms, (t, vw w) :: σ, hw w⟩ Q) : TO E false n rnd ops (i :: l) ⟨ms, σ, hs⟩ Q := by
 refine TO.callV ho hd hwt hx hxs hf hG (RepF.conv hc) ?_;rintro v hs' ⟨w, rfl, rfl⟩;exact k w
theorem TF.run {W : Type} {vw : W → AV} {hw : W → List Thing} {f : FuncId} {vs : List AV} {t : AV} (h : TF E f vs [] (RepF vw hw)) (hr : ∀ w, RefN 12 (hw w) (vw w) t) : Comes E f vs t :=
 .of ((RepF.conv h).mono fun v hs' ⟨w, h1, h2⟩ => by subst h1; subst h2; exact hr w)
end
end Go.Am
end
section
namespace Go.Am
open Go.RowKit
set_option linter.unusedVariables false
set_option linter.unusedSimpArgs false
@[simp] theorem oneCell_nil : oneCell nilS = true := rfl
abbrev I64 (x : Int) : Prop := -9223372036854775808 ≤ x ∧ x < 9223372036854775808
section
variable {E : Env} {d : Bool} {n : Nat} {rnd : Option Nat} {ops : Array Oper} {i : Nat} {l l1 l2 : List Nat} {ms : List Dfr} {σ : Sl} {hs hs' C : List Thing} {Q : Sy → Prop} {t : Tmp} {op : Op} {ty : TypeId} {pos : String} {af : Array Edge} {g : Option (Nat × Bool)}
variable {past : List (Nat × List Thing)} {seen : List Rd} {fl : List Fl}
theorem TO.fact {P : Prop} (hf : ∀ S, HasS S hs → P) (h : P → TO E d n rnd ops l ⟨ms, σ, hs⟩ Q) : TO E d n rnd ops l ⟨ms, σ, hs⟩ Q := fun a S hi => h (hf S hi.mem) a S hi
theorem TD1.fact {P : Prop} (hf : ∀ S, HasS S hs → P) (h : P → TD1 E n rnd ops l1 l2 ⟨ms, σ, hs⟩ seen fl Q) : TD1 E n rnd ops l1 l2 ⟨ms, σ, hs⟩ seen fl Q := fun a S xs fs hi hx hf' => h (hf S hi.mem) a S xs fs hi hx hf'
theorem own_cellS {p u m : Nat} {z : Bool} {v : AV} {cells : List AV} (hp : hs[p]? = some (.own z v u m cells)) : ∀ S, HasS S hs → cellsOf v = [v] ∧ oneCell v = true := fun S h => own_cell (h.own hp)
section
variable {xt ty' : TypeId} {x y : Operand} {a b : Int} {c : Bool}
theorem Val.lss (hc : c = decide (a < b)) (hx : evs σ x = some (iv a)) (hy : evs σ y = some (iv b)) : Val E σ hs (.binOp .lss xt x y ty') (bv c) := by subst hc; exact Val.cmp hx hy rfl
theorem Val.gtr (hc : c = decide (a > b)) (hx : evs σ x = some (iv a)) (hy : evs σ y = some (iv b)) : Val E σ hs (.binOp .gtr xt x y ty') (bv c) := by subst hc; exact Val.cmp hx hy rfl
theorem Val.leq (hc : c = decide (a ≤ b)) (hx : evs σ x = some (iv a)) (hy : evs σ y = some (iv b)) : Val E σ hs (.binOp .leq xt x y ty') (bv c) := by subst hc; exact Val.cmp hx hy rfl
theorem Val.geq (hc : c = decide (a ≥ b)) (hx : evs σ x = some (iv a)) (hy : evs σ y = some (iv b)) : Val E σ hs (.binOp .geq xt x y ty') (bv c) := by subst hc; exact Val.cmp hx hy rfl
theorem Val.eql (hc : c = decide (a = b)) (hx : evs σ x = some (iv a)) (hy : evs σ y = some (iv b)) : Val E σ hs (.binOp .eql xt x y ty') (bv c) := by subst hc; exact Val.cmp hx hy rfl
theorem Val.neq (hc : c = decide (¬ a = b)) (hx : evs σ x = some (iv a)) (hy : evs σ y = some (iv b)) : Val E σ hs (.binOp .neq xt x y ty') (bv c) := by subst hc; exact Val.cmp hx hy rfl
end
theorem Val.binD {op : BinOp} {xt ty : TypeId} {x y : Operand} {v w : AV} {b c : Bool} {p : Prop} {dp : Decidable p} (hc : c = @decide p dp) (hx : evs σ x = some v) (hy : evs σ y = some w) (hp : abin E op xt x y v w = .ok (bv b) ∧ (b = true ↔ p)) : Val E σ hs (.binOp op xt x y ty) (bv c) := by
 have : c = b := by
  subst hc;cases b with
  | true => exact decide_eq_true (hp.2.1 rfl)
  | false => exact decide_eq_false fun k => Bool.noConfusion (hp.2.2 k)
 subst this;exact Val.bin hx hy hp.1
theorem Val.quo {xt ty : TypeId} {x y : Operand} {a b : Int} (hx : evs σ x = some (iv a)) (hy : evs σ y = some (iv b)) (h : 0 < b) (h1 : -9223372036854775808 ≤ a ∧ a < 9223372036854775808) :
  Val E σ hs (.binOp .quo xt x y ty) (iv (a.tdiv b)) := fun ev S he _ o ho => by
 have hb : b ≠ 0 := by omega
 have hr : -9223372036854775808 ≤ a.tdiv b ∧ a.tdiv b < 9223372036854775808 := by
  rcases Int.le_total 0 a with h0 | h0
  ·have h2 := Int.tdiv_nonneg h0 (by omega : 0 ≤ b)
   have h3 := Int.tdiv_le_self b h0;omega
  ·obtain ⟨m, rfl⟩ : ∃ m : Int, a = -m := ⟨-a, by omega⟩
   have h2 := Int.tdiv_nonneg (by omega : 0 ≤ m) (by omega : 0 ≤ b)
   have h3 := Int.tdiv_le_self b (by omega : 0 ≤ m);rw [Int.neg_tdiv];omega
 have hp : abin E .quo xt x y (iv a) (iv b) = .ok (iv (a.tdiv b)) := by
  simp only [abin, abinPure, toV, Except.bind]
  have e : (pureVal E.P (do eqGuard .quo xt x y (.int .i64 a) (.int .i64 b); binOp .quo xt (.int .i64 a) (.int .i64 b))) = some (.int .i64 (a.tdiv b)) := by
   show pureVal E.P (Op.intDiv .quo .i64 a b) = _;unfold Op.intDiv;simp only [hb, if_false, wrap_id hr.1 hr.2];rfl
  rw [e];rfl
 unfold aop; rw [ho]; simp only [he _ _ hx, he _ _ hy, hp]; rfl
def Rdl {α : Type} (C : List Thing) (en : En α) (v : AV) (l : List α) : Prop := (∃ gs : GS en, gs.v = v ∧ gs.l = l) ∨ ∃ z, ownL z v en l ∈ C
theorem Rdl.gs {α : Type} {en : En α} (x : GS en) : Rdl C en x.v x.l := .inl ⟨x, rfl, rfl⟩
theorem Rdl.own {α : Type} {en : En α} {z : Bool} {v : AV} {l : List α} {p : Nat} (h : C[p]? = some (ownL z v en l)) : Rdl C en v l := .inr ⟨z, List.mem_of_getElem? h⟩
theorem Rdl.nil {α : Type} {en : En α} : Rdl C en nilS [] := .inl ⟨GSo true en [], rfl, rfl⟩
theorem Rdl.mono {α : Type} {en : En α} {v : AV} {l : List α} {C' : List Thing} (h : Rdl C en v l) (hC : ∀ x ∈ C, x ∈ C') : Rdl C' en v l := h.imp (fun x => x) fun ⟨z, hz⟩ => ⟨z, hC _ hz⟩
inductive PtE {α : Type} (C : List Thing) (en : En α) (a : α) (j : Nat) : AV → Prop
 | tree (rest : List AV) (hj : j ≤ en.u) : PtE C en a j (.tptr ((en.f a).drop j ++ rest))
 | own {z : Bool} {v : AV} {l : List α} {id k i : Nat} {ex : Bool} (hm : ownL z v en l ∈ C) (hv : v = .slice id 0 k ex l.length l.length) (ha : l[i]? = some a) : PtE C en a j (.ptr id (i * en.u + j) k)
def padd : AV → Nat → AV
 | .tptr cs, n => .tptr (cs.drop n)
 | .ptr id o k, n => .ptr id (o + n) k
 | v, _ => v
theorem PtE.add {α : Type} {en : En α} {a : α} {j k : Nat} {p : AV} (h : PtE C en a j p) (hk : j + k ≤ en.u) : PtE C en a (j + k) (padd p k) := by
 cases h with
 | tree rest hj =>
  have e : ((en.f a).drop j ++ rest).drop k = (en.f a).drop (j + k) ++ rest := by
   rw [List.drop_append, List.drop_drop]
   have : (List.drop j (en.f a)).length = en.u - j := by rw [List.length_drop, en.len]
   rw [this, Nat.sub_eq_zero_of_le (by omega : k ≤ en.u - j)];rfl
  show PtE C en a (j + k) (.tptr (((en.f a).drop j ++ rest).drop k));rw [e];exact .tree _ hk
 | own hm hv ha =>
  show PtE C en a (j + k) (.ptr _ _ _)
  have := PtE.own (j := j + k) hm hv ha;rw [← Nat.add_assoc] at this;exact this
theorem rdl_at {α : Type} {en : En α} {v : AV} {l : List α} {k : Int} {a : α} (h : Rdl C en v l) (hC : ∀ x ∈ C, x ∈ hs) (hk : 0 ≤ k ∧ k < l.length) (ha : l[k.toNat]? = some a) :
  ∀ S, HasS S hs → ∃ p, PtE C en a 0 p ∧ ∀ {E : Env} {σ : Sl} {hs : List Thing} {st e : TypeId} {x y : Operand}, SliceT E st e en.u → evs σ x = some v → evs σ y = some (iv k) → Val E σ hs (.indexAddr st x y) p := fun S hS => by
 rcases h with ⟨gs, rfl, rfl⟩ | ⟨z, hz⟩
 ·rcases gs.ok with ⟨h1, h2, h3⟩ | ⟨h1, h2⟩
  ·omega
  ·refine ⟨.tptr (en.f a ++ (gs.l.drop (k.toNat + 1)).flatMap en.f), .tree (j := 0) _ (Nat.zero_le _), fun {E σ hs st e x y} ht hx hy => ?_⟩;obtain ⟨a', rest, e1, hv⟩ := Val.index_gs (E := E) (σ := σ) (hs := hs) ht hx hy hk;intro ev S he hS o ho
   have hr := flat_drop (enc := en) gs.l k.toNat a ha;unfold aop; rw [ho]
   have e1 : decide (0 ≤ k) = true := decide_eq_true hk.1
   have e2 : decide (k < (gs.l.length : Int)) = true := decide_eq_true hk.2;simp only [he _ _ hx, he _ _ hy, h1, aindexAddr, intOf?, ht.1, ht.2, ofOpt, Except.bind, e1, e2, Bool.and_self, cond_true, valOf, hr];rfl
 ·rcases hS.ok _ (hC _ hz) with ⟨h0, h1, h2, h3⟩ | ⟨id, ex, h1, h2, h3, h4⟩
  ·omega
  ·refine ⟨.ptr id (k.toNat * en.u) (l.flatMap en.f).length, PtE.own (j := 0) hz h1 ha, fun {E σ hs st e x y} ht hx hy => ?_⟩
   have := Val.iaddr_slice (E := E) (hs := hs) ht (hx.trans (congrArg some h1)) hy hk
   rwa [Nat.zero_add] at this
theorem Val.faddr_e {α : Type} {en : En α} {a : α} {j : Nat} {p : AV} {s f fo m : Nat} {x : Operand} {fd : Field} (h : PtE C en a j p) (hf : fieldOf E s f = .ok (fd, m)) (hx : evs σ x = some p) (ho' : Nat.beq fd.offset fo = true) : Val E σ hs (.fieldAddr s x f) (padd p fo) := by
 have e := Nat.eq_of_beq_eq_true ho';cases h with
 | tree rest hj => exact Val.faddr_tree hf hx ho' rfl
 | own hm hv ha => exact Val.faddr_ptr hf hx (by rw [e]; exact Nat.beq_refl _)
theorem Val.load_e {α : Type} {en : En α} {a : α} {j : Nat} {p w : AV} {bt : TypeId} {x : Operand} (h : PtE C en a j p) (hC : ∀ x ∈ C, x ∈ hs) (ht : Scalar E bt) (hx : evs σ x = some p) (hw : (en.f a)[j]? = some w) : Val E σ hs (.load bt x) w := by
 have hj : j < (en.f a).length := (List.getElem?_eq_some_iff.1 hw).1;cases h with
 | tree rest hj' =>
  have e : (en.f a).drop j = w :: (en.f a).drop (j + 1) := by rw [List.drop_eq_getElem_cons hj, (List.getElem?_eq_some_iff.1 hw).2]
  rw [e] at hx;exact Val.load_tree ht hx
 | own hm hv ha =>
  obtain ⟨p, hp⟩ := List.mem_iff_getElem?.1 (hC _ hm);refine Val.load_own hp hv ht hx ?_;rw [flat_get ha (by rw [← en.len a]; exact hj)];exact hw
theorem Val.load_es {α : Type} {en : En α} {a : α} {j m : Nat} {p : AV} {c : List AV} {bt : TypeId} {x : Operand} (h : PtE C en a j p) (hC : ∀ x ∈ C, x ∈ hs) (ht : Aggr E bt m) (hx : evs σ x = some p) (hc : ((en.f a).drop j).take m = c) (hm : Nat.beq c.length m = true) : Val E σ hs (.load bt x) (.agg c) := by
 have hl := Nat.eq_of_beq_eq_true hm
 have hle : m ≤ (en.f a).length - j := by have := congrArg List.length hc; rw [List.length_take, List.length_drop] at this; omega
 cases h with
 | tree rest hj' =>
  have e : (en.f a).drop j ++ rest = c ++ (((en.f a).drop j).drop m ++ rest) := by rw [← hc, ← List.append_assoc, List.take_append_drop]
  rw [e] at hx;exact Val.load_trees ht hx hl
 | own hm hv ha =>
  obtain ⟨p, hp⟩ := List.mem_iff_getElem?.1 (hC _ hm)
  rename_i z v l id k i ex
  refine Val.load_owns hp hv ht hx ?_ hl
  have hd := flat_drop (enc := en) l i a ha;rw [← List.drop_drop, hd, List.drop_append_of_le_length (by have := en.len a; have := ht.2.2; omega), List.take_append_of_le_length (by rw [List.length_drop]; omega), hc]
theorem Val.len_l {α : Type} {en : En α} {v : AV} {l : List α} {x : Operand} {st e : TypeId} (h : Rdl C en v l) (hC : ∀ x ∈ C, x ∈ hs) (ht : E.und st = some (.slice e)) (hx : evs σ x = some v) :
  Val E σ hs (.call { callee := .builtin .len, args := #[x], argTypes := #[st] }) (iv l.length) := by
 rcases h with ⟨gs, rfl, rfl⟩ | ⟨z, hz⟩
 ·exact Val.len_gs ht hx
 ·obtain ⟨p, hp⟩ := List.mem_iff_getElem?.1 (hC _ hz);exact Val.len_own hp ht hx
theorem Rdl.reif {α : Type} {en : En α} {v : AV} {l : List α} (h : Rdl C en v l) (hC : ∀ x ∈ C, x ∈ hs) (ht : ∀ k hs, ReifL (k + 1) hs (l.flatMap en.f) (l.flatMap en.f)) : ∃ gs : GS en, gs.l = l ∧ ∀ k, Reif (k + 2) hs v gs.v := by
 rcases h with ⟨gs, rfl, rfl⟩ | ⟨z, hz⟩
 ·exact ⟨gs, rfl, fun k => .gs⟩
 ·exact ⟨GSo z en l, rfl, fun k => Reif.own (hC _ hz) (ht k hs)⟩
theorem own_at {α : Type} {en : En α} {l : List α} {p : Nat} {z : Bool} {v : AV} {k : Int} (hp : hs[p]? = some (ownL z v en l)) (hk : 0 ≤ k ∧ k < l.length) : ∀ S, HasS S hs → ∃ id, IsAt v en l id := fun S hS => by
 rcases hS.own hp with ⟨h0, h1, h2, h3⟩ | ⟨id, ex, h1, h2, h3, h4⟩
 ·omega
 ·exact ⟨id, ex, h1⟩
theorem Val.iaddr_at {α : Type} {en : En α} {l : List α} {v : AV} {id : Nat} {st et : TypeId} {x y : Operand} {k : Int} (hat : IsAt v en l id) (ht : SliceT E st et en.u) (hx : evs σ x = some v) (hy : evs σ y = some (iv k)) (hk : 0 ≤ k ∧ k < l.length) :
  Val E σ hs (.indexAddr st x y) (.ptr id (k.toNat * en.u) (l.flatMap en.f).length) := by
 obtain ⟨ex, hat⟩ := hat
 have := Val.iaddr_slice (E := E) (hs := hs) ht (hx.trans (congrArg some hat)) hy hk
 rwa [Nat.zero_add] at this
theorem Val.load_ownP {α : Type} {en : En α} {l : List α} {bt : TypeId} {x : Operand} {p id k j m : Nat} {z : Bool} {v : AV} {a : α} {c : List AV} (hp : hs[p]? = some (ownL z v en l)) (hv : IsAt v en l id) (ht : Aggr E bt m) (hx : evs σ x = some (.ptr id (k * en.u + j) (l.flatMap en.f).length)) (ha : l[k]? = some a)
  (hc : ((en.f a).drop j).take m = c) (hm : Nat.beq c.length m = true) : Val E σ hs (.load bt x) (.agg c) := by
 obtain ⟨ex, hv⟩ := hv
 have hl := Nat.eq_of_beq_eq_true hm
 have hle : m ≤ (en.f a).length - j := by have := congrArg List.length hc; rw [List.length_take, List.length_drop] at this; omega
 refine Val.load_owns hp hv ht hx ?_ hl
 have hd := flat_drop (enc := en) l k a ha;rw [← List.drop_drop, hd, List.drop_append_of_le_length (by have := en.len a; have := ht.2.2; omega), List.take_append_of_le_length (by rw [List.length_drop]; omega), hc]
theorem splice_mid {xs ys ws : List AV} {off j : Nat} {cv : List AV} (h1 : xs.length = off) (h2 : j + cv.length ≤ ys.length) : spliceL (xs ++ (ys ++ ws)) (off + j) cv = xs ++ (spliceL ys j cv ++ ws) := by
 subst h1;unfold spliceL;rw [List.take_append, List.drop_append, List.take_of_length_le (by omega), List.drop_eq_nil_of_le (by omega), Nat.add_sub_cancel_left, List.nil_append];rw [List.take_append_of_le_length (by omega)]
 have e : xs.length + j + cv.length - xs.length = j + cv.length := by omega
 rw [e, List.drop_append_of_le_length h2];simp [List.append_assoc]
theorem flat_splice {α : Type} {en : En α} {l : List α} {k j : Nat} {a a' : α} {cv : List AV} (ha : l[k]? = some a) (h2 : j + cv.length ≤ en.u) (hc : spliceL (en.f a) j cv = en.f a') : spliceL (l.flatMap en.f) (k * en.u + j) cv = (l.set k a').flatMap en.f := by
 have hk : k < l.length := (List.getElem?_eq_some_iff.1 ha).1
 have e1 : l = l.take k ++ a :: l.drop (k + 1) := by rw [← (show l.drop k = a :: l.drop (k + 1) by rw [List.drop_eq_getElem_cons hk, (List.getElem?_eq_some_iff.1 ha).2]), List.take_append_drop]
 have hlk : (l.take k).length = k := by rw [List.length_take]; omega
 have e2 : l.set k a' = l.take k ++ a' :: l.drop (k + 1) := by
  rw [List.set_eq_take_append_cons_drop, if_pos hk]
 rw [e2]
 conv => lhs; rw [e1]
 rw [List.flatMap_append, List.flatMap_cons, splice_mid (by rw [flat_len, hlk]) (by rw [en.len]; exact h2), hc, List.flatMap_append, List.flatMap_cons]
theorem Eff.append {α : Type} {st e b p : Nat} {z : Bool} {v w : AV} {en : En α} {l l2 : List α} {ts : Array TypeId} {x y : Operand} (ht : AppT E st e en.u b) (hts : ts[0]? = some st) (hni : notInt E ts[1]? = .ok ()) (hp : hs[p]? = some (ownL z v en l))
  (hx : evs σ x = some v) (hy : evs σ y = some w) (hsrc : ∀ S, HasS S hs → Src S w en.u l2.length (l2.flatMap en.f)) (hb : b ≤ 128) (hbig : l.length + l2.length < 1000000000) :
  Eff E σ hs (.call { callee := .builtin .append, args := #[x, y], argTypes := ts }) fun v' hs' => hs' = hs.set p (ownL z v' en (l ++ l2)) := fun ev S he hS o ho => by
 have hbb : (2 * (l.length + l2.length) + 1000) * b ≤ (2 * 1000000000 + 1000) * 128 := Nat.mul_le_mul (by omega) hb;obtain ⟨v', S', h1, h2⟩ := append_own hS ht hts hni hp (hsrc S hS) (by omega);rw [ownL_append] at h2;refine ⟨v', S', _, ?_, h2, rfl⟩;unfold aop; rw [ho];simp only [acall, abuiltin, List.map_cons, List.map_nil, he _ _ hx, he _ _ hy, h1, Except.bind]
theorem Eff.append_own {α : Type} {st e b p q : Nat} {z z2 : Bool} {v w : AV} {en : En α} {l l2 : List α} {ts : Array TypeId} {x y : Operand} (ht : AppT E st e en.u b) (hts : ts[0]? = some st) (hni : notInt E ts[1]? = .ok ()) (hp : hs[p]? = some (ownL z v en l)) (hq : hs[q]? = some (ownL z2 w en l2))
  (hx : evs σ x = some v) (hy : evs σ y = some w) (hone : (l2.flatMap en.f).all oneCell = true) (hb : b ≤ 128) (hbig : l.length + l2.length < 1000000000) :
  Eff E σ hs (.call { callee := .builtin .append, args := #[x, y], argTypes := ts }) fun v' hs' => hs' = hs.set p (ownL z v' en (l ++ l2)) := .append ht hts hni hp hx hy (fun S hS => src_own hS hq hone) hb hbig
end
theorem mem0 {C : List Thing} : ∀ x ∈ C, x ∈ C := fun x h => h
theorem memS {C hs : List Thing} {y : Thing} (h : ∀ x ∈ C, x ∈ hs) : ∀ x ∈ C, x ∈ y :: hs := fun x hx => List.mem_cons_of_mem _ (h x hx)
theorem rdl_cellS {α : Type} {en : En α} {v : AV} {l : List α} {C hs : List Thing} (h : Rdl C en v l) (hC : ∀ x ∈ C, x ∈ hs) : ∀ S, HasS S hs → cellsOf v = [v] ∧ oneCell v = true := fun S hS => by
 rcases h with ⟨gs, rfl, rfl⟩ | ⟨z, hz⟩
 ·exact gs.cells
 ·exact own_cell (hS.ok _ (hC _ hz))
def En.Tr {α : Type} (e : En α) : Prop := ∀ a k hs, ReifL (k + 1) hs (e.f a) (e.f a)
theorem mapR_app {f : AV → R AV} : ∀ {a b c d : List AV}, mapR f a = .ok b → mapR f c = .ok d → mapR f (a ++ c) = .ok (b ++ d) := by
 intro a
 induction a with
 | nil => intro b c d h1 h2; cases h1; exact h2
 | cons x a ih =>
  intro b c d h1 h2;simp only [mapR] at h1;obtain ⟨y, h3, h4⟩ := bind_ok h1;obtain ⟨r, h5, h6⟩ := bind_ok h4;cases h6;simp only [List.cons_append, mapR, h3, ih h5 h2, Except.bind]
theorem ReifL.app {k : Nat} {hs : List Thing} {a b c d : List AV} (h1 : ReifL k hs a b) (h2 : ReifL k hs c d) : ReifL k hs (a ++ c) (b ++ d) := fun S hS => mapR_app (h1 S hS) (h2 S hS)
theorem ReifL.flat {α : Type} {e : En α} (h : e.Tr) {l : List α} : ∀ k hs, ReifL (k + 1) hs (l.flatMap e.f) (l.flatMap e.f) := by
 intro k hs
 induction l with
 | nil => exact .nil
 | cons a l ih => rw [List.flatMap_cons]; exact (h a k hs).app ih
def encSl {α : Type} (e : En α) : En (GS e) := ⟨1, fun g => [g.v], fun _ => rfl⟩
abbrev arrL {α : Type} (id : Nat) (en : En α) (l : List α) : Thing := .row id en.u (l.flatMap en.f)
section
variable {E : Env} {n : Nat} {rnd : Option Nat} {ops : Array Oper} {i : Nat} {l : List Nat} {ms : List Dfr} {σ : Sl} {hs hs' C : List Thing} {Q : Sy → Prop} {t : Tmp} {op : Op} {ty : TypeId} {pos : String} {af : Array Edge} {g : Option (Nat × Bool)}
theorem TO.allocA {α : Type} {en : En α} (a0 : α) (m : Nat) {bt : TypeId} {z : Value} {k : Nat} (ho : ops[i]? = some ⟨some t, .alloc bt, ty, pos, af, g⟩) (hd : Nat.blt t n = true) (hw : wantS ops σ g = some true)
  (hz : E.zro bt = some z) (hc : cellsOf (ofV 4 z) = (List.replicate m a0).flatMap en.f) (hk : m * en.u = k) (hu : unitOf E bt = .ok en.u) (c : ∀ id, TO E false n rnd ops l ⟨ms, (t, .ptr id 0 k) :: σ, arrL id en (List.replicate m a0) :: hs⟩ Q) : TO E false n rnd ops (i :: l) ⟨ms, σ, hs⟩ Q :=
 TO.alloc ho hd hw hz hc (by rw [flat_len, List.length_replicate]; exact hk) hu c
theorem Eff.store_arr {α : Type} {en : En α} {l : List α} {bt : TypeId} {x y : Operand} {p id k j m q : Nat} {w : AV} {a a' : α} {cv : List AV} (hp : hs[p]? = some (arrL id en l)) (hl : (l.length : Int) * en.u = m) (ha : l[k]? = some a) (ht : E.siz bt = some q) (hm : Nat.beq q 0 = false) (hu : j + q ≤ en.u)
  (hx : evs σ x = some (.ptr id (0 + k * en.u + j) m)) (hy : evs σ y = some w) (hcv : cellsOf w = cv) (hlc : Nat.beq cv.length q = true) (ho1 : cv.all oneCell = true) (hc : spliceL (en.f a) j cv = en.f a') :
  Eff E σ hs (.store bt x y) fun _ hs' => hs' = hs.set p (arrL id en (l.set k a')) := by
 have hl' := Nat.eq_of_beq_eq_true hlc
 have hk : k < l.length := (List.getElem?_eq_some_iff.1 ha).1
 have hle : (k + 1) * en.u ≤ l.length * en.u := Nat.mul_le_mul_right _ hk;rw [Nat.succ_mul] at hle
 have hl2 : l.length * en.u = m := by exact_mod_cast hl
 rw [Nat.zero_add] at hx;exact Eff.store_row hp ht hx (by rw [flat_len]; exact hl2) hy hcv hlc hm ho1 (by omega) (flat_splice ha (by omega) hc)
end
end Go.Am
end
section
namespace Go.Am
open Go.RowKit
abbrev bk (signed : Int) (gs : List Gat) : Book := ⟨signed, GSo true encG gs⟩
end Go.Am
end
section
namespace Go.Am
open Go.RowKit
set_option linter.unusedVariables false
set_option linter.unusedSimpArgs false
section
variable {α β σ A : Type}
end
section
variable {E : Env} {n : Nat} {ms : List Dfr} {σ : Sl} {hs : List Thing}
section
variable {J W A β : Type} {ps : Array Tmp}
end
end
end Go.Am
end
section
namespace Go.Am
open Go.RowKit
set_option linter.unusedVariables false
set_option linter.unusedSimpArgs false
inductive CellsL : List (Nat × AV) → List (Nat × List AV) → Prop
 | nil : CellsL [] []
 | cons {i : Nat} {v : AV} {c : List AV} {vs : List (Nat × AV)} {ws : List (Nat × List AV)} (h : cellsOf v = c) (hl : CellsL vs ws) : CellsL ((i, v) :: vs) ((i, c) :: ws)
def fillC (place : Nat → Option (Nat × Nat)) : List AV → List (Nat × List AV) → R (List AV)
 | cells, [] => .ok cells
 | cells, (i, c) :: rest =>
  match place i with
  | none => .error "fill no such place"
  | some (off, size) =>
   bif Nat.beq c.length size && Nat.ble (off + c.length) cells.length then fillC place (spliceL cells off c) rest
   else .error "fill size"
theorem fillA_C {place : Nat → Option (Nat × Nat)} {vs : List (Nat × AV)} {ws : List (Nat × List AV)} (h : CellsL vs ws) : ∀ cells, fillA place cells vs = fillC place cells ws := by
 induction h with
 | nil => intro cells; rfl
 | cons h hl ih =>
  intro cells
  rename_i i v c vs ws
  simp only [fillA, fillC, h];cases hp : place i with
  | none => rfl
  | some x => simp only [ih]
def abuildC (E : Env) (t : TypeId) (parts : List (Nat × List AV)) : R AV :=
 (ofOpt (E.zro t) "zero").bind fun z =>
 (ofOpt (E.und t) "type").bind fun d =>
 match d with
 | .struct fields => (placesOf E fields.toList).bind fun ps => (fillC (fun i => ps[i]?) (zeroCells z) parts).bind fun cs => .ok (.agg cs)
 | .array _ e => (ofOpt (E.siz e) "size").bind fun sz => (fillC (fun i => some (i * sz, sz)) (zeroCells z) parts).bind fun cs => .ok (.agg cs)
 | _ => .error "build"
theorem abuild_C {E : Env} {t : TypeId} {vs : List (Nat × AV)} {ws : List (Nat × List AV)} (h : CellsL vs ws) : abuild E t vs = abuildC E t ws := by
 unfold abuild abuildC
 congr 1
 funext z
 congr 1
 funext d
 cases d <;> simp only [fillA_C h]
section
variable {E : Env} {n : Nat} {rnd : Option Nat} {ops : Array Oper} {i : Nat} {l : List Nat} {ms : List Dfr} {σ : Sl} {hs hs' C : List Thing} {Q : Sy → Prop} {t : Tmp} {op : Op} {ty : TypeId} {pos : String} {af : Array Edge} {g : Option (Nat × Bool)}
theorem Val.buildC {bt : TypeId} {parts : Array (Nat × Operand)} {vs : List (Nat × AV)} {ws : List (Nat × List AV)} {cs : List AV} (hx : evsL σ (parts.toList.map (·.2)) = some (vs.map (·.2))) (hi : parts.toList.map (·.1) = vs.map (·.1)) (hc : CellsL vs ws) (hb : abuildC E bt ws = .ok (.agg cs)) :
  Val E σ hs (.build bt parts) (.agg cs) := Val.build hx hi (by rw [abuild_C hc]; exact hb)
end
section
variable {E : Env} {n : Nat} {rnd : Option Nat} {ops : Array Oper} {i : Nat} {l : List Nat} {ms : List Dfr} {σ : Sl} {hs : List Thing} {Q : Sy → Prop} {t : Tmp} {ty : TypeId} {pos : String} {af : Array Edge} {g : Option (Nat × Bool)}
variable {past : List (Nat × List Thing)} {seen : List Rd} {fl : List Fl}
end
end Go.Am
end
section
namespace Go.Am
open Go.RowKit
set_option linter.unusedVariables false
set_option linter.unusedSimpArgs false
section
variable {E : Env} {d : Bool} {n : Nat} {rnd : Option Nat} {ops : Array Oper} {i : Nat} {l l1 l2 : List Nat} {ms : List Dfr} {σ : Sl} {hs hs' C : List Thing} {Q : Sy → Prop} {t : Tmp} {op : Op} {ty : TypeId} {pos : String} {af : Array Edge} {g : Option (Nat × Bool)}
variable {past : List (Nat × List Thing)} {seen : List Rd} {fl : List Fl}
theorem TO.less (hk : Less hs' hs) (h : TO E d n rnd ops l ⟨ms, σ, hs'⟩ Q) : TO E d n rnd ops l ⟨ms, σ, hs⟩ Q := fun a S hi => h a S ⟨hi.act, hk S hi.mem⟩
theorem TD2.less (hk : Less hs' hs) (h : TD2 E n rnd ops l ⟨ms, σ, hs'⟩ past seen fl Q) : TD2 E n rnd ops l ⟨ms, σ, hs⟩ past seen fl Q := fun a S ps xs fs hi hp hx hf => h a S ps xs fs ⟨hi.act, hk S hi.mem⟩ hp hx hf
end
end Go.Am
end
section
namespace Go.Am
open Go.RowKit
set_option linter.unusedVariables false
set_option linter.unusedSimpArgs false
def New (E : Env) (σ : Sl) (hs : List Thing) (op : Op) (K : Nat → AV) (cells : List AV) (u : Nat) : Prop :=
 ∀ (ev : Operand → AV) (S : St), (∀ x v, evs σ x = some v → ev x = v) → HasS S hs → ∀ o : Oper, o.op = op → aop E S ev o = .ok (.val (K S.next), S.new (.row cells u 0))
section
variable {E : Env} {σ : Sl} {hs : List Thing}
theorem Eff.new {op : Op} {K : Nat → AV} {cells : List AV} {u : Nat} (h : New E σ hs op K cells u) : Eff E σ hs op fun v hs' => ∃ id, v = K id ∧ hs' = .row id u cells :: hs := fun ev S he hS o ho =>
 ⟨_, _, _, h ev S he hS o ho, hS.new _ (x := .row S.next u cells) ⟨0, Nat.zero_le _, by rw [St.new_get, if_pos rfl]⟩ (fun i hi => by cases hi; rfl), S.next, rfl, rfl⟩
theorem New.buildSlice {α : Type} {en : En α} {l : List α} {st e len : Nat} {parts : Array (Nat × Operand)} {zs : List AV} {vs : List (Nat × AV)} {ws : List (Nat × List AV)} (ht : SliceT E st e en.u) (hsm : Nat.blt (2 ^ 24) (len * en.u) = false) (hz : zerosOf E e en.u len = .ok zs)
  (hx : evsL σ (parts.toList.map (·.2)) = some (vs.map (·.2))) (hi : parts.toList.map (·.1) = vs.map (·.1)) (hc : CellsL vs ws) (hf : fillC (fun i => some (i * en.u, en.u)) zs ws = .ok (l.flatMap en.f)) (hl : Nat.beq len l.length = true) :
  New E σ hs (.buildSlice st len parts) (fun id => .slice id 0 (l.flatMap en.f).length true l.length l.length) (l.flatMap en.f) en.u := fun ev S he hS o ho => by
 have hl' := Nat.eq_of_beq_eq_true hl;subst hl'
 have h1 : ∀ (xs : List Operand) (vs : List AV), evsL σ xs = some vs → xs.map ev = vs := by
  intro xs
  induction xs with
  | nil => intro vs hv; cases hv; rfl
  | cons x xs ih =>
   intro vs hv;simp only [evsL] at hv;split at hv
   ·rename_i v r h1 h2
    cases hv;rw [List.map_cons, ih _ h2, he _ _ h1]
   ·cases hv
 have hps : partsOf ev parts = vs := by
  have h1 := h1 _ _ hx;unfold partsOf
  have : ∀ (ps : List (Nat × Operand)) (vs : List (Nat × AV)), (ps.map (·.2)).map ev = vs.map (·.2) → ps.map (·.1) = vs.map (·.1) → ps.map (fun x => (x.1, ev x.2)) = vs := by
   intro ps
   induction ps with
   | nil => intro vs h1 h2; cases vs with | nil => rfl | cons => cases h2
   | cons p ps ih =>
    intro vs h1 h2;cases vs with
    | nil => cases h2
    | cons v vs =>
     simp only [List.map_cons, List.cons.injEq] at h1 h2 ⊢;exact ⟨by rw [h1.1, h2.1], ih vs h1.2 h2.2⟩
  exact this _ _ h1 hi
 unfold aop; rw [ho];simp only [abuildSlice, ht.1, ht.2, ofOpt, Except.bind, hsm, cond_false, hz, hps, fillA_C hc, hf, newSliceA, newOf]
end
theorem own_of_row {α : Type} {S : St} {en : En α} {l : List α} {id : Nat} (h : IsRow S id en.u (l.flatMap en.f)) : (ownL false (.slice id 0 (l.flatMap en.f).length true l.length l.length) en l).ok S :=
 .inr ⟨id, true, rfl, flat_len en l, (fun h => by cases h), h⟩
theorem Less.rowOwn {α : Type} {b : List Thing} {p id : Nat} {en : En α} {l : List α} (hp : b[p]? = some (.row id en.u (l.flatMap en.f))) : Less (b.set p (ownL false (.slice id 0 (l.flatMap en.f).length true l.length l.length) en l)) b := fun S k =>
 k.swap hp (own_of_row (k.ok _ (List.mem_of_getElem? hp))) (.inl rfl)
end Go.Am
end
section
namespace Go.Am
open Go.RowKit
set_option linter.unusedVariables false
section
variable {E : Env} {n : Nat} {rnd : Option Nat} {ops : Array Oper} {i : Nat} {l1 l2 : List Nat} {ms : List Dfr} {σ : Sl} {hs : List Thing} {Q : Sy → Prop} {t : Tmp} {op : Op} {ty : TypeId} {pos : String} {af : Array Edge} {g : Option (Nat × Bool)}
variable {seen : List Rd} {fl : List Fl}
end
noncomputable def orsB (base : Orc') (mkE : Orc' → Env) (lev : Nat → Option Nat) : Nat → Orc'
 | 0 => base
 | k + 1 => fun f => if lev f = some k then some (sem (mkE (orsB base mkE lev k)) f) else orsB base mkE lev k f
variable {base : Orc'} {mkE : Orc' → Env} {lev : Nat → Option Nat}
theorem orsB_get {f j : Nat} (hl : lev f = some j) : ∀ {k : Nat}, j < k → orsB base mkE lev k f = some (sem (mkE (orsB base mkE lev j)) f) := by
 intro k
 induction k with
 | zero => intro h; omega
 | succ k ih =>
  intro h
  have e : orsB base mkE lev (k + 1) f = if lev f = some k then some (sem (mkE (orsB base mkE lev k)) f) else orsB base mkE lev k f := rfl;rw [e]
  by_cases hk : lev f = some k
  ·rw [if_pos hk];rw [hl] at hk;cases hk;rfl
  ·rw [if_neg hk];refine ih ?_
   have : j ≠ k := fun e => hk (e ▸ hl)
   omega
theorem orsB_base {f : Nat} (hl : lev f = none) : ∀ {k : Nat}, orsB base mkE lev k f = base f := by
 intro k
 induction k with
 | zero => rfl
 | succ k ih =>
  have e : orsB base mkE lev (k + 1) f = if lev f = some k then some (sem (mkE (orsB base mkE lev k)) f) else orsB base mkE lev k f := rfl;rw [e, hl, if_neg (by intro h; cases h)];exact ih
theorem orsB_good {P : Program} (hP : ∀ o, (mkE o).P = P) (ho : ∀ o, (mkE o).orc = o) {og : Nat → List (Nat × List Value)} (hb : ∀ f g, base f = some g → Meets P f g (og f)) (hE : ∀ o : Orc', (∀ f g, o f = some g → Meets P f g (og f)) → EnvGood (mkE o)) (hgl : ∀ o, (mkE o).og = og := by intro o; rfl) : ∀ k, EnvGood (mkE (orsB base mkE lev k)) := by
 intro k
 induction k with
 | zero => exact hE _ hb
 | succ k ih =>
  refine hE _ fun f g h => ?_
  unfold orsB at h;split at h
  ·cases h;rw [← hP (orsB base mkE lev k)]
   have := meets_of ih (f := f) (g := sem (mkE (orsB base mkE lev k)) f) fun args t hg => (sem_comes hg).runsTo
   rw [hgl] at this;exact this
  ·rw [← hP (orsB base mkE lev k)]
   have := ih.orc f g (by rw [ho]; exact h);rw [hgl] at this;exact this
theorem orsLB (ho : ∀ o, (mkE o).orc = o) {f j k : Nat} (h : lev f = some j) (hk : j < k) : (mkE (orsB base mkE lev k)).orc f = some (sem (mkE (orsB base mkE lev j)) f) := by
 rw [ho]; exact orsB_get h hk
def levB (base : Orc') (lev : Nat → Option Nat) (f : Nat) : Option Nat := match lev f, base f with | none, none => none | _, _ => some 0
theorem orsNB (ho : ∀ o, (mkE o).orc = o) {f k : Nat} (h : levB base lev f = none) : (mkE (orsB base mkE lev k)).orc f = none := by
 rw [ho];unfold levB at h;split at h
 ·rename_i h1 h2
  rw [orsB_base h1, h2]
 ·cases h
end Go.Am
end
section
namespace Go.Am
open Go.RowKit
set_option linter.unusedVariables false
set_option linter.unusedSimpArgs false
abbrev ivk (k : IntKind) (n : Int) : AV := .lit (.int k n)
def encU8 : En UInt8 := ⟨1, fun b => [ivk .u8 (b.toNat : Int)], fun _ => rfl⟩
section
variable {E : Env} {d : Bool} {n : Nat} {rnd : Option Nat} {ops : Array Oper} {i : Nat} {ns : List Nat} {ms : List Dfr} {σ : Sl} {hs hs' C : List Thing} {Q : Sy → Prop} {t : Tmp} {op : Op} {ty : TypeId} {pos : String} {af : Array Edge} {g : Option (Nat × Bool)}
theorem pure_conv {P : Program} {src dst : TypeId} {s : TypeDesc} {k2 kk : IntKind} {a b : Int} (h1 : pureVal P (underlying src) = some s) (h2 : pureVal P (underlying dst) = some (.int k2)) (hb : k2.wrap a = b) : pureVal P (convert src dst (.int kk a)) = some (.int k2 b) := by
 subst hb;unfold convert;rw [pv_bind, h1, Option.bind_some, pv_bind, h2, Option.bind_some];cases s <;> rfl
theorem Val.conv {src dst : TypeId} {x : Operand} {k2 kk : IntKind} {a b : Int} (hc : pureVal E.P (convert src dst (.int kk a)) = some (.int k2 b)) (hx : evs σ x = some (ivk kk a)) : Val E σ hs (.convert src dst x) (ivk k2 b) := fun ev S he _ o ho => by
 have hp : pureOp E (Go.convert src dst) (ivk kk a) = .ok (ivk k2 b) := by
  simp only [pureOp, toV, Except.bind, hc, ofOpt];rfl
 unfold aop; rw [ho]; simp only [he _ _ hx, aconv, hp]; rfl
theorem Val.remK {k : IntKind} {xt ty : TypeId} {x y : Operand} {a b : Int} (hx : evs σ x = some (ivk k a)) (hy : evs σ y = some (ivk k b)) (h : 0 < b) :
  Val E σ hs (.binOp .rem xt x y ty) (ivk k (a.tmod b)) := fun ev S he _ o ho => by
 have hb : b ≠ 0 := by omega
 have hp : abin E .rem xt x y (ivk k a) (ivk k b) = .ok (ivk k (a.tmod b)) := by
  simp only [abin, abinPure, toV, Except.bind]
  have e : (pureVal E.P (do eqGuard .rem xt x y (.int k a) (.int k b); binOp .rem xt (.int k a) (.int k b))) = some (.int k (a.tmod b)) := by
   cases k <;>
   ·show pureVal E.P (Op.intDiv .rem _ a b) = _;unfold Op.intDiv;simp [hb];rfl
  rw [e];rfl
 unfold aop; rw [ho]; simp only [he _ _ hx, he _ _ hy, hp]; rfl
theorem Val.eqlK {k : IntKind} {xt ty : TypeId} {x y : Operand} {a b : Int} {c : Bool} (hc : c = decide (a = b)) (hx : evs σ x = some (ivk k a)) (hy : evs σ y = some (ivk k b)) : Val E σ hs (.binOp .eql xt x y ty) (bv c) := fun ev S he _ o ho => by
 subst hc
 have hp : abin E .eql xt x y (ivk k a) (ivk k b) = .ok (bv (decide (a = b))) := by
  have e : decide (a = b) = (a == b) := by by_cases h : a = b <;> simp [h]
  rw [e];cases k <;> rfl
 unfold aop; rw [ho]; simp only [he _ _ hx, he _ _ hy, hp]; rfl
def RdT {α : Type} (en : En α) (v : AV) (l : List α) : Prop := ∃ gs : GS en, gs.v = v ∧ gs.l = l
theorem RdT.gs {α : Type} {en : En α} (x : GS en) : RdT en x.v x.l := ⟨x, rfl, rfl⟩
theorem RdT.rdl {α : Type} {en : En α} {v : AV} {l : List α} (h : RdT en v l) : Rdl C en v l := .inl h
theorem flat_drop2 {α : Type} (en : En α) : ∀ (l : List α) (k : Nat), (l.flatMap en.f).drop (k * en.u) = (l.drop k).flatMap en.f := by
 intro l
 induction l with
 | nil => intro k; simp
 | cons a l ih =>
  intro k;cases k with
  | zero => simp
  | succ k =>
   rw [List.flatMap_cons, List.drop_append, en.len a, Nat.succ_mul, List.drop_eq_nil_of_le (by rw [en.len]; omega), List.nil_append, Nat.add_sub_cancel, List.drop_succ_cons];exact ih k
theorem flat_take2 {α : Type} (en : En α) : ∀ (l : List α) (k : Nat), (l.flatMap en.f).take (k * en.u) = (l.take k).flatMap en.f := by
 intro l
 induction l with
 | nil => intro k; simp
 | cons a l ih =>
  intro k;cases k with
  | zero => simp
  | succ k =>
   rw [List.flatMap_cons, List.take_append, en.len a, Nat.succ_mul, List.take_of_length_le (by rw [en.len]; omega), Nat.add_sub_cancel, List.take_succ_cons, List.flatMap_cons];exact congrArg _ (ih k)
theorem bounds_ok {m lo hi : Nat} {olo ohi : Option AV} (hl : lo ≤ hi) (hh : hi ≤ m) (h1 : (olo = none ∧ lo = 0) ∨ olo = some (iv (lo : Int))) (h2 : (ohi = none ∧ hi = m) ∨ ohi = some (iv (hi : Int))) : boundsOf m m olo ohi none = .ok (lo, hi, m) := by
 have b1 : decide ((0 : Int) ≤ (hi : Int)) = true := decide_eq_true (by omega)
 have b2 : decide ((hi : Int) ≤ (m : Int)) = true := decide_eq_true (by omega)
 have b3 : decide ((0 : Int) ≤ (lo : Int)) = true := decide_eq_true (by omega)
 have b4 : decide ((lo : Int) ≤ (hi : Int)) = true := decide_eq_true (by omega)
 have b5 : decide ((lo : Int) ≤ (m : Int)) = true := decide_eq_true (by omega)
 rcases h1 with ⟨rfl, rfl⟩ | rfl <;> rcases h2 with ⟨rfl, rfl⟩ | rfl
 ·rfl
 ·simp only [boundsOf, boundOf, intOf?, Except.bind, b1, b2, Bool.and_self, cond_true, Int.toNat_natCast]
 ·simp only [boundsOf, boundOf, intOf?, Except.bind, b3, b5, Bool.and_self, cond_true, Int.toNat_natCast]
 ·simp only [boundsOf, boundOf, intOf?, Except.bind, b1, b2, b3, b4, Bool.and_self, cond_true, Int.toNat_natCast]
def Bd (σ : Sl) (o : Option Operand) (dflt val : Int) : Prop := (o = none ∧ val = dflt) ∨ ∃ x, o = some x ∧ evs σ x = some (iv val)
theorem Bd.no {σ : Sl} {d : Int} : Bd σ none d d := .inl ⟨rfl, rfl⟩
theorem Bd.some {σ : Sl} {x : Operand} {d v : Int} (h : evs σ x = some (iv v)) : Bd σ (some x) d v := .inr ⟨x, rfl, h⟩
theorem slice_T {α : Type} {en : En α} {v : AV} {l : List α} (h : RdT en v l) {lo hi : Int} (hb : 0 ≤ lo ∧ lo ≤ hi ∧ hi ≤ l.length) : ∃ w, RdT en w ((l.drop lo.toNat).take (hi - lo).toNat) ∧ (lo < hi → w = (GSo true en ((l.drop lo.toNat).take (hi - lo).toNat)).v) ∧
  ∀ {E : Env} {σ : Sl} {hs : List Thing} {st e : TypeId} {x : Operand} {olo ohi : Option Operand}, SliceT E st e en.u → evs σ x = some v → Bd σ olo 0 lo → Bd σ ohi l.length hi → Val E σ hs (.slice st x olo ohi none) w := by
 obtain ⟨gs, rfl, rfl⟩ := h;obtain ⟨a, rfl⟩ : ∃ a : Nat, lo = a := ⟨lo.toNat, by omega⟩;obtain ⟨b, rfl⟩ : ∃ b : Nat, hi = b := ⟨hi.toNat, by omega⟩
 have hab : a ≤ b := by omega
 have hbl : b ≤ gs.l.length := by omega
 have e0 : ((b : Int) - (a : Int)).toNat = b - a := by omega
 rw [Int.toNat_natCast, e0]
 have hlen : ((gs.l.drop a).take (b - a)).length = b - a := by rw [List.length_take, List.length_drop]; omega
 have ops : ∀ {σ : Sl} {ev : Operand → AV} {o : Option Operand} {df : Int} {k : Nat}, (∀ x v, evs σ x = some v → ev x = v) → Bd σ o df (k : Int) → (o.map ev = none ∧ (k : Int) = df) ∨ o.map ev = some (iv (k : Int)) := fun he hB => by
  rcases hB with ⟨rfl, h⟩ | ⟨x, rfl, h⟩
  ·exact .inl ⟨rfl, h⟩
  ·exact .inr (congrArg some (he _ _ h))
 rcases gs.ok with ⟨h1, h2, h3⟩ | ⟨h1, h2⟩
 ·have hl : gs.l = [] := List.eq_nil_of_length_eq_zero h2;refine ⟨nilS, ⟨⟨nilS, _, .inl ⟨rfl, by rw [hl]; simp, by rw [hl]; simp⟩⟩, rfl, rfl⟩, fun h => by omega, fun {E σ hs st e x olo ohi} ht hx hl1 hh1 ev S he hS o ho => ?_⟩
  have hbd := bounds_ok (m := 0) (lo := a) (hi := b) (olo := olo.map ev) (ohi := ohi.map ev) hab (by omega) ((ops he hl1).imp (fun x => ⟨x.1, by omega⟩) fun x => x) ((ops he hh1).imp (fun x => ⟨x.1, by have := x.2; rw [h2] at this; omega⟩) fun x => x);unfold aop; rw [ho];simp only [he _ _ hx, h1, nilS, aslice, ht.1, ht.2, ofOpt, Except.bind, Option.map_none, isLitInt, Bool.false_and, cond_false, hbd, valOf];rfl
 ·refine ⟨.tree en.u (b - a) (((gs.l.drop a).take (b - a)).flatMap en.f), ⟨⟨_, _, .inr ⟨by rw [hlen], by rw [flat_len]⟩⟩, rfl, rfl⟩, fun h => ?_, fun {E σ hs st e x olo ohi} ht hx hl1 hh1 ev S he hS o ho => ?_⟩
  ·have e1 : (GSo true en ((gs.l.drop a).take (b - a))).v = slv true en.u ((gs.l.drop a).take (b - a)).length (((gs.l.drop a).take (b - a)).flatMap en.f) := rfl;rw [e1];unfold slv;rw [hlen]
   have : Nat.beq (b - a) 0 = false := beq_false.2 (by omega);rw [this];rfl
  ·have hbd := bounds_ok (m := gs.l.length) (lo := a) (hi := b) (olo := olo.map ev) (ohi := ohi.map ev) hab hbl ((ops he hl1).imp (fun x => ⟨x.1, by omega⟩) fun x => x) ((ops he hh1).imp (fun x => ⟨x.1, by have := x.2; omega⟩) fun x => x)
   have b3 : Nat.beq en.u en.u = true := Nat.beq_refl _
   have e1 : ((gs.l.flatMap en.f).drop (a * en.u)).take ((b - a) * en.u) = ((gs.l.drop a).take (b - a)).flatMap en.f := by rw [flat_drop2, flat_take2]
   unfold aop; rw [ho];simp only [he _ _ hx, h1, aslice, ht.1, ht.2, ofOpt, Except.bind, Option.map_none, isLitInt, Bool.false_and, cond_false, hbd, valOf, b3, cond_true, e1];rfl
end
end Go.Am
end
section
namespace Go.Am
open Go.RowKit
set_option linter.unusedVariables false
set_option linter.unusedSimpArgs false
section
variable {E : Env} {d : Bool} {n : Nat} {rnd : Option Nat} {ops : Array Oper} {i : Nat} {ns : List Nat} {ms : List Dfr} {σ : Sl} {hs hs' C : List Thing} {Q : Sy → Prop} {t : Tmp} {op : Op} {ty : TypeId} {pos : String} {af : Array Edge} {g : Option (Nat × Bool)}
end
end Go.Am
end
section
namespace Go.Am
open Go.RowKit
set_option linter.unusedVariables false
theorem R2 {α β : Type} {a : α} {b : β} : a = a ∧ b = b := ⟨rfl, rfl⟩
theorem R3 {α β γ : Type} {a : α} {b : β} {c : γ} : a = a ∧ b = b ∧ c = c := ⟨rfl, R2⟩
theorem R4 {α β γ δ : Type} {a : α} {b : β} {c : γ} {d : δ} : a = a ∧ b = b ∧ c = c ∧ d = d := ⟨rfl, R3⟩
theorem R5 {α β γ δ ε : Type} {a : α} {b : β} {c : γ} {d : δ} {e : ε} : a = a ∧ b = b ∧ c = c ∧ d = d ∧ e = e := ⟨rfl, R4⟩
theorem R6 {α β γ δ ε ζ : Type} {a : α} {b : β} {c : γ} {d : δ} {e : ε} {f : ζ} : a = a ∧ b = b ∧ c = c ∧ d = d ∧ e = e ∧ f = f := ⟨rfl, R5⟩
theorem R7 {α β γ δ ε ζ η : Type} {a : α} {b : β} {c : γ} {d : δ} {e : ε} {f : ζ} {g : η} : a = a ∧ b = b ∧ c = c ∧ d = d ∧ e = e ∧ f = f ∧ g = g := ⟨rfl, R6⟩
section
variable {E : Env} {d : Bool} {n : Nat} {rnd : Option Nat} {ops : Array Oper} {i : Nat} {l : List Nat} {ms : List Dfr} {σ : Sl} {hs hs' C : List Thing} {Q : Sy → Prop} {t : Tmp} {op : Op} {ty : TypeId} {pos : String} {af : Array Edge} {g : Option (Nat × Bool)} {x y : Operand} {v w : AV}
theorem zO (h : ops[i]? = some ⟨some t, op, ty, pos, af, g⟩ ∧ Nat.blt t n = true ∧ wantS ops σ g = some false) (k : TO E d n rnd ops l ⟨ms, (t, undefA) :: σ, hs⟩ Q) : TO E d n rnd ops (i :: l) ⟨ms, σ, hs⟩ Q := TO.off h.1 h.2.1 h.2.2 k
theorem zV (h : ops[i]? = some ⟨some t, op, ty, pos, af, g⟩ ∧ Nat.blt t n = true ∧ wantS ops σ g = some true) (c : Val E σ hs op v) (k : TO E d n rnd ops l ⟨ms, (t, v) :: σ, hs⟩ Q) : TO E d n rnd ops (i :: l) ⟨ms, σ, hs⟩ Q := TO.val h.1 h.2.1 h.2.2 c k
theorem zM (h : ops[i]? = some ⟨some t, .move x, ty, pos, af, g⟩ ∧ Nat.blt t n = true ∧ wantS ops σ g = some true ∧ evs σ x = some v) (k : TO E d n rnd ops l ⟨ms, (t, v) :: σ, hs⟩ Q) : TO E d n rnd ops (i :: l) ⟨ms, σ, hs⟩ Q := TO.val h.1 h.2.1 h.2.2.1 (Val.move h.2.2.2) k
theorem zA (h : ops[i]? = some ⟨some t, .assign x, ty, pos, af, g⟩ ∧ Nat.blt t n = true ∧ wantS ops σ g = some true ∧ evs σ x = some v) (k : TO E d n rnd ops l ⟨ms, (t, v) :: σ, hs⟩ Q) : TO E d n rnd ops (i :: l) ⟨ms, σ, hs⟩ Q := TO.val h.1 h.2.1 h.2.2.1 (Val.assign h.2.2.2) k
theorem zP {c : Operand} {b : Bool} (h : ops[i]? = some ⟨some t, .pick c x y, ty, pos, af, g⟩ ∧ Nat.blt t n = true ∧ wantS ops σ g = some true ∧ evs σ c = some (bv b) ∧ evs σ x = some v ∧ evs σ y = some w) (k : TO E d n rnd ops l ⟨ms, (t, bif b then v else w) :: σ, hs⟩ Q) : TO E d n rnd ops (i :: l) ⟨ms, σ, hs⟩ Q := TO.val h.1 h.2.1 h.2.2.1 (Val.pick h.2.2.2.1 h.2.2.2.2.1 h.2.2.2.2.2) k
theorem zX {j : Nat} {vs : List AV} (h : ops[i]? = some ⟨some t, .extract x j, ty, pos, af, g⟩ ∧ Nat.blt t n = true ∧ wantS ops σ g = some true ∧ evs σ x = some (.tuple vs) ∧ vs[j]? = some v) (k : TO E d n rnd ops l ⟨ms, (t, v) :: σ, hs⟩ Q) : TO E d n rnd ops (i :: l) ⟨ms, σ, hs⟩ Q := TO.val h.1 h.2.1 h.2.2.1 (Val.extract h.2.2.2.1 h.2.2.2.2) k
theorem zF (fo : Nat) {s f id off k m : Nat} {fd : Field} (h : ops[i]? = some ⟨some t, .fieldAddr s x f, ty, pos, af, g⟩ ∧ Nat.blt t n = true ∧ wantS ops σ g = some true ∧ fieldOf E s f = .ok (fd, m) ∧ evs σ x = some (.ptr id off k) ∧ Nat.beq (off + fd.offset) fo = true) (c : TO E d n rnd ops l ⟨ms, (t, .ptr id fo k) :: σ, hs⟩ Q) : TO E d n rnd ops (i :: l) ⟨ms, σ, hs⟩ Q := TO.val h.1 h.2.1 h.2.2.1 (Val.faddr_ptr h.2.2.2.1 h.2.2.2.2.1 h.2.2.2.2.2) c
theorem zL (p : Nat) {bt : TypeId} {id u off k : Nat} {cells : List AV} {b : TypeDesc} (h : ops[i]? = some ⟨some t, .load bt x, ty, pos, af, g⟩ ∧ Nat.blt t n = true ∧ wantS ops σ g = some true) (e : hs[p]? = some (.row id u cells) ∧ E.und bt = some b ∧ isAggT b = false ∧ evs σ x = some (.ptr id off k) ∧ cells.length = k ∧ cells[off]? = some v) (c : TO E d n rnd ops l ⟨ms, (t, v) :: σ, hs⟩ Q) : TO E d n rnd ops (i :: l) ⟨ms, σ, hs⟩ Q := TO.val h.1 h.2.1 h.2.2 (Val.load_row e.1 ⟨_, e.2.1, e.2.2.1⟩ e.2.2.2.1 e.2.2.2.2.1 e.2.2.2.2.2) c
theorem vR {bt : TypeId} {p id u off k : Nat} {cells : List AV} {b : TypeDesc} (e : hs[p]? = some (.row id u cells) ∧ E.und bt = some b ∧ isAggT b = false ∧ evs σ x = some (.ptr id off k) ∧ cells.length = k ∧ cells[off]? = some v) : Val E σ hs (.load bt x) v := Val.load_row e.1 ⟨_, e.2.1, e.2.2.1⟩ e.2.2.2.1 e.2.2.2.2.1 e.2.2.2.2.2
theorem vW (p : Nat) (c : List AV) {bt : TypeId} {id u off k m : Nat} {cells : List AV} {b : TypeDesc} (e : hs[p]? = some (.row id u cells) ∧ E.und bt = some b ∧ isAggT b = true ∧ E.siz bt = some m ∧ Nat.beq m 0 = false) (h : evs σ x = some (.ptr id off k) ∧ cells.length = k ∧ (cells.drop off).take m = c ∧ Nat.ble (off + m) k = true) : Val E σ hs (.load bt x) (.agg c) := Val.load_rows e.1 ⟨⟨_, e.2.1, e.2.2.1⟩, e.2.2.2.1, fun z => by subst z; cases e.2.2.2.2⟩ h.1 h.2.1 h.2.2.1 h.2.2.2
theorem zG (hs' : List Thing) (e : hs = hs') (h : TO E d n rnd ops l ⟨ms, σ, hs'⟩ Q) : TO E d n rnd ops l ⟨ms, σ, hs⟩ Q := e ▸ h
theorem zQ (k : Nat) (cells : List AV) {bt : TypeId} {u : Nat} (h : ops[i]? = some ⟨some t, .box bt x, ty, pos, af, g⟩ ∧ Nat.blt t n = true ∧ wantS ops σ g = some true ∧ evs σ x = some v ∧ cellsOf v = cells ∧ cells.length = k ∧ unitOf E bt = .ok u) (c : ∀ id, TO E false n rnd ops l ⟨ms, (t, .ptr id 0 k) :: σ, .row id u cells :: hs⟩ Q) : TO E false n rnd ops (i :: l) ⟨ms, σ, hs⟩ Q := TO.box h.1 h.2.1 h.2.2.1 h.2.2.2.1 h.2.2.2.2.1 h.2.2.2.2.2.1 h.2.2.2.2.2.2 c
theorem zJ (k : Nat) (cells : List AV) {bt : TypeId} {u : Nat} {z : Value} (h : ops[i]? = some ⟨some t, .alloc bt, ty, pos, af, g⟩ ∧ Nat.blt t n = true ∧ wantS ops σ g = some true ∧ E.zro bt = some z ∧ cellsOf (ofV 4 z) = cells ∧ cells.length = k ∧ unitOf E bt = .ok u) (c : ∀ id, TO E false n rnd ops l ⟨ms, (t, .ptr id 0 k) :: σ, .row id u cells :: hs⟩ Q) : TO E false n rnd ops (i :: l) ⟨ms, σ, hs⟩ Q := TO.alloc h.1 h.2.1 h.2.2.1 h.2.2.2.1 h.2.2.2.2.1 h.2.2.2.2.2.1 h.2.2.2.2.2.2 c
theorem zN (h : Q ⟨ms, σ, hs⟩) : TO E d n rnd ops [] ⟨ms, σ, hs⟩ Q := TO.nil h
variable {l1 l2 : List Nat} {seen : List Rd} {fl : List Fl} {past : List (Nat × List Thing)}
theorem yR (h : ops[i]? = some ⟨some t, op, ty, pos, af, g⟩ ∧ kindOf ⟨some t, op, ty, pos, af, g⟩ = 1 ∧ Nat.blt t n = true ∧ wantS ops σ g = some true) (c : Val E σ hs op v)
  (k : TD1 E n rnd ops l1 l2 ⟨ms, (t, v) :: σ, hs⟩ (⟨i, σ, v⟩ :: seen) fl Q) : TD1 E n rnd ops (i :: l1) l2 ⟨ms, σ, hs⟩ seen fl Q := TD1.read h.1 h.2.1 h.2.2.1 h.2.2.2 c k
theorem yL (h : ops[i]? = some ⟨some t, op, ty, pos, af, g⟩ ∧ kindOf ⟨some t, op, ty, pos, af, g⟩ = 0 ∧ Nat.blt t n = true ∧ wantS ops σ g = some true) (c : Val E σ hs op v)
  (k : TD1 E n rnd ops l1 l2 ⟨ms, (t, v) :: σ, hs⟩ seen fl Q) : TD1 E n rnd ops (i :: l1) l2 ⟨ms, σ, hs⟩ seen fl Q := TD1.light h.1 h.2.1 h.2.2.1 h.2.2.2 c k
theorem yM (h : ops[i]? = some ⟨some t, op, ty, pos, af, g⟩ ∧ kindOf ⟨some t, op, ty, pos, af, g⟩ = 0 ∧ Nat.blt t n = true ∧ wantS ops σ g = some true) (c : Val E σ hs op v)
  (k : TD2 E n rnd ops l ⟨ms, (t, v) :: σ, hs⟩ past seen fl Q) : TD2 E n rnd ops (i :: l) ⟨ms, σ, hs⟩ past seen fl Q := TD2.light h.1 h.2.1 h.2.2.1 h.2.2.2 c k
theorem yG (hs' : List Thing) (e : hs = hs') (h : TD2 E n rnd ops l ⟨ms, σ, hs'⟩ past seen fl Q) : TD2 E n rnd ops l ⟨ms, σ, hs⟩ past seen fl Q := e ▸ h
end
section
variable {E : Env} {n : Nat} {rnd : Option Nat} {s s' : Sy} {Q : Exit → Sy → Prop} {x y : Code} {g : Operand}
theorem zT {id : Nat} {ops : Array Oper} {l : List Nat} (hl : List.range ops.size = l) (h : TO E false n rnd ops l s (Q .normal)) : T E n rnd (.region id ops false) s Q := T.text hl h
theorem zS (h : T E n rnd x s (Then E n rnd y Q)) : T E n rnd (.seq x y) s Q := T.seq h
theorem zU {id : Nat} {ops : Array Oper} {l : List Nat} (hl : List.range ops.size = l) (h : TO E false n rnd ops l s (Then E n rnd y Q .normal)) : T E n rnd (.seq (.region id ops false) y) s Q := T.seq (T.text hl h)
theorem zK (h : Q .normal s) : T E n rnd .skip s Q := T.skip h
theorem zB {id : Nat} (h : T E n rnd x s (Blk id Q)) : T E n rnd (.block id x) s Q := T.block h
theorem zR (h : Q .ret s) : T E n rnd .ret s Q := T.ret h
theorem zE {i : Nat} (h : Q (.exit i) s) : T E n rnd (.exit i) s Q := T.exit h
theorem zC (e : evs s.sl g = some (bv true)) (h : T E n rnd x s Q) : T E n rnd (.cond g x y) s Q := T.condT (fun a ha => ha.ev _ _ e) h
theorem zD (e : evs s.sl g = some (bv false)) (h : T E n rnd y s Q) : T E n rnd (.cond g x y) s Q := T.condF (fun a ha => ha.ev _ _ e) h
end
theorem M1 {C : List Thing} {a : Thing} : ∀ x ∈ C, x ∈ a :: C := memS mem0
theorem M2 {C : List Thing} {a b : Thing} : ∀ x ∈ C, x ∈ a :: b :: C := memS M1
theorem M3 {C : List Thing} {a b c : Thing} : ∀ x ∈ C, x ∈ a :: b :: c :: C := memS M2
theorem M4 {C : List Thing} {a b c d : Thing} : ∀ x ∈ C, x ∈ a :: b :: c :: d :: C := memS M3
theorem M5 {C : List Thing} {a b c d e : Thing} : ∀ x ∈ C, x ∈ a :: b :: c :: d :: e :: C := memS M4
theorem M6 {C : List Thing} {a b c d e f : Thing} : ∀ x ∈ C, x ∈ a :: b :: c :: d :: e :: f :: C := memS M5
theorem zI {α : Type} {p : Prop} [Decidable p] {c : Bool} {a b r : α} (hc : c = decide p) (h : (if p then a else b) = r) : (c = true ∧ p ∧ a = r) ∨ (c = false ∧ ¬ p ∧ b = r) := by
 subst hc
 by_cases hp : p
 ·rw [if_pos hp] at h; exact .inl ⟨decide_eq_true hp, hp, h⟩
 ·rw [if_neg hp] at h; exact .inr ⟨decide_eq_false hp, hp, h⟩
theorem zZ {α : Type} {c : Bool} {a b r : α} (h : (if c = true then a else b) = r) : (c = true ∧ a = r) ∨ (c = false ∧ b = r) := by
 cases c
 ·exact .inr ⟨rfl, h⟩
 ·exact .inl ⟨rfl, h⟩
theorem zY (p : Prop) [Decidable p] : ∃ c : Bool, c = decide p := ⟨_, rfl⟩
def pks : List Nat → List Thing → List Thing
 | [], b => b
 | p :: ps, b => match p, b with
  | 98, _ :: b => pks ps b
  | p, b => match b[p]? with
   | some x => x :: pks ps (b.eraseIdx p)
   | none => b
theorem pk_ok : ∀ (ps : List Nat) (b : List Thing), Pk (pks ps b) b
 | [], b => .refl
 | p :: ps, b => by
  unfold pks;split
  ·exact .drop (pk_ok ps _)
  ·split
   ·exact .pick (by assumption) (pk_ok ps _)
   ·exact .refl
theorem pk {a b : List Thing} (ps : List Nat) (h : pks ps b = a) : Pk a b := h ▸ pk_ok ps b
theorem sb {a b : Sy} (p : Pk a.hs b.hs) (m : a.ms = b.ms := by exact rfl) (k : ∀ t v, lk a.sl t = some v → lk b.sl t = some v := by repeat' first | exact keep_nil | refine keep_cons rfl ?_) : Sub2 a b := ⟨m, k, p⟩
theorem aD {p : Prop} (h : p := by first | decide | omega) : p := h
theorem aG {p : Prop} (h : p := by first | rfl | (simp [GS.one]; done)) : p := h
end Go.Am
end
section
namespace Go.Am
open Go.RowKit
set_option linter.unusedVariables false
set_option linter.unusedSimpArgs false
section
variable {E : Env} {σ : Sl} {hs : List Thing}
end
section
variable {E : Env} {σ : Sl} {hs : List Thing}
end
end Go.Am
end
section
namespace Go.Am
open Go.RowKit
set_option linter.unusedVariables false
abbrev Str := List UInt8
def sv (l : Str) : AV := .lit (.string ⟨l.toArray⟩)
def encStr : En Str := ⟨1, fun l => [sv l], fun _ => rfl⟩
theorem encStr_tr : encStr.Tr := fun _ _ _ => .cons .lit .nil
def byteAt (l : Str) (k : Int) : Int := ((l.getD k.toNat 0).toNat : Int)
def subs (l : Str) (a b : Int) : Str := (l.drop a.toNat).take (b.toNat - a.toNat)
theorem size_mk (l : Str) : (⟨l.toArray⟩ : ByteArray).size = l.length := by simp [ByteArray.size]
theorem toList_mk (l : Str) : (⟨l.toArray⟩ : ByteArray).toList = l := by rw [ByteArray.toList_eq]
section
variable {E : Env} {σ : Sl} {hs : List Thing}
theorem Val.len_str {x : Operand} {l : Str} {st : TypeId} (ht : E.und st = some .string) (hx : evs σ x = some (sv l)) :
  Val E σ hs (.call { callee := .builtin .len, args := #[x], argTypes := #[st] }) (iv l.length) := fun ev S he _ o ho => by
 unfold aop; rw [ho];simp only [acall, abuiltin, alen, List.map_cons, List.map_nil, he _ _ hx, List.getElem?_toArray, List.getElem?_cons_zero, ht, ofOpt, Except.bind, sv, size_mk, val]
theorem Val.index_str {t : TypeId} {x y : Operand} {l : Str} {k : Int} (ht : E.und t = some .string) (hx : evs σ x = some (sv l)) (hy : evs σ y = some (iv k)) (hk : 0 ≤ k ∧ k < l.length) :
  Val E σ hs (.index t x y) (ivk .u8 (byteAt l k)) := fun ev S he _ o ho => by
 unfold aop; rw [ho]
 have hlt : k.toNat < l.length := by omega
 have e1 : decide (0 ≤ k) = true := decide_eq_true hk.1
 have e2 : l.toArray[k.toNat]? = some (l.getD k.toNat 0) := by
  simp [List.getD, List.getElem?_eq_getElem hlt]
 simp only [he _ _ hx, he _ _ hy, aindex, intOf?, ht, ofOpt, Except.bind, sv, e1, cond_true, e2, valOf, val, ivk, byteAt]
theorem boundOf_iv {k : Int} {y : Nat} (h : 0 ≤ k ∧ k ≤ y) : boundOf (iv k) y = .ok k.toNat := by
 have e1 : decide (0 ≤ k) = true := decide_eq_true h.1
 have e2 : decide (k ≤ (y : Int)) = true := decide_eq_true h.2;simp only [boundOf, intOf?, Except.bind, e1, e2, Bool.and_self, cond_true]
theorem extract_mk (l : Str) (a b : Nat) : (⟨l.toArray⟩ : ByteArray).extract a b = ⟨((l.drop a).take (b - a)).toArray⟩ := by
 have : ((⟨l.toArray⟩ : ByteArray).extract a b).data = ((l.drop a).take (b - a)).toArray := by
  rw [ByteArray.data_extract];apply Array.ext';simp
 cases h : (⟨l.toArray⟩ : ByteArray).extract a b with
 | mk d => rw [h] at this; simp only at this; rw [this]
theorem Val.slice_str {t : TypeId} {x lo hi : Operand} {l : Str} {a b : Int} (ht : E.und t = some .string) (hx : evs σ x = some (sv l)) (hlo : evs σ lo = some (iv a)) (hhi : evs σ hi = some (iv b))
  (h : (0 ≤ a ∧ a ≤ b) ∧ b ≤ l.length) : Val E σ hs (.slice t x (some lo) (some hi) none) (sv (subs l a b)) := fun ev S he _ o ho => by
 unfold aop; rw [ho]
 have e1 := boundOf_iv (k := b) (y := l.length) ⟨by omega, h.2⟩
 have e2 := boundOf_iv (k := a) (y := b.toNat) ⟨h.1.1, by omega⟩;simp only [he _ _ hx, Option.map_some, Option.map_none, he _ _ hlo, he _ _ hhi, aslice, ht, ofOpt, Except.bind, sv, boundsOf, size_mk, e1, e2, extract_mk, valOf, val, subs]
theorem Val.slice_strL {t : TypeId} {x lo : Operand} {l : Str} {a : Int} (ht : E.und t = some .string) (hx : evs σ x = some (sv l)) (hlo : evs σ lo = some (iv a))
  (h : 0 ≤ a ∧ a ≤ l.length) : Val E σ hs (.slice t x (some lo) none none) (sv (subs l a l.length)) := fun ev S he _ o ho => by
 unfold aop; rw [ho]
 have e2 := boundOf_iv (k := a) (y := l.length) h;simp only [he _ _ hx, Option.map_some, Option.map_none, he _ _ hlo, aslice, ht, ofOpt, Except.bind, sv, boundsOf, size_mk, e2, extract_mk, valOf, val, subs, Int.toNat_natCast]
theorem Val.slice_strH {t : TypeId} {x hi : Operand} {l : Str} {b : Int} (ht : E.und t = some .string) (hx : evs σ x = some (sv l)) (hhi : evs σ hi = some (iv b))
  (h : 0 ≤ b ∧ b ≤ l.length) : Val E σ hs (.slice t x none (some hi) none) (sv (subs l 0 b)) := fun ev S he _ o ho => by
 unfold aop; rw [ho]
 have e2 := boundOf_iv (k := b) (y := l.length) h;simp only [he _ _ hx, Option.map_some, Option.map_none, he _ _ hhi, aslice, ht, ofOpt, Except.bind, sv, boundsOf, size_mk, e2, extract_mk, valOf, val, subs];rfl
theorem Val.add_str {xt ty : TypeId} {x y : Operand} {l m : Str} (hx : evs σ x = some (sv l)) (hy : evs σ y = some (sv m)) (h : (l.length : Int) + m.length ≤ 9223372036854775807) :
  Val E σ hs (.binOp .add xt x y ty) (sv (l ++ m)) := fun ev S he _ o ho => by
 have hp : abin E .add xt x y (sv l) (sv m) = .ok (sv (l ++ m)) := by
  simp only [abin, abinPure, sv, toV, Except.bind]
  have e : pureVal E.P (do eqGuard .add xt x y (.string ⟨l.toArray⟩) (.string ⟨m.toArray⟩); binOp .add xt (.string ⟨l.toArray⟩) (.string ⟨m.toArray⟩)) = some (.string ⟨(l ++ m).toArray⟩) := by
   show pureVal E.P (Op.stringOp .add ⟨l.toArray⟩ ⟨m.toArray⟩) = _;unfold Op.stringOp
   have hm : ¬ (((⟨l.toArray⟩ : ByteArray).size + (⟨m.toArray⟩ : ByteArray).size : Nat) : Int) > IntKind.i64.max := by
    rw [size_mk, size_mk]
    have : IntKind.i64.max = 9223372036854775807 := rfl;rw [this];omega
   simp only [if_neg hm]
   show some (Value.string (_ ++ _)) = _
   have key : (⟨l.toArray⟩ : ByteArray) ++ (⟨m.toArray⟩ : ByteArray) = ⟨(l ++ m).toArray⟩ := ?_
   ·rw [key]
   have : ((⟨l.toArray⟩ : ByteArray) ++ (⟨m.toArray⟩ : ByteArray)).data = (l ++ m).toArray := by rw [ByteArray.data_append]; simp
   cases h : (⟨l.toArray⟩ : ByteArray) ++ (⟨m.toArray⟩ : ByteArray) with
   | mk d => rw [h] at this; simp only at this; rw [this]
  rw [e];rfl
 unfold aop; rw [ho]; simp only [he _ _ hx, he _ _ hy, hp]; rfl
theorem abin_str {op : BinOp} {xt : TypeId} {x y : Operand} {l m : Str} {b : Bool} (h : pureVal E.P (Op.stringOp op ⟨l.toArray⟩ ⟨m.toArray⟩) = some (.bool b)) (ho : op ≠ .shl ∧ op ≠ .shr) : abin E op xt x y (sv l) (sv m) = .ok (bv b) := by
 have e : pureVal E.P (do eqGuard op xt x y (.string ⟨l.toArray⟩) (.string ⟨m.toArray⟩); binOp op xt (.string ⟨l.toArray⟩) (.string ⟨m.toArray⟩)) = some (.bool b) := by
  rw [← h];cases op <;> first | rfl | exact absurd rfl ho.1 | exact absurd rfl ho.2
 cases op <;> (simp only [abin, abinPure, sv, toV, Except.bind, e, ofOpt]; rfl)
theorem Val.eql_str {xt ty : TypeId} {x y : Operand} {l m : Str} {c : Bool} (hc : c = decide (l = m)) (hx : evs σ x = some (sv l)) (hy : evs σ y = some (sv m)) :
    Val E σ hs (.binOp .eql xt x y ty) (bv c) := fun ev S he _ o ho => by
  have hp : abin E .eql xt x y (sv l) (sv m) = .ok (bv c) := abin_str (by
    simp only [Op.stringOp, toList_mk]
    show some (Value.bool (l == m)) = _
    rw [hc]
    by_cases h : l = m <;> simp [h]) ⟨by decide, by decide⟩
  unfold aop; rw [ho]; simp only [he _ _ hx, he _ _ hy, hp]; rfl
theorem Val.neq_str {xt ty : TypeId} {x y : Operand} {l m : Str} {c : Bool} (hc : c = decide (¬ l = m)) (hx : evs σ x = some (sv l)) (hy : evs σ y = some (sv m)) :
    Val E σ hs (.binOp .neq xt x y ty) (bv c) := fun ev S he _ o ho => by
  have hp : abin E .neq xt x y (sv l) (sv m) = .ok (bv c) := abin_str (by
    simp only [Op.stringOp, toList_mk]
    show some (Value.bool (!(l == m))) = _
    rw [hc]
    by_cases h : l = m <;> simp [h]) ⟨by decide, by decide⟩
  unfold aop; rw [ho]; simp only [he _ _ hx, he _ _ hy, hp]; rfl
theorem abin_cmp {op : BinOp} {k : IntKind} {xt : TypeId} {x y : Operand} {a b : Int} {c : Bool} (h : pureVal E.P (Op.intCmp op a b) = some (.bool c)) (ho : op = .lss ∨ op = .gtr ∨ op = .leq ∨ op = .geq ∨ op = .eql ∨ op = .neq) :
  abin E op xt x y (ivk k a) (ivk k b) = .ok (bv c) := by
 have e : pureVal E.P (do eqGuard op xt x y (.int k a) (.int k b); binOp op xt (.int k a) (.int k b)) = some (.bool c) := by
  rw [← h]
  rcases ho with rfl | rfl | rfl | rfl | rfl | rfl <;>
   (unfold eqGuard binOp; simp <;> rfl)
 have key : abinPure E op xt x y (ivk k a) (ivk k b) = .ok (bv c) := by
  simp only [abinPure, toV, Except.bind, e, ofOpt]
  first | done | rfl
 by_cases hk : k = .i64
 ·subst hk
  rcases ho with rfl | rfl | rfl | rfl | rfl | rfl <;>
   (cases h; rfl)
 ·rcases ho with rfl | rfl | rfl | rfl | rfl | rfl <;>
   (unfold abin; split <;> first | (rename_i h1 h2; cases h1; exact absurd rfl hk) | (rename_i h1 h2 h3; cases h2; exact absurd rfl hk) | simp only [key])
theorem Val.cmpK {op : BinOp} {k : IntKind} {xt ty : TypeId} {x y : Operand} {a b : Int} {c : Bool} (hx : evs σ x = some (ivk k a)) (hy : evs σ y = some (ivk k b)) (h : pureVal E.P (Op.intCmp op a b) = some (.bool c))
  (ho : op = .lss ∨ op = .gtr ∨ op = .leq ∨ op = .geq ∨ op = .eql ∨ op = .neq) : Val E σ hs (.binOp op xt x y ty) (bv c) := fun ev S he _ o hop => by
 unfold aop; rw [hop]; simp only [he _ _ hx, he _ _ hy, abin_cmp h ho]; rfl
theorem Val.lssK {k : IntKind} {xt ty : TypeId} {x y : Operand} {a b : Int} {c : Bool} (hc : c = decide (a < b)) (hx : evs σ x = some (ivk k a)) (hy : evs σ y = some (ivk k b)) : Val E σ hs (.binOp .lss xt x y ty) (bv c) := Val.cmpK hx hy (by rw [hc]; rfl) (by simp)
theorem Val.gtrK {k : IntKind} {xt ty : TypeId} {x y : Operand} {a b : Int} {c : Bool} (hc : c = decide (a > b)) (hx : evs σ x = some (ivk k a)) (hy : evs σ y = some (ivk k b)) : Val E σ hs (.binOp .gtr xt x y ty) (bv c) := Val.cmpK hx hy (by rw [hc]; rfl) (by simp)
theorem Val.leqK {k : IntKind} {xt ty : TypeId} {x y : Operand} {a b : Int} {c : Bool} (hc : c = decide (a ≤ b)) (hx : evs σ x = some (ivk k a)) (hy : evs σ y = some (ivk k b)) : Val E σ hs (.binOp .leq xt x y ty) (bv c) := Val.cmpK hx hy (by rw [hc]; rfl) (by simp)
theorem Val.geqK {k : IntKind} {xt ty : TypeId} {x y : Operand} {a b : Int} {c : Bool} (hc : c = decide (a ≥ b)) (hx : evs σ x = some (ivk k a)) (hy : evs σ y = some (ivk k b)) : Val E σ hs (.binOp .geq xt x y ty) (bv c) := Val.cmpK hx hy (by rw [hc]; rfl) (by simp)
theorem Val.neqK {k : IntKind} {xt ty : TypeId} {x y : Operand} {a b : Int} {c : Bool} (hc : c = decide (¬ a = b)) (hx : evs σ x = some (ivk k a)) (hy : evs σ y = some (ivk k b)) : Val E σ hs (.binOp .neq xt x y ty) (bv c) := Val.cmpK hx hy (by rw [hc]; show some (Value.bool (a != b)) = _; by_cases h : a = b <;> simp [h]) (by simp)
def runeAt (l : Str) (p : Nat) : Int := ((Utf8.decode ⟨l.toArray⟩ p).1 : Int)
def runeLen (l : Str) (p : Nat) : Nat := (Utf8.decode ⟨l.toArray⟩ p).2
def strL (id : Nat) (l : Str) (p : Nat) : Thing := .obj id (.str ⟨l.toArray⟩ p)
theorem Eff.range_str {t : TypeId} {x : Operand} {l : Str} (ht : E.und t = some .string) (hx : evs σ x = some (sv l)) :
  Eff E σ hs (.range t x) (fun v hs' => ∃ id, v = .ptr id 0 0 ∧ hs' = strL id l 0 :: hs) := fun ev S he hS o ho => by
 refine ⟨.ptr S.next 0 0, S.new (.str ⟨l.toArray⟩ 0), strL S.next l 0 :: hs, ?_, ?_, S.next, rfl, rfl⟩
 ·unfold aop; rw [ho];simp only [he _ _ hx, arange, ht, ofOpt, Except.bind, sv, newOf]
 ·exact hS.new _ (by show (S.new _).heap.get S.next = _; simp [St.new]) (fun i hi => by cases hi; rfl)
theorem Eff.next_str {p : Nat} {x : Operand} {id pos : Nat} {l : Str} (hp : hs[p]? = some (strL id l pos)) (hx : evs σ x = some (.ptr id 0 0)) (h : pos < l.length) :
  Eff E σ hs (.next x true) (fun v hs' => v = .tuple [bv true, iv pos, ivk .i32 (runeAt l pos)] ∧ hs' = hs.set p (strL id l (pos + runeLen l pos))) := fun ev S he hS o ho => by
 have hg : S.heap.get id = some (.str ⟨l.toArray⟩ pos) := hS.ok _ (List.mem_of_getElem? hp)
 have hb : Nat.blt pos (⟨l.toArray⟩ : ByteArray).size = true := by rw [size_mk]; exact blt_true.2 h
 refine ⟨_, S.write id (.str ⟨l.toArray⟩ (pos + runeLen l pos)), _, ?_, ?_, rfl, rfl⟩
 ·unfold aop; rw [ho];simp only [he _ _ hx, anext, cond_true, hg, hb, newOf];rfl
 ·exact hS.writeAt hp (y := strL id l (pos + runeLen l pos)) (i := id) (o := .str ⟨l.toArray⟩ (pos + runeLen l pos)) rfl rfl (by show (S.write id _).heap.get id = _; rw [write_get, if_pos rfl])
theorem Eff.next_end {p : Nat} {x : Operand} {id pos : Nat} {l : Str} (hp : hs[p]? = some (strL id l pos)) (hx : evs σ x = some (.ptr id 0 0)) (h : ¬ pos < l.length) :
  Eff E σ hs (.next x true) (fun v hs' => v = .tuple [bv false] ∧ hs' = hs) := fun ev S he hS o ho => by
 have hg : S.heap.get id = some (.str ⟨l.toArray⟩ pos) := hS.ok _ (List.mem_of_getElem? hp)
 have hb : Nat.blt pos (⟨l.toArray⟩ : ByteArray).size = false := by rw [size_mk]; exact blt_false.2 (by omega)
 refine ⟨_, S, hs, ?_, hS, rfl, rfl⟩;unfold aop; rw [ho];simp only [he _ _ hx, anext, cond_true, hg, hb, cond_false, newOf];rfl
end
def FieldEq (P : Program) (f : Field) (xs ys : Array Value) (c : Bool) : Prop :=
 (f.name ≠ "_") ∧ ∃ x y, pureVal P (part f.type xs f.offset) = some x ∧ pureVal P (part f.type ys f.offset) = some y ∧ pureVal P (Op.equalIn 9999 f.type x y) = some c
theorem FieldEq.int {P : Program} {f : Field} {xs ys : Array Value} {a b : Int} (h1 : f.name ≠ "_") (h2 : ∃ k', pureVal P (underlying f.type) = some (.int k')) (h3 : pureVal P (part f.type xs f.offset) = some (.int .i64 a))
  (h4 : pureVal P (part f.type ys f.offset) = some (.int .i64 b)) : FieldEq P f xs ys (a == b) := by
 obtain ⟨q, u⟩ := h2;exact ⟨h1, _, _, h3, h4, pure_eqInt u⟩
theorem pure_eqStr {P : Program} {t d : Nat} {l m : Str} (h : pureVal P (underlying t) = some .string) : pureVal P (Op.equalIn (d + 1) t (.string ⟨l.toArray⟩) (.string ⟨m.toArray⟩)) = some (l == m) := by
 unfold Op.equalIn;rw [pv_bind, h]
 have : ((⟨l.toArray⟩ : ByteArray) == ⟨m.toArray⟩) = (l == m) := by
  show (l.toArray == m.toArray) = (l == m)
  by_cases h : l = m <;> simp [h]
 simp [pv_pure, this]
theorem FieldEq.str {P : Program} {f : Field} {xs ys : Array Value} {l m : Str} (h1 : f.name ≠ "_") (h2 : pureVal P (underlying f.type) = some .string) (h3 : pureVal P (part f.type xs f.offset) = some (.string ⟨l.toArray⟩))
  (h4 : pureVal P (part f.type ys f.offset) = some (.string ⟨m.toArray⟩)) : FieldEq P f xs ys (l == m) := ⟨h1, _, _, h3, h4, pure_eqStr h2⟩
theorem pure_eqF3 {P : Program} {t : Nat} {f0 f1 f2 : Field} {xs ys : Array Value} {c0 c1 c2 : Bool} (hu : pureVal P (underlying t) = some (.struct #[f0, f1, f2])) (hs : P.stoodInHeld t = false)
  (h0 : FieldEq P f0 xs ys c0) (h1 : FieldEq P f1 xs ys c1) (h2 : FieldEq P f2 xs ys c2) : pureVal P (Op.equal t (.agg xs) (.agg ys)) = some (c0 && c1 && c2) := by
 unfold Op.equal
 have e : Op.maxDepth = 9998 + 1 + 1 := rfl;rw [e, Op.equalIn, pv_bind, hu];obtain ⟨n0, x0, y0, p0, r0, z0⟩ := h0;obtain ⟨n1, x1, y1, p1, r1, z1⟩ := h1;obtain ⟨n2, x2, y2, p2, r2, z2⟩ := h2;simp only [Option.bind_some, pv_bind, pv_program, hs];cases c0 <;> cases c1 <;> cases c2 <;> simp [pv_bind, n0, p0, r0, z0, n1, p1, r1, z1, n2, p2, r2, z2, pv_pure]
end Go.Am
end
section
namespace Go.Am
def cmpS (a b : Str) : Int := Lib.compareBytes a b
theorem Val.neg {E : Env} {σ : Sl} {hs : List Thing} {x : Operand} {ty : TypeId} {a : Int} (h : evs σ x = some (iv a)) (hk : I64 (-a)) : Val E σ hs (.unOp .neg ty x) (iv (-a)) := fun ev S he _ o ho => by
 unfold aop; rw [ho]; simp only [he _ _ h, pureOp, toV, Except.bind]
 have e : (0 : Int) - a = -a := by omega
 have w := wrap_id (x := 0 - a) (by rw [e]; exact hk.1) (by rw [e]; exact hk.2)
 have e2 : Op.unary UnOp.neg (.int .i64 a) = pure (.int .i64 (IntKind.i64.wrap (0 - a))) := rfl;rw [e2, w, e];rfl
def shrI (a b : Int) : Int := a.fdiv (2 ^ b.toNat)
section
variable {E : Env} {σ : Sl} {hs : List Thing} {xt ty : TypeId} {x y : Operand} {a b : Int}
theorem Val.shr {k : IntKind} (hx : evs σ x = some (iv a)) (hy : evs σ y = some (ivk k b)) (h : 0 ≤ b ∧ b < 64) : Val E σ hs (.binOp .shr xt x y ty) (iv (shrI a b)) := fun ev S he _ o ho => by
 have hp : abin E .shr xt x y (iv a) (ivk k b) = .ok (iv (shrI a b)) := by
  simp only [abin, abinPure, toV, Except.bind]
  have e : (pureVal E.P (do eqGuard .shr xt x y (.int .i64 a) (.int k b); binOp .shr xt (.int .i64 a) (.int k b))) = some (.int .i64 (shrI a b)) := by
   show pureVal E.P (Op.shift .shr .i64 a k b) = _;unfold Op.shift;rw [if_neg (by omega)]
   have hm : min b.toNat IntKind.i64.bits = b.toNat := Nat.min_eq_left (show b.toNat ≤ 64 by omega);simp only [hm];rfl
  rw [e];rfl
 unfold aop; rw [ho]; simp only [he _ _ hx, he _ _ hy, hp]; rfl
end
end Go.Am
end
section
namespace Go.Am
open Go.RowKit
set_option linter.unusedVariables false
set_option linter.unusedSimpArgs false
section
variable {E : Env} {d : Bool} {n : Nat} {rnd : Option Nat} {ops : Array Oper} {i : Nat} {ns : List Nat} {ms : List Dfr} {σ : Sl} {hs hs' : List Thing} {Q : Sy → Prop} {t : Tmp} {op : Op} {ty : TypeId} {pos : String} {af : Array Edge} {g : Option (Nat × Bool)} {C : List Thing}
end
end Go.Am
end
section
namespace Go.Am
open Go.RowKit
set_option linter.unusedVariables false
set_option linter.unusedSimpArgs false
section
variable {E : Env} {d : Bool} {n : Nat} {rnd : Option Nat} {ops : Array Oper} {i : Nat} {ns : List Nat} {ms : List Dfr} {σ : Sl} {hs hs' : List Thing} {Q : Sy → Prop} {t : Tmp} {op : Op} {ty : TypeId} {pos : String} {af : Array Edge} {g : Option (Nat × Bool)}
end
end Go.Am
end
section
namespace Go.Am
open Go.RowKit
set_option linter.unusedVariables false
set_option linter.unusedSimpArgs false
section
variable {E : Env} {σ : Sl} {hs hs' : List Thing} {bt : TypeId} {x y : Operand} {p id u k m : Nat} {n a : Int} {l l' : List Int}
end
end Go.Am
end
section
namespace Go.Am
end Go.Am
end
section
namespace Go.Am
open Go.RowKit
set_option linter.unusedVariables false
set_option linter.unusedSimpArgs false
section
variable {E : Env} {hs hs' C : List Thing}
end
end Go.Am
end
section
namespace Go.Am
open Go.RowKit
set_option linter.unusedVariables false
set_option linter.unusedSimpArgs false
section
variable {E : Env} {d : Bool} {n : Nat} {rnd : Option Nat} {ops : Array Oper} {i : Nat} {ns : List Nat} {ms : List Dfr} {σ : Sl} {hs hs' : List Thing} {Q : Sy → Prop} {t : Tmp} {op : Op} {ty : TypeId} {pos : String} {af : Array Edge} {g : Option (Nat × Bool)}
end
end Go.Am
end
section
namespace Go.Am
open Go.RowKit
set_option linter.unusedVariables false
set_option linter.unusedSimpArgs false
section
variable {E : Env} {d : Bool} {n : Nat} {rnd : Option Nat} {ops : Array Oper} {i : Nat} {ns : List Nat} {ms : List Dfr} {σ : Sl} {hs hs' : List Thing} {Q : Sy → Prop} {t : Tmp} {op : Op} {ty : TypeId} {pos : String} {af : Array Edge} {g : Option (Nat × Bool)}
end
end Go.Am
end
section
namespace Go.Am
open Go.RowKit
set_option linter.unusedVariables false
set_option linter.unusedSimpArgs false
end Go.Am
end
section
namespace Go.Am
open Go.RowKit
set_option linter.unusedVariables false
set_option linter.unusedSimpArgs false
end Go.Am
end
section
namespace Go.Am
open Go.RowKit
set_option linter.unusedVariables false
inductive Out where
 | ret (v : AV)
 | thr (ch : List PanicEntry)
def Out.res : Out → Res
 | .ret v => .ret v
 | .thr ch => .thrown ch
def TFX (E : Env) (f : FuncId) (args : List AV) (hs : List Thing) (Q : Out → List Thing → Prop) : Prop :=
 ∀ S, HasS S hs → Evt E (fun rec => rec (.call f args) S) fun r => ∃ o S' hs', r = (o.res, S') ∧ HasS S' hs' ∧ Q o hs'
def TX (E : Env) (n : Nat) (rnd : Option Nat) (ops : Array Oper) (l : List Nat) (s : Sy) (Q : Exit → Sy → Prop) : Prop :=
 ∀ a S, Is n rnd a S s → Evt E (fun rec => xSteps rec E ops l a S) fun r => ∃ s', Is n rnd r.1.2 r.2 s' ∧ Q r.1.1 s'
section
variable {E : Env} {n : Nat} {rnd : Option Nat} {ops : Array Oper} {i : Nat} {l : List Nat} {s : Sy} {ms : List Dfr} {σ : Sl} {hs : List Thing} {Q : Exit → Sy → Prop} {t : Tmp} {ty : TypeId} {pos : String} {af : Array Edge} {g : Option (Nat × Bool)}
theorem TFX.toF {f : FuncId} {args : List AV} {Q : Out → List Thing → Prop} {K : AV → List Thing → Prop} (h : TFX E f args hs Q) (hq : ∀ o hs', Q o hs' → ∃ v, o = .ret v ∧ K v hs') : TF E f args hs K := fun S hS =>
 (h S hS).mono fun r ⟨o, S', hs', h1, h2, h3⟩ => let ⟨v, hv, hk⟩ := hq _ _ h3; ⟨v, S', hs', by rw [h1, hv]; rfl, h2, hk⟩
theorem T.textX {id : Nat} (hl : List.range ops.size = l) (h : TX E n rnd ops l s Q) : T E n rnd (.region id ops false) s Q := .of_step fun a S hi => by
 subst hl;obtain ⟨r, ⟨m0, hm0⟩, s', h2, h3⟩ := h a S hi;refine ⟨(.exit r.1.1 r.1.2, r.2), ⟨m0, fun m hm => ?_⟩, _, _, _, _, rfl, h2, h3⟩;simp only [runCode, runRegion, cond_false, hm0 m hm, Except.bind]
theorem xSteps_append {rec : Rec} {ops : Array Oper} : ∀ {l1 l2 : List Nat} {a a1 : AAct} {S S1 : St}, opSteps rec E ops l1 a S = .ok (a1, S1) → xSteps rec E ops (l1 ++ l2) a S = xSteps rec E ops l2 a1 S1 := by
 intro l1
 induction l1 with
 | nil => intro l2 a a1 S S1 h; cases h; rfl
 | cons i l ih =>
  intro l2 a a1 S S1 h;unfold opSteps opStep at h;rw [List.cons_append]
  conv => lhs; unfold xSteps
  cases hv : opVal rec E ops i a S with
  | error m => rw [hv] at h; cases h
  | ok x =>
   obtain ⟨v, S2⟩ := x;rw [hv] at h;rw [xVal_of_opVal hv];simp only [Except.bind] at h ⊢;cases hp : a.put (dstAt ops i) v with
   | error m => rw [hp] at h; cases h
   | ok a2 =>
    rw [hp] at h;exact ih h
theorem TX.pre {l1 l2 : List Nat} (hl : l = l1 ++ l2) (h : TO E false n rnd ops l1 s fun s1 => TX E n rnd ops l2 s1 Q) : TX E n rnd ops l s Q := by
 subst hl;intro a S hi;obtain ⟨r, ⟨m0, hm0⟩, s', h2, h3⟩ := h a S hi;obtain ⟨y, ⟨m1, hm1⟩, hy⟩ := h3 _ _ h2;refine ⟨y, ⟨max m0 m1, fun m hm => ?_⟩, hy⟩
 show xSteps (run E m) E ops (l1 ++ l2) a S = .ok y;rw [xSteps_append (hm0 m (by omega))];exact hm1 m (by omega)
theorem TX.nil (h : Q .normal s) : TX E n rnd ops [] s Q := fun a S hi => .ok ⟨s, hi, h⟩
theorem TX.less {hs' : List Thing} (k : Less hs' hs) (h : TX E n rnd ops l ⟨ms, σ, hs'⟩ Q) : TX E n rnd ops l ⟨ms, σ, hs⟩ Q := fun a S hi => h a S ⟨hi.act, k S hi.mem⟩
theorem TX.things {hs' : List Thing} (e : hs = hs') (h : TX E n rnd ops l ⟨ms, σ, hs'⟩ Q) : TX E n rnd ops l ⟨ms, σ, hs⟩ Q := e ▸ h
theorem TX.panic {x : Operand} {tt : TypeId} {v : AV} {u : Value} {d : Option Tmp} (ho : ops[i]? = some ⟨d, .panic x, ty, pos, af, g⟩) (hw : wantS ops σ g = some true) (hx : evs σ x = some (.iface tt v)) (hu : toV 4 v = .ok u)
  (k : Q (.panic [{ v := .iface tt u, recovered := false }]) ⟨ms, σ, hs⟩) : TX E n rnd ops (i :: l) ⟨ms, σ, hs⟩ Q := by
 intro a S hi
 have w := hi.act.wanted (ops := ops) (o := ⟨d, .panic x, ty, pos, af, g⟩) hw
 have hev := hi.act.ev _ _ hx;refine Evt.pure (x := ((.panic [{ v := .iface tt u, recovered := false }], a), S)) (fun rec => ?_) ⟨_, hi, k⟩;unfold xSteps xVal;rw [ho];simp only [w, cond_true, aop, hev, apanic, hu, Except.bind]
theorem TX.defer {f : FuncId} {fn : Func} {x : Operand} {xs : Array Operand} {ts : Array TypeId} {vs first cap : List AV} (ho : ops[i]? = some ⟨none, .defer { callee := .value x, args := xs, argTypes := ts }, ty, pos, af, g⟩)
  (hw : wantS ops σ g = some true) (hr : rnd = none) (hx : evs σ x = some (.func f first cap)) (hxs : evsL σ xs.toList = some vs) (hf : E.fn f = some fn)
  (k : TX E n rnd ops l ⟨.call f (first ++ vs ++ cap) :: ms, σ, hs⟩ Q) : TX E n rnd ops (i :: l) ⟨ms, σ, hs⟩ Q := by
 intro a S hi
 have w := hi.act.wanted (ops := ops) (o := ⟨none, .defer { callee := .value x, args := xs, argTypes := ts }, ty, pos, af, g⟩) hw
 have hev := hi.act.ev _ _ hx
 have hrn : a.rnd = none := by rw [hi.act.rnd, hr]
 have hdst : dstAt ops i = none := by simp [dstAt, ho]
 have hk := k { a with marks := .call f (first ++ vs ++ cap) :: a.marks } S ⟨⟨hi.act.n, hi.act.rnd, by rw [hi.act.marks], hi.act.get⟩, hi.mem⟩;refine hk.congr fun rec => ?_
 conv => lhs; unfold xSteps
 unfold xVal;rw [ho];simp only [w, cond_true, hrn, adefer, hev, hf, ofOpt, evsL_ok hi.act _ _ hxs, Except.bind, hdst, AAct.put]
theorem TX.callX {f : FuncId} {fn : Func} {x : Operand} {xs : Array Operand} {ts : Array TypeId} {vs first cap : List AV} {d : Option Tmp} {K : Out → List Thing → Prop}
  (ho : ops[i]? = some ⟨d, .call { callee := .value x, args := xs, argTypes := ts }, ty, pos, af, g⟩) (hd : dstOk n d = true) (hw : wantS ops σ g = some true) (hx : evs σ x = some (.func f first cap)) (hxs : evsL σ xs.toList = some vs) (hf : E.fn f = some fn) (hG : E.orc f = none)
  (h : TFX E f (first ++ vs ++ cap) hs K) (k : ∀ v hs', K (.ret v) hs' → TX E n rnd ops l ⟨ms, putS d v σ, hs'⟩ Q) (kt : ∀ ch hs', K (.thr ch) hs' → Q (.panic ch) ⟨ms, σ, hs'⟩) : TX E n rnd ops (i :: l) ⟨ms, σ, hs⟩ Q := by
 intro a S hi
 have w := hi.act.wanted (ops := ops) (o := ⟨d, .call { callee := .value x, args := xs, argTypes := ts }, ty, pos, af, g⟩) hw
 have hev := hi.act.ev _ _ hx
 have hdst : dstAt ops i = d := by simp [dstAt, ho]
 have e : aop E S a.ev ⟨d, .call { callee := .value x, args := xs, argTypes := ts }, ty, pos, af, g⟩ = .ok (.enter f (first ++ vs ++ cap), S) := by
  simp only [aop, acall, hev, acallee, hf, evsL_ok hi.act _ _ hxs]
 obtain ⟨r, ⟨m0, hm0⟩, o, S', hs', rfl, h2, h3⟩ := h S hi.mem;cases o with
 | ret v =>
  obtain ⟨a1, hp, ha1⟩ := hi.act.put hd v;obtain ⟨y, ⟨m1, hm1⟩, hy⟩ := k v hs' h3 a1 S' ⟨ha1, h2⟩;refine ⟨y, ⟨max m0 m1, fun m hm => ?_⟩, hy⟩
  have h0 := hm0 m (by omega);simp only [Out.res] at h0
  show xSteps (run E m) E ops (i :: l) a S = .ok y;unfold xSteps xVal;rw [ho];simp only [w, cond_true, e, Am.callX, hG, h0, Except.bind, hdst, hp];exact hm1 m (by omega)
 | thr ch =>
  refine ⟨((.panic ch, a), S'), ⟨m0, fun m hm => ?_⟩, ⟨ms, σ, hs'⟩, ⟨hi.act, h2⟩, kt ch hs' h3⟩
  have h0 := hm0 m hm;simp only [Out.res] at h0
  show xSteps (run E m) E ops (i :: l) a S = _;unfold xSteps xVal;rw [ho];simp only [w, cond_true, e, Am.callX, hG, h0, Except.bind]
theorem pan_ne {ch : List PanicEntry} : Exit.panic ch ≠ .normal := fun h => by cases h
end
def RepX {A B : Type} (rep : A → AV → List Thing → Prop) (ch : B → List PanicEntry) (hp : B → List Thing → Prop) : Sum A B → Out → List Thing → Prop
 | .inl a, .ret v, hs => rep a v hs
 | .inr b, .thr c, hs => c = ch b ∧ hp b hs
 | _, _, _ => False
section
variable {E : Env} {n : Nat} {rnd : Option Nat} {ops : Array Oper} {i : Nat} {l : List Nat} {ms : List Dfr} {σ : Sl} {hs : List Thing} {Q : Exit → Sy → Prop} {t : Tmp} {ty : TypeId} {pos : String} {af : Array Edge} {g : Option (Nat × Bool)} {A B W : Type}
variable {f : FuncId} {fn : Func} {x : Operand} {xs : Array Operand} {ts : Array TypeId} {vs first cap : List AV}
theorem TX.callR {rep : A → AV → List Thing → Prop} {ch : B → List PanicEntry} {hp : B → List Thing → Prop} {a : A} {vw : W → AV} {hw' : W → List Thing} (ho : ops[i]? = some ⟨some t, .call { callee := .value x, args := xs, argTypes := ts }, ty, pos, af, g⟩) (hd : Nat.blt t n = true) (hw : wantS ops σ g = some true)
  (hx : evs σ x = some (.func f first cap)) (hxs : evsL σ xs.toList = some vs) (hf : E.fn f = some fn) (hG : E.orc f = none) (h : TFX E f (first ++ vs ++ cap) hs (RepX rep ch hp (.inl a))) (hr : rep a = RepF vw hw')
  (k : ∀ w, TX E n rnd ops l ⟨ms, (t, vw w) :: σ, hw' w⟩ Q) : TX E n rnd ops (i :: l) ⟨ms, σ, hs⟩ Q := by
 refine TX.callX ho hd hw hx hxs hf hG h (fun v hs' hk => ?_) fun ch hs' hk => hk.elim
 have hk : rep a v hs' := hk;rw [hr] at hk;obtain ⟨w, rfl, hpk⟩ := hk;exact TX.less hpk.less (k w)
theorem TX.callP {rep : A → AV → List Thing → Prop} {ch : B → List PanicEntry} {hp : B → List Thing → Prop} {b : B} {hw' : List Thing} {d : Option Tmp} (ho : ops[i]? = some ⟨d, .call { callee := .value x, args := xs, argTypes := ts }, ty, pos, af, g⟩) (hd : dstOk n d = true) (hw : wantS ops σ g = some true)
  (hx : evs σ x = some (.func f first cap)) (hxs : evsL σ xs.toList = some vs) (hf : E.fn f = some fn) (hG : E.orc f = none) (h : TFX E f (first ++ vs ++ cap) hs (RepX rep ch hp (.inr b))) (hr : hp b = Pk hw')
  (k : Q (.panic (ch b)) ⟨ms, σ, hw'⟩) : TX E n rnd ops (i :: l) ⟨ms, σ, hs⟩ Q := by
 have h' : TFX E f (first ++ vs ++ cap) hs fun o hs' => o = .thr (ch b) ∧ hs' = hw' := fun S hS => (h S hS).mono fun r ⟨o, S', hs', h1, h2, h3⟩ => by
  cases o with
  | ret v => exact h3.elim
  | thr c =>
   obtain ⟨rfl, hk⟩ := h3;rw [hr] at hk;exact ⟨_, S', hw', h1, hk.less S' h2, rfl, rfl⟩
 exact TX.callX ho hd hw hx hxs hf hG h' (fun v hs' hk => by cases hk.1) fun c hs' ⟨e1, e2⟩ => by cases e1; subst e2; exact k
end
def DS (E : Env) (n : Nat) (ops : Array Oper) (l : List Nat) (u : FrameMode) (s : Sy) (Q : Exit → FrameMode → Sy → Prop) : Prop :=
 ∀ a S, Is n none a S s → ∃ r, dSteps E ops l a u S = .ok r ∧ ∃ s', Is n none r.1.2 r.2.2 s' ∧ Q r.1.1 r.2.1 s'
def DD (E : Env) (n : Nat) (c : Code) (u : FrameMode) (s : Sy) (Q : Exit → FrameMode → Sy → Prop) : Prop :=
 ∀ a S, Is n none a S s → Evt E (fun rec => runD rec E c a u S) fun r => ∃ s', Is n none r.1.2 r.2.2 s' ∧ Q r.1.1 r.2.1 s'
def TDf (E : Env) (f : FuncId) (args : List AV) (u : FrameMode) (hs : List Thing) (K : FrameMode → List Thing → Prop) : Prop :=
 ∀ S, HasS S hs → Evt E (fun rec => runDfr rec E f args u S) fun r => ∃ u1 S' hs', r = (none, u1, S') ∧ HasS S' hs' ∧ K u1 hs'
def TL (E : Env) (ms : List Dfr) (u : FrameMode) (hs : List Thing) (K : FrameMode → List Thing → Prop) : Prop :=
 ∀ S, HasS S hs → Evt E (fun rec => leaveD rec E ms u S) fun r => ∃ hs', HasS r.2 hs' ∧ K r.1 hs'
section
variable {E : Env} {n : Nat} {ops : Array Oper} {i : Nat} {l : List Nat} {s : Sy} {ms : List Dfr} {σ : Sl} {hs : List Thing} {u : FrameMode} {Q : Exit → FrameMode → Sy → Prop} {t : Tmp} {op : Op} {ty : TypeId} {pos : String} {af : Array Edge} {g : Option (Nat × Bool)}
theorem DS.nil (h : Q .normal u s) : DS E n ops [] u s Q := fun a S hi => ⟨_, rfl, s, hi, h⟩
theorem DS.val {v : AV} (ho : ops[i]? = some ⟨some t, op, ty, pos, af, g⟩) (hd : Nat.blt t n = true) (hw : wantS ops σ g = some true) (hr : isRecover ⟨some t, op, ty, pos, af, g⟩ = false) (h : Val E σ hs op v)
  (k : DS E n ops l u ⟨ms, (t, v) :: σ, hs⟩ Q) : DS E n ops (i :: l) u ⟨ms, σ, hs⟩ Q := by
 intro a S hi
 have e := h a.ev S hi.act.ev hi.mem ⟨some t, op, ty, pos, af, g⟩ rfl
 have w := hi.act.wanted (ops := ops) (o := ⟨some t, op, ty, pos, af, g⟩) hw;obtain ⟨a1, hp, ha1⟩ := hi.act.put (d := some t) hd v;obtain ⟨r, h1, h2⟩ := k a1 S ⟨ha1, hi.mem⟩;refine ⟨r, ?_, h2⟩;unfold dSteps;rw [ho];simp only [w, cond_true, hr, cond_false, e, hp, Except.bind];exact h1
theorem DS.recY {c : Call} {v : Value} {u1 : FrameMode} (ho : ops[i]? = some ⟨some t, .call c, ty, pos, af, g⟩) (hd : Nat.blt t n = true) (hw : wantS ops σ g = some true) (hr : isRecover ⟨some t, .call c, ty, pos, af, g⟩ = true) (hu : recoverU u = some (v, u1))
  (k : DS E n ops l u1 ⟨ms, (t, ofV 4 v) :: σ, hs⟩ Q) : DS E n ops (i :: l) u ⟨ms, σ, hs⟩ Q := by
 intro a S hi
 have w := hi.act.wanted (ops := ops) (o := ⟨some t, .call c, ty, pos, af, g⟩) hw;obtain ⟨a1, hp, ha1⟩ := hi.act.put (d := some t) hd (ofV 4 v);obtain ⟨r, h1, h2⟩ := k a1 S ⟨ha1, hi.mem⟩;refine ⟨r, ?_, h2⟩;unfold dSteps;rw [ho];simp only [w, cond_true, hr, hu, hp, Except.bind];exact h1
theorem DS.recN {c : Call} (ho : ops[i]? = some ⟨some t, .call c, ty, pos, af, g⟩) (hd : Nat.blt t n = true) (hw : wantS ops σ g = some true) (hr : isRecover ⟨some t, .call c, ty, pos, af, g⟩ = true) (hu : recoverU u = none)
  (k : DS E n ops l u ⟨ms, (t, .lit .nilIface) :: σ, hs⟩ Q) : DS E n ops (i :: l) u ⟨ms, σ, hs⟩ Q := by
 intro a S hi
 have w := hi.act.wanted (ops := ops) (o := ⟨some t, .call c, ty, pos, af, g⟩) hw;obtain ⟨a1, hp, ha1⟩ := hi.act.put (d := some t) hd (.lit .nilIface);obtain ⟨r, h1, h2⟩ := k a1 S ⟨ha1, hi.mem⟩;refine ⟨r, ?_, h2⟩;unfold dSteps;rw [ho];simp only [w, cond_true, hr, hu, hp, Except.bind];exact h1
theorem DD.seq {x y : Code} (h : DD E n x u s fun e u1 s1 => match e with | .normal => DD E n y u1 s1 Q | e => Q e u1 s1) : DD E n (.seq x y) u s Q := by
 intro a S hi;unfold runD;refine Evt.bind ((h a S hi).mono fun r ⟨s1, h1, h2⟩ => ?_);obtain ⟨⟨e, a1⟩, u1, S1⟩ := r;cases e with
 | normal => exact h2 a1 S1 h1
 | exit j => exact Evt.ok ⟨s1, h1, h2⟩
 | goto j => exact Evt.ok ⟨s1, h1, h2⟩
 | ret => exact Evt.ok ⟨s1, h1, h2⟩
 | panic ch => exact Evt.ok ⟨s1, h1, h2⟩
 | outgrown => exact Evt.ok ⟨s1, h1, h2⟩
theorem DD.condT {gd : Operand} {x y : Code} (hb : evs s.sl gd = some (bv true)) (h : DD E n x u s Q) : DD E n (.cond gd x y) u s Q := by
 intro a S hi;unfold runD;simp only [hi.act.ev _ _ hb, cond_true];exact h a S hi
theorem DD.condF {gd : Operand} {x y : Code} (hb : evs s.sl gd = some (bv false)) (h : DD E n y u s Q) : DD E n (.cond gd x y) u s Q := by
 intro a S hi;unfold runD;simp only [hi.act.ev _ _ hb, cond_false];exact h a S hi
theorem DD.rec {id : Nat} (hl : List.range ops.size = l) (hr : ops.toList.any isRecover = true) (h : DS E n ops l u s Q) : DD E n (.region id ops false) u s Q := by
 intro a S hi;subst hl;obtain ⟨r, h1, h2⟩ := h a S hi;unfold runD;simp only [hr, cond_true, cond_false];exact Evt.pure (fun _ => h1) h2
theorem DD.region {id : Nat} {draw : Bool} (hr : ops.toList.any isRecover = false) (h : T E n none (.region id ops draw) s fun e s1 => Q e u s1) : DD E n (.region id ops draw) u s Q := by
 intro a S hi;unfold runD;simp only [hr, cond_false];refine Evt.bind ((h a S hi).mono fun r ⟨e, a1, S1, s1, h1, h2, h3⟩ => ?_);subst h1;exact Evt.ok ⟨s1, h2, h3⟩
theorem DD.skip (h : Q .normal u s) : DD E n .skip u s Q := by
 intro a S hi;unfold runD;refine Evt.bind ((T.skip (Q := fun e s => Q e u s) h a S hi).mono fun r ⟨e, a1, S1, s1, h1, h2, h3⟩ => ?_);subst h1;exact Evt.ok ⟨s1, h2, h3⟩
def EndD (K : FrameMode → List Thing → Prop) : Exit → FrameMode → Sy → Prop := fun e u s => isEnd e = true ∧ s.ms = [] ∧ K u s.hs
theorem TDf.enter {f : FuncId} {args : List AV} {fn : Func} {c : Code} {K : FrameMode → List Thing → Prop} (hf : E.fn f = some fn) (hb : fn.body = some c) (hn : args.length + (fn.ntmps - args.length) = n) (hσ : zipN 0 args = σ)
  (hr : fn.results.toList = []) (h : DD E n c u ⟨[], σ, hs⟩ (EndD K)) : TDf E f args u hs K := by
 intro S hS
 have ha : HasA (enterAct fn args) n none [] σ := by
  refine ⟨hn, rfl, rfl, fun t v hv => ?_⟩;rw [← hσ] at hv;simp only [enterAct, AAct.get, enter_get _ _ _ _ _ hv]
 obtain ⟨⟨⟨e, a'⟩, u1, S'⟩, ⟨m0, hm⟩, s', hi, he, hms, hk⟩ := h _ S ⟨ha, hS⟩;refine ⟨(none, u1, S'), ⟨m0, fun m hm' => ?_⟩, u1, S', s'.hs, rfl, hi.mem, hk⟩
 have hm := hm m hm'
 have hmk : a'.marks = [] := hi.act.marks.trans hms;cases e with
 | normal => simp only [runDfr, hf, hb, ofOpt, Except.bind, hm, hmk, mustBe, List.isEmpty_nil, cond_true, isEnd, hr, resultsOf]
 | ret => simp only [runDfr, hf, hb, ofOpt, Except.bind, hm, hmk, mustBe, List.isEmpty_nil, cond_true, isEnd, hr, resultsOf]
 | exit j => cases he
 | goto j => cases he
 | panic ch => cases he
 | outgrown => cases he
variable {K : FrameMode → List Thing → Prop}
theorem TL.nil (h : K u hs) : TL E [] u hs K := fun S hS => .ok ⟨hs, hS, h⟩
theorem TL.call {f : FuncId} {args : List AV} (h : TDf E f args u hs fun u1 hs1 => notRun (settle u1) = true ∧ TL E ms (settle u1) hs1 K) : TL E (.call f args :: ms) u hs K := by
 intro S hS;obtain ⟨r, ⟨m0, hm0⟩, u1, S1, hs1, rfl, h2, h3, h4⟩ := h S hS;obtain ⟨y, ⟨m1, hm1⟩, hy⟩ := h4 S1 h2;refine ⟨y, ⟨max m0 m1, fun m hm => ?_⟩, hy⟩
 have e0 := hm0 m (by omega);simp only [leaveD, e0, Except.bind, mustBe, h3, cond_true];exact hm1 m (by omega)
def RetU (E : Env) (σ : Sl) (rs : List ResultVar) (K : Out → List Thing → Prop) : FrameMode → List Thing → Prop
 | .returning, hs' => ∃ vs, ResL E σ hs' rs vs ∧ K (.ret (oneOrTuple vs)) hs'
 | .panicking ch, hs' => K (.thr ch) hs'
 | .run, _ => False
def RetD (E : Env) (rs : List ResultVar) (K : Out → List Thing → Prop) : Exit → Sy → Prop := fun e s =>
 ∃ u, modeOf e = .ok u ∧ TL E s.ms u s.hs (RetU E s.sl rs K)
theorem TL.fin {rs : List ResultVar} {K : Out → List Thing → Prop} (vs : List AV) (h1 : ResL E σ hs rs vs) (h2 : K (.ret (oneOrTuple vs)) hs) : TL E [] .returning hs (RetU E σ rs K) := TL.nil ⟨vs, h1, h2⟩
theorem TL.finP {rs : List ResultVar} {K : Out → List Thing → Prop} {ch : List PanicEntry} (h : K (.thr ch) hs) : TL E [] (.panicking ch) hs (RetU E σ rs K) := TL.nil h
theorem TFX.enter {f : FuncId} {args : List AV} {fn : Func} {c : Code} {K : Out → List Thing → Prop} {rs : List ResultVar} (hf : E.fn f = some fn) (hb : fn.body = some c) (hn : args.length + (fn.ntmps - args.length) = n) (hσ : zipN 0 args = σ)
  (hr : fn.results.toList = rs) (h : T E n none c ⟨[], σ, hs⟩ (RetD E rs K)) (he0 : E.eff f = none := by rfl) : TFX E f args hs K := by
 intro S hS;refine Evt.task ?_
 have ha : HasA (enterAct fn args) n none [] σ := by
  refine ⟨hn, rfl, rfl, fun t v hv => ?_⟩;rw [← hσ] at hv;simp only [enterAct, AAct.get, enter_get _ _ _ _ _ hv]
 obtain ⟨x, ⟨m0, hm⟩, e, a', S', s', rfl, hi, u, hu, hl⟩ := h _ S ⟨ha, hS⟩;obtain ⟨⟨u', S2⟩, ⟨m1, hm1⟩, hs', h2, h3⟩ := hl S' hi.mem;rw [← hi.act.marks] at hm1;cases u' with
 | run => exact h3.elim
 | returning =>
  obtain ⟨vs, hv, hk⟩ := h3;refine ⟨(.ret (oneOrTuple vs), S2), ⟨max m0 m1, fun m hm' => ?_⟩, .ret (oneOrTuple vs), S2, hs', rfl, h2, hk⟩
  have e0 := hm m (by omega);simp only at e0;simp only [runStep, runCall, he0, hf, hb, ofOpt, Except.bind, e0, hu, hm1 m (by omega), hr, resL_ok hi.act h2 rs vs hv]
 | panicking ch =>
  refine ⟨(.thrown ch, S2), ⟨max m0 m1, fun m hm' => ?_⟩, .thr ch, S2, hs', rfl, h2, h3⟩
  have e0 := hm m (by omega);simp only at e0;simp only [runStep, runCall, he0, hf, hb, ofOpt, Except.bind, e0, hu, hm1 m (by omega)]
end
end Go.Am
end
section
namespace Go.Am
open Go.RowKit
set_option linter.unusedVariables false
def encBI : En Int := ⟨1, fun n => [ivk .u8 n], fun _ => rfl⟩
def u8L (l : List Int) : Str := l.map fun n => UInt8.ofNat n.toNat
theorem mapR_byteOf (l : List Int) : mapR byteOf (l.flatMap encBI.f) = .ok (u8L l) := by
 induction l with
 | nil => rfl
 | cons a l ih => rw [List.flatMap_cons]; show mapR byteOf (ivk .u8 a :: l.flatMap encBI.f) = _; simp only [mapR, byteOf, ih, Except.bind]; rfl
theorem encBI_all (l : List Int) : (l.flatMap encBI.f).all oneCell = true := by
 induction l with
 | nil => rfl
 | cons a l ih => rw [List.flatMap_cons]; show (ivk .u8 a :: l.flatMap encBI.f).all oneCell = true; rw [List.all_cons, ih]; rfl
theorem flat_BI (l : List Int) : l.flatMap encBI.f = l.map (ivk .u8) := by
 induction l with
 | nil => rfl
 | cons a l ih => rw [List.flatMap_cons, ih]; rfl
section
variable {E : Env} {σ : Sl} {hs C : List Thing} {xt ty : TypeId} {x y : Operand}
theorem bytes_flat (l : Str) : bytesA ⟨l.toArray⟩ = l.flatMap encU8.f := by
 have : ∀ l : Str, l.map (fun b => AV.lit (.int .u8 b.toNat)) = l.flatMap encU8.f := by
  intro l
  induction l with
  | nil => rfl
  | cons a l ih => rw [List.flatMap_cons, List.map_cons, ih]; rfl
 rw [← this];rfl
theorem Val.bytes {src dst e : TypeId} {l : Str} (h1 : E.und src = some .string) (h2 : E.und dst = some (.slice e)) (h3 : E.und e = some (.int .u8)) (hx : evs σ x = some (sv l)) :
  Val E σ hs (.convert src dst x) (GSo false encU8 l).v := fun ev S he hS o ho => by
 unfold aop; rw [ho];simp only [he _ _ hx, sv, aconv, h1, h2, h3, size_mk, bytes_flat, valOf, Except.bind, val];rfl
theorem Val.strOf {src dst e : TypeId} {id off ver m cap : Nat} {ex : Bool} {l : List Int} (h1 : E.und src = some (.slice e)) (h2 : E.und dst = some .string) (h3 : E.und e = some (.int .u8)) (hx : evs σ x = some (.slice id off ver ex m cap))
  (hsrc : ∀ S, HasS S hs → Src S (.slice id off ver ex m cap) 1 m (l.flatMap encBI.f)) (hm : m ≠ 0) : Val E σ hs (.convert src dst x) (sv (u8L l)) := fun ev S he hS o ho => by
 obtain ⟨k1, k2, k3, k4⟩ := hsrc S hS;unfold aop; rw [ho];simp only [he _ _ hx, aconv, h1, h2, h3, isSlice, lenOf?, cond_true, Except.bind, k2 hm, mapR_byteOf, valOf, val];rfl
theorem Val.strOf_own {src dst e p : Nat} {z : Bool} {v : AV} {l : List Int} (hp : hs[p]? = some (ownL z v encBI l)) (h1 : E.und src = some (.slice e)) (h2 : E.und dst = some .string) (h3 : E.und e = some (.int .u8)) (hx : evs σ x = some v) (hl : 0 < l.length) :
  Val E σ hs (.convert src dst x) (sv (u8L l)) := fun ev S he hS o ho => by
 have hsrc := src_own hS hp (encBI_all l)
 rcases hS.own hp with ⟨h0, e1, e2, e3⟩ | ⟨id, ex, e1, e2, e3, e4⟩
 ·omega
 ·subst e1;obtain ⟨k1, k2, k3, k4⟩ := hsrc
  have k2 := k2 (by omega);unfold aop; rw [ho]
  have k2' : firstN S 1 l.length (.slice id 0 (l.flatMap encBI.f).length ex l.length l.length) = .ok (l.flatMap encBI.f) := k2;simp only [he _ _ hx, aconv, h1, h2, h3, isSlice, lenOf?, cond_true, Except.bind, k2', mapR_byteOf, valOf, val];rfl
def InK (k : IntKind) (a : Int) : Prop := k.wrap a = a
theorem Val.arithK {op : BinOp} {k : IntKind} {a b r : Int} (hop : op = .add ∨ op = .sub ∨ op = .mul) (hr : Op.intArith op k a b = pure (.int k r)) (hk : k ≠ .i64) (hx : evs σ x = some (ivk k a)) (hy : evs σ y = some (ivk k b)) :
  Val E σ hs (.binOp op xt x y ty) (ivk k r) := fun ev S he _ o ho => by
 have e : (pureVal E.P (do eqGuard op xt x y (.int k a) (.int k b); binOp op xt (.int k a) (.int k b))) = some (.int k r) := by
  rcases hop with rfl | rfl | rfl
  ·show pureVal E.P (if k ≠ k then _ else Op.intArith .add k a b) = _;rw [if_neg (fun h => h rfl), hr]; rfl
  ·show pureVal E.P (if k ≠ k then _ else Op.intArith .sub k a b) = _;rw [if_neg (fun h => h rfl), hr]; rfl
  ·show pureVal E.P (if k ≠ k then _ else Op.intArith .mul k a b) = _;rw [if_neg (fun h => h rfl), hr]; rfl
 have key : abinPure E op xt x y (ivk k a) (ivk k b) = .ok (ivk k r) := by
  simp only [abinPure, toV, Except.bind, e, ofOpt];rfl
 have hp : abin E op xt x y (ivk k a) (ivk k b) = .ok (ivk k r) := by
  rcases hop with rfl | rfl | rfl <;> (unfold abin; split <;> first | (rename_i h1 h2; cases h1; exact absurd rfl hk) | (rename_i h1 h2 h3; cases h2; exact absurd rfl hk) | simp only [key])
 unfold aop; rw [ho]; simp only [he _ _ hx, he _ _ hy, hp]; rfl
theorem Val.addK {k : IntKind} {a b : Int} (h : InK k (a + b)) (hk : k ≠ .i64) (hx : evs σ x = some (ivk k a)) (hy : evs σ y = some (ivk k b)) : Val E σ hs (.binOp .add xt x y ty) (ivk k (a + b)) :=
 Val.arithK (.inl rfl) (by show pure (Value.int k (k.wrap (a + b))) = _; rw [h]) hk hx hy
theorem Val.subK {k : IntKind} {a b : Int} (h : InK k (a - b)) (hk : k ≠ .i64) (hx : evs σ x = some (ivk k a)) (hy : evs σ y = some (ivk k b)) : Val E σ hs (.binOp .sub xt x y ty) (ivk k (a - b)) :=
 Val.arithK (.inr (.inl rfl)) (by show pure (Value.int k (k.wrap (a - b))) = _; rw [h]) hk hx hy
theorem Val.mulK {k : IntKind} {a b : Int} (h : InK k (a * b)) (hk : k ≠ .i64) (hx : evs σ x = some (ivk k a)) (hy : evs σ y = some (ivk k b)) : Val E σ hs (.binOp .mul xt x y ty) (ivk k (a * b)) :=
 Val.arithK (.inr (.inr rfl)) (by show pure (Value.int k (k.wrap (a * b))) = _; rw [h]) hk hx hy
theorem Val.quoK {k : IntKind} {a b : Int} (h : 0 < b ∧ InK k (a.tdiv b)) (hx : evs σ x = some (ivk k a)) (hy : evs σ y = some (ivk k b)) : Val E σ hs (.binOp .quo xt x y ty) (ivk k (a.tdiv b)) := fun ev S he _ o ho => by
 have hb : b ≠ 0 := by omega
 have hp : abin E .quo xt x y (ivk k a) (ivk k b) = .ok (ivk k (a.tdiv b)) := by
  have e : (pureVal E.P (do eqGuard .quo xt x y (.int k a) (.int k b); binOp .quo xt (.int k a) (.int k b))) = some (.int k (a.tdiv b)) := by
   show pureVal E.P (if k ≠ k then _ else Op.intDiv .quo k a b) = _;rw [if_neg (fun h => h rfl)];unfold Op.intDiv;rw [if_neg hb]
   show some (Value.int k (k.wrap (a.tdiv b))) = _;rw [h.2]
  have key : abinPure E .quo xt x y (ivk k a) (ivk k b) = .ok (ivk k (a.tdiv b)) := by
   simp only [abinPure, toV, Except.bind, e, ofOpt];rfl
  unfold abin;split <;> first | contradiction | simp only [key]
 unfold aop; rw [ho]; simp only [he _ _ hx, he _ _ hy, hp]; rfl
theorem Val.shrK {k j : IntKind} {a b : Int} (hk : k ≠ .i64) (hx : evs σ x = some (ivk k a)) (hy : evs σ y = some (ivk j b)) (h : 0 ≤ b ∧ b < k.bits) : Val E σ hs (.binOp .shr xt x y ty) (ivk k (shrI a b)) := fun ev S he _ o ho => by
 have hp : abin E .shr xt x y (ivk k a) (ivk j b) = .ok (ivk k (shrI a b)) := by
  have e : (pureVal E.P (do eqGuard .shr xt x y (.int k a) (.int j b); binOp .shr xt (.int k a) (.int j b))) = some (.int k (shrI a b)) := by
   show pureVal E.P (Op.shift .shr k a j b) = _;unfold Op.shift;rw [if_neg (by omega)]
   have hm : min b.toNat k.bits = b.toNat := Nat.min_eq_left (by omega);simp only [hm];rfl
  have key : abinPure E .shr xt x y (ivk k a) (ivk j b) = .ok (ivk k (shrI a b)) := by
   simp only [abinPure, toV, Except.bind, e, ofOpt];rfl
  unfold abin;split <;> first | contradiction | simp only [key]
 unfold aop; rw [ho]; simp only [he _ _ hx, he _ _ hy, hp]; rfl
theorem InK.u8 {a : Int} (h : 0 ≤ a ∧ a < 256) : InK .u8 a := by
 have e : (2 : Int) ^ 8 = 256 := by decide
 have e' : a % 256 = a := Int.emod_eq_of_lt h.1 h.2;simp only [InK, IntKind.wrap, IntKind.bits, IntKind.signed, Bool.false_and, e, e', Bool.false_eq_true, if_false]
theorem InK.u32 {a : Int} (h : 0 ≤ a ∧ a < 4294967296) : InK .u32 a := by
 have e : (2 : Int) ^ 32 = 4294967296 := by decide
 have e' : a % 4294967296 = a := Int.emod_eq_of_lt h.1 h.2;simp only [InK, IntKind.wrap, IntKind.bits, IntKind.signed, Bool.false_and, e, e', Bool.false_eq_true, if_false]
theorem InK.u64 {a : Int} (h : 0 ≤ a ∧ a < 18446744073709551616) : InK .u64 a := by
 have e : (2 : Int) ^ 64 = 18446744073709551616 := by decide
 have e' : a % 18446744073709551616 = a := Int.emod_eq_of_lt h.1 h.2;simp only [InK, IntKind.wrap, IntKind.bits, IntKind.signed, Bool.false_and, e, e', Bool.false_eq_true, if_false]
theorem Val.index_strK {t : TypeId} {j : IntKind} {l : Str} {k : Int} (ht : E.und t = some .string) (hx : evs σ x = some (sv l)) (hy : evs σ y = some (ivk j k)) (hk : 0 ≤ k ∧ k < l.length) :
  Val E σ hs (.index t x y) (ivk .u8 (byteAt l k)) := fun ev S he _ o ho => by
 unfold aop; rw [ho]
 have hlt : k.toNat < l.length := by omega
 have e1 : decide (0 ≤ k) = true := decide_eq_true hk.1
 have e2 : l.toArray[k.toNat]? = some (l.getD k.toNat 0) := by
  simp [List.getD, List.getElem?_eq_getElem hlt]
 simp only [he _ _ hx, he _ _ hy, aindex, intOf?, ht, ofOpt, Except.bind, sv, e1, cond_true, e2, valOf, val, ivk, byteAt]
theorem len_BI (l : List Int) : (l.flatMap encBI.f).length = l.length := by rw [flat_len]; exact Nat.mul_one _
theorem Val.asl_both {st e p id k : Nat} {z : Operand} {l : List Int} {a b : Int} (hp : hs[p]? = some (arrL id encBI l)) (hl : l.length = k) (ht : E.und st = some (.array k e)) (hsz : E.siz e = some 1)
  (hx : evs σ x = some (.ptr id 0 k)) (hy : evs σ y = some (iv a)) (hz : evs σ z = some (iv b)) (h : (0 ≤ a ∧ a ≤ b) ∧ b ≤ k ∧ a < k) : Val E σ hs (.slice st x (some y) (some z) none) (.slice id a.toNat k true (b.toNat - a.toNat) (k - a.toNat)) := fun ev S he hS o ho => by
 obtain ⟨fl, hfl, hg⟩ := hS.row hp;rw [len_BI, hl] at hfl
 have er : rowOf S id = .ok (l.flatMap encBI.f, encBI.u, fl) := by unfold rowOf; rw [hg]
 have e1 := boundOf_iv (k := b) (y := k) ⟨by omega, h.2.1⟩
 have e2 := boundOf_iv (k := a) (y := b.toNat) ⟨h.1.1, by omega⟩
 have e3 : Nat.beq encBI.u 1 = true := rfl
 have e5 : Nat.ble k k = true := Nat.ble_eq_true_of_le (Nat.le_refl _)
 have e6 : Nat.ble fl k = true := Nat.ble_eq_true_of_le hfl
 have e7 : Nat.beq k a.toNat = false := beq_false.2 (by omega);unfold aop; rw [ho];simp only [he _ _ hx, Option.map_some, Option.map_none, he _ _ hy, he _ _ hz, aslice, ht, ofOpt, Except.bind, boundsOf, e1, e2, hsz, er, e3, e6, len_BI, hl, e5, Bool.and_self, cond_true, e7, cond_false, Nat.mul_one, Nat.zero_add, valOf];rfl
theorem Val.asl_len {st e : TypeId} {id off ver n cap : Nat} {ex : Bool} (ht : E.und st = some (.slice e)) (hx : evs σ x = some (.slice id off ver ex n cap)) : Val E σ hs (.call { callee := .builtin .len, args := #[x], argTypes := #[st] }) (iv (n : Int)) := fun ev S he hS o ho => by
 unfold aop; rw [ho];simp only [acall, abuiltin, alen, List.map_cons, List.map_nil, he _ _ hx, List.getElem?_toArray, List.getElem?_cons_zero, ht, ofOpt, Except.bind, isSlice, lenOf?, cond_true, val]
theorem Val.asl_addr {st e : TypeId} {id off ver n cap : Nat} {ex : Bool} {i : Int} (ht : E.und st = some (.slice e)) (hsz : E.siz e = some 1) (hx : evs σ x = some (.slice id off ver ex n cap)) (hy : evs σ y = some (iv i)) (h : 0 ≤ i ∧ i < (n : Int)) :
  Val E σ hs (.indexAddr st x y) (.ptr id (off + i.toNat * 1) ver) := fun ev S he hS o ho => by
 have e1 : decide (0 ≤ i) = true := decide_eq_true h.1
 have e2 : decide (i < (n : Int)) = true := decide_eq_true h.2;unfold aop; rw [ho];simp only [he _ _ hx, he _ _ hy, aindexAddr, intOf?, Except.bind, ht, ofOpt, hsz, e1, e2, Bool.and_self, cond_true, valOf];rfl
theorem Eff.asl_store {bt p id k off : Nat} {i : Int} {l : List Int} {w : Int} (hp : hs[p]? = some (arrL id encBI l)) (hl : l.length = k) (ht : E.siz bt = some 1) (hx : evs σ x = some (.ptr id (off + i.toNat * 1) k)) (hy : evs σ y = some (ivk .u8 w)) (hq : off + i.toNat < k) :
  Eff E σ hs (.store bt x y) fun _ hs' => hs' = hs.set p (arrL id encBI (l.set (off + i.toNat) w)) := by
 refine Eff.store_row (cells' := (l.set (off + i.toNat) w).flatMap encBI.f) hp ht (k := k) (m := 1) (off := off + i.toNat) (by rw [hx, Nat.mul_one]) (by rw [len_BI, hl]) hy (cv := [ivk .u8 w]) rfl rfl rfl rfl (by omega) ?_;subst hl;rw [flat_BI, flat_BI, List.map_set];unfold spliceL
 have hlt : off + i.toNat < (l.map (ivk .u8)).length := by rw [List.length_map]; exact hq
 rw [List.set_eq_take_append_cons_drop, if_pos hlt];simp
theorem src_asl {S : St} (hS : HasS S hs) {p id off m k cap : Nat} {l : List Int} (hp : hs[p]? = some (arrL id encBI l)) (hk : l.length = k) (hm : off + m ≤ k) : Src S (.slice id off k true m cap) 1 m (((l.drop off).take m).flatMap encBI.f) := by
 subst hk
 have hlen : (((l.drop off).take m).flatMap encBI.f).length = m := by rw [len_BI, List.length_take, List.length_drop]; omega
 refine ⟨rfl, fun _ => ?_, by rw [hlen, Nat.mul_one], encBI_all _⟩;obtain ⟨_, hld⟩ := hS.loadAll (hS.row hp);simp only [firstN];rw [len_BI] at hld;rw [hld off (m * 1) (by omega), Nat.mul_one, flat_BI, flat_BI, List.map_take, List.map_drop]
theorem Val.strOf_asl {src dst e p id off m k cap : Nat} {l : List Int} (hp : hs[p]? = some (arrL id encBI l)) (hk : l.length = k) (h1 : E.und src = some (.slice e)) (h2 : E.und dst = some .string) (h3 : E.und e = some (.int .u8)) (hx : evs σ x = some (.slice id off k true m cap)) (hm : 0 < m ∧ off + m ≤ k) :
  Val E σ hs (.convert src dst x) (sv (u8L ((l.drop off).take m))) :=
 Val.strOf h1 h2 h3 hx (fun S hS => src_asl hS hp hk hm.2) (by omega)
theorem Val.glb_addr {t e : TypeId} {m g off : Nat} {i : Int} (ht : E.und t = some (.array m e)) (hsz : E.siz e = some 1) (hx : evs σ x = some (.lit (.pointer (some ⟨g, off, none⟩)))) (hy : evs σ y = some (iv i)) (h : 0 ≤ i ∧ i < (m : Int)) :
  Val E σ hs (.indexAddr t x y) (.lit (.pointer (some ⟨g, off + i.toNat * 1, none⟩))) := fun ev S he hS o ho => by
 have e1 : decide (0 ≤ i) = true := decide_eq_true h.1
 have e2 : decide (i < (m : Int)) = true := decide_eq_true h.2;unfold aop; rw [ho];simp only [he _ _ hx, he _ _ hy, aindexAddr, intOf?, Except.bind, ht, ofOpt, hsz, e1, e2, Bool.and_self, cond_true, valOf];rfl
theorem Val.glb_load {t : TypeId} {g q : Nat} {G : List (Nat × List Value)} {j : IntKind} {l : List Int} {a : Int} (hg : Thing.glb G ∈ C) (hC : ∀ x ∈ C, x ∈ hs) (hG : lookG G g = some (l.map (.int j))) (ht : Scalar E t) (hx : evs σ x = some (.lit (.pointer (some ⟨g, 0 + q * 1, none⟩)))) (ha : l[q]? = some a) :
  Val E σ hs (.load t x) (ivk j a) := fun ev S he hS o ho => by
 obtain ⟨d, h1, h2⟩ := ht
 have hs0 : S.glb = G := hS.ok _ (hC _ hg)
 have hlt := (List.getElem?_eq_some_iff.1 ha).1
 have e0 : (((l.map (Value.int j)).map AV.lit).drop (0 + q * 1)) = ivk j a :: ((l.map (Value.int j)).map AV.lit).drop (q + 1) := by
  rw [Nat.zero_add, Nat.mul_one, List.drop_eq_getElem_cons (by simpa using hlt)]
  congr 1
  simp only [List.getElem_map, ivk];rw [(List.getElem?_eq_some_iff.1 ha).2]
 unfold aop; rw [ho];simp only [he _ _ hx, aload, gpt, hs0, hG, e0, loadVarA, h1, ofOpt, Except.bind, h2, cond_false, readN, List.length_cons]
 have e1 : Nat.ble 1 ((((l.map (Value.int j)).map AV.lit).drop (q + 1)).length + 1) = true := Nat.ble_eq_true_of_le (by omega)
 have e2 : Nat.blt 0 1 = true := rfl;simp only [e1, e2, Bool.and_self, cond_true, List.take_succ_cons, List.take_zero, val]
end
theorem HasS.startG {E : Env} {f : FuncId} {G : List (Nat × List Value)} (h : E.og f = G) : HasS (S0 E f) [.glb G] := ⟨fun _ _ => rfl, fun x hx => by
  rcases List.mem_singleton.1 hx with rfl
  exact h, List.pairwise_singleton _ _⟩
theorem TF.runG {E : Env} {W : Type} {vw : W → AV} {hw : W → List Thing} {f : FuncId} {vs : List AV} {t : AV} {G : List (Nat × List Value)} (hG : E.og f = G) (h : TF E f vs [.glb G] (RepF vw hw)) (hr : ∀ w, RefN 12 (hw w) (vw w) t) : Comes E f vs t :=
 ((RepF.conv h) (S0 E f) (.startG hG)).mono fun r ⟨v, S', hs', h1, h2, w, h3, h4⟩ => ⟨v, S', h1, by subst h3; subst h4; exact hr w S' h2⟩
end Go.Am
end
section
namespace Go.Am
def smallsS : Str := [48, 48, 48, 49, 48, 50, 48, 51, 48, 52, 48, 53, 48, 54, 48, 55, 48, 56, 48, 57, 49, 48, 49, 49, 49, 50, 49, 51, 49, 52, 49, 53, 49, 54, 49, 55, 49, 56, 49, 57, 50, 48, 50, 49, 50, 50, 50, 51, 50, 52, 50, 53, 50, 54, 50, 55, 50, 56, 50, 57, 51, 48, 51, 49, 51, 50, 51, 51, 51, 52, 51, 53, 51, 54, 51, 55, 51, 56, 51, 57, 52, 48, 52, 49, 52, 50, 52, 51, 52, 52, 52, 53, 52, 54, 52, 55, 52, 56, 52, 57, 53, 48, 53, 49, 53, 50, 53, 51, 53, 52, 53, 53, 53, 54, 53, 55, 53, 56, 53, 57, 54, 48, 54, 49, 54, 50, 54, 51, 54, 52, 54, 53, 54, 54, 54, 55, 54, 56, 54, 57, 55, 48, 55, 49, 55, 50, 55, 51, 55, 52, 55, 53, 55, 54, 55, 55, 55, 56, 55, 57, 56, 48, 56, 49, 56, 50, 56, 51, 56, 52, 56, 53, 56, 54, 56, 55, 56, 56, 56, 57, 57, 48, 57, 49, 57, 50, 57, 51, 57, 52, 57, 53, 57, 54, 57, 55, 57, 56, 57, 57]
def len8S : Str := [0, 1, 2, 2, 3, 3, 3, 3, 4, 4, 4, 4, 4, 4, 4, 4, 5, 5, 5, 5, 5, 5, 5, 5, 5, 5, 5, 5, 5, 5, 5, 5, 6, 6, 6, 6, 6, 6, 6, 6, 6, 6, 6, 6, 6, 6, 6, 6, 6, 6, 6, 6, 6, 6, 6, 6, 6, 6, 6, 6, 6, 6, 6, 6, 7, 7, 7, 7, 7, 7, 7, 7, 7, 7, 7, 7, 7, 7, 7, 7, 7, 7, 7, 7, 7, 7, 7, 7, 7, 7, 7, 7, 7, 7, 7, 7, 7, 7, 7, 7, 7, 7, 7, 7, 7, 7, 7, 7, 7, 7, 7, 7, 7, 7, 7, 7, 7, 7, 7, 7, 7, 7, 7, 7, 7, 7, 7, 7, 8, 8, 8, 8, 8, 8, 8, 8, 8, 8, 8, 8, 8, 8, 8, 8, 8, 8, 8, 8, 8, 8, 8, 8, 8, 8, 8, 8, 8, 8, 8, 8, 8, 8, 8, 8, 8, 8, 8, 8, 8, 8, 8, 8, 8, 8, 8, 8, 8, 8, 8, 8, 8, 8, 8, 8, 8, 8, 8, 8, 8, 8, 8, 8, 8, 8, 8, 8, 8, 8, 8, 8, 8, 8, 8, 8, 8, 8, 8, 8, 8, 8, 8, 8, 8, 8, 8, 8, 8, 8, 8, 8, 8, 8, 8, 8, 8, 8, 8, 8, 8, 8, 8, 8, 8, 8, 8, 8, 8, 8, 8, 8, 8, 8, 8, 8, 8, 8, 8, 8, 8, 8, 8, 8, 8, 8, 8, 8]
def pow10L : List Int := [1, 10, 100, 1000, 10000, 100000, 1000000, 10000000, 100000000, 1000000000, 10000000000, 100000000000, 1000000000000, 10000000000000, 100000000000000, 1000000000000000, 10000000000000000, 100000000000000000, 1000000000000000000, 10000000000000000000]
open Go.RowKit in
theorem Val.assert_bare {E : Env} {σ : Sl} {hs : List Thing} {x : Operand} {it at_ k : TypeId} {v : AV} {dd : TypeDesc} (hx : evs σ x = some (.iface k v)) (hd : E.und at_ = some dd) (hn : isIfaceT dd = false) (hk : Nat.beq k at_ = true) : Val E σ hs (.typeAssert x it at_ false) v := fun ev S he hS o ho => by
 unfold aop; rw [ho];simp only [he _ _ hx, aassert, hd, ofOpt, Except.bind, valOf];cases dd <;> first | (simp [isIfaceT] at hn; done) | (simp only [hk]; rfl)
end Go.Am
end
