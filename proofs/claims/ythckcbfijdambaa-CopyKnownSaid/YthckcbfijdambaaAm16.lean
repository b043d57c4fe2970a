/- Activations, and the rules of the fenced logic that the base has not. -/
import Derived.Test.YthckcbfijdambaaAm15
import Derived.LoopNIn
namespace Go.Am
open Go.RowKit

/-! ### Scopes, in a fence -/
/-- As Q; no goto. -/
def noGoto (Q : Exit → Act → World → Prop) : Exit → Act → World → Prop
  | .goto _, _, _ => False
  | e, a, w => Q e a w

section
variable {F : Fence} {n : Nat} {P : Program} {Q : Exit → Act → World → Prop} {a : Act} {w : World} {b : Frame} {k : List Item} {cs : List Frame}

theorem stepR_scope {c : Code} : step P (lone (b.atR a (.code (.scope c) :: k)) cs w) = .next (lone (b.atR a (.code c :: .inScope c :: k)) cs w) :=
  step_lone_go (by simp [stepG, stepG.exec, Frame.atR])
theorem stepR_inScope {c : Code} : step P (lone (b.atR a (.inScope c :: k)) cs w) = .next (lone (b.atR a k) cs w) :=
  step_lone_go (by simp [stepG, stepG.exec, Frame.atR])

theorem wpIn_scope_straight {c : Code} (h : c.wpIn F n P (noGoto Q) a w) : (Code.scope c).wpIn F n P Q a w := by
  intro b k cs hro hb hr
  have h0 : (lone (b.atR a (.code (.scope c) :: k)) cs w).fenced P F := fenced_calm hb hr rfl
  obtain ⟨e, a₁, w₁, hq, harr⟩ := h b (.inScope c :: k) cs hro hb hr
  cases e with
  | normal => exact ⟨.normal, a₁, w₁, hq, .head h0 stepR_scope (StepsIn.trans harr (.one (fenced_calm hb hr rfl) stepR_inScope))⟩
  | exit id =>
    have hx : exitTo id (.inScope c :: k) = exitTo id k := by simp [exitTo]
    exact ⟨.exit id, a₁, w₁, hq, fun k' hk => .head h0 stepR_scope (harr.1 k' (by rw [hx]; exact hk)),
      fun hr' hk => let ⟨k₁, h1, h2⟩ := harr.2 hr' (by rw [hx]; exact hk); ⟨k₁, h1, .head h0 stepR_scope h2⟩⟩
  | goto l => exact hq.elim
  | ret => exact ⟨_, a₁, w₁, hq, .of_steps (.one h0 stepR_scope) harr⟩
  | panic ch => exact ⟨_, a₁, w₁, hq, .of_steps (.one h0 stepR_scope) harr⟩
  | outgrown => exact ⟨_, a₁, w₁, hq, .of_steps (.one h0 stepR_scope) harr⟩
end

/-! ### Activations -/
structure RelA (r : Ren) (a : AAct) (act : Act) : Prop where
  size : act.tmps.size = a.n
  get : ∀ t, RelV r (a.get t) (act.tmps.getD t undef)
  marks : act.defers.length = a.marks.length ∧ ∀ (i m : Nat) (d : Deferred), a.marks[i]? = some m → act.defers[i]? = some d → ∃ x, r.row m 0 = some x ∧ d = { target := .collected x.1, args := #[] }

theorem RelA.mono {r r' : Ren} {a : AAct} {act : Act} (h : RelA r a act) (hr : r.le r') : RelA r' a act :=
  ⟨h.size, fun t => (h.get t).mono hr, h.marks.1, fun i m d h1 h2 => let ⟨x, h3, h4⟩ := h.marks.2 i m d h1 h2; ⟨x, hr.row _ _ _ h3, h4⟩⟩

theorem RelA.ev {r : Ren} {a : AAct} {act : Act} (h : RelA r a act) (x : Operand) : RelV r (a.ev x) (act.eval x) := by
  cases x with
  | tmp t => exact h.get t
  | const v => exact ofV_rel r 4 v
  | global g => exact .lit _
  | func f => exact .func (xs := []) (ys := []) rfl rfl (fun i v x h => by simp at h) (fun i v x h => by simp at h)

theorem undef_rel (r : Ren) : RelV r undefA undef := .tuple (xs := []) rfl fun i v x h => by simp at h

theorem put_ok {a a1 : AAct} {dst : Option Tmp} {v : AV} (h : a.put dst v = .ok a1) : a1.n = a.n ∧ a1.marks = a.marks ∧ a1.rnd = a.rnd ∧
    (∀ t, a1.get t = if dst = some t then v else a.get t) ∧ (∀ d, dst = some d → d < a.n) := by
  unfold AAct.put at h
  cases dst with
  | none => cases h; exact ⟨rfl, rfl, rfl, fun t => by simp, fun d hd => by cases hd⟩
  | some d =>
    obtain ⟨hlt, h1⟩ := bif_ok h
    cases h1
    refine ⟨rfl, rfl, rfl, fun t => ?_, fun d' hd => by cases hd; exact blt_true.1 hlt⟩
    simp only [AAct.get, Trie.get_set, Option.some.injEq]
    by_cases hd : d = t
    · simp [hd]
    · simp [hd]

theorem RelA.put {r : Ren} {a a1 : AAct} {act : Act} {dst : Option Tmp} {v : AV} {x : Value} (h : RelA r a act) (hp : a.put dst v = .ok a1) (hv : RelV r v x) : RelA r a1 (act.put dst x) := by
  obtain ⟨h1, h2, h3, h4, h5⟩ := put_ok hp
  refine ⟨?_, fun t => ?_, ?_⟩
  · rw [h1, ← h.size]; cases dst <;> simp [Act.put]
  · rw [h4]
    cases dst with
    | none => simpa [Act.put] using h.get t
    | some d =>
      have hlt := h5 d rfl
      rw [← h.size] at hlt
      simp only [Act.put, Option.some.injEq]
      by_cases hd : d = t
      · subst hd
        simp only [if_true]
        have : (act.tmps.setIfInBounds d x).getD d undef = x := by simp [hlt]
        rw [this]
        exact hv
      · simp only [if_neg hd]
        have : (act.tmps.setIfInBounds d x).getD t undef = act.tmps.getD t undef := by simp [Array.getElem?_setIfInBounds_ne hd]
        rw [this]
        exact h.get t
  · rw [h2]; cases dst <;> exact h.marks

theorem yielded_rel {r : Ren} {a : AAct} {act : Act} (h : RelA r a act) (ops : Array Oper) : yieldedA ops a = yielded ops act.tmps := by
  funext j
  unfold yieldedA yielded
  cases hd : (ops[j]?).bind (·.dst) with
  | none => rfl
  | some t =>
    have hg := h.get t
    simp only [Option.bind_some]
    cases hx : act.tmps[t]? with
    | none =>
      have : act.tmps.getD t undef = undef := by simp [hx]
      rw [this] at hg
      generalize a.get t = v at hg
      cases hg <;> rfl
    | some x =>
      have : act.tmps.getD t undef = x := by simp [hx]
      rw [this] at hg
      generalize a.get t = v at hg
      cases hg with
      | lit => cases x <;> rfl
      | _ => rfl

/-- The fence: wide; in a round of a loop or in none. -/
def fence (ro : Option Nat) : Fence := { fn := fun _ => True, depth := none, alive := false, round := ro }

theorem fence_none : fence none = Fence.wide := rfl
theorem fence_round (l : Nat) : fence (some l) = Fence.wide.inRound l := rfl

def RelR (r : Ren) (a ro : Option Nat) : Prop :=
  match a, ro with
  | none, none => True
  | some l, some b => ∃ n u, r.row l 0 = some (b, n, u)
  | _, _ => False

theorem RelR.mono {r r' : Ren} {a ro : Option Nat} (h : RelR r a ro) (hr : r.le r') : RelR r' a ro := by
  cases a <;> cases ro <;> simp only [RelR] at h ⊢
  obtain ⟨n, u, h⟩ := h
  exact ⟨n, u, hr.row _ _ _ h⟩

theorem callsIn_fence {P : Program} {f : FuncId} {args : Array Value} {w : World} {R : Ending → World → Prop} (h : CallsIn Fence.wide 0 P f args w R) (ro : Option Nat) :
    CallsIn (fence ro) 0 P f args w R := by
  cases ro with
  | none => exact h
  | some l => exact CallsIn.inRound l h

/-- What is shown of whoever runs tasks. -/
structure Sound (E : Env) (rec : Task → St → RR) : Prop where
  code : ∀ c a S e a' S', rec (.code c a) S = .ok (.exit e a', S') → codeOk c = true → a'.rnd = a.rnd ∧ a'.n = a.n ∧ ∀ r w act ro, RelW r S w → RelA r a act → RelR r a.rnd ro →
    c.wpIn (fence ro) 0 E.P (fun ex ac w1 => ex = e ∧ ∃ r', Ext r S w r' S' w1 ∧ RelA r' a' ac) act w
  call : ∀ f args S v S', rec (.call f args) S = .ok (.ret v, S') → ∀ r w xs, RelW r S w → RelL r args xs →
    CallsIn Fence.wide 0 E.P f xs.toArray w (fun e w1 => ∃ x r', e = .returned x ∧ Ext r S w r' S' w1 ∧ RelV r' v x)
  loop : ∃ m, ∀ c a S e a' S', rec (.code (.loop c) a) S = .ok (.exit e a', S') → codeOk c = true → ∀ r w act ro, RelW r S w → RelA r a act → RelR r a.rnd ro →
    Code.roundsIn (fence ro) 0 E.P c (fun ex ac w1 => ex = e ∧ ∃ r', Ext r S w r' S' w1 ∧ RelA r' a' ac) m act w
  noRet : ∀ c a S v S', rec (.code c a) S ≠ .ok (.ret v, S')
  noExit : ∀ f args S e a S', rec (.call f args) S ≠ .ok (.exit e a, S')

/-- What a function with a known contract does. -/
def Meets (P : Program) (f : FuncId) (g : List AV → Option AV) : Prop :=
  ∀ (w : World) (args : List AV) (xs : List Value) (t : AV), args.length = xs.length → (∀ (i : Nat) (v : AV) (x : Value), args[i]? = some v → xs[i]? = some x → Reads w 0 v x) → g args = some t →
    Calls P f xs.toArray w fun e w' => ∃ x, e = .returned x ∧ Reads w' w.heap.size t x ∧ Below w.heap.size w w'

/-- All contracts are met, and all bodies are in order. -/
structure EnvGood (E : Env) : Prop where
  ok : EnvOk E
  orc : ∀ f g, E.orc f = some g → Meets E.P f g
  body : ∀ f fn c, E.fn f = some fn → fn.body = some c → codeOk c = true
  mixed : E.P.follows .mixedOrders = true

end Go.Am
