/- The abstract machine's environment: search trees of types and functions, and what is asked of them. -/
import Derived.Test.YthckcbfijdambaaAm2
namespace Go.Am

inductive BT (α : Type) where
  | leaf : BT α
  | node (k : Nat) (v : α) (l r : BT α) : BT α

def BT.get {α : Type} : BT α → Nat → Option α
  | .leaf, _ => none
  | .node k v l r, n => bif Nat.beq n k then some v else bif Nat.blt n k then l.get n else r.get n

def BT.All {α : Type} (p : Nat → α → Prop) : BT α → Prop
  | .leaf => True
  | .node k v l r => p k v ∧ l.All p ∧ r.All p

def BT.all {α : Type} (p : α → Bool) : BT α → Bool
  | .leaf => true
  | .node _ v l r => p v && l.all p && r.all p

theorem BT.All.get {α : Type} {p : Nat → α → Prop} : ∀ {t : BT α}, t.All p → ∀ {n : Nat} {v : α}, t.get n = some v → p n v
  | .leaf, _, _, _, h => by simp [BT.get] at h
  | .node k x l r, ⟨h0, hl, hr⟩, n, v, h => by
    simp only [BT.get] at h
    cases h1 : Nat.beq n k with
    | true =>
      have e := Nat.eq_of_beq_eq_true h1
      simp only [h1, cond_true, Option.some.injEq] at h
      subst h
      exact e ▸ h0
    | false =>
      simp only [h1, cond_false] at h
      cases h2 : Nat.blt n k with
      | true => simp only [h2, cond_true] at h; exact BT.All.get hl h
      | false => simp only [h2, cond_false] at h; exact BT.All.get hr h

theorem BT.all.get {α : Type} {p : α → Bool} : ∀ {t : BT α}, t.all p = true → ∀ {n : Nat} {v : α}, t.get n = some v → p v = true
  | .leaf, _, _, _, h => by simp [BT.get] at h
  | .node k x l r, ha, n, v, h => by
    simp only [BT.all, Bool.and_eq_true] at ha
    obtain ⟨⟨h0, hl⟩, hr⟩ := ha
    simp only [BT.get] at h
    cases h1 : Nat.beq n k with
    | true =>
      simp only [h1, cond_true, Option.some.injEq] at h
      exact h ▸ h0
    | false =>
      simp only [h1, cond_false] at h
      cases h2 : Nat.blt n k with
      | true => simp only [h2, cond_true] at h; exact BT.all.get hl h
      | false => simp only [h2, cond_false] at h; exact BT.all.get hr h

def TypeOk (P : Program) (k : Nat) (t : TypeInfo × TypeInfo) : Prop :=
  (∀ w, (underlying k).run P w = .ok t.2.desc w) ∧ (∀ w, (typeInfo k).run P w = .ok t.1 w)

def FuncOk (P : Program) (k : Nat) (fn : Func) : Prop :=
  P.funcs[k]? = some fn ∧ ∀ (args : Array Value) (w : World), (callFunc k args).run P w = .ok (.enter k args) w

def envOf (P : Program) (orc : Nat → Option (List AV → Option AV)) (types : BT (TypeInfo × TypeInfo)) (funcs : BT Func) : Env :=
  { P := P, orc := orc, und := fun t => (types.get t).map (·.2.desc), siz := fun t => (types.get t).map (·.1.size), byt := fun t => (types.get t).map (·.1.bytes),
    zro := fun t => (types.get t).bind (·.1.zero), fn := funcs.get }

/-- What is asked of the tables (the contracts are asked for apart). -/
structure EnvOk (E : Env) : Prop where
  und : ∀ t d, E.und t = some d → ∀ w, (underlying t).run E.P w = .ok d w
  info : ∀ t n, E.siz t = some n → ∃ i, (∀ w, (typeInfo t).run E.P w = .ok i w) ∧ i.size = n
  byt : ∀ t n, E.byt t = some n → ∃ i, (∀ w, (typeInfo t).run E.P w = .ok i w) ∧ i.bytes = n
  zro : ∀ t z, E.zro t = some z → ∃ i, (∀ w, (typeInfo t).run E.P w = .ok i w) ∧ i.zero = some z
  fn : ∀ f d, E.fn f = some d → E.P.funcs[f]? = some d ∧ ∀ (args : Array Value) (w : World), (callFunc f args).run E.P w = .ok (.enter f args) w

theorem envOk_of {P : Program} {orc : Nat → Option (List AV → Option AV)} {types : BT (TypeInfo × TypeInfo)} {funcs : BT Func} (ht : types.All (TypeOk P))
    (hf : funcs.All (FuncOk P)) : EnvOk (envOf P orc types funcs) := by
  refine ⟨?_, ?_, ?_, ?_, ?_⟩
  · intro t d h w
    simp only [envOf, Option.map_eq_some_iff] at h
    obtain ⟨x, hx, rfl⟩ := h
    exact (BT.All.get ht hx).1 w
  · intro t n h
    simp only [envOf, Option.map_eq_some_iff] at h
    obtain ⟨x, hx, rfl⟩ := h
    exact ⟨x.1, (BT.All.get ht hx).2, rfl⟩
  · intro t n h
    simp only [envOf, Option.map_eq_some_iff] at h
    obtain ⟨x, hx, rfl⟩ := h
    exact ⟨x.1, (BT.All.get ht hx).2, rfl⟩
  · intro t z h
    simp only [envOf, Option.bind_eq_some_iff] at h
    obtain ⟨x, hx, hz'⟩ := h
    exact ⟨x.1, (BT.All.get ht hx).2, hz'⟩
  · intro f d h
    exact BT.All.get hf h

end Go.Am
