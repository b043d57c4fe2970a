/- Soundness: regions that draw their order, whatever order is drawn. -/
import Derived.Test.YthckcbfijdambaaAmG
import Derived.Test.YthckcbfijdambaaAm21
namespace Go.Am
open Go.RowKit

section
variable {E : Env} {rec : Task → St → RR}

/-- What is known of a region that draws its order and was run in the order of the two passes: place p holds operation s p. -/
structure Drawn (rec : Task → St → RR) (E : Env) (ops : Array Oper) (s : Nat → Nat) (A : Nat → AAct) (T : Nat → St) (V : Nat → AV) (m : Nat) : Prop where
  steps : Steps_ rec E ops s A T V 0 ops.size
  le : m ≤ ops.size
  first : ∀ p, p < m → kindAt ops (s p) (A p) ≠ 2
  seen : ∀ p, p < m → kindAt ops (s p) (A p) = 1 → agrees E ops (T m) (s p, A p, V p) = true
  early : ∀ p, m ≤ p → p < ops.size → kindAt ops (s p) (A p) = 1 → ∀ g, m ≤ g → g < p → 2 ≤ kindAt ops (s g) (A g) →
    bitOf (CheckFast.beforeL ops.toList 0 []) (s p) (s g) = true ∨ agrees E ops (T g) (s p, A p, V p) = true
  late : ∀ g, m ≤ g → g < ops.size → 2 ≤ kindAt ops (s g) (A g) → ∀ p, p < g → kindAt ops (s p) (A p) = 1 →
    bitOf (CheckFast.beforeL ops.toList 0 []) (s g) (s p) = true ∨ agrees E ops (T (g + 1)) (s p, A p, V p) = true
  float : ∀ p, p < m → kindAt ops (s p) (A p) = 3 → ∃ ob, (T (p + 1)).heap.get (T p).next = some ob ∧ ∀ g, m ≤ g → g < ops.size → 2 ≤ kindAt ops (s g) (A g) →
    bitOf (CheckFast.beforeL ops.toList 0 []) (s g) (s p) = true ∨ (T (g + 1)).heap.get (T p).next = some ob
  front : ∀ (j : Nat) (o : Oper), ops[j]? = some o → ∀ e ∈ o.after, Region.binds .any e = true → e.on < j
  apart : ∀ (p q : Nat) (x y : Oper), p < q → q < ops.size → ops[s p]? = some x → ops[s q]? = some y → clash ops x y = true → bitOf (CheckFast.beforeL ops.toList 0 []) (s q) (s p) = true
  strong : ∀ (p q : Nat) (x y : Oper), m ≤ p → p < q → q < ops.size → ops[s p]? = some x → ops[s q]? = some y → 2 ≤ kindOf x → 2 ≤ kindOf y → bitOf (CheckFast.beforeL ops.toList 0 []) (s q) (s p) = true
  inj : ∀ p q, p < ops.size → q < ops.size → s p = s q → p = q
  surj : ∀ i, i < ops.size → ∃ p, p < ops.size ∧ s p = i

theorem clash_dst {ops : Array Oper} {x y : Oper} {t : Tmp} (h1 : x.dst = some t) (h2 : t ∈ slotsOf ops y) : clash ops x y = true := by
  unfold clash
  rw [h1]
  simp [h2]

theorem clash_dst' {ops : Array Oper} {x y : Oper} {t : Tmp} (h1 : y.dst = some t) (h2 : t ∈ slotsOf ops x) : clash ops x y = true := by
  unfold clash
  rw [h1]
  simp [h2]

theorem kindOf_le (o : Oper) : kindOf o ≤ 3 := by
  unfold kindOf
  split <;> first | omega | (split <;> omega)

theorem blt_eq (i n : Nat) : Nat.blt i n = decide (i < n) := by
  by_cases h : i < n
  · rw [blt_true.2 h]; simp [h]
  · have : Nat.blt i n = false := by
      cases hb : Nat.blt i n with
      | false => rfl
      | true => exact absurd (blt_true.1 hb) h
    rw [this]; simp [h]

theorem kindAt_le (ops : Array Oper) (i : Nat) (a : AAct) : kindAt ops i a ≤ 3 := by
  unfold kindAt
  cases ops[i]? with
  | none => simp
  | some o =>
    have := kindOf_le o
    cases hw : Region.wanted o (yieldedA ops a) <;> simp only [hw, cond_true, cond_false] <;> omega

theorem kindAt_some {ops : Array Oper} {i : Nat} {a : AAct} (h : kindAt ops i a ≠ 0) : ∃ o, ops[i]? = some o ∧ kindOf o = kindAt ops i a ∧ Region.wanted o (yieldedA ops a) = true := by
  unfold kindAt at h ⊢
  cases ho : ops[i]? with
  | none => rw [ho] at h; simp at h
  | some o =>
    rw [ho] at h
    refine ⟨o, rfl, ?_⟩
    cases hw : Region.wanted o (yieldedA ops a) with
    | true => simp [hw]
    | false => simp [hw] at h

theorem aop_new {E : Env} {S S' : St} {ev : Operand → AV} {o : Oper} {nx : ANext} (hk : kindOf o = 3) (h : aop E S ev o = .ok (nx, S')) : ∃ v ob, nx = .val v ∧ S' = S.new ob := by
  unfold aop at h
  split at h
  all_goals (rename_i ho; simp only [kindOf, ho] at hk; try omega)
  all_goals (try (split at hk <;> omega))
  · obtain ⟨v, h1, rfl⟩ := newOf_ok h
    obtain ⟨z, k1, k2⟩ := bind_ok h1
    obtain ⟨u, k3, k4⟩ := bind_ok k2
    cases k4
    exact ⟨_, _, rfl, rfl⟩
  · obtain ⟨v, h1, rfl⟩ := newOf_ok h
    obtain ⟨u, k3, k4⟩ := bind_ok h1
    cases k4
    exact ⟨_, _, rfl, rfl⟩
  · rename_i t0 len0 parts0
    obtain ⟨v, h1, rfl⟩ := newOf_ok h
    obtain ⟨d, k1, k2⟩ := bind_ok h1
    split at k2
    · obtain ⟨sz, k3, k4⟩ := bind_ok k2
      cases hb : Nat.blt (2 ^ 24) (len0 * sz) with
      | true => simp only [hb, cond_true] at k4; cases k4
      | false =>
        simp only [hb, cond_false] at k4
        obtain ⟨zs, k5, k6⟩ := bind_ok k4
        obtain ⟨cs, k7, k8⟩ := bind_ok k6
        cases k8
        exact ⟨_, _, rfl, rfl⟩
    · cases k2

theorem opVal_new {ops : Array Oper} {i : Nat} {a : AAct} {S S1 : St} {v : AV} (h : opVal rec E ops i a S = .ok (v, S1)) (hk : kindAt ops i a = 3) : ∃ ob, S1 = S.new ob := by
  obtain ⟨o, ho, k1, k2⟩ := kindAt_some (by omega : kindAt ops i a ≠ 0)
  unfold opVal at h
  rw [ho] at h
  simp only [k2, cond_true] at h
  cases hop : aop E S a.ev o with
  | error m => rw [hop] at h; cases h
  | ok x =>
    obtain ⟨nx, S2⟩ := x
    obtain ⟨v', ob, rfl, rfl⟩ := aop_new (by omega) hop
    rw [hop] at h
    cases h
    exact ⟨ob, rfl⟩

theorem opVal_light {ops : Array Oper} {i : Nat} {a : AAct} {S S1 : St} {v : AV} (h : opVal rec E ops i a S = .ok (v, S1)) (hk : kindAt ops i a < 2) : S1 = S := by
  unfold opVal at h
  unfold kindAt at hk
  cases ho : ops[i]? with
  | none => rw [ho] at h; cases h
  | some o =>
    rw [ho] at h hk
    cases hw : Region.wanted o (yieldedA ops a) with
    | false => simp only [hw, cond_false] at h; cases h; rfl
    | true =>
      simp only [hw, cond_true] at h hk
      cases hop : aop E S a.ev o with
      | error m => rw [hop] at h; cases h
      | ok x =>
        obtain ⟨nx, S2⟩ := x
        obtain ⟨rfl, v', rfl⟩ := aop_light hk hop
        rw [hop] at h
        cases h
        rfl

/-- An operation looks at its slots alone. -/
theorem opVal_congr {ops : Array Oper} {i : Nat} {a b : AAct} {S : St} {o : Oper} (ho : ops[i]? = some o) (h : ∀ t ∈ o.looksAt ops, a.get t = b.get t) :
    opVal rec E ops i a S = opVal rec E ops i b S ∧ kindAt ops i a = kindAt ops i b ∧ aop E S a.ev o = aop E S b.ev o := by
  have h1 : Region.wanted o (yieldedA ops a) = Region.wanted o (yieldedA ops b) := by
    unfold Region.wanted
    cases hg : o.guard with
    | none => rfl
    | some gw =>
      obtain ⟨g, want⟩ := gw
      have hy : yieldedA ops a g = yieldedA ops b g := by
        unfold yieldedA
        cases ht : (ops[g]?).bind (·.dst) with
        | none => rfl
        | some t =>
          simp only
          rw [h t (by simp [Oper.looksAt, hg, ht])]
      simp only [hy]
  have h2 : ∀ S, aop E S a.ev o = aop E S b.ev o := fun S => aop_congr fun x hx => by
    cases x with
    | tmp t => exact h t (List.mem_append_left _ (List.mem_filterMap.2 ⟨.tmp t, by simpa using hx, rfl⟩))
    | _ => rfl
  refine ⟨?_, ?_, h2 S⟩
  · unfold opVal
    rw [ho]
    simp only [h1, h2]
  · unfold kindAt
    rw [ho]
    simp only [h1]


variable {ops : Array Oper} {s : Nat → Nat} {A : Nat → AAct} {T : Nat → St} {V : Nat → AV} {m : Nat} (hD : Drawn rec E ops s A T V m)
include hD

theorem Drawn.same {k n : Nat} (hk : m ≤ k) (hkm : k ≤ n) (hm : n ≤ ops.size) (h : ∀ i, k ≤ i → i < n → ¬ 2 ≤ kindAt ops (s i) (A i)) : T n = T k := by
  induction n with
  | zero => have : k = 0 := by omega
            rw [this]
  | succ n ih =>
    rcases Nat.lt_or_eq_of_le hkm with hlt | rfl
    · have h1 := h n (by omega) (by omega)
      have := opVal_light (hD.steps.val n (by omega) (by omega)) (by omega)
      rw [this]
      exact ih (by omega) (by omega) fun i q1 q2 => h i q1 (by omega)
    · rfl

/-- The first pass makes memory, and changes none. -/
theorem Drawn.grow {k n : Nat} (hkm : k ≤ n) (hm : n ≤ m) : (T k).next ≤ (T n).next ∧ (T n).low = (T k).low ∧ ∀ id, id < (T k).next → (T n).heap.get id = (T k).heap.get id := by
  have hle := hD.le
  induction n with
  | zero => have : k = 0 := by omega
            subst this; exact ⟨Nat.le_refl _, rfl, fun _ _ => rfl⟩
  | succ n ih =>
    rcases Nat.lt_or_eq_of_le hkm with hlt | rfl
    · obtain ⟨i1, i2, i3⟩ := ih (by omega) (by omega)
      have hv := hD.steps.val n (by omega) (by omega)
      by_cases hk : kindAt ops (s n) (A n) < 2
      · rw [opVal_light hv hk]; exact ⟨i1, i2, i3⟩
      · have h3 : kindAt ops (s n) (A n) = 3 := by
          have := kindAt_le ops (s n) (A n)
          have := hD.first n (by omega)
          omega
        obtain ⟨ob, e⟩ := opVal_new hv h3
        rw [e]
        refine ⟨by simp [St.new]; omega, by simp [St.new, i2], fun id hid => ?_⟩
        rw [St.new_get, if_neg (by omega)]
        exact i3 id hid
    · exact ⟨Nat.le_refl _, rfl, fun _ _ => rfl⟩

theorem Drawn.fresh {p : Nat} (hp : p < m) (h3 : kindAt ops (s p) (A p) = 3) : (T p).next < (T (p + 1)).next := by
  have hle := hD.le
  obtain ⟨ob, e⟩ := opVal_new (hD.steps.val p (by omega) (by omega)) h3
  rw [e]
  simp [St.new]

theorem Drawn.apart_ids {p q : Nat} (hp : p < m) (hq : q < m) (h3 : kindAt ops (s p) (A p) = 3) (h4 : kindAt ops (s q) (A q) = 3) (hne : p ≠ q) : (T p).next ≠ (T q).next := by
  rcases Nat.lt_or_ge p q with h | h
  · have := hD.fresh hp h3
    have := (hD.grow (show p + 1 ≤ q by omega) (by omega)).1
    omega
  · have := hD.fresh hq h4
    have := (hD.grow (show q + 1 ≤ p by omega) (by omega)).1
    omega

theorem Drawn.slots {n : Nat} (hn : n ≤ ops.size) (t : Tmp) : (A n).get t = slotV (fun p => dstAt ops (s p)) V (A 0) (fun i => Nat.blt i n) ops.size t := by
  induction n with
  | zero =>
    have : ∀ k, lastW (fun p => dstAt ops (s p)) (fun i => Nat.blt i 0) t k = none := by
      intro k
      induction k with
      | zero => rfl
      | succ k ih => rw [lastW, if_neg (fun c => by simp [blt_eq] at c), ih]
    simp [slotV, this]
  | succ n ih =>
    have hp := put_ok (hD.steps.put n (by omega) (by omega))
    rw [hp.2.2.2.1]
    have := lastW_add (d := fun p => dstAt ops (s p)) (t := t) (p := fun i => Nat.blt i n) (q := fun i => Nat.blt i (n + 1)) (j := n) (by simp [blt_eq]) (by simp [blt_eq])
      (fun i hi => by simp [blt_eq]; omega) (fun _ i hi _ => blt_true.1 hi) ops.size
    unfold slotV
    rw [this]
    by_cases hd : dstAt ops (s n) = some t
    · rw [if_pos hd, if_pos ⟨by omega, hd⟩]
    · rw [if_neg hd, if_neg (fun c => hd c.2)]
      exact ih (by omega)

omit hD in
theorem closed_of {ops : Array Oper} (hfront : ∀ (j : Nat) (o : Oper), ops[j]? = some o → ∀ e ∈ o.after, Region.binds .any e = true → e.on < j) {j k : Nat} (hj : j < ops.size) (h : bitOf (CheckFast.beforeL ops.toList 0 []) j k = true) :
    ∃ o, ops[j]? = some o ∧ ∃ e ∈ o.after, Region.binds .any e = true ∧ e.on < j ∧ (k = e.on ∨ bitOf (CheckFast.beforeL ops.toList 0 []) e.on k = true) := by
  have ho : ops[j]? = some ops[j] := Array.getElem?_eq_getElem hj
  obtain ⟨e, h1, h2, h3⟩ := bit_spec ho (fun e he => hfront _ _ ho e he) h
  exact ⟨_, ho, e, h1, h2, hfront _ _ ho e h1 h2, h3⟩

/-- The order drawn so far. -/
structure SoFar (ops : Array Oper) (s : Nat → Nat) (A : Nat → AAct) (T : Nat → St) (V : Nat → AV) (m : Nat) (r0 : Ren) (w0 : World) (listed : Array Bool) (act : Act) (w : World) (q : Nat) (r : Ren) (aD : AAct) : Prop where
  size : listed.size = ops.size
  closed : ∀ i k, i < ops.size → listed.getD i false = true → bitOf (CheckFast.beforeL ops.toList 0 []) i k = true → listed.getD k false = true
  ge : m ≤ q
  le : q ≤ ops.size
  done : ∀ p, m ≤ p → p < q → 2 ≤ kindAt ops (s p) (A p) → listed.getD (s p) false = true
  todo : ∀ p, q ≤ p → p < ops.size → 2 ≤ kindAt ops (s p) (A p) → listed.getD (s p) false = false
  float : ∀ p, p < m → kindAt ops (s p) (A p) = 3 → listed.getD (s p) false = false → (∀ v, r.row (T p).next v = none) ∧ ∃ ob, (T (p + 1)).heap.get (T p).next = some ob ∧ (T q).heap.get (T p).next = some ob
  up : (T m).next ≤ (T q).next ∧ (T q).low ≤ (T 0).low
  ext : Ext r0 (T 0) w0 r (T q) w
  rel : RelA r aD act
  frame : aD.n = (A 0).n ∧ aD.marks = (A 0).marks ∧ aD.rnd = (A 0).rnd
  slots : ∀ t, aD.get t = slotV (fun p => dstAt ops (s p)) V (A 0) (fun p => listed.getD (s p) false) ops.size t

variable {r0 : Ren} {w0 : World} {listed : Array Bool} {act : Act} {w : World} {q : Nat} {r : Ren} {aD : AAct} {p : Nat} {o : Oper}

/-- An operation that may come up finds its slots as in the order of the two passes. -/
theorem SoFar.looks (hS : SoFar ops s A T V m r0 w0 listed act w q r aD) (hpn : p < ops.size) (ho : ops[s p]? = some o) (hj : listed.getD (s p) false = false)
    (hb : ∀ k, bitOf (CheckFast.beforeL ops.toList 0 []) (s p) k = true → listed.getD k false = true) {t : Tmp} (ht : t ∈ slotsOf ops o) :
    ∀ i, i < ops.size → dstAt ops (s i) = some t → (listed.getD (s i) false = Nat.blt i p) := by
  intro i hi hd
  obtain ⟨x, hx, hd'⟩ : ∃ x, ops[s i]? = some x ∧ x.dst = some t := by
    unfold dstAt at hd
    cases hx : ops[s i]? with
    | none => rw [hx] at hd; cases hd
    | some x => rw [hx] at hd; exact ⟨x, rfl, hd⟩
  rcases Nat.lt_trichotomy i p with h | h | h
  · rw [hb _ (hD.apart i p _ _ h hpn hx ho (clash_dst hd' ht))]
    exact (blt_true.2 h).symm
  · subst h
    rw [hj]
    simp [blt_eq]
  · have h1 := hD.apart p i _ _ h hi ho hx (clash_dst' hd' ht)
    have : Nat.blt i p = false := by
      cases hb : Nat.blt i p with
      | false => rfl
      | true => have := blt_true.1 hb; omega
    rw [this]
    cases hl : listed.getD (s i) false with
    | false => rfl
    | true =>
      have := hS.closed (s i) (s p) (Array.getElem?_eq_some_iff.1 hx).1 hl h1
      rw [hj] at this
      cases this

theorem SoFar.same_slots (hS : SoFar ops s A T V m r0 w0 listed act w q r aD) (hpn : p < ops.size) (ho : ops[s p]? = some o) (hj : listed.getD (s p) false = false)
    (hb : ∀ k, bitOf (CheckFast.beforeL ops.toList 0 []) (s p) k = true → listed.getD k false = true) : ∀ t ∈ o.looksAt ops, aD.get t = (A p).get t := by
  intro t ht
  rw [hS.slots, hD.slots (by omega)]
  unfold slotV
  rw [lastW_congr ops.size (hS.looks hD hpn ho hj hb (List.mem_append_right _ ht))]

theorem SoFar.value (hS : SoFar ops s A T V m r0 w0 listed act w q r aD) (hpn : p < ops.size) (ho : ops[s p]? = some o) (hj : listed.getD (s p) false = false)
    (hb : ∀ k, bitOf (CheckFast.beforeL ops.toList 0 []) (s p) k = true → listed.getD k false = true) (hnf : ¬ (p < m ∧ kindAt ops (s p) (A p) = 3)) :
    ∃ q', opVal rec E ops (s p) aD (T q) = .ok (V p, T q') ∧ m ≤ q' ∧ q' ≤ ops.size ∧ (∀ i, m ≤ i → i < q' → 2 ≤ kindAt ops (s i) (A i) → (listed.setIfInBounds (s p) true).getD (s i) false = true) ∧
      (∀ i, q' ≤ i → i < ops.size → 2 ≤ kindAt ops (s i) (A i) → (listed.setIfInBounds (s p) true).getD (s i) false = false) ∧
      (∀ i, i < m → kindAt ops (s i) (A i) = 3 → listed.getD (s i) false = false → ∃ ob, (T (i + 1)).heap.get (T i).next = some ob ∧ (T q').heap.get (T i).next = some ob) := by
  have hjn : s p < ops.size := (Array.getElem?_eq_some_iff.1 ho).1
  have hle := hS.le
  have hge := hS.ge
  have hdm := hD.le
  have hlook := hS.same_slots hD hpn ho hj hb
  have hself : (listed.setIfInBounds (s p) true).getD (s p) false = true := by
    have : s p < listed.size := hS.size ▸ hjn
    simp [this]
  have hother : ∀ i, i < ops.size → p ≠ i → (listed.setIfInBounds (s p) true).getD (s i) false = listed.getD (s i) false := fun i hi hpi => getD_set_ne false (fun e => hpi (hD.inj _ _ hpn hi e))
  have hval := hD.steps.val p (by omega) hpn
  obtain ⟨c1, c2, c3⟩ := opVal_congr (rec := rec) (E := E) (S := T q) ho hlook
  rw [c1]
  by_cases hk : 2 ≤ kindAt ops (s p) (A p)
  · have hpm : m ≤ p := by
      rcases Nat.lt_or_ge p m with h | h
      · exfalso
        have := hD.first p h
        have := kindAt_le ops (s p) (A p)
        exact hnf ⟨h, by omega⟩
      · exact h
    have hqj : q ≤ p := by
      rcases Nat.lt_or_ge p q with h | h
      · have := hS.done p hpm h hk
        rw [hj] at this
        cases this
      · exact h
    have hno : ∀ i, q ≤ i → i < p → ¬ 2 ≤ kindAt ops (s i) (A i) := by
      intro i h1 h2 h3
      obtain ⟨x, hx, kx, _⟩ := kindAt_some (show kindAt ops (s i) (A i) ≠ 0 by omega)
      obtain ⟨y, hy, ky, _⟩ := kindAt_some (show kindAt ops (s p) (A p) ≠ 0 by omega)
      have := hb _ (hD.strong i p _ _ (by omega) h2 hpn hx hy (by omega) (by omega))
      rw [hS.todo i h1 (by omega) h3] at this
      cases this
    refine ⟨p + 1, ?_, by omega, by omega, fun i h0 h1 h2 => ?_, fun i h1 h2 h3 => ?_, fun i h1 h2 h3 => ?_⟩
    · rw [← hD.same hge hqj (by omega) hno]
      exact hval
    · by_cases hij : p = i
      · subst hij; exact hself
      · rw [hother i (by omega) hij]
        rcases Nat.lt_or_ge i q with h | h
        · exact hS.done i h0 h h2
        · exact absurd h2 (hno i h (by omega))
    · rw [hother i h2 (by omega)]
      exact hS.todo i (by omega) h2 h3
    · obtain ⟨ob, k1, k2⟩ := hD.float i h1 h2
      refine ⟨ob, k1, (k2 p hpm hpn hk).resolve_left fun hbit => ?_⟩
      have := hb _ hbit
      rw [h3] at this
      cases this
  · refine ⟨q, ?_, hge, hle, fun i h0 h1 h2 => ?_, fun i h1 h2 h3 => ?_, fun i h1 h2 h3 => (hS.float i h1 h2 h3).2⟩
    · have hT : T (p + 1) = T p := opVal_light hval (by omega)
      rw [hT] at hval
      by_cases hz : kindAt ops (s p) (A p) = 0
      · unfold opVal at hval ⊢
        rw [ho] at hval ⊢
        cases hw : Region.wanted o (yieldedA ops (A p)) with
        | false => simp only [hw, cond_false, Except.ok.injEq, Prod.mk.injEq] at hval ⊢; exact ⟨hval.1, trivial⟩
        | true =>
          simp only [hw, cond_true] at hval ⊢
          have hk0 : kindOf o = 0 := by simpa [kindAt, ho, hw] using hz
          cases hop : aop E (T p) (A p).ev o with
          | error m => rw [hop] at hval; cases hval
          | ok x =>
            obtain ⟨nx, S2⟩ := x
            rw [aop_inert (S2 := T q) hk0 hop]
            obtain ⟨rfl, v', rfl⟩ := aop_light (by omega) hop
            rw [hop] at hval
            simp only [Except.ok.injEq, Prod.mk.injEq] at hval ⊢
            exact ⟨hval.1, trivial⟩
      · have h1 : kindAt ops (s p) (A p) = 1 := by omega
        obtain ⟨o', ho', kk, hw⟩ := kindAt_some hz
        rw [ho] at ho'
        cases ho'
        have hk1 : kindOf o = 1 := by omega
        -- it reads the same wherever
        have key : (m ≤ p ∧ T q = T p) ∨ agrees E ops (T q) (s p, A p, V p) = true := by
          have later : ∀ g, m ≤ g → p < g → g < q → 2 ≤ kindAt ops (s g) (A g) → agrees E ops (T (g + 1)) (s p, A p, V p) = true := by
            intro g g0 g1 g2 g3
            refine (hD.late g g0 (by omega) g3 p g1 h1).resolve_left fun hbit => ?_
            have hg : s g < ops.size := by
              obtain ⟨x, hx, _⟩ := kindAt_some (show kindAt ops (s g) (A g) ≠ 0 by omega)
              exact (Array.getElem?_eq_some_iff.1 hx).1
            have := hS.closed (s g) (s p) hg (hS.done g g0 g2 g3) hbit
            rw [hj] at this
            cases this
          rcases Nat.lt_or_ge p m with hpm | hpm
          · right
            rcases last_or_none (fun i => 2 ≤ kindAt ops (s i) (A i)) (q - m) m with hn | ⟨g, g1, g2, g3, g4⟩
            · rw [hD.same (Nat.le_refl _) hge hle (fun i a b => hn i a (by omega))]
              exact hD.seen p hpm h1
            · rw [hD.same (show m ≤ g + 1 by omega) (show g + 1 ≤ q by omega) hle fun i a b => g4 i (by omega) (by omega)]
              exact later g g1 (by omega) (by omega) g3
          · rcases Nat.lt_or_ge p q with hq | hq
            · rcases last_or_none (fun i => 2 ≤ kindAt ops (s i) (A i)) (q - (p + 1)) (p + 1) with hn | ⟨g, g1, g2, g3, g4⟩
              · left
                refine ⟨hpm, ?_⟩
                rw [hD.same (k := p + 1) (n := q) (by omega) (by omega) hle (fun i a b => hn i a (by omega)), hT]
              · right
                rw [hD.same (show m ≤ g + 1 by omega) (show g + 1 ≤ q by omega) hle fun i a b => g4 i (by omega) (by omega)]
                exact later g (by omega) (by omega) (by omega) g3
            · rcases first_or_none (fun i => 2 ≤ kindAt ops (s i) (A i)) (p - q) q with hn | ⟨g, g1, g2, g3, g4⟩
              · left
                exact ⟨hpm, (hD.same hge hq (by omega) (fun i a b => hn i a (by omega))).symm⟩
              · right
                rw [← hD.same hge g1 (by omega) g4]
                refine (hD.early p hpm hpn h1 g (by omega) (by omega) g3).resolve_left fun hbit => ?_
                have := hb _ hbit
                rw [hS.todo g g1 (by omega) g3] at this
                cases this
        rcases key with ⟨_, key⟩ | key
        · rw [key]; exact hval
        · unfold agrees at key
          simp only [ho] at key
          unfold opVal
          rw [ho]
          simp only [hw, cond_true]
          cases hop : aop E (T q) (A p).ev o with
          | error m => rw [hop] at key; cases key
          | ok x =>
            obtain ⟨nx, S2⟩ := x
            obtain ⟨rfl, v', rfl⟩ := aop_light (by omega) hop
            rw [hop] at key
            rw [sameA_eq _ _ _ key]
    · by_cases hij : p = i
      · subst hij; exact absurd h2 hk
      · rw [hother i (by omega) hij]; exact hS.done i h0 h1 h2
    · by_cases hij : p = i
      · subst hij; exact absurd h3 hk
      · rw [hother i h2 hij]; exact hS.todo i h1 h2 h3

/-- One more is drawn. -/
theorem SoFar.next (hS : SoFar ops s A T V m r0 w0 listed act w q r aD) (hpn : p < ops.size) (ho : ops[s p]? = some o) (hj : listed.getD (s p) false = false)
    (hb : ∀ k, bitOf (CheckFast.beforeL ops.toList 0 []) (s p) k = true → listed.getD k false = true) {q' : Nat} {r1 : Ren} {w1 : World} {x : Value}
    (hq1 : m ≤ q') (hq2 : q' ≤ ops.size) (h3 : ∀ i, m ≤ i → i < q' → 2 ≤ kindAt ops (s i) (A i) → (listed.setIfInBounds (s p) true).getD (s i) false = true)
    (h4 : ∀ i, q' ≤ i → i < ops.size → 2 ≤ kindAt ops (s i) (A i) → (listed.setIfInBounds (s p) true).getD (s i) false = false)
    (h5 : ∀ i, i < m → kindAt ops (s i) (A i) = 3 → (listed.setIfInBounds (s p) true).getD (s i) false = false → (∀ v, r1.row (T i).next v = none) ∧ ∃ ob, (T (i + 1)).heap.get (T i).next = some ob ∧ (T q').heap.get (T i).next = some ob)
    (hup : (T m).next ≤ (T q').next ∧ (T q').low ≤ (T 0).low) (hx : Ext r0 (T 0) w0 r1 (T q') w1) (hr : r.le r1) (hv : RelV r1 (V p) x) :
    ∃ aD', SoFar ops s A T V m r0 w0 (listed.setIfInBounds (s p) true) (act.put (dstAt ops (s p)) x) w1 q' r1 aD' := by
  have hjn : s p < ops.size := (Array.getElem?_eq_some_iff.1 ho).1
  have hput := put_ok (hD.steps.put p (by omega) hpn)
  obtain ⟨aD', hp⟩ : ∃ aD', aD.put (dstAt ops (s p)) (V p) = .ok aD' := by
    have hn : (A p).n = aD.n := by
      have : ∀ k, k ≤ ops.size → (A k).n = (A 0).n := by
        intro k
        induction k with
        | zero => intro _; rfl
        | succ k ih => intro hm; rw [(put_ok (hD.steps.put k (by omega) (by omega))).1]; exact ih (by omega)
      rw [this p (by omega), hS.frame.1]
    cases hd : dstAt ops (s p) with
    | none => exact ⟨aD, rfl⟩
    | some d =>
      have := hput.2.2.2.2 d hd
      rw [hn] at this
      have hblt := blt_true.2 this
      refine ⟨{ n := aD.n, tmps := aD.tmps.set d (V p), marks := aD.marks, rnd := aD.rnd }, ?_⟩
      show (bif Nat.blt d aD.n then _ else _) = _
      rw [hblt]
      rfl
  have hp' := put_ok hp
  have hself : (listed.setIfInBounds (s p) true).getD (s p) false = true := by
    have : s p < listed.size := hS.size ▸ hjn
    simp [this]
  have hother : ∀ i, i ≠ s p → (listed.setIfInBounds (s p) true).getD i false = listed.getD i false := fun i hi => getD_set_ne false (Ne.symm hi)
  refine ⟨aD', by simp [hS.size], fun i k hi hl hbit => ?_, hq1, hq2, h3, h4, h5, hup, hx, (hS.rel.mono hr).put hp hv, ⟨hp'.1.trans hS.frame.1, hp'.2.1.trans hS.frame.2.1, hp'.2.2.1.trans hS.frame.2.2⟩, fun t => ?_⟩
  · refine getD_set_true ?_
    by_cases hij : i = s p
    · subst hij
      exact hb k hbit
    · rw [hother i hij] at hl
      exact hS.closed i k hi hl hbit
  · rw [hp'.2.2.2.1, hS.slots]
    have hd' : dstAt ops (s p) = some t → t ∈ slotsOf ops o := fun hd => by
      have : o.dst = some t := by simpa [dstAt, ho] using hd
      simp [slotsOf, this]
    -- places out of reach are of no account
    have e1 : lastW (fun p => dstAt ops (s p)) (fun k => (listed.setIfInBounds (s p) true).getD (s k) false) t ops.size =
        lastW (fun p => dstAt ops (s p)) (fun k => (listed.getD (s k) false && Nat.blt k ops.size) || decide (k = p)) t ops.size := lastW_congr ops.size fun i hi _ => by
      by_cases hip : i = p
      · subst hip; simp [hself]
      · rw [hother (s i) (fun e => hip (hD.inj _ _ hi hpn e))]
        simp [blt_eq, hi, hip]
    have e2 : lastW (fun p => dstAt ops (s p)) (fun k => listed.getD (s k) false) t ops.size =
        lastW (fun p => dstAt ops (s p)) (fun k => listed.getD (s k) false && Nat.blt k ops.size) t ops.size := lastW_congr ops.size fun i hi _ => by simp [blt_eq, hi]
    have := lastW_add (d := fun p => dstAt ops (s p)) (t := t) (p := fun k => listed.getD (s k) false && Nat.blt k ops.size) (q := fun k => (listed.getD (s k) false && Nat.blt k ops.size) || decide (k = p)) (j := p)
      (by simp only [hj, Bool.false_and]) (by simp) (fun i hi => by simp [hi])
      (fun hd i hi hdi => by
        simp only [Bool.and_eq_true] at hi
        have := hS.looks hD hpn ho hj hb (hd' hd) i (blt_true.1 hi.2) hdi
        rw [hi.1] at this
        exact blt_true.1 this.symm) ops.size
    unfold slotV
    rw [e1, this, e2]
    by_cases hd : dstAt ops (s p) = some t
    · rw [if_pos hd, if_pos ⟨hpn, hd⟩]
    · rw [if_neg hd, if_neg (fun c => hd c.2)]

theorem SoFar.step (hG : EnvGood E) (hR : Sound E rec) (hS : SoFar ops s A T V m r0 w0 listed act w q r aD) {Q : Exit → Act → World → Prop} {K : Act → World → Prop} (hpn : p < ops.size) (ho : ops[s p]? = some o) (hj : listed.getD (s p) false = false)
    (he : ∀ e ∈ o.after, Region.binds .any e = true → listed.getD e.on false = true) (hlow : (T 0).low ≤ (T 0).next) (ro : Option Nat)
    (hK : ∀ act' w' q' r' aD', SoFar ops s A T V m r0 w0 (listed.setIfInBounds (s p) true) act' w' q' r' aD' → K act' w') : wpOpIn (fence ro) 0 E.P ops Q (s p) K act w := by
  have hjn : s p < ops.size := (Array.getElem?_eq_some_iff.1 ho).1
  have hdm := hD.le
  have hb : ∀ k, bitOf (CheckFast.beforeL ops.toList 0 []) (s p) k = true → listed.getD k false = true := by
    intro k hk
    obtain ⟨o', ho', e, h1, h2', h2, h3⟩ := closed_of hD.front hjn hk
    rw [ho] at ho'
    cases ho'
    rcases h3 with rfl | h3
    · exact he e h1 h2'
    · exact hS.closed e.on k (by omega) (he e h1 h2') h3
  have hsub : ∀ i, (listed.setIfInBounds (s p) true).getD i false = false → listed.getD i false = false := fun i h => by
    cases hl : listed.getD i false with
    | false => rfl
    | true => rw [getD_set_true hl] at h; cases h
  have hself : (listed.setIfInBounds (s p) true).getD (s p) false = true := by
    have : s p < listed.size := hS.size ▸ hjn
    simp [this]
  by_cases hfl : p < m ∧ kindAt ops (s p) (A p) = 3
  · -- a new row of the first pass
    obtain ⟨hpm, h3⟩ := hfl
    have hlook := hS.same_slots hD hpn ho hj hb
    obtain ⟨c1, c2, c3⟩ := opVal_congr (rec := rec) (E := E) (S := T p) ho hlook
    have hval := hD.steps.val p (by omega) hpn
    obtain ⟨o', ho', kk, hw'⟩ := kindAt_some (show kindAt ops (s p) aD ≠ 0 by omega)
    rw [ho] at ho'
    cases ho'
    have hk3 : kindOf o = 3 := by omega
    rw [← c1] at hval
    unfold opVal at hval
    rw [ho] at hval
    simp only [hw', cond_true] at hval
    cases hop : aop E (T p) aD.ev o with
    | error m => rw [hop] at hval; cases hval
    | ok y =>
      obtain ⟨nx, S2⟩ := y
      obtain ⟨mk, ob, rfl, rfl, x, cs, xs, u, e, k1, k2, k3, k4⟩ := aop_float hG.ok (r := r) (w := w) (fun x => hS.rel.ev x) hk3 hop
      rw [hop] at hval
      simp only [Except.ok.injEq, Prod.mk.injEq] at hval
      obtain ⟨hnone, ob', f1, f2⟩ := hS.float p hpm h3 hj
      have : ob' = ob := by
        rw [← hval.2, St.new_get, if_pos rfl] at f1
        exact (Option.some.inj f1).symm
      subst this
      have g0 := hD.grow (Nat.zero_le p) (by omega)
      have g1 := hD.grow (show p + 1 ≤ m by omega) (Nat.le_refl _)
      have g2 := hD.fresh hpm h3
      have hup := hS.up
      have hxs : xs.size = cs.length := by have := k2.1; simpa using this.symm
      have hle : r.le (r.add (T p).next cs.length (w.heap.size, cs.length, u)) := Ren.add_le (.inl (hnone _))
      have hx := hS.ext.place (id := (T p).next) (.row cs u 0) (.cells xs e (0, 0)) cs.length cs.length u (by rw [← k1]; exact f2) hnone (by omega) (by omega) (by omega)
        ⟨rfl, Nat.le_refl _, fun _ => ⟨xs, e, by rw [World.alloc_get, if_pos rfl], hxs, Nat.le_refl _, fun i v x _ h1 h2 => (k2.2 i v x h1 (by simpa using h2)).mono hle⟩⟩
      have hdst : dstAt ops (s p) = o.dst := by simp [dstAt, ho]
      unfold wpOpIn
      simp only [ho]
      rw [← yielded_rel hS.rel ops, if_pos hw']
      refine ⟨fun _ _ => trivial, ?_⟩
      have hnd : ∀ c, o.op ≠ .defer c := by
        intro c hc
        simp only [aop, hc] at hop
        cases hop
      rw [Oper.semAt_eq _ _ _ hnd, k3]
      obtain ⟨aD', hS'⟩ := hS.next hD hpn ho hj hb (q' := q) (r1 := r.add (T p).next cs.length (w.heap.size, cs.length, u)) (w1 := w.alloc (.cells xs e (0, 0))) (x := x) hS.ge hS.le
        (fun i h0 h1 h2 => getD_set_true (hS.done i h0 h1 h2))
        (fun i h1 h2 h3' => by
          have hip : s i ≠ s p := fun e => by have := hD.inj _ _ h2 hpn e; have := hS.ge; omega
          rw [getD_set_ne false (Ne.symm hip)]
          exact hS.todo i h1 h2 h3')
        (fun i h1 h2 h3' => by
          obtain ⟨d1, d2⟩ := hS.float i h1 h2 (hsub _ h3')
          refine ⟨fun v => ?_, d2⟩
          have hne : i ≠ p := fun e => by subst e; rw [hself] at h3'; cases h3'
          have := hD.apart_ids h1 hpm h2 h3 hne
          simp only [Ren.add, if_neg (fun c : (T i).next = (T p).next ∧ v = cs.length => this c.1)]
          exact d1 v)
        hS.up hx hle (by rw [← hval.1]; exact k4 _ _ hle (Ren.add_same _ _ _ _))
      rw [hdst] at hS'
      exact hK _ _ _ _ _ hS'
  · obtain ⟨q', h1, hq1, hq2, h3, h4, h5⟩ := hS.value hD hpn ho hj hb hfl
    refine opVal_sim hG hR hS.ext.rel hS.rel h1 Q K fun x r1 w1 hx hv => ?_
    have hup := hS.up
    obtain ⟨aD', hS'⟩ := hS.next hD hpn ho hj hb hq1 hq2 h3 h4 (fun i i1 i2 i3 => by
        refine ⟨fun v => ?_, h5 i i1 i2 (hsub _ i3)⟩
        have hn := (hS.float i i1 i2 (hsub _ i3)).1
        have g2 := hD.fresh i1 i2
        have g1 := (hD.grow (show i + 1 ≤ m by omega) (Nat.le_refl _)).1
        cases hr : r1.row (T i).next v with
        | none => rfl
        | some y =>
          rcases hx.born _ _ _ hr with e | ⟨v0, z, e⟩
          · omega
          · rw [hn] at e; cases e)
      ⟨Nat.le_trans hup.1 hx.next, Nat.le_trans hx.low hup.2⟩ (hS.ext.trans hx) hx.sub hv
    exact hK _ _ _ _ _ hS'

/-- All are drawn. -/
theorem SoFar.over (hS : SoFar ops s A T V m r0 w0 listed act w q r aD) (hsn : ∀ p, p < ops.size → s p < ops.size) (hall : ∀ i, i < ops.size → listed.getD i false = true) : Ext r0 (T 0) w0 r (T ops.size) w ∧ RelA r (A ops.size) act := by
  have hT : T ops.size = T q := hD.same hS.ge hS.le (Nat.le_refl _) fun i h1 h2 h3 => by
    have := hS.todo i h1 h2 h3
    rw [hall _ (hsn i h2)] at this
    cases this
  rw [hT]
  refine ⟨hS.ext, ?_⟩
  have hframe : ∀ k, k ≤ ops.size → (A k).n = (A 0).n ∧ (A k).marks = (A 0).marks := by
    intro k
    induction k with
    | zero => intro _; exact ⟨rfl, rfl⟩
    | succ k ih =>
      intro hm
      have := put_ok (hD.steps.put k (by omega) (by omega))
      rw [this.1, this.2.1]
      exact ih (by omega)
  have hf := hframe _ (Nat.le_refl _)
  refine ⟨by rw [hf.1, ← hS.frame.1]; exact hS.rel.size, fun t => ?_, by rw [hf.2, ← hS.frame.2.1]; exact hS.rel.marks.1, by rw [hf.2, ← hS.frame.2.1]; exact hS.rel.marks.2⟩
  have : (A ops.size).get t = aD.get t := by
    rw [hS.slots, hD.slots (Nat.le_refl _)]
    unfold slotV
    rw [lastW_congr ops.size fun i hi _ => ?_]
    rw [hall _ (hsn i hi)]
    exact blt_true.2 hi
  rw [this]
  exact hS.rel.get t

omit hD in
/-- Where nothing may come up all are drawn. -/
theorem none_ready {ops : Array Oper} {listed : Array Bool} (hsz : listed.size = ops.size) (hfront : ∀ (j : Nat) (o : Oper), ops[j]? = some o → ∀ e ∈ o.after, Region.binds .any e = true → e.on < j)
    (h : Region.ready .any ops listed = []) : ∀ i, i < ops.size → listed.getD i false = true := by
  intro i
  induction i using Nat.strongRecOn with
  | _ i ih =>
    intro hi
    cases hl : listed.getD i false with
    | true => rfl
    | false =>
      exfalso
      have hil : i < listed.size := hsz ▸ hi
      have : i ∈ Region.ready .any ops listed := by
        refine mem_ready.2 ⟨?_, ops[i], Array.getElem?_eq_getElem hi, fun e he hb => ?_⟩
        · simp [hil] at hl ⊢
          exact hl
        · have := hfront i _ (Array.getElem?_eq_getElem hi) e he hb
          exact ih e.on this (by omega)
      rw [h] at this
      cases this

theorem SoFar.any (hG : EnvGood E) (hR : Sound E rec) {Q : Exit → Act → World → Prop} (ro : Option Nat) (hsn : ∀ p, p < ops.size → s p < ops.size) (hlow : (T 0).low ≤ (T 0).next)
    (hQ : ∀ r1 act1 w1, Ext r0 (T 0) w0 r1 (T ops.size) w1 → RelA r1 (A ops.size) act1 → Q .normal act1 w1) : ∀ (fuel : Nat) {listed : Array Bool} {act : Act} {w : World} {q : Nat} {r : Ren} {aD : AAct},
    SoFar ops s A T V m r0 w0 listed act w q r aD → rest (fun i => listed.getD i false) ops.size ≤ fuel → wpAnyIn (fence ro) 0 E.P .any ops Q fuel listed act w := by
  intro fuel
  induction fuel with
  | zero =>
    intro listed act w q r aD hS hf
    have hall := rest_zero ops.size (Nat.le_zero.1 hf)
    refine ⟨?_, ?_⟩
    · cases hr : Region.ready .any ops listed with
      | nil => rfl
      | cons i l =>
        exfalso
        have := mem_ready.1 (show i ∈ Region.ready .any ops listed by rw [hr]; simp)
        obtain ⟨h1, o, ho, _⟩ := this
        have hi : i < ops.size := (Array.getElem?_eq_some_iff.1 ho).1
        have h2 := hall i hi
        have hil : i < listed.size := hS.size ▸ hi
        simp [hil] at h1 h2
        rw [h1] at h2
        cases h2
    · obtain ⟨h1, h2⟩ := hS.over hD hsn hall
      exact hQ _ _ _ h1 h2
  | succ fuel ih =>
    intro listed act w q r aD hS hf
    refine ⟨fun hr => ?_, fun i hi => ?_⟩
    · obtain ⟨h1, h2⟩ := hS.over hD hsn (none_ready hS.size hD.front hr)
      exact hQ _ _ _ h1 h2
    · obtain ⟨h1, o, ho, h2⟩ := mem_ready.1 hi
      have hin : i < ops.size := (Array.getElem?_eq_some_iff.1 ho).1
      have hil : i < listed.size := hS.size ▸ hin
      have hl : listed.getD i false = false := by
        simp [hil] at h1 ⊢
        exact h1
      obtain ⟨p, hp, hpi⟩ := hD.surj i hin
      subst hpi
      refine hS.step hD hG hR hp ho hl (fun e he hb => h2 e he hb) hlow ro fun act' w' q' r' aD' hS' => ?_
      refine ih hS' ?_
      have := rest_add (p := fun i => listed.getD i false) (q := fun k => (listed.setIfInBounds (s p) true).getD k false) (j := s p) hl (by simp [hil]) (fun k hk => getD_set_ne false (Ne.symm hk)) ops.size
      rw [if_pos hin] at this
      omega

end

/-! ### The static check -/
theorem ordered_spec {ops : Array Oper} {masks : List Nat} {strong : Bool} : ∀ (l before : List Nat), ordered ops masks strong before l = true → ∀ (k j : Nat) (o : Oper), l[k]? = some j → ops[j]? = some o →
    ∀ (i : Nat) (x : Oper), (i ∈ before ∨ ∃ k', k' < k ∧ l[k']? = some i) → ops[i]? = some x → (clash ops x o || (strong && Nat.ble 2 (kindOf x) && Nat.ble 2 (kindOf o))) = true → bitOf masks j i = true := by
  intro l
  induction l with
  | nil => intro before _ k j o hk; simp at hk
  | cons a l ih =>
    intro before h k j o hk ho i x hi hx hc
    unfold ordered at h
    rw [Bool.and_eq_true] at h
    cases k with
    | zero =>
      simp at hk
      subst hk
      have h1 := h.1
      rw [ho] at h1
      have hib : i ∈ before := hi.resolve_right fun ⟨k', h2, _⟩ => by omega
      have h2 := List.all_eq_true.1 h1 i hib
      rw [hx] at h2
      simp only [hc, Bool.not_true, Bool.or_false] at h2
      exact h2
    | succ k =>
      refine ih (a :: before) h.2 k j o (by simpa using hk) ho i x ?_ hx hc
      rcases hi with hi | ⟨k', h1, h2⟩
      · exact .inl (by simp [hi])
      · cases k' with
        | zero => simp at h2; exact .inl (by simp [h2])
        | succ k' => exact .inr ⟨k', by omega, by simpa using h2⟩

/-- The order of the two passes. -/
def passes (ops : Array Oper) (masks : List Nat) : List Nat := firstPass ops masks ++ secondPass ops masks

theorem passes_spec (ops : Array Oper) (masks : List Nat) : (passes ops masks).length = ops.size ∧ (passes ops masks).Nodup ∧ (∀ i, i ∈ passes ops masks ↔ i < ops.size) := by
  unfold passes firstPass secondPass
  rw [CheckFast.force_eq, CheckFast.force_eq]
  generalize heavyBits ops.toList 0 0 = bits
  refine ⟨?_, ?_, fun i => ?_⟩
  · rw [List.length_append]
    have key : ∀ (l : List Nat) (p : Nat → Bool), (l.filter p).length + (l.filter fun i => !(p i)).length = l.length := by
      intro l p
      induction l with
      | nil => rfl
      | cons a l ih =>
        rw [List.filter_cons, List.filter_cons]
        cases p a <;> simp <;> omega
    rw [key, List.length_range]
  · rw [List.nodup_append]
    refine ⟨List.nodup_range.filter _, List.nodup_range.filter _, fun a ha b hb e => ?_⟩
    subst e
    have h1 := (List.mem_filter.1 ha).2
    have h2 := (List.mem_filter.1 hb).2
    rw [h1] at h2
    cases h2
  · rw [List.mem_append, List.mem_filter, List.mem_filter, List.mem_range]
    cases isFirst ops masks bits i <;> simp

section
variable {E : Env} (hG : EnvGood E) {rec : Task → St → RR} (hR : Sound E rec)
include hG hR

theorem drawRun_sim {ops : Array Oper} {ro : Option Nat} {Q : Exit → Act → World → Prop} {r : Ren} {a a1 : AAct} {S S1 : St} {act : Act} {w : World} (hok : regionOk ops = true)
    (hw : RelW r S w) (ha : RelA r a act) (h : drawRun rec E ops (CheckFast.beforeL ops.toList 0 []) a S = .ok (a1, S1))
    (hQ : ∀ r1 act1 w1, Ext r S w r1 S1 w1 → RelA r1 a1 act1 → Q .normal act1 w1) : wpAnyIn (fence ro) 0 E.P .any ops Q ops.size (Array.replicate ops.size false) act w := by
  unfold regionOk at hok
  rw [forceL_eq] at hok
  simp only [Bool.and_eq_true] at hok
  obtain ⟨⟨hfr, hap⟩, hst⟩ := hok
  have hfront : ∀ (j : Nat) (o : Oper), ops[j]? = some o → ∀ e ∈ o.after, Region.binds .any e = true → e.on < j := by
    intro j o ho e he hb
    have := List.all_eq_true.1 hfr j (List.mem_range.2 (Array.getElem?_eq_some_iff.1 ho).1)
    rw [ho] at this
    have h1 := Array.all_eq_true_iff_forall_mem.1 this e he
    rw [hb] at h1
    simp only [Bool.not_true, Bool.or_false] at h1
    exact blt_true.1 h1
  obtain ⟨hlen, hnd, hmem⟩ := passes_spec ops (CheckFast.beforeL ops.toList 0 [])
  have hpass : passes ops (CheckFast.beforeL ops.toList 0 []) = firstPass ops (CheckFast.beforeL ops.toList 0 []) ++ secondPass ops (CheckFast.beforeL ops.toList 0 []) := rfl
  revert hap hst hpass hlen hnd hmem h
  unfold drawRun
  generalize passes ops (CheckFast.beforeL ops.toList 0 []) = ord
  generalize firstPass ops (CheckFast.beforeL ops.toList 0 []) = l1
  generalize secondPass ops (CheckFast.beforeL ops.toList 0 []) = l2
  intro h hst hap hlen hnd hmem hpass
  subst hpass
  obtain ⟨⟨⟨a2, S2⟩, seen, fl⟩, h1, h2⟩ := bind_ok h
  obtain ⟨hseen, h3⟩ := bif_ok h2
  rw [List.length_append] at hlen
  have hs1 : ∀ i x, l1[i]? = some x → (fun p => (l1 ++ l2).getD p 0) (0 + i) = x := by
    intro i x hx
    have hi : i < l1.length := (List.getElem?_eq_some_iff.1 hx).1
    simp only [Nat.zero_add, List.getD_eq_getElem?_getD, List.getElem?_append_left hi, hx, Option.getD_some]
  have hs2 : ∀ i x, l2[i]? = some x → (fun p => (l1 ++ l2).getD p 0) (l1.length + i) = x := by
    intro i x hx
    simp only [List.getD_eq_getElem?_getD, List.getElem?_append_right (Nat.le_add_right _ _), Nat.add_sub_cancel_left, hx, Option.getD_some]
  obtain ⟨f1, _, _, f4, f5⟩ := first_text (s := fun p => (l1 ++ l2).getD p 0) (a0 := a) (S0 := S) l1 0 hs1 rfl h1
  rw [Nat.zero_add] at f1 f4 f5
  obtain ⟨g1, g2, g3⟩ := second_text (s := fun p => (l1 ++ l2).getD p 0) (a0 := a) (S0 := S) l2 l1.length hs2 f1 h3
  rw [hlen] at g1 g2 g3
  have hget : ∀ p, p < ops.size → (l1 ++ l2)[p]? = some ((l1 ++ l2).getD p 0) := by
    intro p hp
    have : p < (l1 ++ l2).length := by rw [List.length_append]; omega
    simp [List.getD_eq_getElem?_getD, List.getElem?_eq_getElem this]
  generalize hsd : (fun p => (l1 ++ l2).getD p 0) = s at f1 f4 f5 g1 g2 g3
  have hsg : ∀ p, p < ops.size → (l1 ++ l2)[p]? = some (s p) := by intro p hp; rw [← hsd]; exact hget p hp
  have hm : l1.length ≤ ops.size := by omega
  have hsteps : Steps_ rec E ops s (fun i => (at_ rec E ops s a S i).1) (fun i => (at_ rec E ops s a S i).2) (valAt rec E ops s a S) 0 ops.size :=
    ⟨fun i q1 q2 => (Nat.lt_or_ge i l1.length).elim (fun c => f4.val i q1 c) (fun c => g2.val i c q2), fun i q1 q2 => (Nat.lt_or_ge i l1.length).elim (fun c => f4.put i q1 c) (fun c => g2.put i c q2)⟩
  have hT2 : (at_ rec E ops s a S l1.length).2 = S2 := by rw [f1]
  have hD : Drawn rec E ops s (fun i => (at_ rec E ops s a S i).1) (fun i => (at_ rec E ops s a S i).2) (valAt rec E ops s a S) l1.length := by
    refine ⟨hsteps, hm, fun p hp => f5.kind p (Nat.zero_le _) hp, fun p hp hk => ?_, fun p p1 p2 p3 g q1 q2 q3 => (g3.early p p1 p2 p3).2 g q1 q2 q3, fun g q1 q2 q3 p p1 p2 => ?_, fun p p1 p2 => ?_, hfront, ?_, ?_, ?_, ?_⟩
    · simp only [hT2]
      exact List.all_eq_true.1 hseen _ (f5.seen p (Nat.zero_le _) hp hk)
    · rcases Nat.lt_or_ge p l1.length with c | c
      · exact (g3.late g q1 q2 q3).1 _ (f5.seen p (Nat.zero_le _) c p2)
      · exact (g3.late g q1 q2 q3).2 p c p1 p2
    · obtain ⟨ob, e1, e2⟩ := f5.float p (Nat.zero_le _) p1 p2
      refine ⟨ob, e1, fun g q1 q2 q3 => or_snd (g3.float g q1 q2 q3 _ e2) fun e => ?_⟩
      exact floatSame_eq e
    · intro p q x y hpq hq hx hy hc
      exact ordered_spec _ _ hap q (s q) y (hsg q hq) hy (s p) x (.inr ⟨p, hpq, hsg p (by omega)⟩) hx (by simp [hc])
    · intro p q x y hp hpq hq hx hy k1 k2
      have e1 : l2[q - l1.length]? = some (s q) := by rw [← hsg q hq, List.getElem?_append_right (by omega)]
      have e2 : l2[p - l1.length]? = some (s p) := by rw [← hsg p (by omega), List.getElem?_append_right (by omega)]
      have b1 : Nat.ble 2 (kindOf x) = true := Nat.ble_eq_true_of_le k1
      have b2 : Nat.ble 2 (kindOf y) = true := Nat.ble_eq_true_of_le k2
      exact ordered_spec _ _ hst (q - l1.length) (s q) y e1 hy (s p) x (.inr ⟨p - l1.length, by omega, e2⟩) hx (by simp [b1, b2])
    · intro p q hp hq e
      have h1 := hsg p hp
      have h2 := hsg q hq
      rw [← e] at h2
      have hpl : p < (l1 ++ l2).length := by rw [List.length_append]; omega
      have hql : q < (l1 ++ l2).length := by rw [List.length_append]; omega
      rw [List.getElem?_eq_getElem hpl] at h1
      rw [List.getElem?_eq_getElem hql] at h2
      exact (List.getElem_inj hnd).1 ((Option.some.inj h1).trans (Option.some.inj h2).symm)
    · intro i hi
      obtain ⟨p, hp, e⟩ := List.mem_iff_getElem.1 ((hmem i).2 hi)
      have hp' : p < ops.size := by rw [List.length_append] at hp; omega
      refine ⟨p, hp', ?_⟩
      have := hsg p hp'
      rw [List.getElem?_eq_getElem hp, e] at this
      exact (Option.some.inj this).symm
  have hsn : ∀ p, p < ops.size → s p < ops.size := fun p hp => (hmem _).1 (List.mem_of_getElem? (hsg p hp))
  have hfalse : ∀ i, (Array.replicate ops.size false).getD i false = false := by
    intro i
    simp only [Array.getD_eq_getD_getElem?, Array.getElem?_replicate]
    split <;> rfl
  have hlast : ∀ t k, lastW (fun p => dstAt ops (s p)) (fun p => (Array.replicate ops.size false).getD (s p) false) t k = none := by
    intro t k
    induction k with
    | zero => rfl
    | succ k ih => rw [lastW, if_neg (fun c => by rw [hfalse] at c; cases c.1), ih]
  have gr := hD.grow (Nat.zero_le l1.length) (Nat.le_refl _)
  have gr0 : (at_ rec E ops s a S 0).2 = S := rfl
  simp only [gr0] at gr
  have hext : Ext r S w r (at_ rec E ops s a S l1.length).2 w := by
    refine ⟨.refl r, ⟨fun id ver x hx => ?_, hw.inj, hw.imm, fun id o ho ver b n u hx => ?_, ?_⟩, gr.1, Nat.le_of_eq gr.2.1, fun id h1 _ => gr.2.2 id h1, Nat.le_refl _, rfl, rfl, rfl, fun _ _ => .inl rfl, fun _ _ _ h => .inl h,
      fun _ _ h => .inl h, fun _ _ _ h => .inr ⟨_, _, h⟩⟩
    · have := hw.dom _ _ _ hx
      have := gr.1
      omega
    · have hd := (hw.dom _ _ _ hx).1
      rw [gr.2.2 id hd] at ho
      exact hw.obj _ _ ho _ _ _ _ hx
    · have := hw.low
      have := gr.1
      rw [gr.2.1]; omega
  have hS : SoFar ops s (fun i => (at_ rec E ops s a S i).1) (fun i => (at_ rec E ops s a S i).2) (valAt rec E ops s a S) l1.length r w (Array.replicate ops.size false) act w l1.length r a := by
    refine ⟨by simp, fun i k _ hl => ?_, Nat.le_refl _, hm, fun i h1 h2 => by omega, fun i _ _ _ => hfalse _, fun p h1 h2 _ => ⟨fun v => ?_, ?_⟩, ⟨Nat.le_refl _, Nat.le_of_eq gr.2.1⟩, hext, ha, ⟨rfl, rfl, rfl⟩, fun t => ?_⟩
    · rw [hfalse] at hl; cases hl
    · have g0 := (hD.grow (Nat.zero_le p) (by omega)).1
      simp only [gr0] at g0
      cases hr : r.row (at_ rec E ops s a S p).2.next v with
      | none => rfl
      | some x => have := (hw.dom _ _ _ hr).1; omega
    · obtain ⟨ob, e1, e2⟩ := hD.float p h1 h2
      refine ⟨ob, e1, ?_⟩
      have g0 := hD.grow (show p + 1 ≤ l1.length by omega) (Nat.le_refl _)
      have g1 := hD.fresh h1 h2
      have := g0.2.2 _ g1
      exact this.trans e1
    · unfold slotV
      rw [hlast]
      rfl
  refine hS.any hD hG hR ro hsn hw.low (fun r1 act1 w1 x1 ha1 => ?_) ops.size ?_
  · have e1 : (at_ rec E ops s a S ops.size).2 = S1 := by rw [g1]
    have e2 : (at_ rec E ops s a S ops.size).1 = a1 := by rw [g1]
    simp only [e1, e2] at x1 ha1
    exact hQ _ _ _ x1 ha1
  · have : ∀ (p : Nat → Bool) (k : Nat), rest p k ≤ k := by
      intro p k
      induction k with
      | zero => exact Nat.le_refl _
      | succ k ih => simp only [rest]; split <;> omega
    exact this _ _

end
end Go.Am
