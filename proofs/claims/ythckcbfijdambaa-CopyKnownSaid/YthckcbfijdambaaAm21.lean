/- Soundness: regions that draw their order. -/
import Derived.Test.YthckcbfijdambaaAmD
namespace Go.Am
open Go.RowKit

section
variable {E : Env} (hG : EnvGood E) {rec : Task → St → RR} (hR : Sound E rec)

theorem drawSteps_act {ops : Array Oper} {masks : List Nat} {fl : Floats} : ∀ (l : List Nat) {a a1 : AAct} {S S1 : St} {past : List (Nat × St)} {seen : Seen}, drawSteps rec E ops masks fl l a S past seen = .ok (a1, S1) → a1.rnd = a.rnd ∧ a1.n = a.n := by
  intro l
  induction l with
  | nil => intro a a1 S S1 past seen h; cases h; exact ⟨rfl, rfl⟩
  | cons i l ih =>
    intro a a1 S S1 past seen h
    obtain ⟨⟨v, S2⟩, h1, h2⟩ := bind_ok h
    obtain ⟨a3, h5, h6⟩ := bind_ok h2
    obtain ⟨p1, p2, p3, p4, p5⟩ := put_ok h5
    simp only at h6
    split at h6
    · have := ih h6
      exact ⟨this.1.trans p3, this.2.trans p1⟩
    · have := ih (bif_ok h6).2
      exact ⟨this.1.trans p3, this.2.trans p1⟩
    · have := ih (bif_ok h6).2
      exact ⟨this.1.trans p3, this.2.trans p1⟩

theorem drawFirst_act {ops : Array Oper} : ∀ (l : List Nat) {a a1 : AAct} {S S1 : St} {seen seen1 : Seen} {fl fl1 : Floats}, drawFirst rec E ops l a S seen fl = .ok ((a1, S1), seen1, fl1) → a1.rnd = a.rnd ∧ a1.n = a.n := by
  intro l
  induction l with
  | nil => intro a a1 S S1 seen seen1 fl fl1 h; cases h; exact ⟨rfl, rfl⟩
  | cons i l ih =>
    intro a a1 S S1 seen seen1 fl fl1 h
    obtain ⟨⟨v, S2⟩, h1, h2⟩ := bind_ok h
    obtain ⟨a3, h5, h6⟩ := bind_ok h2
    obtain ⟨p1, p2, p3, p4, p5⟩ := put_ok h5
    try simp only at h6
    split at h6
    · have := ih h6
      exact ⟨this.1.trans p3, this.2.trans p1⟩
    · have := ih h6
      exact ⟨this.1.trans p3, this.2.trans p1⟩
    · split at h6
      · have := ih h6
        exact ⟨this.1.trans p3, this.2.trans p1⟩
      · cases h6
    · cases h6

theorem drawRun_act {ops : Array Oper} {masks : List Nat} {a a1 : AAct} {S S1 : St} (h : drawRun rec E ops masks a S = .ok (a1, S1)) : a1.rnd = a.rnd ∧ a1.n = a.n := by
  obtain ⟨⟨⟨a2, S2⟩, seen, fl⟩, h1, h2⟩ := bind_ok h
  have k1 := drawFirst_act _ h1
  have k2 := drawSteps_act _ (bif_ok h2).2
  exact ⟨k2.1.trans k1.1, k2.2.trans k1.2⟩

/-! ### The run in the order of the two passes; operation s p stands at place p -/
/-- Where the run stands ahead of place p. -/
def at_ (rec : Task → St → RR) (E : Env) (ops : Array Oper) (s : Nat → Nat) (a : AAct) (S : St) : Nat → AAct × St
  | 0 => (a, S)
  | i + 1 => match opVal rec E ops (s i) (at_ rec E ops s a S i).1 (at_ rec E ops s a S i).2 with
    | .ok (v, S1) => (match (at_ rec E ops s a S i).1.put (dstAt ops (s i)) v with | .ok a1 => (a1, S1) | .error _ => (a, S))
    | .error _ => (a, S)

def valAt (rec : Task → St → RR) (E : Env) (ops : Array Oper) (s : Nat → Nat) (a : AAct) (S : St) (i : Nat) : AV :=
  match opVal rec E ops (s i) (at_ rec E ops s a S i).1 (at_ rec E ops s a S i).2 with
  | .ok (v, _) => v
  | .error _ => undefA

/-- The steps of a stretch of places. -/
structure Steps_ (rec : Task → St → RR) (E : Env) (ops : Array Oper) (s : Nat → Nat) (A : Nat → AAct) (T : Nat → St) (V : Nat → AV) (k n : Nat) : Prop where
  val : ∀ i, k ≤ i → i < n → opVal rec E ops (s i) (A i) (T i) = .ok (V i, T (i + 1))
  put : ∀ i, k ≤ i → i < n → (A i).put (dstAt ops (s i)) (V i) = .ok (A (i + 1))

theorem Steps_.cons {ops : Array Oper} {s : Nat → Nat} {A : Nat → AAct} {T : Nat → St} {V : Nat → AV} {k n : Nat} (h : Steps_ rec E ops s A T V (k + 1) n)
    (h1 : opVal rec E ops (s k) (A k) (T k) = .ok (V k, T (k + 1))) (h2 : (A k).put (dstAt ops (s k)) (V k) = .ok (A (k + 1))) : Steps_ rec E ops s A T V k n := by
  refine ⟨fun i q1 q2 => ?_, fun i q1 q2 => ?_⟩
  · rcases Nat.lt_or_eq_of_le q1 with q | rfl
    · exact h.val i q q2
    · exact h1
  · rcases Nat.lt_or_eq_of_le q1 with q | rfl
    · exact h.put i q q2
    · exact h2

/-- The first pass. -/
structure First (ops : Array Oper) (s : Nat → Nat) (A : Nat → AAct) (T : Nat → St) (V : Nat → AV) (k n : Nat) (seen : Seen) (fl : Floats) : Prop where
  kind : ∀ p, k ≤ p → p < n → kindAt ops (s p) (A p) ≠ 2
  seen : ∀ p, k ≤ p → p < n → kindAt ops (s p) (A p) = 1 → (s p, A p, V p) ∈ seen
  float : ∀ p, k ≤ p → p < n → kindAt ops (s p) (A p) = 3 → ∃ ob, (T (p + 1)).heap.get (T p).next = some ob ∧ (s p, (T p).next, ob) ∈ fl

theorem first_text {ops : Array Oper} {s : Nat → Nat} {a0 : AAct} {S0 : St} : ∀ (l : List Nat) (k : Nat) {a a1 : AAct} {S S1 : St} {seen seen1 : Seen} {fl fl1 : Floats}, (∀ i x, l[i]? = some x → s (k + i) = x) →
    at_ rec E ops s a0 S0 k = (a, S) → drawFirst rec E ops l a S seen fl = .ok ((a1, S1), seen1, fl1) → at_ rec E ops s a0 S0 (k + l.length) = (a1, S1) ∧ (∀ x ∈ seen, x ∈ seen1) ∧ (∀ x ∈ fl, x ∈ fl1) ∧
      Steps_ rec E ops s (fun i => (at_ rec E ops s a0 S0 i).1) (fun i => (at_ rec E ops s a0 S0 i).2) (valAt rec E ops s a0 S0) k (k + l.length) ∧
      First ops s (fun i => (at_ rec E ops s a0 S0 i).1) (fun i => (at_ rec E ops s a0 S0 i).2) (valAt rec E ops s a0 S0) k (k + l.length) seen1 fl1 := by
  intro l
  induction l with
  | nil =>
    intro k a a1 S S1 seen seen1 fl fl1 hs hk h
    cases h
    exact ⟨hk, fun x hx => hx, fun x hx => hx, ⟨fun i h1 h2 => by simp at h2; omega, fun i h1 h2 => by simp at h2; omega⟩,
      ⟨fun i h1 h2 => by simp at h2; omega, fun i h1 h2 => by simp at h2; omega, fun i h1 h2 => by simp at h2; omega⟩⟩
  | cons x l ih =>
    intro k a a1 S S1 seen seen1 fl fl1 hs hk h
    have hx : s k = x := hs 0 x rfl
    subst hx
    have hs' : ∀ i y, l[i]? = some y → s (k + 1 + i) = y := fun i y hy => by
      have := hs (i + 1) y (by simpa using hy)
      rw [← this]; congr 1; omega
    obtain ⟨⟨v, S2⟩, h1, h2⟩ := bind_ok h
    obtain ⟨a3, h5, h6⟩ := bind_ok h2
    try simp only at h5 h6
    have hA : (at_ rec E ops s a0 S0 k).1 = a := by rw [hk]
    have hT : (at_ rec E ops s a0 S0 k).2 = S := by rw [hk]
    have hV : valAt rec E ops s a0 S0 k = v := by unfold valAt; rw [hA, hT, h1]
    have hk1 : at_ rec E ops s a0 S0 (k + 1) = (a3, S2) := by
      rw [at_, hA, hT, h1]
      simp only [h5]
    have e : k + (s k :: l).length = k + 1 + l.length := by simp; omega
    rw [e]
    have step1 : opVal rec E ops (s k) (at_ rec E ops s a0 S0 k).1 (at_ rec E ops s a0 S0 k).2 = .ok (valAt rec E ops s a0 S0 k, (at_ rec E ops s a0 S0 (k + 1)).2) := by rw [hA, hT, hV, hk1]; exact h1
    have step2 : (at_ rec E ops s a0 S0 k).1.put (dstAt ops (s k)) (valAt rec E ops s a0 S0 k) = .ok (at_ rec E ops s a0 S0 (k + 1)).1 := by rw [hA, hV, hk1]; exact h5
    split at h6
    · rename_i hz
      obtain ⟨i1, i2, i3, i4, i5⟩ := ih (k + 1) hs' hk1 h6
      refine ⟨i1, i2, i3, i4.cons step1 step2, ⟨fun p q1 q2 => ?_, fun p q1 q2 q3 => ?_, fun p q1 q2 q3 => ?_⟩⟩
      · rcases Nat.lt_or_eq_of_le q1 with q | rfl
        · exact i5.kind p q q2
        · simp only [hA, hz]; omega
      · rcases Nat.lt_or_eq_of_le q1 with q | rfl
        · exact i5.seen p q q2 q3
        · simp only [hA, hz] at q3; omega
      · rcases Nat.lt_or_eq_of_le q1 with q | rfl
        · exact i5.float p q q2 q3
        · simp only [hA, hz] at q3; omega
    · rename_i hz
      obtain ⟨i1, i2, i3, i4, i5⟩ := ih (k + 1) hs' hk1 h6
      refine ⟨i1, fun x hx => i2 x (by simp [hx]), i3, i4.cons step1 step2, ⟨fun p q1 q2 => ?_, fun p q1 q2 q3 => ?_, fun p q1 q2 q3 => ?_⟩⟩
      · rcases Nat.lt_or_eq_of_le q1 with q | rfl
        · exact i5.kind p q q2
        · simp only [hA, hz]; omega
      · rcases Nat.lt_or_eq_of_le q1 with q | rfl
        · exact i5.seen p q q2 q3
        · simp only [hA, hV]; exact i2 _ (by simp)
      · rcases Nat.lt_or_eq_of_le q1 with q | rfl
        · exact i5.float p q q2 q3
        · simp only [hA, hz] at q3; omega
    · rename_i hz
      split at h6
      rotate_left
      · cases h6
      rename_i ob hob
      obtain ⟨i1, i2, i3, i4, i5⟩ := ih (k + 1) hs' hk1 h6
      refine ⟨i1, i2, fun x hx => i3 x (by simp [hx]), i4.cons step1 step2, ⟨fun p q1 q2 => ?_, fun p q1 q2 q3 => ?_, fun p q1 q2 q3 => ?_⟩⟩
      · rcases Nat.lt_or_eq_of_le q1 with q | rfl
        · exact i5.kind p q q2
        · simp only [hA, hz]; omega
      · rcases Nat.lt_or_eq_of_le q1 with q | rfl
        · exact i5.seen p q q2 q3
        · simp only [hA, hz] at q3; omega
      · rcases Nat.lt_or_eq_of_le q1 with q | rfl
        · exact i5.float p q q2 q3
        · refine ⟨ob, ?_, ?_⟩
          · simp only [hT, hk1]; exact hob
          · simp only [hT]; exact i3 _ (by simp)
    · cases h6

/-- The second pass. -/
structure Second (E : Env) (ops : Array Oper) (masks : List Nat) (fl : Floats) (s : Nat → Nat) (A : Nat → AAct) (T : Nat → St) (V : Nat → AV) (k n : Nat) (past : List (Nat × St)) (seen : Seen) : Prop where
  early : ∀ j, k ≤ j → j < n → kindAt ops (s j) (A j) = 1 → (∀ g ∈ past, bitOf masks (s j) g.1 = true ∨ agrees E ops g.2 (s j, A j, V j) = true) ∧
    ∀ g, k ≤ g → g < j → 2 ≤ kindAt ops (s g) (A g) → bitOf masks (s j) (s g) = true ∨ agrees E ops (T g) (s j, A j, V j) = true
  late : ∀ g, k ≤ g → g < n → 2 ≤ kindAt ops (s g) (A g) → (∀ x ∈ seen, bitOf masks (s g) x.1 = true ∨ agrees E ops (T (g + 1)) x = true) ∧
    ∀ j, k ≤ j → j < g → kindAt ops (s j) (A j) = 1 → bitOf masks (s g) (s j) = true ∨ agrees E ops (T (g + 1)) (s j, A j, V j) = true
  float : ∀ g, k ≤ g → g < n → 2 ≤ kindAt ops (s g) (A g) → ∀ f ∈ fl, bitOf masks (s g) f.1 = true ∨ floatSame (T (g + 1)) f = true

theorem second_text {ops : Array Oper} {masks : List Nat} {fl : Floats} {s : Nat → Nat} {a0 : AAct} {S0 : St} : ∀ (l : List Nat) (k : Nat) {a a1 : AAct} {S S1 : St} {past : List (Nat × St)} {seen : Seen}, (∀ i x, l[i]? = some x → s (k + i) = x) →
    at_ rec E ops s a0 S0 k = (a, S) → drawSteps rec E ops masks fl l a S past seen = .ok (a1, S1) → at_ rec E ops s a0 S0 (k + l.length) = (a1, S1) ∧
      Steps_ rec E ops s (fun i => (at_ rec E ops s a0 S0 i).1) (fun i => (at_ rec E ops s a0 S0 i).2) (valAt rec E ops s a0 S0) k (k + l.length) ∧
      Second E ops masks fl s (fun i => (at_ rec E ops s a0 S0 i).1) (fun i => (at_ rec E ops s a0 S0 i).2) (valAt rec E ops s a0 S0) k (k + l.length) past seen := by
  intro l
  induction l with
  | nil =>
    intro k a a1 S S1 past seen hs hk h
    cases h
    exact ⟨hk, ⟨fun i h1 h2 => by simp at h2; omega, fun i h1 h2 => by simp at h2; omega⟩,
      ⟨fun i h1 h2 => by simp at h2; omega, fun i h1 h2 => by simp at h2; omega, fun i h1 h2 => by simp at h2; omega⟩⟩
  | cons x l ih =>
    intro k a a1 S S1 past seen hs hk h
    have hx : s k = x := hs 0 x rfl
    subst hx
    have hs' : ∀ i y, l[i]? = some y → s (k + 1 + i) = y := fun i y hy => by
      have := hs (i + 1) y (by simpa using hy)
      rw [← this]; congr 1; omega
    obtain ⟨⟨v, S2⟩, h1, h2⟩ := bind_ok h
    obtain ⟨a3, h5, h6⟩ := bind_ok h2
    simp only at h5 h6
    have hA : (at_ rec E ops s a0 S0 k).1 = a := by rw [hk]
    have hT : (at_ rec E ops s a0 S0 k).2 = S := by rw [hk]
    have hV : valAt rec E ops s a0 S0 k = v := by unfold valAt; rw [hA, hT, h1]
    have hk1 : at_ rec E ops s a0 S0 (k + 1) = (a3, S2) := by
      rw [at_, hA, hT, h1]
      simp only [h5]
    have e : k + (s k :: l).length = k + 1 + l.length := by simp; omega
    rw [e]
    have step1 : opVal rec E ops (s k) (at_ rec E ops s a0 S0 k).1 (at_ rec E ops s a0 S0 k).2 = .ok (valAt rec E ops s a0 S0 k, (at_ rec E ops s a0 S0 (k + 1)).2) := by rw [hA, hT, hV, hk1]; exact h1
    have step2 : (at_ rec E ops s a0 S0 k).1.put (dstAt ops (s k)) (valAt rec E ops s a0 S0 k) = .ok (at_ rec E ops s a0 S0 (k + 1)).1 := by rw [hA, hV, hk1]; exact h5
    split at h6
    · rename_i hz
      obtain ⟨i1, i2, i3⟩ := ih (k + 1) hs' hk1 h6
      refine ⟨i1, i2.cons step1 step2, ⟨fun j q1 q2 q3 => ?_, fun g q1 q2 q3 => ?_, fun g q1 q2 q3 => ?_⟩⟩
      · rcases Nat.lt_or_eq_of_le q1 with q | rfl
        · refine ⟨(i3.early j q q2 q3).1, fun g g1 g2 g3 => ?_⟩
          rcases Nat.lt_or_eq_of_le g1 with g1 | rfl
          · exact (i3.early j q q2 q3).2 g g1 g2 g3
          · simp only [hA, hz] at g3; omega
        · simp only [hA, hz] at q3; omega
      · rcases Nat.lt_or_eq_of_le q1 with q | rfl
        · refine ⟨(i3.late g q q2 q3).1, fun j g1 g2 g3 => ?_⟩
          rcases Nat.lt_or_eq_of_le g1 with g1 | rfl
          · exact (i3.late g q q2 q3).2 j g1 g2 g3
          · simp only [hA, hz] at g3; omega
        · simp only [hA, hz] at q3; omega
      · rcases Nat.lt_or_eq_of_le q1 with q | rfl
        · exact i3.float g q q2 q3
        · simp only [hA, hz] at q3; omega
    · rename_i hz
      obtain ⟨hall, h6⟩ := bif_ok h6
      obtain ⟨i1, i2, i3⟩ := ih (k + 1) hs' hk1 h6
      refine ⟨i1, i2.cons step1 step2, ⟨fun j q1 q2 q3 => ?_, fun g q1 q2 q3 => ?_, fun g q1 q2 q3 => ?_⟩⟩
      · rcases Nat.lt_or_eq_of_le q1 with q | rfl
        · refine ⟨(i3.early j q q2 q3).1, fun g g1 g2 g3 => ?_⟩
          rcases Nat.lt_or_eq_of_le g1 with g1 | rfl
          · exact (i3.early j q q2 q3).2 g g1 g2 g3
          · simp only [hA, hz] at g3; omega
        · refine ⟨fun g hg => ?_, fun g g1 g2 => by omega⟩
          simp only [hA, hV]
          have := List.all_eq_true.1 hall g hg
          simpa only [Bool.or_eq_true] using this
      · rcases Nat.lt_or_eq_of_le q1 with q | rfl
        · refine ⟨fun x hx => (i3.late g q q2 q3).1 x (by simp [hx]), fun j g1 g2 g3 => ?_⟩
          rcases Nat.lt_or_eq_of_le g1 with g1 | rfl
          · exact (i3.late g q q2 q3).2 j g1 g2 g3
          · have := (i3.late g q q2 q3).1 (s k, a, v) (by simp)
            simp only [hA, hV]
            exact this
        · simp only [hA, hz] at q3; omega
      · rcases Nat.lt_or_eq_of_le q1 with q | rfl
        · exact i3.float g q q2 q3
        · simp only [hA, hz] at q3; omega
    · rename_i hz0 hz1
      have hz : 2 ≤ kindAt ops (s k) a := by
        rcases Nat.lt_or_ge (kindAt ops (s k) a) 2 with hlt | hge
        · exfalso
          have : kindAt ops (s k) a = 0 ∨ kindAt ops (s k) a = 1 := by omega
          rcases this with e | e
          · exact hz0 e
          · exact hz1 e
        · exact hge
      obtain ⟨hall, h6⟩ := bif_ok h6
      obtain ⟨i1, i2, i3⟩ := ih (k + 1) hs' hk1 h6
      rw [Bool.and_eq_true] at hall
      refine ⟨i1, i2.cons step1 step2, ⟨fun j q1 q2 q3 => ?_, fun g q1 q2 q3 => ?_, fun g q1 q2 q3 => ?_⟩⟩
      · rcases Nat.lt_or_eq_of_le q1 with q | rfl
        · refine ⟨fun g hg => (i3.early j q q2 q3).1 g (by simp [hg]), fun g g1 g2 g3 => ?_⟩
          rcases Nat.lt_or_eq_of_le g1 with g1 | rfl
          · exact (i3.early j q q2 q3).2 g g1 g2 g3
          · have := (i3.early j q q2 q3).1 (s k, S) (by simp)
            simp only [hT]
            exact this
        · simp only [hA] at q3; omega
      · rcases Nat.lt_or_eq_of_le q1 with q | rfl
        · refine ⟨(i3.late g q q2 q3).1, fun j g1 g2 g3 => ?_⟩
          rcases Nat.lt_or_eq_of_le g1 with g1 | rfl
          · exact (i3.late g q q2 q3).2 j g1 g2 g3
          · simp only [hA] at g3; omega
        · refine ⟨fun x hx => ?_, fun j g1 g2 => by omega⟩
          simp only [hk1]
          have := List.all_eq_true.1 hall.1 x hx
          simpa only [Bool.or_eq_true] using this
      · rcases Nat.lt_or_eq_of_le q1 with q | rfl
        · exact i3.float g q q2 q3
        · intro f hf
          simp only [hk1]
          have := List.all_eq_true.1 hall.2 f hf
          simpa only [Bool.or_eq_true] using this

/-! ### Slots -/
/-- The last of the first m operations, of those in p, that writes slot t. -/
def lastW (d : Nat → Option Tmp) (p : Nat → Bool) (t : Tmp) : Nat → Option Nat
  | 0 => none
  | m + 1 => if p m = true ∧ d m = some t then some m else lastW d p t m

def slotV (d : Nat → Option Tmp) (V : Nat → AV) (a : AAct) (p : Nat → Bool) (n : Nat) (t : Tmp) : AV := match lastW d p t n with | some i => V i | none => a.get t

theorem lastW_congr {d : Nat → Option Tmp} {p q : Nat → Bool} {t : Tmp} : ∀ (n : Nat), (∀ i, i < n → d i = some t → p i = q i) → lastW d p t n = lastW d q t n := by
  intro n
  induction n with
  | zero => intro _; rfl
  | succ n ih =>
    intro h
    simp only [lastW]
    by_cases hd : d n = some t
    · rw [h n (by omega) hd, ih fun i hi => h i (by omega)]
    · rw [if_neg (fun c => hd c.2), if_neg (fun c => hd c.2), ih fun i hi => h i (by omega)]

theorem lastW_add {d : Nat → Option Tmp} {p q : Nat → Bool} {t : Tmp} {j : Nat} (hp : p j = false) (hq : q j = true) (ho : ∀ i, i ≠ j → q i = p i)
    (hlast : d j = some t → ∀ i, p i = true → d i = some t → i < j) : ∀ (n : Nat), lastW d q t n = if j < n ∧ d j = some t then some j else lastW d p t n := by
  intro n
  induction n with
  | zero => rfl
  | succ n ih =>
    simp only [lastW, ih]
    by_cases hn : n = j
    · subst hn
      rw [hp, hq]
      by_cases hd : d n = some t
      · rw [if_pos ⟨rfl, hd⟩, if_pos ⟨by omega, hd⟩]
      · rw [if_neg (fun c => hd c.2), if_neg (fun c => hd c.2), if_neg (fun c => hd c.2), if_neg (fun c => by simp at c)]
    · rw [ho n hn]
      by_cases hpn : p n = true ∧ d n = some t
      · rw [if_pos hpn, if_pos hpn]
        by_cases hd : d j = some t
        · have := hlast hd n hpn.1 hpn.2
          rw [if_neg (by omega)]
        · rw [if_neg (fun c => hd c.2)]
      · rw [if_neg hpn, if_neg hpn]
        by_cases hd : d j = some t
        · by_cases hj : j < n
          · rw [if_pos ⟨hj, hd⟩, if_pos ⟨by omega, hd⟩]
          · rw [if_neg (fun c => hj c.1), if_neg (fun c => by omega)]
        · rw [if_neg (fun c => hd c.2), if_neg (fun c => hd c.2)]

/-- How many of the first m are not in p. -/
def rest (p : Nat → Bool) : Nat → Nat
  | 0 => 0
  | m + 1 => rest p m + (if p m = true then 0 else 1)

theorem rest_add {p q : Nat → Bool} {j : Nat} (hp : p j = false) (hq : q j = true) (ho : ∀ i, i ≠ j → q i = p i) : ∀ (n : Nat), rest q n + (if j < n then 1 else 0) = rest p n := by
  intro n
  induction n with
  | zero => rfl
  | succ n ih =>
    simp only [rest]
    by_cases hn : n = j
    · subst hn
      rw [hp, hq]
      simp at ih ⊢
      omega
    · rw [ho n hn]
      generalize (if p n = true then 0 else 1 : Nat) = z
      by_cases hj : j < n
      · have h2 : j < n + 1 := by omega
        rw [if_pos hj] at ih; rw [if_pos h2]; omega
      · have h2 : ¬ j < n + 1 := by omega
        rw [if_neg hj] at ih; rw [if_neg h2]; omega

theorem rest_zero {p : Nat → Bool} : ∀ (n : Nat), rest p n = 0 → ∀ i, i < n → p i = true := by
  intro n
  induction n with
  | zero => intro _ i hi; omega
  | succ n ih =>
    intro h i hi
    simp only [rest] at h
    by_cases hpn : p n = true
    · rcases Nat.lt_or_eq_of_le (Nat.le_of_lt_succ hi) with h' | rfl
      · exact ih (by omega) i h'
      · exact hpn
    · rw [if_neg hpn] at h; omega

/-- The first of a stretch, or none. -/
theorem first_or_none (p : Nat → Prop) : ∀ (m k : Nat), (∀ i, k ≤ i → i < k + m → ¬ p i) ∨ ∃ g, k ≤ g ∧ g < k + m ∧ p g ∧ ∀ i, k ≤ i → i < g → ¬ p i := by
  intro m
  induction m with
  | zero => intro k; exact .inl fun i h1 h2 => by omega
  | succ m ih =>
    intro k
    rcases ih k with h | ⟨g, h1, h2, h3, h4⟩
    · by_cases hp : p (k + m)
      · exact .inr ⟨k + m, by omega, by omega, hp, h⟩
      · refine .inl fun i h1 h2 => ?_
        rcases Nat.lt_or_ge i (k + m) with h' | h'
        · exact h i h1 h'
        · have : i = k + m := by omega
          rw [this]; exact hp
    · exact .inr ⟨g, h1, by omega, h3, h4⟩

/-- The last of a stretch, or none. -/
theorem last_or_none (p : Nat → Prop) : ∀ (m k : Nat), (∀ i, k ≤ i → i < k + m → ¬ p i) ∨ ∃ g, k ≤ g ∧ g < k + m ∧ p g ∧ ∀ i, g < i → i < k + m → ¬ p i := by
  intro m
  induction m with
  | zero => intro k; exact .inl fun i h1 h2 => by omega
  | succ m ih =>
    intro k
    by_cases hp : p (k + m)
    · exact .inr ⟨k + m, by omega, by omega, hp, fun i h1 h2 => by omega⟩
    · rcases ih k with h | ⟨g, h1, h2, h3, h4⟩
      · refine .inl fun i h1 h2 => ?_
        rcases Nat.lt_or_ge i (k + m) with h' | h'
        · exact h i h1 h'
        · have : i = k + m := by omega
          rw [this]; exact hp
      · refine .inr ⟨g, h1, by omega, h3, fun i h5 h6 => ?_⟩
        rcases Nat.lt_or_ge i (k + m) with h' | h'
        · exact h4 i h5 h'
        · have : i = k + m := by omega
          rw [this]; exact hp
end

end Go.Am
