/- Regions that draw their order: plain facts about single operations and about what comes before what. -/
import Derived.Test.YthckcbfijdambaaAm20
namespace Go.Am
open Go.RowKit

theorem aop_light {E : Env} {S S' : St} {ev : Operand → AV} {o : Oper} {nx : ANext} (hk : kindOf o < 2) (h : aop E S ev o = .ok (nx, S')) : S' = S ∧ ∃ v, nx = .val v := by
  unfold aop at h
  split at h
  case h_7 c ho =>
    simp only [kindOf, ho] at hk
    split at hk
    · rename_i hc
      unfold acall at h
      rw [hc] at h
      simp only [abuiltin] at h
      obtain ⟨v, h1, h2⟩ := bind_ok h
      cases h2
      exact ⟨rfl, _, rfl⟩
    · omega
  all_goals (rename_i ho; simp only [kindOf, ho] at hk; try omega)
  all_goals (try (obtain ⟨v, h1, rfl, rfl⟩ := valOf_ok h; exact ⟨rfl, _, rfl⟩))
  · cases h; exact ⟨rfl, _, rfl⟩
  · cases h; exact ⟨rfl, _, rfl⟩
  · unfold apick at h
    split at h
    · cases h; exact ⟨rfl, _, rfl⟩
    · cases h

theorem valOf_at {S S' S2 : St} {m : R AV} {nx : ANext} (h : valOf S m = .ok (nx, S')) : valOf S2 m = .ok (nx, S2) := by
  obtain ⟨v, h1, rfl, rfl⟩ := valOf_ok h
  subst h1
  rfl

theorem aop_inert {E : Env} {S S' S2 : St} {ev : Operand → AV} {o : Oper} {nx : ANext} (hk : kindOf o = 0) (h : aop E S ev o = .ok (nx, S')) : aop E S2 ev o = .ok (nx, S2) := by
  unfold aop at h ⊢
  split at h
  case h_7 c ho =>
    simp only [kindOf, ho] at hk
    split at hk <;> omega
  all_goals (rename_i ho; simp only [kindOf, ho] at hk; try omega)
  all_goals (try (exact valOf_at h))
  · cases h; rfl
  · cases h; rfl
  · unfold apick at h ⊢
    split at h
    · cases h; rfl
    · cases h

theorem aop_congr {E : Env} {S : St} {ev ev' : Operand → AV} {o : Oper} (h : ∀ x ∈ o.op.operands, ev x = ev' x) : aop E S ev o = aop E S ev' o := by
  obtain ⟨dst, op, type, pos, after, guard⟩ := o
  have pairs : ∀ ps : Array (Nat × Operand), (∀ x ∈ (ps.toList.map (·.2)).toArray, ev x = ev' x) → partsOf ev ps = partsOf ev' ps := fun ps hp => by
    unfold partsOf
    refine List.map_congr_left fun p hm => ?_
    have := hp p.2 (by simp; exact ⟨p.1, by simpa using hm⟩)
    simp [this]
  cases op <;> simp only [Op.operands] at h <;> simp only [aop]
  case build t ps => rw [pairs ps h]
  case buildSlice t n ps => rw [pairs ps h]
  case makeFunc fn first captured =>
    unfold amakeFunc
    rw [List.map_congr_left (l := first.toList) fun x hx => h x (by simp at hx; simp [hx]), List.map_congr_left (l := captured.toList) fun x hx => h x (by simp at hx; simp [hx])]
  case call c =>
    unfold acall
    have hargs : c.args.toList.map ev = c.args.toList.map ev' := List.map_congr_left fun x hx => h x (by simp at hx; simp [Call.operands, hx])
    rw [hargs]
    cases hc : c.callee with
    | value f => simp only [h f (by simp [Call.operands, hc])]
    | _ => rfl
  case makeMap t r => cases r <;> simp_all
  case slice t x lo hi mx => cases lo <;> cases hi <;> cases mx <;> simp_all
  all_goals (first | rfl | (simp_all; done))

theorem allSame_eq {f : AV → AV → Bool} (hf : ∀ a b, f a b = true → a = b) : ∀ xs ys, allSame f xs ys = true → xs = ys
  | [], [], _ => rfl
  | x :: xs, y :: ys, h => by
    simp only [allSame, Bool.and_eq_true] at h
    rw [hf _ _ h.1, allSame_eq hf _ _ h.2]
  | [], _ :: _, h => by simp [allSame] at h
  | _ :: _, [], h => by simp [allSame] at h

theorem sameLit_eq {a b : Value} (h : sameLit a b = true) : a = b := by
  unfold sameLit at h
  split at h <;> simp_all

theorem sameA_eq : ∀ (n : Nat) (v w : AV), sameA n v w = true → v = w := by
  intro n
  induction n with
  | zero => intro v w h; simp [sameA] at h
  | succ n ih =>
    intro v w h
    have ih' := allSame_eq ih
    unfold sameA at h
    split at h
    · rw [sameLit_eq h]
    · simp at h; simp [h]
    · simp at h; simp [h]
    · simp at h; simp [h]
    · simp at h; rw [ih' _ _ h.2]; simp [h.1]
    · rw [ih' _ _ h]
    · rfl
    · rw [ih' _ _ h]
    · rw [ih' _ _ h]
    · simp at h; rw [ih _ _ h.2]; simp [h.1]
    · cases h

/-! ### What comes before what -/
theorem one_bit {look : Nat → Nat} {o : Oper} {k : Nat} (h : (CheckFast.one look o).testBit k = true) : ∃ e ∈ o.after, Region.binds .any e = true ∧ (k = e.on ∨ (look e.on).testBit k = true) := by
  unfold CheckFast.one at h
  rw [← Array.foldl_toList] at h
  have key : ∀ (l : List Edge) (s : Nat), (l.foldl (fun s e => if Region.binds .any e then s ||| 2 ^ e.on ||| look e.on else s) s).testBit k = true →
      s.testBit k = true ∨ ∃ e ∈ l, Region.binds .any e = true ∧ (k = e.on ∨ (look e.on).testBit k = true) := by
    intro l
    induction l with
    | nil => intro s h; exact .inl h
    | cons e l ih =>
      intro s h
      rw [List.foldl_cons] at h
      rcases ih _ h with h1 | ⟨e', he, hb⟩
      · by_cases hbind : Region.binds .any e = true
        · rw [if_pos hbind] at h1
          simp only [Nat.testBit_or, Bool.or_eq_true, Nat.testBit_two_pow] at h1
          rcases h1 with (h1 | h1) | h1
          · exact .inl h1
          · exact .inr ⟨e, by simp, hbind, .inl (of_decide_eq_true h1).symm⟩
          · exact .inr ⟨e, by simp, hbind, .inr h1⟩
        · rw [if_neg hbind] at h1
          exact .inl h1
      · exact .inr ⟨e', by simp [he], hb⟩
  rcases key _ _ h with h1 | ⟨e, he, hb⟩
  · simp at h1
  · exact ⟨e, by simpa using he, hb⟩

theorem before_get : ∀ (l : List Oper) (A : Array Nat) (j : Nat), (j < A.size → (l.foldl (fun acc o => acc.push (CheckFast.one (fun i => acc.getD i 0) o)) A)[j]? = A[j]?) ∧
    (∀ o, l[j]? = some o → ∃ B : Array Nat, B.size = A.size + j ∧ (l.foldl (fun acc o => acc.push (CheckFast.one (fun i => acc.getD i 0) o)) A)[A.size + j]? = some (CheckFast.one (fun i => B.getD i 0) o) ∧
      ∀ i, i < B.size → (l.foldl (fun acc o => acc.push (CheckFast.one (fun i => acc.getD i 0) o)) A)[i]? = B[i]?) := by
  intro l
  induction l with
  | nil => intro A j; exact ⟨fun _ => rfl, fun o h => by simp at h⟩
  | cons p l ih =>
    intro A j
    rw [List.foldl_cons]
    have hs : (A.push (CheckFast.one (fun i => A.getD i 0) p)).size = A.size + 1 := by simp
    refine ⟨fun hj => ?_, fun o ho => ?_⟩
    · rw [(ih _ j).1 (by omega), Array.getElem?_push_lt hj]
      simp [hj]
    · cases j with
      | zero =>
        simp at ho
        subst ho
        refine ⟨A, by simp, ?_, fun i hi => ?_⟩
        · rw [(ih _ _).1 (by omega)]
          simp
        · rw [(ih _ i).1 (by omega), Array.getElem?_push_lt hi]
          simp [hi]
      | succ j =>
        obtain ⟨B, h1, h2, h3⟩ := (ih (A.push (CheckFast.one (fun i => A.getD i 0) p)) j).2 o (by simpa using ho)
        refine ⟨B, by omega, ?_, h3⟩
        have : A.size + (j + 1) = (A.push (CheckFast.one (fun i => A.getD i 0) p)).size + j := by omega
        rw [this]
        exact h2

/-- Whoever comes before an operation is one of those that it waits for, or comes before one of them. -/
theorem bit_spec {ops : Array Oper} {j k : Nat} {o : Oper} (ho : ops[j]? = some o) (hfront : ∀ e ∈ o.after, Region.binds .any e = true → e.on < j) (h : bitOf (CheckFast.beforeL ops.toList 0 []) j k = true) :
    ∃ e ∈ o.after, Region.binds .any e = true ∧ (k = e.on ∨ bitOf (CheckFast.beforeL ops.toList 0 []) e.on k = true) := by
  have e0 := CheckFast.beforeL_eq ops.toList #[]
  simp only [Array.size_empty, List.reverse_nil] at e0
  obtain ⟨B, h1, h2, h3⟩ := (before_get ops.toList #[] j).2 o (by simpa using ho)
  simp only [Array.size_empty, Nat.zero_add] at h1 h2
  have g : ∀ i, (CheckFast.beforeL ops.toList 0 []).getD i 0 = ((ops.toList.foldl (fun acc o => acc.push (CheckFast.one (fun i => acc.getD i 0) o)) #[])[i]?).getD 0 := by
    intro i
    rw [e0, List.getD_eq_getElem?_getD]
    simp
  unfold bitOf at h ⊢
  rw [g, h2, Option.getD_some] at h
  obtain ⟨e, he, hb, hk⟩ := one_bit h
  refine ⟨e, he, hb, or_snd hk fun hk => ?_⟩
  rw [g, h3 _ (by rw [h1]; exact hfront e he hb)]
  simpa only [Array.getD_eq_getD_getElem?] using hk

end Go.Am
