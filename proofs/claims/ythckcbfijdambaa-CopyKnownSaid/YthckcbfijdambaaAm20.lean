/- Soundness: how a function is entered and left. -/
import Derived.Test.YthckcbfijdambaaAm19
import Derived.RangeFuncLeaves
namespace Go.Am
open Go.RowKit

section
variable {E : Env} (hG : EnvGood E) {r : Ren} {S : St} {w : World}

theorem enterTmps_get : ∀ (vs : List AV) (k : Nat) (t : Trie AV) (i : Nat), (enterTmps k vs t).get i = if k ≤ i ∧ i < k + vs.length then vs[i - k]? else t.get i := by
  intro vs
  induction vs with
  | nil => intro k t i; rw [if_neg (by simp only [List.length_nil]; omega)]; rfl
  | cons v vs ih =>
    intro k t i
    rw [enterTmps, ih, Trie.get_set]
    by_cases h1 : k + 1 ≤ i ∧ i < k + 1 + vs.length
    · rw [if_pos h1, if_pos (by simp; omega)]
      have : i - k = (i - (k + 1)) + 1 := by omega
      rw [this, List.getElem?_cons_succ]
    · rw [if_neg h1]
      by_cases h2 : k = i
      · subst h2
        rw [if_pos rfl, if_pos (by simp)]
        simp
      · rw [if_neg h2, if_neg (by simp; omega)]

theorem enter_rel {fn : Func} {args : List AV} {xs : List Value} (ha : RelL r args xs) :
    RelA r (enterAct fn args) { tmps := xs.toArray ++ Array.replicate (fn.ntmps - xs.toArray.size) undef, defers := [] } := by
  refine ⟨by simp [enterAct, ha.1], fun t => ?_, rfl, fun i m d h => by simp [enterAct] at h⟩
  simp only [AAct.get, enterAct, enterTmps_get, Nat.zero_le, true_and, Nat.zero_add, Nat.sub_zero]
  by_cases ht : t < args.length
  · rw [if_pos ht]
    have hx : t < xs.length := ha.1 ▸ ht
    have e1 : args[t]? = some args[t] := List.getElem?_eq_getElem ht
    have e2 : xs[t]? = some xs[t] := List.getElem?_eq_getElem hx
    rw [e1]
    have := ha.2 t _ _ e1 e2
    simpa [Array.getElem?_append, hx] using this
  · rw [if_neg ht]
    have hx : ¬ t < xs.length := fun h => ht (ha.1 ▸ h)
    have : (xs.toArray ++ Array.replicate (fn.ntmps - xs.toArray.size) undef).getD t undef = undef := by
      simp only [Array.getD_eq_getD_getElem?, Array.getElem?_append]
      rw [if_neg (by simpa using hx)]
      by_cases h3 : t - xs.toArray.size < fn.ntmps - xs.toArray.size
      · rw [Array.getElem?_replicate, if_pos h3]; rfl
      · rw [Array.getElem?_replicate, if_neg h3]; rfl
    rw [this]
    exact undef_rel r

include hG in
theorem results_rel (hw : RelW r S w) {a : AAct} {act : Act} (ha : RelA r a act) : ∀ (l : List ResultVar) {vs : List AV}, resultsOf E S a l = .ok vs →
    ∃ xs : List Value, (l.mapM (fun | .tmp t => pure (act.tmps.getD t undef) | .cell p t => do loadVar t (← asAddr (act.tmps.getD p undef))) : Sem (List Value)).run E.P w = .ok xs w ∧ RelL r vs xs := by
  intro l
  induction l with
  | nil => intro vs h; cases h; exact ⟨[], rfl, rfl, fun i v x h => by simp at h⟩
  | cons c l ih =>
    intro vs h
    have cons : ∀ {v : AV} {x : Value} {vs : List AV} {xs : List Value}, RelV r v x → RelL r vs xs → RelL r (v :: vs) (x :: xs) := by
      intro v x vs xs h1 h2
      refine ⟨by simp [h2.1], fun i v' x' a b => ?_⟩
      cases i with
      | zero => simp at a b; subst a b; exact h1
      | succ i => simp at a b; exact h2.2 i v' x' a b
    cases c with
    | tmp t =>
      obtain ⟨vs', h1, h2⟩ := bind_ok h
      cases h2
      obtain ⟨xs, h3, h4⟩ := ih h1
      refine ⟨_ :: xs, ?_, cons (ha.get t) h4⟩
      rw [List.mapM_cons]
      refine (run_bind_ok (a := act.tmps.getD t undef) (w1 := w) rfl).trans ?_
      exact (run_bind_ok h3).trans rfl
    | cell p t =>
      obtain ⟨v, h0, h5⟩ := bind_ok h
      obtain ⟨vs', h1, h2⟩ := bind_ok h5
      cases h2
      obtain ⟨xs, h3, h4⟩ := ih h1
      obtain ⟨b, off, y, hx, k1, k2⟩ := loadVar_rel hG.ok hw (ha.get p) h0
      refine ⟨y :: xs, ?_, cons k2 h4⟩
      rw [List.mapM_cons]
      refine (run_bind_ok (a := y) (w1 := w) ?_).trans ((run_bind_ok h3).trans rfl)
      simp only [hx]
      exact (run_bind_ok (a := (⟨b, off, none⟩ : Addr)) (w1 := w) rfl).trans k1

include hG in
theorem finals_rel (hw : RelW r S w) {a : AAct} {act : Act} (ha : RelA r a act) {fn : Func} {vs : List AV} (h : resultsOf E S a fn.results.toList = .ok vs) :
    ∃ x, (results fn act.tmps).run E.P w = .ok x w ∧ RelV r (oneOrTuple vs) x := by
  obtain ⟨xs, h1, h2⟩ := results_rel hG hw ha _ h
  refine ⟨if h : xs.toArray.size = 1 then xs.toArray[0] else .tuple xs.toArray, ?_, ?_⟩
  · unfold results
    rw [Array.mapM_eq_mapM_toList]
    have : (Functor.map List.toArray (fn.results.toList.mapM (fun | .tmp t => pure (act.tmps.getD t undef) | .cell p t => do loadVar t (← asAddr (act.tmps.getD p undef))) : Sem (List Value))).run E.P w = .ok xs.toArray w := by
      rw [map_eq_pure_bind]
      exact (run_bind_ok h1).trans rfl
    exact (run_bind_ok this).trans rfl
  · unfold oneOrTuple
    split
    · rename_i v
      have hl := h2.1
      match xs, hl with
      | [x], _ => exact h2.2 0 v x rfl rfl
    · rename_i hne
      have : ¬ xs.toArray.size = 1 := by
        intro hs
        simp at hs
        have := h2.1
        match vs, this.trans hs with
        | [v], _ => exact hne v rfl
      rw [dif_neg this]
      exact .tuple h2.1 h2.2

/-- A function is left. -/
theorem leave_sim {F : Fence} {P : Program} {fn : Func} {tmps : Array Value} {R : Ending → World → Prop} : ∀ (ms : List Nat) (ds : List Deferred) {S S2 : St} {w : World}, RelW r S w →
    ds.length = ms.length → (∀ (i m : Nat) (d : Deferred), ms[i]? = some m → ds[i]? = some d → ∃ x, r.row m 0 = some x ∧ d = { target := .collected x.1, args := #[] }) → leave S ms = .ok S2 →
    (∀ w2, Ext r S w r S2 w2 → ∃ v, (results fn tmps).run P w2 = .ok v w2 ∧ R (.returned v) w2) → LeavesInM F 0 P fn tmps R ds .returning w := by
  intro ms
  induction ms with
  | nil =>
    intro ds S S2 w hw hl hm h hR
    cases h
    have : ds = [] := List.eq_nil_of_length_eq_zero hl
    subst this
    exact hR w (.refl hw)
  | cons m ms ih =>
    intro ds S S2 w hw hl hm h hR
    cases ds with
    | nil => simp at hl
    | cons d ds =>
    obtain ⟨x, hx, rfl⟩ := hm 0 m d rfl rfl
    unfold leave at h
    split at h
    · rename_i hg
      obtain ⟨b, n, u⟩ := x
      have ho := hw.obj _ _ hg _ _ _ _ hx
      have hb : w.heap[b]? = some (.deferred (some [])) := ho.2
      have x1 : Ext r S w r (S.write m (.dfr false)) (w.putObj b (.deferred none)) := hw.write hx _ _ fun ver b1 n1 u1 h' => by
        have e := (hw.obj _ _ hg _ _ _ _ h').1
        subst e
        rw [hx] at h'
        cases h'
        exact ⟨rfl, World.putObj_heap_same (hw.dom _ _ _ hx).2⟩
      refine ⟨by simp, .inl ⟨b, _, rfl, run_takeDeferred hb, ?_⟩⟩
      refine ih ds x1.rel (by simpa using hl) (fun i m' d' h1 h2 => hm (i + 1) m' d' (by simpa using h1) (by simpa using h2)) h fun w2 x2 => hR w2 (x1.trans x2)
    · cases h
end

end Go.Am
