/- Maps and lengths, abstractly and in the model. -/
import Derived.Test.YthckcbfijdambaaAm10
namespace Go.Am
open Go.RowKit

theorem pureVal_bind {α β : Type} {P : Program} : ∀ {m : Sem α} {f : α → Sem β} {b : β}, pureVal P (m >>= f) = some b → ∃ a, pureVal P m = some a ∧ pureVal P (f a) = some b := by
  intro m
  induction m with
  | pure x => intro f b h; exact ⟨x, rfl, h⟩
  | program k ih => intro f b h; exact ih P h
  | mark x k ih => intro f b h; exact ih h
  | _ => intro f b h; cases h

/-- Entries with the same keys. -/
def SameKeys (as bs : List MapEntry) : Prop := as.map (·.key) = bs.map (·.key)

theorem SameKeys.cons_inv {a : MapEntry} {as bs : List MapEntry} (h : SameKeys (a :: as) bs) : ∃ b bs', bs = b :: bs' ∧ a.key = b.key ∧ SameKeys as bs' := by
  cases bs with
  | nil => simp [SameKeys] at h
  | cons b bs' => simp [SameKeys] at h; exact ⟨b, bs', rfl, h.1, h.2⟩

/-- What is found, in entries that begin at place i. -/
def Found (bs : List MapEntry) (i : Nat) (r : Option (Nat × Value)) (r' : Option (Nat × Value)) : Prop :=
  match r with
  | none => r' = none
  | some (j, _) => i ≤ j ∧ ∃ x, bs[j - i]? = some x ∧ r' = some (j, x.val)

theorem Found.shift {b : MapEntry} {bs : List MapEntry} {i : Nat} {r r' : Option (Nat × Value)} (h : Found bs (i + 1) r r') : Found (b :: bs) i r r' := by
  cases r with
  | none => exact h
  | some p =>
    obtain ⟨j, y⟩ := p
    obtain ⟨h1, x, h2, h3⟩ := h
    refine ⟨by omega, x, ?_, h3⟩
    have : j - i = (j - (i + 1)) + 1 := by omega
    rw [this, List.getElem?_cons_succ]
    exact h2

theorem findNow_same {kind : TypeDesc} {k : Value} : ∀ (as bs : List MapEntry) (i : Nat), SameKeys as bs →
    (match Instr.findNow kind k as i with
      | none => Instr.findNow kind k bs i = none
      | some r => ∃ r', Instr.findNow kind k bs i = some r' ∧ Found bs i r r') := by
  intro as
  induction as with
  | nil =>
    intro bs i h
    have : bs = [] := by cases bs with | nil => rfl | cons b bs => simp [SameKeys] at h
    subst this
    exact ⟨none, rfl, rfl⟩
  | cons a as ih =>
    intro bs i h
    obtain ⟨b, bs', rfl, hk, hs⟩ := h.cons_inv
    simp only [Instr.findNow, ← hk]
    cases hn : Instr.sameNow kind k a.key with
    | none => rfl
    | some t =>
      cases t with
      | true => exact ⟨_, rfl, Nat.le_refl _, b, by simp, rfl⟩
      | false =>
        have := ih bs' (i + 1) hs
        simp only []
        cases hf : Instr.findNow kind k as (i + 1) with
        | none => rw [hf] at this; exact this
        | some r =>
          rw [hf] at this
          obtain ⟨r', h1, h2⟩ := this
          exact ⟨r', h1, h2.shift⟩

theorem findAsking_same {P : Program} {kt : TypeId} {k : Value} : ∀ (as bs : List MapEntry) (i : Nat) (r : Option (Nat × Value)), SameKeys as bs →
    pureVal P (Instr.findAsking kt k as i) = some r → ∃ r', (∀ w : World, (Instr.findAsking kt k bs i).run P w = .ok r' w) ∧ Found bs i r r' := by
  intro as
  induction as with
  | nil =>
    intro bs i r h hp
    have : bs = [] := by cases bs with | nil => rfl | cons b bs => simp [SameKeys] at h
    subst this
    simp only [Instr.findAsking] at hp
    cases hp
    exact ⟨none, fun w => rfl, rfl⟩
  | cons a as ih =>
    intro bs i r h hp
    obtain ⟨b, bs', rfl, hk, hs⟩ := h.cons_inv
    simp only [Instr.findAsking] at hp
    obtain ⟨t, h1, h2⟩ := pureVal_bind hp
    have heq := fun w : World => pureVal_run h1 w
    cases t with
    | true =>
      simp only [if_true] at h2
      cases h2
      refine ⟨some (i, b.val), fun w => ?_, Nat.le_refl _, b, by simp, rfl⟩
      simp only [Instr.findAsking, ← hk]
      rw [run_bind_ok (heq w)]
      rfl
    | false =>
      simp only [Bool.false_eq_true, if_false] at h2
      obtain ⟨r', h3, h4⟩ := ih bs' (i + 1) r hs h2
      refine ⟨r', fun w => ?_, h4.shift⟩
      simp only [Instr.findAsking, ← hk]
      rw [run_bind_ok (heq w)]
      simp only [Bool.false_eq_true, if_false]
      exact h3 w

theorem findKey_same {P : Program} {kt : TypeId} {k : Value} {as bs : List MapEntry} {r : Option (Nat × Value)} (h : SameKeys as bs) (hp : pureVal P (Instr.findKey kt k as) = some r) :
    ∃ r', (∀ w : World, (Instr.findKey kt k bs).run P w = .ok r' w) ∧ Found bs 0 r r' := by
  unfold Instr.findKey at hp
  obtain ⟨d, h1, h2⟩ := pureVal_bind hp
  have hd := fun w : World => pureVal_run h1 w
  have hn := findNow_same (kind := d) (k := k) as bs 0 h
  cases hf : Instr.findNow d k as 0 with
  | none =>
    rw [hf] at hn h2
    simp only [] at hn h2
    obtain ⟨r', h3, h4⟩ := findAsking_same as bs 0 r h h2
    refine ⟨r', fun w => ?_, h4⟩
    unfold Instr.findKey
    rw [run_bind_ok (hd w)]
    rw [hn]
    exact h3 w
  | some r0 =>
    rw [hf] at hn h2
    simp only [] at hn h2
    cases h2
    obtain ⟨r', h3, h4⟩ := hn
    refine ⟨r', fun w => ?_, h4⟩
    unfold Instr.findKey
    rw [run_bind_ok (hd w), h3]
    rfl

section
variable {E : Env} (hE : EnvOk E) {r : Ren} {S : St} {w : World}
include hE

omit hE in
theorem sameKeys_of {es : List (Value × AV × Nat)} {xs : List MapEntry} (h : RelEs r es xs) : SameKeys (keysOf es) xs := by
  apply List.ext_getElem?
  intro i
  simp only [keysOf, List.getElem?_map]
  cases he : es[i]? with
  | none =>
    have : xs.length ≤ i := by rw [← h.1]; exact List.getElem?_eq_none_iff.1 he
    simp [List.getElem?_eq_none this]
  | some e =>
    have hlt : i < es.length := (List.getElem?_eq_some_iff.1 he).1
    have hlt' : i < xs.length := by rw [← h.1]; exact hlt
    have hx := List.getElem?_eq_getElem hlt'
    obtain ⟨h1, _⟩ := h.2 i e _ he hx
    simp [hx, h1]

omit hE in
theorem findAt_rel {kt : TypeId} {k : Value} {es : List (Value × AV × Nat)} {xs : List MapEntry} {e : Bool} {i : Option Nat} (hx : RelEs r es xs) (h : findAt E kt k es e = .ok i) :
    (Instr.checkKey e 10000 kt k).run E.P w = .ok () w ∧ ∃ f, (Instr.findKey kt k xs).run E.P w = .ok f w ∧
      (match i with | none => f = none | some j => ∃ x, xs[j]? = some x ∧ f = some (j, x.val)) := by
  obtain ⟨u, h1, h2⟩ := bind_ok h
  obtain ⟨q, h3, h4⟩ := bind_ok h2
  cases h4
  refine ⟨pureVal_run (ofOpt_ok h1) w, ?_⟩
  obtain ⟨f, h5, h6⟩ := findKey_same (sameKeys_of hx) (ofOpt_ok h3)
  refine ⟨f, h5 w, ?_⟩
  cases q with
  | none => exact h6
  | some p =>
    obtain ⟨j, y⟩ := p
    obtain ⟨_, x, h7, h8⟩ := h6
    exact ⟨x, by simpa using h7, h8⟩

omit hE in
theorem mapOf_ok {id : Nat} {x : List (Value × AV × Nat) × Nat} (h : mapOf S id = .ok x) : S.heap.get id = some (.map x.1 x.2) := by
  unfold mapOf at h
  split at h
  · rename_i es c hg
    cases h
    exact hg
  · cases h

omit hE in
theorem map_rel (hw : RelW r S w) {id b n u : Nat} {es : List (Value × AV × Nat)} {c : Nat} (hr : r.row id 0 = some (b, n, u)) (h : mapOf S id = .ok (es, c)) :
    ∃ xs : Array MapEntry, w.heap[b]? = some (.map xs c) ∧ RelEs r es xs.toList := (hw.obj _ _ (mapOf_ok h) _ _ _ _ hr).2

omit hE in
theorem run_getMap {P : Program} {b c : Nat} {xs : Array MapEntry} (h : w.heap[b]? = some (.map xs c)) : (getObj b).run P w = .ok (.map xs c) w := by
  simp [getObj, Sem.run, h]

omit hE in
theorem run_setMap {P : Program} {b c : Nat} {xs : Array MapEntry} (o : Obj) (h : w.heap[b]? = some (.map xs c)) : (setObj b o).run P w = .ok () (w.putObj b o) := by
  simp [setObj, Sem.run, h, World.putObj]

omit hE in
theorem isEmpty_rel {es : List (Value × AV × Nat)} {xs : Array MapEntry} (h : RelEs r es xs.toList) : es.isEmpty = xs.isEmpty := by
  have := h.1
  simp only [Array.length_toList] at this
  cases es with
  | nil =>
    have h0 : xs.size = 0 := this.symm
    have : xs = #[] := Array.eq_empty_of_size_eq_zero h0
    subst this
    rfl
  | cons e es =>
    simp only [List.length_cons] at this
    have h0 : xs.size ≠ 0 := by omega
    simp only [List.isEmpty_cons, Array.isEmpty]
    exact (decide_eq_false h0).symm

theorem lookup_tail {kt et : TypeId} {key : Value} {es : List (Value × AV × Nat)} {xs : Array MapEntry} {ok : Bool} {v : AV} {at_ : Option Nat} (hrel : RelEs r es xs.toList)
    (h7 : findAt E kt key es es.isEmpty = .ok at_)
    (h8 : (match at_ with
      | some i => (ofOpt (es[i]?) "lookup place").bind fun e => .ok (bif ok then pairOf e.2.1 true else e.2.1)
      | none => (ofOpt (E.zro et) "zero").bind fun z => .ok (bif ok then pairOf (ofV 4 z) false else ofV 4 z)) = Except.ok v) :
    ∃ y, (Instr.checkKey xs.isEmpty 10000 kt key).run E.P w = .ok () w ∧ RelV r v y ∧
      ((∃ j x, (Instr.findKey kt key xs.toList).run E.P w = .ok (some (j, x)) w ∧ y = (if ok = true then .tuple #[x, .bool true] else x)) ∨
       (∃ z, (Instr.findKey kt key xs.toList).run E.P w = .ok none w ∧ (zeroValue et).run E.P w = .ok z w ∧ y = (if ok = true then .tuple #[z, .bool false] else z))) := by
  obtain ⟨f1, f, f2, f3⟩ := findAt_rel (w := w) hrel h7
  rw [isEmpty_rel hrel] at f1
  cases at_ with
  | none =>
    simp only [] at f3 h8
    obtain ⟨z, h9, h10⟩ := bind_ok h8
    subst f3
    have hz := run_zro hE (ofOpt_ok h9) w
    cases ok with
    | true => cases h10; exact ⟨_, f1, pair_rel (ofV_rel r 4 z) false, .inr ⟨z, f2, hz, rfl⟩⟩
    | false => cases h10; exact ⟨_, f1, ofV_rel r 4 z, .inr ⟨z, f2, hz, rfl⟩⟩
  | some j =>
    simp only [] at f3 h8
    obtain ⟨e, h9, h10⟩ := bind_ok h8
    obtain ⟨x, f4, f5⟩ := f3
    subst f5
    obtain ⟨_, _, hval⟩ := hrel.2 j e x (ofOpt_ok h9) f4
    cases ok with
    | true => cases h10; exact ⟨_, f1, pair_rel hval true, .inl ⟨j, x.val, f2, rfl⟩⟩
    | false => cases h10; exact ⟨_, f1, hval, .inl ⟨j, x.val, f2, rfl⟩⟩

theorem lookup_rel (hw : RelW r S w) {t : TypeId} {m k v : AV} {a b : Value} {ok : Bool} (hm : RelV r m a) (hk : RelV r k b) (h : alookup E S t m k ok = .ok v) :
    Gives E.P r w v (Instr.lookup t a b ok) := by
  obtain ⟨d, h1, h2⟩ := bind_ok h
  have hd := ofOpt_ok h1
  split at h2
  · rename_i kt et
    obtain ⟨es, h3, h4⟩ := bind_ok h2
    obtain ⟨key, h5, h6⟩ := bind_ok h4
    obtain ⟨at_, h7, h8⟩ := bind_ok h6
    have e := toV_rel 4 hk h5
    subst e
    unfold Gives Instr.lookup
    rw [run_bind_ok (run_und hE hd w)]
    simp only []
    unfold entriesOf at h3
    split at h3
    · cases h3
      have e := hm.lit_inv
      subst e
      have hrel : RelEs r [] (#[] : Array MapEntry).toList := ⟨rfl, fun i e x h => by simp at h⟩
      obtain ⟨y, k1, k2, k3⟩ := lookup_tail hE (w := w) hrel h7 h8
      refine ⟨y, ?_, k2⟩
      simp only []
      rw [run_bind_ok (a := (#[] : Array MapEntry)) (w1 := w) rfl]
      rcases k3 with ⟨j, x, g1, rfl⟩ | ⟨z, g1, g2, rfl⟩
      · rw [run_bind_ok k1, run_bind_ok g1]
        rfl
      · rw [run_bind_ok k1, run_bind_ok g1]
        simp only []
        rw [run_bind_ok g2]
        rfl
    · obtain ⟨⟨es', c⟩, h9, h10⟩ := bind_ok h3
      cases h10
      cases hm with
      | map hr =>
        obtain ⟨xs, h11, hrel⟩ := map_rel hw hr h9
        obtain ⟨y, k1, k2, k3⟩ := lookup_tail hE (w := w) hrel h7 h8
        refine ⟨y, ?_, k2⟩
        simp only []
        rw [run_bind_ok (run_getMap h11)]
        simp only []
        rw [run_bind_ok (a := xs) (w1 := w) rfl]
        rcases k3 with ⟨j, x, g1, rfl⟩ | ⟨z, g1, g2, rfl⟩
        · rw [run_bind_ok k1, run_bind_ok g1]
          rfl
        · rw [run_bind_ok k1, run_bind_ok g1]
          simp only []
          rw [run_bind_ok g2]
          rfl
    · cases h3
  · cases h2

/-! ### A map is written -/
omit hE in
theorem setAt_get {α : Type} : ∀ (l : List α) (i : Nat) (x : α) (k : Nat), (setAt l i x)[k]? = if k = i ∧ i < l.length then some x else l[k]?
  | [], i, x, k => by simp [setAt]
  | y :: l, 0, x, k => by
    cases k with
    | zero => simp [setAt]
    | succ k => simp [setAt]
  | y :: l, i + 1, x, k => by
    cases k with
    | zero => simp [setAt]
    | succ k => simp [setAt, setAt_get l i x k]

omit hE in
theorem setAt_length {α : Type} : ∀ (l : List α) (i : Nat) (x : α), (setAt l i x).length = l.length
  | [], _, _ => rfl
  | _ :: _, 0, _ => rfl
  | _ :: l, i + 1, x => by simp [setAt, setAt_length l i x]

omit hE in
theorem modify_rel {es : List (Value × AV × Nat)} {xs : Array MapEntry} {i : Nat} {e : Value × AV × Nat} {f : MapEntry → MapEntry} (h : RelEs r es xs.toList)
    (hf : ∀ x, xs[i]? = some x → (f x).key = e.1 ∧ (f x).born = e.2.2 ∧ RelV r e.2.1 (f x).val) : RelEs r (setAt es i e) (xs.modify i f).toList := by
  have hl := h.1
  simp only [Array.length_toList] at hl
  refine ⟨by simp [setAt_length, hl], fun k e' x h1 h2 => ?_⟩
  have h2 : (xs.modify i f)[k]? = some x := by rw [← Array.getElem?_toList]; exact h2
  rw [Array.getElem?_modify] at h2
  rw [setAt_get] at h1
  by_cases hk : i = k
  · subst hk
    simp only [if_true] at h2
    cases hx : xs[i]? with
    | none => simp [hx] at h2
    | some y =>
      simp only [hx, Option.map_some, Option.some.injEq] at h2
      have hlt : i < es.length := by rw [hl]; exact (Array.getElem?_eq_some_iff.1 hx).1
      rw [if_pos ⟨rfl, hlt⟩] at h1
      cases h1
      subst h2
      exact hf y hx
  · simp only [if_neg hk] at h2
    rw [if_neg (fun hh => hk hh.1.symm)] at h1
    exact h.2 k e' x h1 (by simpa using h2)

omit hE in
theorem push_rel {es : List (Value × AV × Nat)} {xs : Array MapEntry} {e : Value × AV × Nat} {x : MapEntry} (h : RelEs r es xs.toList)
    (hx : x.key = e.1 ∧ x.born = e.2.2 ∧ RelV r e.2.1 x.val) : RelEs r (es ++ [e]) (xs.push x).toList := by
  have hl := h.1
  simp only [Array.length_toList] at hl
  refine ⟨by simp [hl], fun k e' y h1 h2 => ?_⟩
  have h2 : (xs.push x)[k]? = some y := by rw [← Array.getElem?_toList]; exact h2
  rw [Array.getElem?_push] at h2
  by_cases hk : k = xs.size
  · rw [if_pos hk] at h2
    cases h2
    rw [List.getElem?_append_right (by omega)] at h1
    have : k - es.length = 0 := by omega
    rw [this] at h1
    cases h1
    exact hx
  · rw [if_neg hk] at h2
    have hlt : k < xs.size := (Array.getElem?_eq_some_iff.1 h2).1
    rw [List.getElem?_append_left (by omega)] at h1
    exact h.2 k e' y h1 (by simpa using h2)

omit hE in
theorem write_map (hw : RelW r S w) {id b n u : Nat} (hr : r.row id 0 = some (b, n, u)) {es : List (Value × AV × Nat)} {c : Nat} {xs : Array MapEntry} (h : RelEs r es xs.toList)
    {es0 : List (Value × AV × Nat)} {c0 : Nat} (h0 : mapOf S id = .ok (es0, c0)) : Ext r S w r (S.write id (.map es c)) (w.putObj b (.map xs c)) := by
  refine hw.write hr _ _ fun ver b1 n1 u1 h1 => ?_
  have e := (hw.obj _ _ (mapOf_ok h0) _ _ _ _ h1).1
  subst e
  rw [hr] at h1
  cases h1
  exact ⟨rfl, xs, World.putObj_heap_same (hw.dom _ _ _ hr).2, h⟩
end
end Go.Am
