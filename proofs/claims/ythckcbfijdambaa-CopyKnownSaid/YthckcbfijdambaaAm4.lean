/- How abstract values and the abstract heap stand to the model's values and worlds. -/
import Derived.Test.YthckcbfijdambaaAm3
import Derived.Below
namespace Go.Am
open Go.RowKit

theorem or_snd {a b c : Prop} (h : a ∨ b) (f : b → c) : a ∨ c := h.elim .inl fun x => .inr (f x)

theorem beq_false {a b : Nat} : Nat.beq a b = false ↔ a ≠ b :=
  ⟨fun h e => by subst e; simp at h, fun h => by cases hb : Nat.beq a b with | false => rfl | true => exact absurd (Nat.eq_of_beq_eq_true hb) h⟩

/-! ### The tree of numbers -/
theorem Trie.get_put_same {α : Type} : ∀ (f : Nat) (t : Trie α) (n : Nat) (x : α), n < f → (Trie.put f t n x).get n = some x
  | 0, _, _, _, h => by omega
  | f + 1, .leaf, n, x, h => by
    simp only [Trie.put]
    cases h0 : Nat.beq n 0 with
    | true => simp [Trie.get, h0]
    | false =>
      have hn : n ≠ 0 := fun e => by rw [e] at h0; cases h0
      cases h1 : Nat.beq (n % 2) 1 with
      | true => simp only [cond_false, cond_true, Trie.get, h0, h1]; exact Trie.get_put_same f _ _ _ (by omega)
      | false => simp only [cond_false, Trie.get, h0, h1]; exact Trie.get_put_same f _ _ _ (by omega)
  | f + 1, .node v l r, n, x, h => by
    simp only [Trie.put]
    cases h0 : Nat.beq n 0 with
    | true => simp [Trie.get, h0]
    | false =>
      have hn : n ≠ 0 := fun e => by rw [e] at h0; cases h0
      cases h1 : Nat.beq (n % 2) 1 with
      | true => simp only [cond_false, cond_true, Trie.get, h0, h1]; exact Trie.get_put_same f _ _ _ (by omega)
      | false => simp only [cond_false, Trie.get, h0, h1]; exact Trie.get_put_same f _ _ _ (by omega)

theorem nat_halves {n m : Nat} (hne : n ≠ m) (hn : n ≠ 0) (hm : m ≠ 0) :
    (n % 2 = m % 2) → (n % 2 = 1 → n / 2 ≠ m / 2) ∧ (n % 2 ≠ 1 → n / 2 - 1 ≠ m / 2 - 1) := by
  intro h; omega

theorem Trie.get_put_ne {α : Type} : ∀ (f : Nat) (t : Trie α) (n m : Nat) (x : α), n ≠ m → (Trie.put f t n x).get m = t.get m
  | 0, _, _, _, _, _ => rfl
  | f + 1, .leaf, n, m, x, h => by
    simp only [Trie.put]
    cases h0 : Nat.beq n 0 with
    | true =>
      have e := Nat.eq_of_beq_eq_true h0
      have hm : Nat.beq m 0 = false := beq_false.2 (by omega)
      simp [Trie.get, hm]
    | false =>
      have hn : n ≠ 0 := fun e => by rw [e] at h0; cases h0
      cases hm : Nat.beq m 0 with
      | true => cases h1 : Nat.beq (n % 2) 1 <;> simp [Trie.get, hm]
      | false =>
        have hm0 : m ≠ 0 := fun e => by rw [e] at hm; cases hm
        cases h1 : Nat.beq (n % 2) 1 with
        | true =>
          have e1 := Nat.eq_of_beq_eq_true h1
          simp only [cond_false, cond_true, Trie.get, hm]
          cases h2 : Nat.beq (m % 2) 1 with
          | true =>
            have e2 := Nat.eq_of_beq_eq_true h2
            simp only [cond_true]
            rw [Trie.get_put_ne f _ _ _ _ ((nat_halves h hn hm0 (by omega)).1 e1)]; rfl
          | false => simp only [cond_false]
        | false =>
          have e1 : n % 2 ≠ 1 := beq_false.1 h1
          simp only [cond_false, Trie.get, hm]
          cases h2 : Nat.beq (m % 2) 1 with
          | true => simp only [cond_true]
          | false =>
            have e2 : m % 2 ≠ 1 := beq_false.1 h2
            simp only [cond_false]
            rw [Trie.get_put_ne f _ _ _ _ ((nat_halves h hn hm0 (by omega)).2 e1)]; rfl
  | f + 1, .node v l r, n, m, x, h => by
    simp only [Trie.put]
    cases h0 : Nat.beq n 0 with
    | true =>
      have e := Nat.eq_of_beq_eq_true h0
      have hm : Nat.beq m 0 = false := beq_false.2 (by omega)
      simp [Trie.get, hm]
    | false =>
      have hn : n ≠ 0 := fun e => by rw [e] at h0; cases h0
      cases hm : Nat.beq m 0 with
      | true => cases h1 : Nat.beq (n % 2) 1 <;> simp [Trie.get, hm]
      | false =>
        have hm0 : m ≠ 0 := fun e => by rw [e] at hm; cases hm
        cases h1 : Nat.beq (n % 2) 1 with
        | true =>
          have e1 := Nat.eq_of_beq_eq_true h1
          simp only [cond_false, cond_true, Trie.get, hm]
          cases h2 : Nat.beq (m % 2) 1 with
          | true =>
            have e2 := Nat.eq_of_beq_eq_true h2
            simp only [cond_true]
            rw [Trie.get_put_ne f _ _ _ _ ((nat_halves h hn hm0 (by omega)).1 e1)]
          | false => simp only [cond_false]
        | false =>
          have e1 : n % 2 ≠ 1 := beq_false.1 h1
          simp only [cond_false, Trie.get, hm]
          cases h2 : Nat.beq (m % 2) 1 with
          | true => simp only [cond_true]
          | false =>
            have e2 : m % 2 ≠ 1 := beq_false.1 h2
            simp only [cond_false]
            rw [Trie.get_put_ne f _ _ _ _ ((nat_halves h hn hm0 (by omega)).2 e1)]

@[simp] theorem Trie.get_set_same {α : Type} (t : Trie α) (n : Nat) (x : α) : (t.set n x).get n = some x := Trie.get_put_same _ _ _ _ (by omega)
theorem Trie.get_set_ne {α : Type} (t : Trie α) {n m : Nat} (x : α) (h : n ≠ m) : (t.set n x).get m = t.get m := Trie.get_put_ne _ _ _ _ _ h
theorem Trie.get_set {α : Type} (t : Trie α) (n m : Nat) (x : α) : (t.set n x).get m = if n = m then some x else t.get m := by
  by_cases h : n = m
  · subst h; simp
  · simp [Trie.get_set_ne t x h, h]

/-! ### Values -/
/-- What abstract numbers are, and which blocks nobody writes. -/
structure Ren where
  row : Nat → Nat → Option (Nat × Nat × Nat)
  imm : Nat → Option (Array Value)

def Ren.bare (r : Ren) : Ren := { row := fun _ _ => none, imm := r.imm }

inductive RelV : Ren → AV → Value → Prop
  | lit {r : Ren} (v : Value) : RelV r (.lit v) v
  | ptr {r : Ren} {id off ver b n u : Nat} (h : r.row id ver = some (b, n, u)) : RelV r (.ptr id off ver) (.pointer (some ⟨b, off, none⟩))
  | slice {r : Ren} {id off ver b n u len cap cap' : Nat} {exact : Bool} (h : r.row id ver = some (b, n, u)) (hn : off + cap' * u ≤ n) (hl : len ≤ cap) (hc : cap ≤ cap')
      (he : exact = true → cap' = cap) : RelV r (.slice id off ver exact len cap) (.slice (some ⟨b, off, none⟩) len cap')
  | tree {r : Ren} {u len b off cap : Nat} {cells : List AV} {c : Array Value} (hl : cells.length = len * u) (hc : len ≤ cap)
      (hi : cells = [] ∨ r.imm b = some c ∧ off + cells.length ≤ c.size) (hv : ∀ (i : Nat) (v : AV) (x : Value), cells[i]? = some v → c[off + i]? = some x → RelV r.bare v x) :
      RelV r (.tree u len cells) (.slice (some ⟨b, off, none⟩) len cap)
  | tptr {r : Ren} {b off : Nat} {cells : List AV} {c : Array Value} (hi : cells = [] ∨ r.imm b = some c ∧ off + cells.length ≤ c.size)
      (hv : ∀ (i : Nat) (v : AV) (x : Value), cells[i]? = some v → c[off + i]? = some x → RelV r.bare v x) : RelV r (.tptr cells) (.pointer (some ⟨b, off, none⟩))
  | empty {r : Ren} {b off : Nat} : RelV r .empty (.slice (some ⟨b, off, none⟩) 0 0)
  | map {r : Ren} {id b n u : Nat} (h : r.row id 0 = some (b, n, u)) : RelV r (.map id) (.map (some b))
  | func {r : Ren} {g : FuncId} {args cap : List AV} {xs ys : List Value} (h1 : args.length = xs.length) (h2 : cap.length = ys.length)
      (hx : ∀ (i : Nat) (v : AV) (x : Value), args[i]? = some v → xs[i]? = some x → RelV r v x) (hy : ∀ (i : Nat) (v : AV) (x : Value), cap[i]? = some v → ys[i]? = some x → RelV r v x) :
      RelV r (.func g args cap) (.func (.func g) xs.toArray ys.toArray)
  | yield {r : Ren} {l b n u : Nat} (h : r.row l 0 = some (b, n, u)) : RelV r (.yield l) (.func (.yield b) #[] #[])
  | iface {r : Ren} {t : TypeId} {v : AV} {x : Value} (h : RelV r v x) : RelV r (.iface t v) (.iface t x)
  | agg {r : Ren} {cs : List AV} {xs : List Value} (h1 : cs.length = xs.length) (hx : ∀ (i : Nat) (v : AV) (x : Value), cs[i]? = some v → xs[i]? = some x → RelV r v x) :
      RelV r (.agg cs) (.agg xs.toArray)
  | tuple {r : Ren} {cs : List AV} {xs : List Value} (h1 : cs.length = xs.length) (hx : ∀ (i : Nat) (v : AV) (x : Value), cs[i]? = some v → xs[i]? = some x → RelV r v x) :
      RelV r (.tuple cs) (.tuple xs.toArray)

/-- Lists of values, place by place. -/
def RelL (r : Ren) (as : List AV) (xs : List Value) : Prop :=
  as.length = xs.length ∧ ∀ (i : Nat) (v : AV) (x : Value), as[i]? = some v → xs[i]? = some x → RelV r v x

structure Ren.le (r r' : Ren) : Prop where
  row : ∀ id ver x, r.row id ver = some x → r'.row id ver = some x
  imm : ∀ b c, r.imm b = some c → r'.imm b = some c

theorem Ren.le.refl (r : Ren) : r.le r := ⟨fun _ _ _ h => h, fun _ _ h => h⟩
theorem Ren.le.trans {a b c : Ren} (h : a.le b) (k : b.le c) : a.le c := ⟨fun _ _ _ x => k.row _ _ _ (h.row _ _ _ x), fun _ _ x => k.imm _ _ (h.imm _ _ x)⟩
theorem Ren.le.bare {r r' : Ren} (h : r.le r') : r.bare.le r'.bare := ⟨fun _ _ _ h => by simp [Ren.bare] at h, h.imm⟩

theorem RelV.mono {r r' : Ren} {v : AV} {x : Value} (h : RelV r v x) (hr : r.le r') : RelV r' v x := by
  induction h generalizing r' with
  | lit v => exact .lit v
  | ptr h => exact .ptr (hr.row _ _ _ h)
  | slice h hn hl hc he => exact .slice (hr.row _ _ _ h) hn hl hc he
  | tree hl hc hi hv ih => exact .tree hl hc (or_snd hi fun k => ⟨hr.imm _ _ k.1, k.2⟩) fun i v x h1 h2 => ih i v x h1 h2 hr.bare
  | tptr hi hv ih => exact .tptr (or_snd hi fun k => ⟨hr.imm _ _ k.1, k.2⟩) fun i v x h1 h2 => ih i v x h1 h2 hr.bare
  | empty => exact .empty
  | map h => exact .map (hr.row _ _ _ h)
  | func h1 h2 hx hy ihx ihy => exact .func h1 h2 (fun i v x a b => ihx i v x a b hr) (fun i v x a b => ihy i v x a b hr)
  | yield h => exact .yield (hr.row _ _ _ h)
  | iface h ih => exact .iface (ih hr)
  | agg h1 hx ih => exact .agg h1 fun i v x a b => ih i v x a b hr
  | tuple h1 hx ih => exact .tuple h1 fun i v x a b => ih i v x a b hr

theorem RelL.mono {r r' : Ren} {as : List AV} {xs : List Value} (h : RelL r as xs) (hr : r.le r') : RelL r' as xs := ⟨h.1, fun i v x a b => (h.2 i v x a b).mono hr⟩
theorem RelL.nil (r : Ren) : RelL r [] [] := ⟨rfl, fun i v x h => by simp at h⟩
theorem RelL.cons {r : Ren} {a : AV} {x : Value} {as : List AV} {xs : List Value} (h : RelV r a x) (hs : RelL r as xs) : RelL r (a :: as) (x :: xs) := by
  refine ⟨by simp [hs.1], fun i v y h1 h2 => ?_⟩
  cases i with
  | zero => simp at h1 h2; subst h1; subst h2; exact h
  | succ i => simp at h1 h2; exact hs.2 i v y h1 h2
theorem RelL.head {r : Ren} {a : AV} {x : Value} {as : List AV} {xs : List Value} (h : RelL r (a :: as) (x :: xs)) : RelV r a x := h.2 0 a x rfl rfl
theorem RelL.tail {r : Ren} {a : AV} {x : Value} {as : List AV} {xs : List Value} (h : RelL r (a :: as) (x :: xs)) : RelL r as xs :=
  ⟨by have := h.1; simpa using this, fun i v y h1 h2 => h.2 (i + 1) v y (by simpa using h1) (by simpa using h2)⟩
theorem RelL.cons_inv {r : Ren} {a : AV} {as : List AV} {xs : List Value} (h : RelL r (a :: as) xs) : ∃ y ys, xs = y :: ys ∧ RelV r a y ∧ RelL r as ys := by
  cases xs with
  | nil => have := h.1; simp at this
  | cons y ys => exact ⟨y, ys, rfl, h.head, h.tail⟩
theorem RelL.nil_inv {r : Ren} {xs : List Value} (h : RelL r [] xs) : xs = [] := by
  have := h.1; simp at this; exact List.eq_nil_of_length_eq_zero this.symm
theorem RelL.get {r : Ren} {as : List AV} {xs : List Value} (h : RelL r as xs) {i : Nat} {v : AV} (hv : as[i]? = some v) : ∃ x, xs[i]? = some x ∧ RelV r v x := by
  have hlt : i < as.length := (List.getElem?_eq_some_iff.1 hv).1
  have hx : i < xs.length := by rw [← h.1]; exact hlt
  exact ⟨xs[i], List.getElem?_eq_getElem hx, h.2 i v _ hv (List.getElem?_eq_getElem hx)⟩
theorem RelL.append {r : Ren} {as bs : List AV} {xs ys : List Value} (h : RelL r as xs) (k : RelL r bs ys) : RelL r (as ++ bs) (xs ++ ys) := by
  induction as generalizing xs with
  | nil => rw [h.nil_inv]; simpa using k
  | cons a as ih =>
    obtain ⟨y, ys', rfl, h1, h2⟩ := h.cons_inv
    exact .cons h1 (ih h2)
theorem RelL.take {r : Ren} {as : List AV} {xs : List Value} (h : RelL r as xs) (n : Nat) : RelL r (as.take n) (xs.take n) := by
  refine ⟨by simp [h.1], fun i v x h1 h2 => ?_⟩
  rw [List.getElem?_take] at h1 h2
  split at h1
  · simp only [*, if_true] at h2; exact h.2 i v x h1 h2
  · cases h1
theorem RelL.drop {r : Ren} {as : List AV} {xs : List Value} (h : RelL r as xs) (n : Nat) : RelL r (as.drop n) (xs.drop n) := by
  refine ⟨by simp [h.1], fun i v x h1 h2 => ?_⟩
  rw [List.getElem?_drop] at h1 h2
  exact h.2 _ v x h1 h2

theorem ofV_rel (r : Ren) : ∀ (n : Nat) (v : Value), RelV r (ofV n v) v
  | 0, v => by cases v <;> exact .lit _
  | n + 1, v => by
    have hl : ∀ (cs : List Value), RelL r (cs.map (ofV n)) cs := fun cs => by
      induction cs with
      | nil => exact .nil r
      | cons c cs ih => exact .cons (ofV_rel r n c) ih
    cases v with
    | agg cs => exact .agg (xs := cs.toList) (hl cs.toList).1 (hl cs.toList).2
    | tuple cs => exact .tuple (xs := cs.toList) (hl cs.toList).1 (hl cs.toList).2
    | iface t v => exact .iface (ofV_rel r n v)
    | _ => exact .lit _

theorem ofV_map_rel (r : Ren) (n : Nat) (cs : List Value) : RelL r (cs.map (ofV n)) cs := by
  induction cs with
  | nil => exact .nil r
  | cons c cs ih => exact .cons (ofV_rel r n c) ih

theorem bind_ok {α β : Type} {m : R α} {f : α → R β} {y : β} (h : m.bind f = .ok y) : ∃ x, m = .ok x ∧ f x = .ok y := by
  cases m with
  | error e => simp [Except.bind] at h
  | ok x => exact ⟨x, rfl, by simpa [Except.bind] using h⟩

theorem ofOpt_ok {α : Type} {o : Option α} {s : String} {x : α} (h : ofOpt o s = .ok x) : o = some x := by
  cases o with
  | none => simp [ofOpt] at h
  | some y => simp [ofOpt] at h; rw [h]

theorem mapR_nil {α β : Type} (f : α → R β) : mapR f [] = .ok [] := rfl
theorem mapR_cons {α β : Type} {f : α → R β} {x : α} {l : List α} {r : List β} (h : mapR f (x :: l) = .ok r) : ∃ y ys, r = y :: ys ∧ f x = .ok y ∧ mapR f l = .ok ys := by
  obtain ⟨y, h1, h2⟩ := bind_ok h
  obtain ⟨ys, h3, h4⟩ := bind_ok h2
  simp at h4
  exact ⟨y, ys, h4.symm, h1, h3⟩

theorem toV_rel {r : Ren} : ∀ (n : Nat) {v : AV} {x u : Value}, RelV r v x → toV n v = .ok u → u = x := by
  intro n
  induction n with
  | zero =>
    intro v x u h hu
    cases h <;> simp [toV] at hu
    exact hu.symm
  | succ n ih =>
    intro v x u h hu
    have hl : ∀ (cs : List AV) (xs us : List Value), RelL r cs xs → mapR (toV n) cs = .ok us → us = xs := by
      intro cs
      induction cs with
      | nil => intro xs us h1 h2; rw [h1.nil_inv]; simp [mapR] at h2; exact h2
      | cons c cs ihc =>
        intro xs us h1 h2
        obtain ⟨y, ys, rfl, hy, hys⟩ := h1.cons_inv
        obtain ⟨z, zs, rfl, hz, hzs⟩ := mapR_cons h2
        rw [ih hy hz, ihc _ _ hys hzs]
    cases h with
    | lit v => simp [toV] at hu; exact hu.symm
    | agg h1 hx =>
      obtain ⟨l, h2, h3⟩ := bind_ok hu
      simp at h3
      rw [← h3, hl _ _ _ ⟨h1, hx⟩ h2]
    | tuple h1 hx =>
      obtain ⟨l, h2, h3⟩ := bind_ok hu
      simp at h3
      rw [← h3, hl _ _ _ ⟨h1, hx⟩ h2]
    | iface h =>
      obtain ⟨l, h2, h3⟩ := bind_ok hu
      simp at h3
      rw [← h3, ih h h2]
    | _ => simp [toV] at hu

theorem toV_rels {r : Ren} (n : Nat) : ∀ (cs : List AV) (xs us : List Value), RelL r cs xs → mapR (toV n) cs = .ok us → us = xs := by
  intro cs
  induction cs with
  | nil => intro xs us h1 h2; rw [h1.nil_inv]; simp [mapR] at h2; exact h2
  | cons c cs ihc =>
    intro xs us h1 h2
    obtain ⟨y, ys, rfl, hy, hys⟩ := h1.cons_inv
    obtain ⟨z, zs, rfl, hz, hzs⟩ := mapR_cons h2
    rw [toV_rel n hy hz, ihc _ _ hys hzs]

theorem lit_rels (r : Ren) (xs : List Value) : RelL r (xs.map .lit) xs := by
  induction xs with
  | nil => exact .nil r
  | cons x xs ih => exact .cons (.lit x) ih

/-- The cells of related values. -/
theorem RelV.cells {r : Ren} {v : AV} {x : Value} (h : RelV r v x) : RelL r (cellsOf v) x.cells.toList := by
  have one : ∀ {v : AV} {x : Value}, RelV r v x → RelL r [v] [x] := fun h => .cons h (.nil r)
  cases h with
  | agg h1 hx => exact ⟨by simpa [cellsOf, Value.cells] using h1, fun i v x a b => hx i v x a (by simpa [Value.cells] using b)⟩
  | lit =>
    cases x with
    | agg cs => simpa [cellsOf, Value.cells] using lit_rels r cs.toList
    | _ => exact one (.lit _)
  | ptr h => exact one (.ptr h)
  | slice h hn hl hc he => exact one (.slice h hn hl hc he)
  | tree hl hc hi hv => exact one (.tree hl hc hi hv)
  | tptr hi hv => exact one (.tptr hi hv)
  | empty => exact one .empty
  | map h => exact one (.map h)
  | func h1 h2 hx hy => exact one (.func h1 h2 hx hy)
  | yield h => exact one (.yield h)
  | iface h => exact one (.iface h)
  | tuple h1 hx => exact one (.tuple h1 hx)

end Go.Am
