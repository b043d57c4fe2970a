/- Worlds: what an abstract heap says of a world; what a step of the abstract machine may change. -/
import Derived.Test.YthckcbfijdambaaAm4
namespace Go.Am
open Go.RowKit

/-! ### Runs of the model's small computations -/
theorem run_bind_ok {α β : Type} {P : Program} {m : Sem α} {f : α → Sem β} {w w1 : World} {a : α} (h : m.run P w = .ok a w1) :
    (m >>= f).run P w = (f a).run P w1 := by
  rw [Sem.run_bind, h]; rfl

theorem pureVal_run {α : Type} {P : Program} : ∀ {m : Sem α} {a : α}, pureVal P m = some a → ∀ w : World, m.run P w = .ok a w := by
  intro m
  induction m with
  | pure x => intro a h w; simp [pureVal] at h; simp [Sem.run, h]
  | program k ih => intro a h w; simp only [pureVal] at h; simp only [Sem.run]; exact ih P h w
  | mark x k ih => intro a h w; simp only [pureVal] at h; simp only [Sem.run]; exact ih h w
  | _ => intro a h; simp [pureVal] at h

section
variable {E : Env} (hE : EnvOk E)
include hE

theorem run_und {t : TypeId} {d : TypeDesc} (h : E.und t = some d) (w : World) : (underlying t).run E.P w = .ok d w := hE.und t d h w

theorem run_siz {t n : Nat} (h : E.siz t = some n) (w : World) : (sizeOf t).run E.P w = .ok n w := by
  obtain ⟨i, hi, rfl⟩ := hE.info t n h
  unfold sizeOf
  rw [run_bind_ok (hi w)]
  rfl

theorem run_zro {t : Nat} {z : Value} (h : E.zro t = some z) (w : World) : (zeroValue t).run E.P w = .ok z w := by
  obtain ⟨i, hi, hz⟩ := hE.zro t z h
  unfold zeroValue
  rw [run_bind_ok (hi w), hz]
  rfl

theorem run_isAgg {t : TypeId} {d : TypeDesc} (h : E.und t = some d) (w : World) : (isAgg t).run E.P w = .ok (isAggT d) w := by
  unfold isAgg
  rw [run_bind_ok (run_und hE h w)]
  cases d <;> rfl
end

/-! ### Worlds -/
/-- A slot's contents, of a frame or of a loop's record. -/
def RelT (r : Ren) (n : Nat) (tmps : Trie AV) (xs : Array Value) : Prop :=
  xs.size = n ∧ ∀ t, RelV r (match tmps.get t with | some v => v | none => undefA) (xs.getD t undef)

def RelEs (r : Ren) (es : List (Value × AV × Nat)) (xs : List MapEntry) : Prop :=
  es.length = xs.length ∧ ∀ (i : Nat) (e : Value × AV × Nat) (x : MapEntry), es[i]? = some e → xs[i]? = some x → x.key = e.1 ∧ x.born = e.2.2 ∧ RelV r e.2.1 x.val

/-- What lies at an abstract number lies in its block. -/
def RelO (r : Ren) (ver b n u : Nat) (w : World) : AObj → Prop
  | .row cs u' fl => u = u' ∧ ver ≤ cs.length ∧ (fl ≤ ver → ∃ c e, w.heap[b]? = some (.cells c e (0, 0)) ∧ c.size = n ∧ ver ≤ n ∧
      ∀ (i : Nat) (v : AV) (x : Value), i < ver → cs[i]? = some v → c[i]? = some x → RelV r v x)
  | .map es k => ver = 0 ∧ ∃ xs, w.heap[b]? = some (.map xs k) ∧ RelEs r es xs.toList
  | .str s pos => ver = 0 ∧ w.heap[b]? = some (.stringIter s pos)
  | .loop m tmps ps assign body st pending d => ver = 0 ∧ codeOk assign = true ∧ codeOk body = true ∧ ∃ l : Loop, w.heap[b]? = some (.loop l) ∧ l.state = st ∧ l.pending = pending ∧ l.params = ps.toArray ∧ l.assign = assign ∧ l.body = body ∧
      RelT r m tmps l.tmps ∧ ∃ x, r.row d 0 = some x ∧ l.defers = x.1
  | .dfr o => ver = 0 ∧ w.heap[b]? = some (.deferred (if o then some [] else none))

structure RelW (r : Ren) (S : St) (w : World) : Prop where
  dom : ∀ id ver x, r.row id ver = some x → id < S.next ∧ x.1 < w.heap.size
  inj : ∀ id ver x id' ver' x', r.row id ver = some x → r.row id' ver' = some x' → x.1 = x'.1 → id = id'
  imm : ∀ b c, r.imm b = some c → (∃ e fz, w.heap[b]? = some (.cells c e fz)) ∧ ∀ id ver x, r.row id ver = some x → x.1 ≠ b
  obj : ∀ id o, S.heap.get id = some o → ∀ ver b n u, r.row id ver = some (b, n, u) → RelO r ver b n u w o
  low : S.low ≤ S.next

/-- What may have turned. -/
structure Ext (r : Ren) (S : St) (w : World) (r' : Ren) (S' : St) (w' : World) : Prop where
  sub : r.le r'
  rel : RelW r' S' w'
  next : S.next ≤ S'.next
  low : S'.low ≤ S.low
  keep : ∀ id, id < S.next → id < S'.low → S'.heap.get id = S.heap.get id
  size : w.heap.size ≤ w'.heap.size
  os : w'.os = w.os
  tape : w'.tape = w.tape
  output : w'.output = w.output
  frame : ∀ b, b < w.heap.size → w'.heap[b]? = w.heap[b]? ∨ ∃ id ver x, r.row id ver = some x ∧ x.1 = b ∧ S'.low ≤ id
  fresh : ∀ id ver x, r'.row id ver = some x → r.row id ver = some x ∨ S'.low ≤ id ∧ (w.heap.size ≤ x.1 ∨ ∃ ver0 y, r.row id ver0 = some y ∧ y.1 = x.1)
  news : ∀ b c, r'.imm b = some c → r.imm b = some c ∨ w.heap.size ≤ b
  born : ∀ id ver x, r'.row id ver = some x → S.next ≤ id ∨ ∃ ver0 y, r.row id ver0 = some y

theorem RelT.mono {r r' : Ren} {n : Nat} {t : Trie AV} {xs : Array Value} (h : RelT r n t xs) (hr : r.le r') : RelT r' n t xs := ⟨h.1, fun i => (h.2 i).mono hr⟩
theorem RelEs.mono {r r' : Ren} {es : List (Value × AV × Nat)} {xs : List MapEntry} (h : RelEs r es xs) (hr : r.le r') : RelEs r' es xs :=
  ⟨h.1, fun i e x a b => let ⟨h1, h2, h3⟩ := h.2 i e x a b; ⟨h1, h2, h3.mono hr⟩⟩

theorem RelO.mono {r r' : Ren} {ver b n u : Nat} {w : World} {o : AObj} (h : RelO r ver b n u w o) (hr : r.le r') : RelO r' ver b n u w o := by
  cases o with
  | row cs u' fl =>
    obtain ⟨h1, h2, h3⟩ := h
    exact ⟨h1, h2, fun hf => let ⟨c, e, a1, a2, a3, a4⟩ := h3 hf; ⟨c, e, a1, a2, a3, fun i v x b1 b2 b3 => (a4 i v x b1 b2 b3).mono hr⟩⟩
  | map es k => obtain ⟨h0, xs, h1, h2⟩ := h; exact ⟨h0, xs, h1, h2.mono hr⟩
  | str s pos => exact h
  | loop m tmps ps assign body st pending d =>
    obtain ⟨h0, c1, c2, l, h1, h2, h3, h4, h5, h6, h7, x, h8, h9⟩ := h
    exact ⟨h0, c1, c2, l, h1, h2, h3, h4, h5, h6, h7.mono hr, x, hr.row _ _ _ h8, h9⟩
  | dfr o => exact h

/-- What speaks of one block alone goes by that block. -/
theorem RelO.world {r : Ren} {ver b n u : Nat} {w w' : World} {o : AObj} (h : RelO r ver b n u w o) (hb : w'.heap[b]? = w.heap[b]?) : RelO r ver b n u w' o := by
  cases o <;> simpa only [RelO, hb] using h

theorem Ext.refl {r : Ren} {S : St} {w : World} (h : RelW r S w) : Ext r S w r S w :=
  ⟨.refl r, h, Nat.le_refl _, Nat.le_refl _, fun _ _ _ => rfl, Nat.le_refl _, rfl, rfl, rfl, fun _ _ => .inl rfl, fun _ _ _ h => .inl h, fun _ _ h => .inl h, fun _ _ _ h => .inr ⟨_, _, h⟩⟩

theorem Ext.trans {r1 r2 r3 : Ren} {S1 S2 S3 : St} {w1 w2 w3 : World} (h : Ext r1 S1 w1 r2 S2 w2) (k : Ext r2 S2 w2 r3 S3 w3) : Ext r1 S1 w1 r3 S3 w3 := by
  refine ⟨h.sub.trans k.sub, k.rel, Nat.le_trans h.next k.next, Nat.le_trans k.low h.low, ?_, Nat.le_trans h.size k.size, k.os.trans h.os, k.tape.trans h.tape,
    k.output.trans h.output, ?_, ?_, ?_, fun id ver x hx => ?_⟩
  · intro id h1 h2
    rw [k.keep id (Nat.lt_of_lt_of_le h1 h.next) h2, h.keep id h1 (Nat.lt_of_lt_of_le h2 k.low)]
  · intro b hb
    rcases h.frame b hb with e1 | ⟨id, ver, x, a1, a2, a3⟩
    · rcases k.frame b (Nat.lt_of_lt_of_le hb h.size) with e2 | ⟨id, ver, x, a1, a2, a3⟩
      · exact .inl (e2.trans e1)
      · rcases h.fresh id ver x a1 with c1 | ⟨c1, c2 | ⟨v0, y, c3, c4⟩⟩
        · exact .inr ⟨id, ver, x, c1, a2, a3⟩
        · omega
        · exact .inr ⟨id, v0, y, c3, c4.trans a2, a3⟩
    · exact .inr ⟨id, ver, x, a1, a2, Nat.le_trans k.low a3⟩
  · intro id ver x hx
    rcases k.fresh id ver x hx with c1 | ⟨c1, c2⟩
    · rcases h.fresh id ver x c1 with d1 | ⟨d1, d2⟩
      · exact .inl d1
      · exact .inr ⟨Nat.le_trans k.low d1, d2⟩
    · refine .inr ⟨c1, ?_⟩
      rcases c2 with c2 | ⟨v0, y, c3, c4⟩
      · exact .inl (Nat.le_trans h.size c2)
      · rcases h.fresh id v0 y c3 with d1 | ⟨d1, d2 | ⟨v1, z, d3, d4⟩⟩
        · exact .inr ⟨v0, y, d1, c4⟩
        · exact .inl (c4 ▸ d2)
        · exact .inr ⟨v1, z, d3, d4.trans c4⟩
  · intro b c hb
    rcases k.news b c hb with e | e
    · exact h.news b c e
    · exact .inr (Nat.le_trans h.size e)
  · rcases k.born id ver x hx with e | ⟨v0, y, e⟩
    · exact .inl (Nat.le_trans h.next e)
    · exact h.born id v0 y e

/-! ### The world's own steps -/
theorem World.cell?_cells {w : World} {b off : Nat} {c : Array Value} {e : TypeId} {fz : Nat × Nat} (h : w.heap[b]? = some (.cells c e fz)) :
    w.cell? ⟨b, off, none⟩ = c[off]? := by
  simp [World.cell?, h]

theorem World.setCell_putObj {w : World} {b off : Nat} {c : Array Value} {e : TypeId} {fz : Nat × Nat} (v : Value) (h : w.heap[b]? = some (.cells c e fz)) :
    w.setCell ⟨b, off, none⟩ v = w.putObj b (.cells (c.setIfInBounds off v) e fz) := by
  unfold World.setCell World.putObj
  congr 1
  apply Array.ext_getElem?
  intro i
  rw [Array.getElem?_modify, Array.getElem?_setIfInBounds]
  have hb : b < w.heap.size := (Array.getElem?_eq_some_iff.1 h).1
  by_cases hi : b = i
  · subst hi
    simp only [if_true, hb, h, Option.map_some]
    simp
  · simp [hi]

theorem addr_add (b off n : Nat) : (⟨b, off, none⟩ : Addr).add n = ⟨b, off + n, none⟩ := by
  unfold Addr.add
  by_cases h : n = 0 <;> simp [h]

theorem run_loadCellsFrom {P : Program} {w : World} {b off : Nat} {c : Array Value} {e : TypeId} {fz : Nat × Nat} (h : w.heap[b]? = some (.cells c e fz)) :
    ∀ (n i : Nat) (acc : Array Value), off + i + n ≤ c.size → (loadCellsFrom ⟨b, off, none⟩ i n acc).run P w = .ok (acc ++ c.extract (off + i) (off + i + n)) w := by
  intro n
  induction n with
  | zero => intro i acc _; simp [loadCellsFrom, Sem.run_pure]; omega
  | succ n ih =>
    intro i acc hn
    have hlt : off + i < c.size := by omega
    simp only [loadCellsFrom]
    rw [run_bind_ok (a := c[off + i]) (w1 := w) (by
      simp only [load, Sem.run, addr_add]
      rw [World.cell?_cells h, Array.getElem?_eq_getElem hlt])]
    rw [ih (i + 1) _ (by omega)]
    congr 1
    apply Array.ext_getElem?
    intro j
    simp only [Array.getElem?_append, Array.size_push, Array.getElem?_push, Array.getElem?_extract]
    by_cases h1 : j < acc.size
    · have h1' : ¬ j = acc.size := by omega
      simp [h1, Nat.lt_succ_of_lt h1, h1']
    · by_cases h2 : j = acc.size
      · subst h2
        simp [hlt]
        omega
      · have h3 : ¬ j < acc.size + 1 := by omega
        have e1 : off + (i + 1) + (j - (acc.size + 1)) = off + i + (j - acc.size) := by omega
        simp only [h1, h3, if_false, e1]
        have e2 : (j - (acc.size + 1) < min (off + (i + 1) + n) c.size - (off + (i + 1))) ↔ (j - acc.size < min (off + i + (n + 1)) c.size - (off + i)) := by omega
        simp only [e2]

theorem run_loadCells {P : Program} {w : World} {b off n : Nat} {c : Array Value} {e : TypeId} {fz : Nat × Nat} (h : w.heap[b]? = some (.cells c e fz)) (hn : off + n ≤ c.size) :
    (loadCells ⟨b, off, none⟩ n).run P w = .ok (c.extract off (off + n)) w := by
  unfold loadCells
  rw [run_loadCellsFrom h n 0 #[] (by omega)]
  simp

theorem run_load {P : Program} {w : World} {b off : Nat} {c : Array Value} {e : TypeId} {fz : Nat × Nat} {x : Value} (h : w.heap[b]? = some (.cells c e fz)) (hx : c[off]? = some x) :
    (load ⟨b, off, none⟩).run P w = .ok x w := by
  simp only [load, Sem.run]
  rw [World.cell?_cells h, hx]

/-- The cells of c, with others from a place on. -/
def spliceA (c : Array Value) (off : Nat) : List Value → Array Value
  | [] => c
  | v :: vs => spliceA (c.setIfInBounds off v) (off + 1) vs

theorem spliceA_size (vs : List Value) : ∀ (c : Array Value) (off : Nat), (spliceA c off vs).size = c.size := by
  induction vs with
  | nil => intro c off; rfl
  | cons v vs ih => intro c off; simp [spliceA, ih]

theorem spliceA_get (vs : List Value) : ∀ (c : Array Value) (off i : Nat), off + vs.length ≤ c.size →
    (spliceA c off vs)[i]? = if off ≤ i ∧ i < off + vs.length then vs[i - off]? else c[i]? := by
  induction vs with
  | nil => intro c off i _; simp [spliceA]; omega
  | cons v vs ih =>
    intro c off i h
    simp only [List.length_cons] at h
    simp only [spliceA]
    rw [ih _ _ _ (by simp; omega)]
    by_cases h1 : off + 1 ≤ i ∧ i < off + 1 + vs.length
    · have h2 : off ≤ i ∧ i < off + (v :: vs).length := by simp; omega
      rw [if_pos h1, if_pos h2]
      have e : i - off = (i - (off + 1)) + 1 := by omega
      rw [e, List.getElem?_cons_succ]
    · rw [if_neg h1]
      by_cases h3 : i = off
      · subst h3
        have h2 : i ≤ i ∧ i < i + (v :: vs).length := by simp
        have h4 : i < c.size := by omega
        rw [if_pos h2]
        simp [h4]
      · have h2 : ¬ (off ≤ i ∧ i < off + (v :: vs).length) := by simp only [List.length_cons]; omega
        rw [if_neg h2, Array.getElem?_setIfInBounds_ne (Ne.symm h3)]

theorem World.putObj_put {w : World} {b : Nat} {o o' : Obj} : (w.putObj b o).putObj b o' = w.putObj b o' := by
  simp [World.putObj, Array.setIfInBounds_setIfInBounds]

def oneV : Value → Bool
  | .agg _ => false
  | .tuple _ => false
  | _ => true

theorem run_store {P : Program} {w : World} {b off : Nat} {c : Array Value} {e : TypeId} {v : Value} (h : w.heap[b]? = some (.cells c e (0, 0))) (ho : off < c.size) (hv : oneV v = true) :
    (store ⟨b, off, none⟩ v).run P w = .ok () (w.putObj b (.cells (c.setIfInBounds off v) e (0, 0))) := by
  have hc : w.cell? ⟨b, off, none⟩ = some c[off] := by rw [World.cell?_cells h, Array.getElem?_eq_getElem ho]
  have hf : w.frozen? ⟨b, off, none⟩ = false := by simp [World.frozen?, h]
  cases v with
  | agg cs => simp [oneV] at hv
  | tuple cs => simp [oneV] at hv
  | _ => simp [store, Sem.run, hc, hf, World.setCell_putObj _ h]

theorem run_storeCells {P : Program} {b : Nat} {e : TypeId} {off : Nat} : ∀ (vs : List Value) (w : World) (c : Array Value) (i : Nat), w.heap[b]? = some (.cells c e (0, 0)) →
    off + i + vs.length ≤ c.size → (∀ v ∈ vs, oneV v = true) →
    (storeCells ⟨b, off, none⟩ vs i).run P w = .ok () (if vs = [] then w else w.putObj b (.cells (spliceA c (off + i) vs) e (0, 0))) := by
  intro vs
  induction vs with
  | nil => intro w c i _ _ _; simp [storeCells, Sem.run_pure]
  | cons v vs ih =>
    intro w c i h hn hv
    simp only [List.length_cons] at hn
    have hb : b < w.heap.size := (Array.getElem?_eq_some_iff.1 h).1
    simp only [storeCells]
    rw [run_bind_ok (a := ()) (w1 := w.putObj b (.cells (c.setIfInBounds (off + i) v) e (0, 0))) (by
      rw [addr_add]; exact run_store h (by omega) (hv v (by simp)))]
    rw [ih _ (c.setIfInBounds (off + i) v) (i + 1) (World.putObj_heap_same hb) (by simp only [Array.size_setIfInBounds]; omega) (fun x hx => hv x (by simp [hx]))]
    simp only [if_neg (List.cons_ne_nil v vs)]
    by_cases hvs : vs = []
    · subst hvs; simp [spliceA]
    · simp only [if_neg hvs, World.putObj_put]
      rfl

theorem run_new {P : Program} (w : World) (o : Obj) : (newObj o).run P w = .ok w.heap.size (w.alloc o) := by
  rfl

end Go.Am
