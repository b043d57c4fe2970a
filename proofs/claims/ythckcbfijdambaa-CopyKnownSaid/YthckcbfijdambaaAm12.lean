/- Operations that make or change memory, abstractly and in the model. -/
import Derived.Test.YthckcbfijdambaaAm11
namespace Go.Am
open Go.RowKit

def Makes (P : Program) (r : Ren) (S : St) (w : World) (v : AV) (S' : St) (m : Sem Value) : Prop := ∃ x w' r', m.run P w = .ok x w' ∧ Ext r S w r' S' w' ∧ RelV r' v x
def Does (P : Program) (r : Ren) (S : St) (w : World) (S' : St) (m : Sem Unit) : Prop := ∃ w' r', m.run P w = .ok () w' ∧ Ext r S w r' S' w'

theorem run_askRoom {P : Program} (n : Nat) (w : World) : (askRoom n).run P w = .ok () w := by
  unfold askRoom
  split <;> rfl

theorem wrap_in {n : Int} (h0 : 0 ≤ n) (h : n < 2 ^ 62) : IntKind.i64.wrap n = n := by
  have e : n % (2 ^ 64 : Int) = n := Int.emod_eq_of_lt h0 (by omega)
  have h2 : ¬ (n ≥ (2 ^ 63 : Int)) := by omega
  simp only [IntKind.wrap, IntKind.bits, IntKind.signed, e]
  have h3 : (decide (n ≥ (2 ^ (64 - 1) : Int))) = false := decide_eq_false h2
  rw [h3]
  rfl

section
variable {E : Env} (hE : EnvOk E) {r : Ren} {S : St} {w : World}
include hE

omit hE in
theorem bne_not {a b : Nat} (h : (!(Nat.beq a b)) = true) : a ≠ b := by
  cases hb : Nat.beq a b with
  | true => simp [hb] at h
  | false => exact beq_false.1 hb

theorem store_rel (hw : RelW r S w) {t : TypeId} {p v : AV} {a b : Value} {S' : St} (hp : RelV r p a) (hv : RelV r v b) (h : storeVarA E S t p v = .ok S') : Does E.P r S w S' (Instr.storeAt t a b) := by
  unfold storeVarA at h
  split at h
  · obtain ⟨n, h1, h2⟩ := bind_ok h
    obtain ⟨hc, h3⟩ := bif_ok h2
    obtain ⟨h4, h5⟩ := and_true hc
    have h4 := beq_true h4
    have h5 := bne_not h5
    cases hp with
    | ptr hr =>
    rename_i b0 n0 u0
    have hcell := hv.cells
    have hne : cellsOf v ≠ [] := fun e => by rw [e] at h4; simp at h4; omega
    obtain ⟨w', k1, k2⟩ := storeN_rel (P := E.P) hw hr h3 hcell hne
    refine ⟨w', r, ?_, k2⟩
    unfold Instr.storeAt
    rw [run_bind_ok (a := (⟨b0, _, none⟩ : Addr)) (w1 := w) rfl]
    unfold storeVar
    rw [run_bind_ok (run_siz hE (ofOpt_ok h1) w)]
    have hs : b.cells.size = n := by have := hcell.1; simp at this; omega
    simp only [hs, ne_eq, not_true_eq_false, if_false]
    exact k1
  · cases h

theorem load_rel (hw : RelW r S w) {t : TypeId} {p v : AV} {a : Value} (hp : RelV r p a) (h : loadVarA E S t p = .ok v) : Gives E.P r w v (Instr.loadAt t a) := by
  obtain ⟨b, off, y, rfl, h1, h2⟩ := loadVar_rel hE hw hp h
  refine ⟨y, ?_, h2⟩
  unfold Instr.loadAt
  rw [run_bind_ok (a := (⟨b, off, none⟩ : Addr)) (w1 := w) rfl]
  exact h1

omit hE in
/-- A new row. -/
theorem newRow_rel {P : Program} (hw : RelW r S w) {cs : List AV} {xs : Array Value} (h : RelL r cs xs.toList) (u : Nat) (e : TypeId) :
    (newRow e xs).run P w = .ok ⟨w.heap.size, 0, none⟩ (w.alloc (.cells xs e (0, 0))) ∧
    Ext r S w (r.add S.next cs.length (w.heap.size, cs.length, u)) (S.new (.row cs u 0)) (w.alloc (.cells xs e (0, 0))) := by
  refine ⟨by unfold newRow; rw [run_bind_ok (run_new w _)]; rfl, hw.new _ _ _ _ _ ?_⟩
  have hx : xs.size = cs.length := by have := h.1; simpa using this.symm
  have hle : r.le (r.add S.next cs.length (w.heap.size, cs.length, u)) := Ren.add_le (.inl (by
    cases hx : r.row S.next cs.length with
    | none => rfl
    | some x => have := (hw.dom _ _ _ hx).1; omega))
  exact ⟨rfl, Nat.le_refl _, fun _ => ⟨xs, e, by rw [World.alloc_get, if_pos rfl], hx, Nat.le_refl _, fun i v x _ h1 h2 => (h.2 i v x h1 (by simpa using h2)).mono hle⟩⟩

omit hE in
theorem newVar_rel (hw : RelW r S w) {t : TypeId} {v p : AV} {b : Value} {S' : St} (hv : RelV r v b) (h : newVarA E S t v = .ok (p, S')) :
    ∃ w' r', (newVar t b).run E.P w = .ok ⟨w.heap.size, 0, none⟩ w' ∧ Ext r S w r' S' w' ∧ RelV r' p (.pointer (some ⟨w.heap.size, 0, none⟩)) := by
  obtain ⟨u, h1, h2⟩ := bind_ok h
  cases h2
  obtain ⟨k1, k2⟩ := newRow_rel (P := E.P) hw (xs := b.cells) hv.cells u t
  exact ⟨_, _, k1, k2, .ptr (Ren.add_same _ _ _ _)⟩

theorem alloc_rel (hw : RelW r S w) {t : TypeId} {p : AV} {S' : St} (h : aalloc E S t = .ok (p, S')) : Makes E.P r S w p S' (Instr.alloc t true (.tuple #[])) := by
  obtain ⟨z, h1, h2⟩ := bind_ok h
  obtain ⟨w', r', k1, k2, k3⟩ := newVar_rel hw (ofV_rel r 4 z) h2
  refine ⟨_, w', r', ?_, k2, k3⟩
  unfold Instr.alloc
  rw [run_bind_ok (run_zro hE (ofOpt_ok h1) w)]
  simp only []
  rw [run_bind_ok k1]
  rfl

omit hE in
theorem box_rel (hw : RelW r S w) {t : TypeId} {v p : AV} {b : Value} {S' : St} (hv : RelV r v b) (h : newVarA E S t v = .ok (p, S')) : Makes E.P r S w p S' (Instr.box t b) := by
  obtain ⟨w', r', k1, k2, k3⟩ := newVar_rel hw hv h
  refine ⟨_, w', r', ?_, k2, k3⟩
  unfold Instr.box
  rw [run_bind_ok k1]
  rfl

omit hE in
theorem repeat_get (zs : List AV) (hz : zs ≠ []) : ∀ (n i : Nat), (repeatL zs n)[i]? = if i < n * zs.length then zs[i % zs.length]? else none := by
  have hl : 0 < zs.length := List.length_pos_iff.2 hz
  intro n
  induction n with
  | zero => intro i; simp [repeatL]
  | succ n ih =>
    intro i
    simp only [repeatL]
    have e : (n + 1) * zs.length = n * zs.length + zs.length := Nat.succ_mul _ _
    by_cases h : i < zs.length
    · rw [List.getElem?_append_left h, Nat.mod_eq_of_lt h, if_pos (by omega)]
    · rw [List.getElem?_append_right (by omega), ih]
      have e2 : (i - zs.length) % zs.length = i % zs.length := by
        conv => rhs; rw [show i = (i - zs.length) + zs.length by omega, Nat.add_mod_right]
      rw [e2]
      by_cases h2 : i - zs.length < n * zs.length
      · rw [if_pos h2, if_pos (by omega)]
      · rw [if_neg h2, if_neg (by omega)]

omit hE in
theorem repeat_length (zs : List AV) (n : Nat) : (repeatL zs n).length = n * zs.length := by
  induction n with
  | zero => simp [repeatL]
  | succ n ih => simp [repeatL, ih, Nat.succ_mul]; omega

/-- The zero cells of n elements. -/
theorem zeros_rel {e sz n : Nat} {zs : List AV} (h : zerosOf E e sz n = .ok zs) :
    ∃ zero : Array Value, (n * sz = 0 → zero = #[]) ∧ (n * sz ≠ 0 → ∃ z, (zeroValue e).run E.P w = .ok z w ∧ zero = z.cells) ∧
      RelL r zs (((Array.range (n * sz)).map (zero[· % zero.size]!)).toList) ∧ zs.length = n * sz := by
  unfold zerosOf at h
  cases hb : Nat.beq (n * sz) 0 with
  | true =>
    have h0 := beq_true hb
    simp only [hb, cond_true, Except.ok.injEq] at h
    subst h
    refine ⟨#[], fun _ => rfl, fun hh => absurd h0 hh, ?_, by simp [h0]⟩
    have e0 : ((Array.range (n * sz)).map fun x => (#[] : Array Value)[x % (#[] : Array Value).size]!).toList = [] := by rw [h0]; simp
    rw [e0]
    exact .nil r
  | false =>
    have h0 := beq_false.1 hb
    simp only [hb, cond_false] at h
    obtain ⟨z, h1, h2⟩ := bind_ok h
    obtain ⟨hc, h3⟩ := bif_ok h2
    cases h3
    have hlen := beq_true hc
    have hzr := zero_rel (r := r) z
    have hsz : z.cells.size = sz := by have := hzr.1; simp at this; omega
    have hsz0 : sz ≠ 0 := fun e => h0 (by simp [e])
    have hne : zeroCells z ≠ [] := fun e => by rw [e] at hlen; simp at hlen; omega
    refine ⟨z.cells, fun hh => absurd hh h0, fun _ => ⟨z, run_zro hE (ofOpt_ok h1) w, rfl⟩, ?_, by rw [repeat_length, hlen]⟩
    · refine ⟨by rw [repeat_length, hlen]; simp, fun i v x k1 k2 => ?_⟩
      rw [repeat_get _ hne, hlen] at k1
      split at k1
      · rename_i hi
        have k2 : ((Array.range (n * sz)).map (z.cells[· % z.cells.size]!))[i]? = some x := by rw [← Array.getElem?_toList]; exact k2
        rw [Array.getElem?_map, Array.getElem?_range, if_pos hi] at k2
        simp only [Option.map_some, Option.some.injEq] at k2
        have hmod : i % sz < z.cells.size := by rw [hsz]; exact Nat.mod_lt _ (by omega)
        rw [hsz] at k2
        have : z.cells[i % sz]! = z.cells[i % sz] := getElem!_pos z.cells (i % sz) hmod
        rw [this] at k2
        exact hzr.2 (i % sz) v x k1 (by
          rw [Array.getElem?_toList, Array.getElem?_eq_getElem hmod, k2])
      · cases k1

omit hE in
/-- A new slice. -/
theorem newSlice_rel {P : Program} (hw : RelW r S w) {cs : List AV} {xs : Array Value} (h : RelL r cs xs.toList) (u len cap : Nat) (e : TypeId) (hl : len ≤ cap) (hc : cap * u ≤ cs.length) :
    ∃ w' r', (newRow e xs).run P w = .ok ⟨w.heap.size, 0, none⟩ w' ∧ Ext r S w r' (newSliceA S cs u len cap true).2 w' ∧
      RelV r' (newSliceA S cs u len cap true).1 (.slice (some ⟨w.heap.size, 0, none⟩) len cap) := by
  obtain ⟨k1, k2⟩ := newRow_rel (P := P) hw h u e
  exact ⟨_, _, k1, k2, .slice (Ren.add_same _ _ _ _) (by omega) hl (Nat.le_refl _) (fun _ => rfl)⟩

omit hE in
theorem fill_len {place : Nat → Option (Nat × Nat)} : ∀ (ps : List (Nat × AV)) (cs ds : List AV), fillA place cs ps = .ok ds → ds.length = cs.length := by
  intro ps
  induction ps with
  | nil => intro cs ds h; cases h; rfl
  | cons p ps ih =>
    intro cs ds h
    obtain ⟨i, v⟩ := p
    simp only [fillA] at h
    split at h
    · cases h
    · obtain ⟨hc, h3⟩ := bif_ok h
      obtain ⟨_, k2⟩ := and_true hc
      rw [ih _ _ h3, spliceL_length _ _ _ (ble_true k2)]

theorem buildSlice_rel (hw : RelW r S w) {t : TypeId} {len : Nat} {ps : List (Nat × AV)} {qs : List (Nat × Value)} {v : AV} {S' : St} (hp : RelP r ps qs)
    (h : abuildSlice E S t len ps = .ok (v, S')) : Makes E.P r S w v S' (Instr.buildSlice t len qs.toArray) := by
  obtain ⟨d, h1, h2⟩ := bind_ok h
  have hd := ofOpt_ok h1
  split at h2
  · rename_i e
    obtain ⟨sz, h3, h4⟩ := bind_ok h2
    cases hb : Nat.blt (2 ^ 24) (len * sz) with
    | true => simp [hb] at h4
    | false =>
      simp only [hb, cond_false] at h4
      have hb := blt_false.1 hb
      obtain ⟨zs, h5, h6⟩ := bind_ok h4
      obtain ⟨cs, h7, h8⟩ := bind_ok h6
      simp only [Except.ok.injEq] at h8
      obtain ⟨zero, k0, k1, k2, k3⟩ := zeros_rel hE (r := r) (w := w) h5
      obtain ⟨ys, k4, k5⟩ := fill_rel ps qs zs cs _ hp k2 h7
      have hcs : cs.length = len * sz := by
        have e1 := fill_len ps zs cs h7
        omega
      obtain ⟨w', r', k6, k7, k8⟩ := newSlice_rel (P := E.P) hw k5 sz len len e (Nat.le_refl _) (by omega)
      rw [h8] at k7 k8
      refine ⟨_, w', r', ?_, k7, k8⟩
      unfold Instr.buildSlice
      rw [run_bind_ok (run_und hE hd w)]
      simp only []
      rw [run_bind_ok (run_siz hE (ofOpt_ok h3) w)]
      have hn : ¬ len * sz > 2 ^ 24 := by omega
      simp only [if_neg hn]
      by_cases h0 : len * sz = 0
      · have := k0 h0
        subst this
        simp only [if_pos h0]
        rw [run_bind_ok (a := (#[] : Array Value)) (w1 := w) rfl]
        simp only [k4]
        rw [run_bind_ok k6]
        rfl
      · obtain ⟨z, k9, rfl⟩ := k1 h0
        simp only [if_neg h0]
        rw [run_bind_ok k9, run_bind_ok (a := z.cells) (w1 := w) rfl]
        simp only [k4]
        rw [run_bind_ok k6]
        rfl
  · cases h2

theorem makeSlice_rel (hw : RelW r S w) {t : TypeId} {l c v : AV} {l' c' : Value} {S' : St} (hl : RelV r l l') (hc : RelV r c c') (h : amakeSlice E S t l c = .ok (v, S')) :
    Makes E.P r S w v S' (Instr.makeSlice t l' c') := by
  obtain ⟨d, h1, h2⟩ := bind_ok h
  have hd := ofOpt_ok h1
  split at h2
  · rename_i e l c
    have e1 := hl.lit_inv
    have e2 := hc.lit_inv
    subst e1
    subst e2
    obtain ⟨sz, h3, h4⟩ := bind_ok h2
    obtain ⟨by_, h5, h6⟩ := bind_ok h4
    obtain ⟨hcond, h7⟩ := bif_ok h6
    simp only [Bool.and_eq_true, decide_eq_true_eq] at hcond
    obtain ⟨⟨⟨c1, c2⟩, c3⟩, c4⟩ := hcond
    obtain ⟨zs, h8, h9⟩ := bind_ok h7
    simp only [Except.ok.injEq] at h9
    obtain ⟨zero, k0, k1, k2, k3⟩ := zeros_rel hE (r := r) (w := w) h8
    obtain ⟨i, hi, hib⟩ := hE.byt _ _ (ofOpt_ok h5)
    obtain ⟨w', r', k6, k7, k8⟩ := newSlice_rel (P := E.P) hw k2 sz l.toNat c.toNat e (by omega) (by omega)
    rw [h9] at k7 k8
    refine ⟨_, w', r', ?_, k7, k8⟩
    have wl : IntKind.i64.wrap l = l := wrap_in (by omega) (by omega)
    have wc : IntKind.i64.wrap c = c := wrap_in (by omega) (by omega)
    unfold Instr.makeSlice
    rw [run_bind_ok (run_und hE hd w)]
    simp only []
    rw [run_bind_ok (a := l) (w1 := w) rfl, run_bind_ok (a := c) (w1 := w) rfl, run_bind_ok (hi w)]
    simp only [wl, wc, hib]
    have t1 : ¬ (c < 0) := by omega
    have t2 : ¬ ((by_ : Int) * c > 2 ^ 48) := by omega
    have t3 : ¬ (l < 0) := by omega
    have t4 : ¬ (l > c) := by omega
    simp only [decide_eq_false t1, decide_eq_false t2, decide_eq_false t3, decide_eq_false t4, Bool.or_self, Bool.false_eq_true, if_false]
    rw [run_bind_ok (run_askRoom _ _), run_bind_ok (run_siz hE (ofOpt_ok h3) w)]
    by_cases h0 : c.toNat * sz = 0
    · have := k0 h0
      subst this
      simp only [if_pos h0]
      rw [run_bind_ok (a := (#[] : Array Value)) (w1 := w) rfl, run_bind_ok k6]
      rfl
    · obtain ⟨z, k9, rfl⟩ := k1 h0
      simp only [if_neg h0]
      rw [run_bind_ok k9, run_bind_ok (a := z.cells) (w1 := w) rfl, run_bind_ok k6]
      rfl
  · cases h2

omit hE in
theorem makeMap_rel (hw : RelW r S w) {t : TypeId} {ro : Option AV} {x : Option Value} {v : AV} {S' : St} (hE : EnvOk E) (hr : RelOpt r ro x) (h : amakeMap E S t ro = .ok (v, S')) :
    Makes E.P r S w v S' (Instr.makeMap t x) := by
  obtain ⟨u, h1, h2⟩ := bind_ok h
  cases h2
  have hnew : Ext r S w (r.add S.next 0 (w.heap.size, 0, 0)) (S.new (.map [] 0)) (w.alloc (.map #[] 0)) :=
    hw.new _ _ _ _ _ ⟨rfl, #[], by rw [World.alloc_get, if_pos rfl], rfl, fun i e x h => by simp at h⟩
  refine ⟨.map (some w.heap.size), _, _, ?_, hnew, .map (Ren.add_same _ _ _ _)⟩
  unfold Instr.makeMap
  cases ro with
  | none =>
    cases x with
    | some _ => cases hr
    | none =>
      simp only []
      rw [run_bind_ok (run_new w _)]
      rfl
  | some hnt =>
    cases x with
    | none => cases hr
    | some y =>
      simp only [makeMapOk] at h1
      obtain ⟨d, h3, h4⟩ := bind_ok h1
      split at h4
      · obtain ⟨i, h5, _⟩ := bind_ok h4
        obtain ⟨k, rfl⟩ := intOf_rel hr h5
        simp only []
        rw [run_bind_ok (run_und hE (ofOpt_ok h3) w)]
        simp only []
        rw [run_bind_ok (a := i) (w1 := w) rfl, run_bind_ok (run_new w _)]
        rfl
      · cases h4

omit hE in
theorem getD_key {xs : Array MapEntry} {j : Nat} {e : Value × AV × Nat} {x : MapEntry} {key : Value} (hx : xs[j]? = some x) (hk : x.key = e.1) :
    (((xs[j]?).map (·.key)).getD key) = e.1 := by rw [hx]; exact hk

omit hE in
theorem run_keyThatStays {P : Program} {a b : Value} (h : Instr.sameBits 10000 a b = true) : (Instr.keyThatStays a b).run P w = .ok b w := by
  unfold Instr.keyThatStays
  rw [if_pos h]
  rfl

omit hE in
theorem update_rel (hE : EnvOk E) (hw : RelW r S w) {t : TypeId} {m k v : AV} {a b c : Value} {S' : St} (hm : RelV r m a) (hk : RelV r k b) (hv : RelV r v c) (h : aupdate E S t m k v = .ok S') :
    Does E.P r S w S' (Instr.mapUpdate t a b c) := by
  obtain ⟨d, h1, h2⟩ := bind_ok h
  have hd := ofOpt_ok h1
  split at h2
  · rename_i kt et id
    obtain ⟨⟨es, cl⟩, h3, h4⟩ := bind_ok h2
    obtain ⟨key, h5, h6⟩ := bind_ok h4
    obtain ⟨at_, h7, h8⟩ := bind_ok h6
    have e := toV_rel 4 hk h5
    subst e
    cases hm with
    | map hr =>
    rename_i bl n u
    obtain ⟨xs, h9, hrel⟩ := map_rel hw hr h3
    obtain ⟨f1, f, f2, f3⟩ := findAt_rel (w := w) hrel h7
    unfold Does Instr.mapUpdate
    rw [run_bind_ok (run_und hE hd w)]
    simp only []
    rw [run_bind_ok (run_getMap h9)]
    simp only []
    rw [run_bind_ok f1, run_bind_ok f2]
    cases at_ with
    | none =>
      simp only [] at f3 h8
      cases h8
      subst f3
      simp only []
      exact ⟨_, r, run_setMap _ h9, write_map hw hr (push_rel hrel ⟨rfl, rfl, hv⟩) h3⟩
    | some j =>
      simp only [] at f3 h8
      obtain ⟨e, g1, g2⟩ := bind_ok h8
      obtain ⟨hs, g3⟩ := bif_ok g2
      cases g3
      obtain ⟨x, f4, f5⟩ := f3
      subst f5
      have f4' : xs[j]? = some x := by rw [← Array.getElem?_toList]; exact f4
      obtain ⟨q1, q2, q3⟩ := hrel.2 j e x (ofOpt_ok g1) f4
      simp only []
      rw [getD_key f4' q1, run_bind_ok (run_keyThatStays hs)]
      refine ⟨_, r, run_setMap _ h9, write_map hw hr (modify_rel hrel fun y hy => ?_) h3⟩
      rw [f4'] at hy
      cases hy
      exact ⟨rfl, q2, hv⟩
  · cases h2

omit hE in
theorem entry_rel (hE : EnvOk E) (hw : RelW r S w) {t : TypeId} {m k v : AV} {a b : Value} {S' : St} (hm : RelV r m a) (hk : RelV r k b) (h : aentry E S t m k = .ok (v, S')) :
    Makes E.P r S w v S' (Instr.mapEntry t a b) := by
  obtain ⟨d, h1, h2⟩ := bind_ok h
  have hd := ofOpt_ok h1
  split at h2
  · rename_i kt et id
    obtain ⟨⟨es, cl⟩, h3, h4⟩ := bind_ok h2
    obtain ⟨key, h5, h6⟩ := bind_ok h4
    obtain ⟨at_, h7, h8⟩ := bind_ok h6
    have e := toV_rel 4 hk h5
    subst e
    cases hm with
    | map hr =>
    rename_i bl n u
    obtain ⟨xs, h9, hrel⟩ := map_rel hw hr h3
    obtain ⟨f1, f, f2, f3⟩ := findAt_rel (w := w) hrel h7
    unfold Makes Instr.mapEntry
    rw [run_bind_ok (run_und hE hd w)]
    simp only []
    rw [run_bind_ok (run_getMap h9)]
    simp only []
    rw [run_bind_ok f1, run_bind_ok f2]
    have two : ∀ {v : AV} {y : Value} (n : Nat), RelV r v y → RelV r (.tuple [v, .lit (.int .i64 n)]) (.tuple #[y, goInt n]) := fun n hv =>
      .tuple (xs := [_, _]) (RelL.cons hv (RelL.cons (.lit _) (.nil r))).1 (RelL.cons hv (RelL.cons (.lit _) (.nil r))).2
    cases at_ with
    | none =>
      simp only [] at f3 h8
      obtain ⟨z, g1, g2⟩ := bind_ok h8
      cases g2
      subst f3
      simp only []
      rw [run_bind_ok (run_zro hE (ofOpt_ok g1) w), run_bind_ok (run_setMap _ h9)]
      exact ⟨_, _, r, rfl, write_map hw hr (push_rel hrel ⟨rfl, rfl, ofV_rel r 4 z⟩) h3, two cl (ofV_rel r 4 z)⟩
    | some j =>
      simp only [] at f3 h8
      obtain ⟨e, g1, g2⟩ := bind_ok h8
      obtain ⟨hs, g3⟩ := bif_ok g2
      cases g3
      obtain ⟨x, f4, f5⟩ := f3
      subst f5
      have f4' : xs[j]? = some x := by rw [← Array.getElem?_toList]; exact f4
      obtain ⟨q1, q2, q3⟩ := hrel.2 j e x (ofOpt_ok g1) f4
      simp only []
      rw [getD_key f4' q1, run_bind_ok (run_keyThatStays hs), run_bind_ok (run_setMap _ h9)]
      refine ⟨_, _, r, rfl, write_map hw hr (modify_rel hrel fun y hy => ?_) h3, ?_⟩
      · rw [f4'] at hy
        cases hy
        exact ⟨rfl, q2, q3⟩
      · have : (((xs[j]?).map fun x => (x.born : Int)).getD 0) = ((e.2.2 : Nat) : Int) := by rw [f4']; simp [q2]
        rw [this]
        exact two e.2.2 q3
  · cases h2

omit hE in
theorem findBorn_ok (b : Int) : ∀ (es : List (Value × AV × Nat)) (xs : List MapEntry) (k i : Nat), RelEs r es xs → findBorn b es k = some i →
    ∃ j, i = k + j ∧ xs.findIdx? (fun e => (e.born : Int) == b) = some j := by
  intro es
  induction es with
  | nil => intro xs k i _ h; cases h
  | cons e es ih =>
    intro xs k i hr h
    cases xs with
    | nil => have := hr.1; simp at this
    | cons x xs =>
      obtain ⟨_, hb, _⟩ := hr.2 0 e x rfl rfl
      have hr' : RelEs r es xs := ⟨by have := hr.1; simpa using this, fun i e x a b => hr.2 (i + 1) e x (by simpa using a) (by simpa using b)⟩
      simp only [findBorn] at h
      rw [List.findIdx?_cons, hb]
      cases hc : ((e.2.2 : Int) == b) with
      | true =>
        simp only [hc, cond_true, Option.some.injEq] at h
        exact ⟨0, by omega, by simp⟩
      | false =>
        simp only [hc, cond_false] at h
        obtain ⟨j, h1, h2⟩ := ih xs (k + 1) i hr' h
        exact ⟨j + 1, by omega, by simp [h2]⟩

omit hE in
theorem entryStore_rel {P : Program} (hw : RelW r S w) {t : TypeId} {m st v : AV} {a b c : Value} {S' : St} (hm : RelV r m a) (hs : RelV r st b) (hv : RelV r v c) (h : aentryStore S m st v = .ok S') :
    Does P r S w S' (Instr.entryStore t a b c) := by
  unfold aentryStore at h
  split at h
  · rename_i id
    obtain ⟨⟨es, cl⟩, h3, h4⟩ := bind_ok h
    obtain ⟨bn, h5, h6⟩ := bind_ok h4
    obtain ⟨k, rfl⟩ := intOf_rel hs h5
    cases hm with
    | map hr =>
    rename_i bl n u
    obtain ⟨xs, h9, hrel⟩ := map_rel hw hr h3
    unfold Does Instr.entryStore
    rw [run_bind_ok (run_getMap h9)]
    rw [run_bind_ok (a := bn) (w1 := w) rfl]
    split at h6
    · rename_i i hi
      obtain ⟨e, g1, g2⟩ := bind_ok h6
      cases g2
      obtain ⟨j, e1, e2⟩ := findBorn_ok bn es xs.toList 0 i hrel hi
      have hij : i = j := by omega
      subst hij
      have e3 : xs.findIdx? (fun e => (e.born : Int) == bn) = some i := by rw [← List.findIdx?_toArray] at e2; simpa using e2
      simp only [e3]
      refine ⟨_, r, run_setMap _ h9, write_map hw hr (modify_rel hrel fun y hy => ?_) h3⟩
      have hy' : xs.toList[i]? = some y := by rw [Array.getElem?_toList]; exact hy
      obtain ⟨q1, q2, q3⟩ := hrel.2 i e y (ofOpt_ok g1) hy'
      exact ⟨q1, q2, hv⟩
    · cases h6
  · cases h
end
end Go.Am
