/- Loads, stores and new variables, abstractly and in the model. -/
import Derived.Test.YthckcbfijdambaaAm6
namespace Go.Am
open Go.RowKit

theorem Ren.bare_le (r : Ren) : r.bare.le r := ⟨fun _ _ _ h => by simp [Ren.bare] at h, fun _ _ h => h⟩

theorem and_true {a b : Bool} (h : (a && b) = true) : a = true ∧ b = true := by simpa using h
theorem ble_true {a b : Nat} (h : Nat.ble a b = true) : a ≤ b := Nat.le_of_ble_eq_true h
theorem beq_true {a b : Nat} (h : Nat.beq a b = true) : a = b := Nat.eq_of_beq_eq_true h

theorem bif_ok {α : Type} {c : Bool} {x : R α} {m : String} {y : α} (h : (bif c then x else .error m) = .ok y) : c = true ∧ x = .ok y := by
  cases c with
  | true => exact ⟨rfl, h⟩
  | false => cases h

theorem rowOf_ok {S : St} {id : Nat} {x : List AV × Nat × Nat} (h : rowOf S id = .ok x) : S.heap.get id = some (.row x.1 x.2.1 x.2.2) := by
  unfold rowOf at h
  split at h
  · rename_i cs u fl hg
    cases h
    exact hg
  · cases h

theorem extract_list (c : Array Value) (off k : Nat) : (c.extract off (off + k)).toList = (c.toList.drop off).take k := by
  simp [Array.toList_extract, List.extract_eq_take_drop]

section
variable {r : Ren} {S : St} {w : World}

theorem loadN_rel (hw : RelW r S w) {id off ver k b n u : Nat} {cs : List AV} (hr : r.row id ver = some (b, n, u)) (h : loadN S id off ver k = .ok cs) :
    ∃ c e, w.heap[b]? = some (.cells c e (0, 0)) ∧ off + k ≤ c.size ∧ RelL r cs ((c.toList.drop off).take k) := by
  obtain ⟨⟨cs0, u0, fl⟩, h1, h2⟩ := bind_ok h
  obtain ⟨hc, h3⟩ := bif_ok h2
  obtain ⟨hc, h6⟩ := and_true hc
  obtain ⟨h4, h5⟩ := and_true hc
  have h4 := ble_true h4
  have h5 := ble_true h5
  have h6 := ble_true h6
  have hg := rowOf_ok h1
  obtain ⟨rfl, hlen, hx⟩ := hw.obj _ _ hg _ _ _ _ hr
  obtain ⟨c, e, hb, hn, hv, hrel⟩ := hx h4
  simp only [Except.ok.injEq] at h3
  subst h3
  refine ⟨c, e, hb, by omega, by simp; omega, fun i v x hv' hx' => ?_⟩
  rw [List.getElem?_take] at hv' hx'
  split at hv'
  · rename_i hi
    simp only [hi, if_true] at hx'
    rw [List.getElem?_drop] at hv' hx'
    exact hrel (off + i) v x (by omega) hv' (by simpa using hx')
  · cases hv'

theorem readN_rel (hw : RelW r S w) {p : AV} {x : Value} {k : Nat} {cs : List AV} (hp : RelV r p x) (h : readN S p k = .ok cs) :
    ∃ b off c e fz, x = .pointer (some ⟨b, off, none⟩) ∧ w.heap[b]? = some (.cells c e fz) ∧ off + k ≤ c.size ∧ RelL r cs ((c.toList.drop off).take k) := by
  unfold readN at h
  cases hp <;> simp only [] at h <;> try (cases h; done)
  · rename_i id off ver b n u hr
    obtain ⟨c, e, h1, h2, h3⟩ := loadN_rel hw hr h
    exact ⟨b, off, c, e, _, rfl, h1, h2, h3⟩
  · rename_i b off cells c hi hv
    obtain ⟨hc, h1⟩ := bif_ok h
    obtain ⟨h2, h3⟩ := and_true hc
    have h2 := ble_true h2
    have h3 := blt_true.1 h3
    cases h1
    rcases hi with rfl | ⟨hi, hs⟩
    · simp at h2; omega
    · obtain ⟨⟨e, fz, hb⟩, _⟩ := hw.imm _ _ hi
      refine ⟨b, off, c, e, fz, rfl, hb, by omega, by simp; omega, fun i v x hv' hx' => ?_⟩
      rw [List.getElem?_take] at hv' hx'
      split at hv'
      · rename_i hk
        simp only [hk, if_true] at hx'
        rw [List.getElem?_drop] at hx'
        exact (hv i v x hv' (by simpa using hx')).mono r.bare_le
      · cases hv'

theorem one_rel {r : Ren} {v : AV} {vs : List AV} {c : List Value} {off : Nat} (h : RelL r (v :: vs) ((c.drop off).take 1)) : ∃ x, c[off]? = some x ∧ RelV r v x := by
  obtain ⟨y, ys, h1, h2, _⟩ := h.cons_inv
  refine ⟨y, ?_, h2⟩
  have := congrArg (fun l => l[0]?) h1
  simpa using this

end

section
variable {E : Env} (hE : EnvOk E) {r : Ren} {S : St} {w : World}
include hE

theorem loadVar_rel (hw : RelW r S w) {t : TypeId} {p v : AV} {x : Value} (hp : RelV r p x) (h : loadVarA E S t p = .ok v) :
    ∃ b off y, x = .pointer (some ⟨b, off, none⟩) ∧ (loadVar t ⟨b, off, none⟩).run E.P w = .ok y w ∧ RelV r v y := by
  obtain ⟨d, h1, h2⟩ := bind_ok h
  have hd := ofOpt_ok h1
  cases hag : isAggT d with
  | true =>
    simp only [hag, cond_true] at h2
    obtain ⟨n, h3, h4⟩ := bind_ok h2
    obtain ⟨cs, h5, h6⟩ := bind_ok h4
    cases h6
    obtain ⟨b, off, c, e, fz, rfl, hb, hs, hl⟩ := readN_rel hw hp h5
    refine ⟨b, off, .agg (c.extract off (off + n)), rfl, ?_, ?_⟩
    · unfold loadVar
      rw [run_bind_ok (run_isAgg hE hd w), hag]
      simp only [if_true]
      rw [run_bind_ok (run_siz hE (ofOpt_ok h3) w), run_bind_ok (run_loadCells hb hs)]
      rfl
    · have e1 : (c.extract off (off + n)) = ((c.toList.drop off).take n).toArray := by
        apply Array.ext'
        rw [extract_list]
      rw [e1]
      exact .agg hl.1 hl.2
  | false =>
    simp only [hag, cond_false] at h2
    obtain ⟨cs, h5, h6⟩ := bind_ok h2
    obtain ⟨b, off, c, e, fz, rfl, hb, hs, hl⟩ := readN_rel hw hp h5
    cases cs with
    | nil => cases h6
    | cons v0 vs =>
      cases h6
      obtain ⟨y, hy, hv⟩ := one_rel hl
      refine ⟨b, off, y, rfl, ?_, hv⟩
      unfold loadVar
      rw [run_bind_ok (run_isAgg hE hd w), hag]
      simp only [Bool.false_eq_true, if_false]
      exact run_load hb (by simpa using hy)

omit hE in
theorem oneV_rel {v : AV} {x : Value} (h : RelV r v x) (ho : oneCell v = true) : oneV x = true := by
  cases h <;> first
    | rfl
    | (cases x <;> first | rfl | cases ho)
    | cases ho

omit hE in
theorem spliceL_get (cs : List AV) (off : Nat) (vs : List AV) (h : off + vs.length ≤ cs.length) (i : Nat) :
    (spliceL cs off vs)[i]? = if off ≤ i ∧ i < off + vs.length then vs[i - off]? else cs[i]? := by
  unfold spliceL
  have hl : (cs.take off).length = off := by simp; omega
  by_cases h1 : i < off
  · rw [if_neg (by omega), List.append_assoc, List.getElem?_append_left (by omega), List.getElem?_take, if_pos h1]
  · by_cases h2 : i < off + vs.length
    · rw [if_pos ⟨by omega, h2⟩, List.append_assoc, List.getElem?_append_right (by omega), List.getElem?_append_left (by omega), hl]
    · rw [if_neg (by omega), List.getElem?_append_right (by simp; omega), List.getElem?_drop]
      congr 1
      simp
      omega

omit hE in
theorem spliceL_length (cs : List AV) (off : Nat) (vs : List AV) (h : off + vs.length ≤ cs.length) : (spliceL cs off vs).length = cs.length := by
  simp [spliceL]; omega

omit hE in
theorem storeN_rel {P : Program} (hw : RelW r S w) {id off ver b n u : Nat} {vs : List AV} {ys : List Value} {S' : St} (hr : r.row id ver = some (b, n, u)) (h : storeN S id off ver vs = .ok S')
    (hv : RelL r vs ys) (hne : vs ≠ []) : ∃ w', (storeCells ⟨b, off, none⟩ ys).run P w = .ok () w' ∧ Ext r S w r S' w' := by
  obtain ⟨⟨cs, u0, fl⟩, h1, h2⟩ := bind_ok h
  obtain ⟨hc, h3⟩ := bif_ok h2
  obtain ⟨hc, hone⟩ := and_true hc
  obtain ⟨hc, hoff⟩ := and_true hc
  obtain ⟨hlen, hfl⟩ := and_true hc
  have hlen := beq_true hlen
  have hoff := ble_true hoff
  have hfl := ble_true hfl
  have hg : S.heap.get id = some (.row cs u0 fl) := rowOf_ok h1
  cases h3
  obtain ⟨rfl, hle, hx⟩ := hw.obj _ _ hg _ _ _ _ hr
  have hall := hw.obj _ _ hg
  obtain ⟨c, e, hb, hn, hvn, hrel⟩ := hx hfl
  have hyne : ys ≠ [] := fun e => by subst e; have := hv.1; simp at this; exact hne this
  have hys : ∀ y ∈ ys, oneV y = true := by
    intro y hy
    obtain ⟨i, hi⟩ := List.getElem?_of_mem hy
    have hi' : i < vs.length := by rw [hv.1]; exact (List.getElem?_eq_some_iff.1 hi).1
    have hvi : vs[i]? = some vs[i] := List.getElem?_eq_getElem hi'
    exact oneV_rel (hv.2 i _ _ hvi hi) (List.all_eq_true.1 hone _ (List.getElem_mem hi'))
  have hrun := run_storeCells (P := P) (off := off) ys w c 0 hb (by have := hv.1; omega) hys
  simp only [if_neg hyne, Nat.add_zero] at hrun
  refine ⟨_, hrun, ?_⟩
  refine hw.write hr _ _ fun v1 b1 n1 u1 h1' => ?_
  obtain ⟨e1, hle1, _⟩ := hall _ _ _ _ h1'
  refine ⟨e1, by rw [spliceL_length _ _ _ (by omega)]; exact hle1, fun hf => ?_⟩
  have hv1 : v1 = ver := by omega
  subst hv1
  rw [hr] at h1'
  cases h1'
  have hblt : b < w.heap.size := (Array.getElem?_eq_some_iff.1 hb).1
  refine ⟨_, e, World.putObj_heap_same hblt, by rw [spliceA_size]; exact hn, hvn, fun i v x hi hv' hx' => ?_⟩
  rw [spliceL_get _ _ _ (by omega)] at hv'
  rw [spliceA_get _ _ _ _ (by have := hv.1; omega)] at hx'
  have hl := hv.1
  by_cases hc : off ≤ i ∧ i < off + vs.length
  · rw [if_pos hc] at hv'
    rw [if_pos (by omega)] at hx'
    exact hv.2 _ _ _ hv' hx'
  · rw [if_neg hc] at hv'
    rw [if_neg (by omega)] at hx'
    exact hrel i v x hi hv' hx'

end
end Go.Am
