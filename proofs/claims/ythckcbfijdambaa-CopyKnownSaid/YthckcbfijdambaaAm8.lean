/- Operations that change no memory, abstractly and in the model. -/
import Derived.Test.YthckcbfijdambaaAm7
namespace Go.Am
open Go.RowKit

theorem RelV.lit_inv {r : Ren} {v x : Value} (h : RelV r (.lit v) x) : x = v := by cases h; rfl

/-- A computation gives a related value, and changes nothing. -/
def Gives (P : Program) (r : Ren) (w : World) (v : AV) (m : Sem Value) : Prop := ∃ x, m.run P w = .ok x w ∧ RelV r v x

section
variable {E : Env} (hE : EnvOk E) {r : Ren} {S : St} {w : World}
include hE

theorem nilEq_rel {d : TypeDesc} {xt : TypeId} (hd : E.und xt = some d) {x y : AV} {a b : Value} (hx : RelV r x a) (hy : RelV r y b) {c : Bool} (h : nilEq d x y = .ok c) :
    (Op.equal xt a b).run E.P w = .ok c w ∧ ∀ (op : BinOp) (xo yo : Operand), (op = .eql ∨ op = .neq) → (eqGuard op xt xo yo a b).run E.P w = .ok () w ∧
      ((binOp .eql xt a b).run E.P w = .ok (.bool c) w) ∧ ((binOp .neq xt a b).run E.P w = .ok (.bool (!c)) w) := by
  have key : (Op.equal xt a b).run E.P w = .ok c w ∧ (∀ (op : BinOp) (xo yo : Operand), (op = .eql ∨ op = .neq) → (eqGuard op xt xo yo a b).run E.P w = .ok () w) ∧
      (binOp .eql xt a b = do pure (.bool (← Op.equal xt a b))) ∧ (binOp .neq xt a b = do pure (.bool (!(← Op.equal xt a b)))) := by
    have hq : ∀ c', (Op.equalIn (9999 + 1) xt a b).run E.P w = .ok c' w → (Op.equal xt a b).run E.P w = .ok c' w := fun c' h => h
    unfold nilEq at h
    split at h <;> first
      | (cases h; done)
      | (cases h
         cases hx
         cases hy
         refine ⟨hq _ ?_, fun op xo yo ho => ?_, rfl, rfl⟩
         · unfold Op.equalIn
           rw [run_bind_ok (run_und hE hd w)]
           rfl
         · rcases ho with rfl | rfl <;> rfl)
  obtain ⟨h1, h2, h3, h4⟩ := key
  refine ⟨h1, fun op xo yo ho => ⟨h2 op xo yo ho, ?_, ?_⟩⟩
  · rw [h3, run_bind_ok h1]; rfl
  · rw [h4, run_bind_ok h1]; rfl

theorem abin_rel {op : BinOp} {xt : TypeId} {xo yo : Operand} {x y v : AV} {a b : Value} (hx : RelV r x a) (hy : RelV r y b) (h : abin E op xt xo yo x y = .ok v) :
    Gives E.P r w v (do eqGuard op xt xo yo a b; binOp op xt a b) := by
  unfold abin at h
  split at h
  iterate 8
    · cases h
      have e1 := hx.lit_inv
      have e2 := hy.lit_inv
      subst e1
      subst e2
      exact ⟨_, rfl, .lit _⟩
  split at h
  · rename_i v' hv
    cases h
    obtain ⟨u1, h1, hv⟩ := bind_ok hv
    obtain ⟨u2, h2, hv⟩ := bind_ok hv
    obtain ⟨z, h3, hv⟩ := bind_ok hv
    cases hv
    have e1 := toV_rel 4 hx h1
    have e2 := toV_rel 4 hy h2
    subst e1
    subst e2
    exact ⟨z, pureVal_run (ofOpt_ok h3) w, ofV_rel r 4 z⟩
  · split at h
    · obtain ⟨c, h1, h2⟩ := bind_ok h
      cases h2
      obtain ⟨h3, h4⟩ := nilEq_rel hE (w := w) (by assumption : E.und xt = some _) hx hy h1
      obtain ⟨h5, h6, h7⟩ := h4 .eql xo yo (.inl rfl)
      exact ⟨_, by rw [run_bind_ok h5]; exact h6, .lit _⟩
    · obtain ⟨c, h1, h2⟩ := bind_ok h
      cases h2
      obtain ⟨h3, h4⟩ := nilEq_rel hE (w := w) (by assumption : E.und xt = some _) hx hy h1
      obtain ⟨h5, h6, h7⟩ := h4 .neq xo yo (.inr rfl)
      exact ⟨_, by rw [run_bind_ok h5]; exact h7, .lit _⟩
    · cases h

omit hE in
theorem intOf_rel {x : AV} {a : Value} {n : Int} (hx : RelV r x a) (h : intOf? x = .ok n) : ∃ k, a = .int k n := by
  unfold intOf? at h
  split at h
  · cases h
    exact ⟨_, hx.lit_inv⟩
  · cases h

omit hE in
theorem boundOf_rel {P : Program} {x : AV} {a : Value} {y n : Nat} (hx : RelV r x a) (h : boundOf x y = .ok n) (code : BoundsCode) :
    (Instr.sliceBound a y code).run P w = .ok n w ∧ n ≤ y := by
  obtain ⟨i, h1, h2⟩ := bind_ok h
  obtain ⟨k, rfl⟩ := intOf_rel hx h1
  obtain ⟨hc, h3⟩ := bif_ok h2
  cases h3
  simp only [Bool.and_eq_true, decide_eq_true_eq] at hc
  refine ⟨?_, by omega⟩
  unfold Instr.sliceBound
  rw [run_bind_ok (a := (k, i)) (w1 := w) rfl]
  simp only []
  rw [if_pos hc]
  rfl

/-- What stands in an option, abstractly and in the model. -/
def RelOpt (r : Ren) (o : Option AV) (x : Option Value) : Prop :=
  match o, x with
  | none, none => True
  | some v, some y => RelV r v y
  | _, _ => False

omit hE in
theorem bounds_rel {P : Program} {lo hi : Option AV} {lo' hi' : Option Value} (hlo : RelOpt r lo lo') (hhi : RelOpt r hi hi') {isSlice : Bool} {len cap : Nat} {res : Nat × Nat × Nat}
    (hlc : len ≤ cap) (h : boundsOf len cap lo hi none = .ok res) :
    ∀ cap', cap ≤ cap' → (Instr.sliceBounds isSlice len cap' lo' hi' none).run P w = .ok (res.1, res.2.1, cap') w ∧ res.2.2 = cap ∧ res.1 ≤ res.2.1 ∧ res.2.1 ≤ cap := by
  intro cap' hcc
  obtain ⟨m, h1, h2⟩ := bind_ok h
  cases h1
  obtain ⟨hh, h3, h4⟩ := bind_ok h2
  obtain ⟨l, h5, h6⟩ := bind_ok h4
  cases h6
  have elo : l ≤ hh ∧ ∀ y, lo' = some y → (Instr.sliceBound y hh .sliceB).run P w = .ok l w := by
    cases lo with
    | none =>
      cases lo' with
      | some _ => cases hlo
      | none => cases h5; exact ⟨Nat.zero_le _, fun y hy => by cases hy⟩
    | some v =>
      cases lo' with
      | none => cases hlo
      | some y => exact ⟨(boundOf_rel (P := P) (w := w) hlo h5 .sliceB).2, fun y' hy => by cases hy; exact (boundOf_rel hlo h5 _).1⟩
  have elo0 : lo' = none → l = 0 := fun e => by
    subst e
    cases lo with
    | none => cases h5; rfl
    | some v => cases hlo
  have ehi : hh ≤ cap ∧ ∀ y code, hi' = some y → (Instr.sliceBound y cap' code).run P w = .ok hh w := by
    cases hi with
    | none =>
      cases hi' with
      | some _ => cases hhi
      | none => cases h3; exact ⟨hlc, fun y code hy => by cases hy⟩
    | some v =>
      cases hi' with
      | none => cases hhi
      | some y =>
        obtain ⟨i, g1, g2⟩ := bind_ok h3
        obtain ⟨hc, g3⟩ := bif_ok g2
        cases g3
        obtain ⟨k, rfl⟩ := intOf_rel hhi g1
        simp only [Bool.and_eq_true, decide_eq_true_eq] at hc
        refine ⟨by omega, fun y code hy => ?_⟩
        cases hy
        unfold Instr.sliceBound
        rw [run_bind_ok (a := (k, i)) (w1 := w) rfl]
        simp only []
        rw [if_pos (by omega)]
        rfl
  have ehi0 : hi' = none → hh = len := fun e => by
    subst e
    cases hi with
    | none => cases h3; rfl
    | some v => cases hhi
  refine ⟨?_, rfl, elo.1, ehi.1⟩
  unfold Instr.sliceBounds
  simp only []
  rw [run_bind_ok (a := cap') (w1 := w) rfl]
  cases hi' with
  | none =>
    have := ehi0 rfl
    subst this
    simp only []
    rw [run_bind_ok (a := hh) (w1 := w) rfl]
    cases lo' with
    | none =>
      have := elo0 rfl
      subst this
      rfl
    | some y =>
      simp only []
      exact (run_bind_ok (elo.2 y rfl)).trans rfl
  | some z =>
    simp only []
    rw [run_bind_ok (ehi.2 z _ rfl)]
    cases lo' with
    | none =>
      have := elo0 rfl
      subst this
      rfl
    | some y =>
      simp only []
      exact (run_bind_ok (elo.2 y rfl)).trans rfl

theorem part_rel {t : TypeId} {cs : List AV} {xs : List Value} (hl : RelL r cs xs) {off : Nat} {v : AV} (h : partOf E t cs off = .ok v) :
    Gives E.P r w v (part t xs.toArray off) := by
  obtain ⟨d, h1, h2⟩ := bind_ok h
  have hd := ofOpt_ok h1
  cases hag : isAggT d with
  | true =>
    simp only [hag, cond_true] at h2
    obtain ⟨n, h3, h4⟩ := bind_ok h2
    cases h4
    refine ⟨.agg (xs.toArray.extract off (off + n)), ?_, ?_⟩
    · unfold part
      rw [run_bind_ok (run_isAgg hE hd w), hag]
      simp only [if_true]
      rw [run_bind_ok (run_siz hE (ofOpt_ok h3) w)]
      rfl
    · have e1 : xs.toArray.extract off (off + n) = ((xs.drop off).take n).toArray := by
        apply Array.ext'
        rw [extract_list]
      rw [e1]
      exact .agg ((hl.drop off).take n).1 ((hl.drop off).take n).2
  | false =>
    simp only [hag, cond_false] at h2
    have hv := ofOpt_ok h2
    obtain ⟨x, hx, hr⟩ := hl.get hv
    refine ⟨x, ?_, hr⟩
    unfold part
    rw [run_bind_ok (run_isAgg hE hd w), hag]
    simp only [Bool.false_eq_true, if_false]
    have : xs.toArray[off]? = some x := by simpa using hx
    rw [this]
    rfl

omit hE in
theorem mulA {a b : Nat} : a * b = a * b := rfl

theorem indexAddr_rel {t : TypeId} {x ix v : AV} {a b : Value} (hx : RelV r x a) (hi : RelV r ix b) (h : aindexAddr E t x ix = .ok v) :
    Gives E.P r w v (Instr.indexAt t a b) := by
  obtain ⟨i, h1, h2⟩ := bind_ok h
  obtain ⟨k, rfl⟩ := intOf_rel hi h1
  obtain ⟨d, h3, h4⟩ := bind_ok h2
  have hd := ofOpt_ok h3
  unfold Instr.indexAt
  unfold Gives
  rw [run_bind_ok (a := (k, i)) (w1 := w) rfl, run_bind_ok (run_und hE hd w)]
  split at h4
  · rename_i len e id off ver
    obtain ⟨sz, h5, h6⟩ := bind_ok h4
    obtain ⟨hc, h7⟩ := bif_ok h6
    cases h7
    simp only [Bool.and_eq_true, decide_eq_true_eq] at hc
    cases hx with
    | ptr hr =>
      rename_i b0 n0 u0
      refine ⟨.pointer (some ⟨b0, off + i.toNat * sz, none⟩), ?_, .ptr hr⟩
      simp only []
      rw [run_bind_ok (a := (⟨b0, off, none⟩ : Addr)) (w1 := w) rfl]
      rw [run_bind_ok (a := (some (⟨b0, off, none⟩ : Addr), len, e)) (w1 := w) rfl]
      rw [run_bind_ok (run_und hE hd w)]
      simp only []
      rw [if_pos hc, run_bind_ok (run_siz hE (ofOpt_ok h5) w)]
      rw [addr_add]
      rfl
  · rename_i len e cs
    obtain ⟨sz, h5, h6⟩ := bind_ok h4
    obtain ⟨hc, h7⟩ := bif_ok h6
    cases h7
    simp only [Bool.and_eq_true, decide_eq_true_eq] at hc
    cases hx with
    | tptr hi hv =>
      rename_i b0 off c
      refine ⟨.pointer (some ⟨b0, off + i.toNat * sz, none⟩), ?_, ?_⟩
      · simp only []
        rw [run_bind_ok (a := (⟨b0, off, none⟩ : Addr)) (w1 := w) rfl]
        rw [run_bind_ok (a := (some (⟨b0, off, none⟩ : Addr), len, e)) (w1 := w) rfl]
        rw [run_bind_ok (run_und hE hd w)]
        simp only []
        rw [if_pos hc, run_bind_ok (run_siz hE (ofOpt_ok h5) w)]
        rw [addr_add]
        rfl
      · refine .tptr (c := c) ?_ fun j v x h8 h9 => hv (i.toNat * sz + j) v x (by rw [List.getElem?_drop] at h8; exact h8) (by rw [← Nat.add_assoc]; exact h9)
        rcases hi with rfl | ⟨hi, hs⟩
        · exact .inl (by simp)
        · by_cases hz : i.toNat * sz ≤ cs.length
          · exact .inr ⟨hi, by simp; omega⟩
          · exact .inl (by simp; omega)
  · rename_i e id off ver ex len cap
    obtain ⟨sz, h5, h6⟩ := bind_ok h4
    obtain ⟨hc, h7⟩ := bif_ok h6
    cases h7
    simp only [Bool.and_eq_true, decide_eq_true_eq] at hc
    cases hx with
    | slice hr hn hl hcp he =>
      rename_i b0 n0 u0 cap'
      refine ⟨.pointer (some ⟨b0, off + i.toNat * sz, none⟩), ?_, .ptr hr⟩
      simp only []
      rw [run_bind_ok (a := (some (⟨b0, off, none⟩ : Addr), len, e)) (w1 := w) rfl]
      rw [run_bind_ok (run_und hE hd w)]
      simp only []
      rw [if_pos hc, run_bind_ok (run_siz hE (ofOpt_ok h5) w)]
      rw [addr_add]
      rfl
  · rename_i e u len cs
    obtain ⟨sz, h5, h6⟩ := bind_ok h4
    obtain ⟨hc, h7⟩ := bif_ok h6
    cases h7
    simp only [Bool.and_eq_true, decide_eq_true_eq] at hc
    cases hx with
    | tree hl hcp hi hv =>
      rename_i b0 off cap c
      refine ⟨.pointer (some ⟨b0, off + i.toNat * sz, none⟩), ?_, ?_⟩
      · simp only []
        rw [run_bind_ok (a := (some (⟨b0, off, none⟩ : Addr), len, e)) (w1 := w) rfl]
        rw [run_bind_ok (run_und hE hd w)]
        simp only []
        rw [if_pos hc, run_bind_ok (run_siz hE (ofOpt_ok h5) w)]
        rw [addr_add]
        rfl
      · refine .tptr (c := c) ?_ fun j v x h8 h9 => hv (i.toNat * sz + j) v x (by rw [List.getElem?_drop] at h8; exact h8) (by rw [← Nat.add_assoc]; exact h9)
        rcases hi with rfl | ⟨hi, hs⟩
        · exact .inl (by simp)
        · by_cases hz : i.toNat * sz ≤ cs.length
          · exact .inr ⟨hi, by simp; omega⟩
          · exact .inl (by simp; omega)
  · cases h4

end
end Go.Am
