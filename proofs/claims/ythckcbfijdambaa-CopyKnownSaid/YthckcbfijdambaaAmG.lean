/- Operations that make one new row, taken at whatever time. -/
import Derived.Test.YthckcbfijdambaaAmD
namespace Go.Am
open Go.RowKit

theorem sameObj_eq {a b : AObj} (h : sameObj a b = true) : a = b := by
  unfold sameObj at h
  split at h
  · simp at h
    rw [allSame_eq (sameA_eq 6) _ _ h.1.1]
    simp [h.1.2, h.2]
  · cases h

theorem floatSame_eq {S : St} {f : Nat × Nat × AObj} (h : floatSame S f = true) : S.heap.get f.2.1 = some f.2.2 := by
  unfold floatSame at h
  split at h
  · rename_i o ho
    rw [ho, sameObj_eq h]
  · cases h

/-- A new row of the given world, whose row here has been laid before. -/
theorem Ext.place {r0 r : Ren} {S0 S : St} {w0 w : World} (k : Ext r0 S0 w0 r S w) {id : Nat} (o : AObj) (o' : Obj) (ver n u : Nat) (hg : S.heap.get id = some o) (hn : ∀ v, r.row id v = none) (hid : id < S.next) (hlow : S.low ≤ id) (h0 : S0.next ≤ id)
    (ho : RelO (r.add id ver (w.heap.size, n, u)) ver w.heap.size n u (w.alloc o') o) : Ext r0 S0 w0 (r.add id ver (w.heap.size, n, u)) S (w.alloc o') := by
  have h := k.rel
  have hle : r.le (r.add id ver (w.heap.size, n, u)) := Ren.add_le (.inl (hn ver))
  refine ⟨k.sub.trans hle, ⟨?_, ?_, ?_, ?_, h.low⟩, k.next, k.low, k.keep, by rw [World.alloc_size]; have := k.size; omega, k.os, k.tape, k.output, ?_, ?_, k.news,
    fun i v x hx => (Ren.add_cases hx).elim (fun e => .inl (by rw [e.1]; exact h0)) (fun h => k.born i v x h)⟩
  · intro i v x hx
    rw [World.alloc_size]
    rcases Ren.add_cases hx with ⟨rfl, rfl, rfl⟩ | hx
    · exact ⟨hid, by simp⟩
    · have := h.dom _ _ _ hx; omega
  · intro i v x i' v' x' hx hx' he
    rcases Ren.add_cases hx with ⟨rfl, rfl, rfl⟩ | kx <;> rcases Ren.add_cases hx' with ⟨rfl, rfl, rfl⟩ | kx'
    · rfl
    · have := (h.dom _ _ _ kx').2; simp at he; omega
    · have := (h.dom _ _ _ kx).2; simp at he; omega
    · exact h.inj _ _ _ _ _ _ kx kx' he
  · intro b c hb
    obtain ⟨⟨e, fz, h1⟩, h2⟩ := h.imm b c hb
    have hlt : b < w.heap.size := (Array.getElem?_eq_some_iff.1 h1).1
    refine ⟨⟨e, fz, by rw [World.alloc_get, if_neg (by omega)]; exact h1⟩, fun i v x hx => ?_⟩
    rcases Ren.add_cases hx with ⟨rfl, rfl, rfl⟩ | hx
    · simp; omega
    · exact h2 _ _ _ hx
  · intro i o1 hg1 v b n' u' hx
    rcases Ren.add_cases hx with ⟨rfl, rfl, e⟩ | hx
    · rw [hg] at hg1
      cases hg1
      cases e
      exact ho
    · have hd := h.dom _ _ _ hx
      exact ((h.obj _ _ hg1 _ _ _ _ hx).world (by rw [World.alloc_get, if_neg (by simp at hd; omega)])).mono hle
  · intro b hb
    have hs := k.size
    rcases k.frame b hb with e | e
    · exact .inl (by rw [World.alloc_get, if_neg (by omega)]; exact e)
    · exact .inr e
  · intro i v x hx
    rcases Ren.add_cases hx with ⟨rfl, rfl, rfl⟩ | hx
    · exact .inr ⟨hlow, .inl k.size⟩
    · exact k.fresh _ _ _ hx

/-- One new row; its place here, and the value that names it. -/
def FloatAt (P : Program) (r : Ren) (w : World) (mk : Nat → AV) (ob : AObj) (m : Sem Value) : Prop :=
  ∃ (x : Value) (cs : List AV) (xs : Array Value) (u : Nat) (e : TypeId), ob = .row cs u 0 ∧ RelL r cs xs.toList ∧ m.run P w = .ok x (w.alloc (.cells xs e (0, 0))) ∧
    ∀ (r' : Ren) (id : Nat), r.le r' → r'.row id cs.length = some (w.heap.size, cs.length, u) → RelV r' (mk id) x

section
variable {E : Env} (hE : EnvOk E) {r : Ren} {S : St} {w : World}

theorem newVar_float {t : TypeId} {v p : AV} {b : Value} {S' : St} (hv : RelV r v b) (h : newVarA E S t v = .ok (p, S')) :
    ∃ cs u, p = .ptr S.next 0 cs.length ∧ S' = S.new (.row cs u 0) ∧ RelL r cs b.cells.toList ∧ (newVar t b).run E.P w = .ok ⟨w.heap.size, 0, none⟩ (w.alloc (.cells b.cells t (0, 0))) := by
  obtain ⟨u, h1, h2⟩ := bind_ok h
  cases h2
  refine ⟨_, u, rfl, rfl, hv.cells, ?_⟩
  exact (by unfold newVar newRow; rw [run_bind_ok (run_new w _)]; rfl)

include hE

theorem alloc_float {t : TypeId} {p : AV} {S' : St} (h : aalloc E S t = .ok (p, S')) : ∃ mk ob, p = mk S.next ∧ S' = S.new ob ∧ FloatAt E.P r w mk ob (Instr.alloc t true (.tuple #[])) := by
  obtain ⟨z, h1, h2⟩ := bind_ok h
  obtain ⟨cs, u, e1, e2, k1, k2⟩ := newVar_float (r := r) (w := w) (ofV_rel r 4 z) h2
  refine ⟨fun id => .ptr id 0 cs.length, _, e1, e2, _, cs, _, u, t, rfl, k1, ?_, fun r' id _ hr => .ptr hr⟩
  unfold Instr.alloc
  rw [run_bind_ok (run_zro hE (ofOpt_ok h1) w)]
  simp only []
  rw [run_bind_ok k2]
  rfl

omit hE in
theorem box_float {t : TypeId} {v p : AV} {b : Value} {S' : St} (hv : RelV r v b) (h : newVarA E S t v = .ok (p, S')) : ∃ mk ob, p = mk S.next ∧ S' = S.new ob ∧ FloatAt E.P r w mk ob (Instr.box t b) := by
  obtain ⟨cs, u, e1, e2, k1, k2⟩ := newVar_float (r := r) (w := w) hv h
  refine ⟨fun id => .ptr id 0 cs.length, _, e1, e2, _, cs, _, u, t, rfl, k1, ?_, fun r' id _ hr => .ptr hr⟩
  unfold Instr.box
  rw [run_bind_ok k2]
  rfl

theorem buildSlice_float {t : TypeId} {len : Nat} {ps : List (Nat × AV)} {qs : List (Nat × Value)} {v : AV} {S' : St} (hp : RelP r ps qs)
    (h : abuildSlice E S t len ps = .ok (v, S')) : ∃ mk ob, v = mk S.next ∧ S' = S.new ob ∧ FloatAt E.P r w mk ob (Instr.buildSlice t len qs.toArray) := by
  obtain ⟨d, h1, h2⟩ := bind_ok h
  have hd := ofOpt_ok h1
  split at h2
  · rename_i e
    obtain ⟨sz, h3, h4⟩ := bind_ok h2
    cases hb : Nat.blt (2 ^ 24) (len * sz) with
    | true => simp [hb] at h4
    | false =>
      simp only [hb, cond_false] at h4
      have hb := blt_false.1 hb
      obtain ⟨zs, h5, h6⟩ := bind_ok h4
      obtain ⟨cs, h7, h8⟩ := bind_ok h6
      cases h8
      obtain ⟨zero, k0, k1, k2, k3⟩ := zeros_rel hE (r := r) (w := w) h5
      obtain ⟨ys, k4, k5⟩ := fill_rel ps qs zs cs _ hp k2 h7
      have hcs : cs.length = len * sz := by
        have e1 := fill_len ps zs cs h7
        omega
      have k6 : (newRow e ys).run E.P w = .ok ⟨w.heap.size, 0, none⟩ (w.alloc (.cells ys e (0, 0))) := by unfold newRow; rw [run_bind_ok (run_new w _)]; rfl
      refine ⟨fun id => .slice id 0 cs.length true len len, _, rfl, rfl, .slice (some ⟨w.heap.size, 0, none⟩) len len, cs, ys, sz, e, rfl, k5, ?_,
        fun r' id _ hr => .slice hr (by omega) (Nat.le_refl _) (Nat.le_refl _) (fun _ => rfl)⟩
      unfold Instr.buildSlice
      rw [run_bind_ok (run_und hE hd w)]
      simp only []
      rw [run_bind_ok (run_siz hE (ofOpt_ok h3) w)]
      have hn : ¬ len * sz > 2 ^ 24 := by omega
      simp only [if_neg hn]
      by_cases h0 : len * sz = 0
      · have := k0 h0
        subst this
        simp only [if_pos h0]
        rw [run_bind_ok (a := (#[] : Array Value)) (w1 := w) rfl]
        simp only [k4]
        rw [run_bind_ok k6]
        rfl
      · obtain ⟨z, k9, rfl⟩ := k1 h0
        simp only [if_neg h0]
        rw [run_bind_ok k9, run_bind_ok (a := z.cells) (w1 := w) rfl]
        simp only [k4]
        rw [run_bind_ok k6]
        rfl
  · cases h2

/-- An operation of kind 3. -/
theorem aop_float {ev : Operand → AV} {ρ : Operand → Value} (hev : ∀ x, RelV r (ev x) (ρ x)) {o : Oper} (hk : kindOf o = 3) {nx : ANext} {S' : St} (h : aop E S ev o = .ok (nx, S')) :
    ∃ (mk : Nat → AV) (ob : AObj), nx = .val (mk S.next) ∧ S' = S.new ob ∧ ∃ (x : Value) (cs : List AV) (xs : Array Value) (u : Nat) (e : TypeId), ob = .row cs u 0 ∧ RelL r cs xs.toList ∧
      (execOp ρ o).run E.P w = .ok (.value x) (w.alloc (.cells xs e (0, 0))) ∧ ∀ (r' : Ren) (id : Nat), r.le r' → r'.row id cs.length = some (w.heap.size, cs.length, u) → RelV r' (mk id) x := by
  unfold aop at h
  unfold execOp
  split at h
  all_goals (rename_i ho; simp only [kindOf, ho] at hk; try omega)
  all_goals (try (split at hk <;> omega))
  · obtain ⟨v, h1, h2⟩ := newOf_ok h
    subst h2
    obtain ⟨mk, ob, e1, e2, x, cs, xs, u, e, k1, k2, k3, k4⟩ := alloc_float hE (r := r) (w := w) h1
    refine ⟨mk, ob, by rw [e1], e2, x, cs, xs, u, e, k1, k2, ?_, k4⟩
    rw [ho]
    exact (run_bind_ok k3).trans rfl
  · obtain ⟨v, h1, h2⟩ := newOf_ok h
    subst h2
    obtain ⟨mk, ob, e1, e2, x, cs, xs, u, e, k1, k2, k3, k4⟩ := box_float (hev _) (w := w) h1
    refine ⟨mk, ob, by rw [e1], e2, x, cs, xs, u, e, k1, k2, ?_, k4⟩
    rw [ho]
    exact (run_bind_ok k3).trans rfl
  · obtain ⟨v, h1, h2⟩ := newOf_ok h
    subst h2
    obtain ⟨mk, ob, e1, e2, x, cs, xs, u, e, k1, k2, k3, k4⟩ := buildSlice_float hE (w := w) (relP_map hev _) h1
    rw [← parts_arr] at k3
    refine ⟨mk, ob, by rw [e1], e2, x, cs, xs, u, e, k1, k2, ?_, k4⟩
    rw [ho]
    exact (run_bind_ok k3).trans rfl
end

end Go.Am
