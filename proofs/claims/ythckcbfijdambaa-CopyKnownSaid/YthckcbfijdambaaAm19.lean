/- Soundness: ranges over functions. -/
import Derived.Test.YthckcbfijdambaaAm18
import Derived.RangeFuncNested
namespace Go.Am
open Go.RowKit

section
variable {E : Env} (hG : EnvGood E) {rec : Task → St → RR} (hR : Sound E rec) {r : Ren} {S : St} {w : World}

theorem pendingOf_rel (hw : RelW r S w) {l : Nat} {p : Option Code} {b n u : Nat} (hr : r.row l 0 = some (b, n, u)) (h : pendingOf S l = .ok p) {lp : Loop} (hlp : w.heap[b]? = some (.loop lp)) : lp.pending = p := by
  unfold pendingOf at h
  split at h
  · rename_i n0 tmps ps assign body st0 pending dfr hg
    cases h
    obtain ⟨_, c1, c2, lp', h1, h2, h3, _⟩ := loop_get hw hg hr
    rw [hlp] at h1
    cases h1
    exact h3
  · cases h

/-- A loop is entered: the block for the rounds' deferred calls, if it is an outermost one. -/
theorem enterLoopA_rel (hw : RelW r S w) {a : AAct} {act : Act} {ro : Option Nat} (ha : RelA r a act) (hro : RelR r a.rnd ro) {d : Nat} {mark : List Nat} {S1 : St}
    (h : enterLoopA S a = .ok (d, mark, S1)) (P : Program) (ps : Array Tmp) (assign body : Code) :
    ∃ (r1 : Ren) (w1 : World) (y : Nat × Nat × Nat) (ms : List Deferred), Ext r S w r1 S1 w1 ∧ r1.row d 0 = some y ∧
      (∀ fn, (Instr.enterLoop fn act.tmps ps assign body (fence ro).round).run P w =
        .ok (w1.heap.size, ms) (w1.alloc (.loop { state := .ready, pending := none, fn, tmps := act.tmps, params := ps, assign, body, defers := y.1 }))) ∧
      RelA r1 { n := a.n, tmps := a.tmps, marks := mark ++ a.marks, rnd := a.rnd } { act with defers := ms ++ act.defers } := by
  unfold enterLoopA at h
  cases hrnd : a.rnd with
  | none =>
    rw [hrnd] at h hro
    cases h
    cases ro with
    | some b => exact hro.elim
    | none =>
    have x := hw.new (.dfr true) (.deferred (some [])) 0 0 0 ⟨rfl, by rw [World.alloc_get, if_pos rfl]; rfl⟩
    refine ⟨_, _, _, [{ target := .collected w.heap.size, args := #[] }], x, Ren.add_same _ _ _ _, fun fn => ?_, ?_⟩
    · have := run_enterLoop_outer (P := P) (w := w) fn act.tmps ps assign body
      rw [World.alloc_size]
      exact this
    · have ha1 := ha.mono x.sub
      refine ⟨ha1.size, ha1.get, ?_, ?_⟩
      · simp [ha.marks.1]
      · intro i m d h1 h2
        cases i with
        | zero =>
          simp at h1 h2
          subst h1 h2
          exact ⟨_, Ren.add_same _ _ _ _, rfl⟩
        | succ i =>
          simp at h1 h2
          exact ha1.marks.2 i m d h1 h2
  | some l0 =>
    rw [hrnd] at h hro
    cases ro with
    | none => exact hro.elim
    | some b0 =>
    obtain ⟨n0, u0, hr0⟩ := hro
    simp only at h
    split at h
    · rename_i n1 tmps1 ps1 as1 bd1 st1 pd1 d1 hg
      cases h
      obtain ⟨_, c1, c2, lp, k1, k2, k3, k4, k5, k6, k7, x, k8, k9⟩ := loop_get hw hg hr0
      refine ⟨r, w, x, [], .refl hw, k8, fun fn => ?_, ?_⟩
      · have := run_enterLoop_inner (P := P) k1 fn act.tmps ps assign body
        rw [← k9]
        exact this
      · exact ⟨ha.size, ha.get, ha.marks.1, ha.marks.2⟩
    · cases h

include hG hR

theorem aRange_sim (hw : RelW r S w) {g : Operand} {ps : Array Tmp} {assign body : Code} {a a' : AAct} {act : Act} {ro : Option Nat} {e : Exit} {S' : St} (ha : RelA r a act) (hro : RelR r a.rnd ro)
    (h : aRange rec E S g ps assign body a = .ok (.exit e a', S')) (c1 : codeOk assign = true) (c2 : codeOk body = true) :
    (Code.rangeFunc g ps assign body).wpIn (fence ro) 0 E.P (fun ex ac w1 => ex = e ∧ ∃ r', Ext r S w r' S' w1 ∧ RelA r' a' ac) act w := by
  unfold aRange at h
  obtain ⟨⟨d, mark, S1⟩, h1, h2⟩ := bind_ok h
  obtain ⟨r1, w1, y, ms, x1, hy, hent, ha1⟩ := enterLoopA_rel hw ha hro h1 E.P ps assign body
  refine wpIn_rangeFunc fun fn _ => ?_
  have hobj : ∀ r2 : Ren, r1.le r2 → RelO r2 0 w1.heap.size 0 0 (w1.alloc (.loop { state := .ready, pending := none, fn, tmps := act.tmps, params := ps, assign, body, defers := y.1 }))
      (.loop a.n a.tmps ps.toList assign body .ready none d) := by
    intro r2 hle
    refine ⟨rfl, c1, c2, _, by rw [World.alloc_get, if_pos rfl], rfl, rfl, by simp, rfl, rfl, ⟨ha.size, fun t => ?_⟩, y, hle.row _ _ _ hy, rfl⟩
    exact (ha1.mono hle).get t
  have hle : r1.le (r1.add S1.next 0 (w1.heap.size, 0, 0)) := by
    refine Ren.add_le (.inl ?_)
    cases hx : r1.row S1.next 0 with
    | none => rfl
    | some x => have := (x1.rel.dom _ _ _ hx).1; omega
  have x2 := x1.rel.new (.loop a.n a.tmps ps.toList assign body .ready none d) _ 0 0 0 (hobj _ hle)
  have hr2 : (r1.add S1.next 0 (w1.heap.size, 0, 0)).row S1.next 0 = some (w1.heap.size, 0, 0) := Ren.add_same _ _ _ _
  simp only at h2
  have hg := ha.ev g
  split at h2
  rotate_left
  · cases h2
  rename_i f first cap hgv
  rw [hgv] at hg
  obtain ⟨fd, hfd, h3⟩ := bind_ok h2
  obtain ⟨⟨res, S3⟩, h4, h5⟩ := bind_ok h3
  split at h5
  rotate_left
  · cases h5
  rename_i v S3' heq
  cases heq
  obtain ⟨st, k1, h6⟩ := bind_ok h5
  obtain ⟨_, k2, h7⟩ := bind_ok h6
  obtain ⟨pending, k3, h8⟩ := bind_ok h7
  obtain ⟨S4, k4, h9⟩ := bind_ok h8
  generalize hρ : act.eval g = gv at hg
  cases hg with
  | func q1 q2 qx qy =>
  rename_i xs ys
  have hargs : RelL (r1.add S1.next 0 (w1.heap.size, 0, 0)) (first ++ [AV.yield S1.next] ++ cap) (xs ++ [Value.func (.yield w1.heap.size) #[] #[]] ++ ys) := by
    have m1 : r.le (r1.add S1.next 0 (w1.heap.size, 0, 0)) := x1.sub.trans x2.sub
    refine RelL.append (RelL.append ⟨q1, fun i v x a b => (qx i v x a b).mono m1⟩ ⟨rfl, fun i v x a b => ?_⟩) ⟨q2, fun i v x a b => (qy i v x a b).mono m1⟩
    cases i with
    | zero => simp at a b; subst a b; exact .yield hr2
    | succ i => simp at a
  refine ⟨_, _, _, { target := .fn (.func f) ys.toArray, args := xs.toArray ++ #[Value.func (.yield w1.heap.size) #[] #[]] }, w1.alloc (.loop { state := .ready, pending := none, fn, tmps := act.tmps, params := ps, assign, body, defers := y.1 }), f, (xs ++ [Value.func (.yield w1.heap.size) #[] #[]] ++ ys).toArray, w1.alloc (.loop { state := .ready, pending := none, fn, tmps := act.tmps, params := ps, assign, body, defers := y.1 }), hent fn, ?_, fun _ _ => trivial, ?_, fun hc => (by cases hc), ?_⟩
  · unfold resolve
    have hm : Array.map act.eval #[Operand.const (Value.func (Fn.yield w1.heap.size) #[] #[])] = #[Value.func (Fn.yield w1.heap.size) #[] #[]] := by simp [Act.eval]
    simp only [hρ, hm]
    rfl
  · have := (hG.ok.fn _ _ (ofOpt_ok hfd)).2 ((xs.toArray ++ #[Value.func (.yield w1.heap.size) #[] #[]]) ++ ys.toArray) (w1.alloc (.loop { state := .ready, pending := none, fn, tmps := act.tmps, params := ps, assign, body, defers := y.1 }))
    have e2 : (xs ++ [Value.func (.yield w1.heap.size) #[] #[]] ++ ys).toArray = (xs.toArray ++ #[Value.func (.yield w1.heap.size) #[] #[]]) ++ ys.toArray := by simp
    rw [e2]
    exact this
  · refine (callsIn_fence (hR.call _ _ _ _ _ h4 _ _ _ x2.rel hargs) ro).mono ?_
    rintro en w3 ⟨x, r3, rfl, x3, hv⟩
    have hr3 := x3.sub.row _ _ _ hr2
    obtain ⟨lp, l1, l2⟩ := stateOf_rel x3.rel hr3 k1
    have l3 := pendingOf_rel x3.rel hr3 k3 l1
    have x4 := loopState_rel x3.rel hr3 k4 l1
    have hx := ((x1.trans x2).trans x3).trans x4
    have ha4 := ha1.mono (x2.trans x3).sub
    have hnb : lp.state ≠ .busy := by
      intro hb
      rw [l2] at hb
      subst hb
      have := mustBe_ok k2
      simp at this
    refine ⟨lp.pending, _, run_endLoop l1 hnb, ?_⟩
    have hx' : Ext r S w r3 S4 (w3.putObj w1.heap.size (.loop { lp with state := .exhausted })) := hx
    clear hx x4
    revert hx'
    generalize w3.putObj w1.heap.size (.loop { lp with state := .exhausted }) = w4
    intro hx
    rw [l3]
    cases pending with
    | none =>
      cases h9
      exact ⟨rfl, _, hx, ha4⟩
    | some c =>
      obtain ⟨e', k5, k6⟩ := bind_ok h9
      cases k6
      unfold jumpExit at k5
      split at k5
      · cases k5; exact wpIn_ret ⟨rfl, _, hx, ha4⟩
      · cases k5; exact wpIn_exit ⟨rfl, _, hx, ha4⟩
      · cases k5; exact wpIn_goto ⟨rfl, _, hx, ha4⟩
      · cases k5

omit hG hR in
theorem aRange_act {g : Operand} {ps : Array Tmp} {assign body : Code} {a a' : AAct} {e : Exit} {S' : St} (h : aRange rec E S g ps assign body a = .ok (.exit e a', S')) : a'.rnd = a.rnd ∧ a'.n = a.n := by
  unfold aRange at h
  obtain ⟨⟨d, mark, S1⟩, h1, h2⟩ := bind_ok h
  simp only at h2
  split at h2
  rotate_left
  · cases h2
  obtain ⟨fd, hfd, h3⟩ := bind_ok h2
  obtain ⟨⟨res, S3⟩, h4, h5⟩ := bind_ok h3
  split at h5
  rotate_left
  · cases h5
  obtain ⟨st, k1, h6⟩ := bind_ok h5
  obtain ⟨_, k2, h7⟩ := bind_ok h6
  obtain ⟨pending, k3, h8⟩ := bind_ok h7
  obtain ⟨S4, k4, h9⟩ := bind_ok h8
  cases pending with
  | none => cases h9; exact ⟨rfl, rfl⟩
  | some c => obtain ⟨e', k5, k6⟩ := bind_ok h9; cases k6; exact ⟨rfl, rfl⟩

end
end Go.Am
