/- The built-in functions, abstractly and in the model. -/
import Derived.Test.YthckcbfijdambaaAm12
namespace Go.Am
open Go.RowKit

section
variable {E : Env} (hE : EnvOk E) {r : Ren} {S : St} {w : World}

theorem lenOf_rel {P : Program} {v : AV} {x : Value} {n : Nat} (hv : RelV r v x) (h : lenOf? v = .ok n) : (Builtin.lenOf x).run P w = .ok n w := by
  unfold lenOf? at h
  split at h <;> first
    | (cases h; done)
    | (cases h; cases hv; rfl)

theorem firstN_rel {P : Program} (hw : RelW r S w) {v : AV} {x : Value} {sz n : Nat} {cs : List AV} (hv : RelV r v x) (h : firstN S sz n v = .ok cs) :
    ∃ ys : Array Value, (∀ w1 : World, w1.heap = w.heap → (Builtin.firstCells sz n x).run P w1 = .ok ys w1) ∧ RelL r cs ys.toList := by
  unfold firstN at h
  split at h
  · cases hv with
    | slice hr hn hl hc he =>
      obtain ⟨c, e, h1, h2, h3⟩ := loadN_rel hw hr h
      refine ⟨_, fun w1 hw1 => run_loadCells (by rw [hw1]; exact h1) h2, ?_⟩
      rw [extract_list]
      exact h3
  · rename_i u len cells
    obtain ⟨hc, h1⟩ := bif_ok h
    cases h1
    obtain ⟨h2, h3⟩ := and_true hc
    have h2 := beq_true h2
    have h3 := ble_true h3
    cases hv with
    | tree hl hcp hi hvv =>
      rename_i b off cap c
      by_cases h0 : n * sz = 0
      · refine ⟨#[], fun w1 _ => ?_, by rw [h0]; exact .nil r⟩
        show (loadCells ⟨b, off, none⟩ (n * sz)).run P w1 = _
        rw [h0]
        rfl
      · rcases hi with rfl | ⟨hi, hs⟩
        · simp at h3; omega
        · obtain ⟨⟨e, fz, hb⟩, _⟩ := hw.imm _ _ hi
          refine ⟨_, fun w1 hw1 => run_loadCells (by rw [hw1]; exact hb) (by omega), ?_⟩
          rw [extract_list]
          refine ⟨by simp; omega, fun i v x k1 k2 => ?_⟩
          rw [List.getElem?_take] at k1 k2
          split at k1
          · rename_i hk
            rw [if_pos hk, List.getElem?_drop] at k2
            exact (hvv i v x k1 (by simpa using k2)).mono r.bare_le
          · cases k1
  · cases h
    have e := hv.lit_inv
    subst e
    exact ⟨#[], fun _ _ => rfl, .nil r⟩
  · obtain ⟨hc, h1⟩ := bif_ok h
    cases h1
    have hn := beq_true hc
    subst hn
    cases hv with
    | empty =>
      rename_i b off
      refine ⟨#[], fun w1 _ => ?_, .nil r⟩
      show (loadCells ⟨b, off, none⟩ (0 * sz)).run P w1 = _
      rw [Nat.zero_mul]
      rfl
  · rename_i s
    obtain ⟨hc, h1⟩ := bif_ok h
    cases h1
    have hn := ble_true hc
    have e := hv.lit_inv
    subst e
    refine ⟨_, fun _ _ => rfl, ?_⟩
    have hd : (s.extract 0 n).data.toList = s.data.toList.take n := by
      simp [ByteArray.data_extract]
    rw [Array.toList_map, hd]
    generalize s.data.toList.take n = l
    induction l with
    | nil => exact .nil r
    | cons b l ih => exact .cons (.lit _) ih
  · cases h

theorem first_zero {P : Program} {v : AV} {x : Value} {m : Nat} (hv : RelV r v x) (h : lenOf? v = .ok m) (sz : Nat) : ∃ ys : Array Value, (Builtin.firstCells sz 0 x).run P w = .ok ys w ∧ ys = #[] := by
  unfold lenOf? at h
  split at h <;> first
    | (cases h; done)
    | (cases hv <;> exact ⟨_, (by show (loadCells _ (0 * sz)).run P w = _; rw [Nat.zero_mul]; rfl), rfl⟩)
    | (have e := hv.lit_inv
       subst e
       exact ⟨_, rfl, by simp⟩)
    | (have e := hv.lit_inv
       subst e
       refine ⟨_, rfl, ?_⟩
       apply Array.ext'
       simp [ByteArray.data_extract])

theorem run_appendCap {P : Program} (need old elem : Nat) (w : World) :
    ∃ cap, need ≤ cap ∧ (choose (.appendCap need old elem)).run P w = .ok cap { w with drawn := w.drawn + 1 } := by
  refine ⟨need + w.tape w.drawn (.appendCap need old elem) % (2 ^ 63 - need), Nat.le_add_right _ _, ?_⟩
  rfl

theorem nextcap_le (need old : Nat) (h : old < need) : Builtin.nextslicecap need old ≤ 2 * need + 1000 := by
  have grow : ∀ (k c : Nat), c < need → Builtin.growBy need k c ≤ 2 * need + 1000 := by
    intro k
    induction k with
    | zero => intro c hc; simp only [Builtin.growBy]; omega
    | succ k ih =>
      intro c hc
      simp only [Builtin.growBy]
      split
      · omega
      · by_cases h2 : c + (c + 768) / 4 < need
        · exact ih _ h2
        · cases k with
          | zero => simp only [Builtin.growBy]; omega
          | succ k => simp only [Builtin.growBy]; rw [if_pos (by omega)]; omega
  unfold Builtin.nextslicecap
  split
  · omega
  · split
    · omega
    · exact grow 4 old h
end

section
variable {E : Env} (hE : EnvOk E) {r : Ren} {S : St} {w : World}
include hE

/-- 'append' where there is room. -/
theorem append_room {argTypes : Array TypeId} {ty st e sz k len cap : Nat} {b off : Nat} {x : Value} {ys : Array Value} {w' : World} (ha : argTypes[0]? = some st) (hst : E.und st = some (.slice e))
    (hsz : E.siz e = some sz) (hnot : notInt E argTypes[1]? = .ok ()) (hlen : (Builtin.lenOf x).run E.P w = .ok k w) (hfirst : (Builtin.firstCells sz k x).run E.P w = .ok ys w)
    (hroom : len + k ≤ cap) (hst' : (storeCells ⟨b, off + len * sz, none⟩ ys.toList).run E.P w = .ok () w') :
    (Builtin.append_ argTypes ty #[.slice (some ⟨b, off, none⟩) len cap, x]).run E.P w = .ok (.slice (some ⟨b, off, none⟩) (len + k) cap) w' := by
  have e0 : (#[Value.slice (some ⟨b, off, none⟩) len cap, x] : Array Value)[0]? = some (.slice (some ⟨b, off, none⟩) len cap) := rfl
  have e1 : (#[Value.slice (some ⟨b, off, none⟩) len cap, x] : Array Value)[1]? = some x := rfl
  have tail : ∀ (m : Sem Value), m = (do
      let new ← Builtin.firstCells sz k x
      storeCells ((⟨b, off, none⟩ : Addr).add (len * sz)) new.toList
      pure (.slice (some ⟨b, off, none⟩) (len + k) cap)) → m.run E.P w = .ok (.slice (some ⟨b, off, none⟩) (len + k) cap) w' := by
    intro m hm
    rw [hm, run_bind_ok hfirst, addr_add, run_bind_ok hst']
    rfl
  unfold Builtin.append_
  rw [ha, e0, e1]
  simp only []
  rw [run_bind_ok (run_und hE hst w)]
  simp only []
  rw [run_bind_ok (run_siz hE hsz w)]
  unfold notInt at hnot
  cases h1 : argTypes[1]? with
  | none =>
    simp only []
    rw [run_bind_ok (a := false) (w1 := w) rfl]
    simp only [Bool.false_eq_true, if_false, Bool.not_false, if_true]
    rw [run_bind_ok hlen]
    simp only [if_pos hroom]
    exact tail _ rfl
  | some xt =>
    rw [h1] at hnot
    obtain ⟨xd, g1, g2⟩ := bind_ok hnot
    simp only []
    rw [run_bind_ok (run_und hE (ofOpt_ok g1) w)]
    rw [run_bind_ok (a := false) (w1 := w) (by cases xd <;> first | rfl | cases g2)]
    simp only [Bool.false_eq_true, if_false, Bool.not_false, if_true]
    rw [run_bind_ok hlen]
    simp only [if_pos hroom]
    exact tail _ rfl

/-- 'append' where there is none. -/
theorem append_grows {argTypes : Array TypeId} {ty st e sz k len cap by_ : Nat} {base : Option Addr} {x z : Value} {old ys : Array Value} (ha : argTypes[0]? = some st) (hst : E.und st = some (.slice e))
    (hsz : E.siz e = some sz) (hby : E.byt e = some by_) (hz : E.zro e = some z) (hnot : notInt E argTypes[1]? = .ok ()) (hlen : ∀ w : World, (Builtin.lenOf x).run E.P w = .ok k w)
    (hbig : (2 * (len + k) + 1000) * by_ < 2 ^ 48) (hby0 : by_ ≠ 0)
    (hold : ∀ j, (Builtin.firstCells sz len (.slice base len cap)).run E.P { w with drawn := j } = .ok old { w with drawn := j })
    (hfirst : ∀ j, (Builtin.firstCells sz k x).run E.P { w with drawn := j } = .ok ys { w with drawn := j }) (hroom : ¬ len + k ≤ cap) :
    ∃ newCap, len + k ≤ newCap ∧ (Builtin.append_ argTypes ty #[.slice base len cap, x]).run E.P w =
      .ok (.slice (some ⟨w.heap.size, 0, none⟩) (len + k) newCap) (({ w with drawn := w.drawn + 1 } : World).alloc (.cells (old ++ ys ++ Builtin.zeroCells z.cells (newCap - (len + k))) e (0, 0))) := by
  obtain ⟨newCap, hcap, hchoose⟩ := run_appendCap (P := E.P) (len + k) cap e w
  obtain ⟨i, hi, hib⟩ := hE.byt _ _ hby
  have e0 : (#[Value.slice base len cap, x] : Array Value)[0]? = some (.slice base len cap) := rfl
  have e1 : (#[Value.slice base len cap, x] : Array Value)[1]? = some x := rfl
  have hnext : ¬ Builtin.nextslicecap (len + k) cap * i.bytes > 2 ^ 48 := by
    have h1 := nextcap_le (len + k) cap (by omega)
    have h2 := Nat.mul_le_mul_right by_ h1
    rw [hib]
    omega
  have hb0 : ¬ i.bytes = 0 := by rw [hib]; exact hby0
  refine ⟨newCap, hcap, ?_⟩
  have hrow : (newRow e (old ++ ys ++ Builtin.zeroCells z.cells (newCap - (len + k)))).run E.P { w with drawn := w.drawn + 1 } =
      .ok ⟨w.heap.size, 0, none⟩ (({ w with drawn := w.drawn + 1 } : World).alloc (.cells (old ++ ys ++ Builtin.zeroCells z.cells (newCap - (len + k))) e (0, 0))) := by
      unfold newRow; rw [run_bind_ok (run_new _ _)]; rfl
  unfold Builtin.append_
  rw [ha, e0, e1]
  simp only []
  rw [run_bind_ok (run_und hE hst w)]
  simp only []
  rw [run_bind_ok (run_siz hE hsz w)]
  unfold notInt at hnot
  cases h1 : argTypes[1]? with
  | none =>
    simp only []
    rw [run_bind_ok (a := false) (w1 := w) rfl]
    simp only [Bool.false_eq_true, if_false, Bool.not_false, if_true]
    rw [run_bind_ok (hlen w)]
    simp only [if_neg hroom]
    rw [run_bind_ok (hi w)]
    simp only [hb0, or_self, and_false, if_false]
    rw [run_bind_ok (hi w)]
    simp only [if_neg hnext]
    rw [run_bind_ok hchoose, run_bind_ok (hi _), run_bind_ok (run_askRoom _ _), run_bind_ok (hold _), run_bind_ok (hfirst _), run_bind_ok (run_zro hE hz _)]
    rw [run_bind_ok hrow]
    rfl
  | some xt =>
    rw [h1] at hnot
    obtain ⟨xd, g1, g2⟩ := bind_ok hnot
    simp only []
    rw [run_bind_ok (run_und hE (ofOpt_ok g1) w)]
    rw [run_bind_ok (a := false) (w1 := w) (by cases xd <;> first | rfl | cases g2)]
    simp only [Bool.false_eq_true, if_false, Bool.not_false, if_true]
    rw [run_bind_ok (hlen w)]
    simp only [if_neg hroom]
    rw [run_bind_ok (hi w)]
    simp only [hb0, or_self, and_false, if_false]
    rw [run_bind_ok (hi w)]
    simp only [if_neg hnext]
    rw [run_bind_ok hchoose, run_bind_ok (hi _), run_bind_ok (run_askRoom _ _), run_bind_ok (hold _), run_bind_ok (hfirst _), run_bind_ok (run_zro hE hz _)]
    rw [run_bind_ok hrow]
    rfl
end
end Go.Am
