/- append, copy, len, max and min, abstractly and in the model. -/
import Derived.Test.YthckcbfijdambaaAm13
namespace Go.Am
open Go.RowKit

theorem RelW.atDraw {r : Ren} {S : St} {w : World} (h : RelW r S w) (j : Nat) : RelW r S { w with drawn := j } := (h.drawn j).rel

section
variable {E : Env} (hE : EnvOk E) {r : Ren} {S : St} {w : World}

theorem oneCells_all {vs : List AV} {ys : List Value} (h : RelL r vs ys) (ho : vs.all oneCell = true) : ∀ y ∈ ys, oneV y = true := by
  intro y hy
  obtain ⟨i, hi⟩ := List.getElem?_of_mem hy
  have hi' : i < vs.length := by rw [h.1]; exact (List.getElem?_eq_some_iff.1 hi).1
  have hvi : vs[i]? = some vs[i] := List.getElem?_eq_getElem hi'
  exact oneV_rel (h.2 i _ _ hvi hi) (List.all_eq_true.1 ho _ (List.getElem_mem hi'))

theorem isSlice_lit {a : Value} (h : isSlice (.lit a) = true) : a = .slice none 0 0 := by
  unfold isSlice at h
  split at h <;> first
    | (rename_i e; cases e; rfl)
    | (rename_i e; cases e; done)
    | (cases h; done)

theorem ble_false {a b : Nat} (h : Nat.ble a b = false) : ¬ a ≤ b := fun hh => by
  rw [show Nat.ble a b = true from by rw [Nat.ble_eq]; exact hh] at h
  cases h

theorem zeroCells_size (zs : Array Value) (n : Nat) : (Builtin.zeroCells zs n).size = n * zs.size := by simp [Builtin.zeroCells]

/-- A new row with spare room. -/
theorem newSpare_rel (hw : RelW r S w) {cs : List AV} {xs rest : Array Value} (h : RelL r cs xs.toList) (u len : Nat) (e : TypeId) (newCap : Nat) (hl : len * u = cs.length) (hcap : len ≤ newCap)
    (hrest : rest.size = (newCap - len) * u) (j : Nat) :
    ∃ r', Ext r S w r' (newSliceA S cs u len len false).2 (({ w with drawn := j } : World).alloc (.cells (xs ++ rest) e (0, 0))) ∧
      RelV r' (newSliceA S cs u len len false).1 (.slice (some ⟨w.heap.size, 0, none⟩) len newCap) := by
  have hx : xs.size = cs.length := by have := h.1; simpa using this.symm
  have hw' := hw.atDraw j
  have hmul : newCap * u = len * u + (newCap - len) * u := by rw [← Nat.add_mul]; congr 1; omega
  have hle : r.le (r.add S.next cs.length (w.heap.size, newCap * u, u)) := Ren.add_le (.inl (by
    cases hx : r.row S.next cs.length with
    | none => rfl
    | some x => have := (hw.dom _ _ _ hx).1; omega))
  have h1 : Ext r S { w with drawn := j } (r.add S.next cs.length (w.heap.size, newCap * u, u)) (S.new (.row cs u 0)) (({ w with drawn := j } : World).alloc (.cells (xs ++ rest) e (0, 0))) := by
    refine hw'.new _ _ _ _ _ ⟨rfl, Nat.le_refl _, fun _ => ⟨xs ++ rest, e, by rw [World.alloc_get, if_pos rfl], by simp [hx, hrest]; omega, by omega, fun i v x hi h1 h2 => ?_⟩⟩
    rw [Array.getElem?_append, if_pos (by omega)] at h2
    exact (h.2 i v x h1 (by simpa using h2)).mono hle
  exact ⟨_, (hw.drawn j).trans h1, .slice (Ren.add_same _ _ _ _) (by omega) (Nat.le_refl _) hcap (fun h => by cases h)⟩

include hE

omit hE in
theorem notInt_ok {o : Option TypeId} {u : Unit} (h : notInt E o = .ok u) : notInt E o = .ok () := h

/-- 'append' of nothing. -/
theorem append_none {argTypes : Array TypeId} {ty st e sz len cap : Nat} {base : Option Addr} {x : Value} (ha : argTypes[0]? = some st) (hst : E.und st = some (.slice e))
    (hsz : E.siz e = some sz) (hnot : notInt E argTypes[1]? = .ok ()) (hlen : (Builtin.lenOf x).run E.P w = .ok 0 w) (hfirst : (Builtin.firstCells sz 0 x).run E.P w = .ok #[] w)
    (hroom : len ≤ cap) : (Builtin.append_ argTypes ty #[.slice base len cap, x]).run E.P w = .ok (.slice base (len + 0) cap) w := by
  have e0 : (#[Value.slice base len cap, x] : Array Value)[0]? = some (.slice base len cap) := rfl
  have e1 : (#[Value.slice base len cap, x] : Array Value)[1]? = some x := rfl
  have hroom' : len + 0 ≤ cap := hroom
  unfold Builtin.append_
  rw [ha, e0, e1]
  simp only []
  rw [run_bind_ok (run_und hE hst w)]
  simp only []
  rw [run_bind_ok (run_siz hE hsz w)]
  unfold notInt at hnot
  cases h1 : argTypes[1]? with
  | none =>
    simp only []
    rw [run_bind_ok (a := false) (w1 := w) rfl]
    simp only [Bool.false_eq_true, if_false, Bool.not_false, if_true]
    rw [run_bind_ok hlen]
    simp only [if_pos hroom']
    rw [run_bind_ok hfirst]
    cases base <;> rfl
  | some xt =>
    rw [h1] at hnot
    obtain ⟨xd, g1, g2⟩ := bind_ok hnot
    simp only []
    rw [run_bind_ok (run_und hE (ofOpt_ok g1) w)]
    rw [run_bind_ok (a := false) (w1 := w) (by cases xd <;> first | rfl | cases g2)]
    simp only [Bool.false_eq_true, if_false, Bool.not_false, if_true]
    rw [run_bind_ok hlen]
    simp only [if_pos hroom']
    rw [run_bind_ok hfirst]
    cases base <;> rfl

theorem append_rel (hw : RelW r S w) {argTypes : Array TypeId} {ty : TypeId} {s x v : AV} {a b : Value} {S' : St} (hs : RelV r s a) (hx : RelV r x b)
    (h : aappend E S argTypes [s, x] = .ok (v, S')) : Makes E.P r S w v S' (Builtin.append_ argTypes ty #[a, b]) := by
  unfold aappend at h
  split at h
  rotate_left
  · cases h
  rename_i st s' x' ha hargs
  injection hargs with q1 q2
  injection q2 with q3 q4
  subst q1
  subst q3
  obtain ⟨d, h1, h2⟩ := bind_ok h
  have hd := ofOpt_ok h1
  split at h2
  rotate_left
  · cases h2
  rename_i e
  obtain ⟨sz, h3, h4⟩ := bind_ok h2
  obtain ⟨by_, h5, h6⟩ := bind_ok h4
  obtain ⟨u0, h7, h8⟩ := bind_ok h6
  obtain ⟨k, h9, h10⟩ := bind_ok h8
  have hsz := ofOpt_ok h3
  have hby := ofOpt_ok h5
  have hlen : ∀ w : World, (Builtin.lenOf b).run E.P w = .ok k w := fun w => lenOf_rel hx h9
  cases hk : Nat.beq k 0 with
  | true =>
    have hk0 := beq_true hk
    subst hk0
    simp only [hk, cond_true] at h10
    obtain ⟨hsl, h11⟩ := bif_ok h10
    cases h11
    obtain ⟨ys, hf, hys⟩ := first_zero (P := E.P) (w := w) hx h9 sz
    subst hys
    have key : ∀ base len cap, a = .slice base len cap → len ≤ cap → Makes E.P r S w s S (Builtin.append_ argTypes ty #[a, b]) := by
      intro base len cap e hlc
      subst e
      exact ⟨.slice base (len + 0) cap, w, r, append_none hE ha hd hsz (notInt_ok h7) (hlen w) hf hlc, .refl hw, by simpa using hs⟩
    cases hs with
    | slice hr hn hl hc he => exact key _ _ _ rfl (by omega)
    | tree hl hc hi hv => exact key _ _ _ rfl hc
    | empty => exact key _ _ _ rfl (Nat.le_refl _)
    | lit =>
      exact key _ _ _ (isSlice_lit hsl) (Nat.le_refl _)
    | _ => cases hsl
  | false =>
    have hk0 := beq_false.1 hk
    simp only [hk, cond_false] at h10
    obtain ⟨new, h11, h12⟩ := bind_ok h10
    obtain ⟨z, h13, h14⟩ := bind_ok h12
    cases hcond : Nat.beq by_ 0 || Nat.beq sz 0 || !(Nat.beq new.length (k * sz)) || !(Nat.beq (zeroCells z).length sz) with
    | true => simp [hcond] at h14
    | false =>
    simp only [hcond, cond_false] at h14
    simp only [Bool.or_eq_false_iff, Bool.not_eq_false'] at hcond
    obtain ⟨⟨⟨c1, c2⟩, c3⟩, c4⟩ := hcond
    have c1 := beq_false.1 c1
    have c2 := beq_false.1 c2
    have c3 := beq_true c3
    have c4 := beq_true c4
    have hz := ofOpt_ok h13
    have hzs : z.cells.size = sz := by have := (zero_rel (r := r) z).1; simp at this; omega
    obtain ⟨ys, hf, hyr⟩ := firstN_rel (P := E.P) hw hx h11
    have hnl : new ≠ [] := fun e => by
      rw [e] at c3
      have : k * sz ≠ 0 := Nat.mul_ne_zero hk0 c2
      simp at c3
      omega
    have hys : ys.size = new.length := by have := hyr.1; simpa using this.symm
    -- growing into a new row
    have grows : ∀ (base : Option Addr) (len cap : Nat) (oldA : List AV) (old : Array Value), a = .slice base len cap → (2 * (len + k) + 1000) * by_ < 2 ^ 48 → ¬ len + k ≤ cap →
        (∀ w1 : World, w1.heap = w.heap → (Builtin.firstCells sz len (.slice base len cap)).run E.P w1 = .ok old w1) → RelL r oldA old.toList → oldA.length = len * sz →
        Makes E.P r S w (newSliceA S (oldA ++ new) sz (len + k) (len + k) false).1 (newSliceA S (oldA ++ new) sz (len + k) (len + k) false).2 (Builtin.append_ argTypes ty #[a, b]) := by
      intro base len cap oldA old e hbig hroom hold holdr hol
      subst e
      obtain ⟨newCap, hcap, hrun⟩ := append_grows hE (w := w) (argTypes := argTypes) (ty := ty) ha hd hsz hby hz (notInt_ok h7) hlen hbig c1 (fun j => hold _ rfl) (fun j => hf _ rfl) hroom
      obtain ⟨r', k1, k2⟩ := newSpare_rel (w := w) hw (cs := oldA ++ new) (xs := old ++ ys) (rest := Builtin.zeroCells z.cells (newCap - (len + k)))
        (by simpa using holdr.append hyr) sz (len + k) e newCap (by rw [List.length_append, hol, c3, Nat.add_mul]) hcap (by rw [zeroCells_size, hzs]) (w.drawn + 1)
      exact ⟨_, _, r', hrun, k1, k2⟩
    split at h14
    · obtain ⟨hbig, h15⟩ := bif_ok h14
      have hbig := blt_true.1 hbig
      simp only [Except.ok.injEq] at h15
      have e := hs.lit_inv
      subst e
      have := grows none 0 0 [] #[] rfl (by simpa using hbig) (by omega) (fun _ _ => rfl) (.nil r) (by simp)
      simp only [List.nil_append, Nat.zero_add] at this
      rw [h15] at this
      exact this
    · obtain ⟨hbig, h15⟩ := bif_ok h14
      have hbig := blt_true.1 hbig
      simp only [Except.ok.injEq] at h15
      cases hs with
      | empty =>
      rename_i bb oo
      have := grows (some ⟨bb, oo, none⟩) 0 0 [] #[] rfl (by simpa using hbig) (by omega) (fun w1 _ => by show (loadCells ⟨bb, oo, none⟩ (0 * sz)).run E.P w1 = _; rw [Nat.zero_mul]; rfl) (.nil r) (by simp)
      simp only [List.nil_append, Nat.zero_add] at this
      rw [h15] at this
      exact this
    · rename_i id off ver exact_ len cap
      obtain ⟨⟨cs, u, fl⟩, h15, h16⟩ := bind_ok h14
      have hg : S.heap.get id = some (.row cs u fl) := rowOf_ok h15
      cases hs with
      | slice hr hn hl hc he =>
      rename_i bl n u1 cap'
      obtain ⟨e1, hle, hrow⟩ := hw.obj _ _ hg _ _ _ _ hr
      subst e1
      simp only at h16
      cases hu : Nat.beq u1 sz with
      | false => simp [hu] at h16
      | true =>
      have hu := beq_true hu
      subst hu
      simp only [Nat.beq_refl, Bool.not_true, cond_false] at h16
      cases hbg : Nat.blt ((2 * (len + k) + 1000) * by_) (2 ^ 48) with
      | false => simp [hbg] at h16
      | true =>
      simp only [hbg, Bool.not_true, cond_false] at h16
      have hbg := blt_true.1 hbg
      cases hrm : Nat.ble (len + k) cap with
      | true =>
        simp only [hrm, cond_true] at h16
        have hrm := ble_true hrm
        obtain ⟨S1, h17, h18⟩ := bind_ok h16
        cases h18
        obtain ⟨w', k1, k2⟩ := storeN_rel (P := E.P) hw hr h17 hyr hnl
        exact ⟨_, w', r, append_room hE ha hd hsz (notInt_ok h7) (hlen w) (hf w rfl) (by omega) k1, k2, (RelV.slice hr hn (by omega) hc he).mono k2.sub⟩
      | false =>
        simp only [hrm, cond_false] at h16
        have hrm : ¬ len + k ≤ cap := ble_false hrm
        cases exact_ with
        | true =>
          simp only [cond_true] at h16
          obtain ⟨oldA, h17, h18⟩ := bind_ok h16
          simp only [Except.ok.injEq] at h18
          have hce := he rfl
          subst hce
          obtain ⟨c, ee, k1, k2, k3⟩ := loadN_rel hw hr h17
          have := grows (some ⟨bl, off, none⟩) len cap' oldA (c.extract off (off + len * u1)) rfl hbg hrm (fun w1 hw1 => run_loadCells (by rw [hw1]; exact k1) k2) (by rw [extract_list]; exact k3)
            (by have := k3.1; simp at this; omega)
          rw [h18] at this
          exact this
        | false =>
          simp only [cond_false] at h16
          obtain ⟨hcond, h17⟩ := bif_ok h16
          simp only [Except.ok.injEq, Prod.mk.injEq] at h17
          obtain ⟨rfl, rfl⟩ := h17
          obtain ⟨hcond, d4⟩ := and_true hcond
          obtain ⟨hcond, d3⟩ := and_true hcond
          obtain ⟨hcond, d2⟩ := and_true hcond
          obtain ⟨hone, d1⟩ := and_true hcond
          have d1 := beq_true d1
          have d2 := beq_true d2
          have d3 := beq_true d3
          have d4 := ble_true d4
          subst d1
          subst d3
          obtain ⟨c, ee, k1, k2, k3, k4⟩ := hrow d4
          have hnl' : 0 < new.length := List.length_pos_iff.2 hnl
          have hnone : r.row id (cs.length + new.length) = none := by
            cases hx : r.row id (cs.length + new.length) with
            | none => rfl
            | some y =>
              obtain ⟨y1, y2, y3⟩ := y
              have := (hw.obj _ _ hg _ _ _ _ hx).2.1
              omega
          have hall := hw.obj _ _ hg
          have hbl : bl < w.heap.size := (Array.getElem?_eq_some_iff.1 k1).1
          have hkk : (len + k) * u1 = cs.length + new.length := by rw [Nat.add_mul, c3, d2]
          by_cases hroom : len + k ≤ cap'
          · -- in its block
            have hmul : (len + k) * u1 ≤ cap' * u1 := Nat.mul_le_mul_right _ hroom
            have hoff : (0 : Nat) + len * u1 = cs.length := by omega
            have hst := run_storeCells (P := E.P) (off := 0 + len * u1) ys.toList w c 0 k1 (by simp; omega) (oneCells_all hyr hone)
            have hyne : ys.toList ≠ [] := fun e => by
              have := hyr.1
              rw [e] at this
              simp at this
              exact hnl this
            simp only [if_neg hyne, Nat.add_zero, hoff] at hst
            have hget : ∀ i, (spliceA c cs.length ys.toList)[i]? = if cs.length ≤ i ∧ i < cs.length + ys.toList.length then ys.toList[i - cs.length]? else c[i]? := fun i =>
              spliceA_get _ _ _ _ (by simp; omega)
            have hext : Ext r S w (r.add id (cs.length + new.length) (bl, n, u1)) (S.write id (.row (cs ++ new) u1 fl)) (w.putObj bl (.cells (spliceA c cs.length ys.toList) ee (0, 0))) := by
              refine hw.extend hr hnone _ _ (fun v b1 n1 u2 h1 => ?_) ?_
              · obtain ⟨e1, e2, e3⟩ := hall _ _ _ _ h1
                refine ⟨e1, by simp; omega, fun hf => ?_⟩
                obtain ⟨c', ee', g1, g2, g3, g4⟩ := e3 hf
                by_cases hb : b1 = bl
                · subst hb
                  rw [k1] at g1
                  cases g1
                  refine ⟨_, ee, World.putObj_heap_same hbl, by rw [spliceA_size]; exact g2, g3, fun i v x hi h1 h2 => ?_⟩
                  rw [hget, if_neg (by omega)] at h2
                  rw [List.getElem?_append_left (by omega)] at h1
                  exact g4 i v x hi h1 h2
                · refine ⟨c', ee', by rw [World.putObj_get hbl, if_neg hb]; exact g1, g2, g3, fun i v x hi h1 h2 => ?_⟩
                  rw [List.getElem?_append_left (by omega)] at h1
                  exact g4 i v x hi h1 h2
              · have hle' : r.le (r.add id (cs.length + new.length) (bl, n, u1)) := Ren.add_le (.inl hnone)
                refine ⟨rfl, by simp, fun _ => ⟨_, ee, World.putObj_heap_same hbl, by rw [spliceA_size]; exact k2, by omega, fun i v x hi h1 h2 => ?_⟩⟩
                rw [hget] at h2
                by_cases hlt : i < cs.length
                · rw [if_neg (by omega)] at h2
                  rw [List.getElem?_append_left hlt] at h1
                  exact (k4 i v x hlt h1 h2).mono hle'
                · rw [if_pos ⟨by omega, by simp; omega⟩] at h2
                  rw [List.getElem?_append_right (by omega)] at h1
                  exact (hyr.2 _ v x h1 h2).mono hle'
            refine ⟨_, _, _, append_room hE ha hd hsz (notInt_ok h7) (hlen w) (hf w rfl) hroom (by rw [hoff]; exact hst), hext, ?_⟩
            exact .slice (Ren.add_same _ _ _ _) hn (Nat.le_refl _) hroom (fun h => by cases h)
          · -- in a new one
            have hold : ∀ w1 : World, w1.heap = w.heap → (Builtin.firstCells u1 len (.slice (some ⟨bl, 0, none⟩) len cap')).run E.P w1 = .ok (c.extract 0 (0 + len * u1)) w1 := fun w1 hw1 =>
              run_loadCells (by rw [hw1]; exact k1) (by omega)
            obtain ⟨newCap, hcap, hrun⟩ := append_grows hE (w := w) (argTypes := argTypes) (ty := ty) ha hd hsz hby hz (notInt_ok h7) hlen hbg c1 (fun j => hold _ rfl) (fun j => hf _ rfl) hroom
            have hoff : (0 : Nat) + len * u1 = cs.length := by omega
            rw [hoff] at hrun
            have hsz1 : (c.extract 0 cs.length).size = cs.length := by simp; omega
            have hmulc : newCap * u1 = (len + k) * u1 + (newCap - (len + k)) * u1 := by rw [← Nat.add_mul]; congr 1; omega
            have hsize : (c.extract 0 cs.length ++ ys ++ Builtin.zeroCells z.cells (newCap - (len + k))).size = newCap * u1 := by
              simp only [Array.size_append, hsz1, zeroCells_size, hzs, hys]
              omega
            have hw' := hw.atDraw (w.drawn + 1)
            have hall' := hw'.obj _ _ hg
            have hext : Ext r S { w with drawn := w.drawn + 1 } (r.add id (cs.length + new.length) (w.heap.size, newCap * u1, u1)) (S.write id (.row (cs ++ new) u1 fl))
                (({ w with drawn := w.drawn + 1 } : World).alloc (.cells (c.extract 0 cs.length ++ ys ++ Builtin.zeroCells z.cells (newCap - (len + k))) e (0, 0))) := by
              refine hw'.grow (hw.dom _ _ _ hr).1 ⟨_, _, hr⟩ hnone _ _ (fun v b1 n1 u2 h1 => ?_) ?_
              · obtain ⟨e1, e2, e3⟩ := hall' _ _ _ _ h1
                refine ⟨e1, by simp; omega, fun hf => ?_⟩
                obtain ⟨c', ee', g1, g2, g3, g4⟩ := e3 hf
                have hb1 : b1 < w.heap.size := (hw.dom _ _ _ h1).2
                refine ⟨c', ee', by rw [World.alloc_get, if_neg (by show ¬ b1 = w.heap.size; omega)]; exact g1, g2, g3, fun i v x hi h1 h2 => ?_⟩
                rw [List.getElem?_append_left (by omega)] at h1
                exact g4 i v x hi h1 h2
              · have hle' : r.le (r.add id (cs.length + new.length) (w.heap.size, newCap * u1, u1)) := Ren.add_le (.inl hnone)
                refine ⟨rfl, by simp, fun _ => ⟨_, e, by rw [World.alloc_get, if_pos rfl], hsize, by omega, fun i v x hi h1 h2 => ?_⟩⟩
                rw [Array.getElem?_append, if_pos (by simp only [Array.size_append, hsz1, hys]; omega), Array.getElem?_append] at h2
                by_cases hlt : i < cs.length
                · rw [if_pos (by rw [hsz1]; exact hlt)] at h2
                  rw [List.getElem?_append_left hlt] at h1
                  have h2' : c[i]? = some x := by
                    rw [Array.getElem?_extract] at h2
                    split at h2
                    · simpa using h2
                    · cases h2
                  exact (k4 i v x hlt h1 h2').mono hle'
                · rw [if_neg (by rw [hsz1]; exact hlt), hsz1] at h2
                  rw [List.getElem?_append_right (by omega)] at h1
                  exact (hyr.2 _ v x h1 (by rw [Array.getElem?_toList]; exact h2)).mono hle'
            refine ⟨_, _, _, hrun, (hw.drawn _).trans hext, ?_⟩
            exact .slice (Ren.add_same _ _ _ _) (by omega) (Nat.le_refl _) hcap (fun h => by cases h)
    · cases h14
end
end Go.Am
