/- Fields, elements, literals, type assertions and look-ups, abstractly and in the model. -/
import Derived.Test.YthckcbfijdambaaAm9
import Derived.Laws.Sem
namespace Go.Am
open Go.RowKit

section
variable {E : Env} (hE : EnvOk E) {r : Ren} {S : St} {w : World}
include hE

omit hE in
theorem RelV.agg_inv {cs : List AV} {x : Value} (h : RelV r (.agg cs) x) : ∃ xs : List Value, x = .agg xs.toArray ∧ RelL r cs xs := by
  cases h with
  | agg h1 hx => exact ⟨_, rfl, h1, hx⟩

omit hE in
theorem RelV.tuple_inv {cs : List AV} {x : Value} (h : RelV r (.tuple cs) x) : ∃ xs : List Value, x = .tuple xs.toArray ∧ RelL r cs xs := by
  cases h with
  | tuple h1 hx => exact ⟨_, rfl, h1, hx⟩

omit hE in
theorem field_ok {s f : Nat} {fd : Field} {n : Nat} (h : fieldOf E s f = .ok (fd, n)) : ∃ fields, E.und s = some (.struct fields) ∧ fields[f]? = some fd ∧ E.siz fd.type = some n ∧ n ≠ 0 := by
  obtain ⟨d, h1, h2⟩ := bind_ok h
  split at h2
  · rename_i fields
    obtain ⟨fd', h3, h4⟩ := bind_ok h2
    obtain ⟨n', h5, h6⟩ := bind_ok h4
    cases hb : Nat.beq n' 0 with
    | true => simp [hb] at h6
    | false =>
      simp only [hb, cond_false, Except.ok.injEq, Prod.mk.injEq] at h6
      obtain ⟨rfl, rfl⟩ := h6
      exact ⟨fields, ofOpt_ok h1, ofOpt_ok h3, ofOpt_ok h5, beq_false.1 hb⟩
  · cases h2

theorem fieldAddr_rel {s f : Nat} {p v : AV} {a : Value} (hp : RelV r p a) (h : afieldAddr E s f p = .ok v) : Gives E.P r w v (Instr.fieldAt s a f) := by
  obtain ⟨⟨fd, n⟩, h1, h2⟩ := bind_ok h
  obtain ⟨fields, g1, g2, g3, g4⟩ := field_ok h1
  have hplace : ∀ b off, (fieldPlace ⟨b, off, none⟩ fd).run E.P w = .ok ⟨b, off + fd.offset, none⟩ w := fun b off => by
    unfold fieldPlace
    rw [run_bind_ok (run_siz hE g3 w), if_neg g4, addr_add]
    rfl
  have hrun : ∀ b off, (Instr.fieldAt s (.pointer (some ⟨b, off, none⟩)) f).run E.P w = .ok (.pointer (some ⟨b, off + fd.offset, none⟩)) w := fun b off => by
    unfold Instr.fieldAt
    rw [run_bind_ok (run_und hE g1 w)]
    simp only [g2]
    rw [run_bind_ok (a := (⟨b, off, none⟩ : Addr)) (w1 := w) rfl, run_bind_ok (hplace b off)]
    rfl
  simp only at h2
  split at h2
  · cases h2
    cases hp with
    | ptr hr => exact ⟨_, hrun _ _, .ptr hr⟩
  · rename_i cs
    cases h2
    cases hp with
    | tptr hi hv =>
      rename_i b off c
      refine ⟨_, hrun _ _, .tptr (c := c) ?_ fun j v x k1 k2 => hv (fd.offset + j) v x (by rw [List.getElem?_drop] at k1; exact k1) (by rw [← Nat.add_assoc]; exact k2)⟩
      rcases hi with rfl | ⟨hi, hs⟩
      · exact .inl (by simp)
      · by_cases hz : fd.offset ≤ cs.length
        · exact .inr ⟨hi, by simp; omega⟩
        · exact .inl (by simp; omega)
  · cases h2

theorem field_rel {t f : Nat} {x v : AV} {a : Value} (hx : RelV r x a) (h : afield E t f x = .ok v) : Gives E.P r w v (Instr.field t a f) := by
  obtain ⟨⟨fd, n⟩, h1, h2⟩ := bind_ok h
  obtain ⟨fields, g1, g2, g3, g4⟩ := field_ok h1
  simp only at h2
  split at h2
  · obtain ⟨xs, rfl, hl⟩ := hx.agg_inv
    obtain ⟨y, k1, k2⟩ := part_rel hE (w := w) hl h2
    refine ⟨y, ?_, k2⟩
    unfold Instr.field
    rw [run_bind_ok (run_und hE g1 w)]
    simp only [g2]
    rw [run_bind_ok (a := xs.toArray) (w1 := w) rfl]
    exact k1
  · cases h2

theorem index_rel {t : TypeId} {x ix v : AV} {a b : Value} (hx : RelV r x a) (hi : RelV r ix b) (h : aindex E t x ix = .ok v) : Gives E.P r w v (Instr.index t a b) := by
  obtain ⟨i, h1, h2⟩ := bind_ok h
  obtain ⟨k, rfl⟩ := intOf_rel hi h1
  obtain ⟨d, h3, h4⟩ := bind_ok h2
  have hd := ofOpt_ok h3
  unfold Instr.index Gives
  rw [run_bind_ok (a := (k, i)) (w1 := w) rfl, run_bind_ok (run_und hE hd w)]
  split at h4
  · rename_i len e cs
    obtain ⟨sz, h5, h6⟩ := bind_ok h4
    obtain ⟨hc, h7⟩ := bif_ok h6
    simp only [Bool.and_eq_true, decide_eq_true_eq] at hc
    obtain ⟨xs, rfl, hl⟩ := hx.agg_inv
    obtain ⟨y, k1, k2⟩ := part_rel hE (w := w) hl h7
    refine ⟨y, ?_, k2⟩
    simp only []
    rw [if_pos hc, run_bind_ok (run_siz hE (ofOpt_ok h5) w)]
    exact k1
  · rename_i s
    have e := hx.lit_inv
    subst e
    obtain ⟨hc, h7⟩ := bif_ok h4
    have hc := of_decide_eq_true hc
    split at h7
    · rename_i bb hbb
      cases h7
      refine ⟨_, ?_, .lit _⟩
      simp only []
      have hg : s[i.toNat]? = some bb := by
        have hlt : i.toNat < s.data.size := (Array.getElem?_eq_some_iff.1 hbb).1
        have he : s.data[i.toNat] = bb := (Array.getElem?_eq_some_iff.1 hbb).2
        have hlt' : i.toNat < s.size := hlt
        rw [getElem?_pos s i.toNat hlt']
        exact congrArg some he
      rw [if_pos hc, hg]
      rfl
    · cases h7
  · cases h4

omit hE in
theorem extract_rel {P : Program} {x v : AV} {a : Value} {i : Nat} (hx : RelV r x a) (h : aextract x i = .ok v) : Gives P r w v (Instr.extract a i) := by
  unfold aextract at h
  split at h
  · obtain ⟨xs, rfl, hl⟩ := hx.tuple_inv
    obtain ⟨y, k1, k2⟩ := hl.get (ofOpt_ok h)
    refine ⟨y, ?_, k2⟩
    have : xs.toArray[i]? = some y := by simpa using k1
    simp only [Instr.extract, this]
    rfl
  · cases h

omit hE in
theorem pureOp_rel {s : Value → Sem Value} {x v : AV} {a : Value} (hx : RelV r x a) (h : pureOp E s x = .ok v) : Gives E.P r w v (s a) := by
  obtain ⟨u, h1, h2⟩ := bind_ok h
  obtain ⟨y, h3, h4⟩ := bind_ok h2
  cases h4
  have e := toV_rel 4 hx h1
  subst e
  exact ⟨y, pureVal_run (ofOpt_ok h3) w, ofV_rel r 4 y⟩

theorem makeIface_rel {t : TypeId} {x v : AV} {a : Value} (hx : RelV r x a) (h : amakeIface E t x = .ok v) : Gives E.P r w v (Instr.makeInterface t a) := by
  obtain ⟨d, h1, h2⟩ := bind_ok h
  have hd := ofOpt_ok h1
  refine ⟨.iface t a, ?_, ?_⟩
  · unfold Instr.makeInterface
    rw [run_bind_ok (run_und hE hd w)]
    cases d <;> first | rfl | cases h2
  · cases d <;> first | (cases h2; exact .iface hx) | cases h2

omit hE in
theorem pair_rel {v : AV} {a : Value} (hv : RelV r v a) (b : Bool) : RelV r (pairOf v b) (.tuple #[a, .bool b]) :=
  .tuple (xs := [a, .bool b]) (RelL.cons hv (RelL.cons (.lit (.bool b)) (.nil r))).1 (RelL.cons hv (RelL.cons (.lit (.bool b)) (.nil r))).2

theorem assert_rel {x v : AV} {a : Value} {xt t : TypeId} {ok : Bool} (hx : RelV r x a) (h : aassert E x t ok = .ok v) : Gives E.P r w v (Instr.typeAssert a xt t ok) := by
  obtain ⟨d, h1, h2⟩ := bind_ok h
  have hd := ofOpt_ok h1
  unfold Instr.typeAssert Gives
  split at h2
  · cases h2
  · rename_i hni
    have e := hx.lit_inv
    subst e
    obtain ⟨hok, h3⟩ := bif_ok h2
    obtain ⟨z, h4, h5⟩ := bind_ok h3
    cases h5
    refine ⟨.tuple #[z, .bool false], ?_, pair_rel (ofV_rel r 4 z) false⟩
    simp only []
    rw [run_bind_ok (run_und hE hd w)]
    have hz := run_zro hE (ofOpt_ok h4) w
    subst hok
    cases d <;> first
      | (exfalso; exact hni _ rfl)
      | (simp only [if_true]; rw [run_bind_ok hz]; rfl)
  · rename_i t' v' hni
    cases hx with
    | iface hx =>
    rename_i a'
    cases hb : Nat.beq t' t with
    | true =>
      simp only [hb, cond_true, Except.ok.injEq] at h2
      have e := beq_true hb
      subst e
      cases ok with
      | true =>
        refine ⟨.tuple #[a', .bool true], ?_, by rw [← h2]; exact pair_rel hx true⟩
        simp only []
        rw [run_bind_ok (run_und hE hd w)]
        cases d <;> first
          | (exfalso; exact hni _ rfl)
          | (simp only [if_true]; rfl)
      | false =>
        refine ⟨a', ?_, by rw [← h2]; exact hx⟩
        simp only []
        rw [run_bind_ok (run_und hE hd w)]
        cases d <;> first
          | (exfalso; exact hni _ rfl)
          | (simp only [if_true]; rfl)
    | false =>
      simp only [hb, cond_false] at h2
      have e := beq_false.1 hb
      obtain ⟨hok, h3⟩ := bif_ok h2
      obtain ⟨z, h4, h5⟩ := bind_ok h3
      cases h5
      refine ⟨.tuple #[z, .bool false], ?_, pair_rel (ofV_rel r 4 z) false⟩
      simp only []
      rw [run_bind_ok (run_und hE hd w)]
      have hz := run_zro hE (ofOpt_ok h4) w
      subst hok
      cases d <;> first
        | (exfalso; exact hni _ rfl)
        | (simp only [if_neg e, if_true]; rw [run_bind_ok hz]; rfl)
  · cases h2

/-! ### Literals -/
omit hE in
theorem foldl_set {xs : List Value} : ∀ (off k : Nat) (cs : Array Value), (xs.toArray.zipIdx k).foldl (fun (cs : Array Value) (p : Value × Nat) => cs.setIfInBounds (off + p.2) p.1) cs = spliceA cs (off + k) xs := by
  intro off k cs
  rw [← Array.foldl_toList]
  have : (xs.toArray.zipIdx k).toList = xs.zipIdx k := by simp
  rw [this]
  induction xs generalizing k cs with
  | nil => rfl
  | cons x xs ih =>
    simp only [List.zipIdx_cons, List.foldl_cons, spliceA]
    rw [ih (k + 1) _ (by simp)]
    rfl

omit hE in
theorem splice_rel {cs vs : List AV} {xs : Array Value} {ys : List Value} {off : Nat} (hc : RelL r cs xs.toList) (hv : RelL r vs ys) (h : off + vs.length ≤ cs.length) :
    RelL r (spliceL cs off vs) (spliceA xs off ys).toList := by
  have hx : xs.size = cs.length := by have := hc.1; simpa using this.symm
  refine ⟨by rw [spliceL_length _ _ _ h]; simp [spliceA_size, hx], fun i v x k1 k2 => ?_⟩
  rw [spliceL_get _ _ _ h] at k1
  have k2 : (spliceA xs off ys)[i]? = some x := by simpa using k2
  rw [spliceA_get _ _ _ _ (by have := hv.1; omega)] at k2
  have hl := hv.1
  by_cases hc' : off ≤ i ∧ i < off + vs.length
  · rw [if_pos hc'] at k1
    rw [if_pos (by omega)] at k2
    exact hv.2 _ _ _ k1 k2
  · rw [if_neg hc'] at k1
    rw [if_neg (by omega)] at k2
    exact hc.2 i v x k1 (by simpa using k2)

/-- Parts, place by place. -/
def RelP (r : Ren) (ps : List (Nat × AV)) (qs : List (Nat × Value)) : Prop :=
  ps.length = qs.length ∧ ∀ (i : Nat) (p : Nat × AV) (q : Nat × Value), ps[i]? = some p → qs[i]? = some q → p.1 = q.1 ∧ RelV r p.2 q.2

omit hE in
theorem fill_rel {place : Nat → Option (Nat × Nat)} : ∀ (ps : List (Nat × AV)) (qs : List (Nat × Value)) (cs ds : List AV) (xs : Array Value), RelP r ps qs → RelL r cs xs.toList →
    fillA place cs ps = .ok ds → ∃ ys : Array Value, Instr.fill place xs qs = some ys ∧ RelL r ds ys.toList := by
  intro ps
  induction ps with
  | nil =>
    intro qs cs ds xs hp hc h
    cases qs with
    | cons q qs => have := hp.1; simp at this
    | nil => cases h; exact ⟨xs, rfl, hc⟩
  | cons p ps ih =>
    intro qs cs ds xs hp hc h
    cases qs with
    | nil => have := hp.1; simp at this
    | cons q qs =>
      obtain ⟨i, v⟩ := p
      obtain ⟨j, y⟩ := q
      obtain ⟨e1, hvy⟩ := hp.2 0 _ _ rfl rfl
      simp only at e1 hvy
      subst e1
      have hp' : RelP r ps qs := ⟨by have := hp.1; simpa using this, fun k a b c d => hp.2 (k + 1) a b (by simpa using c) (by simpa using d)⟩
      simp only [fillA] at h
      simp only [Instr.fill]
      split at h
      · cases h
      · rename_i off size hpl
        obtain ⟨hcond, h3⟩ := bif_ok h
        obtain ⟨k1, k2⟩ := and_true hcond
        have k1 := beq_true k1
        have k2 := ble_true k2
        have hcell := hvy.cells
        have hsz : y.cells.size = (cellsOf v).length := by have := hcell.1; simpa using this.symm
        have hxs : xs.size = cs.length := by have := hc.1; simpa using this.symm
        rw [hpl]
        simp only []
        have hcond' : ¬ ((decide (y.cells.size ≠ size) || decide (off + y.cells.size > xs.size)) = true) := by
          simp only [Bool.or_eq_true, decide_eq_true_eq]; omega
        rw [if_neg hcond']
        have hfold : (y.cells.zipIdx.foldl (fun (cs : Array Value) (x : Value × Nat) => cs.setIfInBounds (off + x.2) x.1) xs) = spliceA xs off y.cells.toList := by
          have := foldl_set (xs := y.cells.toList) off 0 xs
          simpa using this
        exact ih qs _ ds _ hp' (by have := splice_rel hc hcell k2; rw [← hfold] at this; exact this) h3

omit hE in
theorem zero_rel (z : Value) : RelL r (zeroCells z) z.cells.toList := ofV_map_rel r 3 _

theorem places_run {fields : List Field} {ps : List (Nat × Nat)} (h : placesOf E fields = .ok ps) :
    (fields.mapM fun (f : Field) => do pure (f.offset, ← sizeOf f.type)).run E.P w = .ok ps w := by
  induction fields generalizing ps with
  | nil => cases h; rfl
  | cons f l ih =>
    obtain ⟨n, h1, h2⟩ := bind_ok h
    obtain ⟨r', h3, h4⟩ := bind_ok h2
    cases h4
    rw [List.mapM_cons]
    rw [run_bind_ok (a := (f.offset, n)) (w1 := w) (by rw [run_bind_ok (run_siz hE (ofOpt_ok h1) w)]; rfl)]
    rw [run_bind_ok (ih h3)]
    rfl

omit hE in
theorem run_bind_map {P : Program} {m : Sem (List (Nat × Nat))} {l : List (Nat × Nat)} (h : m.run P w = .ok l w) : (Functor.map List.toArray m).run P w = .ok l.toArray w := by
  rw [map_eq_pure_bind, run_bind_ok h]
  rfl

theorem build_rel {t : TypeId} {ps : List (Nat × AV)} {qs : List (Nat × Value)} {v : AV} (hp : RelP r ps qs) (h : abuild E t ps = .ok v) : Gives E.P r w v (Instr.build t qs.toArray) := by
  obtain ⟨z, h1, h2⟩ := bind_ok h
  obtain ⟨d, h3, h4⟩ := bind_ok h2
  unfold Instr.build Gives
  rw [run_bind_ok (run_zro hE (ofOpt_ok h1) w)]
  simp only []
  rw [run_bind_ok (run_und hE (ofOpt_ok h3) w)]
  split at h4
  · rename_i fields
    obtain ⟨pl, h5, h6⟩ := bind_ok h4
    obtain ⟨cs, h7, h8⟩ := bind_ok h6
    cases h8
    obtain ⟨ys, k1, k2⟩ := fill_rel ps qs _ _ _ hp (zero_rel z) h7
    refine ⟨.agg ys, ?_, ?_⟩
    · simp only []
      have hpl := places_run hE (w := w) h5
      have hpa : (fields.mapM fun (f : Field) => do pure (f.offset, ← sizeOf f.type)).run E.P w = .ok pl.toArray w := by
        rw [Array.mapM_eq_mapM_toList]
        exact run_bind_map hpl
      rw [run_bind_ok hpa]
      have : (fun (i : Nat) => pl.toArray[i]?) = fun i => pl[i]? := by funext i; simp
      simp only [this, k1]
      rfl
    · have : ys = ys.toList.toArray := by simp
      rw [this]
      exact .agg k2.1 k2.2
  · rename_i e
    obtain ⟨sz, h5, h6⟩ := bind_ok h4
    obtain ⟨cs, h7, h8⟩ := bind_ok h6
    cases h8
    obtain ⟨ys, k1, k2⟩ := fill_rel ps qs _ _ _ hp (zero_rel z) h7
    refine ⟨.agg ys, ?_, ?_⟩
    · simp only []
      rw [run_bind_ok (run_siz hE (ofOpt_ok h5) w)]
      simp only [k1]
      rfl
    · have : ys = ys.toList.toArray := by simp
      rw [this]
      exact .agg k2.1 k2.2
  · cases h4

end
end Go.Am
