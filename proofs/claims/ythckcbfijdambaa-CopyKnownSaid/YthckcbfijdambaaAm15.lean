/- One operation, abstractly and in the model. -/
import Derived.Test.YthckcbfijdambaaAm14
namespace Go.Am
open Go.RowKit

section
variable {E : Env} (hE : EnvOk E) {r : Ren} {S : St} {w : World}
include hE

omit hE in
theorem isSlice_rel {v : AV} {a : Value} (hv : RelV r v a) (h : isSlice v = true) : ∃ base len cap, a = .slice base len cap ∧ len ≤ cap := by
  cases hv with
  | slice hr hn hl hc he => exact ⟨_, _, _, rfl, by omega⟩
  | tree hl hc hi hv => exact ⟨_, _, _, rfl, hc⟩
  | empty => exact ⟨_, _, _, rfl, Nat.le_refl _⟩
  | lit => exact ⟨_, _, _, isSlice_lit h, Nat.le_refl _⟩
  | _ => cases h

theorem copy_rel (hw : RelW r S w) {argTypes : Array TypeId} {ty : TypeId} {s x v : AV} {a b : Value} {S' : St} (hs : RelV r s a) (hx : RelV r x b)
    (h : acopy E S argTypes [s, x] = .ok (v, S')) : Makes E.P r S w v S' (Builtin.copy_ argTypes ty #[a, b]) := by
  unfold acopy at h
  split at h
  rotate_left
  · cases h
  rename_i st s' x' ha hargs
  injection hargs with q1 q2
  injection q2 with q3 q4
  subst q1
  subst q3
  obtain ⟨d, h1, h2⟩ := bind_ok h
  have hd := ofOpt_ok h1
  split at h2
  rotate_left
  · cases h2
  rename_i e
  obtain ⟨sz, h3, h4⟩ := bind_ok h2
  obtain ⟨sl, h5, h6⟩ := bind_ok h4
  obtain ⟨dl, h7, h8⟩ := bind_ok h6
  simp only at h8
  have e0 : (#[a, b] : Array Value)[0]? = some a := rfl
  have e1 : (#[a, b] : Array Value)[1]? = some b := rfl
  have hsl : (Builtin.lenOf b).run E.P w = .ok sl w := lenOf_rel hx h5
  have pre : ∀ (base : Option Addr) (cap : Nat) (cells : Array Value) (w' : World), a = .slice base dl cap → (Builtin.firstCells sz (Nat.min sl dl) b).run E.P w = .ok cells w →
      (match base with | some ad => (storeCells ad cells.toList).run E.P w = .ok () w' | none => w' = w) →
      (Builtin.copy_ argTypes ty #[a, b]).run E.P w = .ok (goInt (Nat.min sl dl)) w' := by
    intro base cap cells w' e hf hst
    subst e
    unfold Builtin.copy_
    rw [ha, e0, e1]
    simp only []
    rw [run_bind_ok (run_und hE hd w)]
    simp only []
    rw [run_bind_ok hsl, run_bind_ok (run_siz hE (ofOpt_ok h3) w), run_bind_ok hf]
    cases base with
    | none => simp only at hst; subst hst; rfl
    | some ad => simp only at hst ⊢; rw [run_bind_ok hst]; rfl
  cases hz : Nat.beq (Nat.min sl dl) 0 with
  | true =>
    rw [hz, cond_true] at h8
    obtain ⟨hsd, h9⟩ := bif_ok h8
    cases h9
    have hz := beq_true hz
    obtain ⟨base, len, cap, rfl, _⟩ := isSlice_rel hs hsd
    have hdl := lenOf_rel (P := E.P) (w := w) hs h7
    have e : len = dl := by
      have h6 : (Builtin.lenOf (.slice base len cap)).run E.P w = .ok len w := rfl
      rw [h6] at hdl
      injection hdl
    subst e
    obtain ⟨ys, hf, hys⟩ := first_zero (P := E.P) (w := w) hx h5 sz
    subst hys
    rw [hz] at pre ⊢
    exact ⟨_, w, r, pre base cap #[] w rfl hf (by cases base <;> rfl), .refl hw, .lit _⟩
  | false =>
    rw [hz, cond_false] at h8
    have z1 := beq_false.1 hz
    cases hz2 : Nat.beq sz 0 with
    | true => rw [hz2] at h8; cases h8
    | false =>
    rw [hz2, cond_false] at h8
    have z2 := beq_false.1 hz2
    obtain ⟨cs, h9, h10⟩ := bind_ok h8
    obtain ⟨ys, hf, hyr⟩ := firstN_rel (P := E.P) hw hx h9
    split at h10
    · rename_i id off ver ex len cap
      obtain ⟨hc, h11⟩ := bif_ok h10
      have hc := beq_true hc
      obtain ⟨S1, h12, h13⟩ := bind_ok h11
      cases h13
      cases hs with
      | slice hr hn hl hcp he =>
      rename_i bl n u cap'
      cases h7
      have hne : cs ≠ [] := fun e => by
        rw [e] at hc
        have := Nat.mul_ne_zero z1 z2
        simp at hc
        omega
      obtain ⟨w', k1, k2⟩ := storeN_rel (P := E.P) hw hr h12 hyr hne
      exact ⟨_, w', r, pre _ _ _ _ rfl (hf w rfl) k1, k2, .lit _⟩
    · cases h10

theorem len_rel (hw : RelW r S w) {argTypes : Array TypeId} {ty : TypeId} {x v : AV} {b : Value} (hx : RelV r x b) (h : alen E S argTypes [x] = .ok v) :
    Gives E.P r w v (Builtin.len_ argTypes ty #[b]) := by
  unfold alen at h
  split at h
  rotate_left
  · cases h
  rename_i t x' ha hargs
  injection hargs with q1 q2
  subst q1
  obtain ⟨d, h1, h2⟩ := bind_ok h
  have hd := ofOpt_ok h1
  have e0 : (#[b] : Array Value)[0]? = some b := rfl
  unfold Gives Builtin.len_
  rw [ha, e0]
  simp only []
  rw [run_bind_ok (run_und hE hd w)]
  split at h2
  · obtain ⟨hsl, h3⟩ := bif_ok h2
    obtain ⟨n, h4, h5⟩ := bind_ok h3
    cases h5
    obtain ⟨base, len, cap, rfl, _⟩ := isSlice_rel hx hsl
    have := lenOf_rel (P := E.P) (w := w) hx h4
    have e : len = n := by
      have h6 : (Builtin.lenOf (.slice base len cap)).run E.P w = .ok len w := rfl
      rw [h6] at this
      injection this
    subst e
    exact ⟨_, rfl, .lit _⟩
  · cases h2
    have e := hx.lit_inv
    subst e
    exact ⟨_, rfl, .lit _⟩
  · cases h2
    exact ⟨_, rfl, .lit _⟩
  · obtain ⟨es, h3, h4⟩ := bind_ok h2
    cases h4
    unfold entriesOf at h3
    split at h3
    · cases h3
      have e := hx.lit_inv
      subst e
      exact ⟨_, rfl, .lit _⟩
    · obtain ⟨⟨es', c⟩, h9, h10⟩ := bind_ok h3
      cases h10
      cases hx with
      | map hr =>
        obtain ⟨xs, h11, h12⟩ := map_rel hw hr h9
        refine ⟨.int .i64 es.length, ?_, .lit _⟩
        simp only []
        rw [run_bind_ok (run_getMap h11)]
        have := h12.1
        simp only [Array.length_toList] at this
        simp only [this]
        rfl
    · cases h3
  · cases h2

omit hE in
theorem pureBuiltin_rel {s : Array Value → Sem Value} {args : List AV} {xs : List Value} {v : AV} (hx : RelL r args xs) (h : pureBuiltin E s args = .ok v) : Gives E.P r w v (s xs.toArray) := by
  obtain ⟨vs, h1, h2⟩ := bind_ok h
  obtain ⟨y, h3, h4⟩ := bind_ok h2
  cases h4
  have e := toV_rels 4 _ _ _ hx h1
  subst e
  exact ⟨y, pureVal_run (ofOpt_ok h3) w, ofV_rel r 4 y⟩

/-- What an operation comes to, in the model, where the abstract one comes to 'nx'. -/
def Outcome (P : Program) (r : Ren) (S : St) (w : World) (S' : St) (m : Sem Next) : ANext → Prop
  | .val v => ∃ x w' r', (m.run P w = .ok (.value x) w' ∨ m.run P w = .ok .skip w' ∧ x = undef) ∧ Ext r S w r' S' w' ∧ RelV r' v x
  | .enter f args => S' = S ∧ ∃ xs : List Value, m.run P w = .ok (.enter f xs.toArray) w ∧ RelL r args xs
  | .round l args => S' = S ∧ ∃ (b n u : Nat) (xs : List Value), r.row l 0 = some (b, n, u) ∧ m.run P w = (Instr.yield b xs.toArray).run P w ∧ RelL r args xs

omit hE in
theorem Gives.out {P : Program} {v : AV} {m : Sem Value} (hw : RelW r S w) (h : Gives P r w v m) : Outcome P r S w S (do pure (Next.value (← m))) (.val v) := by
  obtain ⟨x, h1, h2⟩ := h
  exact ⟨x, w, r, .inl (by rw [run_bind_ok h1]; rfl), .refl hw, h2⟩

omit hE in
theorem Makes.out {P : Program} {v : AV} {S' : St} {m : Sem Value} (h : Makes P r S w v S' m) : Outcome P r S w S' (do pure (Next.value (← m))) (.val v) := by
  obtain ⟨x, w', r', h1, h2, h3⟩ := h
  exact ⟨x, w', r', .inl (by rw [run_bind_ok h1]; rfl), h2, h3⟩

omit hE in
theorem Does.out {P : Program} {S' : St} {m : Sem Unit} (h : Does P r S w S' m) : Outcome P r S w S' (do m; pure Next.skip) (.val undefA) := by
  obtain ⟨w', r', h1, h2⟩ := h
  exact ⟨undef, w', r', .inr ⟨by rw [run_bind_ok h1]; rfl, rfl⟩, h2, .tuple (xs := []) rfl fun i v x h => by simp at h⟩

omit hE in
theorem valOf_ok {m : R AV} {nx : ANext} {S' : St} (h : valOf S m = .ok (nx, S')) : ∃ v, m = .ok v ∧ nx = .val v ∧ S' = S := by
  obtain ⟨v, h1, h2⟩ := bind_ok h
  cases h2
  exact ⟨v, h1, rfl, rfl⟩

omit hE in
theorem newOf_ok {m : R (AV × St)} {nx : ANext} {S' : St} (h : newOf m = .ok (nx, S')) : ∃ v, m = .ok (v, S') ∧ nx = .val v := by
  obtain ⟨⟨v, S1⟩, h1, h2⟩ := bind_ok h
  cases h2
  exact ⟨v, h1, rfl⟩

omit hE in
theorem done_ok {m : R St} {nx : ANext} {S' : St} (h : done m = .ok (nx, S')) : m = .ok S' ∧ nx = .val undefA := by
  obtain ⟨S1, h1, h2⟩ := bind_ok h
  cases h2
  exact ⟨h1, rfl⟩

omit hE in
theorem relL_map {ev : Operand → AV} {ρ : Operand → Value} (hev : ∀ x, RelV r (ev x) (ρ x)) (l : List Operand) : RelL r (l.map ev) (l.map ρ) := by
  induction l with
  | nil => exact .nil r
  | cons x l ih => exact .cons (hev x) ih

omit hE in
theorem relOpt_map {ev : Operand → AV} {ρ : Operand → Value} (hev : ∀ x, RelV r (ev x) (ρ x)) (o : Option Operand) : RelOpt r (o.map ev) (o.map ρ) := by
  cases o with
  | none => trivial
  | some x => exact hev x

omit hE in
theorem relP_map {ev : Operand → AV} {ρ : Operand → Value} (hev : ∀ x, RelV r (ev x) (ρ x)) (l : List (Nat × Operand)) : RelP r (l.map fun x => (x.1, ev x.2)) (l.map fun x => (x.1, ρ x.2)) := by
  refine ⟨by simp, fun i p q h1 h2 => ?_⟩
  rw [List.getElem?_map] at h1 h2
  cases h : l[i]? with
  | none => simp [h] at h1
  | some y =>
    simp only [h, Option.map_some, Option.some.injEq] at h1 h2
    subst h1
    subst h2
    exact ⟨rfl, hev _⟩

theorem call_rel (hw : RelW r S w) {ev : Operand → AV} {ρ : Operand → Value} (hev : ∀ x, RelV r (ev x) (ρ x)) {c : Call} {ty : TypeId} {nx : ANext} {S' : St}
    (h : acall E S ev c ty = .ok (nx, S')) : Outcome E.P r S w S' (do let d ← resolve ρ c ty; invoke d.target d.args) nx := by
  unfold acall at h
  have hargs : RelL r (c.args.toList.map ev) (c.args.toList.map ρ) := relL_map hev _
  have harr : c.args.map ρ = (c.args.toList.map ρ).toArray := by
    apply Array.ext'
    rw [Array.toList_map]
  split at h
  · rename_i b hcal
    have hres : ∀ m : Sem Next, (do let d ← resolve ρ c ty; invoke d.target d.args) = m → True := fun _ _ => trivial
    have hrun : (do let d ← resolve ρ c ty; invoke d.target d.args).run E.P w = (builtin b c.argTypes ty (c.args.map fun | .const _ => true | _ => false) (c.args.map ρ)).run E.P w := by
      rw [run_bind_ok (a := { target := .builtin b c.argTypes ty (c.args.map fun | .const _ => true | _ => false), args := c.args.map ρ }) (w1 := w) (by unfold resolve; rw [hcal]; rfl)]
      rfl
    have out : ∀ {m : Sem Next} {nx : ANext}, (builtin b c.argTypes ty (c.args.map fun | .const _ => true | _ => false) (c.args.map ρ)) = m → Outcome E.P r S w S' m nx →
        Outcome E.P r S w S' (do let d ← resolve ρ c ty; invoke d.target d.args) nx := by
      intro m nx e ho
      subst e
      cases nx with
      | val v => obtain ⟨x, w', r', h1, h2, h3⟩ := ho; exact ⟨x, w', r', by rw [hrun]; exact h1, h2, h3⟩
      | enter f args => obtain ⟨h0, xs, h1, h2⟩ := ho; exact ⟨h0, xs, by rw [hrun]; exact h1, h2⟩
      | round l args => obtain ⟨h0, bl, n, u, xs, h1, h2, h3⟩ := ho; exact ⟨h0, bl, n, u, xs, h1, by rw [hrun]; exact h2, h3⟩
    unfold abuiltin at h
    split at h
    · obtain ⟨v, h1, h2⟩ := bind_ok h
      cases h2
      generalize c.args.toList.map ev = args at h1 hargs
      generalize hxs : c.args.toList.map ρ = xs at hargs harr
      have : ∃ a, args = [a] := by
        unfold alen at h1
        split at h1
        · exact ⟨_, rfl⟩
        · cases h1
      obtain ⟨a, rfl⟩ := this
      obtain ⟨y, ys, rfl, hy, hys⟩ := hargs.cons_inv
      have := hys.nil_inv
      subst this
      exact out (by rw [harr]; rfl) (Gives.out hw (len_rel hE hw (ty := ty) hy h1))
    · obtain ⟨⟨v, S1⟩, h1, h2⟩ := bind_ok h
      cases h2
      generalize c.args.toList.map ev = args at h1 hargs
      generalize hxs : c.args.toList.map ρ = xs at hargs harr
      have : ∃ a b, args = [a, b] := by
        unfold aappend at h1
        split at h1
        · exact ⟨_, _, rfl⟩
        · cases h1
      obtain ⟨a, b, rfl⟩ := this
      obtain ⟨y, ys, rfl, hy, hys⟩ := hargs.cons_inv
      obtain ⟨z, zs, rfl, hz, hzs⟩ := hys.cons_inv
      have := hzs.nil_inv
      subst this
      exact out (by rw [harr]; rfl) (Makes.out (append_rel hE hw (ty := ty) hy hz h1))
    · obtain ⟨⟨v, S1⟩, h1, h2⟩ := bind_ok h
      cases h2
      generalize c.args.toList.map ev = args at h1 hargs
      generalize hxs : c.args.toList.map ρ = xs at hargs harr
      have : ∃ a b, args = [a, b] := by
        unfold acopy at h1
        split at h1
        · exact ⟨_, _, rfl⟩
        · cases h1
      obtain ⟨a, b, rfl⟩ := this
      obtain ⟨y, ys, rfl, hy, hys⟩ := hargs.cons_inv
      obtain ⟨z, zs, rfl, hz, hzs⟩ := hys.cons_inv
      have := hzs.nil_inv
      subst this
      exact out (by rw [harr]; rfl) (Makes.out (copy_rel hE hw (ty := ty) hy hz h1))
    · obtain ⟨v, h1, h2⟩ := bind_ok h
      cases h2
      exact out (by rw [harr]; rfl) (Gives.out hw (pureBuiltin_rel hargs h1))
    · obtain ⟨v, h1, h2⟩ := bind_ok h
      cases h2
      exact out (by rw [harr]; rfl) (Gives.out hw (pureBuiltin_rel hargs h1))
    · cases h
  · rename_i f hcal
    have hf := hev f
    have hres : (resolve ρ c ty) = Deferred.ofValue (ρ f) (c.args.map ρ) := by unfold resolve; rw [hcal]
    unfold acallee at h
    split at h
    · rename_i g first cap hg
      rw [hg] at hf
      obtain ⟨fd, hfd, h⟩ := bind_ok h
      cases h
      generalize hρ : ρ f = fv at hf hres
      cases hf with
      | func h1 h2 hx hy =>
      rename_i xs ys
      refine ⟨rfl, xs ++ c.args.toList.map ρ ++ ys, ?_, (RelL.append ⟨h1, hx⟩ hargs).append ⟨h2, hy⟩⟩
      rw [hres, run_bind_ok (a := { target := .fn (.func g) ys.toArray, args := xs.toArray ++ c.args.map ρ }) (w1 := w) rfl]
      have := (hE.fn _ _ (ofOpt_ok hfd)).2 ((xs.toArray ++ c.args.map ρ) ++ ys.toArray) w
      have e2 : (xs ++ c.args.toList.map ρ ++ ys).toArray = (xs.toArray ++ c.args.map ρ) ++ ys.toArray := by rw [harr]; simp
      rw [e2]
      exact this
    · rename_i l hg
      rw [hg] at hf
      cases h
      generalize hρ : ρ f = fv at hf hres
      cases hf with
      | yield hr =>
      rename_i b n u
      refine ⟨rfl, b, n, u, c.args.toList.map ρ, hr, ?_, hargs⟩
      rw [hres, run_bind_ok (a := { target := .fn (.yield b) #[], args := #[] ++ c.args.map ρ }) (w1 := w) rfl]
      rw [harr]
      simp only [Array.empty_append]
      rfl
    · cases h
  · cases h
omit hE in
theorem parts_arr {ρ : Operand → Value} (parts : Array (Nat × Operand)) : (parts.map fun (i, x) => (i, ρ x)) = (parts.toList.map fun x => (x.1, ρ x.2)).toArray := by
  apply Array.ext'
  rw [Array.toList_map]

omit hE in
theorem arr_map {ρ : Operand → Value} (xs : Array Operand) : xs.map ρ = (xs.toList.map ρ).toArray := by
  apply Array.ext'
  rw [Array.toList_map]

theorem aop_rel (hw : RelW r S w) {ev : Operand → AV} {ρ : Operand → Value} (hev : ∀ x, RelV r (ev x) (ρ x)) {o : Oper} {nx : ANext} {S' : St}
    (h : aop E S ev o = .ok (nx, S')) : Outcome E.P r S w S' (execOp ρ o) nx := by
  unfold aop at h
  unfold execOp
  split at h
  · rename_i x ho
    rw [ho]
    cases h
    exact ⟨_, w, r, .inl rfl, .refl hw, hev x⟩
  · rename_i x ho
    rw [ho]
    cases h
    exact ⟨_, w, r, .inl rfl, .refl hw, hev x⟩
  · rename_i c x y ho
    rw [ho]
    unfold apick at h
    split at h
    · rename_i t hc
      cases h
      have hc' := hev c
      rw [hc] at hc'
      have e := hc'.lit_inv
      refine ⟨if t then ρ x else ρ y, w, r, .inl ?_, .refl hw, ?_⟩
      · simp only [e]
        rw [run_bind_ok (a := t) (w1 := w) rfl]
        rfl
      · cases t
        · exact hev y
        · exact hev x
    · cases h
  · rename_i t x ho
    rw [ho]
    obtain ⟨v, h1, h2⟩ := bind_ok h
    cases h2
    exact Gives.out hw (load_rel hE hw (hev x) h1)
  · rename_i t x v ho
    rw [ho]
    obtain ⟨h1, rfl⟩ := done_ok h
    exact Does.out (store_rel hE hw (hev x) (hev v) h1)
  · rename_i op xt x y yt ho
    rw [ho]
    obtain ⟨v, h1, rfl, rfl⟩ := valOf_ok h
    exact Gives.out hw (abin_rel hE (hev x) (hev y) h1)
  · rename_i c ho
    rw [ho]
    exact call_rel hE hw hev h
  · rename_i s x f ho
    rw [ho]
    obtain ⟨v, h1, rfl, rfl⟩ := valOf_ok h
    exact Gives.out hw (fieldAddr_rel hE (hev x) h1)
  · rename_i t x ix ho
    rw [ho]
    obtain ⟨v, h1, rfl, rfl⟩ := valOf_ok h
    exact Gives.out hw (indexAddr_rel hE (hev x) (hev ix) h1)
  · rename_i x ho
    rw [ho]
    obtain ⟨v, h1, rfl, rfl⟩ := valOf_ok h
    have hx := hev x
    unfold anilCheck at h1
    split at h1
    · rename_i e
      cases h1
      rw [e] at hx
      generalize hρ : ρ x = y at hx
      simp only [hρ]
      cases hx with
      | ptr hr => exact ⟨_, w, r, .inl rfl, .refl hw, .ptr hr⟩
    · rename_i e
      cases h1
      rw [e] at hx
      generalize hρ : ρ x = y at hx
      simp only [hρ]
      cases hx with
      | tptr hi hv => exact ⟨_, w, r, .inl rfl, .refl hw, .tptr hi hv⟩
    · rename_i e
      cases h1
      rw [e] at hx
      generalize hρ : ρ x = y at hx
      simp only [hρ]
      cases hx with
      | func h1 h2 hx hy => exact ⟨_, w, r, .inl rfl, .refl hw, .func h1 h2 hx hy⟩
    · cases h1
  · rename_i t i ho
    rw [ho]
    obtain ⟨v, h1, rfl, rfl⟩ := valOf_ok h
    exact Gives.out hw (extract_rel (hev t) h1)
  · rename_i t ho
    rw [ho]
    obtain ⟨v, h1, rfl⟩ := newOf_ok h
    exact Makes.out (alloc_rel hE hw h1)
  · rename_i t x ho
    rw [ho]
    obtain ⟨v, h1, rfl⟩ := newOf_ok h
    exact Makes.out (box_rel hw (hev x) h1)
  · rename_i t parts ho
    rw [ho]
    obtain ⟨v, h1, rfl, rfl⟩ := valOf_ok h
    have hb := Gives.out hw (build_rel hE (w := w) (relP_map hev _) h1)
    rw [← parts_arr] at hb
    exact hb
  · rename_i t len parts ho
    rw [ho]
    obtain ⟨v, h1, rfl⟩ := newOf_ok h
    have hb := Makes.out (buildSlice_rel hE hw (relP_map hev _) h1)
    rw [← parts_arr] at hb
    exact hb
  · rename_i op t x ho
    rw [ho]
    obtain ⟨v, h1, rfl, rfl⟩ := valOf_ok h
    exact Gives.out hw (pureOp_rel (hev x) h1)
  · rename_i s d x ho
    rw [ho]
    obtain ⟨v, h1, rfl, rfl⟩ := valOf_ok h
    exact Gives.out hw (pureOp_rel (hev x) h1)
  · rename_i t x ho
    rw [ho]
    obtain ⟨v, h1, rfl, rfl⟩ := valOf_ok h
    exact Gives.out hw (makeIface_rel hE (hev x) h1)
  · rename_i fn first cap ho
    rw [ho]
    obtain ⟨v, h1, rfl, rfl⟩ := valOf_ok h
    unfold amakeFunc at h1
    split at h1
    · cases h1
      have q1 := relL_map hev first.toList
      have q2 := relL_map hev cap.toList
      refine ⟨_, w, r, .inl rfl, .refl hw, ?_⟩
      rw [arr_map, arr_map]
      exact .func q1.1 q2.1 q1.2 q2.2
    · cases h1
  · rename_i t ro ho
    rw [ho]
    obtain ⟨v, h1, rfl⟩ := newOf_ok h
    exact Makes.out (makeMap_rel hw hE (relOpt_map hev ro) h1)
  · rename_i t l c ho
    rw [ho]
    obtain ⟨v, h1, rfl⟩ := newOf_ok h
    exact Makes.out (makeSlice_rel hE hw (hev l) (hev c) h1)
  · rename_i t x lo hi mx ho
    rw [ho]
    obtain ⟨v, h1, rfl, rfl⟩ := valOf_ok h
    exact Gives.out hw (slice_rel hE hw (hev x) (relOpt_map hev lo) (relOpt_map hev hi) (relOpt_map hev mx) h1)
  · rename_i t x f ho
    rw [ho]
    obtain ⟨v, h1, rfl, rfl⟩ := valOf_ok h
    exact Gives.out hw (field_rel hE (hev x) h1)
  · rename_i t x ix ho
    rw [ho]
    obtain ⟨v, h1, rfl, rfl⟩ := valOf_ok h
    exact Gives.out hw (index_rel hE (hev x) (hev ix) h1)
  · rename_i t m k ok ho
    rw [ho]
    obtain ⟨v, h1, rfl, rfl⟩ := valOf_ok h
    exact Gives.out hw (lookup_rel hE hw (hev m) (hev k) h1)
  · rename_i t m k v ho
    rw [ho]
    obtain ⟨h1, rfl⟩ := done_ok h
    exact Does.out (update_rel hE hw (hev m) (hev k) (hev v) h1)
  · rename_i t m k v ho
    rw [ho]
    obtain ⟨h1, rfl⟩ := done_ok h
    exact Does.out (update_rel hE hw (hev m) (hev k) (hev v) h1)
  · rename_i t m k ho
    rw [ho]
    obtain ⟨v, h1, rfl⟩ := newOf_ok h
    exact Makes.out (entry_rel hE hw (hev m) (hev k) h1)
  · rename_i t m s x ho
    rw [ho]
    obtain ⟨h1, rfl⟩ := done_ok h
    exact Does.out (entryStore_rel hw (hev m) (hev s) (hev x) h1)
  · rename_i x xt t ok ho
    rw [ho]
    obtain ⟨v, h1, rfl, rfl⟩ := valOf_ok h
    exact Gives.out hw (assert_rel hE (hev x) h1)
  · cases h
end
end Go.Am
