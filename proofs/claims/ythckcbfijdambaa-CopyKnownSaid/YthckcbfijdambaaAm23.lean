/- Contracts from runs. -/
import Derived.Test.YthckcbfijdambaaAm22
namespace Go.Am
open Go.RowKit
set_option linter.unusedVariables false

def S0 : St := { heap := .leaf, next := 0, low := 0 }

theorem reify_from {r : Ren} {S : St} {w : World} (lo : Nat) (hw : RelW r S w) (hrow : ∀ id ver x, r.row id ver = some x → lo ≤ x.1) (himm : ∀ b c, r.imm b = some c → lo ≤ b) :
    ∀ (n : Nat) {v t : AV} {x : Value}, RelV r v x → reify n S v = .ok t → RelV (snapR w lo) t x := by
  have hbare : r.bare.le (snapR w lo) := by
    refine ⟨fun id ver x h => by simp [Ren.bare] at h, fun b c h => ?_⟩
    obtain ⟨⟨e, fz, hb⟩, _⟩ := hw.imm b c h
    have := himm b c h
    simp [snapR, snap, hb, this]
  intro n
  induction n with
  | zero => intro v t x _ h; cases h
  | succ n ih =>
    intro v t x hv h
    have hl : ∀ {cs ds : List AV} {xs : List Value}, RelL r cs xs → mapR (reify n S) cs = .ok ds → RelL (snapR w lo) ds xs := by
      intro cs ds xs h1 h2
      obtain ⟨h3, h4⟩ := mapR_rel h2
      refine ⟨by rw [h3, h1.1], fun i d x hd hx => ?_⟩
      obtain ⟨c, h5, h6⟩ := h4 i d hd
      exact ih (h1.2 i c x h5 hx) h6
    unfold reify at h
    split at h
    · cases h
      rw [hv.lit_inv]
      exact .lit _
    · cases h
      cases hv with
      | tree h1 h2 h3 h4 =>
        refine .tree h1 h2 (or_snd h3 fun k => ⟨?_, k.2⟩) fun i v x a b => (h4 i v x a b).mono hbare
        exact hbare.imm _ _ k.1
    · cases h
      cases hv with
      | tptr h3 h4 =>
        refine .tptr (or_snd h3 fun k => ⟨?_, k.2⟩) fun i v x a b => (h4 i v x a b).mono hbare
        exact hbare.imm _ _ k.1
    · cases h
      cases hv with
      | empty => exact .tree (c := #[]) (by simp) (Nat.le_refl _) (.inl rfl) fun i v x a => by simp at a
    · rename_i id off ver ex len cap
      obtain ⟨⟨cs0, u, fl⟩, h1, h2⟩ := bind_ok h
      obtain ⟨cs, h3, h4⟩ := bind_ok h2
      obtain ⟨ds, h5, h6⟩ := bind_ok h4
      cases h6
      cases hv with
      | slice hr hn hl' hc he =>
      have hg : S.heap.get id = some (.row cs0 u fl) := rowOf_ok h1
      obtain ⟨c, e, k1, k2, k3⟩ := loadN_rel hw hr h3
      have h7 := hl k3 h5
      have hlo := hrow _ _ _ hr
      have hdl : ds.length = len * u := by have := h7.1; simp at this; omega
      refine .tree (c := c) hdl (by omega) (.inr ⟨by simp only at hlo; simp [snapR, snap, k1, hlo], by omega⟩) fun i v x a b => ?_
      refine h7.2 i v x a ?_
      have hi : i < ds.length := (List.getElem?_eq_some_iff.1 a).1
      rw [List.getElem?_take, if_pos (by omega), List.getElem?_drop]
      simpa using b
    · rename_i id off ver
      obtain ⟨cs, h3, h4⟩ := bind_ok h
      obtain ⟨ds, h5, h6⟩ := bind_ok h4
      cases h6
      cases hv with
      | ptr hr =>
      obtain ⟨c, e, k1, k2, k3⟩ := loadN_rel hw hr h3
      have h7 := hl k3 h5
      have hlo := hrow _ _ _ hr
      have hdl : ds.length = ver - off := by have := h7.1; simp at this; omega
      refine .tptr (c := c) (.inr ⟨by simp only at hlo; simp [snapR, snap, k1, hlo], by omega⟩) fun i v x a b => ?_
      refine h7.2 i v x a ?_
      have hi : i < ds.length := (List.getElem?_eq_some_iff.1 a).1
      rw [List.getElem?_take, if_pos (by omega), List.getElem?_drop]
      simpa using b
    · obtain ⟨ds, h5, h6⟩ := bind_ok h
      cases h6
      obtain ⟨xs, rfl, h1⟩ := hv.agg_inv
      have := hl h1 h5
      exact .agg this.1 this.2
    · obtain ⟨ds, h5, h6⟩ := bind_ok h
      cases h6
      obtain ⟨xs, rfl, h1⟩ := hv.tuple_inv
      have := hl h1 h5
      exact .tuple this.1 this.2
    · obtain ⟨d, h5, h6⟩ := bind_ok h
      cases h6
      cases hv with
      | iface h1 => exact .iface (ih h1 h5)
    · cases h

theorem relW_start (w : World) (imm : Nat → Option (Array Value)) (h : ∀ b c, imm b = some c → ∃ e fz, w.heap[b]? = some (.cells c e fz)) : RelW { row := fun _ _ => none, imm } S0 w :=
  { dom := fun id ver x h => (by cases h), inj := fun id ver x id' ver' x' h => (by cases h), imm := fun b c hb => ⟨h b c hb, fun id ver x h => (by cases h)⟩,
    obj := fun id o h => (by cases h), low := Nat.le_refl _ }

theorem below_of {imm : Nat → Option (Array Value)} {w w' : World} {r' : Ren} {S S' : St} (x : Ext { row := fun _ _ => none, imm } S w r' S' w') : Below w.heap.size w w' :=
  ⟨x.os, x.tape, x.output, x.size, fun k hk => (x.frame k hk).resolve_right fun ⟨id, ver, y, h, _⟩ => by cases h⟩

/-- What a run from the bare heap says of a call. -/
theorem call_of_run {E : Env} (hG : EnvGood E) {n : Nat} {f : FuncId} {args : List AV} {v : AV} {S' : St} (h : run E n (.call f args) S0 = .ok (.ret v, S')) (w : World) (xs : List Value) (ha : RelL (snapR w 0) args xs) :
    Calls E.P f xs.toArray w fun e w' => ∃ x r', e = .returned x ∧ RelV r' v x ∧ RelW r' S' w' ∧ Below w.heap.size w w' := by
  have hw : RelW (snapR w 0) S0 w := relW_start w _ fun b c hb => by
    simp only [snap, Nat.zero_le, if_true] at hb
    cases hx : w.heap[b]? with
    | none => rw [hx] at hb; cases hb
    | some o =>
      rw [hx] at hb
      cases o with
      | cells c' e fz => simp at hb; subst hb; exact ⟨e, fz, rfl⟩
      | _ => cases hb
  refine (callsIn_wide.1 ((run_sound hG n).call f args S0 v S' h _ w xs hw ha)).mono fun e w' ⟨x, r', he, hx, hv⟩ => ⟨x, r', he, hv, hx.rel, below_of hx⟩

/-- A run on literals is a contract for these literals. -/
theorem lits_of_run {E : Env} (hG : EnvGood E) {n : Nat} {f : FuncId} {ls : List Value} {v t : AV} {S' : St} (h : run E n (.call f (ls.map .lit)) S0 = .ok (.ret v, S')) (ht : reify 12 S' v = .ok t) (w : World) :
    Calls E.P f ls.toArray w fun e w' => ∃ x, e = .returned x ∧ RelV (snapR w' w.heap.size) t x ∧ Below w.heap.size w w' := by
  have hw : RelW { row := fun _ _ => none, imm := fun _ => none } S0 w := relW_start w _ fun b c hb => by cases hb
  have ha : RelL { row := fun _ _ => none, imm := fun _ => none } (ls.map .lit) ls := by
    refine ⟨by simp, fun i v x h1 h2 => ?_⟩
    rw [List.getElem?_map, h2] at h1
    cases h1
    exact .lit _
  refine (callsIn_wide.1 ((run_sound hG n).call f _ S0 v S' h _ w ls hw ha)).mono fun e w' ⟨x, r', he, hx, hv⟩ => ⟨x, he, ?_, below_of hx⟩
  refine reify_from w.heap.size hx.rel (fun id ver y hy => ?_) (fun b c hb => ?_) 12 hv ht
  · rcases hx.fresh id ver y hy with h1 | ⟨_, h1 | ⟨ver0, z, h1, _⟩⟩
    · cases h1
    · exact h1
    · cases h1
  · rcases hx.news b c hb with h1 | h1
    · cases h1
    · exact h1

end Go.Am
