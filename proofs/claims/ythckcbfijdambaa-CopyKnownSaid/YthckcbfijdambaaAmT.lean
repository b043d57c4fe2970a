/- Contracts from tables of closed calls. -/
import Derived.Test.YthckcbfijdambaaAm23
namespace Go.Am
open Go.RowKit
set_option linter.unusedVariables false

/-- A value as a tree, made of new memory alone. -/
def reifyN : Nat → St → AV → R AV
  | 0, _, _ => .error "reify depth"
  | n + 1, S, v =>
    match v with
    | .lit x => .ok (.lit x)
    | .tree u 0 [] => .ok (.tree u 0 [])
    | .empty => .ok (.tree 1 0 [])
    | .slice id off ver _ len _ =>
      (rowOf S id).bind fun (_, u, _) =>
      (loadN S id off ver (len * u)).bind fun cs => (mapR (reifyN n S) cs).bind fun ds => .ok (.tree u len ds)
    | .ptr id off ver =>
      (loadN S id off ver (ver - off)).bind fun cs => (mapR (reifyN n S) cs).bind fun ds => .ok (.tptr ds)
    | .agg cs => (mapR (reifyN n S) cs).bind fun ds => .ok (.agg ds)
    | .tuple cs => (mapR (reifyN n S) cs).bind fun ds => .ok (.tuple ds)
    | .iface t v => (reifyN n S v).bind fun d => .ok (.iface t d)
    | _ => .error "reify"

theorem reifyN_from {r : Ren} {S : St} {w : World} (lo : Nat) (hw : RelW r S w) (hrow : ∀ id ver x, r.row id ver = some x → lo ≤ x.1) :
    ∀ (n : Nat) {v t : AV} {x : Value}, RelV r v x → reifyN n S v = .ok t → RelV (snapR w lo) t x := by
  intro n
  induction n with
  | zero => intro v t x _ h; cases h
  | succ n ih =>
    intro v t x hv h
    have hl : ∀ {cs ds : List AV} {xs : List Value}, RelL r cs xs → mapR (reifyN n S) cs = .ok ds → RelL (snapR w lo) ds xs := by
      intro cs ds xs h1 h2
      obtain ⟨h3, h4⟩ := mapR_rel h2
      refine ⟨by rw [h3, h1.1], fun i d x hd hx => ?_⟩
      obtain ⟨c, h5, h6⟩ := h4 i d hd
      exact ih (h1.2 i c x h5 hx) h6
    unfold reifyN at h
    split at h
    · cases h
      rw [hv.lit_inv]
      exact .lit _
    · cases h
      cases hv with
      | tree h1 h2 h3 h4 => exact .tree (c := #[]) (by simp) (Nat.zero_le _) (.inl rfl) fun i v x a => by simp at a
    · cases h
      cases hv with
      | empty => exact .tree (c := #[]) (by simp) (Nat.le_refl _) (.inl rfl) fun i v x a => by simp at a
    · rename_i id off ver ex len cap
      obtain ⟨⟨cs0, u, fl⟩, h1, h2⟩ := bind_ok h
      obtain ⟨cs, h3, h4⟩ := bind_ok h2
      obtain ⟨ds, h5, h6⟩ := bind_ok h4
      cases h6
      cases hv with
      | slice hr hn hl' hc he =>
      have hg : S.heap.get id = some (.row cs0 u fl) := rowOf_ok h1
      obtain ⟨c, e, k1, k2, k3⟩ := loadN_rel hw hr h3
      have h7 := hl k3 h5
      have hlo := hrow _ _ _ hr
      have hdl : ds.length = len * u := by have := h7.1; simp at this; omega
      refine .tree (c := c) hdl (by omega) (.inr ⟨by simp only at hlo; simp [snapR, snap, k1, hlo], by omega⟩) fun i v x a b => ?_
      refine h7.2 i v x a ?_
      have hi : i < ds.length := (List.getElem?_eq_some_iff.1 a).1
      rw [List.getElem?_take, if_pos (by omega), List.getElem?_drop]
      simpa using b
    · rename_i id off ver
      obtain ⟨cs, h3, h4⟩ := bind_ok h
      obtain ⟨ds, h5, h6⟩ := bind_ok h4
      cases h6
      cases hv with
      | ptr hr =>
      obtain ⟨c, e, k1, k2, k3⟩ := loadN_rel hw hr h3
      have h7 := hl k3 h5
      have hlo := hrow _ _ _ hr
      have hdl : ds.length = ver - off := by have := h7.1; simp at this; omega
      refine .tptr (c := c) (.inr ⟨by simp only at hlo; simp [snapR, snap, k1, hlo], by omega⟩) fun i v x a b => ?_
      refine h7.2 i v x a ?_
      have hi : i < ds.length := (List.getElem?_eq_some_iff.1 a).1
      rw [List.getElem?_take, if_pos (by omega), List.getElem?_drop]
      simpa using b
    · obtain ⟨ds, h5, h6⟩ := bind_ok h
      cases h6
      obtain ⟨xs, rfl, h1⟩ := hv.agg_inv
      have := hl h1 h5
      exact .agg this.1 this.2
    · obtain ⟨ds, h5, h6⟩ := bind_ok h
      cases h6
      obtain ⟨xs, rfl, h1⟩ := hv.tuple_inv
      have := hl h1 h5
      exact .tuple this.1 this.2
    · obtain ⟨d, h5, h6⟩ := bind_ok h
      cases h6
      cases hv with
      | iface h1 => exact .iface (ih h1 h5)
    · cases h

/-- What a closed run on trees says of a call. -/
def RunsTo (E : Env) (f : FuncId) (args : List AV) (t : AV) : Prop := ∃ n v S', run E n (.call f args) S0 = .ok (.ret v, S') ∧ reifyN 12 S' v = .ok t

theorem snap_start (w : World) : RelW (snapR w 0) S0 w := relW_start w _ fun b c hb => by
  simp only [snap, Nat.zero_le, if_true] at hb
  cases hx : w.heap[b]? with
  | none => rw [hx] at hb; cases hb
  | some o =>
    rw [hx] at hb
    cases o with
    | cells c' e fz => simp at hb; subst hb; exact ⟨e, fz, rfl⟩
    | _ => cases hb

theorem RunsTo.calls {E : Env} (hG : EnvGood E) {f : FuncId} {args : List AV} {t : AV} (h : RunsTo E f args t) (w : World) (xs : List Value) (ha : RelL (snapR w 0) args xs) :
    Calls E.P f xs.toArray w fun e w' => ∃ x, e = .returned x ∧ Reads w' w.heap.size t x ∧ Below w.heap.size w w' := by
  obtain ⟨n, v, S', h, ht⟩ := h
  refine (callsIn_wide.1 ((run_sound hG n).call f args S0 v S' h _ w xs (snap_start w) ha)).mono fun e w' ⟨x, r', he, hx, hv⟩ => ⟨x, he, ?_, below_of hx⟩
  refine reifyN_from w.heap.size hx.rel (fun id ver y hy => ?_) 12 hv ht
  rcases hx.fresh id ver y hy with h1 | ⟨_, h1 | ⟨ver0, z, h1, _⟩⟩
  · cases h1
  · exact h1
  · cases h1

theorem meets_of {E : Env} (hG : EnvGood E) {f : FuncId} {g : List AV → Option AV} (h : ∀ args t, g args = some t → RunsTo E f args t) : Meets E.P f g :=
  fun w args xs t hl hr hg => (h args t hg).calls hG w xs ⟨hl, hr⟩

def table : List (List AV × AV) → List AV → Option AV
  | [], _ => none
  | (a, t) :: l, args => bif allSame (sameA 20) args a then some t else table l args

theorem table_get : ∀ {l : List (List AV × AV)} {args : List AV} {t : AV}, table l args = some t → (args, t) ∈ l
  | [], _, _, h => by cases h
  | (a, t0) :: l, args, t, h => by
    unfold table at h
    cases hs : allSame (sameA 20) args a with
    | true =>
      have := allSame_eq (fun a b => sameA_eq 20 a b) _ _ hs
      simp only [hs, cond_true, Option.some.injEq] at h
      subst this
      subst h
      simp
    | false =>
      simp only [hs, cond_false] at h
      exact List.mem_cons_of_mem _ (table_get h)

/-- A closed run, as a test. -/
noncomputable def runsB (E : Env) (n : Nat) (f : FuncId) (args : List AV) (t : AV) : Bool :=
  match run E n (.call f args) S0 with
  | .ok (.ret v, S') => (match reifyN 12 S' v with | .ok t' => sameA 20 t' t | .error _ => false)
  | _ => false

theorem RunsTo.of {E : Env} (n : Nat) {f : FuncId} {args : List AV} {t : AV} (h : runsB E n f args t = true) : RunsTo E f args t := by
  unfold runsB at h
  split at h
  · rename_i v S' hr
    split at h
    · rename_i t' ht
      exact ⟨n, v, S', hr, (sameA_eq _ _ _ h) ▸ ht⟩
    · cases h
  · cases h

theorem table_meets {E : Env} (hG : EnvGood E) {f : FuncId} {l : List (List AV × AV)} (h : ∀ x ∈ l, RunsTo E f x.1 x.2) : Meets E.P f (table l) :=
  meets_of hG fun _ _ hg => h _ (table_get hg)

end Go.Am
