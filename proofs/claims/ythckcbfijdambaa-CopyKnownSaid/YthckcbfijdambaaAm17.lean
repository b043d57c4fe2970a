/- Soundness: calls by contract, rounds of loops over functions, operations in their order. -/
import Derived.Test.YthckcbfijdambaaAm16
namespace Go.Am
open Go.RowKit

def snapR (w : World) (lo : Nat) : Ren := { row := fun _ _ => none, imm := snap w lo }

theorem snap_bare (w : World) (lo : Nat) : (snapR w lo).bare = snapR w lo := rfl

theorem bare_snap {r : Ren} {S : St} {w : World} (hw : RelW r S w) : r.bare.le (snapR w 0) := by
  refine ⟨fun id ver x h => by simp [Ren.bare] at h, fun b c h => ?_⟩
  obtain ⟨⟨e, fz, hb⟩, _⟩ := hw.imm b c h
  simp [snapR, snap, hb]

theorem mapR_rel {f : AV → R AV} : ∀ {cs ds : List AV}, mapR f cs = .ok ds → ds.length = cs.length ∧ ∀ (i : Nat) (d : AV), ds[i]? = some d → ∃ c, cs[i]? = some c ∧ f c = .ok d := by
  intro cs
  induction cs with
  | nil => intro ds h; cases h; exact ⟨rfl, fun i d h => by simp at h⟩
  | cons c cs ih =>
    intro ds h
    obtain ⟨y, ys, rfl, h1, h2⟩ := mapR_cons h
    obtain ⟨h3, h4⟩ := ih h2
    refine ⟨by simp [h3], fun i d hd => ?_⟩
    cases i with
    | zero => simp at hd; subst hd; exact ⟨c, rfl, h1⟩
    | succ i => simp at hd; simpa using h4 i d hd

theorem reify_rel {r : Ren} {S : St} {w : World} (hw : RelW r S w) : ∀ (n : Nat) {v t : AV} {x : Value}, RelV r v x → reify n S v = .ok t → RelV (snapR w 0) t x := by
  intro n
  induction n with
  | zero => intro v t x _ h; cases h
  | succ n ih =>
    intro v t x hv h
    have hl : ∀ {cs ds : List AV} {xs : List Value}, RelL r cs xs → mapR (reify n S) cs = .ok ds → RelL (snapR w 0) ds xs := by
      intro cs ds xs h1 h2
      obtain ⟨h3, h4⟩ := mapR_rel h2
      refine ⟨by rw [h3, h1.1], fun i d x hd hx => ?_⟩
      obtain ⟨c, h5, h6⟩ := h4 i d hd
      exact ih (h1.2 i c x h5 hx) h6
    unfold reify at h
    split at h
    · cases h
      rw [hv.lit_inv]
      exact .lit _
    · cases h
      cases hv with
      | tree h1 h2 h3 h4 =>
        refine .tree h1 h2 (or_snd h3 fun k => ⟨?_, k.2⟩) fun i v x a b => (h4 i v x a b).mono (bare_snap hw)
        exact (bare_snap hw).imm _ _ k.1
    · cases h
      cases hv with
      | tptr h3 h4 =>
        refine .tptr (or_snd h3 fun k => ⟨?_, k.2⟩) fun i v x a b => (h4 i v x a b).mono (bare_snap hw)
        exact (bare_snap hw).imm _ _ k.1
    · cases h
      cases hv with
      | empty => exact .tree (c := #[]) (by simp) (Nat.le_refl _) (.inl rfl) fun i v x a => by simp at a
    · rename_i id off ver ex len cap
      obtain ⟨⟨cs0, u, fl⟩, h1, h2⟩ := bind_ok h
      obtain ⟨cs, h3, h4⟩ := bind_ok h2
      obtain ⟨ds, h5, h6⟩ := bind_ok h4
      cases h6
      cases hv with
      | slice hr hn hl' hc he =>
      have hg : S.heap.get id = some (.row cs0 u fl) := rowOf_ok h1
      obtain ⟨c, e, k1, k2, k3⟩ := loadN_rel hw hr h3
      have h7 := hl k3 h5
      have hdl : ds.length = len * u := by have := h7.1; simp at this; omega
      refine .tree (c := c) hdl (by omega) (.inr ⟨by simp [snapR, snap, k1], by omega⟩) fun i v x a b => ?_
      refine h7.2 i v x a ?_
      have hi : i < ds.length := (List.getElem?_eq_some_iff.1 a).1
      rw [List.getElem?_take, if_pos (by omega), List.getElem?_drop]
      simpa using b
    · rename_i id off ver
      obtain ⟨cs, h3, h4⟩ := bind_ok h
      obtain ⟨ds, h5, h6⟩ := bind_ok h4
      cases h6
      cases hv with
      | ptr hr =>
      obtain ⟨c, e, k1, k2, k3⟩ := loadN_rel hw hr h3
      have h7 := hl k3 h5
      have hdl : ds.length = ver - off := by have := h7.1; simp at this; omega
      refine .tptr (c := c) (.inr ⟨by simp [snapR, snap, k1], by omega⟩) fun i v x a b => ?_
      refine h7.2 i v x a ?_
      have hi : i < ds.length := (List.getElem?_eq_some_iff.1 a).1
      rw [List.getElem?_take, if_pos (by omega), List.getElem?_drop]
      simpa using b
    · obtain ⟨ds, h5, h6⟩ := bind_ok h
      cases h6
      obtain ⟨xs, rfl, h1⟩ := hv.agg_inv
      have := hl h1 h5
      exact .agg this.1 this.2
    · obtain ⟨ds, h5, h6⟩ := bind_ok h
      cases h6
      obtain ⟨xs, rfl, h1⟩ := hv.tuple_inv
      have := hl h1 h5
      exact .tuple this.1 this.2
    · obtain ⟨d, h5, h6⟩ := bind_ok h
      cases h6
      cases hv with
      | iface h1 => exact .iface (ih h1 h5)
    · cases h

theorem reifys_rel {r : Ren} {S : St} {w : World} (hw : RelW r S w) {n : Nat} {cs ds : List AV} {xs : List Value} (h1 : RelL r cs xs) (h2 : mapR (reify n S) cs = .ok ds) : RelL (snapR w 0) ds xs := by
  obtain ⟨h3, h4⟩ := mapR_rel h2
  refine ⟨by rw [h3, h1.1], fun i d x hd hx => ?_⟩
  obtain ⟨c, h5, h6⟩ := h4 i d hd
  exact reify_rel hw n (h1.2 i c x h5 hx) h6

theorem more_snap {r : Ren} {S : St} {w w' : World} (hw : RelW r S w) : (snapR w' w.heap.size).le (r.more w' w.heap.size) := by
  refine ⟨fun id ver x h => by simp [snapR] at h, fun b c h => ?_⟩
  simp only [Ren.more]
  cases hi : r.imm b with
  | none => exact h
  | some c' =>
    obtain ⟨⟨e, fz, hb⟩, _⟩ := hw.imm b c' hi
    have hlt : b < w.heap.size := (Array.getElem?_eq_some_iff.1 hb).1
    simp only [snapR, snap] at h
    rw [if_neg (by omega)] at h
    cases h

section
variable {E : Env} (hG : EnvGood E) {rec : Task → St → RR} (hR : Sound E rec) {r : Ren} {S : St} {w : World}
include hG hR

theorem callA_sim (hw : RelW r S w) {f : FuncId} {args : List AV} {xs : List Value} {v : AV} {S' : St} (ha : RelL r args xs) (h : callA rec E f args S = .ok (v, S')) :
    CallsIn Fence.wide 0 E.P f xs.toArray w (fun e w1 => ∃ x r', e = .returned x ∧ Ext r S w r' S' w1 ∧ RelV r' v x) := by
  unfold callA at h
  split at h
  · rename_i g hg
    obtain ⟨ds, h1, h2⟩ := bind_ok h
    obtain ⟨t, h3, h4⟩ := bind_ok h2
    cases h4
    have hds := reifys_rel hw ha h1
    have := hG.orc f g hg w ds xs v hds.1 hds.2 (ofOpt_ok h3)
    refine callsIn_wide.2 (this.mono fun e w' ⟨x, he, hr, hb⟩ => ⟨x, _, he, hw.called hb, RelV.mono hr (more_snap hw)⟩)
  · obtain ⟨⟨res, S2⟩, h1, h2⟩ := bind_ok h
    split at h2
    · rename_i v' S3 e
      cases e
      cases h2
      exact hR.call f args S v S' h1 r w xs hw ha
    · cases h2

omit hG hR in
theorem setTmps_rel {n : Nat} : ∀ (ps : List Tmp) (args : List AV) (xs : List Value) (tmps t0 : Trie AV) (ys : Array Value), RelL r args xs → RelT r n tmps ys → setTmps n ps args tmps = .ok t0 →
    ps.length = xs.length ∧ RelT r n t0 ((ps.zip xs).foldl (fun (tmps : Array Value) (p : Tmp × Value) => tmps.setIfInBounds p.1 p.2) ys) := by
  intro ps
  induction ps with
  | nil =>
    intro args xs tmps t0 ys ha ht h
    cases args with
    | nil => cases h; rw [ha.nil_inv]; exact ⟨rfl, ht⟩
    | cons a args => cases h
  | cons p ps ih =>
    intro args xs tmps t0 ys ha ht h
    cases args with
    | nil => cases h
    | cons a args =>
      obtain ⟨y, ys', rfl, h1, h2⟩ := ha.cons_inv
      obtain ⟨hlt, h3⟩ := bif_ok h
      have hlt := blt_true.1 hlt
      have ht' : RelT r n (tmps.set p a) (ys.setIfInBounds p y) := by
        refine ⟨by simp [ht.1], fun t => ?_⟩
        rw [Trie.get_set]
        by_cases hp : p = t
        · subst hp
          have : (ys.setIfInBounds p y).getD p undef = y := by simp [ht.1, hlt]
          rw [this]
          simpa using h1
        · have : (ys.setIfInBounds p y).getD t undef = ys.getD t undef := by simp [Array.getElem?_setIfInBounds_ne hp]
          rw [this, if_neg hp]
          exact ht.2 t
      obtain ⟨h4, h5⟩ := ih args ys' _ t0 _ h2 ht' h3
      exact ⟨by simp [h4], h5⟩

omit hG hR in
theorem loop_get {l : Nat} {o : AObj} (hw : RelW r S w) (h : S.heap.get l = some o) {b n u : Nat} (hr : r.row l 0 = some (b, n, u)) : RelO r 0 b n u w o := hw.obj _ _ h _ _ _ _ hr

omit hG hR in
/-- A loop's record is turned. -/
theorem loopState_rel (hw : RelW r S w) {l : Nat} {st : LoopState} {jump : Option (Option Code)} {S' : St} {b n u : Nat} (hr : r.row l 0 = some (b, n, u)) (h : loopState S l st jump = .ok S') {lp : Loop}
    (hlp : w.heap[b]? = some (.loop lp)) : Ext r S w r S' (w.putObj b (.loop { lp with state := st, pending := match jump with | some j => j | none => lp.pending })) := by
  unfold loopState at h
  split at h
  · rename_i n0 tmps ps assign body st0 pending dfr hg
    cases h
    obtain ⟨_, c1, c2, lp', h1, h2, h3, h4, h5, h6, h7, x, h8, h9⟩ := loop_get hw hg hr
    rw [hlp] at h1
    cases h1
    refine hw.write hr _ _ fun ver b1 n1 u1 h' => ?_
    have e := (hw.obj _ _ hg _ _ _ _ h').1
    subst e
    rw [hr] at h'
    cases h'
    refine ⟨rfl, c1, c2, _, World.putObj_heap_same (hw.dom _ _ _ hr).2, rfl, ?_, h4, h5, h6, h7, x, h8, h9⟩
    cases jump with
    | none => exact h3
    | some j => rfl
  · cases h

omit hG hR in
theorem stateOf_rel (hw : RelW r S w) {l : Nat} {st : LoopState} {b n u : Nat} (hr : r.row l 0 = some (b, n, u)) (h : stateOf S l = .ok st) : ∃ lp : Loop, w.heap[b]? = some (.loop lp) ∧ lp.state = st := by
  unfold stateOf at h
  split at h
  · rename_i n0 tmps ps assign body st0 pending dfr hg
    cases h
    obtain ⟨_, c1, c2, lp, h1, h2, _⟩ := loop_get hw hg hr
    exact ⟨lp, h1, h2⟩
  · cases h

omit hG hR in
theorem mustBe_ok {b : Bool} {m : String} {u : Unit} (h : mustBe b m = .ok u) : b = true := by
  cases b with
  | true => rfl
  | false => cases h

omit hG in
/-- A round. -/
theorem aRound_sim (hw : RelW r S w) {l : Nat} {args : List AV} {xs : List Value} {v : AV} {S' : St} {b n u : Nat} (hr : r.row l 0 = some (b, n, u)) (ha : RelL r args xs)
    (h : aRound rec S l args = .ok (v, S')) (ro : Option Nat) : ∃ lp : Loop, w.heap[b]? = some (.loop lp) ∧ xs.length = lp.params.size ∧
      ∀ (R : Ending → World → Prop), (∀ x r' w', Ext r S w r' S' w' → RelV r' v x → R (.returned x) w') →
        RoundIn (fence ro) 0 E.P b lp.fn ((lp.params.zip xs.toArray).foldl (fun (tmps : Array Value) (p : Tmp × Value) => tmps.setIfInBounds p.1 p.2) lp.tmps) lp.assign lp.body w R := by
  unfold aRound at h
  split at h
  rotate_left
  · cases h
  rename_i n0 tmps ps assign body st0 pending dfr hg
  obtain ⟨t0, h1, h2⟩ := bind_ok h
  obtain ⟨_, c1, c2, lp, k1, k2, k3, k4, k5, k6, k7, x, k8, k9⟩ := loop_get hw hg hr
  obtain ⟨s1, s2⟩ := setTmps_rel ps args xs tmps t0 lp.tmps ha k7 h1
  refine ⟨lp, k1, by rw [k4]; simpa using s1.symm, fun R hRR => ?_⟩
  obtain ⟨⟨res, S1⟩, h3, h4⟩ := bind_ok h2
  split at h4
  rotate_left
  · cases h4
  rename_i a1 S1' heq
  cases heq
  obtain ⟨q1, q2, q3⟩ := hR.code _ _ _ _ _ _ h3 c1
  have hzip : (lp.params.zip xs.toArray).foldl (fun (tmps : Array Value) (p : Tmp × Value) => tmps.setIfInBounds p.1 p.2) lp.tmps = (ps.zip xs).foldl (fun (tmps : Array Value) (p : Tmp × Value) => tmps.setIfInBounds p.1 p.2) lp.tmps := by
    rw [k4, ← Array.foldl_toList]
    simp
  rw [hzip, k5, k6]
  have hact : RelA r { n := n0, tmps := t0, marks := [], rnd := some l } { tmps := (ps.zip xs).foldl (fun (tmps : Array Value) (p : Tmp × Value) => tmps.setIfInBounds p.1 p.2) lp.tmps, defers := [] } :=
    ⟨s2.1, fun t => s2.2 t, rfl, fun i m d h => by simp at h⟩
  have hro : RelR r (some l) (some b) := ⟨n, u, hr⟩
  refine roundIn_of_wpIn (F := fence ro) trivial ?_
  have hwp := q3 r w _ (some b) hw hact hro
  refine wpIn_mono hwp fun ex ac w1 ⟨he, r1, x1, ha1⟩ => ?_
  subst he
  obtain ⟨st, h5, h6⟩ := bind_ok h4
  obtain ⟨uu, h7, h8⟩ := bind_ok h6
  have hready := of_decide_eq_true (mustBe_ok h7)
  subst hready
  obtain ⟨S2, h9, h10⟩ := bind_ok h8
  obtain ⟨⟨res2, S3⟩, h11, h12⟩ := bind_ok h10
  have hr1 := x1.sub.row _ _ _ hr
  obtain ⟨lp1, l1, l2⟩ := stateOf_rel x1.rel hr1 h5
  have y1 := loopState_rel x1.rel hr1 h9 l1
  simp only at y1
  refine ⟨_, run_beginRound l1 l2, ?_⟩
  split at h12
  rotate_left
  · cases h12
  rename_i e2 a2 S3' heq
  cases heq
  obtain ⟨p1, p2, p3⟩ := hR.code _ _ _ _ _ _ h11 c2
  have hro2 : RelR r1 a1.rnd (some b) := by rw [q1]; exact ⟨n, u, hr1⟩
  have hwp2 := p3 r1 _ ac (some b) y1.rel (ha1.mono y1.sub) hro2
  refine wpIn_mono hwp2 fun ex2 ac2 w3 ⟨he2, r3, x3, ha3⟩ => ?_
  subst he2
  obtain ⟨jump, h13, h14⟩ := bind_ok h12
  obtain ⟨S4, h15, h16⟩ := bind_ok h14
  cases h16
  have hr3 := x3.sub.row _ _ _ hr1
  obtain ⟨lp3, l3⟩ : ∃ lp3 : Loop, w3.heap[b]? = some (.loop lp3) := by
    unfold loopState at h15
    split at h15
    · rename_i hg3
      obtain ⟨_, _, _, lp3, l3, _⟩ := loop_get x3.rel hg3 hr3
      exact ⟨lp3, l3⟩
    · cases h15
  have y3 := loopState_rel x3.rel hr3 h15 l3
  have yes := (x1.trans y1).trans (x3.trans y3)
  have fin : ∀ j, jump = j → ∃ v w', (Instr.endRound b j).run E.P w3 = .ok v w' ∧ R (.returned v) w' := by
    intro j hj
    subst hj
    refine ⟨_, _, run_endRound jump l3, hRR _ r3 _ ?_ (RelV.lit (r := r3) _)⟩
    have : (if jump.isNone = true then LoopState.ready else LoopState.done) = (bif jump.isNone then .ready else .done) := by cases jump <;> rfl
    rw [this]
    exact yes
  cases ex2 <;> simp only [jumpOf] at h13
  · cases h13; exact fin none rfl
  · cases h13; exact fin _ rfl
  · cases h13; exact fin _ rfl
  · cases h13; exact fin _ rfl
  · cases h13
  · cases h13

end
end Go.Am
