/- Part 14. -/
import Derived.Test.YtgbbhdoobhdadaaGreatDoorTP1
section
namespace Go.Am
open Go.RowKit
def posOf (ids : List Nat) (id : Nat) : Option Nat := ids.findIdx? (fun x => Nat.beq x id)
def isLitA : AV → Bool | .lit _ => true | _ => false
def canonV (S : St) (ids : List Nat) : Nat → AV → R AV
 | 0, _ => .error "canon depth"
 | n + 1, v =>
  match v with
  | .lit x => .ok (.lit x)
  | .ptr id off ver => match posOf ids id with | some i => .ok (.ptr i off ver) | none => .error "canon ptr"
  | .slice id off ver ex len cap => match posOf ids id with
   | some i => .ok (.slice i off ver ex len cap)
   | none => (rowOf S id).bind fun x => (loadN S id off ver (len * x.2.1)).bind fun cs => bif cs.all isLitA then .ok (.tree x.2.1 len cs) else .error "canon slice"
  | .tree u len cs => bif cs.all isLitA then .ok (.tree u len cs) else .error "canon tree"
  | .func g args caps => (mapR (canonV S ids n) args).bind fun bs => (mapR (canonV S ids n) caps).bind fun cs => .ok (.func g bs cs)
  | _ => .error "canon"
open Classical in
noncomputable def canonR (r : Ren) (w : World) (ids : List Nat) : Ren :=
  { row := fun i ver => match ids[i]? with | some id => r.row id ver | none => none,
    imm := fun b => if ∃ id ∈ ids, ∃ ver x, r.row id ver = some x ∧ x.1 = b then none else snap w 0 b }
theorem posOf_some {ids : List Nat} {id i : Nat} (h : posOf ids id = some i) : ids[i]? = some id := by
 unfold posOf at h;obtain ⟨hi, h1, _⟩ := List.findIdx?_eq_some_iff_getElem.1 h;rw [List.getElem?_eq_getElem hi];exact congrArg some (Nat.eq_of_beq_eq_true h1)
theorem posOf_none {ids : List Nat} {id : Nat} (h : posOf ids id = none) : id ∉ ids := by
 intro hm;unfold posOf at h;rw [List.findIdx?_eq_none_iff] at h
 have := h id hm;rw [Nat.beq_refl] at this;cases this
section
variable {r : Ren} {S : St} {w : World} {ids : List Nat} (hw : RelW r S w)
include hw
theorem canon_free {id ver : Nat} {y : Nat × Nat × Nat} (hid : id ∉ ids) (hr : r.row id ver = some y) : (canonR r w ids).imm y.1 = snap w 0 y.1 := by
 unfold canonR;simp only;rw [if_neg];rintro ⟨id', hm, ver', x, h1, h2⟩;exact hid ((hw.inj _ _ _ _ _ _ h1 hr h2) ▸ hm)
theorem canon_imm {b : Nat} {c : Array Value} (hb : r.imm b = some c) : (canonR r w ids).imm b = some c := by
 obtain ⟨⟨e, fz, h1⟩, h2⟩ := hw.imm b c hb;unfold canonR;simp only;rw [if_neg]
 ·simp only [snap, Nat.zero_le, if_true, h1]
 ·rintro ⟨id', _, ver', x, h3, h4⟩;exact h2 _ _ _ h3 h4
omit hw in
theorem lits_rel {r' r0 : Ren} {cs : List AV} (hl : cs.all isLitA = true) {i : Nat} {v : AV} {x : Value} (hv : cs[i]? = some v) (h : RelV r0 v x) : RelV r' v x := by
 have := List.all_eq_true.1 hl v (List.mem_of_getElem? hv);cases v with
 | lit y => rw [h.lit_inv]; exact .lit _
 | _ => cases this
theorem canonV_rel : ∀ (n : Nat) {v v' : AV} {x : Value}, RelV r v x → canonV S ids n v = .ok v' → RelV (canonR r w ids) v' x := by
 intro n
 induction n with
 | zero => intro v v' x _ h; cases h
 | succ n ih =>
  intro v v' x hv h
  have hl : ∀ {cs ds : List AV} {xs : List Value}, RelL r cs xs → mapR (canonV S ids n) cs = .ok ds → RelL (canonR r w ids) ds xs := by
   intro cs ds xs h1 h2;obtain ⟨h3, h4⟩ := mapR_rel h2;refine ⟨by rw [h3, h1.1], fun i d x hd hx => ?_⟩;obtain ⟨c, h5, h6⟩ := h4 i d hd;exact ih (h1.2 i c x h5 hx) h6
  unfold canonV at h;split at h
  ·cases h;rw [hv.lit_inv];exact .lit _
  ·split at h
   ·rename_i i hp
    cases h;cases hv with
    | ptr hr => exact .ptr (by simp only [canonR, posOf_some hp]; exact hr)
   ·cases h
  ·rename_i id off ver ex len cap
   split at h
   ·rename_i i hp
    cases h;cases hv with
    | slice hr hn hl' hc he => exact .slice (by simp only [canonR, posOf_some hp]; exact hr) hn hl' hc he
   ·rename_i hp
    obtain ⟨⟨cs0, u0, fl⟩, h1, h2⟩ := bind_ok h;obtain ⟨cs, h3, h4⟩ := bind_ok h2;obtain ⟨hlit, h5⟩ := bif_ok h4;cases h5;dsimp only at h3;cases hv with
    | slice hr hn hl' hc he =>
    obtain ⟨c, e, k1, k2, k3⟩ := loadN_rel hw hr h3
    have hfree := canon_free hw (posOf_none hp) hr
    have hlen : cs.length = len * u0 := by have := k3.1; simp at this; omega
    refine .tree (u := u0) (c := c) hlen (by omega) (.inr ⟨by simp only at hfree; rw [hfree]; simp only [snap, Nat.zero_le, if_true, k1], by omega⟩) fun i v x a b => ?_
    refine lits_rel hlit a (k3.2 i v x a ?_)
    have hi : i < cs.length := (List.getElem?_eq_some_iff.1 a).1;rw [List.getElem?_take, if_pos (by omega), List.getElem?_drop]
    simpa using b
  ·obtain ⟨hlit, h5⟩ := bif_ok h;cases h5;cases hv with
   | tree0 => exact .tree0
   | tree h1 h2 h3 h4 => exact .tree h1 h2 (or_snd h3 fun k => ⟨canon_imm hw k.1, k.2⟩) fun i v x a b => lits_rel hlit a (h4 i v x a b)
  ·obtain ⟨bs, h1, h2⟩ := bind_ok h;obtain ⟨cs, h3, h4⟩ := bind_ok h2;cases h4;cases hv with
   | func k1 k2 hx hy =>
   have e1 := hl ⟨k1, hx⟩ h1
   have e2 := hl ⟨k2, hy⟩ h3;exact .func e1.1 e2.1 e1.2 e2.2
  ·cases h
end
abbrev CRow := List AV × Nat × Nat
def canonRow (S : St) (ids : List Nat) (id : Nat) : R CRow :=
 match S.heap.get id with
 | some (.row cs u fl) => (mapR (canonV S ids 4) cs).bind fun ds => .ok (ds, u, fl)
 | _ => .error "canon row"
def rowsR (S : St) (ids : List Nat) : List Nat → R (List CRow)
 | [] => .ok []
 | id :: l => (canonRow S ids id).bind fun x => (rowsR S ids l).bind fun xs => .ok (x :: xs)
def trieOf : Nat → List CRow → Trie AObj
 | _, [] => .leaf
 | k, x :: l => (trieOf (k + 1) l).set k (.row x.1 x.2.1 x.2.2)
def canonSt (rows : List CRow) : St := { heap := trieOf 0 rows, next := rows.length, low := rows.length, glb := [] }
theorem rowsR_at {S : St} {ids : List Nat} : ∀ {l : List Nat} {rows : List CRow}, rowsR S ids l = .ok rows → rows.length = l.length ∧ ∀ (i : Nat) (x : CRow), rows[i]? = some x → ∃ id, l[i]? = some id ∧ canonRow S ids id = .ok x
 | [], rows, h => by cases h; exact ⟨rfl, fun i x h => by simp at h⟩
 | id :: l, rows, h => by
  obtain ⟨x, h1, h2⟩ := bind_ok h;obtain ⟨xs, h3, h4⟩ := bind_ok h2;cases h4;obtain ⟨e1, e2⟩ := rowsR_at h3;refine ⟨by simp [e1], fun i y hy => ?_⟩;cases i with
  | zero => simp at hy; subst hy; exact ⟨id, rfl, h1⟩
  | succ i => exact e2 i y (by simpa using hy)
theorem trieOf_get : ∀ (l : List CRow) (k i : Nat), (trieOf k l).get i = if k ≤ i then (l[i - k]?).map (fun x => .row x.1 x.2.1 x.2.2) else none
 | [], k, i => by simp [trieOf, Trie.get]
 | x :: l, k, i => by
  rw [trieOf, Trie.get_set, trieOf_get l (k + 1) i]
  by_cases h : k = i
  ·subst h; simp
  ·rw [if_neg h]
   by_cases h2 : k + 1 ≤ i
   ·rw [if_pos h2, if_pos (by omega), show i - k = i - (k + 1) + 1 by omega]; simp
   ·rw [if_neg h2, if_neg (by omega)]
theorem canon_relW {r : Ren} {S : St} {w : World} {ids : List Nat} {rows : List CRow} (hw : RelW r S w) (hnd : ids.Nodup) (h : rowsR S ids ids = .ok rows) : RelW (canonR r w ids) (canonSt rows) w := by
 obtain ⟨hlen, hrows⟩ := rowsR_at h
 have hrow : ∀ {i ver : Nat} {x : Nat × Nat × Nat}, (canonR r w ids).row i ver = some x → ∃ id, ids[i]? = some id ∧ r.row id ver = some x := by
  intro i ver x hx;simp only [canonR] at hx;cases hi : ids[i]? with
  | none => rw [hi] at hx; cases hx
  | some id => rw [hi] at hx; exact ⟨id, rfl, hx⟩
 refine ⟨fun i ver x hx => ?_, fun i ver x i' ver' x' hx hx' e => ?_, fun b c hb => ?_, fun i o ho ver b n u hx => ?_, Nat.le_refl _, fun g cs h => by cases h⟩
 ·obtain ⟨id, h1, h2⟩ := hrow hx;exact ⟨by show i < rows.length; rw [hlen]; exact (List.getElem?_eq_some_iff.1 h1).1, (hw.dom _ _ _ h2).2⟩
 ·obtain ⟨id, h1, h2⟩ := hrow hx;obtain ⟨id', h1', h2'⟩ := hrow hx'
  have hid := hw.inj _ _ _ _ _ _ h2 h2' e;subst hid;exact (List.getElem?_inj (List.getElem?_eq_some_iff.1 h1).1 hnd).1 (h1.trans h1'.symm)
 ·simp only [canonR] at hb;split at hb
  ·cases hb
  ·rename_i hno
   simp only [snap, Nat.zero_le, if_true] at hb;split at hb
   ·rename_i c' e fz hc
    cases hb;refine ⟨⟨e, fz, hc⟩, fun i ver x hx he => hno ?_⟩;obtain ⟨id, h1, h2⟩ := hrow hx;exact ⟨id, List.mem_of_getElem? h1, ver, x, h2, he⟩
   ·cases hb
 ·obtain ⟨id, h1, h2⟩ := hrow hx
  have hg : (trieOf 0 rows).get i = some o := ho;rw [trieOf_get, if_pos (Nat.zero_le _), Nat.sub_zero] at hg;obtain ⟨y, hy, rfl⟩ := Option.map_eq_some_iff.1 hg;obtain ⟨id', h3, h4⟩ := hrows i y hy;cases h1.symm.trans h3;unfold canonRow at h4;split at h4
  ·rename_i cs u' fl hS
   obtain ⟨ds, h5, h6⟩ := bind_ok h4;cases h6;obtain ⟨m1, m2⟩ := mapR_rel h5;obtain ⟨k1, k2, k3⟩ := hw.obj _ _ hS _ _ _ _ h2;refine ⟨k1, by show ver ≤ ds.length; rw [m1]; exact k2, fun hf => ?_⟩;obtain ⟨c, e, a1, a2, a3, a4⟩ := k3 hf;refine ⟨c, e, a1, a2, a3, fun j v x hj hv hx => ?_⟩;obtain ⟨v0, b1, b2⟩ := m2 j v hv;exact canonV_rel hw 4 (a4 j v0 x hj b1 hx) b2
  ·cases h4
def reifyHi (m : Nat) : Nat → St → AV → R AV
 | 0, _, _ => .error "reify depth"
 | n + 1, S, v =>
  match v with
  | .lit x => .ok (.lit x)
  | .slice id off ver _ len _ => bif Nat.ble m id then
    (rowOf S id).bind fun x => (loadN S id off ver (len * x.2.1)).bind fun cs => (mapR (reifyHi m n S) cs).bind fun ds => .ok (.tree x.2.1 len ds)
   else .error "reify old"
  | .tuple cs => (mapR (reifyHi m n S) cs).bind fun ds => .ok (.tuple ds)
  | _ => .error "reify"
theorem reifyHi_from {r : Ren} {S : St} {w : World} (m lo : Nat) (hw : RelW r S w) (hrow : ∀ id ver x, m ≤ id → r.row id ver = some x → lo ≤ x.1) :
  ∀ (n : Nat) {v t : AV} {x : Value}, RelV r v x → reifyHi m n S v = .ok t → RelV (snapR w lo) t x := by
 intro n
 induction n with
 | zero => intro v t x _ h; cases h
 | succ n ih =>
  intro v t x hv h
  have hl : ∀ {cs ds : List AV} {xs : List Value}, RelL r cs xs → mapR (reifyHi m n S) cs = .ok ds → RelL (snapR w lo) ds xs := by
   intro cs ds xs h1 h2;obtain ⟨h3, h4⟩ := mapR_rel h2;refine ⟨by rw [h3, h1.1], fun i d x hd hx => ?_⟩;obtain ⟨c, h5, h6⟩ := h4 i d hd;exact ih (h1.2 i c x h5 hx) h6
  unfold reifyHi at h;split at h
  ·cases h;rw [hv.lit_inv];exact .lit _
  ·rename_i id off ver ex len cap
   obtain ⟨hm, h⟩ := bif_ok h;obtain ⟨⟨cs0, u0, fl⟩, h1, h2⟩ := bind_ok h;obtain ⟨cs, h3, h4⟩ := bind_ok h2;obtain ⟨ds, h5, h6⟩ := bind_ok h4;cases h6;dsimp only at h3;cases hv with
   | slice hr hn hl' hc he =>
   obtain ⟨c, e, k1, k2, k3⟩ := loadN_rel hw hr h3
   have h7 := hl k3 h5
   have hlo := hrow _ _ _ (Nat.le_of_ble_eq_true hm) hr
   have hdl : ds.length = len * u0 := by have := h7.1; simp at this; omega
   refine .tree (u := u0) (c := c) hdl (by omega) (.inr ⟨by simp only at hlo; simp [snapR, snap, k1, hlo], by omega⟩) fun i v x a b => ?_
   refine h7.2 i v x a ?_
   have hi : i < ds.length := (List.getElem?_eq_some_iff.1 a).1;rw [List.getElem?_take, if_pos (by omega), List.getElem?_drop]
   simpa using b
  ·obtain ⟨ds, h5, h6⟩ := bind_ok h;cases h6;obtain ⟨xs, rfl, h1⟩ := hv.tuple_inv
   have := hl h1 h5;exact .tuple this.1 this.2
  ·cases h
def RunsAnew (E : Env) (f : FuncId) (args : List AV) (rows : List CRow) (t : AV) : Prop :=
 ∃ n v S', run E n (.call f args) (canonSt rows) = .ok (.ret v, S') ∧ rows.length ≤ S'.low ∧ reifyHi rows.length 12 S' v = .ok t
theorem anew_calls {E : Env} (hG : EnvGood E) {f : FuncId} {r : Ren} {S : St} {w : World} {ids : List Nat} {rows : List CRow} {args args' : List AV} {xs : List Value} {t : AV} (hw : RelW r S w) (hnd : ids.Nodup)
    (h : rowsR S ids ids = .ok rows) (ha : mapR (canonV S ids 4) args = .ok args') (hx : RelL r args xs) (hr : RunsAnew E f args' rows t) :
    CallsIn Fence.wide 0 E.P f xs.toArray w (fun e w1 => ∃ x r', e = .returned x ∧ Ext r S w r' S w1 ∧ RelV r' t x) := by
  obtain ⟨n, v, S', h1, h2, h3⟩ := hr
  have hc := canon_relW hw hnd h
  obtain ⟨m1, m2⟩ := mapR_rel ha
  have hxa : RelL (canonR r w ids) args' xs := ⟨by rw [m1, hx.1], fun i d x hd hxx => by
    obtain ⟨c, h5, h6⟩ := m2 i d hd
    exact canonV_rel hw 4 (hx.2 i c x h5 hxx) h6⟩
  refine ((run_sound hG n).call f args' _ v S' h1 _ w xs hc hxa).mono ?_
  rintro e w1 ⟨x, r', he, hX, hv⟩
  have hold : ∀ {id ver : Nat} {y : Nat × Nat × Nat}, (canonR r w ids).row id ver = some y → id < rows.length := fun hy => (hc.dom _ _ _ hy).1
  have hb : Below w.heap.size w w1 := ⟨hX.os, hX.tape, hX.output, hX.size, fun k hk => (hX.frame k hk).resolve_right fun ⟨id, ver, y, a1, a2, a3, _⟩ => by have := hold a1; omega⟩
  refine ⟨x, r.more w1 w.heap.size, he, hw.called hb hX.draws, RelV.mono (reifyHi_from rows.length w.heap.size hX.rel (fun id ver y hm hy => ?_) 12 hv h3) (more_snap hw)⟩
  rcases hX.fresh id ver y hy with a | ⟨_, a | ⟨ver0, z, a, _⟩⟩
  · have := hold a; omega
  · exact a
  · have := hold a; omega
end Go.Am
end
