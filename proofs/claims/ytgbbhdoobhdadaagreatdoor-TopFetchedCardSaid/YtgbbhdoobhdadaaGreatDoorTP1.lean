/- Part 1. -/
import Derived.Test.YtgbbhdoobhdadaaGreatDoorTP0
import Derived.Lib.ConvBytes
import Derived.Laws.BytesArg
import Derived.LoopNIn
import Derived.OrdersIn
import Derived.RangeFuncNested
import Derived.RecoverIn
import Derived.RangeFuncLeaves
import Derived.Lib.Bytealg
section
namespace Go.Am
open Go.RowKit
section
variable {E : Env} (hE : EnvOk E) {r : Ren} {S : St} {w : World}
include hE
omit hE in
theorem isSlice_rel {v : AV} {a : Value} (hv : RelV r v a) (h : isSlice v = true) : ∃ base len cap, a = .slice base len cap ∧ len ≤ cap := by
 cases hv with
 | slice hr hn hl hc he => exact ⟨_, _, _, rfl, by omega⟩
 | tree hl hc hi hv => exact ⟨_, _, _, rfl, hc⟩
 | empty => exact ⟨_, _, _, rfl, Nat.le_refl _⟩
 | tree0 => exact ⟨_, _, _, rfl, Nat.le_refl _⟩
 | lit => exact ⟨_, _, _, isSlice_lit h, Nat.le_refl _⟩
 | _ => cases h
theorem copy_rel (hw : RelW r S w) {argTypes : Array TypeId} {ty : TypeId} {s x v : AV} {a b : Value} {S' : St} (hs : RelV r s a) (hx : RelV r x b)
  (h : acopy E S argTypes [s, x] = .ok (v, S')) : Makes E.P r S w v S' (Builtin.copy_ argTypes ty #[a, b]) := by
 unfold acopy at h;split at h
 rotate_left
 ·cases h
 rename_i st s' x' ha hargs
 injection hargs with q1 q2
 injection q2 with q3 q4
 subst q1;subst q3;obtain ⟨d, h1, h2⟩ := bind_ok h
 have hd := ofOpt_ok h1;split at h2
 rotate_left
 ·cases h2
 rename_i e
 obtain ⟨sz, h3, h4⟩ := bind_ok h2;obtain ⟨sl, h5, h6⟩ := bind_ok h4;obtain ⟨dl, h7, h8⟩ := bind_ok h6;simp only at h8
 have e0 : (#[a, b] : Array Value)[0]? = some a := rfl
 have e1 : (#[a, b] : Array Value)[1]? = some b := rfl
 have hsl : (Builtin.lenOf b).run E.P w = .ok sl w := lenOf_rel hx h5
 have pre : ∀ (base : Option Addr) (cap : Nat) (cells : Array Value) (w' : World), a = .slice base dl cap → (Builtin.firstCells sz (Nat.min sl dl) b).run E.P w = .ok cells w →
   (match base with | some ad => (storeCells ad cells.toList).run E.P w = .ok () w' | none => w' = w) →
   (Builtin.copy_ argTypes ty #[a, b]).run E.P w = .ok (goInt (Nat.min sl dl)) w' := by
  intro base cap cells w' e hf hst;subst e;unfold Builtin.copy_;rw [ha, e0, e1];simp only [];rw [run_bind_ok (run_und hE hd w)];simp only [];rw [run_bind_ok hsl, run_bind_ok (run_siz hE (ofOpt_ok h3) w), run_bind_ok hf];cases base with
  | none => simp only at hst; subst hst; rfl
  | some ad => simp only at hst ⊢; rw [run_bind_ok hst]; rfl
 cases hz : Nat.beq (Nat.min sl dl) 0 with
 | true =>
  rw [hz, cond_true] at h8;obtain ⟨hsd, h9⟩ := bif_ok h8;cases h9
  have hz := beq_true hz;obtain ⟨base, len, cap, rfl, _⟩ := isSlice_rel hs hsd
  have hdl := lenOf_rel (P := E.P) (w := w) hs h7
  have e : len = dl := by
   have h6 : (Builtin.lenOf (.slice base len cap)).run E.P w = .ok len w := rfl;rw [h6] at hdl
   injection hdl
  subst e;obtain ⟨ys, hf, hys⟩ := first_zero (P := E.P) (w := w) hx h5 sz;subst hys;rw [hz] at pre ⊢;exact ⟨_, w, r, pre base cap #[] w rfl hf (by cases base <;> rfl), .refl hw, .lit _⟩
 | false =>
  rw [hz, cond_false] at h8
  have z1 := beq_false.1 hz;cases hz2 : Nat.beq sz 0 with
  | true => rw [hz2] at h8; cases h8
  | false =>
  rw [hz2, cond_false] at h8
  have z2 := beq_false.1 hz2;obtain ⟨cs, h9, h10⟩ := bind_ok h8;obtain ⟨ys, hf, hyr⟩ := firstN_rel (P := E.P) hw hx h9;split at h10
  ·rename_i id off ver ex len cap
   obtain ⟨hc, h11⟩ := bif_ok h10
   have hc := beq_true hc;obtain ⟨S1, h12, h13⟩ := bind_ok h11;cases h13;cases hs with
   | slice hr hn hl hcp he =>
   rename_i bl n u cap'
   cases h7
   have hne : cs ≠ [] := fun e => by
    rw [e] at hc
    have := Nat.mul_ne_zero z1 z2;simp at hc;omega
   obtain ⟨w', k1, k2⟩ := storeN_rel (P := E.P) hw hr h12 hyr hne;exact ⟨_, w', r, pre _ _ _ _ rfl (hf w rfl) k1, k2, .lit _⟩
  ·cases h10
theorem len_rel (hw : RelW r S w) {argTypes : Array TypeId} {ty : TypeId} {x v : AV} {b : Value} (hx : RelV r x b) (h : alen E S argTypes [x] = .ok v) :
  Gives E.P r w v (Builtin.len_ argTypes ty #[b]) := by
 unfold alen at h;split at h
 rotate_left
 ·cases h
 rename_i t x' ha hargs
 injection hargs with q1 q2
 subst q1;obtain ⟨d, h1, h2⟩ := bind_ok h
 have hd := ofOpt_ok h1
 have e0 : (#[b] : Array Value)[0]? = some b := rfl;unfold Gives Builtin.len_;rw [ha, e0];simp only [];rw [run_bind_ok (run_und hE hd w)];split at h2
 ·obtain ⟨hsl, h3⟩ := bif_ok h2;obtain ⟨n, h4, h5⟩ := bind_ok h3;cases h5;obtain ⟨base, len, cap, rfl, _⟩ := isSlice_rel hx hsl
  have := lenOf_rel (P := E.P) (w := w) hx h4
  have e : len = n := by
   have h6 : (Builtin.lenOf (.slice base len cap)).run E.P w = .ok len w := rfl;rw [h6] at this
   injection this
  subst e;exact ⟨_, rfl, .lit _⟩
 ·cases h2
  have e := hx.lit_inv;subst e;exact ⟨_, rfl, .lit _⟩
 ·cases h2;exact ⟨_, rfl, .lit _⟩
 ·obtain ⟨es, h3, h4⟩ := bind_ok h2;cases h4;unfold entriesOf at h3;split at h3
  ·cases h3
   have e := hx.lit_inv;subst e;exact ⟨_, rfl, .lit _⟩
  ·obtain ⟨⟨es', c⟩, h9, h10⟩ := bind_ok h3;cases h10;cases hx with
   | map hr =>
    obtain ⟨xs, h11, h12⟩ := map_rel hw hr h9;refine ⟨.int .i64 es.length, ?_, .lit _⟩;simp only [];rw [run_bind_ok (run_getMap h11)]
    have := h12.1;simp only [Array.length_toList] at this;simp only [this];rfl
  ·cases h3
 ·cases h2
omit hE in
theorem pureBuiltin_rel {s : Array Value → Sem Value} {args : List AV} {xs : List Value} {v : AV} (hx : RelL r args xs) (h : pureBuiltin E s args = .ok v) : Gives E.P r w v (s xs.toArray) := by
 obtain ⟨vs, h1, h2⟩ := bind_ok h;obtain ⟨y, h3, h4⟩ := bind_ok h2;cases h4
 have e := toV_rels 4 _ _ _ hx h1;subst e;exact ⟨y, pureVal_run (ofOpt_ok h3) w, ofV_rel r 4 y⟩
def Outcome (P : Program) (r : Ren) (S : St) (w : World) (S' : St) (m : Sem Next) : ANext → Prop
 | .val v => ∃ x w' r', (m.run P w = .ok (.value x) w' ∨ m.run P w = .ok .skip w' ∧ x = undef) ∧ Ext r S w r' S' w' ∧ RelV r' v x
 | .enter f args => S' = S ∧ ∃ xs : List Value, m.run P w = .ok (.enter f xs.toArray) w ∧ RelL r args xs
 | .thr v => S' = S ∧ m.run P w = .halt (.panic v) w
 | .round l args => S' = S ∧ ∃ (b n u : Nat) (xs : List Value), r.row l 0 = some (b, n, u) ∧ m.run P w = (Instr.yield b xs.toArray).run P w ∧ RelL r args xs
omit hE in
theorem Gives.out {P : Program} {v : AV} {m : Sem Value} (hw : RelW r S w) (h : Gives P r w v m) : Outcome P r S w S (do pure (Next.value (← m))) (.val v) := by
 obtain ⟨x, h1, h2⟩ := h;exact ⟨x, w, r, .inl (by rw [run_bind_ok h1]; rfl), .refl hw, h2⟩
omit hE in
theorem Makes.out {P : Program} {v : AV} {S' : St} {m : Sem Value} (h : Makes P r S w v S' m) : Outcome P r S w S' (do pure (Next.value (← m))) (.val v) := by
 obtain ⟨x, w', r', h1, h2, h3⟩ := h;exact ⟨x, w', r', .inl (by rw [run_bind_ok h1]; rfl), h2, h3⟩
omit hE in
theorem Does.out {P : Program} {S' : St} {m : Sem Unit} (h : Does P r S w S' m) : Outcome P r S w S' (do m; pure Next.skip) (.val undefA) := by
 obtain ⟨w', r', h1, h2⟩ := h;exact ⟨undef, w', r', .inr ⟨by rw [run_bind_ok h1]; rfl, rfl⟩, h2, .tuple (xs := []) rfl fun i v x h => by simp at h⟩
omit hE in
theorem valOf_ok {m : R AV} {nx : ANext} {S' : St} (h : valOf S m = .ok (nx, S')) : ∃ v, m = .ok v ∧ nx = .val v ∧ S' = S := by
 obtain ⟨v, h1, h2⟩ := bind_ok h;cases h2;exact ⟨v, h1, rfl, rfl⟩
omit hE in
theorem newOf_ok {m : R (AV × St)} {nx : ANext} {S' : St} (h : newOf m = .ok (nx, S')) : ∃ v, m = .ok (v, S') ∧ nx = .val v := by
 obtain ⟨⟨v, S1⟩, h1, h2⟩ := bind_ok h;cases h2;exact ⟨v, h1, rfl⟩
omit hE in
theorem done_ok {m : R St} {nx : ANext} {S' : St} (h : done m = .ok (nx, S')) : m = .ok S' ∧ nx = .val undefA := by
 obtain ⟨S1, h1, h2⟩ := bind_ok h;cases h2;exact ⟨h1, rfl⟩
omit hE in
theorem relL_map {ev : Operand → AV} {ρ : Operand → Value} (hev : ∀ x, RelV r (ev x) (ρ x)) (l : List Operand) : RelL r (l.map ev) (l.map ρ) := by
 induction l with
 | nil => exact .nil r
 | cons x l ih => exact .cons (hev x) ih
omit hE in
theorem relOpt_map {ev : Operand → AV} {ρ : Operand → Value} (hev : ∀ x, RelV r (ev x) (ρ x)) (o : Option Operand) : RelOpt r (o.map ev) (o.map ρ) := by
 cases o with
 | none => trivial
 | some x => exact hev x
omit hE in
theorem relP_map {ev : Operand → AV} {ρ : Operand → Value} (hev : ∀ x, RelV r (ev x) (ρ x)) (l : List (Nat × Operand)) : RelP r (l.map fun x => (x.1, ev x.2)) (l.map fun x => (x.1, ρ x.2)) := by
 refine ⟨by simp, fun i p q h1 h2 => ?_⟩;rw [List.getElem?_map] at h1 h2;cases h : l[i]? with
 | none => simp [h] at h1
 | some y =>
  simp only [h, Option.map_some, Option.some.injEq] at h1 h2;subst h1;subst h2;exact ⟨rfl, hev _⟩
theorem call_rel (hw : RelW r S w) {ev : Operand → AV} {ρ : Operand → Value} (hev : ∀ x, RelV r (ev x) (ρ x)) {c : Call} {ty : TypeId} {nx : ANext} {S' : St}
  (h : acall E S ev c ty = .ok (nx, S')) : Outcome E.P r S w S' (do let d ← resolve ρ c ty; invoke d.target d.args) nx := by
 unfold acall at h
 have hargs : RelL r (c.args.toList.map ev) (c.args.toList.map ρ) := relL_map hev _
 have harr : c.args.map ρ = (c.args.toList.map ρ).toArray := by
  apply Array.ext';rw [Array.toList_map]
 split at h
 ·rename_i b hcal
  have hres : ∀ m : Sem Next, (do let d ← resolve ρ c ty; invoke d.target d.args) = m → True := fun _ _ => trivial
  have hrun : (do let d ← resolve ρ c ty; invoke d.target d.args).run E.P w = (builtin b c.argTypes ty (c.args.map fun | .const _ => true | _ => false) (c.args.map ρ)).run E.P w := by
   rw [run_bind_ok (a := { target := .builtin b c.argTypes ty (c.args.map fun | .const _ => true | _ => false), args := c.args.map ρ }) (w1 := w) (by unfold resolve; rw [hcal]; rfl)];rfl
  have out : ∀ {m : Sem Next} {nx : ANext}, (builtin b c.argTypes ty (c.args.map fun | .const _ => true | _ => false) (c.args.map ρ)) = m → Outcome E.P r S w S' m nx →
    Outcome E.P r S w S' (do let d ← resolve ρ c ty; invoke d.target d.args) nx := by
   intro m nx e ho;subst e;cases nx with
   | val v => obtain ⟨x, w', r', h1, h2, h3⟩ := ho; exact ⟨x, w', r', by rw [hrun]; exact h1, h2, h3⟩
   | enter f args => obtain ⟨h0, xs, h1, h2⟩ := ho; exact ⟨h0, xs, by rw [hrun]; exact h1, h2⟩
   | round l args => obtain ⟨h0, bl, n, u, xs, h1, h2, h3⟩ := ho; exact ⟨h0, bl, n, u, xs, h1, by rw [hrun]; exact h2, h3⟩
   | thr v => obtain ⟨h0, h1⟩ := ho; exact ⟨h0, by rw [hrun]; exact h1⟩
  unfold abuiltin at h;split at h
  ·obtain ⟨v, h1, h2⟩ := bind_ok h;cases h2;generalize c.args.toList.map ev = args at h1 hargs;generalize hxs : c.args.toList.map ρ = xs at hargs harr
   have : ∃ a, args = [a] := by
    unfold alen at h1;split at h1
    ·exact ⟨_, rfl⟩
    ·cases h1
   obtain ⟨a, rfl⟩ := this;obtain ⟨y, ys, rfl, hy, hys⟩ := hargs.cons_inv
   have := hys.nil_inv;subst this;exact out (by rw [harr]; rfl) (Gives.out hw (len_rel hE hw (ty := ty) hy h1))
  ·obtain ⟨⟨v, S1⟩, h1, h2⟩ := bind_ok h;cases h2;generalize c.args.toList.map ev = args at h1 hargs;generalize hxs : c.args.toList.map ρ = xs at hargs harr
   have : ∃ a b, args = [a, b] := by
    unfold aappend at h1;split at h1
    ·exact ⟨_, _, rfl⟩
    ·cases h1
   obtain ⟨a, b, rfl⟩ := this;obtain ⟨y, ys, rfl, hy, hys⟩ := hargs.cons_inv;obtain ⟨z, zs, rfl, hz, hzs⟩ := hys.cons_inv
   have := hzs.nil_inv;subst this;exact out (by rw [harr]; rfl) (Makes.out (append_rel hE hw (ty := ty) hy hz h1))
  ·obtain ⟨⟨v, S1⟩, h1, h2⟩ := bind_ok h;cases h2;generalize c.args.toList.map ev = args at h1 hargs;generalize hxs : c.args.toList.map ρ = xs at hargs harr
   have : ∃ a b, args = [a, b] := by
    unfold acopy at h1;split at h1
    ·exact ⟨_, _, rfl⟩
    ·cases h1
   obtain ⟨a, b, rfl⟩ := this;obtain ⟨y, ys, rfl, hy, hys⟩ := hargs.cons_inv;obtain ⟨z, zs, rfl, hz, hzs⟩ := hys.cons_inv
   have := hzs.nil_inv;subst this;exact out (by rw [harr]; rfl) (Makes.out (copy_rel hE hw (ty := ty) hy hz h1))
  ·obtain ⟨v, h1, h2⟩ := bind_ok h;cases h2;exact out (by rw [harr]; rfl) (Gives.out hw (pureBuiltin_rel hargs h1))
  ·obtain ⟨v, h1, h2⟩ := bind_ok h;cases h2;exact out (by rw [harr]; rfl) (Gives.out hw (pureBuiltin_rel hargs h1))
  ·cases h
 ·rename_i f hcal
  have hf := hev f
  have hres : (resolve ρ c ty) = Deferred.ofValue (ρ f) (c.args.map ρ) := by unfold resolve; rw [hcal]
  unfold acallee at h;split at h
  ·rename_i g first cap hg
   rw [hg] at hf;generalize hρ : ρ f = fv at hf hres;cases hf with
   | func h1 h2 hx hy =>
   rename_i xs ys
   split at h
   rotate_left
   ·obtain ⟨hh, hext, h⟩ := bind_ok h
    have hext := ofOpt_ok hext;obtain ⟨vs, k1, k2⟩ := bind_ok h;obtain ⟨v, k3, k4⟩ := bind_ok k2;cases k4
    have hvs := toV_rels 4 _ _ _ ((RelL.append ⟨h1, hx⟩ hargs).append ⟨h2, hy⟩) k1;refine ⟨v, w, r, .inl ?_, .refl hw, ofV_rel r 4 v⟩;rw [hres, run_bind_ok (a := { target := .fn (.func g) ys.toArray, args := xs.toArray ++ c.args.map ρ }) (w1 := w) rfl]
    have := hE.ext _ _ hext vs v (ofOpt_ok k3) w
    have e2 : vs.toArray = (xs.toArray ++ c.args.map ρ) ++ ys.toArray := by rw [hvs, harr]; simp
    rw [e2] at this;exact this
   rename_i fd hfd
   cases h;refine ⟨rfl, xs ++ c.args.toList.map ρ ++ ys, ?_, (RelL.append ⟨h1, hx⟩ hargs).append ⟨h2, hy⟩⟩;rw [hres, run_bind_ok (a := { target := .fn (.func g) ys.toArray, args := xs.toArray ++ c.args.map ρ }) (w1 := w) rfl]
   have := (hE.fn _ _ hfd).2 ((xs.toArray ++ c.args.map ρ) ++ ys.toArray) w
   have e2 : (xs ++ c.args.toList.map ρ ++ ys).toArray = (xs.toArray ++ c.args.map ρ) ++ ys.toArray := by rw [harr]; simp
   rw [e2];exact this
  ·rename_i l hg
   rw [hg] at hf;cases h;generalize hρ : ρ f = fv at hf hres;cases hf with
   | yield hr =>
   rename_i b n u
   refine ⟨rfl, b, n, u, c.args.toList.map ρ, hr, ?_, hargs⟩;rw [hres, run_bind_ok (a := { target := .fn (.yield b) #[], args := #[] ++ c.args.map ρ }) (w1 := w) rfl];rw [harr];simp only [Array.empty_append];rfl
  ·cases h
 ·cases h
omit hE in
theorem parts_arr {ρ : Operand → Value} (parts : Array (Nat × Operand)) : (parts.map fun (i, x) => (i, ρ x)) = (parts.toList.map fun x => (x.1, ρ x.2)).toArray := by
 apply Array.ext';rw [Array.toList_map]
omit hE in
theorem arr_map {ρ : Operand → Value} (xs : Array Operand) : xs.map ρ = (xs.toList.map ρ).toArray := by
 apply Array.ext';rw [Array.toList_map]
theorem und_tab {t : TypeId} {d : TypeDesc} (h : E.und t = some d) : E.P.underlying t = some d := by
 have := run_und hE h default
 have e : (underlying t).run E.P default = (match E.P.underlying t with | some d => Sem.pure d | none => stuck "no such type" : Sem TypeDesc).run E.P default := rfl;rw [e] at this;cases hu : E.P.underlying t with
 | none => rw [hu] at this; cases this
 | some d' => rw [hu] at this; cases this; rfl
omit hE in
theorem bytes_below (w : World) (e : TypeId) (s : ByteArray) : Below w.heap.size w (Lib.bytesWorld w e s) ∧ w.drawn ≤ (Lib.bytesWorld w e s).drawn := by
 refine ⟨⟨rfl, rfl, rfl, by rw [Lib.bytesWorld_size]; omega, fun j hj => Lib.bytesWorld_at_old w e s j hj⟩, ?_⟩
 show w.drawn ≤ w.drawn + 1;omega
omit hE in
theorem byteOf_rel {r : Ren} : ∀ {cs : List AV} {xs : List Value} {bs : List UInt8}, RelL r cs xs → mapR byteOf cs = .ok bs → ∃ ns : List Int, xs = ns.map (Value.int .u8) ∧ bs = ns.map fun n => UInt8.ofNat n.toNat := by
 intro cs
 induction cs with
 | nil => intro xs bs h1 h2; cases h2; exact ⟨[], h1.nil_inv, rfl⟩
 | cons c cs ih =>
  intro xs bs h1 h2;obtain ⟨y, ys, rfl, hy, hys⟩ := h1.cons_inv;obtain ⟨b, bs', rfl, hb, hbs⟩ := mapR_cons h2;obtain ⟨ns, rfl, rfl⟩ := ih hys hbs;unfold byteOf at hb;split at hb
  ·rename_i k
   cases hb;rw [hy.lit_inv];exact ⟨k :: ns, rfl, rfl⟩
  ·cases hb
theorem conv_rel (hw : RelW r S w) {src dst : TypeId} {x v : AV} {a : Value} (hx : RelV r x a) (h : aconv E S src dst x = .ok v) : Makes E.P r S w v S (convert src dst a) := by
 unfold aconv at h;split at h
 ·obtain ⟨y, h1, h2⟩ := pureOp_rel (w := w) hx h;exact ⟨y, w, r, h1, .refl hw, h2⟩
 have hni : True := trivial;split at h
 ·rename_i e hs hd
  split at h
  ·rename_i s he _
   cases h
   have e0 := hx.lit_inv;subst e0
   have hb := bytes_below w e s
   have x1 := hw.called hb.1 hb.2;refine ⟨_, _, _, Lib.run_convert_string_bytes w src dst e s (und_tab hE hs) (und_tab hE hd) (und_tab hE he), x1, ?_⟩
   have hcap : s.size ≤ grownCap w s.size 0 e := Nat.le_add_right _ _
   have hsnap : (r.more (Lib.bytesWorld w e s) w.heap.size).imm w.heap.size = some (Lib.bytesCells w e s) := by
    have hn : r.imm w.heap.size = none := by
     cases hi : r.imm w.heap.size with
     | none => rfl
     | some c =>
      obtain ⟨⟨e', fz, h1⟩, _⟩ := hw.imm _ _ hi
      have := (Array.getElem?_eq_some_iff.1 h1).1;omega
    simp [Ren.more, hn, snap, Lib.bytesWorld_at_new]
   refine .tree (c := Lib.bytesCells w e s) ?_ hcap (.inr ⟨hsnap, ?_⟩) fun i v y h1 h2 => ?_
   ·simp [bytesA]
   ·simp [bytesA, Lib.bytesCells]
   ·simp only [bytesA, List.getElem?_map] at h1;cases hg : s.data.toList[i]? with
    | none => rw [hg] at h1; cases h1
    | some b =>
     rw [hg] at h1;cases h1
     have hlt : i < s.data.size := by have := (List.getElem?_eq_some_iff.1 hg).1; simpa using this
     have hb' : s.data[i]? = some b := by simpa using hg
     have : (Lib.bytesCells w e s)[0 + i]? = some (.int .u8 b.toNat) := by
      simp only [Lib.bytesCells, Nat.zero_add];rw [Array.getElem?_append_left (by simpa using hlt)];simp [hb']
     rw [this] at h2;cases h2;exact .lit _
  ·cases h
 ·rename_i e hs hd
  split at h
  rotate_left
  ·cases h
  rename_i he
  obtain ⟨hsl, h1⟩ := bif_ok h;obtain ⟨n, h2, h3⟩ := bind_ok h1;obtain ⟨cs, h4, h5⟩ := bind_ok h3;obtain ⟨bs, h6, h7⟩ := bind_ok h5;cases h7;obtain ⟨ys, hf, hyr⟩ := firstN_rel (P := E.P) hw hx h4;obtain ⟨ns, e1, e2⟩ := byteOf_rel hyr h6
  have hlen : (Builtin.lenOf a).run E.P w = .ok n w := lenOf_rel hx h2;obtain ⟨base, len, cap, rfl, hlc⟩ := isSlice_rel hx hsl
  have hn : len = n := by
   have : (Builtin.lenOf (.slice base len cap)).run E.P w = .ok len w := rfl;rw [this] at hlen;cases hlen;rfl
  subst hn;refine ⟨_, w, r, ?_, .refl hw, .lit _⟩;rw [run_convert_bytes_string w src dst e _ len cap (und_tab hE hs) (und_tab hE he) (und_tab hE hd)];cases base with
  | none =>
   have h8 := hf w rfl
   have h9 : (Builtin.firstCells 1 len (.slice none len cap)).run E.P w = .ok #[] w := rfl;rw [h9] at h8;cases h8
   have : ns = [] := by cases ns with | nil => rfl | cons a l => cases e1
   subst this;rw [e2];rfl
  | some a =>
   have h8 := hf w rfl
   have h9 : (loadCells a len).run E.P w = .ok (ns.map (Value.int .u8)).toArray w := by
    have e3 : (Builtin.firstCells 1 len (.slice (some a) len cap)) = loadCells a (len * 1) := rfl;rw [e3, Nat.mul_one] at h8;rw [h8, ← e1]
   rw [run_bytesToString w a len cap ns h9, foldl_push_bytes, e2];simp [ByteArray.empty, ByteArray.emptyWithCapacity];rfl
 ·obtain ⟨y, h1, h2⟩ := pureOp_rel (w := w) hx h;exact ⟨y, w, r, h1, .refl hw, h2⟩
theorem range_rel (hw : RelW r S w) {t : TypeId} {x v : AV} {a : Value} {S' : St} (hx : RelV r x a) (h : arange E S t x = .ok (v, S')) : Makes E.P r S w v S' (Instr.range t a) := by
 obtain ⟨d, h1, h2⟩ := bind_ok h
 have hd := ofOpt_ok h1;split at h2
 ·rename_i s
  cases h2
  have e0 := hx.lit_inv;subst e0
  have x1 := hw.new (.str s 0) (.stringIter s 0) 0 0 0 ⟨rfl, by rw [World.alloc_get, if_pos rfl]⟩;refine ⟨.pointer (some ⟨w.heap.size, 0, none⟩), _, _, ?_, x1, .ptr (Ren.add_same _ _ _ _)⟩;unfold Instr.range;rw [run_bind_ok (run_und hE hd w)];simp only [];rw [run_bind_ok (a := Obj.stringIter s 0) (w1 := w) rfl, run_bind_ok (run_new w _)];rfl
 ·cases h2
omit hE in
theorem next_rel {P : Program} (hw : RelW r S w) {it v : AV} {a : Value} {b : Bool} {ty : TypeId} {S' : St} (hx : RelV r it a) (h : anext S it b = .ok (v, S')) : Makes P r S w v S' (Instr.next a b ty) := by
 unfold anext at h;cases b with
 | false => cases h
 | true =>
  simp only [cond_true] at h;split at h
  ·rename_i id
   split at h
   ·rename_i s pos hg
    cases hx with
    | ptr hr =>
    rename_i b n u
    obtain ⟨_, ho⟩ := hw.obj _ _ hg _ _ _ _ hr
    have hget : (getObj b).run P w = .ok (.stringIter s pos) w := by
     show (Sem.getObj b Sem.pure).run P w = _;simp only [Sem.run, ho]
    have hlt : b < w.heap.size := (hw.dom _ _ _ hr).2;cases hp : Nat.blt pos s.size with
    | true =>
     simp only [hp, cond_true] at h
     have hpos := blt_true.1 hp;cases h
     have x1 := hw.write (by simp only [St.live, hg]) hr (.str s (pos + (Utf8.decode s pos).2)) (.stringIter s (pos + (Utf8.decode s pos).2)) fun ver b1 n1 u1 h' => by
      have e := (hw.obj _ _ hg _ _ _ _ h').1;subst e;rw [hr] at h';cases h';exact ⟨rfl, World.putObj_heap_same hlt⟩
     refine ⟨_, _, r, ?_, x1, .tuple (xs := [.bool true, .int .i64 pos, .int .i32 (Utf8.decode s pos).1]) rfl (lit_rels r [.bool true, .int .i64 pos, .int .i32 (Utf8.decode s pos).1]).2⟩;unfold Instr.next;simp only [];rw [run_bind_ok hget];simp only [hpos, if_true];rw [run_bind_ok (w1 := w.putObj b (.stringIter s (pos + (Utf8.decode s pos).2))) (a := ()) ?_]
     ·rfl
     ·show (Sem.setObj b _ _).run P w = _;simp only [Sem.run, ho];rfl
    | false =>
     simp only [hp, cond_false] at h
     have hpos := blt_false.1 hp;cases h;refine ⟨_, w, r, ?_, .refl hw, .tuple (xs := [.bool false]) rfl (lit_rels r [.bool false]).2⟩;unfold Instr.next;simp only [];rw [run_bind_ok hget]
     have : ¬ pos < s.size := by omega
     simp only [this, if_false];rfl
   ·cases h
  ·cases h
theorem aop_rel (hw : RelW r S w) {ev : Operand → AV} {ρ : Operand → Value} (hev : ∀ x, RelV r (ev x) (ρ x)) {o : Oper} {nx : ANext} {S' : St}
  (h : aop E S ev o = .ok (nx, S')) : Outcome E.P r S w S' (execOp ρ o) nx := by
 unfold aop at h;unfold execOp;split at h
 ·rename_i x ho
  rw [ho];cases h;exact ⟨_, w, r, .inl rfl, .refl hw, hev x⟩
 ·rename_i x ho
  rw [ho];cases h;exact ⟨_, w, r, .inl rfl, .refl hw, hev x⟩
 ·rename_i c x y ho
  rw [ho];unfold apick at h;split at h
  ·rename_i t hc
   cases h
   have hc' := hev c;rw [hc] at hc'
   have e := hc'.lit_inv;refine ⟨if t then ρ x else ρ y, w, r, .inl ?_, .refl hw, ?_⟩
   ·simp only [e];rw [run_bind_ok (a := t) (w1 := w) rfl];rfl
   ·cases t
    ·exact hev y
    ·exact hev x
  ·cases h
 ·rename_i t x ho
  rw [ho];obtain ⟨v, h1, h2⟩ := bind_ok h;cases h2;exact Gives.out hw (load_rel hE hw (gpt_rel hw (hev x)) h1)
 ·rename_i t x v ho
  rw [ho];obtain ⟨h1, rfl⟩ := done_ok h;exact Does.out (store_rel hE hw (hev x) (hev v) h1)
 ·rename_i op xt x y yt ho
  rw [ho];obtain ⟨v, h1, rfl, rfl⟩ := valOf_ok h;exact Gives.out hw (abin_rel hE (hev x) (hev y) h1)
 ·rename_i c ho
  rw [ho];exact call_rel hE hw hev h
 ·rename_i s x f ho
  rw [ho];obtain ⟨v, h1, rfl, rfl⟩ := valOf_ok h;exact Gives.out hw (fieldAddr_rel hE (hev x) h1)
 ·rename_i t x ix ho
  rw [ho];obtain ⟨v, h1, rfl, rfl⟩ := valOf_ok h;exact Gives.out hw (indexAddr_rel hE (hev x) (hev ix) h1)
 ·rename_i x ho
  rw [ho];obtain ⟨v, h1, rfl, rfl⟩ := valOf_ok h
  have hx := hev x;unfold anilCheck at h1;split at h1
  ·rename_i e
   cases h1;rw [e] at hx;generalize hρ : ρ x = y at hx;simp only [hρ];cases hx with
   | ptr hr => exact ⟨_, w, r, .inl rfl, .refl hw, .ptr hr⟩
  ·rename_i e
   cases h1;rw [e] at hx;generalize hρ : ρ x = y at hx;simp only [hρ];cases hx with
   | tptr hi hv => exact ⟨_, w, r, .inl rfl, .refl hw, .tptr hi hv⟩
  ·rename_i e
   cases h1;rw [e] at hx;generalize hρ : ρ x = y at hx;simp only [hρ];cases hx with
   | func h1 h2 hx hy => exact ⟨_, w, r, .inl rfl, .refl hw, .func h1 h2 hx hy⟩
  ·cases h1
 ·rename_i t i ho
  rw [ho];obtain ⟨v, h1, rfl, rfl⟩ := valOf_ok h;exact Gives.out hw (extract_rel (hev t) h1)
 ·rename_i t ho
  rw [ho];obtain ⟨v, h1, rfl⟩ := newOf_ok h;exact Makes.out (alloc_rel hE hw h1)
 ·rename_i t x ho
  rw [ho];obtain ⟨v, h1, rfl⟩ := newOf_ok h;exact Makes.out (box_rel hw (hev x) h1)
 ·rename_i t parts ho
  rw [ho];obtain ⟨v, h1, rfl, rfl⟩ := valOf_ok h
  have hb := Gives.out hw (build_rel hE (w := w) (relP_map hev _) h1);rw [← parts_arr] at hb;exact hb
 ·rename_i t len parts ho
  rw [ho];obtain ⟨v, h1, rfl⟩ := newOf_ok h
  have hb := Makes.out (buildSlice_rel hE hw (relP_map hev _) h1);rw [← parts_arr] at hb;exact hb
 ·rename_i op t x ho
  rw [ho];obtain ⟨v, h1, rfl, rfl⟩ := valOf_ok h;exact Gives.out hw (pureOp_rel (hev x) h1)
 ·rename_i s d x ho
  rw [ho];obtain ⟨v, h1, rfl, rfl⟩ := valOf_ok h;exact Makes.out (conv_rel hE hw (hev x) h1)
 ·rename_i t x ho
  rw [ho];obtain ⟨v, h1, rfl, rfl⟩ := valOf_ok h;exact Gives.out hw (makeIface_rel hE (hev x) h1)
 ·rename_i fn first cap ho
  rw [ho];obtain ⟨v, h1, rfl, rfl⟩ := valOf_ok h;unfold amakeFunc at h1;split at h1
  ·cases h1
   have q1 := relL_map hev first.toList
   have q2 := relL_map hev cap.toList;refine ⟨_, w, r, .inl rfl, .refl hw, ?_⟩;rw [arr_map, arr_map];exact .func q1.1 q2.1 q1.2 q2.2
  ·cases h1
 ·rename_i t ro ho
  rw [ho];obtain ⟨v, h1, rfl⟩ := newOf_ok h;exact Makes.out (makeMap_rel hw hE (relOpt_map hev ro) h1)
 ·rename_i t l c ho
  rw [ho];obtain ⟨v, h1, rfl⟩ := newOf_ok h;exact Makes.out (makeSlice_rel hE hw (hev l) (hev c) h1)
 ·rename_i t x lo hi mx ho
  rw [ho];obtain ⟨v, h1, rfl, rfl⟩ := valOf_ok h;exact Gives.out hw (slice_rel hE hw (hev x) (relOpt_map hev lo) (relOpt_map hev hi) (relOpt_map hev mx) h1)
 ·rename_i t x f ho
  rw [ho];obtain ⟨v, h1, rfl, rfl⟩ := valOf_ok h;exact Gives.out hw (field_rel hE (hev x) h1)
 ·rename_i t x ix ho
  rw [ho];obtain ⟨v, h1, rfl, rfl⟩ := valOf_ok h;exact Gives.out hw (index_rel hE (hev x) (hev ix) h1)
 ·rename_i t m k ok ho
  rw [ho];obtain ⟨v, h1, rfl, rfl⟩ := valOf_ok h;exact Gives.out hw (lookup_rel hE hw (hev m) (hev k) h1)
 ·rename_i t m k v ho
  rw [ho];obtain ⟨h1, rfl⟩ := done_ok h;exact Does.out (update_rel hE hw (hev m) (hev k) (hev v) h1)
 ·rename_i t m k v ho
  rw [ho];obtain ⟨h1, rfl⟩ := done_ok h;exact Does.out (update_rel hE hw (hev m) (hev k) (hev v) h1)
 ·rename_i t m k ho
  rw [ho];obtain ⟨v, h1, rfl⟩ := newOf_ok h;exact Makes.out (entry_rel hE hw (hev m) (hev k) h1)
 ·rename_i t m s x ho
  rw [ho];obtain ⟨h1, rfl⟩ := done_ok h;exact Does.out (entryStore_rel hw (hev m) (hev s) (hev x) h1)
 ·rename_i x xt t ok ho
  rw [ho];obtain ⟨v, h1, rfl, rfl⟩ := valOf_ok h;exact Gives.out hw (assert_rel hE (hev x) h1)
 ·rename_i t x ho
  rw [ho];obtain ⟨v, h1, rfl⟩ := newOf_ok h;exact Makes.out (range_rel hE hw (hev x) h1)
 ·rename_i it isString ho
  rw [ho];obtain ⟨v, h1, rfl⟩ := newOf_ok h;exact Makes.out (next_rel hw (hev it) h1)
 ·rename_i x ho
  rw [ho];unfold apanic at h;split at h
  ·rename_i t v hx
   obtain ⟨u, h1, h2⟩ := bind_ok h;cases h2
   have hx' := hev x;rw [hx] at hx';generalize hρ : ρ x = y at hx';cases hx' with
   | iface hv =>
    have := toV_rel 4 hv h1;subst this;exact ⟨rfl, by simp only [hρ]; rfl⟩
  ·cases h
 ·cases h
end
end Go.Am
end
section
namespace Go.Am
open Go.RowKit
def noGoto (Q : Exit → Act → World → Prop) : Exit → Act → World → Prop
 | .goto _, _, _ => False
 | e, a, w => Q e a w
section
variable {F : Fence} {n : Nat} {P : Program} {Q : Exit → Act → World → Prop} {a : Act} {w : World} {b : Frame} {k : List Item} {cs : List Frame}
theorem stepR_scope {c : Code} : step P (lone (b.atR a (.code (.scope c) :: k)) cs w) = .next (lone (b.atR a (.code c :: .inScope c :: k)) cs w) :=
 step_lone_go (by simp [stepG, stepG.exec, Frame.atR])
theorem stepR_inScope {c : Code} : step P (lone (b.atR a (.inScope c :: k)) cs w) = .next (lone (b.atR a k) cs w) :=
 step_lone_go (by simp [stepG, stepG.exec, Frame.atR])
theorem wpIn_scope_straight {c : Code} (h : c.wpIn F n P (noGoto Q) a w) : (Code.scope c).wpIn F n P Q a w := by
  intro b k cs hro hb hr
  have h0 : (lone (b.atR a (.code (.scope c) :: k)) cs w).fenced P F := fenced_calm hb hr rfl
  obtain ⟨e, a₁, w₁, hq, harr⟩ := h b (.inScope c :: k) cs hro hb hr
  cases e with
  | normal => exact ⟨.normal, a₁, w₁, hq, .head h0 stepR_scope (StepsIn.trans harr (.one (fenced_calm hb hr rfl) stepR_inScope))⟩
  | exit id =>
    have hx : exitTo id (.inScope c :: k) = exitTo id k := by simp [exitTo]
    exact ⟨.exit id, a₁, w₁, hq, fun k' hk => .head h0 stepR_scope (harr.1 k' (by rw [hx]; exact hk)),
      fun hr' hk => let ⟨k₁, h1, h2⟩ := harr.2 hr' (by rw [hx]; exact hk); ⟨k₁, h1, .head h0 stepR_scope h2⟩⟩
  | goto l => exact hq.elim
  | ret => exact ⟨_, a₁, w₁, hq, .of_steps (.one h0 stepR_scope) harr⟩
  | panic ch => exact ⟨_, a₁, w₁, hq, .of_steps (.one h0 stepR_scope) harr⟩
  | outgrown => exact ⟨_, a₁, w₁, hq, .of_steps (.one h0 stepR_scope) harr⟩
end
def RelD (r : Ren) : Dfr → Deferred → Prop
 | .mark m, d => ∃ x, r.row m 0 = some x ∧ d = { target := .collected x.1, args := #[] }
 | .call g args, d => ∃ xs ys : List Value, d = { target := .fn (.func g) ys.toArray, args := xs.toArray } ∧ RelL r args (xs ++ ys)
theorem RelD.mono {r r' : Ren} {m : Dfr} {d : Deferred} (h : RelD r m d) (hr : r.le r') : RelD r' m d := by
 cases m with
 | mark m => obtain ⟨x, h1, h2⟩ := h; exact ⟨x, hr.row _ _ _ h1, h2⟩
 | call g args => obtain ⟨xs, ys, h1, h2⟩ := h; exact ⟨xs, ys, h1, h2.mono hr⟩
structure RelA (r : Ren) (a : AAct) (act : Act) : Prop where
 size : act.tmps.size = a.n
 get : ∀ t, RelV r (a.get t) (act.tmps.getD t undef)
 marks : act.defers.length = a.marks.length ∧ ∀ (i : Nat) (m : Dfr) (d : Deferred), a.marks[i]? = some m → act.defers[i]? = some d → RelD r m d
theorem RelA.mono {r r' : Ren} {a : AAct} {act : Act} (h : RelA r a act) (hr : r.le r') : RelA r' a act :=
 ⟨h.size, fun t => (h.get t).mono hr, h.marks.1, fun i m d h1 h2 => (h.marks.2 i m d h1 h2).mono hr⟩
theorem RelA.ev {r : Ren} {a : AAct} {act : Act} (h : RelA r a act) (x : Operand) : RelV r (a.ev x) (act.eval x) := by
 cases x with
 | tmp t => exact h.get t
 | const v => exact ofV_rel r 4 v
 | global g => exact .lit _
 | func f => exact .func (xs := []) (ys := []) rfl rfl (fun i v x h => by simp at h) (fun i v x h => by simp at h)
theorem undef_rel (r : Ren) : RelV r undefA undef := .tuple (xs := []) rfl fun i v x h => by simp at h
theorem put_ok {a a1 : AAct} {dst : Option Tmp} {v : AV} (h : a.put dst v = .ok a1) : a1.n = a.n ∧ a1.marks = a.marks ∧ a1.rnd = a.rnd ∧
  (∀ t, a1.get t = if dst = some t then v else a.get t) ∧ (∀ d, dst = some d → d < a.n) := by
 unfold AAct.put at h;cases dst with
 | none => cases h; exact ⟨rfl, rfl, rfl, fun t => by simp, fun d hd => by cases hd⟩
 | some d =>
  obtain ⟨hlt, h1⟩ := bif_ok h;cases h1;refine ⟨rfl, rfl, rfl, fun t => ?_, fun d' hd => by cases hd; exact blt_true.1 hlt⟩;simp only [AAct.get, Trie.get_set, Option.some.injEq]
  by_cases hd : d = t
  ·simp [hd]
  ·simp [hd]
theorem RelA.put {r : Ren} {a a1 : AAct} {act : Act} {dst : Option Tmp} {v : AV} {x : Value} (h : RelA r a act) (hp : a.put dst v = .ok a1) (hv : RelV r v x) : RelA r a1 (act.put dst x) := by
 obtain ⟨h1, h2, h3, h4, h5⟩ := put_ok hp;refine ⟨?_, fun t => ?_, ?_⟩
 ·rw [h1, ← h.size]; cases dst <;> simp [Act.put]
 ·rw [h4];cases dst with
  | none => simpa [Act.put] using h.get t
  | some d =>
   have hlt := h5 d rfl;rw [← h.size] at hlt;simp only [Act.put, Option.some.injEq]
   by_cases hd : d = t
   ·subst hd;simp only [if_true]
    have : (act.tmps.setIfInBounds d x).getD d undef = x := by simp [hlt]
    rw [this];exact hv
   ·simp only [if_neg hd]
    have : (act.tmps.setIfInBounds d x).getD t undef = act.tmps.getD t undef := by simp [Array.getElem?_setIfInBounds_ne hd]
    rw [this];exact h.get t
 ·rw [h2]; cases dst <;> exact h.marks
theorem yielded_rel {r : Ren} {a : AAct} {act : Act} (h : RelA r a act) (ops : Array Oper) : yieldedA ops a = yielded ops act.tmps := by
 funext j
 unfold yieldedA yielded;cases hd : (ops[j]?).bind (·.dst) with
 | none => rfl
 | some t =>
  have hg := h.get t;simp only [Option.bind_some];cases hx : act.tmps[t]? with
  | none =>
   have : act.tmps.getD t undef = undef := by simp [hx]
   rw [this] at hg;generalize a.get t = v at hg;cases hg <;> rfl
  | some x =>
   have : act.tmps.getD t undef = x := by simp [hx]
   rw [this] at hg;generalize a.get t = v at hg;cases hg with
   | lit => cases x <;> rfl
   | _ => rfl
def fence (ro : Option Nat) : Fence := { fn := fun _ => True, depth := none, alive := false, round := ro }
def RelR (r : Ren) (a ro : Option Nat) : Prop :=
 match a, ro with
 | none, none => True
 | some l, some b => ∃ n u, r.row l 0 = some (b, n, u)
 | _, _ => False
theorem RelR.mono {r r' : Ren} {a ro : Option Nat} (h : RelR r a ro) (hr : r.le r') : RelR r' a ro := by
 cases a <;> cases ro <;> simp only [RelR] at h ⊢
 obtain ⟨n, u, h⟩ := h;exact ⟨n, u, hr.row _ _ _ h⟩
theorem callsIn_fence {P : Program} {f : FuncId} {args : Array Value} {w : World} {R : Ending → World → Prop} (h : CallsIn Fence.wide 0 P f args w R) (ro : Option Nat) :
  CallsIn (fence ro) 0 P f args w R := by
 cases ro with
 | none => exact h
 | some l => exact CallsIn.inRound l h
structure Sound (E : Env) (rec : Task → St → RR) : Prop where
 code : ∀ c a S e a' S', rec (.code c a) S = .ok (.exit e a', S') → codeOk c = true → a'.rnd = a.rnd ∧ a'.n = a.n ∧ ∀ r w act ro, RelW r S w → RelA r a act → RelR r a.rnd ro →
  c.wpIn (fence ro) 0 E.P (fun ex ac w1 => ex = e ∧ ∃ r', Ext r S w r' S' w1 ∧ RelA r' a' ac) act w
 call : ∀ f args S v S', rec (.call f args) S = .ok (.ret v, S') → ∀ r w xs, RelW r S w → RelL r args xs →
  CallsIn Fence.wide 0 E.P f xs.toArray w (fun e w1 => ∃ x r', e = .returned x ∧ Ext r S w r' S' w1 ∧ RelV r' v x)
 thr : ∀ f args S ch S', rec (.call f args) S = .ok (.thrown ch, S') → ∀ r w xs, RelW r S w → RelL r args xs →
  CallsIn Fence.wide 0 E.P f xs.toArray w (fun e w1 => e = .panicked ch ∧ ∃ r', Ext r S w r' S' w1)
 loop : ∃ m, ∀ c a S e a' S', rec (.code (.loop c) a) S = .ok (.exit e a', S') → codeOk c = true → ∀ r w act ro, RelW r S w → RelA r a act → RelR r a.rnd ro →
  Code.roundsIn (fence ro) 0 E.P c (fun ex ac w1 => ex = e ∧ ∃ r', Ext r S w r' S' w1 ∧ RelA r' a' ac) m act w
 noRet : ∀ c a S v S', rec (.code c a) S ≠ .ok (.ret v, S')
 noExit : ∀ f args S e a S', rec (.call f args) S ≠ .ok (.exit e a, S')
def GlobIn (G : List (Nat × List Value)) (w : World) : Prop := ∀ g cs, lookG G g = some cs → ∃ e fz, w.heap[g]? = some (.cells cs.toArray e fz)
theorem globIn_nil (w : World) : GlobIn [] w := fun g cs h => by cases h
def Meets (P : Program) (f : FuncId) (g : List AV → Option AV) (G : List (Nat × List Value) := []) : Prop :=
 ∀ (w : World), GlobIn G w → ∀ (args : List AV) (xs : List Value) (t : AV), args.length = xs.length → (∀ (i : Nat) (v : AV) (x : Value), args[i]? = some v → xs[i]? = some x → Reads w 0 v x) → g args = some t →
  Calls P f xs.toArray w fun e w' => ∃ x, e = .returned x ∧ Reads w' w.heap.size t x ∧ Below w.heap.size w w' ∧ w.drawn ≤ w'.drawn
def Effs (P : Program) (f : FuncId) (g : List AV → St → Option (AV × St)) : Prop :=
 ∀ (r : Ren) (S : St) (w : World) (args : List AV) (xs : List Value) (v : AV) (S' : St), RelW r S w → RelL r args xs → g args S = some (v, S') →
  CallsIn Fence.wide 0 P f xs.toArray w (fun e w1 => ∃ x r', e = .returned x ∧ Ext r S w r' S' w1 ∧ RelV r' v x)
structure EnvGood (E : Env) : Prop where
 ok : EnvOk E
 orc : ∀ f g, E.orc f = some g → Meets E.P f g (E.og f)
 body : ∀ f fn c, E.eff f = none → E.fn f = some fn → fn.body = some c → codeOk c = true
 mixed : E.P.follows .mixedOrders = true
 eff : ∀ f g, E.eff f = some g → Effs E.P f g := by intro f g h; cases h
end Go.Am
end
section
namespace Go.Am
open Go.RowKit
def snapR (w : World) (lo : Nat) : Ren := { row := fun _ _ => none, imm := snap w lo }
theorem bare_snap {r : Ren} {S : St} {w : World} (hw : RelW r S w) : r.bare.le (snapR w 0) := by
 refine ⟨fun id ver x h => by simp [Ren.bare] at h, fun b c h => ?_⟩;obtain ⟨⟨e, fz, hb⟩, _⟩ := hw.imm b c h;simp [snapR, snap, hb]
theorem mapR_rel {f : AV → R AV} : ∀ {cs ds : List AV}, mapR f cs = .ok ds → ds.length = cs.length ∧ ∀ (i : Nat) (d : AV), ds[i]? = some d → ∃ c, cs[i]? = some c ∧ f c = .ok d := by
 intro cs
 induction cs with
 | nil => intro ds h; cases h; exact ⟨rfl, fun i d h => by simp at h⟩
 | cons c cs ih =>
  intro ds h;obtain ⟨y, ys, rfl, h1, h2⟩ := mapR_cons h;obtain ⟨h3, h4⟩ := ih h2;refine ⟨by simp [h3], fun i d hd => ?_⟩;cases i with
  | zero => simp at hd; subst hd; exact ⟨c, rfl, h1⟩
  | succ i => simp at hd; simpa using h4 i d hd
theorem reify_rel {r : Ren} {S : St} {w : World} (hw : RelW r S w) : ∀ (n : Nat) {v t : AV} {x : Value}, RelV r v x → reify n S v = .ok t → RelV (snapR w 0) t x := by
 intro n
 induction n with
 | zero => intro v t x _ h; cases h
 | succ n ih =>
  intro v t x hv h
  have hl : ∀ {cs ds : List AV} {xs : List Value}, RelL r cs xs → mapR (reify n S) cs = .ok ds → RelL (snapR w 0) ds xs := by
   intro cs ds xs h1 h2;obtain ⟨h3, h4⟩ := mapR_rel h2;refine ⟨by rw [h3, h1.1], fun i d x hd hx => ?_⟩;obtain ⟨c, h5, h6⟩ := h4 i d hd;exact ih (h1.2 i c x h5 hx) h6
  unfold reify at h;split at h
  ·cases h;rw [hv.lit_inv];exact .lit _
  ·cases h;cases hv with
   | tree0 => exact .tree0
   | tree h1 h2 h3 h4 =>
    refine .tree h1 h2 (or_snd h3 fun k => ⟨?_, k.2⟩) fun i v x a b => (h4 i v x a b).mono (bare_snap hw)
    exact (bare_snap hw).imm _ _ k.1
  ·cases h;cases hv with
   | tptr h3 h4 =>
    refine .tptr (or_snd h3 fun k => ⟨?_, k.2⟩) fun i v x a b => (h4 i v x a b).mono (bare_snap hw)
    exact (bare_snap hw).imm _ _ k.1
  ·cases h;cases hv with
   | empty => exact .tree0
  ·rename_i id off ver ex len cap
   obtain ⟨⟨cs0, u, fl⟩, h1, h2⟩ := bind_ok h;obtain ⟨cs, h3, h4⟩ := bind_ok h2;obtain ⟨ds, h5, h6⟩ := bind_ok h4;cases h6;cases hv with
   | slice hr hn hl' hc he =>
   have hg : S.heap.get id = some (.row cs0 u fl) := rowOf_ok h1;obtain ⟨c, e, k1, k2, k3⟩ := loadN_rel hw hr h3
   have h7 := hl k3 h5
   have hdl : ds.length = len * u := by have := h7.1; simp at this; omega
   refine .tree (c := c) hdl (by omega) (.inr ⟨by simp [snapR, snap, k1], by omega⟩) fun i v x a b => ?_
   refine h7.2 i v x a ?_
   have hi : i < ds.length := (List.getElem?_eq_some_iff.1 a).1;rw [List.getElem?_take, if_pos (by omega), List.getElem?_drop]
   simpa using b
  ·rename_i id off ver
   obtain ⟨cs, h3, h4⟩ := bind_ok h;obtain ⟨ds, h5, h6⟩ := bind_ok h4;cases h6;cases hv with
   | ptr hr =>
   obtain ⟨c, e, k1, k2, k3⟩ := loadN_rel hw hr h3
   have h7 := hl k3 h5
   have hdl : ds.length = ver - off := by have := h7.1; simp at this; omega
   refine .tptr (c := c) (.inr ⟨by simp [snapR, snap, k1], by omega⟩) fun i v x a b => ?_
   refine h7.2 i v x a ?_
   have hi : i < ds.length := (List.getElem?_eq_some_iff.1 a).1;rw [List.getElem?_take, if_pos (by omega), List.getElem?_drop]
   simpa using b
  ·obtain ⟨ds, h5, h6⟩ := bind_ok h;cases h6;obtain ⟨xs, rfl, h1⟩ := hv.agg_inv
   have := hl h1 h5;exact .agg this.1 this.2
  ·obtain ⟨ds, h5, h6⟩ := bind_ok h;cases h6;obtain ⟨xs, rfl, h1⟩ := hv.tuple_inv
   have := hl h1 h5;exact .tuple this.1 this.2
  ·obtain ⟨d, h5, h6⟩ := bind_ok h;cases h6;cases hv with
   | iface h1 => exact .iface (ih h1 h5)
  ·cases h
theorem reifys_rel {r : Ren} {S : St} {w : World} (hw : RelW r S w) {n : Nat} {cs ds : List AV} {xs : List Value} (h1 : RelL r cs xs) (h2 : mapR (reify n S) cs = .ok ds) : RelL (snapR w 0) ds xs := by
 obtain ⟨h3, h4⟩ := mapR_rel h2;refine ⟨by rw [h3, h1.1], fun i d x hd hx => ?_⟩;obtain ⟨c, h5, h6⟩ := h4 i d hd;exact reify_rel hw n (h1.2 i c x h5 hx) h6
theorem more_snap {r : Ren} {S : St} {w w' : World} (hw : RelW r S w) : (snapR w' w.heap.size).le (r.more w' w.heap.size) := by
 refine ⟨fun id ver x h => by simp [snapR] at h, fun b c h => ?_⟩;simp only [Ren.more];cases hi : r.imm b with
 | none => exact h
 | some c' =>
  obtain ⟨⟨e, fz, hb⟩, _⟩ := hw.imm b c' hi
  have hlt : b < w.heap.size := (Array.getElem?_eq_some_iff.1 hb).1;simp only [snapR, snap] at h;rw [if_neg (by omega)] at h;cases h
theorem allLit_eq : ∀ {xs ys : List Value}, allLit xs ys = true → xs = ys
 | [], [], _ => rfl
 | x :: xs, y :: ys, h => by
  simp only [allLit, Bool.and_eq_true] at h;rw [sameLit_eq h.1, allLit_eq h.2]
 | [], _ :: _, h => by simp [allLit] at h
 | _ :: _, [], h => by simp [allLit] at h
theorem lookG_mem : ∀ {G : List (Nat × List Value)} {g : Nat} {cs : List Value}, lookG G g = some cs → (g, cs) ∈ G
 | [], _, _, h => by cases h
 | x :: l, g, cs, h => by
  unfold lookG at h;cases hb : Nat.beq x.1 g with
  | true =>
   have := Nat.eq_of_beq_eq_true hb;simp only [hb, cond_true, Option.some.injEq] at h;subst this;subst h;simp
  | false =>
   simp only [hb, cond_false] at h;exact List.mem_cons_of_mem _ (lookG_mem h)
theorem glob_rel {r : Ren} {S : St} {w : World} (hw : RelW r S w) {G : List (Nat × List Value)} (h : glbOk S.glb G = true) : GlobIn G w := fun g cs hg => by
 have h1 := List.all_eq_true.1 h _ (lookG_mem hg);simp only at h1;split at h1
 ·rename_i cs' hl
  have := allLit_eq h1;subst this;exact (hw.imm _ _ (hw.glb _ _ hl)).1
 ·cases h1
section
variable {E : Env} (hG : EnvGood E) {rec : Task → St → RR} (hR : Sound E rec) {r : Ren} {S : St} {w : World}
include hG hR
theorem callA_sim (hw : RelW r S w) {f : FuncId} {args : List AV} {xs : List Value} {v : AV} {S' : St} (ha : RelL r args xs) (h : callA rec E f args S = .ok (v, S')) :
  CallsIn Fence.wide 0 E.P f xs.toArray w (fun e w1 => ∃ x r', e = .returned x ∧ Ext r S w r' S' w1 ∧ RelV r' v x) := by
 unfold callA at h;split at h
 ·rename_i g hg
  obtain ⟨ds, h1, h2⟩ := bind_ok h;obtain ⟨t, h3, h4⟩ := bind_ok h2;obtain ⟨hgl, h5⟩ := bif_ok h4;cases h5
  have hds := reifys_rel hw ha h1
  have := hG.orc f g hg w (glob_rel hw hgl) ds xs v hds.1 hds.2 (ofOpt_ok h3);refine callsIn_wide.2 (this.mono fun e w' ⟨x, he, hr, hb, hd⟩ => ⟨x, _, he, hw.called hb hd, RelV.mono hr (more_snap hw)⟩)
 ·obtain ⟨⟨res, S2⟩, h1, h2⟩ := bind_ok h;split at h2
  ·rename_i v' S3 e
   cases e;cases h2;exact hR.call f args S v S' h1 r w xs hw ha
  ·cases h2
omit hG hR in
theorem setTmps_rel {n : Nat} : ∀ (ps : List Tmp) (args : List AV) (xs : List Value) (tmps t0 : Trie AV) (ys : Array Value), RelL r args xs → RelT r n tmps ys → setTmps n ps args tmps = .ok t0 →
  ps.length = xs.length ∧ RelT r n t0 ((ps.zip xs).foldl (fun (tmps : Array Value) (p : Tmp × Value) => tmps.setIfInBounds p.1 p.2) ys) := by
 intro ps
 induction ps with
 | nil =>
  intro args xs tmps t0 ys ha ht h;cases args with
  | nil => cases h; rw [ha.nil_inv]; exact ⟨rfl, ht⟩
  | cons a args => cases h
 | cons p ps ih =>
  intro args xs tmps t0 ys ha ht h;cases args with
  | nil => cases h
  | cons a args =>
   obtain ⟨y, ys', rfl, h1, h2⟩ := ha.cons_inv;obtain ⟨hlt, h3⟩ := bif_ok h
   have hlt := blt_true.1 hlt
   have ht' : RelT r n (tmps.set p a) (ys.setIfInBounds p y) := by
    refine ⟨by simp [ht.1], fun t => ?_⟩;rw [Trie.get_set]
    by_cases hp : p = t
    ·subst hp
     have : (ys.setIfInBounds p y).getD p undef = y := by simp [ht.1, hlt]
     rw [this]
     simpa using h1
    ·have : (ys.setIfInBounds p y).getD t undef = ys.getD t undef := by simp [Array.getElem?_setIfInBounds_ne hp]
     rw [this, if_neg hp];exact ht.2 t
   obtain ⟨h4, h5⟩ := ih args ys' _ t0 _ h2 ht' h3;exact ⟨by simp [h4], h5⟩
omit hG hR in
theorem loop_get {l : Nat} {o : AObj} (hw : RelW r S w) (h : S.heap.get l = some o) {b n u : Nat} (hr : r.row l 0 = some (b, n, u)) : RelO r 0 b n u w o := hw.obj _ _ h _ _ _ _ hr
omit hG hR in
theorem loopState_rel (hw : RelW r S w) {l : Nat} {st : LoopState} {jump : Option (Option Code)} {S' : St} {b n u : Nat} (hr : r.row l 0 = some (b, n, u)) (h : loopState S l st jump = .ok S') {lp : Loop}
  (hlp : w.heap[b]? = some (.loop lp)) : Ext r S w r S' (w.putObj b (.loop { lp with state := st, pending := match jump with | some j => j | none => lp.pending })) := by
 unfold loopState at h;split at h
 ·rename_i n0 tmps ps assign body st0 pending dfr hg
  cases h;obtain ⟨_, c1, c2, lp', h1, h2, h3, h4, h5, h6, h7, x, h8, h9⟩ := loop_get hw hg hr;rw [hlp] at h1;cases h1;refine hw.write (by simp only [St.live, hg]) hr _ _ fun ver b1 n1 u1 h' => ?_
  have e := (hw.obj _ _ hg _ _ _ _ h').1;subst e;rw [hr] at h';cases h';refine ⟨rfl, c1, c2, _, World.putObj_heap_same (hw.dom _ _ _ hr).2, rfl, ?_, h4, h5, h6, h7, x, h8, h9⟩;cases jump with
  | none => exact h3
  | some j => rfl
 ·cases h
omit hG hR in
theorem stateOf_rel (hw : RelW r S w) {l : Nat} {st : LoopState} {b n u : Nat} (hr : r.row l 0 = some (b, n, u)) (h : stateOf S l = .ok st) : ∃ lp : Loop, w.heap[b]? = some (.loop lp) ∧ lp.state = st := by
 unfold stateOf at h;split at h
 ·rename_i n0 tmps ps assign body st0 pending dfr hg
  cases h;obtain ⟨_, c1, c2, lp, h1, h2, _⟩ := loop_get hw hg hr;exact ⟨lp, h1, h2⟩
 ·cases h
omit hG hR in
theorem mustBe_ok {b : Bool} {m : String} {u : Unit} (h : mustBe b m = .ok u) : b = true := by
 cases b with
 | true => rfl
 | false => cases h
omit hG in
theorem aRound_sim (hw : RelW r S w) {l : Nat} {args : List AV} {xs : List Value} {v : AV} {S' : St} {b n u : Nat} (hr : r.row l 0 = some (b, n, u)) (ha : RelL r args xs)
  (h : aRound rec S l args = .ok (v, S')) (ro : Option Nat) : ∃ lp : Loop, w.heap[b]? = some (.loop lp) ∧ xs.length = lp.params.size ∧
   ∀ (R : Ending → World → Prop), (∀ x r' w', Ext r S w r' S' w' → RelV r' v x → R (.returned x) w') →
    RoundIn (fence ro) 0 E.P b lp.fn ((lp.params.zip xs.toArray).foldl (fun (tmps : Array Value) (p : Tmp × Value) => tmps.setIfInBounds p.1 p.2) lp.tmps) lp.assign lp.body w R := by
 unfold aRound at h;split at h
 rotate_left
 ·cases h
 rename_i n0 tmps ps assign body st0 pending dfr hg
 obtain ⟨t0, h1, h2⟩ := bind_ok h;obtain ⟨_, c1, c2, lp, k1, k2, k3, k4, k5, k6, k7, x, k8, k9⟩ := loop_get hw hg hr;obtain ⟨s1, s2⟩ := setTmps_rel ps args xs tmps t0 lp.tmps ha k7 h1;refine ⟨lp, k1, by rw [k4]; simpa using s1.symm, fun R hRR => ?_⟩;obtain ⟨⟨res, S1⟩, h3, h4⟩ := bind_ok h2;split at h4
 rotate_left
 ·cases h4
 rename_i a1 S1' heq
 cases heq;obtain ⟨q1, q2, q3⟩ := hR.code _ _ _ _ _ _ h3 c1
 have hzip : (lp.params.zip xs.toArray).foldl (fun (tmps : Array Value) (p : Tmp × Value) => tmps.setIfInBounds p.1 p.2) lp.tmps = (ps.zip xs).foldl (fun (tmps : Array Value) (p : Tmp × Value) => tmps.setIfInBounds p.1 p.2) lp.tmps := by
  rw [k4, ← Array.foldl_toList];simp
 rw [hzip, k5, k6]
 have hact : RelA r { n := n0, tmps := t0, marks := [], rnd := some l } { tmps := (ps.zip xs).foldl (fun (tmps : Array Value) (p : Tmp × Value) => tmps.setIfInBounds p.1 p.2) lp.tmps, defers := [] } :=
  ⟨s2.1, fun t => s2.2 t, rfl, fun i m d h => by simp at h⟩
 have hro : RelR r (some l) (some b) := ⟨n, u, hr⟩;refine roundIn_of_wpIn (F := fence ro) trivial ?_
 have hwp := q3 r w _ (some b) hw hact hro;refine wpIn_mono hwp fun ex ac w1 ⟨he, r1, x1, ha1⟩ => ?_
 subst he;obtain ⟨st, h5, h6⟩ := bind_ok h4;obtain ⟨uu, h7, h8⟩ := bind_ok h6
 have hready := of_decide_eq_true (mustBe_ok h7);subst hready;obtain ⟨S2, h9, h10⟩ := bind_ok h8;obtain ⟨⟨res2, S3⟩, h11, h12⟩ := bind_ok h10
 have hr1 := x1.sub.row _ _ _ hr;obtain ⟨lp1, l1, l2⟩ := stateOf_rel x1.rel hr1 h5
 have y1 := loopState_rel x1.rel hr1 h9 l1;simp only at y1;refine ⟨_, run_beginRound l1 l2, ?_⟩;split at h12
 rotate_left
 ·cases h12
 rename_i e2 a2 S3' heq
 cases heq;obtain ⟨p1, p2, p3⟩ := hR.code _ _ _ _ _ _ h11 c2
 have hro2 : RelR r1 a1.rnd (some b) := by rw [q1]; exact ⟨n, u, hr1⟩
 have hwp2 := p3 r1 _ ac (some b) y1.rel (ha1.mono y1.sub) hro2;refine wpIn_mono hwp2 fun ex2 ac2 w3 ⟨he2, r3, x3, ha3⟩ => ?_
 subst he2;obtain ⟨jump, h13, h14⟩ := bind_ok h12;obtain ⟨S4, h15, h16⟩ := bind_ok h14;cases h16
 have hr3 := x3.sub.row _ _ _ hr1;obtain ⟨lp3, l3⟩ : ∃ lp3 : Loop, w3.heap[b]? = some (.loop lp3) := by
  unfold loopState at h15;split at h15
  ·rename_i hg3
   obtain ⟨_, _, _, lp3, l3, _⟩ := loop_get x3.rel hg3 hr3;exact ⟨lp3, l3⟩
  ·cases h15
 have y3 := loopState_rel x3.rel hr3 h15 l3
 have yes := (x1.trans y1).trans (x3.trans y3)
 have fin : ∀ j, jump = j → ∃ v w', (Instr.endRound b j).run E.P w3 = .ok v w' ∧ R (.returned v) w' := by
  intro j hj;subst hj;refine ⟨_, _, run_endRound jump l3, hRR _ r3 _ ?_ (RelV.lit (r := r3) _)⟩
  have : (if jump.isNone = true then LoopState.ready else LoopState.done) = (bif jump.isNone then .ready else .done) := by cases jump <;> rfl
  rw [this];exact yes
 cases ex2 <;> simp only [jumpOf] at h13
 ·cases h13; exact fin none rfl
 ·cases h13; exact fin _ rfl
 ·cases h13; exact fin _ rfl
 ·cases h13; exact fin _ rfl
 ·cases h13
 ·cases h13
end
end Go.Am
end
section
namespace Go.Am
open Go.RowKit
section
variable {E : Env} (hG : EnvGood E) {rec : Task → St → RR} (hR : Sound E rec) {r : Ren} {S : St} {w : World}
include hG hR
theorem opVal_sim {ops : Array Oper} {i : Nat} {a : AAct} {act : Act} {v : AV} {S1 : St} {ro : Option Nat} (hw : RelW r S w) (ha : RelA r a act)
  (h : opVal rec E ops i a S = .ok (v, S1)) (Q : Exit → Act → World → Prop) (K : Act → World → Prop)
  (hK : ∀ x r1 w1, Ext r S w r1 S1 w1 → RelV r1 v x → K (act.put (dstAt ops i) x) w1) : wpOpIn (fence ro) 0 E.P ops Q i K act w := by
 unfold opVal at h;cases ho : ops[i]? with
 | none => rw [ho] at h; cases h
 | some o =>
 rw [ho] at h
 have hdst : dstAt ops i = o.dst := by simp [dstAt, ho]
 rw [hdst] at hK;simp only at h;unfold wpOpIn;simp only [ho];rw [← yielded_rel ha ops]
 by_cases hwant : Region.wanted o (yieldedA ops a) = true
 ·rw [hwant] at h;simp only [cond_true] at h;rw [if_pos hwant];refine ⟨fun _ _ => trivial, ?_⟩
  have hnd : ∀ c, o.op ≠ .defer c := by
   intro c hc;simp only [aop, hc] at h;cases h
  rw [Oper.semAt_eq _ _ _ hnd];cases hop : aop E S a.ev o with
  | error m => rw [hop] at h; cases h
  | ok x =>
   obtain ⟨nx, S2⟩ := x;rw [hop] at h
   have hout := aop_rel hG.ok hw (fun x => ha.ev x) hop;cases nx with
   | val v' =>
    cases h;obtain ⟨x, w', r', hrun, hx, hv⟩ := hout
    rcases hrun with hrun | ⟨hrun, rfl⟩
    ·rw [hrun];exact hK _ _ _ hx hv
    ·rw [hrun];exact hK _ _ _ hx hv
   | enter f args =>
    obtain ⟨rfl, xs, hrun, hxs⟩ := hout;rw [hrun];refine ⟨fun hc => (by cases hc), ?_⟩;refine (callsIn_fence (callA_sim hG hR hw hxs h) ro).mono ?_;rintro e w' ⟨x, r', rfl, hx, hv⟩;exact hK _ _ _ hx hv
   | round l args =>
    obtain ⟨rfl, b, n, u, xs, hr, hrun, hxs⟩ := hout;obtain ⟨lp, hl, hlen, hround⟩ := aRound_sim hR hw hr hxs h ro;rw [hrun, run_yield hl (by simpa using hlen)];refine ⟨fun hc => (by cases hc), ?_⟩;refine hround _ fun x r' w' hx hv => ?_
    exact hK _ _ _ hx hv
   | thr v => cases h
 ·rw [Bool.not_eq_true] at hwant;rw [hwant] at h;cases h;rw [if_neg (by rw [hwant]; exact Bool.false_ne_true)];exact ⟨fun _ _ => trivial, hK _ _ _ (.refl hw) (undef_rel r)⟩
theorem callX_sim (hw : RelW r S w) {f : FuncId} {args : List AV} {xs : List Value} {v : XV} {S' : St} (ha : RelL r args xs) (h : callX rec E f args S = .ok (v, S')) :
  (∃ v', v = .val v' ∧ CallsIn Fence.wide 0 E.P f xs.toArray w (fun e w1 => ∃ x r', e = .returned x ∧ Ext r S w r' S' w1 ∧ RelV r' v' x)) ∨
  ∃ ch, v = .thr ch ∧ CallsIn Fence.wide 0 E.P f xs.toArray w (fun e w1 => e = .panicked ch ∧ ∃ r', Ext r S w r' S' w1) := by
 unfold callX at h;split at h
 ·obtain ⟨⟨v', S1⟩, h1, h2⟩ := bind_ok h;cases h2;exact .inl ⟨v', rfl, callA_sim hG hR hw ha h1⟩
 ·obtain ⟨⟨res, S2⟩, h1, h2⟩ := bind_ok h;split at h2
  ·rename_i v' S3 e
   cases e;cases h2;exact .inl ⟨v', rfl, hR.call f args S v' S' h1 r w xs hw ha⟩
  ·rename_i ch S3 e
   cases e;cases h2;exact .inr ⟨ch, rfl, hR.thr f args S ch S' h1 r w xs hw ha⟩
  ·cases h2
def XOut (a : AAct) (dst : Option Tmp) (v : XV) (r : Ren) (S S1 : St) (w : World) (act : Act) (ex : Exit → Act → World → Prop) (K : Act → World → Prop) : Prop :=
 match v with
 | .val v => ∀ x r1 w1, Ext r S w r1 S1 w1 → RelV r1 v x → K (act.put dst x) w1
 | .dfr d => S1 = S ∧ a.rnd = none → ∀ dd, RelD r d dd → K ({ act with defers := dd :: act.defers }.put dst undef) w
 | .thr ch => ∀ r1 w1, Ext r S w r1 S1 w1 → ex (.panic ch) act w1
theorem xVal_sim {ops : Array Oper} {i : Nat} {a : AAct} {act : Act} {v : XV} {S1 : St} {ro : Option Nat} (hw : RelW r S w) (ha : RelA r a act) (hro : RelR r a.rnd ro)
  (h : xVal rec E ops i a S = .ok (v, S1)) (Q : Exit → Act → World → Prop) (K : Act → World → Prop)
  (hK : XOut a (dstAt ops i) v r S S1 w act Q K) : wpOpIn (fence ro) 0 E.P ops Q i K act w := by
 unfold xVal at h;cases ho : ops[i]? with
 | none => rw [ho] at h; cases h
 | some o =>
 rw [ho] at h
 have hdst : dstAt ops i = o.dst := by simp [dstAt, ho]
 rw [hdst] at hK;simp only at h;unfold wpOpIn;simp only [ho];rw [← yielded_rel ha ops]
 by_cases hwant : Region.wanted o (yieldedA ops a) = true
 ·rw [hwant] at h;simp only [cond_true] at h;rw [if_pos hwant];refine ⟨fun _ _ => trivial, ?_⟩;split at h
  ·rename_i c hc
   split at h
   rotate_left
   ·cases h
   rename_i hrnd
   obtain ⟨d, h1, h2⟩ := bind_ok h;cases h2;rw [hrnd] at hro;cases ro with
   | some b => exact hro.elim
   | none =>
   have hsem : o.semAt (fence none).round act.eval = execOp act.eval o := Oper.semAt_none act.eval o;rw [hsem];unfold adefer at h1;split at h1
   rotate_left
   ·cases h1
   rename_i f hcal
   split at h1
   rotate_left
   ·cases h1
   rename_i g first cap hg
   obtain ⟨fd, hfd, h2⟩ := bind_ok h1;cases h2
   have hf := ha.ev f;rw [hg] at hf;generalize hρ : act.eval f = fv at hf;cases hf with
   | func k1 k2 hx hy =>
   rename_i xs ys
   have hargs : RelL r (c.args.toList.map a.ev) (c.args.toList.map act.eval) := relL_map (fun x => ha.ev x) _
   have harr : c.args.map act.eval = (c.args.toList.map act.eval).toArray := by
    apply Array.ext';rw [Array.toList_map]
   have hrun : (execOp act.eval o).run E.P w = .ok (.defer { target := .fn (.func g) ys.toArray, args := xs.toArray ++ c.args.map act.eval }) w := by
    unfold execOp;rw [hc];simp only [];unfold resolve;rw [hcal];simp only [hρ];rfl
   rw [hrun];refine hK ⟨rfl, hrnd⟩ _ ⟨xs ++ c.args.toList.map act.eval, ys, ?_, ?_⟩
   ·rw [harr]; simp
   ·have := ((RelL.append ⟨k1, hx⟩ hargs).append ⟨k2, hy⟩)
    simpa using this
  ·rename_i hnd
   rw [Oper.semAt_eq _ _ _ hnd];cases hop : aop E S a.ev o with
   | error m => rw [hop] at h; cases h
   | ok x =>
    obtain ⟨nx, S2⟩ := x;rw [hop] at h
    have hout := aop_rel hG.ok hw (fun x => ha.ev x) hop;cases nx with
    | val v' =>
     cases h;obtain ⟨x, w', r', hrun, hx, hv⟩ := hout
     rcases hrun with hrun | ⟨hrun, rfl⟩
     ·rw [hrun];exact hK _ _ _ hx hv
     ·rw [hrun];exact hK _ _ _ hx hv
    | enter f args =>
     obtain ⟨rfl, xs, hrun, hxs⟩ := hout;rw [hrun];refine ⟨fun hc => (by cases hc), ?_⟩
     rcases callX_sim hG hR hw hxs h with ⟨v', rfl, hc⟩ | ⟨ch, rfl, hc⟩
     ·refine (callsIn_fence hc ro).mono ?_;rintro e w' ⟨x, r', rfl, hx, hv⟩;exact hK _ _ _ hx hv
     ·refine (callsIn_fence hc ro).mono ?_;rintro e w' ⟨rfl, r', hx⟩;exact hK _ _ hx
    | round l args =>
     obtain ⟨rfl, b, n, u, xs, hr, hrun, hxs⟩ := hout;obtain ⟨⟨v', S3⟩, h1, h2⟩ := bind_ok h;cases h2;obtain ⟨lp, hl, hlen, hround⟩ := aRound_sim hR hw hr hxs h1 ro;rw [hrun, run_yield hl (by simpa using hlen)];refine ⟨fun hc => (by cases hc), ?_⟩;refine hround _ fun x r' w' hx hv => ?_
     exact hK _ _ _ hx hv
    | thr v' =>
     obtain ⟨rfl, hrun⟩ := hout;cases h;rw [hrun];exact hK _ _ (.refl hw)
 ·rw [Bool.not_eq_true] at hwant;rw [hwant] at h;cases h;rw [if_neg (by rw [hwant]; exact Bool.false_ne_true)];exact ⟨fun _ _ => trivial, hK _ _ _ (.refl hw) (undef_rel r)⟩
omit hG hR in
theorem xSteps_act {ops : Array Oper} : ∀ (l : List Nat) {a a1 : AAct} {e : Exit} {S S1 : St}, xSteps rec E ops l a S = .ok ((e, a1), S1) → a1.rnd = a.rnd ∧ a1.n = a.n := by
 intro l
 induction l with
 | nil => intro a a1 e S S1 h; cases h; exact ⟨rfl, rfl⟩
 | cons i l ih =>
  intro a a1 e S S1 h;obtain ⟨⟨v, S2⟩, h1, h2⟩ := bind_ok h;cases v with
  | val v =>
   obtain ⟨a3, h5, h6⟩ := bind_ok h2;obtain ⟨p1, p2, p3, p4, p5⟩ := put_ok h5
   have := ih h6;exact ⟨this.1.trans p3, this.2.trans p1⟩
  | dfr d =>
   obtain ⟨a3, h5, h6⟩ := bind_ok h2;obtain ⟨p1, p2, p3, p4, p5⟩ := put_ok h5
   have := ih h6;exact ⟨this.1.trans p3, this.2.trans p1⟩
  | thr ch => cases h2; exact ⟨rfl, rfl⟩
theorem xSteps_sim {ops : Array Oper} {ro : Option Nat} {Q : Exit → Act → World → Prop} : ∀ (l : List Nat) {r : Ren} {a a1 : AAct} {e : Exit} {S S1 : St} {act : Act} {w : World},
  RelW r S w → RelA r a act → RelR r a.rnd ro → xSteps rec E ops l a S = .ok ((e, a1), S1) →
   (∀ r1 act1 w1, Ext r S w r1 S1 w1 → RelA r1 a1 act1 → Q e act1 w1) → wpOpsIn (fence ro) 0 E.P ops Q l act w := by
 intro l
 induction l with
 | nil =>
  intro r a a1 e S S1 act w hw ha hro h hQ;cases h;exact hQ _ _ _ (.refl hw) ha
 | cons i l ih =>
  intro r a a1 e S S1 act w hw ha hro h hQ;obtain ⟨⟨v, S2⟩, h1, h2⟩ := bind_ok h;rw [wpOpsIn_cons];refine xVal_sim hG hR hw ha hro h1 Q _ ?_;cases v with
  | val v =>
   obtain ⟨a3, h5, h6⟩ := bind_ok h2;intro x r1 w1 hx hv;refine ih hx.rel ((ha.mono hx.sub).put h5 hv) ?_ h6 fun r2 act1 w2 hx2 ha2 => hQ _ _ _ (hx.trans hx2) ha2
   rw [(put_ok h5).2.2.1];exact hro.mono hx.sub
  | dfr d =>
   obtain ⟨a3, h5, h6⟩ := bind_ok h2;rintro ⟨rfl, hrnd⟩ dd hd
   have ha' : RelA r { a with marks := d :: a.marks } { act with defers := dd :: act.defers } := by
    refine ⟨ha.size, ha.get, by simp [ha.marks.1], fun i m d' k1 k2 => ?_⟩;cases i with
    | zero => simp at k1 k2; subst k1 k2; exact hd
    | succ i => exact ha.marks.2 i m d' (by simpa using k1) (by simpa using k2)
   refine ih hw (ha'.put h5 (undef_rel r)) ?_ h6 hQ;rw [(put_ok h5).2.2.1];exact hro
  | thr ch =>
   cases h2;intro r1 w1 hx;exact hQ _ _ _ hx (ha.mono hx.sub)
end
end Go.Am
end
section
namespace Go.Am
open Go.RowKit
section
variable {E : Env} (hG : EnvGood E) {rec : Task → St → RR} (hR : Sound E rec) {r : Ren} {S : St} {w : World}
theorem pendingOf_rel (hw : RelW r S w) {l : Nat} {p : Option Code} {b n u : Nat} (hr : r.row l 0 = some (b, n, u)) (h : pendingOf S l = .ok p) {lp : Loop} (hlp : w.heap[b]? = some (.loop lp)) : lp.pending = p := by
 unfold pendingOf at h;split at h
 ·rename_i n0 tmps ps assign body st0 pending dfr hg
  cases h;obtain ⟨_, c1, c2, lp', h1, h2, h3, _⟩ := loop_get hw hg hr;rw [hlp] at h1;cases h1;exact h3
 ·cases h
theorem enterLoopA_rel (hw : RelW r S w) {a : AAct} {act : Act} {ro : Option Nat} (ha : RelA r a act) (hro : RelR r a.rnd ro) {d : Nat} {mark : List Dfr} {S1 : St}
    (h : enterLoopA S a = .ok (d, mark, S1)) (P : Program) (ps : Array Tmp) (assign body : Code) :
    ∃ (r1 : Ren) (w1 : World) (y : Nat × Nat × Nat) (ms : List Deferred), Ext r S w r1 S1 w1 ∧ r1.row d 0 = some y ∧
      (∀ fn, (Instr.enterLoop fn act.tmps ps assign body (fence ro).round).run P w =
        .ok (w1.heap.size, ms) (w1.alloc (.loop { state := .ready, pending := none, fn, tmps := act.tmps, params := ps, assign, body, defers := y.1 }))) ∧
      RelA r1 { n := a.n, tmps := a.tmps, marks := mark ++ a.marks, rnd := a.rnd } { act with defers := ms ++ act.defers } := by
  unfold enterLoopA at h
  cases hrnd : a.rnd with
  | none =>
    rw [hrnd] at h hro
    cases h
    cases ro with
    | some b => exact hro.elim
    | none =>
    have x := hw.new (.dfr true) (.deferred (some [])) 0 0 0 ⟨rfl, by rw [World.alloc_get, if_pos rfl]; rfl⟩
    refine ⟨_, _, _, [{ target := .collected w.heap.size, args := #[] }], x, Ren.add_same _ _ _ _, fun fn => ?_, ?_⟩
    · have := run_enterLoop_outer (P := P) (w := w) fn act.tmps ps assign body
      rw [World.alloc_size]
      exact this
    · have ha1 := ha.mono x.sub
      refine ⟨ha1.size, ha1.get, ?_, ?_⟩
      · simp [ha.marks.1]
      · intro i m d h1 h2
        cases i with
        | zero =>
          simp at h1 h2
          subst h1 h2
          exact ⟨_, Ren.add_same _ _ _ _, rfl⟩
        | succ i =>
          simp at h1 h2
          exact ha1.marks.2 i m d h1 h2
  | some l0 =>
    rw [hrnd] at h hro
    cases ro with
    | none => exact hro.elim
    | some b0 =>
    obtain ⟨n0, u0, hr0⟩ := hro
    simp only at h
    split at h
    · rename_i n1 tmps1 ps1 as1 bd1 st1 pd1 d1 hg
      cases h
      obtain ⟨_, c1, c2, lp, k1, k2, k3, k4, k5, k6, k7, x, k8, k9⟩ := loop_get hw hg hr0
      refine ⟨r, w, x, [], .refl hw, k8, fun fn => ?_, ?_⟩
      · have := run_enterLoop_inner (P := P) k1 fn act.tmps ps assign body
        rw [← k9]
        exact this
      · exact ⟨ha.size, ha.get, ha.marks.1, ha.marks.2⟩
    · cases h
include hG hR
theorem aRange_sim (hw : RelW r S w) {g : Operand} {ps : Array Tmp} {assign body : Code} {a a' : AAct} {act : Act} {ro : Option Nat} {e : Exit} {S' : St} (ha : RelA r a act) (hro : RelR r a.rnd ro)
  (h : aRange rec E S g ps assign body a = .ok (.exit e a', S')) (c1 : codeOk assign = true) (c2 : codeOk body = true) :
  (Code.rangeFunc g ps assign body).wpIn (fence ro) 0 E.P (fun ex ac w1 => ex = e ∧ ∃ r', Ext r S w r' S' w1 ∧ RelA r' a' ac) act w := by
 unfold aRange at h;obtain ⟨⟨d, mark, S1⟩, h1, h2⟩ := bind_ok h;obtain ⟨r1, w1, y, ms, x1, hy, hent, ha1⟩ := enterLoopA_rel hw ha hro h1 E.P ps assign body;refine wpIn_rangeFunc fun fn _ => ?_
 have hobj : ∀ r2 : Ren, r1.le r2 → RelO r2 0 w1.heap.size 0 0 (w1.alloc (.loop { state := .ready, pending := none, fn, tmps := act.tmps, params := ps, assign, body, defers := y.1 }))
   (.loop a.n a.tmps ps.toList assign body .ready none d) := by
  intro r2 hle;refine ⟨rfl, c1, c2, _, by rw [World.alloc_get, if_pos rfl], rfl, rfl, by simp, rfl, rfl, ⟨ha.size, fun t => ?_⟩, y, hle.row _ _ _ hy, rfl⟩;exact (ha1.mono hle).get t
 have hle : r1.le (r1.add S1.next 0 (w1.heap.size, 0, 0)) := by
  refine Ren.add_le (.inl ?_);cases hx : r1.row S1.next 0 with
  | none => rfl
  | some x => have := (x1.rel.dom _ _ _ hx).1; omega
 have x2 := x1.rel.new (.loop a.n a.tmps ps.toList assign body .ready none d) _ 0 0 0 (hobj _ hle)
 have hr2 : (r1.add S1.next 0 (w1.heap.size, 0, 0)).row S1.next 0 = some (w1.heap.size, 0, 0) := Ren.add_same _ _ _ _;simp only at h2
 have hg := ha.ev g;split at h2
 rotate_left
 ·cases h2
 rename_i f first cap hgv
 rw [hgv] at hg;obtain ⟨fd, hfd, h3⟩ := bind_ok h2;obtain ⟨⟨res, S3⟩, h4, h5⟩ := bind_ok h3;split at h5
 rotate_left
 ·cases h5
 rename_i v S3' heq
 cases heq;obtain ⟨st, k1, h6⟩ := bind_ok h5;obtain ⟨_, k2, h7⟩ := bind_ok h6;obtain ⟨pending, k3, h8⟩ := bind_ok h7;obtain ⟨S4, k4, h9⟩ := bind_ok h8;generalize hρ : act.eval g = gv at hg;cases hg with
 | func q1 q2 qx qy =>
 rename_i xs ys
 have hargs : RelL (r1.add S1.next 0 (w1.heap.size, 0, 0)) (first ++ [AV.yield S1.next] ++ cap) (xs ++ [Value.func (.yield w1.heap.size) #[] #[]] ++ ys) := by
  have m1 : r.le (r1.add S1.next 0 (w1.heap.size, 0, 0)) := x1.sub.trans x2.sub;refine RelL.append (RelL.append ⟨q1, fun i v x a b => (qx i v x a b).mono m1⟩ ⟨rfl, fun i v x a b => ?_⟩) ⟨q2, fun i v x a b => (qy i v x a b).mono m1⟩;cases i with
  | zero => simp at a b; subst a b; exact .yield hr2
  | succ i => simp at a
 refine ⟨_, _, _, { target := .fn (.func f) ys.toArray, args := xs.toArray ++ #[Value.func (.yield w1.heap.size) #[] #[]] }, w1.alloc (.loop { state := .ready, pending := none, fn, tmps := act.tmps, params := ps, assign, body, defers := y.1 }), f, (xs ++ [Value.func (.yield w1.heap.size) #[] #[]] ++ ys).toArray, w1.alloc (.loop { state := .ready, pending := none, fn, tmps := act.tmps, params := ps, assign, body, defers := y.1 }), hent fn, ?_, fun _ _ => trivial, ?_, fun hc => (by cases hc), ?_⟩
 ·unfold resolve
  have hm : Array.map act.eval #[Operand.const (Value.func (Fn.yield w1.heap.size) #[] #[])] = #[Value.func (Fn.yield w1.heap.size) #[] #[]] := by simp [Act.eval]
  simp only [hρ, hm];rfl
 ·have := (hG.ok.fn _ _ (ofOpt_ok hfd)).2 ((xs.toArray ++ #[Value.func (.yield w1.heap.size) #[] #[]]) ++ ys.toArray) (w1.alloc (.loop { state := .ready, pending := none, fn, tmps := act.tmps, params := ps, assign, body, defers := y.1 }))
  have e2 : (xs ++ [Value.func (.yield w1.heap.size) #[] #[]] ++ ys).toArray = (xs.toArray ++ #[Value.func (.yield w1.heap.size) #[] #[]]) ++ ys.toArray := by simp
  rw [e2];exact this
 ·refine (callsIn_fence (hR.call _ _ _ _ _ h4 _ _ _ x2.rel hargs) ro).mono ?_;rintro en w3 ⟨x, r3, rfl, x3, hv⟩
  have hr3 := x3.sub.row _ _ _ hr2;obtain ⟨lp, l1, l2⟩ := stateOf_rel x3.rel hr3 k1
  have l3 := pendingOf_rel x3.rel hr3 k3 l1
  have x4 := loopState_rel x3.rel hr3 k4 l1
  have hx := ((x1.trans x2).trans x3).trans x4
  have ha4 := ha1.mono (x2.trans x3).sub
  have hnb : lp.state ≠ .busy := by
   intro hb;rw [l2] at hb;subst hb
   have := mustBe_ok k2;simp at this
  refine ⟨lp.pending, _, run_endLoop l1 hnb, ?_⟩
  have hx' : Ext r S w r3 S4 (w3.putObj w1.heap.size (.loop { lp with state := .exhausted })) := hx
  clear hx x4
  revert hx'
  generalize w3.putObj w1.heap.size (.loop { lp with state := .exhausted }) = w4;intro hx;rw [l3];cases pending with
  | none =>
   cases h9;exact ⟨rfl, _, hx, ha4⟩
  | some c =>
   obtain ⟨e', k5, k6⟩ := bind_ok h9;cases k6;unfold jumpExit at k5;split at k5
   ·cases k5; exact wpIn_ret ⟨rfl, _, hx, ha4⟩
   ·cases k5; exact wpIn_exit ⟨rfl, _, hx, ha4⟩
   ·cases k5; exact wpIn_goto ⟨rfl, _, hx, ha4⟩
   ·cases k5
omit hG hR in
theorem aRange_act {g : Operand} {ps : Array Tmp} {assign body : Code} {a a' : AAct} {e : Exit} {S' : St} (h : aRange rec E S g ps assign body a = .ok (.exit e a', S')) : a'.rnd = a.rnd ∧ a'.n = a.n := by
 unfold aRange at h;obtain ⟨⟨d, mark, S1⟩, h1, h2⟩ := bind_ok h;simp only at h2;split at h2
 rotate_left
 ·cases h2
 obtain ⟨fd, hfd, h3⟩ := bind_ok h2;obtain ⟨⟨res, S3⟩, h4, h5⟩ := bind_ok h3;split at h5
 rotate_left
 ·cases h5
 obtain ⟨st, k1, h6⟩ := bind_ok h5;obtain ⟨_, k2, h7⟩ := bind_ok h6;obtain ⟨pending, k3, h8⟩ := bind_ok h7;obtain ⟨S4, k4, h9⟩ := bind_ok h8;cases pending with
 | none => cases h9; exact ⟨rfl, rfl⟩
 | some c => obtain ⟨e', k5, k6⟩ := bind_ok h9; cases k6; exact ⟨rfl, rfl⟩
end
end Go.Am
end
section
namespace Go.Am
open Go.RowKit
section
variable {E : Env} {r : Ren} {S : St} {w : World}
theorem enterTmps_get : ∀ (vs : List AV) (k : Nat) (t : Trie AV) (i : Nat), (enterTmps k vs t).get i = if k ≤ i ∧ i < k + vs.length then vs[i - k]? else t.get i := by
 intro vs
 induction vs with
 | nil => intro k t i; rw [if_neg (by simp only [List.length_nil]; omega)]; rfl
 | cons v vs ih =>
  intro k t i;rw [enterTmps, ih, Trie.get_set]
  by_cases h1 : k + 1 ≤ i ∧ i < k + 1 + vs.length
  ·rw [if_pos h1, if_pos (by simp; omega)]
   have : i - k = (i - (k + 1)) + 1 := by omega
   rw [this, List.getElem?_cons_succ]
  ·rw [if_neg h1]
   by_cases h2 : k = i
   ·subst h2;rw [if_pos rfl, if_pos (by simp)];simp
   ·rw [if_neg h2, if_neg (by simp; omega)]
theorem enter_rel {fn : Func} {args : List AV} {xs : List Value} (ha : RelL r args xs) :
  RelA r (enterAct fn args) { tmps := xs.toArray ++ Array.replicate (fn.ntmps - xs.toArray.size) undef, defers := [] } := by
 refine ⟨by simp [enterAct, ha.1], fun t => ?_, rfl, fun i m d h => by simp [enterAct] at h⟩;simp only [AAct.get, enterAct, enterTmps_get, Nat.zero_le, true_and, Nat.zero_add, Nat.sub_zero]
 by_cases ht : t < args.length
 ·rw [if_pos ht]
  have hx : t < xs.length := ha.1 ▸ ht
  have e1 : args[t]? = some args[t] := List.getElem?_eq_getElem ht
  have e2 : xs[t]? = some xs[t] := List.getElem?_eq_getElem hx;rw [e1]
  have := ha.2 t _ _ e1 e2
  simpa [Array.getElem?_append, hx] using this
 ·rw [if_neg ht]
  have hx : ¬ t < xs.length := fun h => ht (ha.1 ▸ h)
  have : (xs.toArray ++ Array.replicate (fn.ntmps - xs.toArray.size) undef).getD t undef = undef := by
   simp only [Array.getD_eq_getD_getElem?, Array.getElem?_append];rw [if_neg (by simpa using hx)]
   by_cases h3 : t - xs.toArray.size < fn.ntmps - xs.toArray.size
   ·rw [Array.getElem?_replicate, if_pos h3]; rfl
   ·rw [Array.getElem?_replicate, if_neg h3]; rfl
  rw [this];exact undef_rel r
theorem results_rel (hE : EnvOk E) (hw : RelW r S w) {a : AAct} {act : Act} (ha : RelA r a act) : ∀ (l : List ResultVar) {vs : List AV}, resultsOf E S a l = .ok vs →
  ∃ xs : List Value, (l.mapM (fun | .tmp t => pure (act.tmps.getD t undef) | .cell p t => do loadVar t (← asAddr (act.tmps.getD p undef))) : Sem (List Value)).run E.P w = .ok xs w ∧ RelL r vs xs := by
 intro l
 induction l with
 | nil => intro vs h; cases h; exact ⟨[], rfl, rfl, fun i v x h => by simp at h⟩
 | cons c l ih =>
  intro vs h
  have cons : ∀ {v : AV} {x : Value} {vs : List AV} {xs : List Value}, RelV r v x → RelL r vs xs → RelL r (v :: vs) (x :: xs) := by
   intro v x vs xs h1 h2;refine ⟨by simp [h2.1], fun i v' x' a b => ?_⟩;cases i with
   | zero => simp at a b; subst a b; exact h1
   | succ i => simp at a b; exact h2.2 i v' x' a b
  cases c with
  | tmp t =>
   obtain ⟨vs', h1, h2⟩ := bind_ok h;cases h2;obtain ⟨xs, h3, h4⟩ := ih h1;refine ⟨_ :: xs, ?_, cons (ha.get t) h4⟩;rw [List.mapM_cons];refine (run_bind_ok (a := act.tmps.getD t undef) (w1 := w) rfl).trans ?_;exact (run_bind_ok h3).trans rfl
  | cell p t =>
   obtain ⟨v, h0, h5⟩ := bind_ok h;obtain ⟨vs', h1, h2⟩ := bind_ok h5;cases h2;obtain ⟨xs, h3, h4⟩ := ih h1;obtain ⟨b, off, y, hx, k1, k2⟩ := loadVar_rel hE hw (ha.get p) h0;refine ⟨y :: xs, ?_, cons k2 h4⟩;rw [List.mapM_cons];refine (run_bind_ok (a := y) (w1 := w) ?_).trans ((run_bind_ok h3).trans rfl);simp only [hx];exact (run_bind_ok (a := (⟨b, off, none⟩ : Addr)) (w1 := w) rfl).trans k1
theorem finals_rel (hE : EnvOk E) (hw : RelW r S w) {a : AAct} {act : Act} (ha : RelA r a act) {fn : Func} {vs : List AV} (h : resultsOf E S a fn.results.toList = .ok vs) :
  ∃ x, (results fn act.tmps).run E.P w = .ok x w ∧ RelV r (oneOrTuple vs) x := by
 obtain ⟨xs, h1, h2⟩ := results_rel hE hw ha _ h;refine ⟨if h : xs.toArray.size = 1 then xs.toArray[0] else .tuple xs.toArray, ?_, ?_⟩
 ·unfold results;rw [Array.mapM_eq_mapM_toList]
  have : (Functor.map List.toArray (fn.results.toList.mapM (fun | .tmp t => pure (act.tmps.getD t undef) | .cell p t => do loadVar t (← asAddr (act.tmps.getD p undef))) : Sem (List Value))).run E.P w = .ok xs.toArray w := by
   rw [map_eq_pure_bind];exact (run_bind_ok h1).trans rfl
  exact (run_bind_ok this).trans rfl
 ·unfold oneOrTuple;split
  ·rename_i v
   have hl := h2.1
   match xs, hl with
   | [x], _ => exact h2.2 0 v x rfl rfl
  ·rename_i hne
   have : ¬ xs.toArray.size = 1 := by
    intro hs;simp at hs
    have := h2.1
    match vs, this.trans hs with
    | [v], _ => exact hne v rfl
   rw [dif_neg this];exact .tuple h2.1 h2.2
end
theorem wpSIn_mono {F : Fence} {n : Nat} {P : Program} {c : Code} {Q Q' : Exit → Act → List Frame → World → Prop} {a : Act} {cs : List Frame} {w : World} (h : c.wpSIn F n P Q a cs w)
  (hq : ∀ e a cs w, Q e a cs w → Q' e a cs w) : c.wpSIn F n P Q' a cs w :=
 fun b k hb hr hF hroom => let ⟨e, a', cs', w', l, q, r⟩ := h b k hb hr hF hroom; ⟨e, a', cs', w', l, hq _ _ _ _ q, r⟩
theorem recoverD_mode (c₀ : Frame) (cs : List Frame) (u : FrameMode) : recoverD ({ c₀ with mode := u } :: cs) = (recoverU u).map fun x => (x.1, { c₀ with mode := x.2 } :: cs) := by
 cases u with
 | panicking ch =>
  cases ch with
  | nil => rfl
  | cons x older =>
   obtain ⟨v, rc, gx⟩ := x;cases rc <;> cases gx <;> rfl
 | _ => rfl
theorem run_recover {P : Program} {o : Oper} {ρ : Operand → Value} (h : isRecover o = true) (w : World) : (execOp ρ o).run P w = .ok .recover w := by
 unfold isRecover at h;split at h
 ·rename_i c hc
  split at h
  ·rename_i hcal
   unfold execOp;rw [hc];simp only [];unfold resolve;rw [hcal];rfl
  ·cases h
 ·cases h
def ResD : Option (List PanicEntry) → Ending → Prop
 | none, e => ∃ v, e = .returned v
 | some ch, e => e = .panicked ch
section
variable {E : Env} (hG : EnvGood E) {rec : Task → St → RR} (hR : Sound E rec)
include hG
theorem dSteps_sim {ops : Array Oper} {c₀ : Frame} {cs : List Frame} {Q : Exit → Act → List Frame → World → Prop} : ∀ (l : List Nat) {r : Ren} {a a1 : AAct} {e : Exit} {u u1 : FrameMode} {S S1 : St} {act : Act} {w : World},
  RelW r S w → RelA r a act → dSteps E ops l a u S = .ok ((e, a1), u1, S1) →
   (∀ r1 act1 w1, Ext r S w r1 S1 w1 → RelA r1 a1 act1 → Q e act1 ({ c₀ with mode := u1 } :: cs) w1) → wpOpsSIn (fence none) 0 E.P ops Q l act ({ c₀ with mode := u } :: cs) w := by
 intro l
 induction l with
 | nil =>
  intro r a a1 e u u1 S S1 act w hw ha h hQ;cases h;exact hQ _ _ _ (.refl hw) ha
 | cons i l ih =>
  intro r a a1 e u u1 S S1 act w hw ha h hQ;unfold dSteps at h;unfold wpOpsSIn;cases ho : ops[i]? with
  | none => rw [ho] at h; cases h
  | some o =>
   rw [ho] at h;simp only at h ⊢;refine ⟨fun _ _ => trivial, ?_⟩;rw [← yielded_rel ha ops];cases hwant : Region.wanted o (yieldedA ops a) with
   | false =>
    rw [hwant] at h;obtain ⟨a2, h1, h2⟩ := bind_ok h;simp only [Bool.false_eq_true, if_false];exact ih hw (ha.put h1 (undef_rel r)) h2 hQ
   | true =>
    rw [hwant] at h;simp only [cond_true] at h;simp only [if_true];cases hrec : isRecover o with
    | true =>
     rw [hrec] at h;simp only [cond_true] at h;rw [run_recover hrec w];simp only [];rw [recoverD_mode];cases hu : recoverU u with
     | none =>
      rw [hu] at h;obtain ⟨a2, h1, h2⟩ := bind_ok h;simp only [Option.map_none];exact ih hw (ha.put h1 (.lit _)) h2 hQ
     | some x =>
      rw [hu] at h;obtain ⟨v, u2⟩ := x;obtain ⟨a2, h1, h2⟩ := bind_ok h;simp only [Option.map_some];exact ih hw (ha.put h1 (ofV_rel r 4 v)) h2 hQ
    | false =>
     rw [hrec] at h;simp only [cond_false] at h;cases hop : aop E S a.ev o with
     | error m => rw [hop] at h; cases h
     | ok x =>
      obtain ⟨nx, S2⟩ := x;rw [hop] at h;cases nx with
      | val v' =>
       obtain ⟨a2, h1, h2⟩ := bind_ok h
       have hout := aop_rel hG.ok hw (fun x => ha.ev x) hop;obtain ⟨x, w', r', hrun, hx, hv⟩ := hout
       rcases hrun with hrun | ⟨hrun, rfl⟩
       ·rw [hrun];exact ih hx.rel ((ha.mono hx.sub).put h1 hv) h2 fun r1 act1 w1 hx1 ha1 => hQ _ _ _ (hx.trans hx1) ha1
       ·rw [hrun];exact ih hx.rel ((ha.mono hx.sub).put h1 hv) h2 fun r1 act1 w1 hx1 ha1 => hQ _ _ _ (hx.trans hx1) ha1
      | _ => cases h
omit hG in
theorem dSteps_act {ops : Array Oper} : ∀ (l : List Nat) {a a1 : AAct} {e : Exit} {u u1 : FrameMode} {S S1 : St}, dSteps E ops l a u S = .ok ((e, a1), u1, S1) → a1.rnd = a.rnd := by
 intro l
 induction l with
 | nil => intro a a1 e u u1 S S1 h; cases h; rfl
 | cons i l ih =>
  intro a a1 e u u1 S S1 h;unfold dSteps at h
  have key : ∀ {d : Option Tmp} {v : AV} {u2 : FrameMode} {S2 : St}, ((a.put d v).bind fun a2 => dSteps E ops l a2 u2 S2) = .ok ((e, a1), u1, S1) → a1.rnd = a.rnd := by
   intro d v u2 S2 h;obtain ⟨a2, h1, h2⟩ := bind_ok h;exact (ih h2).trans (put_ok h1).2.2.1
  split at h
  ·cases h
  ·rename_i o ho
   cases hwant : Region.wanted o (yieldedA ops a) with
   | false => rw [hwant] at h; exact key h
   | true =>
    rw [hwant] at h;simp only [cond_true] at h;cases hrec : isRecover o with
    | true =>
     rw [hrec] at h;simp only [cond_true] at h;split at h <;> exact key h
    | false =>
     rw [hrec] at h;simp only [cond_false] at h;split at h
     ·exact key h
     ·cases h
include hR
omit hG in
theorem plainD_sim {c₀ : Frame} {cs : List Frame} {c : Code} {r : Ren} {a a' : AAct} {e : Exit} {u u' : FrameMode} {S S' : St} {act : Act} {w : World} (hc : codeOk c = true)
  (h : ((rec (.code c a) S).bind fun | (.exit e a1, S1) => .ok ((e, a1), u, S1) | _ => .error "deferred code" : R ((Exit × AAct) × FrameMode × St)) = .ok ((e, a'), u', S')) (hw : RelW r S w) (ha : RelA r a act) (hn : a.rnd = none) :
  a'.rnd = none ∧ c.wpSIn (fence none) 0 E.P (fun ex ac cs' w1 => ex = e ∧ cs' = { c₀ with mode := u' } :: cs ∧ ∃ r', Ext r S w r' S' w1 ∧ RelA r' a' ac) act ({ c₀ with mode := u } :: cs) w := by
 obtain ⟨⟨res, S1⟩, h1, h2⟩ := bind_ok h;split at h2
 ·rename_i e1 a1 S2 heq
  cases heq;cases h2;obtain ⟨q1, q2, q3⟩ := hR.code _ _ _ _ _ _ h1 hc;refine ⟨q1.trans hn, wpSIn_of_wpIn rfl ?_⟩;refine wpIn_mono (q3 r w act none hw ha (by rw [hn]; trivial)) fun ex ac w1 ⟨k1, k2⟩ => ⟨k1, rfl, k2⟩
 ·cases h2
theorem runD_sim {c₀ : Frame} {cs : List Frame} : ∀ (c : Code) {r : Ren} {a a' : AAct} {e : Exit} {u u' : FrameMode} {S S' : St} {act : Act} {w : World}, codeOk c = true → runD rec E c a u S = .ok ((e, a'), u', S') →
  RelW r S w → RelA r a act → a.rnd = none →
  a'.rnd = none ∧ c.wpSIn (fence none) 0 E.P (fun ex ac cs' w1 => ex = e ∧ cs' = { c₀ with mode := u' } :: cs ∧ ∃ r', Ext r S w r' S' w1 ∧ RelA r' a' ac) act ({ c₀ with mode := u } :: cs) w := by
 intro c
 induction c with
 | seq x y ihx ihy =>
  intro r a a' e u u' S S' act w hc h hw ha hn;simp only [codeOk, Bool.and_eq_true] at hc;unfold runD at h;obtain ⟨⟨⟨e1, a1⟩, u1, S1⟩, h1, h2⟩ := bind_ok h;obtain ⟨n1, w1⟩ := ihx hc.1 h1 hw ha hn
  by_cases he : e1 = .normal
  ·subst he;simp only at h2
   have hy : a'.rnd = none := by
    obtain ⟨_, _, _, _, _, q, _⟩ := w1 { (default : Frame) with kind := .deferred, roundOf := none } [] rfl rfl trivial (room_wide _);obtain ⟨_, _, r1, x1, ha1⟩ := q;exact (ihy hc.2 h2 x1.rel ha1 n1).1
   refine ⟨hy, wpSIn_seq (wpSIn_mono w1 fun ex ac cs' w2 q => ?_)⟩;obtain ⟨rfl, rfl, r1, x1, ha1⟩ := q;exact wpSIn_mono (ihy hc.2 h2 x1.rel ha1 n1).2 fun ex2 ac2 cs2 w3 ⟨k1, k2, r2, x2, ha2⟩ => ⟨k1, k2, r2, x1.trans x2, ha2⟩
  ·have : e = e1 ∧ a' = a1 ∧ u' = u1 ∧ S' = S1 := by
    cases e1 <;> first | exact absurd rfl he | (cases h2; exact ⟨rfl, rfl, rfl, rfl⟩)
   obtain ⟨rfl, rfl, rfl, rfl⟩ := this;refine ⟨n1, wpSIn_seq (wpSIn_mono w1 fun ex ac cs' w2 q => ?_)⟩
   have hq := q;obtain ⟨rfl, _, _⟩ := q;cases ex <;> first | exact absurd rfl he | exact hq
 | cond g x y ihx ihy =>
  intro r a a' e u u' S S' act w hc h hw ha hn;simp only [codeOk, Bool.and_eq_true] at hc;unfold runD at h;split at h
  ·rename_i b hb
   have hv := ha.ev g;rw [hb] at hv;cases b with
   | true =>
    obtain ⟨n1, w1⟩ := ihx hc.1 h hw ha hn;exact ⟨n1, wpSIn_cond (t := true) hv.lit_inv w1⟩
   | false =>
    obtain ⟨n1, w1⟩ := ihy hc.2 h hw ha hn;exact ⟨n1, wpSIn_cond (t := false) hv.lit_inv w1⟩
  ·cases h
 | region id ops draw =>
  intro r a a' e u u' S S' act w hc h hw ha hn;unfold runD at h;cases hany : ops.toList.any isRecover with
  | false =>
   rw [hany] at h;exact plainD_sim hR hc h hw ha hn
  | true =>
   rw [hany] at h;cases draw with
   | true => cases h
   | false =>
    simp only [cond_true, cond_false] at h;refine ⟨(dSteps_act _ h).trans hn, wpSIn_region ?_⟩;exact dSteps_sim hG _ hw ha h fun r1 act1 w1 x1 ha1 => ⟨rfl, rfl, r1, x1, ha1⟩
 | skip => intro r a a' e u u' S S' act w hc h hw ha hn; unfold runD at h; exact plainD_sim hR hc h hw ha hn
 | block id c ih => intro r a a' e u u' S S' act w hc h hw ha hn; unfold runD at h; exact plainD_sim hR hc h hw ha hn
 | loop c ih => intro r a a' e u u' S S' act w hc h hw ha hn; unfold runD at h; exact plainD_sim hR hc h hw ha hn
 | rangeFunc f ps x y ih1 ih2 => intro r a a' e u u' S S' act w hc h hw ha hn; unfold runD at h; exact plainD_sim hR hc h hw ha hn
 | exit id => intro r a a' e u u' S S' act w hc h hw ha hn; unfold runD at h; exact plainD_sim hR hc h hw ha hn
 | scope c ih => intro r a a' e u u' S S' act w hc h hw ha hn; unfold runD at h; exact plainD_sim hR hc h hw ha hn
 | label l => intro r a a' e u u' S S' act w hc h hw ha hn; unfold runD at h; exact plainD_sim hR hc h hw ha hn
 | goto l => intro r a a' e u u' S S' act w hc h hw ha hn; unfold runD at h; exact plainD_sim hR hc h hw ha hn
 | ret => intro r a a' e u u' S S' act w hc h hw ha hn; unfold runD at h; exact plainD_sim hR hc h hw ha hn
 | refuse s => intro r a a' e u u' S S' act w hc h hw ha hn; unfold runD at h; exact plainD_sim hR hc h hw ha hn
variable {r : Ren} {S : St} {w : World}
theorem runDfr_sim (hw : RelW r S w) {g : FuncId} {args : List AV} {xs : List Value} {u u1 : FrameMode} {res : Option (List PanicEntry)} {S1 : St} (ha : RelL r args xs) (h : runDfr rec E g args u S = .ok (res, u1, S1)) :
  CallsDIn (fence none) 0 E.P g xs.toArray u w fun e u' w' => u' = u1 ∧ (∃ r', Ext r S w r' S1 w') ∧ ResD res e := by
 unfold runDfr at h;obtain ⟨_, h0, h⟩ := bind_ok h
 have he : E.eff g = none := by have := mustBe_ok h0; cases hh : E.eff g with | none => rfl | some _ => rw [hh] at this; cases this
 obtain ⟨fn, h1, h2⟩ := bind_ok h;obtain ⟨c, h3, h4⟩ := bind_ok h2;obtain ⟨⟨⟨e, a⟩, u2, S2⟩, h5, h6⟩ := bind_ok h4;obtain ⟨_, h7, h8⟩ := bind_ok h6
 have hmk := mustBe_ok h7
 have hfn := ofOpt_ok h1
 have hb := ofOpt_ok h3;refine callsDIn_of_wpSIn (hG.ok.fn _ _ hfn).1 hb trivial fun c₀ cs hu => ?_
 have hs := (runD_sim hG hR (c₀ := c₀) (cs := cs) c (hG.body _ _ _ he hfn hb) h5 hw (enter_rel ha) rfl).2
 have hc₀ : ({ c₀ with mode := u } : Frame) = c₀ := by subst hu; rfl
 rw [hc₀] at hs;refine wpSIn_mono hs fun ex ac cs' w1 ⟨k1, k2, r1, x1, ha1⟩ => ?_
 subst k1
 have hd : ac.defers = [] := by
  have h9 := ha1.marks.1
  have : a.marks = [] := by simpa using hmk
  rw [this] at h9;exact List.eq_nil_of_length_eq_zero h9
 have fin : isEnd ex = true → ((resultsOf E S2 a fn.results.toList).bind fun _ => (.ok (none, u2, S2) : R (Option (List PanicEntry) × FrameMode × St))) = .ok (res, u1, S1) →
   ac.defers = [] ∧ ∃ u', cs' = { c₀ with mode := u' } :: cs ∧ ∃ v, (results fn ac.tmps).run E.P w1 = .ok v w1 ∧
    (u' = u1 ∧ (∃ r', Ext r S w r' S1 w1) ∧ ResD res (.returned v)) := by
  intro _ hh;obtain ⟨vs, k3, k4⟩ := bind_ok hh;cases k4;obtain ⟨x, k5, k6⟩ := finals_rel hG.ok x1.rel ha1 k3;exact ⟨hd, u1, k2, x, k5, rfl, ⟨r1, x1⟩, x, rfl⟩
 cases ex with
 | panic ch =>
  cases h8;exact ⟨hd, u1, k2, rfl, ⟨r1, x1⟩, rfl⟩
 | normal => exact fin rfl (by simpa [mustBe, isEnd, Except.bind] using h8)
 | ret => exact fin rfl (by simpa [mustBe, isEnd, Except.bind] using h8)
 | exit i => cases h8
 | goto l => cases h8
 | outgrown => cases h8
omit hG hR in
theorem notRun_ne {u : FrameMode} (h : notRun u = true) : u ≠ .run := by
 intro e;subst e;cases h
theorem leaveD_sim {fn : Func} {tmps : Array Value} {R : Ending → World → Prop} : ∀ (ms : List Dfr) (ds : List Deferred) {r : Ren} {S S2 : St} {u u2 : FrameMode} {w : World}, RelW r S w →
  ds.length = ms.length → (∀ (i : Nat) (m : Dfr) (d : Deferred), ms[i]? = some m → ds[i]? = some d → RelD r m d) → u ≠ .run → leaveD rec E ms u S = .ok (u2, S2) →
  (∀ r2 w2, Ext r S w r2 S2 w2 → LeavesInM (fence none) 0 E.P fn tmps R [] u2 w2) → LeavesInM (fence none) 0 E.P fn tmps R ds u w := by
 intro ms
 induction ms with
 | nil =>
  intro ds r S S2 u u2 w hw hl hm hu h hR';cases h
  have : ds = [] := List.eq_nil_of_length_eq_zero hl;subst this;exact hR' r w (.refl hw)
 | cons m ms ih =>
  intro ds r S S2 u u2 w hw hl hm hu h hR';cases ds with
  | nil => simp at hl
  | cons d ds =>
  have hd0 := hm 0 m d rfl rfl
  have hms : ∀ (i : Nat) (m' : Dfr) (d' : Deferred), ms[i]? = some m' → ds[i]? = some d' → RelD r m' d' := fun i m' d' h1 h2 => hm (i + 1) m' d' (by simpa using h1) (by simpa using h2)
  cases m with
  | mark m =>
   obtain ⟨x, hx, rfl⟩ := hd0;unfold leaveD at h;split at h
   ·rename_i hg
    obtain ⟨b, n, u0⟩ := x
    have ho := hw.obj _ _ hg _ _ _ _ hx
    have hb : w.heap[b]? = some (.deferred (some [])) := ho.2
    have x1 : Ext r S w r (S.write m (.dfr false)) (w.putObj b (.deferred none)) := hw.write (by simp only [St.live, hg]) hx _ _ fun ver b1 n1 u1 h' => by
     have e := (hw.obj _ _ hg _ _ _ _ h').1;subst e;rw [hx] at h';cases h';exact ⟨rfl, World.putObj_heap_same (hw.dom _ _ _ hx).2⟩
    refine ⟨hu, .inl ⟨b, _, rfl, run_takeDeferred hb, ?_⟩⟩;exact ih ds x1.rel (by simpa using hl) hms hu h fun r2 w2 x2 => hR' r2 w2 (x1.trans x2)
   ·cases h
  | call g args =>
   obtain ⟨xs, ys, rfl, hargs⟩ := hd0;unfold leaveD at h;obtain ⟨⟨res, u1, S1⟩, h1, h2⟩ := bind_ok h
   have hcall := runDfr_sim hG hR hw hargs h1;obtain ⟨_, _, h1'⟩ := bind_ok h1;obtain ⟨fn', hfn', _⟩ := bind_ok h1'
   have hinv : (invoke (.fn (.func g) ys.toArray) xs.toArray).run E.P w = .ok (.enter g (xs ++ ys).toArray) w := by
    have := (hG.ok.fn _ _ (ofOpt_ok hfn')).2 (xs ++ ys).toArray w
    have e2 : (xs ++ ys).toArray = xs.toArray ++ ys.toArray := by simp
    rw [e2] at this ⊢;exact this
   refine ⟨hu, .inr ⟨fun hh => (by cases hh), .func g, ys.toArray, g, _, rfl, hinv, fun _ _ => trivial, ?_⟩⟩;refine hcall.mono fun e u' w' ⟨k1, ⟨r', x1⟩, k2⟩ => ?_
   subst k1
   have hms' : ∀ (i : Nat) (m' : Dfr) (d' : Deferred), ms[i]? = some m' → ds[i]? = some d' → RelD r' m' d' := fun i m' d' q1 q2 => (hms i m' d' q1 q2).mono x1.sub
   cases res with
   | none =>
    obtain ⟨v, rfl⟩ := k2;obtain ⟨_, h3, h4⟩ := bind_ok h2;exact ih ds x1.rel (by simpa using hl) hms' (notRun_ne (mustBe_ok h3)) h4 fun r2 w2 x2 => hR' r2 w2 (x1.trans x2)
   | some ch =>
    have k2 : e = .panicked ch := k2;subst k2;refine ih ds x1.rel (by simpa using hl) hms' ?_ h2 fun r2 w2 x2 => hR' r2 w2 (x1.trans x2)
    unfold raised;split <;> (intro hh; cases hh)
end
end Go.Am
end
section
namespace Go.Am
open Go.RowKit
theorem aop_light {E : Env} {S S' : St} {ev : Operand → AV} {o : Oper} {nx : ANext} (hk : kindOf o < 2) (h : aop E S ev o = .ok (nx, S')) : S' = S ∧ ∃ v, nx = .val v := by
 unfold aop at h;split at h
 case h_7 c ho =>
  simp only [kindOf, ho] at hk
  have key : c.callee = .builtin .len ∨ c.callee = .builtin .min ∨ c.callee = .builtin .max → S' = S ∧ ∃ v, nx = .val v := by
   rintro (hc | hc | hc)
   all_goals
    unfold acall at h;rw [hc] at h;simp only [abuiltin] at h;obtain ⟨v, h1, h2⟩ := bind_ok h;cases h2;exact ⟨rfl, _, rfl⟩
  split at hk
  ·rename_i hc; exact key (.inl hc)
  ·rename_i hc; exact key (.inr (.inl hc))
  ·rename_i hc; exact key (.inr (.inr hc))
  ·omega
 all_goals (rename_i ho; simp only [kindOf, ho] at hk; try omega)
 all_goals (try (obtain ⟨v, h1, rfl, rfl⟩ := valOf_ok h; exact ⟨rfl, _, rfl⟩))
 ·cases h; exact ⟨rfl, _, rfl⟩
 ·cases h; exact ⟨rfl, _, rfl⟩
 ·unfold apick at h;split at h
  ·cases h; exact ⟨rfl, _, rfl⟩
  ·cases h
theorem valOf_at {S S' S2 : St} {m : R AV} {nx : ANext} (h : valOf S m = .ok (nx, S')) : valOf S2 m = .ok (nx, S2) := by
 obtain ⟨v, h1, rfl, rfl⟩ := valOf_ok h;subst h1;rfl
theorem aop_inert {E : Env} {S S' S2 : St} {ev : Operand → AV} {o : Oper} {nx : ANext} (hk : kindOf o = 0) (h : aop E S ev o = .ok (nx, S')) : aop E S2 ev o = .ok (nx, S2) := by
 unfold aop at h ⊢;split at h
 case h_7 c ho =>
  simp only [kindOf, ho] at hk;split at hk <;> omega
 all_goals (rename_i ho; simp only [kindOf, ho] at hk; try omega)
 all_goals (try (exact valOf_at h))
 ·cases h; rfl
 ·cases h; rfl
 ·unfold apick at h ⊢;split at h
  ·cases h; rfl
  ·cases h
theorem aop_congr {E : Env} {S : St} {ev ev' : Operand → AV} {o : Oper} (h : ∀ x ∈ o.op.operands, ev x = ev' x) : aop E S ev o = aop E S ev' o := by
 obtain ⟨dst, op, type, pos, after, guard⟩ := o
 have pairs : ∀ ps : Array (Nat × Operand), (∀ x ∈ (ps.toList.map (·.2)).toArray, ev x = ev' x) → partsOf ev ps = partsOf ev' ps := fun ps hp => by
  unfold partsOf;refine List.map_congr_left fun p hm => ?_
  have := hp p.2 (by simp; exact ⟨p.1, by simpa using hm⟩);simp [this]
 cases op <;> simp only [Op.operands] at h <;> simp only [aop]
 case build t ps => rw [pairs ps h]
 case buildSlice t n ps => rw [pairs ps h]
 case makeFunc fn first captured =>
  unfold amakeFunc;rw [List.map_congr_left (l := first.toList) fun x hx => h x (by simp at hx; simp [hx]), List.map_congr_left (l := captured.toList) fun x hx => h x (by simp at hx; simp [hx])]
 case call c =>
  unfold acall
  have hargs : c.args.toList.map ev = c.args.toList.map ev' := List.map_congr_left fun x hx => h x (by simp at hx; simp [Call.operands, hx])
  rw [hargs];cases hc : c.callee with
  | value f => simp only [h f (by simp [Call.operands, hc])]
  | _ => rfl
 case makeMap t r => cases r <;> simp_all
 case slice t x lo hi mx => cases lo <;> cases hi <;> cases mx <;> simp_all
 all_goals (first | rfl | (simp_all; done))
theorem one_bit {look : Nat → Nat} {o : Oper} {k : Nat} (h : (CheckFast.one look o).testBit k = true) : ∃ e ∈ o.after, Region.binds .any e = true ∧ (k = e.on ∨ (look e.on).testBit k = true) := by
 unfold CheckFast.one at h;rw [← Array.foldl_toList] at h
 have key : ∀ (l : List Edge) (s : Nat), (l.foldl (fun s e => if Region.binds .any e then s ||| 2 ^ e.on ||| look e.on else s) s).testBit k = true →
   s.testBit k = true ∨ ∃ e ∈ l, Region.binds .any e = true ∧ (k = e.on ∨ (look e.on).testBit k = true) := by
  intro l
  induction l with
  | nil => intro s h; exact .inl h
  | cons e l ih =>
   intro s h;rw [List.foldl_cons] at h
   rcases ih _ h with h1 | ⟨e', he, hb⟩
   ·by_cases hbind : Region.binds .any e = true
    ·rw [if_pos hbind] at h1;simp only [Nat.testBit_or, Bool.or_eq_true, Nat.testBit_two_pow] at h1
     rcases h1 with (h1 | h1) | h1
     ·exact .inl h1
     ·exact .inr ⟨e, by simp, hbind, .inl (of_decide_eq_true h1).symm⟩
     ·exact .inr ⟨e, by simp, hbind, .inr h1⟩
    ·rw [if_neg hbind] at h1;exact .inl h1
   ·exact .inr ⟨e', by simp [he], hb⟩
 rcases key _ _ h with h1 | ⟨e, he, hb⟩
 ·simp at h1
 ·exact ⟨e, by simpa using he, hb⟩
theorem before_get : ∀ (l : List Oper) (A : Array Nat) (j : Nat), (j < A.size → (l.foldl (fun acc o => acc.push (CheckFast.one (fun i => acc.getD i 0) o)) A)[j]? = A[j]?) ∧
    (∀ o, l[j]? = some o → ∃ B : Array Nat, B.size = A.size + j ∧ (l.foldl (fun acc o => acc.push (CheckFast.one (fun i => acc.getD i 0) o)) A)[A.size + j]? = some (CheckFast.one (fun i => B.getD i 0) o) ∧
      ∀ i, i < B.size → (l.foldl (fun acc o => acc.push (CheckFast.one (fun i => acc.getD i 0) o)) A)[i]? = B[i]?) := by
  intro l
  induction l with
  | nil => intro A j; exact ⟨fun _ => rfl, fun o h => by simp at h⟩
  | cons p l ih =>
    intro A j
    rw [List.foldl_cons]
    have hs : (A.push (CheckFast.one (fun i => A.getD i 0) p)).size = A.size + 1 := by simp
    refine ⟨fun hj => ?_, fun o ho => ?_⟩
    · rw [(ih _ j).1 (by omega), Array.getElem?_push_lt hj]
      simp [hj]
    · cases j with
      | zero =>
        simp at ho
        subst ho
        refine ⟨A, by simp, ?_, fun i hi => ?_⟩
        · rw [(ih _ _).1 (by omega)]
          simp
        · rw [(ih _ i).1 (by omega), Array.getElem?_push_lt hi]
          simp [hi]
      | succ j =>
        obtain ⟨B, h1, h2, h3⟩ := (ih (A.push (CheckFast.one (fun i => A.getD i 0) p)) j).2 o (by simpa using ho)
        refine ⟨B, by omega, ?_, h3⟩
        have : A.size + (j + 1) = (A.push (CheckFast.one (fun i => A.getD i 0) p)).size + j := by omega
        rw [this]
        exact h2
theorem bit_spec {ops : Array Oper} {j k : Nat} {o : Oper} (ho : ops[j]? = some o) (hfront : ∀ e ∈ o.after, Region.binds .any e = true → e.on < j) (h : bitOf (CheckFast.beforeL ops.toList 0 []) j k = true) :
  ∃ e ∈ o.after, Region.binds .any e = true ∧ (k = e.on ∨ bitOf (CheckFast.beforeL ops.toList 0 []) e.on k = true) := by
 have e0 := CheckFast.beforeL_eq ops.toList #[];simp only [Array.size_empty, List.reverse_nil] at e0;obtain ⟨B, h1, h2, h3⟩ := (before_get ops.toList #[] j).2 o (by simpa using ho);simp only [Array.size_empty, Nat.zero_add] at h1 h2
 have g : ∀ i, (CheckFast.beforeL ops.toList 0 []).getD i 0 = ((ops.toList.foldl (fun acc o => acc.push (CheckFast.one (fun i => acc.getD i 0) o)) #[])[i]?).getD 0 := by
  intro i;rw [e0, List.getD_eq_getElem?_getD];simp
 unfold bitOf at h ⊢;rw [g, h2, Option.getD_some] at h;obtain ⟨e, he, hb, hk⟩ := one_bit h;refine ⟨e, he, hb, or_snd hk fun hk => ?_⟩;rw [g, h3 _ (by rw [h1]; exact hfront e he hb)]
 simpa only [Array.getD_eq_getD_getElem?] using hk
end Go.Am
end
section
namespace Go.Am
open Go.RowKit
theorem sameObj_eq {E : Env} {a b : AObj} (h : sameObj E a b = true) : a = b := by
 unfold sameObj at h;split at h
 ·simp at h;rw [allSame_eq E.same.2 _ _ h.1.1];simp [h.1.2, h.2]
 ·cases h
theorem floatSame_eq {E : Env} {S : St} {f : Nat × Nat × AObj} (h : floatSame E S f = true) : S.heap.get f.2.1 = some f.2.2 := by
 unfold floatSame at h;split at h
 ·rename_i o ho
  rw [ho, sameObj_eq h]
 ·cases h
theorem Ext.place {r0 r : Ren} {S0 S : St} {w0 w : World} (k : Ext r0 S0 w0 r S w) {id : Nat} (o : AObj) (o' : Obj) (ver n u : Nat) (hg : S.heap.get id = some o) (hn : ∀ v, r.row id v = none) (hid : id < S.next) (hlow : S.low ≤ id) (h0 : S0.next ≤ id)
    (ho : RelO (r.add id ver (w.heap.size, n, u)) ver w.heap.size n u (w.alloc o') o) : Ext r0 S0 w0 (r.add id ver (w.heap.size, n, u)) S (w.alloc o') := by
  have h := k.rel
  have hle : r.le (r.add id ver (w.heap.size, n, u)) := Ren.add_le (.inl (hn ver))
  refine ⟨k.sub.trans hle, ⟨?_, ?_, ?_, ?_, h.low, h.glb⟩, k.glb, k.next, k.low, k.keep, by rw [World.alloc_size]; have := k.size; omega, k.os, k.tape, k.output, ?_, ?_, k.news,
    fun i v x hx => (Ren.add_cases hx).elim (fun e => .inl (by rw [e.1]; exact h0)) (fun h => k.born i v x h), k.draws, k.up, k.made⟩
  · intro i v x hx
    rw [World.alloc_size]
    rcases Ren.add_cases hx with ⟨rfl, rfl, rfl⟩ | hx
    · exact ⟨hid, by simp⟩
    · have := h.dom _ _ _ hx; omega
  · intro i v x i' v' x' hx hx' he
    rcases Ren.add_cases hx with ⟨rfl, rfl, rfl⟩ | kx <;> rcases Ren.add_cases hx' with ⟨rfl, rfl, rfl⟩ | kx'
    · rfl
    · have := (h.dom _ _ _ kx').2; simp at he; omega
    · have := (h.dom _ _ _ kx).2; simp at he; omega
    · exact h.inj _ _ _ _ _ _ kx kx' he
  · intro b c hb
    obtain ⟨⟨e, fz, h1⟩, h2⟩ := h.imm b c hb
    have hlt : b < w.heap.size := (Array.getElem?_eq_some_iff.1 h1).1
    refine ⟨⟨e, fz, by rw [World.alloc_get, if_neg (by omega)]; exact h1⟩, fun i v x hx => ?_⟩
    rcases Ren.add_cases hx with ⟨rfl, rfl, rfl⟩ | hx
    · simp; omega
    · exact h2 _ _ _ hx
  · intro i o1 hg1 v b n' u' hx
    rcases Ren.add_cases hx with ⟨rfl, rfl, e⟩ | hx
    · rw [hg] at hg1
      cases hg1
      cases e
      exact ho
    · have hd := h.dom _ _ _ hx
      exact ((h.obj _ _ hg1 _ _ _ _ hx).world (by rw [World.alloc_get, if_neg (by simp at hd; omega)])).mono hle
  · intro b hb
    have hs := k.size
    rcases k.frame b hb with e | e
    · exact .inl (by rw [World.alloc_get, if_neg (by omega)]; exact e)
    · exact .inr e
  · intro i v x hx
    rcases Ren.add_cases hx with ⟨rfl, rfl, rfl⟩ | hx
    · exact .inr ⟨hlow, .inl k.size⟩
    · exact k.fresh _ _ _ hx
def FloatAt (P : Program) (r : Ren) (w : World) (mk : Nat → AV) (ob : AObj) (m : Sem Value) : Prop :=
 ∃ (x : Value) (cs : List AV) (xs : Array Value) (u : Nat) (e : TypeId), ob = .row cs u 0 ∧ RelL r cs xs.toList ∧ m.run P w = .ok x (w.alloc (.cells xs e (0, 0))) ∧
  ∀ (r' : Ren) (id : Nat), r.le r' → r'.row id cs.length = some (w.heap.size, cs.length, u) → RelV r' (mk id) x
section
variable {E : Env} (hE : EnvOk E) {r : Ren} {S : St} {w : World}
theorem newVar_float {t : TypeId} {v p : AV} {b : Value} {S' : St} (hv : RelV r v b) (h : newVarA E S t v = .ok (p, S')) :
  ∃ cs u, p = .ptr S.next 0 cs.length ∧ S' = S.new (.row cs u 0) ∧ RelL r cs b.cells.toList ∧ (newVar t b).run E.P w = .ok ⟨w.heap.size, 0, none⟩ (w.alloc (.cells b.cells t (0, 0))) := by
 obtain ⟨u, h1, h2⟩ := bind_ok h;cases h2;refine ⟨_, u, rfl, rfl, hv.cells, ?_⟩;exact (by unfold newVar newRow; rw [run_bind_ok (run_new w _)]; rfl)
include hE
theorem alloc_float {t : TypeId} {p : AV} {S' : St} (h : aalloc E S t = .ok (p, S')) : ∃ mk ob, p = mk S.next ∧ S' = S.new ob ∧ FloatAt E.P r w mk ob (Instr.alloc t true (.tuple #[])) := by
 obtain ⟨z, h1, h2⟩ := bind_ok h;obtain ⟨cs, u, e1, e2, k1, k2⟩ := newVar_float (r := r) (w := w) (ofV_rel r 4 z) h2;refine ⟨fun id => .ptr id 0 cs.length, _, e1, e2, _, cs, _, u, t, rfl, k1, ?_, fun r' id _ hr => .ptr hr⟩;unfold Instr.alloc;rw [run_bind_ok (run_zro hE (ofOpt_ok h1) w)];simp only [];rw [run_bind_ok k2];rfl
omit hE in
theorem box_float {t : TypeId} {v p : AV} {b : Value} {S' : St} (hv : RelV r v b) (h : newVarA E S t v = .ok (p, S')) : ∃ mk ob, p = mk S.next ∧ S' = S.new ob ∧ FloatAt E.P r w mk ob (Instr.box t b) := by
 obtain ⟨cs, u, e1, e2, k1, k2⟩ := newVar_float (r := r) (w := w) hv h;refine ⟨fun id => .ptr id 0 cs.length, _, e1, e2, _, cs, _, u, t, rfl, k1, ?_, fun r' id _ hr => .ptr hr⟩;unfold Instr.box;rw [run_bind_ok k2];rfl
theorem buildSlice_float {t : TypeId} {len : Nat} {ps : List (Nat × AV)} {qs : List (Nat × Value)} {v : AV} {S' : St} (hp : RelP r ps qs)
    (h : abuildSlice E S t len ps = .ok (v, S')) : ∃ mk ob, v = mk S.next ∧ S' = S.new ob ∧ FloatAt E.P r w mk ob (Instr.buildSlice t len qs.toArray) := by
  obtain ⟨d, h1, h2⟩ := bind_ok h
  have hd := ofOpt_ok h1
  split at h2
  · rename_i e
    obtain ⟨sz, h3, h4⟩ := bind_ok h2
    cases hb : Nat.blt (2 ^ 24) (len * sz) with
    | true => simp [hb] at h4
    | false =>
      simp only [hb, cond_false] at h4
      have hb := blt_false.1 hb
      obtain ⟨zs, h5, h6⟩ := bind_ok h4
      obtain ⟨cs, h7, h8⟩ := bind_ok h6
      cases h8
      obtain ⟨zero, k0, k1, k2, k3⟩ := zeros_rel hE (r := r) (w := w) h5
      obtain ⟨ys, k4, k5⟩ := fill_rel ps qs zs cs _ hp k2 h7
      have hcs : cs.length = len * sz := by
        have e1 := fill_len ps zs cs h7
        omega
      have k6 : (newRow e ys).run E.P w = .ok ⟨w.heap.size, 0, none⟩ (w.alloc (.cells ys e (0, 0))) := by unfold newRow; rw [run_bind_ok (run_new w _)]; rfl
      refine ⟨fun id => .slice id 0 cs.length true len len, _, rfl, rfl, .slice (some ⟨w.heap.size, 0, none⟩) len len, cs, ys, sz, e, rfl, k5, ?_,
        fun r' id _ hr => .slice hr (by omega) (Nat.le_refl _) (Nat.le_refl _) (fun _ => rfl)⟩
      unfold Instr.buildSlice
      rw [run_bind_ok (run_und hE hd w)]
      simp only []
      rw [run_bind_ok (run_siz hE (ofOpt_ok h3) w)]
      have hn : ¬ len * sz > 2 ^ 24 := by omega
      simp only [if_neg hn]
      by_cases h0 : len * sz = 0
      · have := k0 h0
        subst this
        simp only [if_pos h0]
        rw [run_bind_ok (a := (#[] : Array Value)) (w1 := w) rfl]
        simp only [k4]
        rw [run_bind_ok k6]
        rfl
      · obtain ⟨z, k9, rfl⟩ := k1 h0
        simp only [if_neg h0]
        rw [run_bind_ok k9, run_bind_ok (a := z.cells) (w1 := w) rfl]
        simp only [k4]
        rw [run_bind_ok k6]
        rfl
  · cases h2
theorem aop_float {ev : Operand → AV} {ρ : Operand → Value} (hev : ∀ x, RelV r (ev x) (ρ x)) {o : Oper} (hk : kindOf o = 3) {nx : ANext} {S' : St} (h : aop E S ev o = .ok (nx, S')) :
  ∃ (mk : Nat → AV) (ob : AObj), nx = .val (mk S.next) ∧ S' = S.new ob ∧ ∃ (x : Value) (cs : List AV) (xs : Array Value) (u : Nat) (e : TypeId), ob = .row cs u 0 ∧ RelL r cs xs.toList ∧
   (execOp ρ o).run E.P w = .ok (.value x) (w.alloc (.cells xs e (0, 0))) ∧ ∀ (r' : Ren) (id : Nat), r.le r' → r'.row id cs.length = some (w.heap.size, cs.length, u) → RelV r' (mk id) x := by
 unfold aop at h;unfold execOp;split at h
 all_goals (rename_i ho; simp only [kindOf, ho] at hk; try omega)
 all_goals (try (split at hk <;> omega))
 ·obtain ⟨v, h1, h2⟩ := newOf_ok h;subst h2;obtain ⟨mk, ob, e1, e2, x, cs, xs, u, e, k1, k2, k3, k4⟩ := alloc_float hE (r := r) (w := w) h1;refine ⟨mk, ob, by rw [e1], e2, x, cs, xs, u, e, k1, k2, ?_, k4⟩;rw [ho];exact (run_bind_ok k3).trans rfl
 ·obtain ⟨v, h1, h2⟩ := newOf_ok h;subst h2;obtain ⟨mk, ob, e1, e2, x, cs, xs, u, e, k1, k2, k3, k4⟩ := box_float (hev _) (w := w) h1;refine ⟨mk, ob, by rw [e1], e2, x, cs, xs, u, e, k1, k2, ?_, k4⟩;rw [ho];exact (run_bind_ok k3).trans rfl
 ·obtain ⟨v, h1, h2⟩ := newOf_ok h;subst h2;obtain ⟨mk, ob, e1, e2, x, cs, xs, u, e, k1, k2, k3, k4⟩ := buildSlice_float hE (w := w) (relP_map hev _) h1;rw [← parts_arr] at k3;refine ⟨mk, ob, by rw [e1], e2, x, cs, xs, u, e, k1, k2, ?_, k4⟩;rw [ho];exact (run_bind_ok k3).trans rfl
end
end Go.Am
end
section
namespace Go.Am
open Go.RowKit
section
variable {E : Env} (hG : EnvGood E) {rec : Task → St → RR} (hR : Sound E rec)
theorem drawSteps_act {ops : Array Oper} {masks : List Nat} {fl : Floats} : ∀ (l : List Nat) {a a1 : AAct} {S S1 : St} {past : List (Nat × St)} {seen : Seen}, drawSteps rec E ops masks fl l a S past seen = .ok (a1, S1) → a1.rnd = a.rnd ∧ a1.n = a.n := by
 intro l
 induction l with
 | nil => intro a a1 S S1 past seen h; cases h; exact ⟨rfl, rfl⟩
 | cons i l ih =>
  intro a a1 S S1 past seen h;obtain ⟨⟨v, S2⟩, h1, h2⟩ := bind_ok h;obtain ⟨a3, h5, h6⟩ := bind_ok h2;obtain ⟨p1, p2, p3, p4, p5⟩ := put_ok h5;simp only at h6;split at h6
  ·have := ih h6;exact ⟨this.1.trans p3, this.2.trans p1⟩
  ·have := ih (bif_ok h6).2;exact ⟨this.1.trans p3, this.2.trans p1⟩
  ·have := ih (bif_ok h6).2;exact ⟨this.1.trans p3, this.2.trans p1⟩
theorem drawFirst_act {ops : Array Oper} : ∀ (l : List Nat) {a a1 : AAct} {S S1 : St} {seen seen1 : Seen} {fl fl1 : Floats}, drawFirst rec E ops l a S seen fl = .ok ((a1, S1), seen1, fl1) → a1.rnd = a.rnd ∧ a1.n = a.n := by
 intro l
 induction l with
 | nil => intro a a1 S S1 seen seen1 fl fl1 h; cases h; exact ⟨rfl, rfl⟩
 | cons i l ih =>
  intro a a1 S S1 seen seen1 fl fl1 h;obtain ⟨⟨v, S2⟩, h1, h2⟩ := bind_ok h;obtain ⟨a3, h5, h6⟩ := bind_ok h2;obtain ⟨p1, p2, p3, p4, p5⟩ := put_ok h5
  try simp only at h6
  split at h6
  ·have := ih h6;exact ⟨this.1.trans p3, this.2.trans p1⟩
  ·have := ih h6;exact ⟨this.1.trans p3, this.2.trans p1⟩
  ·split at h6
   ·have := ih h6;exact ⟨this.1.trans p3, this.2.trans p1⟩
   ·cases h6
  ·cases h6
theorem drawRun_act {ops : Array Oper} {masks : List Nat} {a a1 : AAct} {S S1 : St} (h : drawRun rec E ops masks a S = .ok (a1, S1)) : a1.rnd = a.rnd ∧ a1.n = a.n := by
 obtain ⟨⟨⟨a2, S2⟩, seen, fl⟩, h1, h2⟩ := bind_ok h
 have k1 := drawFirst_act _ h1
 have k2 := drawSteps_act _ (bif_ok h2).2;exact ⟨k2.1.trans k1.1, k2.2.trans k1.2⟩
def at_ (rec : Task → St → RR) (E : Env) (ops : Array Oper) (s : Nat → Nat) (a : AAct) (S : St) : Nat → AAct × St
 | 0 => (a, S)
 | i + 1 => match opVal rec E ops (s i) (at_ rec E ops s a S i).1 (at_ rec E ops s a S i).2 with
  | .ok (v, S1) => (match (at_ rec E ops s a S i).1.put (dstAt ops (s i)) v with | .ok a1 => (a1, S1) | .error _ => (a, S))
  | .error _ => (a, S)
def valAt (rec : Task → St → RR) (E : Env) (ops : Array Oper) (s : Nat → Nat) (a : AAct) (S : St) (i : Nat) : AV :=
 match opVal rec E ops (s i) (at_ rec E ops s a S i).1 (at_ rec E ops s a S i).2 with
 | .ok (v, _) => v
 | .error _ => undefA
structure Steps_ (rec : Task → St → RR) (E : Env) (ops : Array Oper) (s : Nat → Nat) (A : Nat → AAct) (T : Nat → St) (V : Nat → AV) (k n : Nat) : Prop where
 val : ∀ i, k ≤ i → i < n → opVal rec E ops (s i) (A i) (T i) = .ok (V i, T (i + 1))
 put : ∀ i, k ≤ i → i < n → (A i).put (dstAt ops (s i)) (V i) = .ok (A (i + 1))
theorem Steps_.cons {ops : Array Oper} {s : Nat → Nat} {A : Nat → AAct} {T : Nat → St} {V : Nat → AV} {k n : Nat} (h : Steps_ rec E ops s A T V (k + 1) n)
  (h1 : opVal rec E ops (s k) (A k) (T k) = .ok (V k, T (k + 1))) (h2 : (A k).put (dstAt ops (s k)) (V k) = .ok (A (k + 1))) : Steps_ rec E ops s A T V k n := by
 refine ⟨fun i q1 q2 => ?_, fun i q1 q2 => ?_⟩
 ·rcases Nat.lt_or_eq_of_le q1 with q | rfl
  ·exact h.val i q q2
  ·exact h1
 ·rcases Nat.lt_or_eq_of_le q1 with q | rfl
  ·exact h.put i q q2
  ·exact h2
structure First (ops : Array Oper) (s : Nat → Nat) (A : Nat → AAct) (T : Nat → St) (V : Nat → AV) (k n : Nat) (seen : Seen) (fl : Floats) : Prop where
 kind : ∀ p, k ≤ p → p < n → kindAt ops (s p) (A p) ≠ 2
 seen : ∀ p, k ≤ p → p < n → kindAt ops (s p) (A p) = 1 → (s p, A p, V p) ∈ seen
 float : ∀ p, k ≤ p → p < n → kindAt ops (s p) (A p) = 3 → ∃ ob, (T (p + 1)).heap.get (T p).next = some ob ∧ (s p, (T p).next, ob) ∈ fl
theorem first_text {ops : Array Oper} {s : Nat → Nat} {a0 : AAct} {S0 : St} : ∀ (l : List Nat) (k : Nat) {a a1 : AAct} {S S1 : St} {seen seen1 : Seen} {fl fl1 : Floats}, (∀ i x, l[i]? = some x → s (k + i) = x) →
    at_ rec E ops s a0 S0 k = (a, S) → drawFirst rec E ops l a S seen fl = .ok ((a1, S1), seen1, fl1) → at_ rec E ops s a0 S0 (k + l.length) = (a1, S1) ∧ (∀ x ∈ seen, x ∈ seen1) ∧ (∀ x ∈ fl, x ∈ fl1) ∧
      Steps_ rec E ops s (fun i => (at_ rec E ops s a0 S0 i).1) (fun i => (at_ rec E ops s a0 S0 i).2) (valAt rec E ops s a0 S0) k (k + l.length) ∧
      First ops s (fun i => (at_ rec E ops s a0 S0 i).1) (fun i => (at_ rec E ops s a0 S0 i).2) (valAt rec E ops s a0 S0) k (k + l.length) seen1 fl1 := by
  intro l
  induction l with
  | nil =>
    intro k a a1 S S1 seen seen1 fl fl1 hs hk h
    cases h
    exact ⟨hk, fun x hx => hx, fun x hx => hx, ⟨fun i h1 h2 => by simp at h2; omega, fun i h1 h2 => by simp at h2; omega⟩,
      ⟨fun i h1 h2 => by simp at h2; omega, fun i h1 h2 => by simp at h2; omega, fun i h1 h2 => by simp at h2; omega⟩⟩
  | cons x l ih =>
    intro k a a1 S S1 seen seen1 fl fl1 hs hk h
    have hx : s k = x := hs 0 x rfl
    subst hx
    have hs' : ∀ i y, l[i]? = some y → s (k + 1 + i) = y := fun i y hy => by
      have := hs (i + 1) y (by simpa using hy)
      rw [← this]; congr 1; omega
    obtain ⟨⟨v, S2⟩, h1, h2⟩ := bind_ok h
    obtain ⟨a3, h5, h6⟩ := bind_ok h2
    try simp only at h5 h6
    have hA : (at_ rec E ops s a0 S0 k).1 = a := by rw [hk]
    have hT : (at_ rec E ops s a0 S0 k).2 = S := by rw [hk]
    have hV : valAt rec E ops s a0 S0 k = v := by unfold valAt; rw [hA, hT, h1]
    have hk1 : at_ rec E ops s a0 S0 (k + 1) = (a3, S2) := by
      rw [at_, hA, hT, h1]
      simp only [h5]
    have e : k + (s k :: l).length = k + 1 + l.length := by simp; omega
    rw [e]
    have step1 : opVal rec E ops (s k) (at_ rec E ops s a0 S0 k).1 (at_ rec E ops s a0 S0 k).2 = .ok (valAt rec E ops s a0 S0 k, (at_ rec E ops s a0 S0 (k + 1)).2) := by rw [hA, hT, hV, hk1]; exact h1
    have step2 : (at_ rec E ops s a0 S0 k).1.put (dstAt ops (s k)) (valAt rec E ops s a0 S0 k) = .ok (at_ rec E ops s a0 S0 (k + 1)).1 := by rw [hA, hV, hk1]; exact h5
    split at h6
    · rename_i hz
      obtain ⟨i1, i2, i3, i4, i5⟩ := ih (k + 1) hs' hk1 h6
      refine ⟨i1, i2, i3, i4.cons step1 step2, ⟨fun p q1 q2 => ?_, fun p q1 q2 q3 => ?_, fun p q1 q2 q3 => ?_⟩⟩
      · rcases Nat.lt_or_eq_of_le q1 with q | rfl
        · exact i5.kind p q q2
        · simp only [hA, hz]; omega
      · rcases Nat.lt_or_eq_of_le q1 with q | rfl
        · exact i5.seen p q q2 q3
        · simp only [hA, hz] at q3; omega
      · rcases Nat.lt_or_eq_of_le q1 with q | rfl
        · exact i5.float p q q2 q3
        · simp only [hA, hz] at q3; omega
    · rename_i hz
      obtain ⟨i1, i2, i3, i4, i5⟩ := ih (k + 1) hs' hk1 h6
      refine ⟨i1, fun x hx => i2 x (by simp [hx]), i3, i4.cons step1 step2, ⟨fun p q1 q2 => ?_, fun p q1 q2 q3 => ?_, fun p q1 q2 q3 => ?_⟩⟩
      · rcases Nat.lt_or_eq_of_le q1 with q | rfl
        · exact i5.kind p q q2
        · simp only [hA, hz]; omega
      · rcases Nat.lt_or_eq_of_le q1 with q | rfl
        · exact i5.seen p q q2 q3
        · simp only [hA, hV]; exact i2 _ (by simp)
      · rcases Nat.lt_or_eq_of_le q1 with q | rfl
        · exact i5.float p q q2 q3
        · simp only [hA, hz] at q3; omega
    · rename_i hz
      split at h6
      rotate_left
      · cases h6
      rename_i ob hob
      obtain ⟨i1, i2, i3, i4, i5⟩ := ih (k + 1) hs' hk1 h6
      refine ⟨i1, i2, fun x hx => i3 x (by simp [hx]), i4.cons step1 step2, ⟨fun p q1 q2 => ?_, fun p q1 q2 q3 => ?_, fun p q1 q2 q3 => ?_⟩⟩
      · rcases Nat.lt_or_eq_of_le q1 with q | rfl
        · exact i5.kind p q q2
        · simp only [hA, hz]; omega
      · rcases Nat.lt_or_eq_of_le q1 with q | rfl
        · exact i5.seen p q q2 q3
        · simp only [hA, hz] at q3; omega
      · rcases Nat.lt_or_eq_of_le q1 with q | rfl
        · exact i5.float p q q2 q3
        · refine ⟨ob, ?_, ?_⟩
          · simp only [hT, hk1]; exact hob
          · simp only [hT]; exact i3 _ (by simp)
    · cases h6
structure Second (E : Env) (ops : Array Oper) (masks : List Nat) (fl : Floats) (s : Nat → Nat) (A : Nat → AAct) (T : Nat → St) (V : Nat → AV) (k n : Nat) (past : List (Nat × St)) (seen : Seen) : Prop where
 early : ∀ j, k ≤ j → j < n → kindAt ops (s j) (A j) = 1 → (∀ g ∈ past, bitOf masks (s j) g.1 = true ∨ agrees E ops g.2 (s j, A j, V j) = true) ∧
  ∀ g, k ≤ g → g < j → 2 ≤ kindAt ops (s g) (A g) → bitOf masks (s j) (s g) = true ∨ agrees E ops (T g) (s j, A j, V j) = true
 late : ∀ g, k ≤ g → g < n → 2 ≤ kindAt ops (s g) (A g) → (∀ x ∈ seen, bitOf masks (s g) x.1 = true ∨ agrees E ops (T (g + 1)) x = true) ∧
  ∀ j, k ≤ j → j < g → kindAt ops (s j) (A j) = 1 → bitOf masks (s g) (s j) = true ∨ agrees E ops (T (g + 1)) (s j, A j, V j) = true
 float : ∀ g, k ≤ g → g < n → 2 ≤ kindAt ops (s g) (A g) → ∀ f ∈ fl, bitOf masks (s g) f.1 = true ∨ floatSame E (T (g + 1)) f = true
theorem second_text {ops : Array Oper} {masks : List Nat} {fl : Floats} {s : Nat → Nat} {a0 : AAct} {S0 : St} : ∀ (l : List Nat) (k : Nat) {a a1 : AAct} {S S1 : St} {past : List (Nat × St)} {seen : Seen}, (∀ i x, l[i]? = some x → s (k + i) = x) →
    at_ rec E ops s a0 S0 k = (a, S) → drawSteps rec E ops masks fl l a S past seen = .ok (a1, S1) → at_ rec E ops s a0 S0 (k + l.length) = (a1, S1) ∧
      Steps_ rec E ops s (fun i => (at_ rec E ops s a0 S0 i).1) (fun i => (at_ rec E ops s a0 S0 i).2) (valAt rec E ops s a0 S0) k (k + l.length) ∧
      Second E ops masks fl s (fun i => (at_ rec E ops s a0 S0 i).1) (fun i => (at_ rec E ops s a0 S0 i).2) (valAt rec E ops s a0 S0) k (k + l.length) past seen := by
  intro l
  induction l with
  | nil =>
    intro k a a1 S S1 past seen hs hk h
    cases h
    exact ⟨hk, ⟨fun i h1 h2 => by simp at h2; omega, fun i h1 h2 => by simp at h2; omega⟩,
      ⟨fun i h1 h2 => by simp at h2; omega, fun i h1 h2 => by simp at h2; omega, fun i h1 h2 => by simp at h2; omega⟩⟩
  | cons x l ih =>
    intro k a a1 S S1 past seen hs hk h
    have hx : s k = x := hs 0 x rfl
    subst hx
    have hs' : ∀ i y, l[i]? = some y → s (k + 1 + i) = y := fun i y hy => by
      have := hs (i + 1) y (by simpa using hy)
      rw [← this]; congr 1; omega
    obtain ⟨⟨v, S2⟩, h1, h2⟩ := bind_ok h
    obtain ⟨a3, h5, h6⟩ := bind_ok h2
    simp only at h5 h6
    have hA : (at_ rec E ops s a0 S0 k).1 = a := by rw [hk]
    have hT : (at_ rec E ops s a0 S0 k).2 = S := by rw [hk]
    have hV : valAt rec E ops s a0 S0 k = v := by unfold valAt; rw [hA, hT, h1]
    have hk1 : at_ rec E ops s a0 S0 (k + 1) = (a3, S2) := by
      rw [at_, hA, hT, h1]
      simp only [h5]
    have e : k + (s k :: l).length = k + 1 + l.length := by simp; omega
    rw [e]
    have step1 : opVal rec E ops (s k) (at_ rec E ops s a0 S0 k).1 (at_ rec E ops s a0 S0 k).2 = .ok (valAt rec E ops s a0 S0 k, (at_ rec E ops s a0 S0 (k + 1)).2) := by rw [hA, hT, hV, hk1]; exact h1
    have step2 : (at_ rec E ops s a0 S0 k).1.put (dstAt ops (s k)) (valAt rec E ops s a0 S0 k) = .ok (at_ rec E ops s a0 S0 (k + 1)).1 := by rw [hA, hV, hk1]; exact h5
    split at h6
    · rename_i hz
      obtain ⟨i1, i2, i3⟩ := ih (k + 1) hs' hk1 h6
      refine ⟨i1, i2.cons step1 step2, ⟨fun j q1 q2 q3 => ?_, fun g q1 q2 q3 => ?_, fun g q1 q2 q3 => ?_⟩⟩
      · rcases Nat.lt_or_eq_of_le q1 with q | rfl
        · refine ⟨(i3.early j q q2 q3).1, fun g g1 g2 g3 => ?_⟩
          rcases Nat.lt_or_eq_of_le g1 with g1 | rfl
          · exact (i3.early j q q2 q3).2 g g1 g2 g3
          · simp only [hA, hz] at g3; omega
        · simp only [hA, hz] at q3; omega
      · rcases Nat.lt_or_eq_of_le q1 with q | rfl
        · refine ⟨(i3.late g q q2 q3).1, fun j g1 g2 g3 => ?_⟩
          rcases Nat.lt_or_eq_of_le g1 with g1 | rfl
          · exact (i3.late g q q2 q3).2 j g1 g2 g3
          · simp only [hA, hz] at g3; omega
        · simp only [hA, hz] at q3; omega
      · rcases Nat.lt_or_eq_of_le q1 with q | rfl
        · exact i3.float g q q2 q3
        · simp only [hA, hz] at q3; omega
    · rename_i hz
      obtain ⟨hall, h6⟩ := bif_ok h6
      obtain ⟨i1, i2, i3⟩ := ih (k + 1) hs' hk1 h6
      refine ⟨i1, i2.cons step1 step2, ⟨fun j q1 q2 q3 => ?_, fun g q1 q2 q3 => ?_, fun g q1 q2 q3 => ?_⟩⟩
      · rcases Nat.lt_or_eq_of_le q1 with q | rfl
        · refine ⟨(i3.early j q q2 q3).1, fun g g1 g2 g3 => ?_⟩
          rcases Nat.lt_or_eq_of_le g1 with g1 | rfl
          · exact (i3.early j q q2 q3).2 g g1 g2 g3
          · simp only [hA, hz] at g3; omega
        · refine ⟨fun g hg => ?_, fun g g1 g2 => by omega⟩
          simp only [hA, hV]
          have := List.all_eq_true.1 hall g hg
          simpa only [Bool.or_eq_true] using this
      · rcases Nat.lt_or_eq_of_le q1 with q | rfl
        · refine ⟨fun x hx => (i3.late g q q2 q3).1 x (by simp [hx]), fun j g1 g2 g3 => ?_⟩
          rcases Nat.lt_or_eq_of_le g1 with g1 | rfl
          · exact (i3.late g q q2 q3).2 j g1 g2 g3
          · have := (i3.late g q q2 q3).1 (s k, a, v) (by simp)
            simp only [hA, hV]
            exact this
        · simp only [hA, hz] at q3; omega
      · rcases Nat.lt_or_eq_of_le q1 with q | rfl
        · exact i3.float g q q2 q3
        · simp only [hA, hz] at q3; omega
    · rename_i hz0 hz1
      have hz : 2 ≤ kindAt ops (s k) a := by
        rcases Nat.lt_or_ge (kindAt ops (s k) a) 2 with hlt | hge
        · exfalso
          have : kindAt ops (s k) a = 0 ∨ kindAt ops (s k) a = 1 := by omega
          rcases this with e | e
          · exact hz0 e
          · exact hz1 e
        · exact hge
      obtain ⟨hall, h6⟩ := bif_ok h6
      obtain ⟨i1, i2, i3⟩ := ih (k + 1) hs' hk1 h6
      rw [Bool.and_eq_true] at hall
      refine ⟨i1, i2.cons step1 step2, ⟨fun j q1 q2 q3 => ?_, fun g q1 q2 q3 => ?_, fun g q1 q2 q3 => ?_⟩⟩
      · rcases Nat.lt_or_eq_of_le q1 with q | rfl
        · refine ⟨fun g hg => (i3.early j q q2 q3).1 g (by simp [hg]), fun g g1 g2 g3 => ?_⟩
          rcases Nat.lt_or_eq_of_le g1 with g1 | rfl
          · exact (i3.early j q q2 q3).2 g g1 g2 g3
          · have := (i3.early j q q2 q3).1 (s k, S) (by simp)
            simp only [hT]
            exact this
        · simp only [hA] at q3; omega
      · rcases Nat.lt_or_eq_of_le q1 with q | rfl
        · refine ⟨(i3.late g q q2 q3).1, fun j g1 g2 g3 => ?_⟩
          rcases Nat.lt_or_eq_of_le g1 with g1 | rfl
          · exact (i3.late g q q2 q3).2 j g1 g2 g3
          · simp only [hA] at g3; omega
        · refine ⟨fun x hx => ?_, fun j g1 g2 => by omega⟩
          simp only [hk1]
          have := List.all_eq_true.1 hall.1 x hx
          simpa only [Bool.or_eq_true] using this
      · rcases Nat.lt_or_eq_of_le q1 with q | rfl
        · exact i3.float g q q2 q3
        · intro f hf
          simp only [hk1]
          have := List.all_eq_true.1 hall.2 f hf
          simpa only [Bool.or_eq_true] using this
def lastW (d : Nat → Option Tmp) (p : Nat → Bool) (t : Tmp) : Nat → Option Nat
 | 0 => none
 | m + 1 => if p m = true ∧ d m = some t then some m else lastW d p t m
def slotV (d : Nat → Option Tmp) (V : Nat → AV) (a : AAct) (p : Nat → Bool) (n : Nat) (t : Tmp) : AV := match lastW d p t n with | some i => V i | none => a.get t
theorem lastW_congr {d : Nat → Option Tmp} {p q : Nat → Bool} {t : Tmp} : ∀ (n : Nat), (∀ i, i < n → d i = some t → p i = q i) → lastW d p t n = lastW d q t n := by
 intro n
 induction n with
 | zero => intro _; rfl
 | succ n ih =>
  intro h;simp only [lastW]
  by_cases hd : d n = some t
  ·rw [h n (by omega) hd, ih fun i hi => h i (by omega)]
  ·rw [if_neg (fun c => hd c.2), if_neg (fun c => hd c.2), ih fun i hi => h i (by omega)]
theorem lastW_add {d : Nat → Option Tmp} {p q : Nat → Bool} {t : Tmp} {j : Nat} (hp : p j = false) (hq : q j = true) (ho : ∀ i, i ≠ j → q i = p i)
  (hlast : d j = some t → ∀ i, p i = true → d i = some t → i < j) : ∀ (n : Nat), lastW d q t n = if j < n ∧ d j = some t then some j else lastW d p t n := by
 intro n
 induction n with
 | zero => rfl
 | succ n ih =>
  simp only [lastW, ih]
  by_cases hn : n = j
  ·subst hn;rw [hp, hq]
   by_cases hd : d n = some t
   ·rw [if_pos ⟨rfl, hd⟩, if_pos ⟨by omega, hd⟩]
   ·rw [if_neg (fun c => hd c.2), if_neg (fun c => hd c.2), if_neg (fun c => hd c.2), if_neg (fun c => by simp at c)]
  ·rw [ho n hn]
   by_cases hpn : p n = true ∧ d n = some t
   ·rw [if_pos hpn, if_pos hpn]
    by_cases hd : d j = some t
    ·have := hlast hd n hpn.1 hpn.2;rw [if_neg (by omega)]
    ·rw [if_neg (fun c => hd c.2)]
   ·rw [if_neg hpn, if_neg hpn]
    by_cases hd : d j = some t
    ·by_cases hj : j < n
     ·rw [if_pos ⟨hj, hd⟩, if_pos ⟨by omega, hd⟩]
     ·rw [if_neg (fun c => hj c.1), if_neg (fun c => by omega)]
    ·rw [if_neg (fun c => hd c.2), if_neg (fun c => hd c.2)]
def rest (p : Nat → Bool) : Nat → Nat
 | 0 => 0
 | m + 1 => rest p m + (if p m = true then 0 else 1)
theorem rest_add {p q : Nat → Bool} {j : Nat} (hp : p j = false) (hq : q j = true) (ho : ∀ i, i ≠ j → q i = p i) : ∀ (n : Nat), rest q n + (if j < n then 1 else 0) = rest p n := by
 intro n
 induction n with
 | zero => rfl
 | succ n ih =>
  simp only [rest]
  by_cases hn : n = j
  ·subst hn;rw [hp, hq];simp at ih ⊢;omega
  ·rw [ho n hn];generalize (if p n = true then 0 else 1 : Nat) = z
   by_cases hj : j < n
   ·have h2 : j < n + 1 := by omega
    rw [if_pos hj] at ih; rw [if_pos h2]; omega
   ·have h2 : ¬ j < n + 1 := by omega
    rw [if_neg hj] at ih; rw [if_neg h2]; omega
theorem rest_zero {p : Nat → Bool} : ∀ (n : Nat), rest p n = 0 → ∀ i, i < n → p i = true := by
 intro n
 induction n with
 | zero => intro _ i hi; omega
 | succ n ih =>
  intro h i hi;simp only [rest] at h
  by_cases hpn : p n = true
  ·rcases Nat.lt_or_eq_of_le (Nat.le_of_lt_succ hi) with h' | rfl
   ·exact ih (by omega) i h'
   ·exact hpn
  ·rw [if_neg hpn] at h; omega
theorem first_or_none (p : Nat → Prop) : ∀ (m k : Nat), (∀ i, k ≤ i → i < k + m → ¬ p i) ∨ ∃ g, k ≤ g ∧ g < k + m ∧ p g ∧ ∀ i, k ≤ i → i < g → ¬ p i := by
 intro m
 induction m with
 | zero => intro k; exact .inl fun i h1 h2 => by omega
 | succ m ih =>
  intro k
  rcases ih k with h | ⟨g, h1, h2, h3, h4⟩
  ·by_cases hp : p (k + m)
   ·exact .inr ⟨k + m, by omega, by omega, hp, h⟩
   ·refine .inl fun i h1 h2 => ?_
    rcases Nat.lt_or_ge i (k + m) with h' | h'
    ·exact h i h1 h'
    ·have : i = k + m := by omega
     rw [this]; exact hp
  ·exact .inr ⟨g, h1, by omega, h3, h4⟩
theorem last_or_none (p : Nat → Prop) : ∀ (m k : Nat), (∀ i, k ≤ i → i < k + m → ¬ p i) ∨ ∃ g, k ≤ g ∧ g < k + m ∧ p g ∧ ∀ i, g < i → i < k + m → ¬ p i := by
 intro m
 induction m with
 | zero => intro k; exact .inl fun i h1 h2 => by omega
 | succ m ih =>
  intro k
  by_cases hp : p (k + m)
  ·exact .inr ⟨k + m, by omega, by omega, hp, fun i h1 h2 => by omega⟩
  ·rcases ih k with h | ⟨g, h1, h2, h3, h4⟩
   ·refine .inl fun i h1 h2 => ?_
    rcases Nat.lt_or_ge i (k + m) with h' | h'
    ·exact h i h1 h'
    ·have : i = k + m := by omega
     rw [this]; exact hp
   ·refine .inr ⟨g, h1, by omega, h3, fun i h5 h6 => ?_⟩
    rcases Nat.lt_or_ge i (k + m) with h' | h'
    ·exact h4 i h5 h'
    ·have : i = k + m := by omega
     rw [this]; exact hp
end
end Go.Am
end
section
namespace Go.Am
open Go.RowKit
section
variable {E : Env} {rec : Task → St → RR}
structure Drawn (rec : Task → St → RR) (E : Env) (ops : Array Oper) (s : Nat → Nat) (A : Nat → AAct) (T : Nat → St) (V : Nat → AV) (m : Nat) : Prop where
 steps : Steps_ rec E ops s A T V 0 ops.size
 le : m ≤ ops.size
 first : ∀ p, p < m → kindAt ops (s p) (A p) ≠ 2
 seen : ∀ p, p < m → kindAt ops (s p) (A p) = 1 → agrees E ops (T m) (s p, A p, V p) = true
 early : ∀ p, m ≤ p → p < ops.size → kindAt ops (s p) (A p) = 1 → ∀ g, m ≤ g → g < p → 2 ≤ kindAt ops (s g) (A g) →
  bitOf (CheckFast.beforeL ops.toList 0 []) (s p) (s g) = true ∨ agrees E ops (T g) (s p, A p, V p) = true
 late : ∀ g, m ≤ g → g < ops.size → 2 ≤ kindAt ops (s g) (A g) → ∀ p, p < g → kindAt ops (s p) (A p) = 1 →
  bitOf (CheckFast.beforeL ops.toList 0 []) (s g) (s p) = true ∨ agrees E ops (T (g + 1)) (s p, A p, V p) = true
 float : ∀ p, p < m → kindAt ops (s p) (A p) = 3 → ∃ ob, (T (p + 1)).heap.get (T p).next = some ob ∧ ∀ g, m ≤ g → g < ops.size → 2 ≤ kindAt ops (s g) (A g) →
  bitOf (CheckFast.beforeL ops.toList 0 []) (s g) (s p) = true ∨ (T (g + 1)).heap.get (T p).next = some ob
 front : ∀ (j : Nat) (o : Oper), ops[j]? = some o → ∀ e ∈ o.after, Region.binds .any e = true → e.on < j
 apart : ∀ (p q : Nat) (x y : Oper), p < q → q < ops.size → ops[s p]? = some x → ops[s q]? = some y → clash ops x y = true → bitOf (CheckFast.beforeL ops.toList 0 []) (s q) (s p) = true
 strong : ∀ (p q : Nat) (x y : Oper), m ≤ p → p < q → q < ops.size → ops[s p]? = some x → ops[s q]? = some y → 2 ≤ kindOf x → 2 ≤ kindOf y → bitOf (CheckFast.beforeL ops.toList 0 []) (s q) (s p) = true
 inj : ∀ p q, p < ops.size → q < ops.size → s p = s q → p = q
 surj : ∀ i, i < ops.size → ∃ p, p < ops.size ∧ s p = i
theorem clash_dst {ops : Array Oper} {x y : Oper} {t : Tmp} (h1 : x.dst = some t) (h2 : t ∈ slotsOf ops y) : clash ops x y = true := by
 unfold clash;rw [h1];simp [h2]
theorem clash_dst' {ops : Array Oper} {x y : Oper} {t : Tmp} (h1 : y.dst = some t) (h2 : t ∈ slotsOf ops x) : clash ops x y = true := by
 unfold clash;rw [h1];simp [h2]
theorem kindOf_le (o : Oper) : kindOf o ≤ 3 := by
 unfold kindOf;split <;> first | omega | (split <;> omega)
theorem blt_eq (i n : Nat) : Nat.blt i n = decide (i < n) := by
 by_cases h : i < n
 ·rw [blt_true.2 h]; simp [h]
 ·have : Nat.blt i n = false := by
   cases hb : Nat.blt i n with
   | false => rfl
   | true => exact absurd (blt_true.1 hb) h
  rw [this]; simp [h]
theorem kindAt_le (ops : Array Oper) (i : Nat) (a : AAct) : kindAt ops i a ≤ 3 := by
 unfold kindAt;cases ops[i]? with
 | none => simp
 | some o =>
  have := kindOf_le o;cases hw : Region.wanted o (yieldedA ops a) <;> simp only [hw, cond_true, cond_false] <;> omega
theorem kindAt_some {ops : Array Oper} {i : Nat} {a : AAct} (h : kindAt ops i a ≠ 0) : ∃ o, ops[i]? = some o ∧ kindOf o = kindAt ops i a ∧ Region.wanted o (yieldedA ops a) = true := by
 unfold kindAt at h ⊢;cases ho : ops[i]? with
 | none => rw [ho] at h; simp at h
 | some o =>
  rw [ho] at h;refine ⟨o, rfl, ?_⟩;cases hw : Region.wanted o (yieldedA ops a) with
  | true => simp [hw]
  | false => simp [hw] at h
theorem aop_new {E : Env} {S S' : St} {ev : Operand → AV} {o : Oper} {nx : ANext} (hk : kindOf o = 3) (h : aop E S ev o = .ok (nx, S')) : ∃ v ob, nx = .val v ∧ S' = S.new ob := by
 unfold aop at h;split at h
 all_goals (rename_i ho; simp only [kindOf, ho] at hk; try omega)
 all_goals (try (split at hk <;> omega))
 ·obtain ⟨v, h1, rfl⟩ := newOf_ok h;obtain ⟨z, k1, k2⟩ := bind_ok h1;obtain ⟨u, k3, k4⟩ := bind_ok k2;cases k4;exact ⟨_, _, rfl, rfl⟩
 ·obtain ⟨v, h1, rfl⟩ := newOf_ok h;obtain ⟨u, k3, k4⟩ := bind_ok h1;cases k4;exact ⟨_, _, rfl, rfl⟩
 ·rename_i t0 len0 parts0
  obtain ⟨v, h1, rfl⟩ := newOf_ok h;obtain ⟨d, k1, k2⟩ := bind_ok h1;split at k2
  ·obtain ⟨sz, k3, k4⟩ := bind_ok k2;cases hb : Nat.blt (2 ^ 24) (len0 * sz) with
   | true => simp only [hb, cond_true] at k4; cases k4
   | false =>
    simp only [hb, cond_false] at k4;obtain ⟨zs, k5, k6⟩ := bind_ok k4;obtain ⟨cs, k7, k8⟩ := bind_ok k6;cases k8;exact ⟨_, _, rfl, rfl⟩
  ·cases k2
theorem opVal_new {ops : Array Oper} {i : Nat} {a : AAct} {S S1 : St} {v : AV} (h : opVal rec E ops i a S = .ok (v, S1)) (hk : kindAt ops i a = 3) : ∃ ob, S1 = S.new ob := by
 obtain ⟨o, ho, k1, k2⟩ := kindAt_some (by omega : kindAt ops i a ≠ 0);unfold opVal at h;rw [ho] at h;simp only [k2, cond_true] at h;cases hop : aop E S a.ev o with
 | error m => rw [hop] at h; cases h
 | ok x =>
  obtain ⟨nx, S2⟩ := x;obtain ⟨v', ob, rfl, rfl⟩ := aop_new (by omega) hop;rw [hop] at h;cases h;exact ⟨ob, rfl⟩
theorem opVal_light {ops : Array Oper} {i : Nat} {a : AAct} {S S1 : St} {v : AV} (h : opVal rec E ops i a S = .ok (v, S1)) (hk : kindAt ops i a < 2) : S1 = S := by
 unfold opVal at h;unfold kindAt at hk;cases ho : ops[i]? with
 | none => rw [ho] at h; cases h
 | some o =>
  rw [ho] at h hk;cases hw : Region.wanted o (yieldedA ops a) with
  | false => simp only [hw, cond_false] at h; cases h; rfl
  | true =>
   simp only [hw, cond_true] at h hk;cases hop : aop E S a.ev o with
   | error m => rw [hop] at h; cases h
   | ok x =>
    obtain ⟨nx, S2⟩ := x;obtain ⟨rfl, v', rfl⟩ := aop_light hk hop;rw [hop] at h;cases h;rfl
theorem opVal_congr {ops : Array Oper} {i : Nat} {a b : AAct} {S : St} {o : Oper} (ho : ops[i]? = some o) (h : ∀ t ∈ o.looksAt ops, a.get t = b.get t) :
  opVal rec E ops i a S = opVal rec E ops i b S ∧ kindAt ops i a = kindAt ops i b ∧ aop E S a.ev o = aop E S b.ev o := by
 have h1 : Region.wanted o (yieldedA ops a) = Region.wanted o (yieldedA ops b) := by
  unfold Region.wanted;cases hg : o.guard with
  | none => rfl
  | some gw =>
   obtain ⟨g, want⟩ := gw
   have hy : yieldedA ops a g = yieldedA ops b g := by
    unfold yieldedA;cases ht : (ops[g]?).bind (·.dst) with
    | none => rfl
    | some t =>
     simp only;rw [h t (by simp [Oper.looksAt, hg, ht])]
   simp only [hy]
 have h2 : ∀ S, aop E S a.ev o = aop E S b.ev o := fun S => aop_congr fun x hx => by
  cases x with
  | tmp t => exact h t (List.mem_append_left _ (List.mem_filterMap.2 ⟨.tmp t, by simpa using hx, rfl⟩))
  | _ => rfl
 refine ⟨?_, ?_, h2 S⟩
 ·unfold opVal;rw [ho];simp only [h1, h2]
 ·unfold kindAt;rw [ho];simp only [h1]
variable {ops : Array Oper} {s : Nat → Nat} {A : Nat → AAct} {T : Nat → St} {V : Nat → AV} {m : Nat} (hD : Drawn rec E ops s A T V m)
include hD
theorem Drawn.same {k n : Nat} (hk : m ≤ k) (hkm : k ≤ n) (hm : n ≤ ops.size) (h : ∀ i, k ≤ i → i < n → ¬ 2 ≤ kindAt ops (s i) (A i)) : T n = T k := by
  induction n with
  | zero => have : k = 0 := by omega
            rw [this]
  | succ n ih =>
    rcases Nat.lt_or_eq_of_le hkm with hlt | rfl
    · have h1 := h n (by omega) (by omega)
      have := opVal_light (hD.steps.val n (by omega) (by omega)) (by omega)
      rw [this]
      exact ih (by omega) (by omega) fun i q1 q2 => h i q1 (by omega)
    · rfl
theorem Drawn.grow {k n : Nat} (hkm : k ≤ n) (hm : n ≤ m) : (T k).next ≤ (T n).next ∧ (T n).low = (T k).low ∧ ∀ id, id < (T k).next → (T n).heap.get id = (T k).heap.get id := by
  have hle := hD.le
  induction n with
  | zero => have : k = 0 := by omega
            subst this; exact ⟨Nat.le_refl _, rfl, fun _ _ => rfl⟩
  | succ n ih =>
    rcases Nat.lt_or_eq_of_le hkm with hlt | rfl
    · obtain ⟨i1, i2, i3⟩ := ih (by omega) (by omega)
      have hv := hD.steps.val n (by omega) (by omega)
      by_cases hk : kindAt ops (s n) (A n) < 2
      · rw [opVal_light hv hk]; exact ⟨i1, i2, i3⟩
      · have h3 : kindAt ops (s n) (A n) = 3 := by
          have := kindAt_le ops (s n) (A n)
          have := hD.first n (by omega)
          omega
        obtain ⟨ob, e⟩ := opVal_new hv h3
        rw [e]
        refine ⟨by simp [St.new]; omega, by simp [St.new, i2], fun id hid => ?_⟩
        rw [St.new_get, if_neg (by omega)]
        exact i3 id hid
    · exact ⟨Nat.le_refl _, rfl, fun _ _ => rfl⟩
theorem Drawn.glb {k n : Nat} (hkm : k ≤ n) (hm : n ≤ m) : (T n).glb = (T k).glb := by
  have hle := hD.le
  induction n with
  | zero => have : k = 0 := by omega
            subst this; rfl
  | succ n ih =>
    rcases Nat.lt_or_eq_of_le hkm with hlt | rfl
    · have i1 := ih (by omega) (by omega)
      have hv := hD.steps.val n (by omega) (by omega)
      by_cases hk : kindAt ops (s n) (A n) < 2
      · rw [opVal_light hv hk]; exact i1
      · have h3 : kindAt ops (s n) (A n) = 3 := by
          have := kindAt_le ops (s n) (A n)
          have := hD.first n (by omega)
          omega
        obtain ⟨ob, e⟩ := opVal_new hv h3
        rw [e]
        exact i1
    · rfl
theorem Drawn.hid {k n : Nat} (hkm : k ≤ n) (hm : n ≤ m) : (T n).hid = (T k).hid := by
  have hle := hD.le
  induction n with
  | zero => have : k = 0 := by omega
            subst this; rfl
  | succ n ih =>
    rcases Nat.lt_or_eq_of_le hkm with hlt | rfl
    · have i1 := ih (by omega) (by omega)
      have hv := hD.steps.val n (by omega) (by omega)
      by_cases hk : kindAt ops (s n) (A n) < 2
      · rw [opVal_light hv hk]; exact i1
      · have h3 : kindAt ops (s n) (A n) = 3 := by
          have := kindAt_le ops (s n) (A n)
          have := hD.first n (by omega)
          omega
        obtain ⟨ob, e⟩ := opVal_new hv h3
        rw [e]
        exact i1
    · rfl
theorem Drawn.fresh {p : Nat} (hp : p < m) (h3 : kindAt ops (s p) (A p) = 3) : (T p).next < (T (p + 1)).next := by
 have hle := hD.le;obtain ⟨ob, e⟩ := opVal_new (hD.steps.val p (by omega) (by omega)) h3;rw [e];simp [St.new]
theorem Drawn.apart_ids {p q : Nat} (hp : p < m) (hq : q < m) (h3 : kindAt ops (s p) (A p) = 3) (h4 : kindAt ops (s q) (A q) = 3) (hne : p ≠ q) : (T p).next ≠ (T q).next := by
 rcases Nat.lt_or_ge p q with h | h
 ·have := hD.fresh hp h3
  have := (hD.grow (show p + 1 ≤ q by omega) (by omega)).1;omega
 ·have := hD.fresh hq h4
  have := (hD.grow (show q + 1 ≤ p by omega) (by omega)).1;omega
theorem Drawn.slots {n : Nat} (hn : n ≤ ops.size) (t : Tmp) : (A n).get t = slotV (fun p => dstAt ops (s p)) V (A 0) (fun i => Nat.blt i n) ops.size t := by
 induction n with
 | zero =>
  have : ∀ k, lastW (fun p => dstAt ops (s p)) (fun i => Nat.blt i 0) t k = none := by
   intro k
   induction k with
   | zero => rfl
   | succ k ih => rw [lastW, if_neg (fun c => by simp [blt_eq] at c), ih]
  simp [slotV, this]
 | succ n ih =>
  have hp := put_ok (hD.steps.put n (by omega) (by omega));rw [hp.2.2.2.1]
  have := lastW_add (d := fun p => dstAt ops (s p)) (t := t) (p := fun i => Nat.blt i n) (q := fun i => Nat.blt i (n + 1)) (j := n) (by simp [blt_eq]) (by simp [blt_eq])
   (fun i hi => by simp [blt_eq]; omega) (fun _ i hi _ => blt_true.1 hi) ops.size
  unfold slotV;rw [this]
  by_cases hd : dstAt ops (s n) = some t
  ·rw [if_pos hd, if_pos ⟨by omega, hd⟩]
  ·rw [if_neg hd, if_neg (fun c => hd c.2)];exact ih (by omega)
omit hD in
theorem closed_of {ops : Array Oper} (hfront : ∀ (j : Nat) (o : Oper), ops[j]? = some o → ∀ e ∈ o.after, Region.binds .any e = true → e.on < j) {j k : Nat} (hj : j < ops.size) (h : bitOf (CheckFast.beforeL ops.toList 0 []) j k = true) :
  ∃ o, ops[j]? = some o ∧ ∃ e ∈ o.after, Region.binds .any e = true ∧ e.on < j ∧ (k = e.on ∨ bitOf (CheckFast.beforeL ops.toList 0 []) e.on k = true) := by
 have ho : ops[j]? = some ops[j] := Array.getElem?_eq_getElem hj;obtain ⟨e, h1, h2, h3⟩ := bit_spec ho (fun e he => hfront _ _ ho e he) h;exact ⟨_, ho, e, h1, h2, hfront _ _ ho e h1 h2, h3⟩
structure SoFar (ops : Array Oper) (s : Nat → Nat) (A : Nat → AAct) (T : Nat → St) (V : Nat → AV) (m : Nat) (r0 : Ren) (w0 : World) (listed : Array Bool) (act : Act) (w : World) (q : Nat) (r : Ren) (aD : AAct) : Prop where
 size : listed.size = ops.size
 closed : ∀ i k, i < ops.size → listed.getD i false = true → bitOf (CheckFast.beforeL ops.toList 0 []) i k = true → listed.getD k false = true
 ge : m ≤ q
 le : q ≤ ops.size
 done : ∀ p, m ≤ p → p < q → 2 ≤ kindAt ops (s p) (A p) → listed.getD (s p) false = true
 todo : ∀ p, q ≤ p → p < ops.size → 2 ≤ kindAt ops (s p) (A p) → listed.getD (s p) false = false
 float : ∀ p, p < m → kindAt ops (s p) (A p) = 3 → listed.getD (s p) false = false → (∀ v, r.row (T p).next v = none) ∧ ∃ ob, (T (p + 1)).heap.get (T p).next = some ob ∧ (T q).heap.get (T p).next = some ob
 up : (T m).next ≤ (T q).next ∧ (T q).low ≤ (T 0).low
 ext : Ext r0 (T 0) w0 r (T q) w
 rel : RelA r aD act
 frame : aD.n = (A 0).n ∧ aD.marks = (A 0).marks ∧ aD.rnd = (A 0).rnd
 slots : ∀ t, aD.get t = slotV (fun p => dstAt ops (s p)) V (A 0) (fun p => listed.getD (s p) false) ops.size t
variable {r0 : Ren} {w0 : World} {listed : Array Bool} {act : Act} {w : World} {q : Nat} {r : Ren} {aD : AAct} {p : Nat} {o : Oper}
theorem SoFar.looks (hS : SoFar ops s A T V m r0 w0 listed act w q r aD) (hpn : p < ops.size) (ho : ops[s p]? = some o) (hj : listed.getD (s p) false = false)
  (hb : ∀ k, bitOf (CheckFast.beforeL ops.toList 0 []) (s p) k = true → listed.getD k false = true) {t : Tmp} (ht : t ∈ slotsOf ops o) :
  ∀ i, i < ops.size → dstAt ops (s i) = some t → (listed.getD (s i) false = Nat.blt i p) := by
 intro i hi hd;obtain ⟨x, hx, hd'⟩ : ∃ x, ops[s i]? = some x ∧ x.dst = some t := by
  unfold dstAt at hd;cases hx : ops[s i]? with
  | none => rw [hx] at hd; cases hd
  | some x => rw [hx] at hd; exact ⟨x, rfl, hd⟩
 rcases Nat.lt_trichotomy i p with h | h | h
 ·rw [hb _ (hD.apart i p _ _ h hpn hx ho (clash_dst hd' ht))];exact (blt_true.2 h).symm
 ·subst h;rw [hj];simp [blt_eq]
 ·have h1 := hD.apart p i _ _ h hi ho hx (clash_dst' hd' ht)
  have : Nat.blt i p = false := by
   cases hb : Nat.blt i p with
   | false => rfl
   | true => have := blt_true.1 hb; omega
  rw [this];cases hl : listed.getD (s i) false with
  | false => rfl
  | true =>
   have := hS.closed (s i) (s p) (Array.getElem?_eq_some_iff.1 hx).1 hl h1;rw [hj] at this;cases this
theorem SoFar.same_slots (hS : SoFar ops s A T V m r0 w0 listed act w q r aD) (hpn : p < ops.size) (ho : ops[s p]? = some o) (hj : listed.getD (s p) false = false)
  (hb : ∀ k, bitOf (CheckFast.beforeL ops.toList 0 []) (s p) k = true → listed.getD k false = true) : ∀ t ∈ o.looksAt ops, aD.get t = (A p).get t := by
 intro t ht;rw [hS.slots, hD.slots (by omega)];unfold slotV;rw [lastW_congr ops.size (hS.looks hD hpn ho hj hb (List.mem_append_right _ ht))]
theorem SoFar.value (hS : SoFar ops s A T V m r0 w0 listed act w q r aD) (hpn : p < ops.size) (ho : ops[s p]? = some o) (hj : listed.getD (s p) false = false)
  (hb : ∀ k, bitOf (CheckFast.beforeL ops.toList 0 []) (s p) k = true → listed.getD k false = true) (hnf : ¬ (p < m ∧ kindAt ops (s p) (A p) = 3)) :
  ∃ q', opVal rec E ops (s p) aD (T q) = .ok (V p, T q') ∧ m ≤ q' ∧ q' ≤ ops.size ∧ (∀ i, m ≤ i → i < q' → 2 ≤ kindAt ops (s i) (A i) → (listed.setIfInBounds (s p) true).getD (s i) false = true) ∧
   (∀ i, q' ≤ i → i < ops.size → 2 ≤ kindAt ops (s i) (A i) → (listed.setIfInBounds (s p) true).getD (s i) false = false) ∧
   (∀ i, i < m → kindAt ops (s i) (A i) = 3 → listed.getD (s i) false = false → ∃ ob, (T (i + 1)).heap.get (T i).next = some ob ∧ (T q').heap.get (T i).next = some ob) := by
 have hjn : s p < ops.size := (Array.getElem?_eq_some_iff.1 ho).1
 have hle := hS.le
 have hge := hS.ge
 have hdm := hD.le
 have hlook := hS.same_slots hD hpn ho hj hb
 have hself : (listed.setIfInBounds (s p) true).getD (s p) false = true := by
  have : s p < listed.size := hS.size ▸ hjn;simp [this]
 have hother : ∀ i, i < ops.size → p ≠ i → (listed.setIfInBounds (s p) true).getD (s i) false = listed.getD (s i) false := fun i hi hpi => getD_set_ne false (fun e => hpi (hD.inj _ _ hpn hi e))
 have hval := hD.steps.val p (by omega) hpn;obtain ⟨c1, c2, c3⟩ := opVal_congr (rec := rec) (E := E) (S := T q) ho hlook;rw [c1]
 by_cases hk : 2 ≤ kindAt ops (s p) (A p)
 ·have hpm : m ≤ p := by
   rcases Nat.lt_or_ge p m with h | h
   ·exfalso
    have := hD.first p h
    have := kindAt_le ops (s p) (A p);exact hnf ⟨h, by omega⟩
   ·exact h
  have hqj : q ≤ p := by
   rcases Nat.lt_or_ge p q with h | h
   ·have := hS.done p hpm h hk;rw [hj] at this;cases this
   ·exact h
  have hno : ∀ i, q ≤ i → i < p → ¬ 2 ≤ kindAt ops (s i) (A i) := by
   intro i h1 h2 h3;obtain ⟨x, hx, kx, _⟩ := kindAt_some (show kindAt ops (s i) (A i) ≠ 0 by omega);obtain ⟨y, hy, ky, _⟩ := kindAt_some (show kindAt ops (s p) (A p) ≠ 0 by omega)
   have := hb _ (hD.strong i p _ _ (by omega) h2 hpn hx hy (by omega) (by omega));rw [hS.todo i h1 (by omega) h3] at this;cases this
  refine ⟨p + 1, ?_, by omega, by omega, fun i h0 h1 h2 => ?_, fun i h1 h2 h3 => ?_, fun i h1 h2 h3 => ?_⟩
  ·rw [← hD.same hge hqj (by omega) hno];exact hval
  ·by_cases hij : p = i
   ·subst hij; exact hself
   ·rw [hother i (by omega) hij]
    rcases Nat.lt_or_ge i q with h | h
    ·exact hS.done i h0 h h2
    ·exact absurd h2 (hno i h (by omega))
  ·rw [hother i h2 (by omega)];exact hS.todo i (by omega) h2 h3
  ·obtain ⟨ob, k1, k2⟩ := hD.float i h1 h2;refine ⟨ob, k1, (k2 p hpm hpn hk).resolve_left fun hbit => ?_⟩
   have := hb _ hbit;rw [h3] at this;cases this
 ·refine ⟨q, ?_, hge, hle, fun i h0 h1 h2 => ?_, fun i h1 h2 h3 => ?_, fun i h1 h2 h3 => (hS.float i h1 h2 h3).2⟩
  ·have hT : T (p + 1) = T p := opVal_light hval (by omega);rw [hT] at hval
   by_cases hz : kindAt ops (s p) (A p) = 0
   ·unfold opVal at hval ⊢;rw [ho] at hval ⊢;cases hw : Region.wanted o (yieldedA ops (A p)) with
    | false => simp only [hw, cond_false, Except.ok.injEq, Prod.mk.injEq] at hval ⊢; exact ⟨hval.1, trivial⟩
    | true =>
     simp only [hw, cond_true] at hval ⊢
     have hk0 : kindOf o = 0 := by simpa [kindAt, ho, hw] using hz
     cases hop : aop E (T p) (A p).ev o with
     | error m => rw [hop] at hval; cases hval
     | ok x =>
      obtain ⟨nx, S2⟩ := x;rw [aop_inert (S2 := T q) hk0 hop];obtain ⟨rfl, v', rfl⟩ := aop_light (by omega) hop;rw [hop] at hval;simp only [Except.ok.injEq, Prod.mk.injEq] at hval ⊢;exact ⟨hval.1, trivial⟩
   ·have h1 : kindAt ops (s p) (A p) = 1 := by omega
    obtain ⟨o', ho', kk, hw⟩ := kindAt_some hz;rw [ho] at ho';cases ho'
    have hk1 : kindOf o = 1 := by omega
    have key : (m ≤ p ∧ T q = T p) ∨ agrees E ops (T q) (s p, A p, V p) = true := by
     have later : ∀ g, m ≤ g → p < g → g < q → 2 ≤ kindAt ops (s g) (A g) → agrees E ops (T (g + 1)) (s p, A p, V p) = true := by
      intro g g0 g1 g2 g3;refine (hD.late g g0 (by omega) g3 p g1 h1).resolve_left fun hbit => ?_
      have hg : s g < ops.size := by
       obtain ⟨x, hx, _⟩ := kindAt_some (show kindAt ops (s g) (A g) ≠ 0 by omega);exact (Array.getElem?_eq_some_iff.1 hx).1
      have := hS.closed (s g) (s p) hg (hS.done g g0 g2 g3) hbit;rw [hj] at this;cases this
     rcases Nat.lt_or_ge p m with hpm | hpm
     ·right
      rcases last_or_none (fun i => 2 ≤ kindAt ops (s i) (A i)) (q - m) m with hn | ⟨g, g1, g2, g3, g4⟩
      ·rw [hD.same (Nat.le_refl _) hge hle (fun i a b => hn i a (by omega))];exact hD.seen p hpm h1
      ·rw [hD.same (show m ≤ g + 1 by omega) (show g + 1 ≤ q by omega) hle fun i a b => g4 i (by omega) (by omega)];exact later g g1 (by omega) (by omega) g3
     ·rcases Nat.lt_or_ge p q with hq | hq
      ·rcases last_or_none (fun i => 2 ≤ kindAt ops (s i) (A i)) (q - (p + 1)) (p + 1) with hn | ⟨g, g1, g2, g3, g4⟩
       ·left
        refine ⟨hpm, ?_⟩;rw [hD.same (k := p + 1) (n := q) (by omega) (by omega) hle (fun i a b => hn i a (by omega)), hT]
       ·right
        rw [hD.same (show m ≤ g + 1 by omega) (show g + 1 ≤ q by omega) hle fun i a b => g4 i (by omega) (by omega)];exact later g (by omega) (by omega) (by omega) g3
      ·rcases first_or_none (fun i => 2 ≤ kindAt ops (s i) (A i)) (p - q) q with hn | ⟨g, g1, g2, g3, g4⟩
       ·left
        exact ⟨hpm, (hD.same hge hq (by omega) (fun i a b => hn i a (by omega))).symm⟩
       ·right
        rw [← hD.same hge g1 (by omega) g4];refine (hD.early p hpm hpn h1 g (by omega) (by omega) g3).resolve_left fun hbit => ?_
        have := hb _ hbit;rw [hS.todo g g1 (by omega) g3] at this;cases this
    rcases key with ⟨_, key⟩ | key
    ·rw [key]; exact hval
    ·unfold agrees at key;simp only [ho] at key;unfold opVal;rw [ho];simp only [hw, cond_true];cases hop : aop E (T q) (A p).ev o with
     | error m => rw [hop] at key; cases key
     | ok x =>
      obtain ⟨nx, S2⟩ := x;obtain ⟨rfl, v', rfl⟩ := aop_light (by omega) hop;rw [hop] at key;rw [E.same.2 _ _ key]
  ·by_cases hij : p = i
   ·subst hij; exact absurd h2 hk
   ·rw [hother i (by omega) hij]; exact hS.done i h0 h1 h2
  ·by_cases hij : p = i
   ·subst hij; exact absurd h3 hk
   ·rw [hother i h2 hij]; exact hS.todo i h1 h2 h3
theorem SoFar.next (hS : SoFar ops s A T V m r0 w0 listed act w q r aD) (hpn : p < ops.size) (ho : ops[s p]? = some o) (hj : listed.getD (s p) false = false)
    (hb : ∀ k, bitOf (CheckFast.beforeL ops.toList 0 []) (s p) k = true → listed.getD k false = true) {q' : Nat} {r1 : Ren} {w1 : World} {x : Value}
    (hq1 : m ≤ q') (hq2 : q' ≤ ops.size) (h3 : ∀ i, m ≤ i → i < q' → 2 ≤ kindAt ops (s i) (A i) → (listed.setIfInBounds (s p) true).getD (s i) false = true)
    (h4 : ∀ i, q' ≤ i → i < ops.size → 2 ≤ kindAt ops (s i) (A i) → (listed.setIfInBounds (s p) true).getD (s i) false = false)
    (h5 : ∀ i, i < m → kindAt ops (s i) (A i) = 3 → (listed.setIfInBounds (s p) true).getD (s i) false = false → (∀ v, r1.row (T i).next v = none) ∧ ∃ ob, (T (i + 1)).heap.get (T i).next = some ob ∧ (T q').heap.get (T i).next = some ob)
    (hup : (T m).next ≤ (T q').next ∧ (T q').low ≤ (T 0).low) (hx : Ext r0 (T 0) w0 r1 (T q') w1) (hr : r.le r1) (hv : RelV r1 (V p) x) :
    ∃ aD', SoFar ops s A T V m r0 w0 (listed.setIfInBounds (s p) true) (act.put (dstAt ops (s p)) x) w1 q' r1 aD' := by
  have hjn : s p < ops.size := (Array.getElem?_eq_some_iff.1 ho).1
  have hput := put_ok (hD.steps.put p (by omega) hpn)
  obtain ⟨aD', hp⟩ : ∃ aD', aD.put (dstAt ops (s p)) (V p) = .ok aD' := by
    have hn : (A p).n = aD.n := by
      have : ∀ k, k ≤ ops.size → (A k).n = (A 0).n := by
        intro k
        induction k with
        | zero => intro _; rfl
        | succ k ih => intro hm; rw [(put_ok (hD.steps.put k (by omega) (by omega))).1]; exact ih (by omega)
      rw [this p (by omega), hS.frame.1]
    cases hd : dstAt ops (s p) with
    | none => exact ⟨aD, rfl⟩
    | some d =>
      have := hput.2.2.2.2 d hd
      rw [hn] at this
      have hblt := blt_true.2 this
      refine ⟨{ n := aD.n, tmps := aD.tmps.set d (V p), marks := aD.marks, rnd := aD.rnd }, ?_⟩
      show (bif Nat.blt d aD.n then _ else _) = _
      rw [hblt]
      rfl
  have hp' := put_ok hp
  have hself : (listed.setIfInBounds (s p) true).getD (s p) false = true := by
    have : s p < listed.size := hS.size ▸ hjn
    simp [this]
  have hother : ∀ i, i ≠ s p → (listed.setIfInBounds (s p) true).getD i false = listed.getD i false := fun i hi => getD_set_ne false (Ne.symm hi)
  refine ⟨aD', by simp [hS.size], fun i k hi hl hbit => ?_, hq1, hq2, h3, h4, h5, hup, hx, (hS.rel.mono hr).put hp hv, ⟨hp'.1.trans hS.frame.1, hp'.2.1.trans hS.frame.2.1, hp'.2.2.1.trans hS.frame.2.2⟩, fun t => ?_⟩
  · refine getD_set_true ?_
    by_cases hij : i = s p
    · subst hij
      exact hb k hbit
    · rw [hother i hij] at hl
      exact hS.closed i k hi hl hbit
  · rw [hp'.2.2.2.1, hS.slots]
    have hd' : dstAt ops (s p) = some t → t ∈ slotsOf ops o := fun hd => by
      have : o.dst = some t := by simpa [dstAt, ho] using hd
      simp [slotsOf, this]
    have e1 : lastW (fun p => dstAt ops (s p)) (fun k => (listed.setIfInBounds (s p) true).getD (s k) false) t ops.size =
        lastW (fun p => dstAt ops (s p)) (fun k => (listed.getD (s k) false && Nat.blt k ops.size) || decide (k = p)) t ops.size := lastW_congr ops.size fun i hi _ => by
      by_cases hip : i = p
      · subst hip; simp [hself]
      · rw [hother (s i) (fun e => hip (hD.inj _ _ hi hpn e))]
        simp [blt_eq, hi, hip]
    have e2 : lastW (fun p => dstAt ops (s p)) (fun k => listed.getD (s k) false) t ops.size =
        lastW (fun p => dstAt ops (s p)) (fun k => listed.getD (s k) false && Nat.blt k ops.size) t ops.size := lastW_congr ops.size fun i hi _ => by simp [blt_eq, hi]
    have := lastW_add (d := fun p => dstAt ops (s p)) (t := t) (p := fun k => listed.getD (s k) false && Nat.blt k ops.size) (q := fun k => (listed.getD (s k) false && Nat.blt k ops.size) || decide (k = p)) (j := p)
      (by simp only [hj, Bool.false_and]) (by simp) (fun i hi => by simp [hi])
      (fun hd i hi hdi => by
        simp only [Bool.and_eq_true] at hi
        have := hS.looks hD hpn ho hj hb (hd' hd) i (blt_true.1 hi.2) hdi
        rw [hi.1] at this
        exact blt_true.1 this.symm) ops.size
    unfold slotV
    rw [e1, this, e2]
    by_cases hd : dstAt ops (s p) = some t
    · rw [if_pos hd, if_pos ⟨hpn, hd⟩]
    · rw [if_neg hd, if_neg (fun c => hd c.2)]
theorem SoFar.step (hG : EnvGood E) (hR : Sound E rec) (hS : SoFar ops s A T V m r0 w0 listed act w q r aD) {Q : Exit → Act → World → Prop} {K : Act → World → Prop} (hpn : p < ops.size) (ho : ops[s p]? = some o) (hj : listed.getD (s p) false = false)
    (he : ∀ e ∈ o.after, Region.binds .any e = true → listed.getD e.on false = true) (hlow : (T 0).low ≤ (T 0).next) (ro : Option Nat)
    (hK : ∀ act' w' q' r' aD', SoFar ops s A T V m r0 w0 (listed.setIfInBounds (s p) true) act' w' q' r' aD' → K act' w') : wpOpIn (fence ro) 0 E.P ops Q (s p) K act w := by
  have hjn : s p < ops.size := (Array.getElem?_eq_some_iff.1 ho).1
  have hdm := hD.le
  have hb : ∀ k, bitOf (CheckFast.beforeL ops.toList 0 []) (s p) k = true → listed.getD k false = true := by
    intro k hk
    obtain ⟨o', ho', e, h1, h2', h2, h3⟩ := closed_of hD.front hjn hk
    rw [ho] at ho'
    cases ho'
    rcases h3 with rfl | h3
    · exact he e h1 h2'
    · exact hS.closed e.on k (by omega) (he e h1 h2') h3
  have hsub : ∀ i, (listed.setIfInBounds (s p) true).getD i false = false → listed.getD i false = false := fun i h => by
    cases hl : listed.getD i false with
    | false => rfl
    | true => rw [getD_set_true hl] at h; cases h
  have hself : (listed.setIfInBounds (s p) true).getD (s p) false = true := by
    have : s p < listed.size := hS.size ▸ hjn
    simp [this]
  by_cases hfl : p < m ∧ kindAt ops (s p) (A p) = 3
  · -- a new row of the first pass
    obtain ⟨hpm, h3⟩ := hfl
    have hlook := hS.same_slots hD hpn ho hj hb
    obtain ⟨c1, c2, c3⟩ := opVal_congr (rec := rec) (E := E) (S := T p) ho hlook
    have hval := hD.steps.val p (by omega) hpn
    obtain ⟨o', ho', kk, hw'⟩ := kindAt_some (show kindAt ops (s p) aD ≠ 0 by omega)
    rw [ho] at ho'
    cases ho'
    have hk3 : kindOf o = 3 := by omega
    rw [← c1] at hval
    unfold opVal at hval
    rw [ho] at hval
    simp only [hw', cond_true] at hval
    cases hop : aop E (T p) aD.ev o with
    | error m => rw [hop] at hval; cases hval
    | ok y =>
      obtain ⟨nx, S2⟩ := y
      obtain ⟨mk, ob, rfl, rfl, x, cs, xs, u, e, k1, k2, k3, k4⟩ := aop_float hG.ok (r := r) (w := w) (fun x => hS.rel.ev x) hk3 hop
      rw [hop] at hval
      simp only [Except.ok.injEq, Prod.mk.injEq] at hval
      obtain ⟨hnone, ob', f1, f2⟩ := hS.float p hpm h3 hj
      have : ob' = ob := by
        rw [← hval.2, St.new_get, if_pos rfl] at f1
        exact (Option.some.inj f1).symm
      subst this
      have g0 := hD.grow (Nat.zero_le p) (by omega)
      have g1 := hD.grow (show p + 1 ≤ m by omega) (Nat.le_refl _)
      have g2 := hD.fresh hpm h3
      have hup := hS.up
      have hxs : xs.size = cs.length := by have := k2.1; simpa using this.symm
      have hle : r.le (r.add (T p).next cs.length (w.heap.size, cs.length, u)) := Ren.add_le (.inl (hnone _))
      have hx := hS.ext.place (id := (T p).next) (.row cs u 0) (.cells xs e (0, 0)) cs.length cs.length u (by rw [← k1]; exact f2) hnone (by omega) (by omega) (by omega)
        ⟨rfl, Nat.le_refl _, fun _ => ⟨xs, e, by rw [World.alloc_get, if_pos rfl], hxs, Nat.le_refl _, fun i v x _ h1 h2 => (k2.2 i v x h1 (by simpa using h2)).mono hle⟩⟩
      have hdst : dstAt ops (s p) = o.dst := by simp [dstAt, ho]
      unfold wpOpIn
      simp only [ho]
      rw [← yielded_rel hS.rel ops, if_pos hw']
      refine ⟨fun _ _ => trivial, ?_⟩
      have hnd : ∀ c, o.op ≠ .defer c := by
        intro c hc
        simp only [aop, hc] at hop
        cases hop
      rw [Oper.semAt_eq _ _ _ hnd, k3]
      obtain ⟨aD', hS'⟩ := hS.next hD hpn ho hj hb (q' := q) (r1 := r.add (T p).next cs.length (w.heap.size, cs.length, u)) (w1 := w.alloc (.cells xs e (0, 0))) (x := x) hS.ge hS.le
        (fun i h0 h1 h2 => getD_set_true (hS.done i h0 h1 h2))
        (fun i h1 h2 h3' => by
          have hip : s i ≠ s p := fun e => by have := hD.inj _ _ h2 hpn e; have := hS.ge; omega
          rw [getD_set_ne false (Ne.symm hip)]
          exact hS.todo i h1 h2 h3')
        (fun i h1 h2 h3' => by
          obtain ⟨d1, d2⟩ := hS.float i h1 h2 (hsub _ h3')
          refine ⟨fun v => ?_, d2⟩
          have hne : i ≠ p := fun e => by subst e; rw [hself] at h3'; cases h3'
          have := hD.apart_ids h1 hpm h2 h3 hne
          simp only [Ren.add, if_neg (fun c : (T i).next = (T p).next ∧ v = cs.length => this c.1)]
          exact d1 v)
        hS.up hx hle (by rw [← hval.1]; exact k4 _ _ hle (Ren.add_same _ _ _ _))
      rw [hdst] at hS'
      exact hK _ _ _ _ _ hS'
  · obtain ⟨q', h1, hq1, hq2, h3, h4, h5⟩ := hS.value hD hpn ho hj hb hfl
    refine opVal_sim hG hR hS.ext.rel hS.rel h1 Q K fun x r1 w1 hx hv => ?_
    have hup := hS.up
    obtain ⟨aD', hS'⟩ := hS.next hD hpn ho hj hb hq1 hq2 h3 h4 (fun i i1 i2 i3 => by
        refine ⟨fun v => ?_, h5 i i1 i2 (hsub _ i3)⟩
        have hn := (hS.float i i1 i2 (hsub _ i3)).1
        have g2 := hD.fresh i1 i2
        have g1 := (hD.grow (show i + 1 ≤ m by omega) (Nat.le_refl _)).1
        cases hr : r1.row (T i).next v with
        | none => rfl
        | some y =>
          rcases hx.born _ _ _ hr with e | ⟨v0, z, e⟩
          · omega
          · rw [hn] at e; cases e)
      ⟨Nat.le_trans hup.1 hx.next, Nat.le_trans hx.low hup.2⟩ (hS.ext.trans hx) hx.sub hv
    exact hK _ _ _ _ _ hS'
theorem SoFar.over (hS : SoFar ops s A T V m r0 w0 listed act w q r aD) (hsn : ∀ p, p < ops.size → s p < ops.size) (hall : ∀ i, i < ops.size → listed.getD i false = true) : Ext r0 (T 0) w0 r (T ops.size) w ∧ RelA r (A ops.size) act := by
 have hT : T ops.size = T q := hD.same hS.ge hS.le (Nat.le_refl _) fun i h1 h2 h3 => by
  have := hS.todo i h1 h2 h3;rw [hall _ (hsn i h2)] at this;cases this
 rw [hT];refine ⟨hS.ext, ?_⟩
 have hframe : ∀ k, k ≤ ops.size → (A k).n = (A 0).n ∧ (A k).marks = (A 0).marks := by
  intro k
  induction k with
  | zero => intro _; exact ⟨rfl, rfl⟩
  | succ k ih =>
   intro hm
   have := put_ok (hD.steps.put k (by omega) (by omega));rw [this.1, this.2.1];exact ih (by omega)
 have hf := hframe _ (Nat.le_refl _);refine ⟨by rw [hf.1, ← hS.frame.1]; exact hS.rel.size, fun t => ?_, by rw [hf.2, ← hS.frame.2.1]; exact hS.rel.marks.1, by rw [hf.2, ← hS.frame.2.1]; exact hS.rel.marks.2⟩
 have : (A ops.size).get t = aD.get t := by
  rw [hS.slots, hD.slots (Nat.le_refl _)];unfold slotV;rw [lastW_congr ops.size fun i hi _ => ?_];rw [hall _ (hsn i hi)];exact blt_true.2 hi
 rw [this];exact hS.rel.get t
omit hD in
theorem none_ready {ops : Array Oper} {listed : Array Bool} (hsz : listed.size = ops.size) (hfront : ∀ (j : Nat) (o : Oper), ops[j]? = some o → ∀ e ∈ o.after, Region.binds .any e = true → e.on < j)
  (h : Region.ready .any ops listed = []) : ∀ i, i < ops.size → listed.getD i false = true := by
 intro i
 induction i using Nat.strongRecOn with
 | _ i ih =>
  intro hi;cases hl : listed.getD i false with
  | true => rfl
  | false =>
   exfalso
   have hil : i < listed.size := hsz ▸ hi
   have : i ∈ Region.ready .any ops listed := by
    refine mem_ready.2 ⟨?_, ops[i], Array.getElem?_eq_getElem hi, fun e he hb => ?_⟩
    ·simp [hil] at hl ⊢;exact hl
    ·have := hfront i _ (Array.getElem?_eq_getElem hi) e he hb;exact ih e.on this (by omega)
   rw [h] at this;cases this
theorem SoFar.any (hG : EnvGood E) (hR : Sound E rec) {Q : Exit → Act → World → Prop} (ro : Option Nat) (hsn : ∀ p, p < ops.size → s p < ops.size) (hlow : (T 0).low ≤ (T 0).next)
  (hQ : ∀ r1 act1 w1, Ext r0 (T 0) w0 r1 (T ops.size) w1 → RelA r1 (A ops.size) act1 → Q .normal act1 w1) : ∀ (fuel : Nat) {listed : Array Bool} {act : Act} {w : World} {q : Nat} {r : Ren} {aD : AAct},
  SoFar ops s A T V m r0 w0 listed act w q r aD → rest (fun i => listed.getD i false) ops.size ≤ fuel → wpAnyIn (fence ro) 0 E.P .any ops Q fuel listed act w := by
 intro fuel
 induction fuel with
 | zero =>
  intro listed act w q r aD hS hf
  have hall := rest_zero ops.size (Nat.le_zero.1 hf);refine ⟨?_, ?_⟩
  ·cases hr : Region.ready .any ops listed with
   | nil => rfl
   | cons i l =>
    exfalso
    have := mem_ready.1 (show i ∈ Region.ready .any ops listed by rw [hr]; simp);obtain ⟨h1, o, ho, _⟩ := this
    have hi : i < ops.size := (Array.getElem?_eq_some_iff.1 ho).1
    have h2 := hall i hi
    have hil : i < listed.size := hS.size ▸ hi;simp [hil] at h1 h2;rw [h1] at h2;cases h2
  ·obtain ⟨h1, h2⟩ := hS.over hD hsn hall;exact hQ _ _ _ h1 h2
 | succ fuel ih =>
  intro listed act w q r aD hS hf;refine ⟨fun hr => ?_, fun i hi => ?_⟩
  ·obtain ⟨h1, h2⟩ := hS.over hD hsn (none_ready hS.size hD.front hr);exact hQ _ _ _ h1 h2
  ·obtain ⟨h1, o, ho, h2⟩ := mem_ready.1 hi
   have hin : i < ops.size := (Array.getElem?_eq_some_iff.1 ho).1
   have hil : i < listed.size := hS.size ▸ hin
   have hl : listed.getD i false = false := by
    simp [hil] at h1 ⊢;exact h1
   obtain ⟨p, hp, hpi⟩ := hD.surj i hin;subst hpi;refine hS.step hD hG hR hp ho hl (fun e he hb => h2 e he hb) hlow ro fun act' w' q' r' aD' hS' => ?_
   refine ih hS' ?_
   have := rest_add (p := fun i => listed.getD i false) (q := fun k => (listed.setIfInBounds (s p) true).getD k false) (j := s p) hl (by simp [hil]) (fun k hk => getD_set_ne false (Ne.symm hk)) ops.size;rw [if_pos hin] at this;omega
end
theorem ordered_spec {ops : Array Oper} {masks : List Nat} {strong : Bool} : ∀ (l before : List Nat), ordered ops masks strong before l = true → ∀ (k j : Nat) (o : Oper), l[k]? = some j → ops[j]? = some o →
  ∀ (i : Nat) (x : Oper), (i ∈ before ∨ ∃ k', k' < k ∧ l[k']? = some i) → ops[i]? = some x → (clash ops x o || (strong && Nat.ble 2 (kindOf x) && Nat.ble 2 (kindOf o))) = true → bitOf masks j i = true := by
 intro l
 induction l with
 | nil => intro before _ k j o hk; simp at hk
 | cons a l ih =>
  intro before h k j o hk ho i x hi hx hc;unfold ordered at h;rw [Bool.and_eq_true] at h;cases k with
  | zero =>
   simp at hk;subst hk
   have h1 := h.1;rw [ho] at h1
   have hib : i ∈ before := hi.resolve_right fun ⟨k', h2, _⟩ => by omega
   have h2 := List.all_eq_true.1 h1 i hib;rw [hx] at h2;simp only [hc, Bool.not_true, Bool.or_false] at h2;exact h2
  | succ k =>
   refine ih (a :: before) h.2 k j o (by simpa using hk) ho i x ?_ hx hc
   rcases hi with hi | ⟨k', h1, h2⟩
   ·exact .inl (by simp [hi])
   ·cases k' with
    | zero => simp at h2; exact .inl (by simp [h2])
    | succ k' => exact .inr ⟨k', by omega, by simpa using h2⟩
def passes (ops : Array Oper) (masks : List Nat) : List Nat := firstPass ops masks ++ secondPass ops masks
theorem passes_spec (ops : Array Oper) (masks : List Nat) : (passes ops masks).length = ops.size ∧ (passes ops masks).Nodup ∧ (∀ i, i ∈ passes ops masks ↔ i < ops.size) := by
 unfold passes firstPass secondPass;rw [CheckFast.force_eq, CheckFast.force_eq];generalize heavyBits ops.toList 0 0 = bits;refine ⟨?_, ?_, fun i => ?_⟩
 ·rw [List.length_append]
  have key : ∀ (l : List Nat) (p : Nat → Bool), (l.filter p).length + (l.filter fun i => !(p i)).length = l.length := by
   intro l p
   induction l with
   | nil => rfl
   | cons a l ih =>
    rw [List.filter_cons, List.filter_cons];cases p a <;> simp <;> omega
  rw [key, List.length_range]
 ·rw [List.nodup_append];refine ⟨List.nodup_range.filter _, List.nodup_range.filter _, fun a ha b hb e => ?_⟩;subst e
  have h1 := (List.mem_filter.1 ha).2
  have h2 := (List.mem_filter.1 hb).2;rw [h1] at h2;cases h2
 ·rw [List.mem_append, List.mem_filter, List.mem_filter, List.mem_range];cases isFirst ops masks bits i <;> simp
theorem rest_le (p : Nat → Bool) (k : Nat) : rest p k ≤ k := by
 induction k with
 | zero => exact Nat.le_refl _
 | succ k ih => simp only [rest]; split <;> omega
theorem drawRun_start {E : Env} {rec : Task → St → RR} {ops : Array Oper} {r : Ren} {a a1 : AAct} {S S1 : St} {act : Act} {w : World} (hok : regionOk ops = true)
    (hw : RelW r S w) (ha : RelA r a act) (h : drawRun rec E ops (CheckFast.beforeL ops.toList 0 []) a S = .ok (a1, S1)) :
    ∃ (s : Nat → Nat) (A : Nat → AAct) (T : Nat → St) (V : Nat → AV) (m : Nat), Drawn rec E ops s A T V m ∧ SoFar ops s A T V m r w (Array.replicate ops.size false) act w m r a ∧ (∀ p, p < ops.size → s p < ops.size) ∧
      T 0 = S ∧ A ops.size = a1 ∧ T ops.size = S1 ∧ (T m).hid = S.hid := by
  unfold regionOk at hok
  rw [forceL_eq] at hok
  simp only [Bool.and_eq_true] at hok
  obtain ⟨⟨hfr, hap⟩, hst⟩ := hok
  have hfront : ∀ (j : Nat) (o : Oper), ops[j]? = some o → ∀ e ∈ o.after, Region.binds .any e = true → e.on < j := by
    intro j o ho e he hb
    have := List.all_eq_true.1 hfr j (List.mem_range.2 (Array.getElem?_eq_some_iff.1 ho).1)
    rw [ho] at this
    have h1 := Array.all_eq_true_iff_forall_mem.1 this e he
    rw [hb] at h1
    simp only [Bool.not_true, Bool.or_false] at h1
    exact blt_true.1 h1
  obtain ⟨hlen, hnd, hmem⟩ := passes_spec ops (CheckFast.beforeL ops.toList 0 [])
  have hpass : passes ops (CheckFast.beforeL ops.toList 0 []) = firstPass ops (CheckFast.beforeL ops.toList 0 []) ++ secondPass ops (CheckFast.beforeL ops.toList 0 []) := rfl
  revert hap hst hpass hlen hnd hmem h
  unfold drawRun
  generalize passes ops (CheckFast.beforeL ops.toList 0 []) = ord
  generalize firstPass ops (CheckFast.beforeL ops.toList 0 []) = l1
  generalize secondPass ops (CheckFast.beforeL ops.toList 0 []) = l2
  intro h hst hap hlen hnd hmem hpass
  subst hpass
  obtain ⟨⟨⟨a2, S2⟩, seen, fl⟩, h1, h2⟩ := bind_ok h
  obtain ⟨hseen, h3⟩ := bif_ok h2
  rw [List.length_append] at hlen
  have hs1 : ∀ i x, l1[i]? = some x → (fun p => (l1 ++ l2).getD p 0) (0 + i) = x := by
    intro i x hx
    have hi : i < l1.length := (List.getElem?_eq_some_iff.1 hx).1
    simp only [Nat.zero_add, List.getD_eq_getElem?_getD, List.getElem?_append_left hi, hx, Option.getD_some]
  have hs2 : ∀ i x, l2[i]? = some x → (fun p => (l1 ++ l2).getD p 0) (l1.length + i) = x := by
    intro i x hx
    simp only [List.getD_eq_getElem?_getD, List.getElem?_append_right (Nat.le_add_right _ _), Nat.add_sub_cancel_left, hx, Option.getD_some]
  obtain ⟨f1, _, _, f4, f5⟩ := first_text (s := fun p => (l1 ++ l2).getD p 0) (a0 := a) (S0 := S) l1 0 hs1 rfl h1
  rw [Nat.zero_add] at f1 f4 f5
  obtain ⟨g1, g2, g3⟩ := second_text (s := fun p => (l1 ++ l2).getD p 0) (a0 := a) (S0 := S) l2 l1.length hs2 f1 h3
  rw [hlen] at g1 g2 g3
  have hget : ∀ p, p < ops.size → (l1 ++ l2)[p]? = some ((l1 ++ l2).getD p 0) := by
    intro p hp
    have : p < (l1 ++ l2).length := by rw [List.length_append]; omega
    simp [List.getD_eq_getElem?_getD, List.getElem?_eq_getElem this]
  generalize hsd : (fun p => (l1 ++ l2).getD p 0) = s at f1 f4 f5 g1 g2 g3
  have hsg : ∀ p, p < ops.size → (l1 ++ l2)[p]? = some (s p) := by intro p hp; rw [← hsd]; exact hget p hp
  have hm : l1.length ≤ ops.size := by omega
  have hsteps : Steps_ rec E ops s (fun i => (at_ rec E ops s a S i).1) (fun i => (at_ rec E ops s a S i).2) (valAt rec E ops s a S) 0 ops.size :=
    ⟨fun i q1 q2 => (Nat.lt_or_ge i l1.length).elim (fun c => f4.val i q1 c) (fun c => g2.val i c q2), fun i q1 q2 => (Nat.lt_or_ge i l1.length).elim (fun c => f4.put i q1 c) (fun c => g2.put i c q2)⟩
  have hT2 : (at_ rec E ops s a S l1.length).2 = S2 := by rw [f1]
  have hD : Drawn rec E ops s (fun i => (at_ rec E ops s a S i).1) (fun i => (at_ rec E ops s a S i).2) (valAt rec E ops s a S) l1.length := by
    refine ⟨hsteps, hm, fun p hp => f5.kind p (Nat.zero_le _) hp, fun p hp hk => ?_, fun p p1 p2 p3 g q1 q2 q3 => (g3.early p p1 p2 p3).2 g q1 q2 q3, fun g q1 q2 q3 p p1 p2 => ?_, fun p p1 p2 => ?_, hfront, ?_, ?_, ?_, ?_⟩
    · simp only [hT2]
      exact List.all_eq_true.1 hseen _ (f5.seen p (Nat.zero_le _) hp hk)
    · rcases Nat.lt_or_ge p l1.length with c | c
      · exact (g3.late g q1 q2 q3).1 _ (f5.seen p (Nat.zero_le _) c p2)
      · exact (g3.late g q1 q2 q3).2 p c p1 p2
    · obtain ⟨ob, e1, e2⟩ := f5.float p (Nat.zero_le _) p1 p2
      refine ⟨ob, e1, fun g q1 q2 q3 => or_snd (g3.float g q1 q2 q3 _ e2) fun e => ?_⟩
      exact floatSame_eq e
    · intro p q x y hpq hq hx hy hc
      exact ordered_spec _ _ hap q (s q) y (hsg q hq) hy (s p) x (.inr ⟨p, hpq, hsg p (by omega)⟩) hx (by simp [hc])
    · intro p q x y hp hpq hq hx hy k1 k2
      have e1 : l2[q - l1.length]? = some (s q) := by rw [← hsg q hq, List.getElem?_append_right (by omega)]
      have e2 : l2[p - l1.length]? = some (s p) := by rw [← hsg p (by omega), List.getElem?_append_right (by omega)]
      have b1 : Nat.ble 2 (kindOf x) = true := Nat.ble_eq_true_of_le k1
      have b2 : Nat.ble 2 (kindOf y) = true := Nat.ble_eq_true_of_le k2
      exact ordered_spec _ _ hst (q - l1.length) (s q) y e1 hy (s p) x (.inr ⟨p - l1.length, by omega, e2⟩) hx (by simp [b1, b2])
    · intro p q hp hq e
      have h1 := hsg p hp
      have h2 := hsg q hq
      rw [← e] at h2
      have hpl : p < (l1 ++ l2).length := by rw [List.length_append]; omega
      have hql : q < (l1 ++ l2).length := by rw [List.length_append]; omega
      rw [List.getElem?_eq_getElem hpl] at h1
      rw [List.getElem?_eq_getElem hql] at h2
      exact (List.getElem_inj hnd).1 ((Option.some.inj h1).trans (Option.some.inj h2).symm)
    · intro i hi
      obtain ⟨p, hp, e⟩ := List.mem_iff_getElem.1 ((hmem i).2 hi)
      have hp' : p < ops.size := by rw [List.length_append] at hp; omega
      refine ⟨p, hp', ?_⟩
      have := hsg p hp'
      rw [List.getElem?_eq_getElem hp, e] at this
      exact (Option.some.inj this).symm
  have hsn : ∀ p, p < ops.size → s p < ops.size := fun p hp => (hmem _).1 (List.mem_of_getElem? (hsg p hp))
  have hfalse : ∀ i, (Array.replicate ops.size false).getD i false = false := by
    intro i
    simp only [Array.getD_eq_getD_getElem?, Array.getElem?_replicate]
    split <;> rfl
  have hlast : ∀ t k, lastW (fun p => dstAt ops (s p)) (fun p => (Array.replicate ops.size false).getD (s p) false) t k = none := by
    intro t k
    induction k with
    | zero => rfl
    | succ k ih => rw [lastW, if_neg (fun c => by rw [hfalse] at c; cases c.1), ih]
  have gr := hD.grow (Nat.zero_le l1.length) (Nat.le_refl _)
  have gr0 : (at_ rec E ops s a S 0).2 = S := rfl
  simp only [gr0] at gr
  have grg := hD.glb (Nat.zero_le l1.length) (Nat.le_refl _)
  simp only [gr0] at grg
  have hext : Ext r S w r (at_ rec E ops s a S l1.length).2 w := by
    refine ⟨.refl r, ⟨fun id ver x hx => ?_, hw.inj, hw.imm, fun id o ho ver b n u hx => ?_, ?_, fun g cs h => hw.glb g cs (by rw [← grg]; exact h)⟩, grg, gr.1, Nat.le_of_eq gr.2.1, fun id h1 _ => gr.2.2 id h1, Nat.le_refl _, rfl, rfl, rfl, fun _ _ => .inl rfl, fun _ _ _ h => .inl h,
      fun _ _ h => .inl h, fun _ _ _ h => .inr ⟨_, _, h⟩, Nat.le_refl _, fun g => by rw [hD.hid (Nat.zero_le l1.length) (Nat.le_refl _)]; exact Nat.le_refl _, fun id hid => ?_⟩
    · have := hw.dom _ _ _ hx
      have := gr.1
      omega
    · have hd := (hw.dom _ _ _ hx).1
      rw [gr.2.2 id hd] at ho
      exact hw.obj _ _ ho _ _ _ _ hx
    · have := hw.low
      have := gr.1
      rw [gr.2.1]; omega
    · by_cases h1 : id < S.next
      · rw [St.live_eq (gr.2.2 id h1)] at hid; exact .inl hid
      · refine .inr fun ver => ?_
        cases hx : r.row id ver with
        | none => rfl
        | some x => exact absurd (hw.dom _ _ _ hx).1 h1
  have hS : SoFar ops s (fun i => (at_ rec E ops s a S i).1) (fun i => (at_ rec E ops s a S i).2) (valAt rec E ops s a S) l1.length r w (Array.replicate ops.size false) act w l1.length r a := by
    refine ⟨by simp, fun i k _ hl => ?_, Nat.le_refl _, hm, fun i h1 h2 => by omega, fun i _ _ _ => hfalse _, fun p h1 h2 _ => ⟨fun v => ?_, ?_⟩, ⟨Nat.le_refl _, Nat.le_of_eq gr.2.1⟩, hext, ha, ⟨rfl, rfl, rfl⟩, fun t => ?_⟩
    · rw [hfalse] at hl; cases hl
    · have g0 := (hD.grow (Nat.zero_le p) (by omega)).1
      simp only [gr0] at g0
      cases hr : r.row (at_ rec E ops s a S p).2.next v with
      | none => rfl
      | some x => have := (hw.dom _ _ _ hr).1; omega
    · obtain ⟨ob, e1, e2⟩ := hD.float p h1 h2
      refine ⟨ob, e1, ?_⟩
      have g0 := hD.grow (show p + 1 ≤ l1.length by omega) (Nat.le_refl _)
      have g1 := hD.fresh h1 h2
      have := g0.2.2 _ g1
      exact this.trans e1
    · unfold slotV
      rw [hlast]
      rfl
  have e1 : (at_ rec E ops s a S ops.size).2 = S1 := by rw [g1]
  have e2 : (at_ rec E ops s a S ops.size).1 = a1 := by rw [g1]
  exact ⟨s, _, _, _, _, hD, hS, hsn, rfl, e2, e1, hD.hid (Nat.zero_le l1.length) (Nat.le_refl _)⟩
section
variable {E : Env} (hG : EnvGood E) {rec : Task → St → RR} (hR : Sound E rec)
include hG hR
theorem drawRun_sim {ops : Array Oper} {ro : Option Nat} {Q : Exit → Act → World → Prop} {r : Ren} {a a1 : AAct} {S S1 : St} {act : Act} {w : World} (hok : regionOk ops = true)
  (hw : RelW r S w) (ha : RelA r a act) (h : drawRun rec E ops (CheckFast.beforeL ops.toList 0 []) a S = .ok (a1, S1))
  (hQ : ∀ r1 act1 w1, Ext r S w r1 S1 w1 → RelA r1 a1 act1 → Q .normal act1 w1) : wpAnyIn (fence ro) 0 E.P .any ops Q ops.size (Array.replicate ops.size false) act w := by
 obtain ⟨s, A, T, V, m, hD, hS, hsn, rfl, rfl, rfl, _⟩ := drawRun_start hok hw ha h;refine hS.any hD hG hR ro hsn hw.low hQ ops.size (rest_le _ _)
end
end Go.Am
end
section
namespace Go.Am
open Go.RowKit
theorem roundsIn_mono {F : Fence} {n : Nat} {P : Program} {c : Code} {Q Q' : Exit → Act → World → Prop} (hq : ∀ e a w, Q e a w → Q' e a w) : ∀ (m : Nat) (a : Act) (w : World),
  Code.roundsIn F n P c Q m a w → Code.roundsIn F n P c Q' m a w := by
 intro m
 induction m with
 | zero => intro a w h; exact h
 | succ m ih =>
  intro a w h;refine wpIn_mono h fun e a1 w1 h1 => ?_
  cases e with
  | normal => exact ih _ _ h1
  | _ => exact hq _ _ _ h1
section
variable {E : Env} (hG : EnvGood E) {rec : Task → St → RR} (hR : Sound E rec) {r : Ren} {S : St} {w : World}
def Says (_E : Env) (r : Ren) (S : St) (w : World) (e : Exit) (a' : AAct) (S' : St) : Exit → Act → World → Prop := fun ex ac w1 => ex = e ∧ ∃ r', Ext r S w r' S' w1 ∧ RelA r' a' ac
theorem Says.of {e : Exit} {a' : AAct} {S' : St} {r1 : Ren} {S1 : St} {w1 : World} (x : Ext r S w r1 S1 w1) {ex : Exit} {ac : Act} {w2 : World} (h : Says E r1 S1 w1 e a' S' ex ac w2) : Says E r S w e a' S' ex ac w2 :=
 ⟨h.1, h.2.choose, x.trans h.2.choose_spec.1, h.2.choose_spec.2⟩
def Shows (E : Env) (c : Code) (a : AAct) (S : St) (e : Exit) (a' : AAct) (S' : St) : Prop :=
 a'.rnd = a.rnd ∧ a'.n = a.n ∧ ∀ r w act ro, RelW r S w → RelA r a act → RelR r a.rnd ro → c.wpIn (fence ro) 0 E.P (Says E r S w e a' S') act w
theorem Sound.shows (hR : Sound E rec) {c : Code} {a : AAct} {S : St} {e : Exit} {a' : AAct} {S' : St} (h : rec (.code c a) S = .ok (.exit e a', S')) (hc : codeOk c = true) : Shows E c a S e a' S' :=
 hR.code c a S e a' S' h hc
include hR
theorem runSeq_shows {x y : Code} {a a' : AAct} {e : Exit} {S' : St} (h : runSeq rec x y a S = .ok (.exit e a', S')) (hx : codeOk x = true) (hy : codeOk y = true) : Shows E (.seq x y) a S e a' S' := by
 obtain ⟨⟨res, S1⟩, h1, h2⟩ := bind_ok h;cases res with
 | ret v => exact (hR.noRet _ _ _ _ _ h1).elim
 | thrown ch => cases h2
 | exit e1 a1 =>
  have s1 := hR.shows h1 hx
  by_cases he : e1 = .normal
  ·subst he
   have s2 := hR.shows h2 hy;refine ⟨s2.1.trans s1.1, s2.2.1.trans s1.2.1, fun r w act ro hw ha hro => wpIn_seq (wpIn_mono (s1.2.2 r w act ro hw ha hro) fun ex ac w1 q => ?_)⟩;obtain ⟨rfl, r1, x1, ha1⟩ := q;refine wpIn_mono (s2.2.2 r1 w1 ac ro x1.rel ha1 (by rw [s1.1]; exact hro.mono x1.sub)) fun ex ac w2 q => q.of x1
  ·have : Except.ok (Res.exit e1 a1, S1) = (.ok (.exit e a', S') : RR) := by
    rw [← h2];cases e1 <;> first | rfl | exact absurd rfl he
   cases this;refine ⟨s1.1, s1.2.1, fun r w act ro hw ha hro => wpIn_seq (wpIn_mono (s1.2.2 r w act ro hw ha hro) fun ex ac w1 q => ?_)⟩;obtain ⟨rfl, q⟩ := q;cases ex with
   | normal => exact absurd rfl he
   | _ => exact ⟨rfl, q⟩
theorem runLoop_rounds {m : Nat} (hm : ∀ c a S e a' S', rec (.code (.loop c) a) S = .ok (.exit e a', S') → codeOk c = true → ∀ r w act ro, RelW r S w → RelA r a act → RelR r a.rnd ro →
      Code.roundsIn (fence ro) 0 E.P c (Says E r S w e a' S') m act w) {c : Code} {a a' : AAct} {e : Exit} {S' : St} (h : runSeq rec c (.loop c) a S = .ok (.exit e a', S')) (hc : codeOk c = true) :
    ∀ r w act ro, RelW r S w → RelA r a act → RelR r a.rnd ro → Code.roundsIn (fence ro) 0 E.P c (Says E r S w e a' S') (m + 1) act w := by
  intro r w act ro hw ha hro
  rw [roundsIn_succ]
  obtain ⟨⟨res, S1⟩, h1, h2⟩ := bind_ok h
  cases res with
  | ret v => exact (hR.noRet _ _ _ _ _ h1).elim
  | thrown ch => cases h2
  | exit e1 a1 =>
    have s1 := hR.shows h1 hc
    refine wpIn_mono (s1.2.2 r w act ro hw ha hro) fun ex ac w1 q => ?_
    obtain ⟨rfl, r1, x1, ha1⟩ := q
    by_cases he : ex = .normal
    · subst he
      exact roundsIn_mono (fun e a w q => q.of x1) _ _ _ (hm _ _ _ _ _ _ h2 hc r1 w1 ac ro x1.rel ha1 (by rw [s1.1]; exact hro.mono x1.sub))
    · have : Except.ok (Res.exit ex a1, S1) = (.ok (.exit e a', S') : RR) := by
        rw [← h2]
        cases ex <;> first | rfl | exact absurd rfl he
      cases this
      cases e with
      | normal => exact absurd rfl he
      | _ => exact ⟨rfl, r1, x1, ha1⟩
theorem runLoop_act {c : Code} {a a' : AAct} {e : Exit} {S' : St} (h : runSeq rec c (.loop c) a S = .ok (.exit e a', S')) (hc : codeOk c = true) : a'.rnd = a.rnd ∧ a'.n = a.n := by
 have := runSeq_shows hR h hc (by unfold codeOk; exact hc);exact ⟨this.1, this.2.1⟩
theorem runBlock_shows {id : Nat} {c : Code} {a a' : AAct} {e : Exit} {S' : St} (h : runBlock rec id c a S = .ok (.exit e a', S')) (hc : codeOk c = true) : Shows E (.block id c) a S e a' S' := by
 obtain ⟨⟨res, S1⟩, h1, h2⟩ := bind_ok h;cases res with
 | ret v => exact (hR.noRet _ _ _ _ _ h1).elim
 | thrown ch => cases h2
 | exit e1 a1 =>
  have s1 := hR.shows h1 hc
  have key : ∃ e0, (∀ Q : Exit → Act → World → Prop, ∀ ac w, Q e0 ac w → Exit.inBlock id Q e1 ac w) ∧ (Except.ok (Res.exit e0 a1, S1) : RR) = .ok (.exit e a', S') := by
   cases e1 with
   | exit id' =>
    simp only at h2;refine ⟨_, fun Q ac w q => ?_, h2⟩
    by_cases hid : id' = id
    ·subst hid
     simpa [Exit.inBlock] using q
    ·have : Nat.beq id' id = false := by
      cases hb : Nat.beq id' id with
      | false => rfl
      | true => exact absurd (Nat.eq_of_beq_eq_true hb) hid
     simpa [Exit.inBlock, hid, this] using q
   | normal => exact ⟨_, fun Q ac w q => q, h2⟩
   | goto l => exact ⟨_, fun Q ac w q => q, h2⟩
   | ret => exact ⟨_, fun Q ac w q => q, h2⟩
   | panic ch => exact ⟨_, fun Q ac w q => q, h2⟩
   | outgrown => exact ⟨_, fun Q ac w q => q, h2⟩
  obtain ⟨e0, k1, k2⟩ := key;cases k2;refine ⟨s1.1, s1.2.1, fun r w act ro hw ha hro => wpIn_block (wpIn_mono (s1.2.2 r w act ro hw ha hro) fun ex ac w1 q => ?_)⟩;obtain ⟨rfl, q⟩ := q;exact k1 _ _ _ ⟨rfl, q⟩
theorem runScope_shows {c : Code} {a a' : AAct} {e : Exit} {S' : St} (h : runScope rec c a S = .ok (.exit e a', S')) (hc : codeOk c = true) : Shows E (.scope c) a S e a' S' := by
 obtain ⟨⟨res, S1⟩, h1, h2⟩ := bind_ok h;cases res with
 | ret v => exact (hR.noRet _ _ _ _ _ h1).elim
 | thrown ch => cases h2
 | exit e1 a1 =>
  have s1 := hR.shows h1 hc
  have key : (∀ Q : Exit → Act → World → Prop, ∀ ac w, Q e1 ac w → noGoto Q e1 ac w) ∧ (Except.ok (Res.exit e1 a1, S1) : RR) = .ok (.exit e a', S') := by
   cases e1 with
   | goto l => cases h2
   | _ => exact ⟨fun Q ac w q => q, h2⟩
  obtain ⟨k1, k2⟩ := key;cases k2;refine ⟨s1.1, s1.2.1, fun r w act ro hw ha hro => wpIn_scope_straight (wpIn_mono (s1.2.2 r w act ro hw ha hro) fun ex ac w1 q => ?_)⟩;obtain ⟨rfl, q⟩ := q;exact k1 _ _ _ ⟨rfl, q⟩
theorem runCond_shows {g : Operand} {x y : Code} {a a' : AAct} {e : Exit} {S' : St} (h : runCond rec (a.ev g) x y a S = .ok (.exit e a', S')) (hx : codeOk x = true) (hy : codeOk y = true) :
  Shows E (.cond g x y) a S e a' S' := by
 unfold runCond at h;split at h
 ·rename_i b hb
  have hc : codeOk (bif b then x else y) = true := by cases b <;> assumption
  have s1 := hR.shows h hc;refine ⟨s1.1, s1.2.1, fun r w act ro hw ha hro => ?_⟩
  have hv := ha.ev g;rw [hb] at hv;refine wpIn_cond (t := b) hv.lit_inv ?_
  have := s1.2.2 r w act ro hw ha hro;cases b <;> exact this
 ·cases h
include hG
theorem runRegion_shows {id : Nat} {ops : Array Oper} {draw : Bool} {a a' : AAct} {e : Exit} {S' : St} (h : runRegion rec E ops draw a S = .ok (.exit e a', S')) (hok : codeOk (.region id ops draw) = true) :
  Shows E (.region id ops draw) a S e a' S' := by
 cases draw with
 | false =>
  unfold runRegion at h;simp only [cond_false] at h;obtain ⟨⟨⟨e1, a1⟩, S1⟩, h1, h2⟩ := bind_ok h;cases h2
  have := xSteps_act _ h1;refine ⟨this.1, this.2, fun r w act ro hw ha hro => wpIn_region ?_⟩;exact xSteps_sim hG hR _ hw ha hro h1 fun r1 act1 w1 x1 ha1 => ⟨rfl, r1, x1, ha1⟩
 | true =>
  unfold runRegion at h;simp only [cond_true, forceL_eq] at h;obtain ⟨⟨a1, S1⟩, h1, h2⟩ := bind_ok h;cases h2
  have := drawRun_act h1;refine ⟨this.1, this.2, fun r w act ro hw ha hro => wpIn_region_any hG.mixed ?_⟩
  have x0 := hw.drawn (w.drawn + 1) (Nat.le_succ _)
  have hok' : regionOk ops = true := by simpa [codeOk] using hok
  exact drawRun_sim hG hR hok' x0.rel ha h1 fun r1 act1 w1 x1 ha1 => ⟨rfl, r1, x0.trans x1, ha1⟩
theorem runCode_shows {m : Nat} (hm : ∀ c a S e a' S', rec (.code (.loop c) a) S = .ok (.exit e a', S') → codeOk c = true → ∀ r w act ro, RelW r S w → RelA r a act → RelR r a.rnd ro →
      Code.roundsIn (fence ro) 0 E.P c (Says E r S w e a' S') m act w) {c : Code} {a a' : AAct} {e : Exit} {S' : St} (h : runCode rec E c a S = .ok (.exit e a', S')) (hc : codeOk c = true) : Shows E c a S e a' S' := by
  unfold runCode at h
  cases c with
  | skip => cases h; exact ⟨rfl, rfl, fun r w act ro hw ha hro => wpIn_skip ⟨rfl, r, .refl hw, ha⟩⟩
  | label l => cases h; exact ⟨rfl, rfl, fun r w act ro hw ha hro => wpIn_label ⟨rfl, r, .refl hw, ha⟩⟩
  | exit id => cases h; exact ⟨rfl, rfl, fun r w act ro hw ha hro => wpIn_exit ⟨rfl, r, .refl hw, ha⟩⟩
  | goto l => cases h; exact ⟨rfl, rfl, fun r w act ro hw ha hro => wpIn_goto ⟨rfl, r, .refl hw, ha⟩⟩
  | ret => cases h; exact ⟨rfl, rfl, fun r w act ro hw ha hro => wpIn_ret ⟨rfl, r, .refl hw, ha⟩⟩
  | seq x y =>
    simp only [codeOk, Bool.and_eq_true] at hc
    exact runSeq_shows hR h hc.1 hc.2
  | cond g x y =>
    simp only [codeOk, Bool.and_eq_true] at hc
    exact runCond_shows hR h hc.1 hc.2
  | block id c => exact runBlock_shows hR h (by simpa [codeOk] using hc)
  | scope c => exact runScope_shows hR h (by simpa [codeOk] using hc)
  | loop c =>
    have hc' : codeOk c = true := by simpa [codeOk] using hc
    have := runLoop_act hR h hc'
    exact ⟨this.1, this.2, fun r w act ro hw ha hro => wpIn_loop_rounds (m + 1) (runLoop_rounds hR hm h hc' r w act ro hw ha hro)⟩
  | region id ops draw => exact runRegion_shows hG hR h hc
  | rangeFunc g ps x y =>
    simp only [codeOk, Bool.and_eq_true] at hc
    have := aRange_act h
    exact ⟨this.1, this.2, fun r w act ro hw ha hro => aRange_sim hG hR hw ha hro h hc.1 hc.2⟩
  | refuse s => cases h
def CallOut (r : Ren) (S S' : St) (w : World) : Res → Ending → World → Prop
 | .ret v, e, w1 => ∃ x r', e = .returned x ∧ Ext r S w r' S' w1 ∧ RelV r' v x
 | .thrown ch, e, w1 => e = .panicked ch ∧ ∃ r', Ext r S w r' S' w1
 | .exit _ _, _, _ => False
theorem runCall_sim {f : FuncId} {args : List AV} {res : Res} {S' : St} (h : runCall rec E f args S = .ok (res, S')) (xs : List Value) (hw : RelW r S w) (ha : RelL r args xs) :
  CallsIn Fence.wide 0 E.P f xs.toArray w (CallOut r S S' w res) := by
 unfold runCall at h;split at h
 ·rename_i g hg
  obtain ⟨⟨v', S1⟩, h1, h2⟩ := bind_ok h;cases h2;exact hG.eff f g hg r S w args xs _ _ hw ha (ofOpt_ok h1)
 rename_i hef
 obtain ⟨fn, h1, h2⟩ := bind_ok h;obtain ⟨c, h3, h4⟩ := bind_ok h2;obtain ⟨⟨res1, S1⟩, h5, h6⟩ := bind_ok h4;cases res1 with
 | ret v => cases h6
 | thrown ch => cases h6
 | exit e a =>
  obtain ⟨u, h7, h8⟩ := bind_ok h6;obtain ⟨⟨u2, S2⟩, h9, h10⟩ := bind_ok h8
  have hfn := ofOpt_ok h1
  have hb := ofOpt_ok h3
  have s1 := hR.shows h5 (hG.body _ _ _ hef hfn hb);refine callsIn_of_wp_marks (hG.ok.fn _ _ hfn).1 hb trivial ?_;refine wpIn_mono (s1.2.2 r w _ none hw (enter_rel ha) trivial) fun ex ac w1 q => ?_
  obtain ⟨rfl, r1, x1, ha1⟩ := q
  have key : u ≠ .run → LeavesInM (fence none) 0 E.P fn ac.tmps (CallOut r S S' w res) ac.defers u w1 := by
   intro hu;refine leaveD_sim hG hR a.marks ac.defers x1.rel ha1.marks.1 ha1.marks.2 hu h9 fun r2 w2 x2 => ?_
   have ha2 := ha1.mono x2.sub;cases u2 with
   | run => cases h10
   | returning =>
    obtain ⟨vs, h11, h12⟩ := bind_ok h10;cases h12;obtain ⟨x, k1, k2⟩ := finals_rel hG.ok x2.rel ha2 h11;exact ⟨x, k1, x, r2, rfl, x1.trans x2, k2⟩
   | panicking ch =>
    cases h10;exact ⟨rfl, r2, x1.trans x2⟩
  cases ex with
  | normal => cases h7; exact key (by simp)
  | ret => cases h7; exact key (by simp)
  | panic ch => cases h7; exact key (by simp)
  | _ => cases h7
end
theorem runCall_noExit {rec : Task → St → RR} {E : Env} {f : FuncId} {args : List AV} {S : St} {e : Exit} {a : AAct} {S' : St} (h : runCall rec E f args S = .ok (.exit e a, S')) : False := by
 unfold runCall at h;split at h
 ·obtain ⟨_, h1, h2⟩ := bind_ok h;cases h2
 obtain ⟨fn, h1, h2⟩ := bind_ok h;obtain ⟨c, h3, h4⟩ := bind_ok h2;obtain ⟨⟨res, S1⟩, h5, h6⟩ := bind_ok h4;cases res with
 | ret v => cases h6
 | thrown v => cases h6
 | exit e a =>
  obtain ⟨u, h7, h8⟩ := bind_ok h6;obtain ⟨⟨u2, S2⟩, h9, h10⟩ := bind_ok h8;cases u2 with
  | run => cases h10
  | returning =>
   obtain ⟨vs, h11, h12⟩ := bind_ok h10;cases h12
  | panicking ch => cases h10
theorem runSeq_noRet {rec : Task → St → RR} (hR : ∀ c a S v S', rec (.code c a) S ≠ .ok (.ret v, S')) {x y : Code} {a : AAct} {S : St} {v : AV} {S' : St} (h : runSeq rec x y a S = .ok (.ret v, S')) : False := by
 obtain ⟨⟨res, S1⟩, h1, h2⟩ := bind_ok h;cases res with
 | ret v => exact hR _ _ _ _ _ h1
 | thrown ch => cases h2
 | exit e1 a1 => cases e1 <;> first | exact hR _ _ _ _ _ h2 | cases h2
theorem runCode_noRet {rec : Task → St → RR} (hR : ∀ c a S v S', rec (.code c a) S ≠ .ok (.ret v, S')) {E : Env} {c : Code} {a : AAct} {S : St} {v : AV} {S' : St} (h : runCode rec E c a S = .ok (.ret v, S')) : False := by
 unfold runCode at h;cases c with
 | skip => cases h
 | label l => cases h
 | exit id => cases h
 | goto l => cases h
 | ret => cases h
 | seq x y => exact runSeq_noRet hR h
 | loop c => exact runSeq_noRet hR h
 | cond g x y =>
  simp only [runCond] at h;split at h
  ·exact hR _ _ _ _ _ h
  ·cases h
 | block id c =>
  obtain ⟨⟨res, S1⟩, h1, h2⟩ := bind_ok h;cases res with
  | ret v => exact hR _ _ _ _ _ h1
  | thrown ch => cases h2
  | exit e1 a1 => cases e1 <;> cases h2
 | scope c =>
  obtain ⟨⟨res, S1⟩, h1, h2⟩ := bind_ok h;cases res with
  | ret v => exact hR _ _ _ _ _ h1
  | thrown ch => cases h2
  | exit e1 a1 => cases e1 <;> cases h2
 | region id ops draw =>
  simp only [runRegion] at h;cases draw with
  | true =>
   obtain ⟨x, h1, h2⟩ := bind_ok h;cases h2
  | false =>
   obtain ⟨x, h1, h2⟩ := bind_ok h;cases h2
 | rangeFunc g ps x y =>
  obtain ⟨⟨d, mark, S1⟩, h1, h2⟩ := bind_ok h;simp only at h2;split at h2
  rotate_left
  ·cases h2
  obtain ⟨fd, hfd, h3⟩ := bind_ok h2;obtain ⟨⟨res, S3⟩, h4, h5⟩ := bind_ok h3;split at h5
  rotate_left
  ·cases h5
  obtain ⟨st, k1, h6⟩ := bind_ok h5;obtain ⟨_, k2, h7⟩ := bind_ok h6;obtain ⟨pending, k3, h8⟩ := bind_ok h7;obtain ⟨S4, k4, h9⟩ := bind_ok h8;cases pending with
  | none => cases h9
  | some c => obtain ⟨e', k5, k6⟩ := bind_ok h9; cases k6
 | refuse s => cases h
theorem run_sound {E : Env} (hG : EnvGood E) : ∀ n, Sound E (run E n) := by
 intro n
 induction n with
 | zero =>
  refine ⟨fun c a S e a' S' h => ?_, fun f args S v S' h => ?_, fun f args S v S' h => ?_, ⟨0, fun c a S e a' S' h => ?_⟩, fun c a S v S' h => ?_, fun f args S e a S' h => ?_⟩ <;> cases h
 | succ n ih =>
  obtain ⟨m, hm⟩ := ih.loop;refine ⟨fun c a S e a' S' h hc => ?_, fun f args S v S' h r w xs hw ha => ?_, fun f args S ch S' h r w xs hw ha => ?_, ⟨m + 1, fun c a S e a' S' h hc => ?_⟩, fun c a S v S' h => ?_, fun f args S e a S' h => ?_⟩
  ·exact runCode_shows hG ih hm h hc
  ·exact runCall_sim hG ih h xs hw ha
  ·exact runCall_sim hG ih h xs hw ha
  ·exact runLoop_rounds ih hm h hc
  ·exact runCode_noRet ih.noRet h
  ·exact runCall_noExit h
end Go.Am
end
section
namespace Go.Am
open Go.RowKit
set_option linter.unusedVariables false
def S0 (E : Env) (f : FuncId) : St := { heap := .leaf, next := 0, low := 0, glb := E.og f }
theorem reify_from {r : Ren} {S : St} {w : World} (lo : Nat) (hw : RelW r S w) (hrow : ∀ id ver x, r.row id ver = some x → lo ≤ x.1) (himm : ∀ b c, r.imm b = some c → lo ≤ b) :
  ∀ (n : Nat) {v t : AV} {x : Value}, RelV r v x → reify n S v = .ok t → RelV (snapR w lo) t x := by
 have hbare : r.bare.le (snapR w lo) := by
  refine ⟨fun id ver x h => by simp [Ren.bare] at h, fun b c h => ?_⟩;obtain ⟨⟨e, fz, hb⟩, _⟩ := hw.imm b c h
  have := himm b c h;simp [snapR, snap, hb, this]
 intro n
 induction n with
 | zero => intro v t x _ h; cases h
 | succ n ih =>
  intro v t x hv h
  have hl : ∀ {cs ds : List AV} {xs : List Value}, RelL r cs xs → mapR (reify n S) cs = .ok ds → RelL (snapR w lo) ds xs := by
   intro cs ds xs h1 h2;obtain ⟨h3, h4⟩ := mapR_rel h2;refine ⟨by rw [h3, h1.1], fun i d x hd hx => ?_⟩;obtain ⟨c, h5, h6⟩ := h4 i d hd;exact ih (h1.2 i c x h5 hx) h6
  unfold reify at h;split at h
  ·cases h;rw [hv.lit_inv];exact .lit _
  ·cases h;cases hv with
   | tree0 => exact .tree0
   | tree h1 h2 h3 h4 =>
    refine .tree h1 h2 (or_snd h3 fun k => ⟨?_, k.2⟩) fun i v x a b => (h4 i v x a b).mono hbare
    exact hbare.imm _ _ k.1
  ·cases h;cases hv with
   | tptr h3 h4 =>
    refine .tptr (or_snd h3 fun k => ⟨?_, k.2⟩) fun i v x a b => (h4 i v x a b).mono hbare
    exact hbare.imm _ _ k.1
  ·cases h;cases hv with
   | empty => exact .tree0
  ·rename_i id off ver ex len cap
   obtain ⟨⟨cs0, u, fl⟩, h1, h2⟩ := bind_ok h;obtain ⟨cs, h3, h4⟩ := bind_ok h2;obtain ⟨ds, h5, h6⟩ := bind_ok h4;cases h6;cases hv with
   | slice hr hn hl' hc he =>
   have hg : S.heap.get id = some (.row cs0 u fl) := rowOf_ok h1;obtain ⟨c, e, k1, k2, k3⟩ := loadN_rel hw hr h3
   have h7 := hl k3 h5
   have hlo := hrow _ _ _ hr
   have hdl : ds.length = len * u := by have := h7.1; simp at this; omega
   refine .tree (c := c) hdl (by omega) (.inr ⟨by simp only at hlo; simp [snapR, snap, k1, hlo], by omega⟩) fun i v x a b => ?_
   refine h7.2 i v x a ?_
   have hi : i < ds.length := (List.getElem?_eq_some_iff.1 a).1;rw [List.getElem?_take, if_pos (by omega), List.getElem?_drop]
   simpa using b
  ·rename_i id off ver
   obtain ⟨cs, h3, h4⟩ := bind_ok h;obtain ⟨ds, h5, h6⟩ := bind_ok h4;cases h6;cases hv with
   | ptr hr =>
   obtain ⟨c, e, k1, k2, k3⟩ := loadN_rel hw hr h3
   have h7 := hl k3 h5
   have hlo := hrow _ _ _ hr
   have hdl : ds.length = ver - off := by have := h7.1; simp at this; omega
   refine .tptr (c := c) (.inr ⟨by simp only at hlo; simp [snapR, snap, k1, hlo], by omega⟩) fun i v x a b => ?_
   refine h7.2 i v x a ?_
   have hi : i < ds.length := (List.getElem?_eq_some_iff.1 a).1;rw [List.getElem?_take, if_pos (by omega), List.getElem?_drop]
   simpa using b
  ·obtain ⟨ds, h5, h6⟩ := bind_ok h;cases h6;obtain ⟨xs, rfl, h1⟩ := hv.agg_inv
   have := hl h1 h5;exact .agg this.1 this.2
  ·obtain ⟨ds, h5, h6⟩ := bind_ok h;cases h6;obtain ⟨xs, rfl, h1⟩ := hv.tuple_inv
   have := hl h1 h5;exact .tuple this.1 this.2
  ·obtain ⟨d, h5, h6⟩ := bind_ok h;cases h6;cases hv with
   | iface h1 => exact .iface (ih h1 h5)
  ·cases h
theorem relW_start (w : World) (imm : Nat → Option (Array Value)) (h : ∀ b c, imm b = some c → ∃ e fz, w.heap[b]? = some (.cells c e fz)) {E : Env} {f : FuncId} (hg : ∀ g cs, lookG (E.og f) g = some cs → imm g = some cs.toArray) : RelW { row := fun _ _ => none, imm } (S0 E f) w :=
  { glb := hg, dom := fun id ver x h => (by cases h), inj := fun id ver x id' ver' x' h => (by cases h), imm := fun b c hb => ⟨h b c hb, fun id ver x h => (by cases h)⟩,
    obj := fun id o h => (by cases h), low := Nat.le_refl _ }
theorem below_of {imm : Nat → Option (Array Value)} {w w' : World} {r' : Ren} {S S' : St} (x : Ext { row := fun _ _ => none, imm } S w r' S' w') : Below w.heap.size w w' :=
 ⟨x.os, x.tape, x.output, x.size, fun k hk => (x.frame k hk).resolve_right fun ⟨id, ver, y, h, _⟩ => by cases h⟩
end Go.Am
end
section
namespace Go.Am
open Go.RowKit
set_option linter.unusedVariables false
def reifyN : Nat → St → AV → R AV
 | 0, _, _ => .error "reify depth"
 | n + 1, S, v =>
  match v with
  | .lit x => .ok (.lit x)
  | .tree u 0 [] => .ok (.tree u 0 [])
  | .empty => .ok (.tree 1 0 [])
  | .slice id off ver _ len _ =>
   (rowOf S id).bind fun (_, u, _) =>
   (loadN S id off ver (len * u)).bind fun cs => (mapR (reifyN n S) cs).bind fun ds => .ok (.tree u len ds)
  | .ptr id off ver =>
   (loadN S id off ver (ver - off)).bind fun cs => (mapR (reifyN n S) cs).bind fun ds => .ok (.tptr ds)
  | .agg cs => (mapR (reifyN n S) cs).bind fun ds => .ok (.agg ds)
  | .tuple cs => (mapR (reifyN n S) cs).bind fun ds => .ok (.tuple ds)
  | .iface t v => (reifyN n S v).bind fun d => .ok (.iface t d)
  | _ => .error "reify"
theorem reifyN_from {r : Ren} {S : St} {w : World} (lo : Nat) (hw : RelW r S w) (hrow : ∀ id ver x, r.row id ver = some x → lo ≤ x.1) :
  ∀ (n : Nat) {v t : AV} {x : Value}, RelV r v x → reifyN n S v = .ok t → RelV (snapR w lo) t x := by
 intro n
 induction n with
 | zero => intro v t x _ h; cases h
 | succ n ih =>
  intro v t x hv h
  have hl : ∀ {cs ds : List AV} {xs : List Value}, RelL r cs xs → mapR (reifyN n S) cs = .ok ds → RelL (snapR w lo) ds xs := by
   intro cs ds xs h1 h2;obtain ⟨h3, h4⟩ := mapR_rel h2;refine ⟨by rw [h3, h1.1], fun i d x hd hx => ?_⟩;obtain ⟨c, h5, h6⟩ := h4 i d hd;exact ih (h1.2 i c x h5 hx) h6
  unfold reifyN at h;split at h
  ·cases h;rw [hv.lit_inv];exact .lit _
  ·cases h;cases hv with
   | tree0 => exact .tree0
   | tree h1 h2 h3 h4 => exact .tree (c := #[]) (by simp) (Nat.zero_le _) (.inl rfl) fun i v x a => by simp at a
  ·cases h;cases hv with
   | empty => exact .tree0
  ·rename_i id off ver ex len cap
   obtain ⟨⟨cs0, u, fl⟩, h1, h2⟩ := bind_ok h;obtain ⟨cs, h3, h4⟩ := bind_ok h2;obtain ⟨ds, h5, h6⟩ := bind_ok h4;cases h6;cases hv with
   | slice hr hn hl' hc he =>
   have hg : S.heap.get id = some (.row cs0 u fl) := rowOf_ok h1;obtain ⟨c, e, k1, k2, k3⟩ := loadN_rel hw hr h3
   have h7 := hl k3 h5
   have hlo := hrow _ _ _ hr
   have hdl : ds.length = len * u := by have := h7.1; simp at this; omega
   refine .tree (c := c) hdl (by omega) (.inr ⟨by simp only at hlo; simp [snapR, snap, k1, hlo], by omega⟩) fun i v x a b => ?_
   refine h7.2 i v x a ?_
   have hi : i < ds.length := (List.getElem?_eq_some_iff.1 a).1;rw [List.getElem?_take, if_pos (by omega), List.getElem?_drop]
   simpa using b
  ·rename_i id off ver
   obtain ⟨cs, h3, h4⟩ := bind_ok h;obtain ⟨ds, h5, h6⟩ := bind_ok h4;cases h6;cases hv with
   | ptr hr =>
   obtain ⟨c, e, k1, k2, k3⟩ := loadN_rel hw hr h3
   have h7 := hl k3 h5
   have hlo := hrow _ _ _ hr
   have hdl : ds.length = ver - off := by have := h7.1; simp at this; omega
   refine .tptr (c := c) (.inr ⟨by simp only at hlo; simp [snapR, snap, k1, hlo], by omega⟩) fun i v x a b => ?_
   refine h7.2 i v x a ?_
   have hi : i < ds.length := (List.getElem?_eq_some_iff.1 a).1;rw [List.getElem?_take, if_pos (by omega), List.getElem?_drop]
   simpa using b
  ·obtain ⟨ds, h5, h6⟩ := bind_ok h;cases h6;obtain ⟨xs, rfl, h1⟩ := hv.agg_inv
   have := hl h1 h5;exact .agg this.1 this.2
  ·obtain ⟨ds, h5, h6⟩ := bind_ok h;cases h6;obtain ⟨xs, rfl, h1⟩ := hv.tuple_inv
   have := hl h1 h5;exact .tuple this.1 this.2
  ·obtain ⟨d, h5, h6⟩ := bind_ok h;cases h6;cases hv with
   | iface h1 => exact .iface (ih h1 h5)
  ·cases h
def RunsTo (E : Env) (f : FuncId) (args : List AV) (t : AV) : Prop := ∃ n v S', run E n (.call f args) (S0 E f) = .ok (.ret v, S') ∧ reifyN 12 S' v = .ok t
theorem snap_start {E : Env} {f : FuncId} (w : World) (hg : GlobIn (E.og f) w) : RelW (snapR w 0) (S0 E f) w := by
 refine relW_start w _ (fun b c hb => ?_) fun g cs h => ?_
 ·simp only [snap, Nat.zero_le, if_true] at hb;cases hx : w.heap[b]? with
  | none => rw [hx] at hb; cases hb
  | some o =>
   rw [hx] at hb;cases o with
   | cells c' e fz => simp at hb; subst hb; exact ⟨e, fz, rfl⟩
   | _ => cases hb
 ·obtain ⟨e, fz, h1⟩ := hg g cs h;simp only [snap, Nat.zero_le, if_true, h1]
theorem RunsTo.callsD {E : Env} (hG : EnvGood E) {f : FuncId} {args : List AV} {t : AV} (h : RunsTo E f args t) (w : World) (xs : List Value) (ha : RelL (snapR w 0) args xs) (hgl : GlobIn (E.og f) w) :
  Calls E.P f xs.toArray w fun e w' => ∃ x, e = .returned x ∧ Reads w' w.heap.size t x ∧ Below w.heap.size w w' ∧ w.drawn ≤ w'.drawn := by
 obtain ⟨n, v, S', h, ht⟩ := h;refine (callsIn_wide.1 ((run_sound hG n).call f args (S0 E f) v S' h _ w xs (snap_start w hgl) ha)).mono fun e w' ⟨x, r', he, hx, hv⟩ => ⟨x, he, ?_, below_of hx, hx.draws⟩
 refine reifyN_from w.heap.size hx.rel (fun id ver y hy => ?_) 12 hv ht
 rcases hx.fresh id ver y hy with h1 | ⟨_, h1 | ⟨ver0, z, h1, _⟩⟩
 ·cases h1
 ·exact h1
 ·cases h1
theorem RunsTo.calls {E : Env} (hG : EnvGood E) {f : FuncId} {args : List AV} {t : AV} (h : RunsTo E f args t) (w : World) (xs : List Value) (ha : RelL (snapR w 0) args xs) (hgl : GlobIn (E.og f) w := by exact globIn_nil _) :
  Calls E.P f xs.toArray w fun e w' => ∃ x, e = .returned x ∧ Reads w' w.heap.size t x ∧ Below w.heap.size w w' :=
 (h.callsD hG w xs ha hgl).mono fun _ _ ⟨x, a, b, c, _⟩ => ⟨x, a, b, c⟩
theorem meets_of {E : Env} (hG : EnvGood E) {f : FuncId} {g : List AV → Option AV} (h : ∀ args t, g args = some t → RunsTo E f args t) : Meets E.P f g (E.og f) :=
 fun w hgl args xs t hl hr hg => (h args t hg).callsD hG w xs ⟨hl, hr⟩ hgl
def table : List (List AV × AV) → List AV → Option AV
  | [], _ => none
  | (a, t) :: l, args => bif allSame (sameA 20) args a then some t else table l args
theorem table_get : ∀ {l : List (List AV × AV)} {args : List AV} {t : AV}, table l args = some t → (args, t) ∈ l
  | [], _, _, h => by cases h
  | (a, t0) :: l, args, t, h => by
    unfold table at h
    cases hs : allSame (sameA 20) args a with
    | true =>
      have := allSame_eq (fun a b => sameA_eq 20 a b) _ _ hs
      simp only [hs, cond_true, Option.some.injEq] at h
      subst this
      subst h
      simp
    | false =>
      simp only [hs, cond_false] at h
      exact List.mem_cons_of_mem _ (table_get h)
noncomputable def runsB (E : Env) (n : Nat) (f : FuncId) (args : List AV) (t : AV) : Bool :=
 match run E n (.call f args) (S0 E f) with
 | .ok (.ret v, S') => (match reifyN 12 S' v with | .ok t' => sameA 20 t' t | .error _ => false)
 | _ => false
theorem RunsTo.of {E : Env} (n : Nat) {f : FuncId} {args : List AV} {t : AV} (h : runsB E n f args t = true) : RunsTo E f args t := by
 unfold runsB at h;split at h
 ·rename_i v S' hr
  split at h
  ·rename_i t' ht
   exact ⟨n, v, S', hr, (sameA_eq _ _ _ h) ▸ ht⟩
  ·cases h
 ·cases h
theorem table_meets {E : Env} (hG : EnvGood E) {f : FuncId} {l : List (List AV × AV)} (h : ∀ x ∈ l, RunsTo E f x.1 x.2) : Meets E.P f (table l) (E.og f) :=
 meets_of hG fun _ _ hg => h _ (table_get hg)
end Go.Am
end
section
namespace Go.Am
open Go.RowKit
def BT.allK {α : Type} (p : Nat → α → Bool) : BT α → Bool
 | .leaf => true
 | .node k v l r => p k v && (l.allK p && r.allK p)
theorem BT.allK_All {α : Type} {p : Nat → α → Bool} : ∀ {t : BT α}, t.allK p = true → t.All fun k v => p k v = true
 | .leaf, _ => trivial
 | .node _ _ _ _, h => by
  simp only [BT.allK, Bool.and_eq_true] at h;exact ⟨h.1, BT.allK_All h.2.1, BT.allK_All h.2.2⟩
def fillT (f : Nat → AV) : Nat → Trie AV
 | 0 => .leaf
 | k + 1 => (fillT f k).set k (f k)
theorem fillT_get (f : Nat → AV) (t : Nat) : ∀ k, (fillT f k).get t = if t < k then some (f t) else none := by
 intro k
 induction k with
 | zero => simp [fillT, Trie.get]
 | succ k ih =>
  rw [fillT, Trie.get_set]
  by_cases h : k = t
  ·subst h; simp
  ·rw [if_neg h, ih]
   by_cases h2 : t < k
   ·rw [if_pos h2, if_pos (by omega)]
   ·rw [if_neg h2, if_neg (by omega)]
def Wrote (ops : Array Oper) (p : Nat → Bool) (t : Tmp) : Prop := ∃ i, i < ops.size ∧ p i = true ∧ dstAt ops i = some t
open Classical in
noncomputable def slotF (ops : Array Oper) (a0 aF : AAct) (p : Nat → Bool) (t : Tmp) : AV := if Wrote ops p t then aF.get t else a0.get t
structure Trees (E : Env) (rec : Task → St → RR) (f : FuncId) (ops : Array Oper) (a0 aF : AAct) (S1 S2 : St) (m : Nat) : Prop where
  size : ops.size = m + 1
  n : a0.n = aF.n
  marks : a0.marks = []
  bound : ∀ i t, dstAt ops i = some t → t < aF.n
  front : ∀ (j : Nat) (o : Oper), ops[j]? = some o → ∀ e ∈ o.after, Region.binds .any e = true → e.on < j
  looks : ∀ (i : Nat) (o : Oper), ops[i]? = some o → ∀ t ∈ o.looksAt ops, a0.get t = aF.get t ∨ ∃ e ∈ o.after, Region.binds .any e = true ∧ dstAt ops e.on = some t
  named : ∀ (i : Nat) (o : Oper), ops[i]? = some o → ∀ t ∈ o.looksAt ops, t < aF.n
  solid : ∀ (i : Nat) (o : Oper), i < m → ops[i]? = some o → ∀ t ∈ o.looksAt ops, reify 12 S1 (aF.get t) = .ok (aF.get t) ∧ reify 12 S2 (aF.get t) = .ok (aF.get t)
  each : ∀ i, i < m → ∃ t, dstAt ops i = some t ∧ ((∃ v S', opVal rec E ops i aF (S0 E f) = .ok (v, S') ∧ reifyN 12 S' v = .ok (aF.get t)) ∨
    ∀ S, S = S1 ∨ S = S2 → opVal rec E ops i aF S = .ok (aF.get t, S))
  last : dstAt ops m = none ∧ ∃ v, opVal rec E ops m aF S1 = .ok (v, S2)
section
variable {E : Env} (hG : EnvGood E) {rec : Task → St → RR} (hR : Sound E rec) {f : FuncId} (hog : E.og f = [])
 {ops : Array Oper} {a0 aF : AAct} {S1 S2 : St} {m : Nat} (hT : Trees E rec f ops a0 aF S1 S2 m)
theorem slotF_more {p q : Nat → Bool} {i : Nat} (hi : i < ops.size) (hq : q i = true) (ho : ∀ k, k ≠ i → q k = p k) (hp : p i = false) (t : Tmp) :
  slotF ops a0 aF q t = if dstAt ops i = some t then aF.get t else slotF ops a0 aF p t := by
 unfold slotF
 by_cases hd : dstAt ops i = some t
 ·rw [if_pos hd, if_pos ⟨i, hi, hq, hd⟩]
 ·rw [if_neg hd]
  have : Wrote ops q t ↔ Wrote ops p t := by
   refine ⟨fun ⟨k, h1, h2, h3⟩ => ?_, fun ⟨k, h1, h2, h3⟩ => ?_⟩
   ·have hk : k ≠ i := fun e => hd (e ▸ h3)
    exact ⟨k, h1, (ho k hk) ▸ h2, h3⟩
   ·have hk : k ≠ i := fun e => by rw [e, hp] at h2; cases h2
    exact ⟨k, h1, (ho k hk).symm ▸ h2, h3⟩
  by_cases hw : Wrote ops p t
  ·rw [if_pos hw, if_pos (this.2 hw)]
  ·rw [if_neg hw, if_neg (fun c => hw (this.1 c))]
include hT in
theorem Trees.same {p : Nat → Bool} {i : Nat} {o : Oper} (ho : ops[i]? = some o) (hb : ∀ e ∈ o.after, Region.binds .any e = true → p e.on = true) {t : Tmp} (ht : t ∈ o.looksAt ops) :
  slotF ops a0 aF p t = aF.get t := by
 unfold slotF
 rcases hT.looks i o ho t ht with h | ⟨e, h1, h2, h3⟩
 ·split
  ·rfl
  ·exact h
 ·have hi : i < ops.size := (Array.getElem?_eq_some_iff.1 ho).1
  have := hT.front i o ho e h1 h2;rw [if_pos ⟨e.on, by omega, hb e h1 h2, h3⟩]
include hG hR hog hT in
theorem Trees.one {r : Ren} {S : St} {w : World} {a : AAct} {act : Act} {p : Nat → Bool} {i : Nat} {o : Oper} (hS : S = S1 ∨ S = S2) (hw : RelW r S w) (ha : RelA r a act) (hm : a.marks = [])
  (hn : a.n = aF.n) (hs : ∀ t, a.get t = slotF ops a0 aF p t) (hi : i < m) (ho : ops[i]? = some o) (hb : ∀ e ∈ o.after, Region.binds .any e = true → p e.on = true) (ro : Option Nat)
  (Q : Exit → Act → World → Prop) (K : Act → World → Prop) (hK : ∀ t x r1 w1, dstAt ops i = some t → Ext r S w r1 S w1 → RelV r1 (aF.get t) x → K (act.put (some t) x) w1) :
  wpOpIn (fence ro) 0 E.P ops Q i K act w := by
 obtain ⟨t, hd, ⟨v, S', hv, ht⟩ | hv⟩ := hT.each i hi
 rotate_left
 ·have hcg : opVal rec E ops i a S = .ok (aF.get t, S) := by
   rw [(opVal_congr (rec := rec) (E := E) (b := aF) ho fun t ht => ?_).1]
   ·exact hv S hS
   ·rw [hs]; exact hT.same ho hb ht
  refine opVal_sim hG hR hw ha hcg Q K fun x r1 w1 hx hv' => ?_
  rw [hd];exact hK t x _ w1 hd hx hv'
 have hwB : RelW (snapR w 0) (S0 E f) w := snap_start w (hog ▸ globIn_nil w)
 let b : AAct := { n := a.n, tmps := fillT (fun t => bif (o.looksAt ops).contains t then aF.get t else .lit (act.tmps.getD t undef)) a.n, marks := [], rnd := none }
 have hget : ∀ t, b.get t = if t < a.n then (bif (o.looksAt ops).contains t then aF.get t else .lit (act.tmps.getD t undef)) else undefA := by
  intro t
  show (match (fillT _ a.n).get t with | some v => v | none => undefA) = _;rw [fillT_get]
  by_cases h : t < a.n
  ·rw [if_pos h, if_pos h]
  ·rw [if_neg h, if_neg h]
 have hbA : RelA (snapR w 0) b act := by
  refine ⟨ha.size, fun t => ?_, ?_⟩
  ·rw [hget]
   by_cases h : t < a.n
   ·rw [if_pos h];cases hc : (o.looksAt ops).contains t with
    | false => exact .lit _
    | true =>
     have hmem : t ∈ o.looksAt ops := List.contains_iff_mem.1 hc
     have h1 := ha.get t;rw [hs, hT.same ho hb hmem] at h1
     have h2 := hT.solid i o hi ho t hmem
     have h3 : reify 12 S (aF.get t) = .ok (aF.get t) := by rcases hS with rfl | rfl; exact h2.1; exact h2.2
     exact reify_rel hw 12 h1 h3
   ·rw [if_neg h]
    have : act.tmps.getD t undef = undef := by simp [ha.size ▸ h]
    rw [this];exact undef_rel _
  ·have := ha.marks.1;rw [hm] at this;refine ⟨this, fun j d dd h1 _ => ?_⟩;simp [b] at h1
 have hcg : opVal rec E ops i b (S0 E f) = .ok (v, S') := by
  rw [(opVal_congr (rec := rec) (E := E) (b := aF) ho fun t ht => ?_).1]
  ·exact hv
  ·rw [hget]
   have hc : (o.looksAt ops).contains t = true := List.contains_iff_mem.2 ht;rw [if_pos (hn ▸ hT.named i o ho t ht), hc];rfl
 refine opVal_sim hG hR hwB hbA hcg Q K fun x r1 w1 hx hv' => ?_
 rw [hd];refine hK t x _ w1 hd (hw.called (below_of hx) hx.draws) (RelV.mono (reifyN_from w.heap.size hx.rel (fun id ver y hy => ?_) 12 hv' ht) (more_snap hw))
 rcases hx.fresh id ver y hy with h1 | ⟨_, h1 | ⟨ver0, z, h1, _⟩⟩
 ·cases h1
 ·exact h1
 ·cases h1
structure TreesAt (ops : Array Oper) (a0 aF : AAct) (S1 S2 : St) (m : Nat) (r0 : Ren) (w0 : World) (listed : Array Bool) (act : Act) (w : World) : Prop where
 size : listed.size = ops.size
 now : ∃ r a, Ext r0 S1 w0 r (if listed.getD m false = true then S2 else S1) w ∧ RelA r a act ∧ a.marks = [] ∧ a.n = aF.n ∧ a.rnd = a0.rnd ∧ ∀ t, a.get t = slotF ops a0 aF (fun i => listed.getD i false) t
include hG hR hog hT in
theorem Trees.any {r0 : Ren} {w0 : World} {Q : Exit → Act → World → Prop} (ro : Option Nat)
  (hQ : ∀ r a act w, Ext r0 S1 w0 r S2 w → RelA r a act → a.marks = [] → a.n = aF.n → a.rnd = a0.rnd → (∀ t, a.get t = slotF ops a0 aF (fun i => Nat.blt i ops.size) t) → Q .normal act w) :
  ∀ (fuel : Nat) {listed : Array Bool} {act : Act} {w : World}, TreesAt ops a0 aF S1 S2 m r0 w0 listed act w → rest (fun i => listed.getD i false) ops.size ≤ fuel → wpAnyIn (fence ro) 0 E.P .any ops Q fuel listed act w := by
 have over : ∀ {listed : Array Bool} {act : Act} {w : World}, TreesAt ops a0 aF S1 S2 m r0 w0 listed act w → (∀ i, i < ops.size → listed.getD i false = true) → Q .normal act w := by
  intro listed act w hS hall;obtain ⟨r, a, h1, h2, h3, h4, h5, h6⟩ := hS.now;rw [if_pos (hall m (by rw [hT.size]; omega))] at h1;refine hQ r a act w h1 h2 h3 h4 h5 fun t => (h6 t).trans ?_
  unfold slotF
  have : Wrote ops (fun i => listed.getD i false) t ↔ Wrote ops (fun i => Nat.blt i ops.size) t :=
   ⟨fun ⟨i, k1, _, k3⟩ => ⟨i, k1, blt_true.2 k1, k3⟩, fun ⟨i, k1, _, k3⟩ => ⟨i, k1, hall i k1, k3⟩⟩
  by_cases hw : Wrote ops (fun i => listed.getD i false) t
  ·rw [if_pos hw, if_pos (this.1 hw)]
  ·rw [if_neg hw, if_neg (fun c => hw (this.2 c))]
 intro fuel
 induction fuel with
 | zero =>
  intro listed act w hS hf
  have hall := rest_zero ops.size (Nat.le_zero.1 hf);refine ⟨?_, over hS hall⟩;cases hr : Region.ready .any ops listed with
  | nil => rfl
  | cons i l =>
   exfalso
   have := mem_ready.1 (show i ∈ Region.ready .any ops listed by rw [hr]; simp);obtain ⟨h1, o, ho, _⟩ := this
   have hi : i < ops.size := (Array.getElem?_eq_some_iff.1 ho).1
   have h2 := hall i hi
   have hil : i < listed.size := hS.size ▸ hi;simp [hil] at h1 h2;rw [h1] at h2;cases h2
 | succ fuel ih =>
  intro listed act w hS hf;refine ⟨fun hr => over hS (none_ready hS.size hT.front hr), fun i hi => ?_⟩;obtain ⟨h1, o, ho, h2⟩ := mem_ready.1 hi
  have hin : i < ops.size := (Array.getElem?_eq_some_iff.1 ho).1
  have hil : i < listed.size := hS.size ▸ hin
  have hl : listed.getD i false = false := by
   simp [hil] at h1 ⊢;exact h1
  have hrest : rest (fun k => (listed.setIfInBounds i true).getD k false) ops.size ≤ fuel := by
   have := rest_add (p := fun k => listed.getD k false) (q := fun k => (listed.setIfInBounds i true).getD k false) (j := i) hl (by simp [hil]) (fun k hk => getD_set_ne false (Ne.symm hk)) ops.size;rw [if_pos hin] at this;omega
  have hmore := slotF_more (a0 := a0) (aF := aF) (p := fun k => listed.getD k false) (q := fun k => (listed.setIfInBounds i true).getD k false) hin (by simp [hil]) (fun k hk => getD_set_ne false (Ne.symm hk)) hl;obtain ⟨r, a, k1, k2, k3, k4, k5, k6⟩ := hS.now
  have hsz : (listed.setIfInBounds i true).size = ops.size := by simp [hS.size]
  by_cases him : i < m
  ·refine hT.one hG hR hog (S := if listed.getD m false = true then S2 else S1) (by split; exact .inr rfl; exact .inl rfl) k1.rel k2 k3 k4 k6 him ho (fun e he hb => h2 e he hb) ro Q _ fun t x r1 w1 hd hx hv => ?_
   refine ih ⟨hsz, r1, (match a.put (some t) (aF.get t) with | .ok a1 => a1 | .error _ => a), ?_⟩ hrest
   have hlt : t < a.n := k4 ▸ hT.bound i t hd
   have hp : a.put (some t) (aF.get t) = .ok { a with tmps := a.tmps.set t (aF.get t) } := by
    unfold AAct.put;simp only [show Nat.blt t a.n = true from blt_true.2 hlt];rfl
   rw [hp];obtain ⟨p1, p2, p3, p4, p5⟩ := put_ok hp
   have hm : (listed.setIfInBounds i true).getD m false = listed.getD m false := getD_set_ne false (by omega);rw [hm];refine ⟨k1.trans hx, (k2.mono hx.sub).put hp hv, p2.trans k3, p1.trans k4, p3.trans k5, fun u => ?_⟩;rw [p4, hmore, k6, hd]
   by_cases hu : some t = some u
   ·cases hu; rfl
   ·rw [if_neg hu, if_neg hu]
  ·have him' : i = m := by have := hT.size; omega
   subst him';obtain ⟨hd, v, hv⟩ := hT.last;rw [hl, if_neg (by simp)] at k1
   have hcg : opVal rec E ops i a S1 = .ok (v, S2) := by
    rw [(opVal_congr (rec := rec) (E := E) (b := aF) ho fun t ht => ?_).1]
    ·exact hv
    ·rw [k6]; exact hT.same ho (fun e he hb => h2 e he hb) ht
   refine opVal_sim hG hR k1.rel k2 hcg Q _ fun x r1 w1 hx _ => ?_
   rw [hd];refine ih ⟨hsz, r1, a, ?_⟩ hrest
   have hm : (listed.setIfInBounds i true).getD i false = true := by simp [hil]
   rw [hm, if_pos rfl];refine ⟨k1.trans hx, k2.mono hx.sub, k3, k4, k5, fun u => ?_⟩;rw [hmore, hd, if_neg (by simp), k6]
include hG hR hog hT in
theorem Trees.region {r0 : Ren} {w0 : World} {Q : Exit → Act → World → Prop} {act : Act} (ro : Option Nat) (hw : RelW r0 S1 w0) (ha : RelA r0 a0 act)
  (hQ : ∀ r a act w, Ext r0 S1 w0 r S2 w → RelA r a act → a.marks = [] → a.n = aF.n → a.rnd = a0.rnd → (∀ t, a.get t = slotF ops a0 aF (fun i => Nat.blt i ops.size) t) → Q .normal act w) :
  wpAnyIn (fence ro) 0 E.P .any ops Q ops.size (Array.replicate ops.size false) act w0 := by
 have hfalse : ∀ i, (Array.replicate ops.size false).getD i false = false := by
  intro i;simp only [Array.getD_eq_getD_getElem?, Array.getElem?_replicate];split <;> rfl
 refine hT.any hG hR hog ro hQ ops.size ⟨by simp, r0, a0, ?_, ha, hT.marks, hT.n, rfl, fun t => ?_⟩ (rest_le _ _)
 ·rw [hfalse, if_neg (by simp)]; exact .refl hw
 ·unfold slotF;rw [if_neg];rintro ⟨i, _, h, _⟩;simp only [hfalse] at h;cases h
end
def isOk {α : Type} : R α → Bool
 | .ok _ => true
 | .error _ => false
def solidB (S : St) (v : AV) : Bool := match reify 12 S v with | .ok t => sameA 20 t v | .error _ => false
theorem solidB_eq {S : St} {v : AV} (h : solidB S v = true) : reify 12 S v = .ok v := by
 unfold solidB at h;split at h
 ·rename_i t ht
  rw [ht, sameA_eq _ _ _ h]
 ·cases h
def stOf (x : R (AV × St)) (S : St) : St := match x with | .ok (_, S1) => S1 | .error _ => S
def treeOf (rec : Task → St → RR) (E : Env) (f : FuncId) (ops : Array Oper) (aF : AAct) (i : Nat) : R AV :=
 (opVal rec E ops i aF (S0 E f)).bind fun x => reifyN 12 x.2 x.1
def fillR (rec : Task → St → RR) (E : Env) (f : FuncId) (ops : Array Oper) (S : St) : List Nat → AAct → AAct
 | [], a => a
 | i :: l, a => fillR rec E f ops S l (match (bif Nat.blt (kindAt ops i a) 2 then (opVal rec E ops i a S).bind fun x => .ok x.1 else treeOf rec E f ops a i) with | .ok t => (match a.put (dstAt ops i) t with | .ok b => b | .error _ => a) | .error _ => a)
def valIs (x : R (AV × St)) (v : AV) : Bool := match x with | .ok (u, _) => sameA 20 u v | .error _ => false
theorem valIs_eq {x : R (AV × St)} {v : AV} (h : valIs x v = true) : ∃ S', x = .ok (v, S') := by
 unfold valIs at h;split at h
 ·rename_i u S'
  exact ⟨S', by rw [sameA_eq _ _ _ h]⟩
 ·cases h
def treesB1 (ops : Array Oper) (a0 aF : AAct) (S1 S2 : St) (m i : Nat) (o : Oper) : Bool :=
  (match o.dst with | none => true | some t => Nat.blt t aF.n) && (o.after.toList.all (fun e => Nat.blt e.on i || !(Region.binds .any e)) &&
    (o.looksAt ops).all fun t => Nat.blt t aF.n && ((sameA 20 (a0.get t) (aF.get t) || o.after.toList.any (fun e => Region.binds .any e && (match dstAt ops e.on with | some u => Nat.beq u t | none => false))) &&
      (Nat.ble m i || (solidB S1 (aF.get t) && solidB S2 (aF.get t)))))
def treesB (rec : Task → St → RR) (E : Env) (f : FuncId) (ops : Array Oper) (a0 aF : AAct) (S1 S2 : St) (m : Nat) : Bool :=
  Nat.beq ops.size (m + 1) && (Nat.beq a0.n aF.n && ((match a0.marks with | [] => true | _ => false) && ((match dstAt ops m with | none => true | some _ => false) &&
  ((List.range ops.size).all (fun i => match ops[i]? with | none => true | some o => treesB1 ops a0 aF S1 S2 m i o) &&
  (List.range m).all (fun i => match dstAt ops i with | none => false | some t => (match treeOf rec E f ops aF i with | .ok v => sameA 20 v (aF.get t) | .error _ => false) ||
    (Nat.blt (kindAt ops i aF) 2 && (valIs (opVal rec E ops i aF S1) (aF.get t) && valIs (opVal rec E ops i aF S2) (aF.get t))))))))
theorem Trees.of {E : Env} {rec : Task → St → RR} {f : FuncId} {ops : Array Oper} {a0 aF : AAct} {S1 : St} {m : Nat} (hl : isOk (opVal rec E ops m aF S1) = true)
    (h : treesB rec E f ops a0 aF S1 (stOf (opVal rec E ops m aF S1) S1) m = true) : Trees E rec f ops a0 aF S1 (stOf (opVal rec E ops m aF S1) S1) m := by
  unfold treesB at h
  simp only [Bool.and_eq_true] at h
  obtain ⟨h1, h2, h3, h4, h5, h6⟩ := h
  have hone : ∀ (i : Nat) (o : Oper), ops[i]? = some o → treesB1 ops a0 aF S1 (stOf (opVal rec E ops m aF S1) S1) m i o = true := by
    intro i o ho
    have := List.all_eq_true.1 h5 i (List.mem_range.2 (Array.getElem?_eq_some_iff.1 ho).1)
    rw [ho] at this
    exact this
  have hlook : ∀ (i : Nat) (o : Oper), ops[i]? = some o → ∀ t ∈ o.looksAt ops, Nat.blt t aF.n = true ∧ ((sameA 20 (a0.get t) (aF.get t) = true ∨ o.after.toList.any (fun e => Region.binds .any e && (match dstAt ops e.on with | some u => Nat.beq u t | none => false)) = true) ∧
      (Nat.ble m i = true ∨ (solidB S1 (aF.get t) = true ∧ solidB (stOf (opVal rec E ops m aF S1) S1) (aF.get t) = true))) := by
    intro i o ho t ht
    have := hone i o ho
    unfold treesB1 at this
    simp only [Bool.and_eq_true] at this
    have := List.all_eq_true.1 this.2.2 t ht
    simpa only [Bool.and_eq_true, Bool.or_eq_true] using this
  refine ⟨Nat.eq_of_beq_eq_true h1, Nat.eq_of_beq_eq_true h2, ?_, fun i t hd => ?_, fun j o ho e he hb => ?_, fun i o ho t ht => ?_, fun i o ho t ht => blt_true.1 (hlook i o ho t ht).1, fun i o hi ho t ht => ?_, fun i hi => ?_, ?_, ?_⟩
  · split at h3
    · assumption
    · cases h3
  · unfold dstAt at hd
    cases ho : ops[i]? with
    | none => rw [ho] at hd; cases hd
    | some o =>
      rw [ho] at hd
      have hd' : o.dst = some t := hd
      have := hone i o ho
      unfold treesB1 at this
      rw [hd'] at this
      simp only [Bool.and_eq_true] at this
      exact blt_true.1 this.1
  · have := hone j o ho
    unfold treesB1 at this
    simp only [Bool.and_eq_true] at this
    have := List.all_eq_true.1 this.2.1 e (Array.mem_toList_iff.2 he)
    rw [hb] at this
    simpa using this
  · rcases (hlook i o ho t ht).2.1 with k | k
    · exact .inl (sameA_eq _ _ _ k)
    · obtain ⟨e, he, k1⟩ := List.any_eq_true.1 k
      rw [Bool.and_eq_true] at k1
      refine .inr ⟨e, Array.mem_toList_iff.1 he, k1.1, ?_⟩
      have k2 := k1.2
      split at k2
      · rename_i u hu
        rw [hu, Nat.eq_of_beq_eq_true k2]
      · cases k2
  · rcases (hlook i o ho t ht).2.2 with k | k
    · have := Nat.le_of_ble_eq_true k; omega
    · exact ⟨solidB_eq k.1, solidB_eq k.2⟩
  · have := List.all_eq_true.1 h6 i (List.mem_range.2 hi)
    split at this
    · cases this
    · rename_i t hd
      rw [Bool.or_eq_true] at this
      rcases this with this | this
      · split at this
        · rename_i v hv
          obtain ⟨⟨v', S'⟩, k1, k2⟩ := bind_ok hv
          exact ⟨t, hd, .inl ⟨v', S', k1, (sameA_eq _ _ _ this) ▸ k2⟩⟩
        · cases this
      · simp only [Bool.and_eq_true] at this
        have hk := blt_true.1 this.1
        refine ⟨t, hd, .inr fun S hS => ?_⟩
        rcases hS with rfl | rfl
        · obtain ⟨S', e⟩ := valIs_eq this.2.1
          rw [e, opVal_light e hk]
        · obtain ⟨S', e⟩ := valIs_eq this.2.2
          rw [e, opVal_light e hk]
  · split at h4
    · assumption
    · cases h4
  · cases hv : opVal rec E ops m aF S1 with
    | error e => rw [hv] at hl; cases hl
    | ok x => exact ⟨x.1, rfl⟩
def seqL : Code → Code | .seq x _ => x | c => c
def seqR : Code → Code | .seq _ y => y | c => c
def opsOf : Code → Array Oper | .region _ o _ => o | _ => #[]
def exitOf (x : RR) (a0 : AAct) (S0 : St) : AAct × St := match x with | .ok (.exit .normal a, S) => (a, S) | _ => (a0, S0)
def isNormal (x : RR) : Bool := match x with | .ok (.exit .normal _, _) => true | _ => false
theorem isNormal_eq {x : RR} {a0 : AAct} {S0 : St} (h : isNormal x = true) : x = .ok (.exit .normal (exitOf x a0 S0).1, (exitOf x a0 S0).2) := by
 unfold isNormal at h;split at h
 ·rfl
 ·cases h
theorem cell_only {fn : Func} {p : Tmp} {t : TypeId} (h : fn.results.toList = [.cell p t]) {E : Env} {S : St} {a b : AAct} (hab : a.get p = b.get p) : resultsOf E S a fn.results.toList = resultsOf E S b fn.results.toList := by
 rw [h];simp only [resultsOf, hab]
def resB (E : Env) (fn : Func) (S2 : St) (aF : AAct) (t : AV) : Bool :=
 match resultsOf E S2 aF fn.results.toList with
 | .ok [v] => (match reify 12 S2 v with | .ok u => sameA 20 u t | .error _ => false)
 | _ => false
theorem resB_eq {E : Env} {fn : Func} {S2 : St} {aF : AAct} {t : AV} (h : resB E fn S2 aF t = true) : ∃ v, resultsOf E S2 aF fn.results.toList = .ok [v] ∧ reify 12 S2 v = .ok t := by
 unfold resB at h;split at h
 ·rename_i v hv
  split at h
  ·rename_i u hu
   exact ⟨v, hv, by rw [hu, sameA_eq _ _ _ h]⟩
  ·cases h
 ·cases h
theorem treesCall {E : Env} (hG : EnvGood E) (n : Nat) {f : FuncId} {fn : Func} {x : Code} {id : Nat} {ops : Array Oper} {a0 aF : AAct} {S1 S2 : St} {m : Nat} {args : List AV} {p : Tmp} {ty : TypeId} {v t : AV}
  (hog : E.og f = []) (hfn : E.fn f = some fn) (hb : fn.body = some (.seq x (.seq (.region id ops true) .ret))) (hx : codeOk x = true)
  (h0 : run E n (.code x (enterAct fn args)) (S0 E f) = .ok (.exit .normal a0, S1)) (hT : Trees E (run E n) f ops a0 aF S1 S2 m)
  (hres : fn.results.toList = [.cell p ty]) (hp : a0.get p = aF.get p) (hv : resultsOf E S2 aF fn.results.toList = .ok [v]) (ht : reify 12 S2 v = .ok t) (w : World) (xs : List Value)
  (ha : ∀ r : Ren, RelL r args xs) :
  Calls E.P f xs.toArray w fun e w' => ∃ x, e = .returned x ∧ Reads w' w.heap.size t x ∧ Below w.heap.size w w' ∧ w.drawn ≤ w'.drawn := by
 have hR := run_sound hG n
 have hw : RelW { row := fun _ _ => none, imm := fun _ => none } (S0 E f) w := relW_start w _ (fun b c h => by cases h) fun g cs h => by rw [hog] at h; cases h
 refine callsIn_wide.1 (callsIn_of_wp_marks (n := 0) (hG.ok.fn _ _ hfn).1 hb trivial ?_)
 have s1 := hR.code _ _ _ _ _ _ h0 hx;refine wpIn_seq (wpIn_mono (s1.2.2 _ w _ none hw (enter_rel (ha _)) (by rw [show (enterAct fn args).rnd = none from rfl]; trivial)) fun ex ac w1 q => ?_);obtain ⟨rfl, r1, x1, ha1⟩ := q;refine wpIn_seq (wpIn_region_any hG.mixed ?_)
 have x0 := x1.rel.drawn (w1.drawn + 1) (Nat.le_succ _);refine hT.region hG hR hog none x0.rel ha1 fun r2 a act w2 x2 ha2 hm hn hr hs => ?_
 refine wpIn_ret ?_
 have hd : act.defers = [] := by
  have := ha2.marks.1;rw [hm] at this;exact List.length_eq_zero_iff.1 this
 have hgp : a.get p = aF.get p := by
  rw [hs];unfold slotF;split
  ·rfl
  ·exact hp
 obtain ⟨y, k1, k2⟩ := finals_rel hG.ok x2.rel ha2 ((cell_only hres hgp).trans hv)
 have xx := (x1.trans x0).trans x2
 have hfin : LeavesInM (fence none) 0 E.P fn act.tmps (fun e w' => ∃ x, e = .returned x ∧ Reads w' w.heap.size t x ∧ Below w.heap.size w w' ∧ w.drawn ≤ w'.drawn) act.defers .returning w2 := by
  rw [hd];refine ⟨y, k1, y, rfl, ?_, below_of xx, xx.draws⟩;refine reify_from w.heap.size x2.rel (fun id ver z hz => ?_) (fun b c hc => ?_) 12 k2 ht
  ·rcases xx.fresh id ver z hz with h1 | ⟨_, h1 | ⟨ver0, z, h1, _⟩⟩
   ·cases h1
   ·exact h1
   ·cases h1
  ·rcases xx.news b c hc with h1 | h1
   ·cases h1
   ·exact h1
 exact hfin
end Go.Am
end
section
namespace Go.Am
open Go.RowKit
set_option linter.unusedVariables false
abbrev Rec := Task → St → RR
def Evt {α : Type} (E : Env) (f : Rec → R α) (Q : α → Prop) : Prop := ∃ x, (∃ n, ∀ m, n ≤ m → f (run E m) = .ok x) ∧ Q x
variable {E : Env} {α β : Type}
theorem Evt.mono {f : Rec → R α} {Q Q' : α → Prop} (h : Evt E f Q) (hq : ∀ x, Q x → Q' x) : Evt E f Q' :=
 let ⟨x, hn, hx⟩ := h; ⟨x, hn, hq x hx⟩
theorem Evt.pure {Q : α → Prop} {x : α} {f : Rec → R α} (h : ∀ rec, f rec = .ok x) (hq : Q x) : Evt E f Q := ⟨x, ⟨0, fun m _ => h _⟩, hq⟩
theorem Evt.ok {Q : α → Prop} {x : α} (hq : Q x) : Evt E (fun _ => .ok x) Q := .pure (fun _ => rfl) hq
theorem Evt.bind {f : Rec → R α} {g : Rec → α → R β} {Q : β → Prop} (h : Evt E f fun x => Evt E (fun rec => g rec x) Q) : Evt E (fun rec => (f rec).bind (g rec)) Q := by
 obtain ⟨x, ⟨n, hn⟩, y, ⟨k, hk⟩, hq⟩ := h;refine ⟨y, ⟨max n k, fun m hm => ?_⟩, hq⟩;simp only [hn m (by omega)];exact hk m (by omega)
theorem Evt.congr {f g : Rec → R α} {Q : α → Prop} (h : Evt E f Q) (hg : ∀ rec, g rec = f rec) : Evt E g Q := by
 have : g = f := funext hg;rw [this];exact h
theorem Evt.task {t : Task} {S : St} {Q : Res × St → Prop} (h : Evt E (fun rec => runStep rec E t S) Q) : Evt E (fun rec => rec t S) Q := by
 obtain ⟨x, ⟨n, hn⟩, hq⟩ := h;refine ⟨x, ⟨n + 1, fun m hm => ?_⟩, hq⟩;cases m with
 | zero => omega
 | succ m => exact hn m (by omega)
theorem Evt.runsTo {f : FuncId} {args : List AV} {t : AV} (h : Evt E (fun rec => rec (.call f args) (S0 E f)) fun r => ∃ v S', r = (.ret v, S') ∧ reifyN 12 S' v = .ok t) : RunsTo E f args t := by
 obtain ⟨x, ⟨n, hn⟩, v, S', rfl, h⟩ := h;exact ⟨n, v, S', hn n (Nat.le_refl _), h⟩
abbrev Sl := List (Nat × AV)
def lk : Sl → Nat → Option AV
  | [], _ => none
  | (k, v) :: l, n => bif Nat.beq k n then some v else lk l n
structure HasA (a : AAct) (n : Nat) (rnd : Option Nat) (mk : List Dfr) (σ : Sl) : Prop where
 n : a.n = n
 rnd : a.rnd = rnd
 marks : a.marks = mk
 get : ∀ t v, lk σ t = some v → a.get t = v
inductive Thing where
 | row (id u : Nat) (cells : List AV)
 | obj (id : Nat) (o : AObj)
 | own (z : Bool) (v : AV) (u n : Nat) (cells : List AV)
 | cnt (id : Nat) (KP : Value → Prop) (f : Value → Int) (mk : List (Value × Nat))
 | glb (G : List (Nat × List Value))
 | hid (g n : Nat)
def nilS : AV := .lit (.slice none 0 0)
noncomputable def lkp : List (Value × Int × Nat) → Value → Int
 | [], _ => 0
 | e :: l, k => @ite _ (e.1 = k) (Classical.propDecidable _) e.2.1 (lkp l k)
def IsCnt (S : St) (id : Nat) (KP : Value → Prop) (f : Value → Int) (mk : List (Value × Nat)) : Prop :=
 ∃ (l : List (Value × Int × Nat)) (c : Nat), S.heap.get id = some (.map (l.map fun e => (e.1, .lit (.int .i64 e.2.1), e.2.2)) c) ∧ (∀ e ∈ l, KP e.1 ∧ e.2.2 < c) ∧ (l.map (·.1)).Nodup ∧ (l.map (·.2.2)).Nodup ∧
  (∀ k, f k = lkp l k) ∧ ∀ p ∈ mk, ∃ n, (p.1, n, p.2) ∈ l
def IsRow (S : St) (id u : Nat) (cells : List AV) : Prop := ∃ fl, fl ≤ cells.length ∧ S.heap.get id = some (.row cells u fl)
def Thing.ok (S : St) : Thing → Prop
 | .row id u cells => IsRow S id u cells
 | .obj id o => S.heap.get id = some o
 | .cnt id KP f mk => IsCnt S id KP f mk
 | .glb G => S.glb = G
 | .hid g n => S.hid g = n ∧ g < S.next
 | .own z v u n cells => (z = true ∧ v = nilS ∧ n = 0 ∧ cells = []) ∨ ∃ id ex, v = .slice id 0 cells.length ex n n ∧ cells.length = n * u ∧ (z = true → n ≠ 0) ∧ IsRow S id u cells
def Thing.id : Thing → Option Nat
 | .row id _ _ => some id
 | .obj id _ => some id
 | .cnt id _ _ _ => some id
 | .glb _ => none
 | .hid g _ => some g
 | .own _ (.slice id _ _ _ _ _) _ _ _ => some id
 | .own _ _ _ _ _ => none
def Thing.apart (x y : Thing) : Prop := ∀ i, x.id = some i → y.id ≠ some i
structure HasS (S : St) (hs : List Thing) : Prop where
 wf : ∀ id, S.next ≤ id → S.heap.get id = none
 ok : ∀ x ∈ hs, x.ok S
 apart : hs.Pairwise Thing.apart
structure Sy where
 ms : List Dfr
 sl : Sl
 hs : List Thing
structure Is (n : Nat) (rnd : Option Nat) (a : AAct) (S : St) (s : Sy) : Prop where
 act : HasA a n rnd s.ms s.sl
 mem : HasS S s.hs
structure Sub (s s' : Sy) : Prop where
 ms : s.ms = s'.ms
 sl : ∀ t v, lk s.sl t = some v → lk s'.sl t = some v
 hs : s.hs.Sublist s'.hs
theorem Sub.refl (s : Sy) : Sub s s := ⟨rfl, fun _ _ h => h, .refl _⟩
theorem Sub.trans {a b c : Sy} (h : Sub a b) (k : Sub b c) : Sub a c := ⟨h.ms.trans k.ms, fun t v x => k.sl t v (h.sl t v x), h.hs.trans k.hs⟩
theorem HasS.sub {S : St} {hs hs' : List Thing} (h : HasS S hs') (k : hs.Sublist hs') : HasS S hs := ⟨h.wf, fun x hx => h.ok x (k.subset hx), h.apart.sublist k⟩
theorem HasS.perm {S : St} {hs hs' : List Thing} (h : HasS S hs') (k : hs.Perm hs') : HasS S hs :=
 ⟨h.wf, fun x hx => h.ok x (k.subset hx), (k.pairwise_iff (fun {x y} hxy i h1 h2 => hxy i h2 h1)).2 h.apart⟩
theorem Is.sub {n : Nat} {rnd : Option Nat} {a : AAct} {S : St} {s s' : Sy} (h : Is n rnd a S s') (k : Sub s s') : Is n rnd a S s :=
 ⟨⟨h.act.n, h.act.rnd, h.act.marks.trans k.ms.symm, fun t v x => h.act.get t v (k.sl t v x)⟩, h.mem.sub k.hs⟩
def T (E : Env) (n : Nat) (rnd : Option Nat) (c : Code) (s : Sy) (Q : Exit → Sy → Prop) : Prop :=
 ∀ a S, Is n rnd a S s → Evt E (fun rec => rec (.code c a) S) fun r => ∃ e a' S' s', r = (.exit e a', S') ∧ Is n rnd a' S' s' ∧ Q e s'
def Chain (E : Env) (ops : Array Oper) (S : St) : List Nat → AAct → AAct → Prop
 | [], a, a' => a' = a
 | i :: l, a, a' => ∃ v a1, (∃ n, ∀ m, n ≤ m → opVal (run E m) E ops i a S = .ok (v, S)) ∧ a.put (dstAt ops i) v = .ok a1 ∧ Chain E ops S l a1 a'
def TO (E : Env) (still : Bool) (n : Nat) (rnd : Option Nat) (ops : Array Oper) (l : List Nat) (s : Sy) (Q : Sy → Prop) : Prop :=
 ∀ a S, Is n rnd a S s → match still with
  | false => Evt E (fun rec => opSteps rec E ops l a S) fun r => ∃ s', Is n rnd r.1 r.2 s' ∧ Q s'
  | true => ∃ a', Chain E ops S l a a' ∧ ∃ s', Is n rnd a' S s' ∧ Q s'
def TF (E : Env) (f : FuncId) (args : List AV) (hs : List Thing) (Q : AV → List Thing → Prop) : Prop :=
 ∀ S, HasS S hs → Evt E (fun rec => rec (.call f args) S) fun r => ∃ v S' hs', r = (.ret v, S') ∧ HasS S' hs' ∧ Q v hs'
variable {n : Nat} {rnd : Option Nat} {s : Sy} {Q : Exit → Sy → Prop}
theorem T.mono {c : Code} {Q' : Exit → Sy → Prop} (h : T E n rnd c s Q) (hq : ∀ e s, Q e s → Q' e s) : T E n rnd c s Q' :=
 fun a S hi => (h a S hi).mono fun r ⟨e, a', S', s', h1, h2, h3⟩ => ⟨e, a', S', s', h1, h2, hq _ _ h3⟩
theorem T.keep {c : Code} {s' : Sy} (k : Sub s' s) (h : T E n rnd c s' Q) : T E n rnd c s Q := fun a S hi => h a S (hi.sub k)
theorem T.of_step {c : Code} (h : ∀ a S, Is n rnd a S s → Evt E (fun rec => runCode rec E c a S) fun r => ∃ e a' S' s', r = (.exit e a', S') ∧ Is n rnd a' S' s' ∧ Q e s') : T E n rnd c s Q :=
 fun a S hi => Evt.task (h a S hi)
theorem T.skip (h : Q .normal s) : T E n rnd .skip s Q := .of_step fun a S hi => .ok ⟨_, _, _, _, rfl, hi, h⟩
theorem T.exit {i : Nat} (h : Q (.exit i) s) : T E n rnd (.exit i) s Q := .of_step fun a S hi => .ok ⟨_, _, _, _, rfl, hi, h⟩
theorem T.goto {l : Nat} (h : Q (.goto l) s) : T E n rnd (.goto l) s Q := .of_step fun a S hi => .ok ⟨_, _, _, _, rfl, hi, h⟩
theorem T.label {l : Nat} (h : Q .normal s) : T E n rnd (.label l) s Q := .of_step fun a S hi => .ok ⟨_, _, _, _, rfl, hi, h⟩
theorem T.ret (h : Q .ret s) : T E n rnd .ret s Q := .of_step fun a S hi => .ok ⟨_, _, _, _, rfl, hi, h⟩
def Then (E : Env) (n : Nat) (rnd : Option Nat) (y : Code) (Q : Exit → Sy → Prop) : Exit → Sy → Prop
 | .normal, s => T E n rnd y s Q
 | e, s => Q e s
theorem T.seq {x y : Code} (h : T E n rnd x s (Then E n rnd y Q)) : T E n rnd (.seq x y) s Q := .of_step fun a S hi => by
 refine Evt.bind ((h a S hi).mono fun r ⟨e, a', S', s', h1, h2, h3⟩ => ?_);subst h1
 by_cases he : e = .normal
 ·subst he;exact h3 a' S' h2
 ·have h4 : Q e s' := by
   cases e <;> first | exact absurd rfl he | exact h3
  refine Evt.pure (x := (.exit e a', S')) (fun rec => ?_) ⟨_, _, _, _, rfl, h2, h4⟩;cases e <;> first | exact absurd rfl he | rfl
theorem T.cond {g : Operand} {b : Bool} {x y : Code} (hb : ∀ a, HasA a n rnd s.ms s.sl → a.ev g = .lit (.bool b)) (hx : b = true → T E n rnd x s Q) (hy : b = false → T E n rnd y s Q) : T E n rnd (.cond g x y) s Q := .of_step fun a S hi => by
 have := hb a hi.act;cases b with
 | true => exact Evt.congr (hx rfl a S hi) fun rec => by simp only [runCode, runCond, this, cond_true]
 | false => exact Evt.congr (hy rfl a S hi) fun rec => by simp only [runCode, runCond, this, cond_false]
def Blk (id : Nat) (Q : Exit → Sy → Prop) : Exit → Sy → Prop
 | .exit j, s => Q (bif Nat.beq j id then .normal else .exit j) s
 | e, s => Q e s
theorem T.block {id : Nat} {c : Code} (h : T E n rnd c s (Blk id Q)) : T E n rnd (.block id c) s Q := .of_step fun a S hi => by
 refine Evt.bind ((h a S hi).mono fun r ⟨e, a', S', s', h1, h2, h3⟩ => ?_);subst h1;cases e with
 | exit j => exact Evt.ok ⟨_, _, _, _, rfl, h2, h3⟩
 | normal => exact Evt.ok ⟨_, _, _, _, rfl, h2, h3⟩
 | goto l => exact Evt.ok ⟨_, _, _, _, rfl, h2, h3⟩
 | ret => exact Evt.ok ⟨_, _, _, _, rfl, h2, h3⟩
 | panic ch => exact Evt.ok ⟨_, _, _, _, rfl, h2, h3⟩
 | outgrown => exact Evt.ok ⟨_, _, _, _, rfl, h2, h3⟩
def NoGoto (Q : Exit → Sy → Prop) : Exit → Sy → Prop
 | .goto _, _ => False
 | e, s => Q e s
theorem T.scope {c : Code} (h : T E n rnd c s (NoGoto Q)) : T E n rnd (.scope c) s Q := .of_step fun a S hi => by
 refine Evt.bind ((h a S hi).mono fun r ⟨e, a', S', s', h1, h2, h3⟩ => ?_);subst h1;cases e with
 | goto l => exact h3.elim
 | exit j => exact Evt.ok ⟨_, _, _, _, rfl, h2, h3⟩
 | normal => exact Evt.ok ⟨_, _, _, _, rfl, h2, h3⟩
 | ret => exact Evt.ok ⟨_, _, _, _, rfl, h2, h3⟩
 | panic ch => exact Evt.ok ⟨_, _, _, _, rfl, h2, h3⟩
 | outgrown => exact Evt.ok ⟨_, _, _, _, rfl, h2, h3⟩
def Again (I : Nat → Sy → Prop) (k : Nat) (Q : Exit → Sy → Prop) : Exit → Sy → Prop
 | .normal, s => ∃ j s', j < k ∧ I j s' ∧ Sub s' s
 | e, s => Q e s
theorem T.loop (I : Nat → Sy → Prop) {c : Code} {k : Nat} {s' : Sy} (hI : I k s') (hs : Sub s' s) (step : ∀ k s, I k s → T E n rnd c s (Again I k Q)) : T E n rnd (.loop c) s Q := by
 refine T.keep hs ?_
 clear hs
 induction k using Nat.strongRecOn generalizing s' with
 | _ k ih =>
  refine .of_step fun a S hi => ?_
  refine Evt.bind ((step k s' hI a S hi).mono fun r ⟨e, a', S', s1, h1, h2, h3⟩ => ?_);subst h1
  by_cases he : e = .normal
  ·subst he;obtain ⟨j, s2, hj, hI2, hsub⟩ := h3;exact ih j hj hI2 a' S' (h2.sub hsub)
  ·have h4 : Q e s1 := by
    cases e <;> first | exact absurd rfl he | exact h3
   refine Evt.pure (x := (.exit e a', S')) (fun rec => ?_) ⟨_, _, _, _, rfl, h2, h4⟩;cases e <;> first | exact absurd rfl he | rfl
theorem T.text {id : Nat} {ops : Array Oper} {l : List Nat} (hl : List.range ops.size = l) (h : TO E false n rnd ops l s (Q .normal)) : T E n rnd (.region id ops false) s Q := .of_step fun a S hi => by
 subst hl;obtain ⟨r, ⟨m0, hm0⟩, s', h2, h3⟩ := h a S hi;refine ⟨(.exit .normal r.1, r.2), ⟨m0, fun m hm => ?_⟩, _, _, _, _, rfl, h2, h3⟩;simp only [runCode, runRegion, cond_false, xSteps_of_opSteps (hm0 m hm), Except.bind]
variable {d : Bool}
theorem TO.nil {ops : Array Oper} {Q : Sy → Prop} (h : Q s) : TO E d n rnd ops [] s Q := fun a S hi => by
 cases d with
 | false => exact .ok ⟨s, hi, h⟩
 | true => exact ⟨a, rfl, s, hi, h⟩
theorem TO.keep {ops : Array Oper} {l : List Nat} {Q : Sy → Prop} {s' : Sy} (k : Sub s' s) (h : TO E d n rnd ops l s' Q) : TO E d n rnd ops l s Q := fun a S hi => h a S (hi.sub k)
def putS (d : Option Tmp) (v : AV) (σ : Sl) : Sl := match d with | some t => (t, v) :: σ | none => σ
def dstOk (n : Nat) (d : Option Tmp) : Bool := match d with | some t => Nat.blt t n | none => true
theorem HasA.put {a : AAct} {mk : List Dfr} {σ : Sl} {d : Option Tmp} (h : HasA a n rnd mk σ) (hd : dstOk n d = true) (v : AV) : ∃ a1, a.put d v = .ok a1 ∧ HasA a1 n rnd mk (putS d v σ) := by
 cases d with
 | none => exact ⟨a, rfl, h⟩
 | some t =>
  have hd' : Nat.blt t a.n = true := by rw [h.n]; exact hd
  refine ⟨{ a with tmps := a.tmps.set t v }, by simp only [AAct.put, hd', cond_true], h.n, h.rnd, h.marks, fun t' v' hg => ?_⟩;simp only [putS, lk] at hg;simp only [AAct.get, Trie.get_set];cases hb : Nat.beq t t' with
  | true =>
   have := Nat.eq_of_beq_eq_true hb;subst this;simp only [hb, cond_true, Option.some.injEq] at hg;simp [hg]
  | false =>
   simp only [hb, cond_false] at hg
   have := h.get t' v' hg;rw [if_neg (beq_false.1 hb)];exact this
def OpS (E : Env) (n : Nat) (rnd : Option Nat) (o : Oper) (s : Sy) (K : AV → List Thing → Prop) : Prop :=
  ∀ a S, Is n rnd a S s → Evt E (fun rec => match aop E S a.ev o with
      | .error m => .error m
      | .ok (.val v, S1) => .ok (v, S1)
      | .ok (.enter f args, S1) => callA rec E f args S1
      | .ok (.round l args, S1) => aRound rec S1 l args
      | .ok (.thr _, _) => .error "panic") fun r => ∃ hs', HasS r.2 hs' ∧ K r.1 hs'
theorem HasA.yielded {a : AAct} {mk : List Dfr} {σ : Sl} (h : HasA a n rnd mk σ) {ops : Array Oper} {g : Nat} {t : Tmp} {b : Bool} (hd : (ops[g]?).bind (·.dst) = some t) (hb : lk σ t = some (.lit (.bool b))) : yieldedA ops a g = some b := by
 unfold yieldedA;rw [hd];simp only [h.get t _ hb]
theorem TO.cons_of {ops : Array Oper} {i : Nat} {l : List Nat} {Q : Sy → Prop} {o : Oper} {K : AV → List Thing → Prop} (ho : ops[i]? = some o) (hd : dstOk n o.dst = true)
  (hg : ∀ a, HasA a n rnd s.ms s.sl → Region.wanted o (yieldedA ops a) = true) (h : OpS E n rnd o s K) (hk : ∀ v hs', K v hs' → TO E false n rnd ops l ⟨s.ms, putS o.dst v s.sl, hs'⟩ Q) : TO E false n rnd ops (i :: l) s Q := by
 intro a S hi
 have hw := hg a hi.act
 have hdst : dstAt ops i = o.dst := by simp [dstAt, ho]
 obtain ⟨r, ⟨m0, hm0⟩, hs', h1, h2⟩ := h a S hi;obtain ⟨a1, hp, ha1⟩ := hi.act.put hd r.1;obtain ⟨y, ⟨m1, hm1⟩, hy⟩ := hk r.1 hs' h2 a1 r.2 ⟨ha1, h1⟩;refine ⟨y, ⟨max m0 m1, fun m hm => ?_⟩, hy⟩
 have e0 : opVal (run E m) E ops i a S = .ok r := by
  have := hm0 m (by omega);unfold opVal;rw [ho];simp only [hw, cond_true];cases hop : aop E S a.ev o with
  | error e => rw [hop] at this; cases this
  | ok x =>
   rw [hop] at this;obtain ⟨nx, S1⟩ := x;cases nx <;> first | exact this | cases this
 show opSteps (run E m) E ops (i :: l) a S = .ok y;unfold opSteps opStep;rw [e0];simp only [Except.bind, hdst, hp];exact hm1 m (by omega)
theorem TO.cons_still {ops : Array Oper} {i : Nat} {l : List Nat} {Q : Sy → Prop} {o : Oper} {v : AV} (ho : ops[i]? = some o) (hd : dstOk n o.dst = true)
  (h : ∀ a S, Is n rnd a S s → ∃ k, ∀ m, k ≤ m → opVal (run E m) E ops i a S = .ok (v, S)) (hk : TO E d n rnd ops l ⟨s.ms, putS o.dst v s.sl, s.hs⟩ Q) : TO E d n rnd ops (i :: l) s Q := by
 intro a S hi
 have hdst : dstAt ops i = o.dst := by simp [dstAt, ho]
 obtain ⟨m0, hm0⟩ := h a S hi;obtain ⟨a1, hp, ha1⟩ := hi.act.put hd v
 have hk' := hk a1 S ⟨ha1, hi.mem⟩;cases d with
 | false =>
  obtain ⟨y, ⟨m1, hm1⟩, hy⟩ := hk';refine ⟨y, ⟨max m0 m1, fun m hm => ?_⟩, hy⟩
  show opSteps (run E m) E ops (i :: l) a S = .ok y;unfold opSteps opStep;rw [hm0 m (by omega)];simp only [Except.bind, hdst, hp];exact hm1 m (by omega)
 | true =>
  obtain ⟨a', hc, hy⟩ := hk';exact ⟨a', ⟨v, a1, ⟨m0, hm0⟩, by rw [hdst]; exact hp, hc⟩, hy⟩
theorem TO.cons_off {ops : Array Oper} {i : Nat} {l : List Nat} {Q : Sy → Prop} {o : Oper} (ho : ops[i]? = some o) (hd : dstOk n o.dst = true)
  (hg : ∀ a, HasA a n rnd s.ms s.sl → Region.wanted o (yieldedA ops a) = false) (hk : TO E d n rnd ops l ⟨s.ms, putS o.dst undefA s.sl, s.hs⟩ Q) : TO E d n rnd ops (i :: l) s Q := by
 refine TO.cons_still ho hd (fun a S hi => ⟨0, fun m _ => ?_⟩) hk;unfold opVal;rw [ho];simp only [hg a hi.act, cond_false]
theorem Chain.append {ops : Array Oper} {S : St} : ∀ {l l' : List Nat} {a a' : AAct}, Chain E ops S (l ++ l') a a' → ∃ a1, Chain E ops S l a a1 ∧ Chain E ops S l' a1 a' := by
 intro l
 induction l with
 | nil => intro l' a a' h; exact ⟨a, rfl, h⟩
 | cons i l ih =>
  intro l' a a' ⟨v, a1, h1, h2, h3⟩;obtain ⟨a2, h4, h5⟩ := ih h3;exact ⟨a2, ⟨v, a1, h1, h2, h4⟩, h5⟩
theorem agrees_refl (hE : ∀ v, E.same.1 v v = true) {ops : Array Oper} {S : St} {i : Nat} {a : AAct} {v : AV} {rec : Rec} (h : opVal rec E ops i a S = .ok (v, S)) (hk : kindAt ops i a = 1) : agrees E ops S (i, a, v) = true := by
 obtain ⟨o, ho, k1, k2⟩ := kindAt_some (by omega : kindAt ops i a ≠ 0);unfold opVal at h;rw [ho] at h;simp only [k2, cond_true] at h;unfold agrees;simp only [ho];cases hop : aop E S a.ev o with
 | error m => rw [hop] at h; cases h
 | ok x =>
  obtain ⟨nx, S2⟩ := x;obtain ⟨rfl, v', rfl⟩ := aop_light (by omega) hop;rw [hop] at h;cases h;exact hE v
theorem Chain.first (hE : ∀ v, E.same.1 v v = true) {ops : Array Oper} {S : St} : ∀ {l : List Nat} {a a' : AAct} {seen : Seen}, (∀ i ∈ l, ∀ o, ops[i]? = some o → kindOf o ≠ 2) → Chain E ops S l a a' → (∀ x ∈ seen, agrees E ops S x = true) →
  ∃ n seen', (∀ m, n ≤ m → drawFirst (run E m) E ops l a S seen [] = .ok ((a', S), seen', [])) ∧ ∀ x ∈ seen', agrees E ops S x = true := by
 intro l
 induction l with
 | nil => intro a a' seen _ h hs; cases h; exact ⟨0, seen, fun m _ => rfl, hs⟩
 | cons i l ih =>
  intro a a' seen hk ⟨v, a1, ⟨n, hn⟩, h2, h3⟩ hs
  have hl : ∀ i ∈ l, ∀ o, ops[i]? = some o → kindOf o ≠ 2 := fun j hj => hk j (by simp [hj])
  have h3k : kindAt ops i a ≠ 3 := fun h3k => by
   obtain ⟨ob, e⟩ := opVal_new (hn n (Nat.le_refl _)) h3k
   have := congrArg St.next e;simp [St.new] at this
  have h2k : kindAt ops i a ≠ 2 := fun h2k => by
   obtain ⟨o, ho, k1, k2⟩ := kindAt_some (by omega : kindAt ops i a ≠ 0);exact hk i (by simp) o ho (by omega)
  have hle := kindAt_le ops i a
  by_cases h0 : kindAt ops i a = 0
  ·obtain ⟨n', seen', h4, h5⟩ := ih hl h3 hs;refine ⟨max n n', seen', fun m hm => ?_, h5⟩;unfold drawFirst;simp only [hn m (by omega), Except.bind, h2, h0];exact h4 m (by omega)
  ·have h1 : kindAt ops i a = 1 := by omega
   obtain ⟨n', seen', h4, h5⟩ := ih (seen := (i, a, v) :: seen) hl h3 fun x hx => by
    rcases List.mem_cons.1 hx with rfl | hx
    ·exact agrees_refl hE (hn n (Nat.le_refl _)) h1
    ·exact hs x hx
   refine ⟨max n n', seen', fun m hm => ?_, h5⟩;unfold drawFirst;simp only [hn m (by omega), Except.bind, h2, h1];exact h4 m (by omega)
theorem Chain.second (hE : ∀ v, E.same.1 v v = true) {ops : Array Oper} {S : St} {masks : List Nat} : ∀ {l : List Nat} {a a' : AAct} {past : List (Nat × St)} {seen : Seen}, Chain E ops S l a a' → (∀ x ∈ seen, agrees E ops S x = true) → (∀ g ∈ past, g.2 = S) →
    ∃ n, ∀ m, n ≤ m → drawSteps (run E m) E ops masks [] l a S past seen = .ok (a', S) := by
  intro l
  induction l with
  | nil => intro a a' past seen h hs hp; cases h; exact ⟨0, fun m _ => rfl⟩
  | cons i l ih =>
    intro a a' past seen ⟨v, a1, ⟨n, hn⟩, h2, h3⟩ hs hp
    by_cases h0 : kindAt ops i a = 0
    · obtain ⟨n', h4⟩ := ih h3 hs hp
      refine ⟨max n n', fun m hm => ?_⟩
      unfold drawSteps
      simp only [hn m (by omega), Except.bind, h2, h0]
      exact h4 m (by omega)
    · by_cases h1 : kindAt ops i a = 1
      · have ha := agrees_refl hE (hn n (Nat.le_refl _)) h1
        obtain ⟨n', h4⟩ := ih (past := past) (seen := (i, a, v) :: seen) h3 (fun x hx => by
          rcases List.mem_cons.1 hx with rfl | hx
          · exact ha
          · exact hs x hx) hp
        refine ⟨max n n', fun m hm => ?_⟩
        have hall : past.all (fun g => bitOf masks i g.1 || agrees E ops g.2 (i, a, v)) = true := List.all_eq_true.2 fun g hg => by rw [hp g hg, ha, Bool.or_true]
        unfold drawSteps
        simp only [hn m (by omega), Except.bind, h2, h1, hall, cond_true]
        exact h4 m (by omega)
      · obtain ⟨n', h4⟩ := ih (past := (i, S) :: past) (seen := seen) h3 hs (fun g hg => by
          rcases List.mem_cons.1 hg with rfl | hg
          · rfl
          · exact hp g hg)
        refine ⟨max n n', fun m hm => ?_⟩
        have hall : seen.all (fun x => bitOf masks i x.1 || agrees E ops S x) = true := List.all_eq_true.2 fun x hx => by rw [hs x hx, Bool.or_true]
        have hk : ∃ k, kindAt ops i a = k + 2 := ⟨kindAt ops i a - 2, by omega⟩
        obtain ⟨k, hk⟩ := hk
        unfold drawSteps
        simp only [hn m (by omega), Except.bind, h2, hk, hall, List.all_nil, Bool.and_self, cond_true]
        exact h4 m (by omega)
theorem T.draw (hE : ∀ v, E.same.1 v v = true) {id : Nat} {ops : Array Oper} {l1 l2 : List Nat} (h1 : firstPass ops (CheckFast.beforeL ops.toList 0 []) = l1) (h2 : secondPass ops (CheckFast.beforeL ops.toList 0 []) = l2)
  (h : TO E true n rnd ops (l1 ++ l2) s (Q .normal)) : T E n rnd (.region id ops true) s Q := .of_step fun a S hi => by
 obtain ⟨a', hc, s', hi', hq⟩ := h a S hi;obtain ⟨a1, hc1, hc2⟩ := hc.append
 have hk : ∀ i ∈ l1, ∀ o, ops[i]? = some o → kindOf o ≠ 2 := by
  intro i hi o ho;rw [← h1] at hi;unfold firstPass at hi;rw [CheckFast.force_eq] at hi
  have := (List.mem_filter.1 hi).2;unfold isFirst at this;rw [ho] at this;simp only [Bool.and_eq_true, Bool.not_eq_true'] at this;exact beq_false.1 this.1
 obtain ⟨n1, seen, k1, k2⟩ := hc1.first hE (seen := []) hk (fun x hx => by simp at hx);obtain ⟨n2, k3⟩ := hc2.second hE (masks := CheckFast.beforeL ops.toList 0 []) (past := []) k2 (fun g hg => by simp at hg);refine ⟨(.exit .normal a', S), ⟨max n1 n2, fun m hm => ?_⟩, _, _, _, _, rfl, hi', hq⟩
 have e : runRegion (run E m) E ops true a S = .ok (.exit .normal a', S) := by
  unfold runRegion;simp only [cond_true, forceL_eq];unfold drawRun;rw [h1, h2, k1 m (by omega)]
  have : seen.all (agrees E ops S) = true := List.all_eq_true.2 k2;simp only [Except.bind, this, cond_true, k3 m (by omega)]
 exact e
end Go.Am
end
section
namespace Go.Am
open Go.RowKit
set_option linter.unusedVariables false
set_option linter.unusedSimpArgs false
abbrev iv (x : Int) : AV := .lit (.int .i64 x)
abbrev bv (x : Bool) : AV := .lit (.bool x)
def evs (σ : Sl) : Operand → Option AV
 | .tmp t => lk σ t
 | .const v => some (ofV 4 v)
 | .global g => some (.lit (.pointer (some ⟨g, 0, none⟩)))
 | .func f => some (.func f [] [])
theorem HasA.ev {a : AAct} {n : Nat} {rnd : Option Nat} {mk : List Dfr} {σ : Sl} (h : HasA a n rnd mk σ) (x : Operand) (v : AV) (hx : evs σ x = some v) : a.ev x = v := by
 cases x with
 | tmp t => exact h.get t v hx
 | const c => exact Option.some.inj hx
 | global g => exact Option.some.inj hx
 | func f => exact Option.some.inj hx
def wantS (ops : Array Oper) (σ : Sl) (g : Option (Nat × Bool)) : Option Bool :=
 match g with
 | none => some true
 | some (j, want) => match (ops[j]?).bind (·.dst) with
  | none => none
  | some t => match lk σ t with
   | some (.lit (.bool b)) => some (b == want)
   | some (.tuple []) => some false
   | _ => none
theorem HasA.wanted {a : AAct} {n : Nat} {rnd : Option Nat} {mk : List Dfr} {σ : Sl} (h : HasA a n rnd mk σ) {ops : Array Oper} {o : Oper} {b : Bool} (hw : wantS ops σ o.guard = some b) :
  Region.wanted o (yieldedA ops a) = b := by
 unfold Region.wanted;unfold wantS at hw;cases hg : o.guard with
 | none => rw [hg] at hw; exact Option.some.inj hw
 | some jw =>
  obtain ⟨j, want⟩ := jw;rw [hg] at hw;simp only at hw ⊢;split at hw
  ·cases hw
  ·rename_i t ht
   split at hw
   ·rename_i b' hb'
    rw [h.yielded ht hb']
    have := Option.some.inj hw;subst this;cases b' <;> cases want <;> rfl
   ·rename_i hb'
    have hg := h.get t _ hb'
    have : yieldedA ops a j = none := by
     unfold yieldedA;rw [ht];simp only [hg]
    rw [this]
    have := Option.some.inj hw;subst this;cases want <;> rfl
   ·cases hw
def Val (E : Env) (σ : Sl) (hs : List Thing) (op : Op) (v : AV) : Prop :=
 ∀ (ev : Operand → AV) (S : St), (∀ x v, evs σ x = some v → ev x = v) → HasS S hs → ∀ o : Oper, o.op = op → aop E S ev o = .ok (.val v, S)
def Eff (E : Env) (σ : Sl) (hs : List Thing) (op : Op) (K : AV → List Thing → Prop) : Prop :=
 ∀ (ev : Operand → AV) (S : St), (∀ x v, evs σ x = some v → ev x = v) → HasS S hs → ∀ o : Oper, o.op = op → ∃ v S' hs', aop E S ev o = .ok (.val v, S') ∧ HasS S' hs' ∧ K v hs'
variable {E : Env} {d : Bool} {n : Nat} {rnd : Option Nat} {ops : Array Oper} {i : Nat} {l : List Nat} {ms : List Dfr} {σ : Sl} {hs : List Thing} {Q : Sy → Prop} {t : Tmp} {op : Op} {ty : TypeId} {pos : String} {af : Array Edge} {g : Option (Nat × Bool)}
theorem TO.val {v : AV} (ho : ops[i]? = some ⟨some t, op, ty, pos, af, g⟩) (hd : Nat.blt t n = true) (hw : wantS ops σ g = some true) (h : Val E σ hs op v)
  (k : TO E d n rnd ops l ⟨ms, (t, v) :: σ, hs⟩ Q) : TO E d n rnd ops (i :: l) ⟨ms, σ, hs⟩ Q := by
 refine TO.cons_still (v := v) ho hd (fun a S hi => ⟨0, fun m _ => ?_⟩) k
 have e := h a.ev S hi.act.ev hi.mem ⟨some t, op, ty, pos, af, g⟩ rfl
 have w := hi.act.wanted (ops := ops) (o := ⟨some t, op, ty, pos, af, g⟩) hw;unfold opVal;rw [ho];simp only [w, cond_true, e]
theorem TO.eff {K : AV → List Thing → Prop} (ho : ops[i]? = some ⟨some t, op, ty, pos, af, g⟩) (hd : Nat.blt t n = true) (hw : wantS ops σ g = some true) (h : Eff E σ hs op K)
  (k : ∀ v hs', K v hs' → TO E false n rnd ops l ⟨ms, (t, v) :: σ, hs'⟩ Q) : TO E false n rnd ops (i :: l) ⟨ms, σ, hs⟩ Q := by
 refine TO.cons_of (K := K) ho hd (fun a ha => ha.wanted hw) (fun a S hi => ?_) k;obtain ⟨v, S', hs', h1, h2, h3⟩ := h a.ev S hi.act.ev hi.mem ⟨some t, op, ty, pos, af, g⟩ rfl;rw [h1];exact .ok ⟨hs', h2, h3⟩
theorem TO.eff0 {K : List Thing → Prop} (ho : ops[i]? = some ⟨none, op, ty, pos, af, g⟩) (hw : wantS ops σ g = some true) (h : Eff E σ hs op fun _ => K)
  (k : ∀ hs', K hs' → TO E false n rnd ops l ⟨ms, σ, hs'⟩ Q) : TO E false n rnd ops (i :: l) ⟨ms, σ, hs⟩ Q := by
 refine TO.cons_of (K := fun _ => K) ho rfl (fun a ha => ha.wanted hw) (fun a S hi => ?_) (fun _ => k);obtain ⟨v, S', hs', h1, h2, h3⟩ := h a.ev S hi.act.ev hi.mem ⟨none, op, ty, pos, af, g⟩ rfl;rw [h1];exact .ok ⟨hs', h2, h3⟩
theorem TO.off (ho : ops[i]? = some ⟨some t, op, ty, pos, af, g⟩) (hd : Nat.blt t n = true) (hw : wantS ops σ g = some false) (k : TO E d n rnd ops l ⟨ms, (t, undefA) :: σ, hs⟩ Q) : TO E d n rnd ops (i :: l) ⟨ms, σ, hs⟩ Q :=
 TO.cons_off ho hd (fun a ha => ha.wanted hw) k
theorem Val.move {x : Operand} {v : AV} (h : evs σ x = some v) : Val E σ hs (.move x) v := fun ev S he _ o ho => by
 unfold aop; rw [ho]; simp only [he x v h, val]
theorem Val.assign {x : Operand} {v : AV} (h : evs σ x = some v) : Val E σ hs (.assign x) v := fun ev S he _ o ho => by
 unfold aop; rw [ho]; simp only [he x v h, val]
theorem Val.pick {c x y : Operand} {b : Bool} {v w : AV} (hc : evs σ c = some (bv b)) (hx : evs σ x = some v) (hy : evs σ y = some w) : Val E σ hs (.pick c x y) (bif b then v else w) := fun ev S he _ o ho => by
 unfold aop; rw [ho]; simp only [he _ _ hc, he _ _ hx, he _ _ hy, apick, val]
theorem Val.not {x : Operand} {ty : TypeId} {b : Bool} (h : evs σ x = some (bv b)) : Val E σ hs (.unOp .not ty x) (bv (!b)) := fun ev S he _ o ho => by
 unfold aop; rw [ho]; simp only [he _ _ h, pureOp, toV, Except.bind]; rfl
theorem wrap_id {x : Int} (h1 : -9223372036854775808 ≤ x) (h2 : x < 9223372036854775808) : IntKind.i64.wrap x = x := by
 have e : (2 : Int) ^ 64 = 18446744073709551616 := by decide
 have e' : (2 : Int) ^ (64 - 1) = 9223372036854775808 := by decide
 simp only [IntKind.wrap, IntKind.bits, IntKind.signed, Bool.true_and, decide_eq_true_eq, e, e'];split <;> omega
theorem Val.add {xt ty : TypeId} {x y : Operand} {a b : Int} (hx : evs σ x = some (iv a)) (hy : evs σ y = some (iv b)) (h : -9223372036854775808 ≤ a + b ∧ a + b < 9223372036854775808) :
  Val E σ hs (.binOp .add xt x y ty) (iv (a + b)) := fun ev S he _ o ho => by
 unfold aop; rw [ho]; simp only [he _ _ hx, he _ _ hy, abin, wrap_id h.1 h.2]; rfl
theorem Val.sub {xt ty : TypeId} {x y : Operand} {a b : Int} (hx : evs σ x = some (iv a)) (hy : evs σ y = some (iv b)) (h : -9223372036854775808 ≤ a - b ∧ a - b < 9223372036854775808) :
  Val E σ hs (.binOp .sub xt x y ty) (iv (a - b)) := fun ev S he _ o ho => by
 unfold aop; rw [ho]; simp only [he _ _ hx, he _ _ hy, abin, wrap_id h.1 h.2]; rfl
def cmpOf (op : BinOp) (a b : Int) : Option Bool :=
 match op with
 | .lss => some (decide (a < b))
 | .gtr => some (decide (a > b))
 | .leq => some (decide (a ≤ b))
 | .geq => some (decide (a ≥ b))
 | .eql => some (decide (a = b))
 | .neq => some (decide (¬ a = b))
 | _ => none
theorem Val.cmp {op : BinOp} {xt ty : TypeId} {x y : Operand} {a b : Int} {c : Bool} (hx : evs σ x = some (iv a)) (hy : evs σ y = some (iv b)) (h : cmpOf op a b = some c) :
  Val E σ hs (.binOp op xt x y ty) (bv c) := fun ev S he _ o ho => by
 unfold aop; rw [ho]; simp only [he _ _ hx, he _ _ hy];cases op <;> simp only [cmpOf, Option.some.injEq] at h <;> first | (cases h; done) | (subst h; simp only [abin]; first | rfl | skip)
 ·have : (a != b) = decide (¬ a = b) := by
   by_cases h : a = b <;> simp [h, bne]
  rw [this]; rfl
section
variable {xt ty' : TypeId} {x y : Operand} {a b : Int}
theorem TO.lss (ho : ops[i]? = some ⟨some t, .binOp .lss xt x y ty', ty, pos, af, g⟩) (hd : Nat.blt t n = true) (hw : wantS ops σ g = some true) (hx : evs σ x = some (iv a)) (hy : evs σ y = some (iv b))
  (k : ∀ c : Bool, (c = true ↔ a < b) → TO E d n rnd ops l ⟨ms, (t, bv c) :: σ, hs⟩ Q) : TO E d n rnd ops (i :: l) ⟨ms, σ, hs⟩ Q :=
 TO.val ho hd hw (Val.cmp hx hy rfl) (k _ decide_eq_true_iff)
theorem TO.gtr (ho : ops[i]? = some ⟨some t, .binOp .gtr xt x y ty', ty, pos, af, g⟩) (hd : Nat.blt t n = true) (hw : wantS ops σ g = some true) (hx : evs σ x = some (iv a)) (hy : evs σ y = some (iv b))
  (k : ∀ c : Bool, (c = true ↔ b < a) → TO E d n rnd ops l ⟨ms, (t, bv c) :: σ, hs⟩ Q) : TO E d n rnd ops (i :: l) ⟨ms, σ, hs⟩ Q :=
 TO.val ho hd hw (Val.cmp hx hy rfl) (k _ decide_eq_true_iff)
theorem TO.leq (ho : ops[i]? = some ⟨some t, .binOp .leq xt x y ty', ty, pos, af, g⟩) (hd : Nat.blt t n = true) (hw : wantS ops σ g = some true) (hx : evs σ x = some (iv a)) (hy : evs σ y = some (iv b))
  (k : ∀ c : Bool, (c = true ↔ a ≤ b) → TO E d n rnd ops l ⟨ms, (t, bv c) :: σ, hs⟩ Q) : TO E d n rnd ops (i :: l) ⟨ms, σ, hs⟩ Q :=
 TO.val ho hd hw (Val.cmp hx hy rfl) (k _ decide_eq_true_iff)
theorem TO.geq (ho : ops[i]? = some ⟨some t, .binOp .geq xt x y ty', ty, pos, af, g⟩) (hd : Nat.blt t n = true) (hw : wantS ops σ g = some true) (hx : evs σ x = some (iv a)) (hy : evs σ y = some (iv b))
  (k : ∀ c : Bool, (c = true ↔ b ≤ a) → TO E d n rnd ops l ⟨ms, (t, bv c) :: σ, hs⟩ Q) : TO E d n rnd ops (i :: l) ⟨ms, σ, hs⟩ Q :=
 TO.val ho hd hw (Val.cmp hx hy rfl) (k _ decide_eq_true_iff)
theorem TO.eql (ho : ops[i]? = some ⟨some t, .binOp .eql xt x y ty', ty, pos, af, g⟩) (hd : Nat.blt t n = true) (hw : wantS ops σ g = some true) (hx : evs σ x = some (iv a)) (hy : evs σ y = some (iv b))
  (k : ∀ c : Bool, (c = true ↔ a = b) → TO E d n rnd ops l ⟨ms, (t, bv c) :: σ, hs⟩ Q) : TO E d n rnd ops (i :: l) ⟨ms, σ, hs⟩ Q :=
 TO.val ho hd hw (Val.cmp hx hy rfl) (k _ decide_eq_true_iff)
theorem TO.neq (ho : ops[i]? = some ⟨some t, .binOp .neq xt x y ty', ty, pos, af, g⟩) (hd : Nat.blt t n = true) (hw : wantS ops σ g = some true) (hx : evs σ x = some (iv a)) (hy : evs σ y = some (iv b))
  (k : ∀ c : Bool, (c = true ↔ ¬ a = b) → TO E d n rnd ops l ⟨ms, (t, bv c) :: σ, hs⟩ Q) : TO E d n rnd ops (i :: l) ⟨ms, σ, hs⟩ Q :=
 TO.val ho hd hw (Val.cmp hx hy rfl) (k _ decide_eq_true_iff)
end
theorem Val.extract {x : Operand} {k : Nat} {vs : List AV} {v : AV} (hx : evs σ x = some (.tuple vs)) (h : vs[k]? = some v) : Val E σ hs (.extract x k) v := fun ev S he _ o ho => by
 unfold aop; rw [ho]; simp only [he _ _ hx, aextract, h, ofOpt]; rfl
def IsSl (v : AV) (u n : Nat) (cells : List AV) : Prop := (v = nilS ∧ n = 0 ∧ cells = []) ∨ (v = .tree u n cells ∧ cells.length = n * u)
structure En (α : Type) where
 u : Nat
 f : α → List AV
 len : ∀ a, (f a).length = u
structure GS {α : Type} (e : En α) where
 v : AV
 l : List α
 ok : IsSl v e.u l.length (l.flatMap e.f)
def encI : En Int := ⟨1, fun n => [iv n], fun _ => rfl⟩
def Scalar (E : Env) (t : TypeId) : Prop := ∃ d, E.und t = some d ∧ isAggT d = false
def Aggr (E : Env) (t : TypeId) (n : Nat) : Prop := (∃ d, E.und t = some d ∧ isAggT d = true) ∧ E.siz t = some n ∧ n ≠ 0
def SliceT (E : Env) (t e : TypeId) (u : Nat) : Prop := E.und t = some (.slice e) ∧ E.siz e = some u
theorem Val.load_tree {ty : TypeId} {x : Operand} {v : AV} {rest : List AV} (ht : Scalar E ty) (hx : evs σ x = some (.tptr (v :: rest))) : Val E σ hs (.load ty x) v := fun ev S he _ o ho => by
 obtain ⟨d, h1, h2⟩ := ht;unfold aop; rw [ho]; simp only [he _ _ hx, aload, gpt, loadVarA, h1, ofOpt, Except.bind, h2, cond_false, readN, List.length_cons]
 have e1 : Nat.ble 1 (rest.length + 1) = true := Nat.ble_eq_true_of_le (by omega)
 have e2 : Nat.blt 0 1 = true := rfl;simp only [e1, e2, Bool.and_self, cond_true, List.take_succ_cons, List.take_zero, Except.bind, val]
theorem Val.load_trees {ty : TypeId} {x : Operand} {c rest : List AV} {k : Nat} (ht : Aggr E ty k) (hx : evs σ x = some (.tptr (c ++ rest))) (hc : c.length = k) : Val E σ hs (.load ty x) (.agg c) := fun ev S he _ o ho => by
 obtain ⟨⟨d, h1, h2⟩, h3, h4⟩ := ht;subst hc;unfold aop; rw [ho]; simp only [he _ _ hx, aload, gpt, loadVarA, h1, h3, ofOpt, Except.bind, h2, cond_true, readN, List.length_append]
 have e1 : Nat.ble c.length (c.length + rest.length) = true := Nat.ble_eq_true_of_le (by omega)
 have e2 : Nat.blt 0 c.length = true := blt_true.2 (by omega);simp only [e1, e2, Bool.and_self, cond_true, Except.bind, val, List.take_left']
theorem GS.lenOf {α : Type} {enc : En α} (x : GS enc) : lenOf? x.v = .ok x.l.length ∧ isSlice x.v = true := by
 rcases x.ok with ⟨h1, h2, h3⟩ | ⟨h1, h2⟩
 ·rw [h1, h2]; exact ⟨rfl, rfl⟩
 ·rw [h1]; exact ⟨rfl, rfl⟩
theorem Val.len_gs {x : Operand} {α : Type} {enc : En α} {gs : GS enc} {st e : TypeId} (ht : E.und st = some (.slice e)) (hx : evs σ x = some gs.v) :
  Val E σ hs (.call { callee := .builtin .len, args := #[x], argTypes := #[st] }) (iv gs.l.length) := fun ev S he _ o ho => by
 unfold aop; rw [ho];simp only [acall, abuiltin, alen, List.map_cons, List.map_nil, he _ _ hx, List.getElem?_toArray, List.getElem?_cons_zero, ht, ofOpt, Except.bind, gs.lenOf.1, gs.lenOf.2, cond_true, val]
theorem flat_drop {α : Type} {enc : En α} : ∀ (l : List α) (k : Nat) (a : α), l[k]? = some a → (l.flatMap enc.f).drop (k * enc.u) = enc.f a ++ (l.drop (k + 1)).flatMap enc.f := by
 intro l
 induction l with
 | nil => intro k a h; simp at h
 | cons b l ih =>
  intro k a h;cases k with
  | zero => simp at h; subst h; simp
  | succ k =>
   simp at h
   have hr := ih k a h;rw [List.drop_succ_cons, ← hr, List.flatMap_cons, List.drop_append]
   have : (enc.f b).length = enc.u := enc.len b
   have e1 : (k + 1) * enc.u - (enc.f b).length = k * enc.u := by rw [this, Nat.succ_mul]; omega
   rw [e1, List.drop_eq_nil_of_le (by rw [this, Nat.succ_mul]; omega), List.nil_append]
theorem flat_len {α : Type} (enc : En α) : ∀ l : List α, (l.flatMap enc.f).length = l.length * enc.u := by
 intro l
 induction l with
 | nil => simp
 | cons a l ih => rw [List.flatMap_cons, List.length_append, ih, enc.len, List.length_cons, Nat.succ_mul]; omega
theorem TO.index_gs {α : Type} {enc : En α} {gs : GS enc} {st e : TypeId} {x y : Operand} {k : Int} (ho : ops[i]? = some ⟨some t, .indexAddr st x y, ty, pos, af, g⟩) (hd : Nat.blt t n = true) (hw : wantS ops σ g = some true)
  (ht : SliceT E st e enc.u) (hx : evs σ x = some gs.v) (hy : evs σ y = some (iv k)) (hk : 0 ≤ k ∧ k < gs.l.length)
  (c : ∀ a rest, gs.l[k.toNat]? = some a → TO E d n rnd ops l ⟨ms, (t, .tptr (enc.f a ++ rest)) :: σ, hs⟩ Q) : TO E d n rnd ops (i :: l) ⟨ms, σ, hs⟩ Q := by
 have hlt : k.toNat < gs.l.length := by omega
 have hr := flat_drop (enc := enc) gs.l k.toNat gs.l[k.toNat] (List.getElem?_eq_getElem hlt);refine TO.val ho hd hw (fun ev S he _ o ho => ?_) (c gs.l[k.toNat] ((gs.l.drop (k.toNat + 1)).flatMap enc.f) (List.getElem?_eq_getElem hlt))
 rcases gs.ok with ⟨h1, h2, h3⟩ | ⟨h1, h2⟩
 ·omega
 ·unfold aop; rw [ho]
  have e1 : decide (0 ≤ k) = true := decide_eq_true hk.1
  have e2 : decide (k < (gs.l.length : Int)) = true := decide_eq_true hk.2;simp only [he _ _ hx, he _ _ hy, h1, aindexAddr, intOf?, ht.1, ht.2, ofOpt, Except.bind, e1, e2, Bool.and_self, cond_true, valOf, hr];rfl
def resS (σ : Sl) : List ResultVar → Option (List AV)
 | [] => some []
 | .tmp t :: l => match lk σ t, resS σ l with | some v, some r => some (v :: r) | _, _ => none
 | .cell _ _ :: _ => none
def Ret (rs : List ResultVar) (K : AV → List Thing → Prop) : Exit → Sy → Prop
 | .normal, s => s.ms = [] ∧ ∃ vs, resS s.sl rs = some vs ∧ K (oneOrTuple vs) s.hs
 | .ret, s => s.ms = [] ∧ ∃ vs, resS s.sl rs = some vs ∧ K (oneOrTuple vs) s.hs
 | _, _ => False
theorem resS_ok {E : Env} {S : St} {a : AAct} {n : Nat} {rnd : Option Nat} {mk : List Dfr} {σ : Sl} (h : HasA a n rnd mk σ) : ∀ (rs : List ResultVar) (vs : List AV), resS σ rs = some vs → resultsOf E S a rs = .ok vs := by
 intro rs
 induction rs with
 | nil => intro vs hv; cases hv; rfl
 | cons r rs ih =>
  intro vs hv;cases r with
  | cell p t => cases hv
  | tmp t =>
   simp only [resS] at hv;split at hv
   ·rename_i v r h1 h2
    cases hv;simp only [resultsOf, ih _ h2, h.get _ _ h1, Except.bind]
   ·cases hv
def zipN : Nat → List AV → Sl
 | _, [] => []
 | i, v :: vs => (i, v) :: zipN (i + 1) vs
theorem enter_get : ∀ (vs : List AV) (i : Nat) (T : Trie AV) (t : Nat) (v : AV), lk (zipN i vs) t = some v → (enterTmps i vs T).get t = some v := by
 intro vs
 induction vs with
 | nil => intro i T t v h; cases h
 | cons x vs ih =>
  intro i T t v h;simp only [zipN, lk] at h;simp only [enterTmps];cases hb : Nat.beq i t with
  | true =>
   have := Nat.eq_of_beq_eq_true hb;subst this;simp only [hb, cond_true, Option.some.injEq] at h;subst h
   have key : ∀ (vs : List AV) (j : Nat) (T : Trie AV), i < j → (enterTmps j vs T).get i = T.get i := by
    intro vs
    induction vs with
    | nil => intro j T _; rfl
    | cons y vs ih => intro j T hj; simp only [enterTmps]; rw [ih _ _ (by omega), Trie.get_set_ne _ _ (by omega)]
   rw [key _ _ _ (by omega), Trie.get_set_same]
  | false =>
   simp only [hb, cond_false] at h;exact ih _ _ _ _ h
theorem modeOf_end {e : Exit} (h : isEnd e = true) : modeOf e = .ok .returning := by
 cases e <;> first | rfl | cases h
theorem TF.enter {f : FuncId} {args : List AV} {fn : Func} {c : Code} {n : Nat} {K : AV → List Thing → Prop} {σ : Sl} {rs : List ResultVar} (hf : E.fn f = some fn) (hb : fn.body = some c) (hn : args.length + (fn.ntmps - args.length) = n) (hσ : zipN 0 args = σ)
  (hr : fn.results.toList = rs) (h : T E n none c ⟨[], σ, hs⟩ (Ret rs K)) (he0 : E.eff f = none := by rfl) : TF E f args hs K := by
 intro S hS;refine Evt.task ?_
 have ha : HasA (enterAct fn args) n none [] σ := by
  refine ⟨hn, rfl, rfl, fun t v hv => ?_⟩;rw [← hσ] at hv;simp only [enterAct, AAct.get, enter_get _ _ _ _ _ hv]
 obtain ⟨x, ⟨m0, hm⟩, e, a', S', s', rfl, hi, hq⟩ := h _ S ⟨ha, hS⟩
 have hq' : isEnd e = true ∧ s'.ms = [] ∧ ∃ vs, resS s'.sl rs = some vs ∧ K (oneOrTuple vs) s'.hs := by
  cases e with
  | normal => exact ⟨rfl, hq⟩
  | ret => exact ⟨rfl, hq⟩
  | _ => exact hq.elim
 obtain ⟨he, hms, vs, hv, hk⟩ := hq';refine ⟨(.ret (oneOrTuple vs), S'), ⟨m0, fun m hm' => ?_⟩, _, _, _, rfl, hi.mem, hk⟩
 have hm := hm m hm';simp only at hm
 have hmk : a'.marks = [] := hi.act.marks.trans hms;simp only [runStep, runCall, he0, hf, hb, ofOpt, Except.bind, hm, modeOf_end he, hmk, leaveD, hr, resS_ok hi.act rs vs hv]
end Go.Am
end
section
namespace Go.Am
open Go.RowKit
set_option linter.unusedVariables false
set_option linter.unusedSimpArgs false
open Classical in
noncomputable def smC : Same := ⟨fun v w => if v = w then true else false, fun v w h => by by_cases e : v = w <;> simp_all⟩
noncomputable def Env.sym (E : Env) : Env := { E with same := smC }
theorem EnvGood.sym {E : Env} (h : EnvGood E) : EnvGood E.sym := ⟨⟨h.ok.und, h.ok.info, h.ok.byt, h.ok.zro, h.ok.fn, h.ok.ext⟩, h.orc, h.body, h.mixed, h.eff⟩
def Comes (E : Env) (f : FuncId) (args : List AV) (t : AV) : Prop := Evt E (fun rec => rec (.call f args) (S0 E f)) fun r => ∃ v S', r = (.ret v, S') ∧ reifyN 12 S' v = .ok t
theorem Comes.runsTo {E : Env} {f : FuncId} {args : List AV} {t : AV} (h : Comes E f args t) : RunsTo E f args t := Evt.runsTo h
theorem Comes.unique {E : Env} {f : FuncId} {args : List AV} {t t' : AV} (h : Comes E f args t) (h' : Comes E f args t') : t = t' := by
 obtain ⟨x, ⟨n, hn⟩, v, S, rfl, h1⟩ := h;obtain ⟨y, ⟨k, hk⟩, w, S', rfl, h2⟩ := h'
 have := (hn (max n k) (by omega)).symm.trans (hk (max n k) (by omega));cases this;rw [h1] at h2;exact Except.ok.inj h2
open Classical in
noncomputable def sem (E : Env) (f : FuncId) (args : List AV) : Option AV := if h : ∃ t, Comes E f args t then some h.choose else none
theorem sem_of {E : Env} {f : FuncId} {args : List AV} {t : AV} (h : Comes E f args t) : sem E f args = some t := by
 have h' : ∃ t, Comes E f args t := ⟨t, h⟩;unfold sem;rw [dif_pos h', h'.choose_spec.unique h]
theorem sem_comes {E : Env} {f : FuncId} {args : List AV} {t : AV} (h : sem E f args = some t) : Comes E f args t := by
 unfold sem at h;split at h
 ·rename_i h'
  cases h;exact h'.choose_spec
 ·cases h
abbrev Orc' := Nat → Option (List AV → Option AV)
def Reif (k : Nat) (hs : List Thing) (v d : AV) : Prop := ∀ S, HasS S hs → reify k S v = .ok d
def ReifL (k : Nat) (hs : List Thing) (vs ds : List AV) : Prop := ∀ S, HasS S hs → mapR (reify k S) vs = .ok ds
variable {hs : List Thing} {k : Nat}
theorem Reif.lit {v : Value} : Reif (k + 1) hs (.lit v) (.lit v) := fun S _ => rfl
theorem Reif.gs {α : Type} {enc : En α} {gs : GS enc} : Reif (k + 1) hs gs.v gs.v := fun S _ => by
 rcases gs.ok with ⟨h1, h2, h3⟩ | ⟨h1, h2⟩ <;> rw [h1] <;> rfl
theorem Reif.tree {u n : Nat} {cs : List AV} : Reif (k + 1) hs (.tree u n cs) (.tree u n cs) := fun S _ => rfl
theorem Reif.tptr {cs : List AV} : Reif (k + 1) hs (.tptr cs) (.tptr cs) := fun S _ => rfl
theorem ReifL.nil : ReifL k hs [] [] := fun S _ => rfl
theorem ReifL.cons {v d : AV} {vs ds : List AV} (h : Reif k hs v d) (hl : ReifL k hs vs ds) : ReifL k hs (v :: vs) (d :: ds) := fun S hS => by
 simp only [mapR, h S hS, hl S hS, Except.bind]
theorem Reif.agg {cs ds : List AV} (h : ReifL k hs cs ds) : Reif (k + 1) hs (.agg cs) (.agg ds) := fun S hS => by
 simp only [reify, h S hS, Except.bind]
def slv (z : Bool) (u n : Nat) (cells : List AV) : AV := bif z && Nat.beq n 0 then nilS else .tree u n cells
theorem slv_ok (z : Bool) (u n : Nat) (cells : List AV) (h : cells.length = n * u) : IsSl (slv z u n cells) u n cells := by
 unfold slv;cases z with
 | false => exact .inr ⟨rfl, h⟩
 | true =>
  by_cases h0 : n = 0
  ·subst h0
   have : cells = [] := List.eq_nil_of_length_eq_zero (by rw [h]; simp);subst this;exact .inl ⟨rfl, rfl, rfl⟩
  ·have e : Nat.beq n 0 = false := beq_false.2 h0;rw [e];exact .inr ⟨rfl, h⟩
def GSo {α : Type} (z : Bool) (e : En α) (l : List α) : GS e := ⟨slv z e.u l.length (l.flatMap e.f), l, slv_ok _ _ _ _ (flat_len e l)⟩
abbrev ownL {α : Type} (z : Bool) (v : AV) (e : En α) (l : List α) : Thing := .own z v e.u l.length (l.flatMap e.f)
theorem HasS.loadAll {S : St} (hS : HasS S hs) {id u : Nat} {cells : List AV} (h : IsRow S id u cells) : (∃ fl, rowOf S id = .ok (cells, u, fl)) ∧ ∀ off m, off + m ≤ cells.length → loadN S id off cells.length m = .ok ((cells.drop off).take m) := by
 obtain ⟨fl, h0, h1⟩ := h
 have e : rowOf S id = .ok (cells, u, fl) := by unfold rowOf; rw [h1]
 refine ⟨⟨fl, e⟩, fun off m hm => ?_⟩;unfold loadN;rw [e]
 have e1 : Nat.ble fl cells.length = true := Nat.ble_eq_true_of_le h0
 have e2 : Nat.ble (off + m) cells.length = true := Nat.ble_eq_true_of_le hm
 have e3 : Nat.ble cells.length cells.length = true := Nat.ble_eq_true_of_le (Nat.le_refl _);simp only [Except.bind, e1, e2, e3, Bool.and_self, cond_true]
theorem Reif.own {z : Bool} {v : AV} {u n : Nat} {cells ds : List AV} (hm : Thing.own z v u n cells ∈ hs) (h : ReifL k hs cells ds) : Reif (k + 1) hs v (slv z u n ds) := fun S hS => by
 have ho := hS.ok _ hm
 rcases ho with ⟨h0, h1, h2, h3⟩ | ⟨id, ex, h1, h2, h3, h4⟩
 ·subst h0; subst h1; subst h2; rfl
 ·obtain ⟨⟨fl, hl1⟩, hl2⟩ := hS.loadAll h4
  have e : (z && Nat.beq n 0) = false := by
   cases z with
   | false => rfl
   | true => exact beq_false.2 (h3 rfl)
  have e2 : (cells.drop 0).take (n * u) = cells := by rw [List.drop_zero, ← h2, List.take_length]
  subst h1;simp only [reify, hl1, Except.bind, hl2 0 (n * u) (by omega), e2, h S hS, slv, e, cond_false]
def RefN (k : Nat) (hs : List Thing) (v d : AV) : Prop := ∀ S, HasS S hs → reifyN k S v = .ok d
def RefNL (k : Nat) (hs : List Thing) (vs ds : List AV) : Prop := ∀ S, HasS S hs → mapR (reifyN k S) vs = .ok ds
theorem RefN.lit {v : Value} : RefN (k + 1) hs (.lit v) (.lit v) := fun S _ => rfl
theorem RefNL.nil : RefNL k hs [] [] := fun S _ => rfl
theorem RefNL.cons {v d : AV} {vs ds : List AV} (h : RefN k hs v d) (hl : RefNL k hs vs ds) : RefNL k hs (v :: vs) (d :: ds) := fun S hS => by
 simp only [mapR, h S hS, hl S hS, Except.bind]
theorem RefN.agg {cs ds : List AV} (h : RefNL k hs cs ds) : RefN (k + 1) hs (.agg cs) (.agg ds) := fun S hS => by
 simp only [reifyN, h S hS, Except.bind]
theorem RefN.tuple {cs ds : List AV} (h : RefNL k hs cs ds) : RefN (k + 1) hs (.tuple cs) (.tuple ds) := fun S hS => by
 simp only [reifyN, h S hS, Except.bind]
theorem RefN.own {z : Bool} {v : AV} {u n : Nat} {cells ds : List AV} (hm : Thing.own z v u n cells ∈ hs) (h : RefNL k hs cells ds) : RefN (k + 1) hs v (slv z u n ds) := fun S hS => by
 have ho := hS.ok _ hm
 rcases ho with ⟨h0, h1, h2, h3⟩ | ⟨id, ex, h1, h2, h3, h4⟩
 ·subst h0; subst h1; subst h2; rfl
 ·obtain ⟨⟨fl, hl1⟩, hl2⟩ := hS.loadAll h4
  have e : (z && Nat.beq n 0) = false := by
   cases z with
   | false => rfl
   | true => exact beq_false.2 (h3 rfl)
  have e2 : (cells.drop 0).take (n * u) = cells := by rw [List.drop_zero, ← h2, List.take_length]
  subst h1;simp only [reifyN, hl1, Except.bind, hl2 0 (n * u) (by omega), e2, h S hS, slv, e, cond_false]
theorem mapR_lits {f : AV → R AV} (hf : ∀ v, f (.lit v) = .ok (.lit v)) : ∀ (l : List Value), mapR f (l.map .lit) = .ok (l.map .lit) := by
 intro l
 induction l with
 | nil => rfl
 | cons a l ih => simp only [List.map_cons, mapR, hf, ih, Except.bind]
theorem flat_ints (l : List Int) : l.flatMap encI.f = l.map iv := by
 induction l with
 | nil => rfl
 | cons a l ih => rw [List.flatMap_cons, ih]; rfl
theorem RefNL.ints {l : List Int} : RefNL (k + 1) hs (l.flatMap encI.f) (l.flatMap encI.f) := fun S _ => by
 have := mapR_lits (f := reifyN (k + 1) S) (fun v => rfl) (l.map (.int .i64));rw [flat_ints]
 simpa [List.map_map, Function.comp_def] using this
theorem ReifL.ints {l : List Int} : ReifL (k + 1) hs (l.flatMap encI.f) (l.flatMap encI.f) := fun S _ => by
 have := mapR_lits (f := reify (k + 1) S) (fun v => rfl) (l.map (.int .i64));rw [flat_ints]
 simpa [List.map_map, Function.comp_def] using this
theorem HasS.start {E : Env} {f : FuncId} : HasS (S0 E f) [] := ⟨fun _ _ => rfl, fun x hx => by simp at hx, .nil⟩
theorem Comes.of {E : Env} {f : FuncId} {args : List AV} {t : AV} (h : TF E f args [] fun v hs => RefN 12 hs v t) : Comes E f args t :=
 (h (S0 E f) .start).mono fun r ⟨v, S', hs', h1, h2, h3⟩ => ⟨v, S', h1, h3 S' h2⟩
section
variable {E : Env} {d : Bool} {n : Nat} {rnd : Option Nat} {ops : Array Oper} {i : Nat} {l : List Nat} {ms : List Dfr} {σ : Sl} {Q : Sy → Prop} {t : Tmp} {ty : TypeId} {pos : String} {af : Array Edge} {g : Option (Nat × Bool)}
def evsL (σ : Sl) : List Operand → Option (List AV)
 | [] => some []
 | x :: l => match evs σ x, evsL σ l with | some v, some r => some (v :: r) | _, _ => none
theorem evsL_ok {a : AAct} {n : Nat} {rnd : Option Nat} {mk : List Dfr} {σ : Sl} (h : HasA a n rnd mk σ) : ∀ (xs : List Operand) (vs : List AV), evsL σ xs = some vs → xs.map a.ev = vs := by
 intro xs
 induction xs with
 | nil => intro vs hv; cases hv; rfl
 | cons x xs ih =>
  intro vs hv;simp only [evsL] at hv;split at hv
  ·rename_i v r h1 h2
   cases hv;rw [List.map_cons, ih _ h2, h.ev _ _ h1]
  ·cases hv
theorem TO.call {f : FuncId} {fn : Func} {xs : Array Operand} {ts : Array TypeId} {vs ds : List AV} {v : AV} {G : List AV → Option AV} (ho : ops[i]? = some ⟨some t, .call { callee := .value (.func f), args := xs, argTypes := ts }, ty, pos, af, g⟩)
  (hd : Nat.blt t n = true) (hw : wantS ops σ g = some true) (hx : evsL σ xs.toList = some vs) (hf : E.fn f = some fn) (hG : E.orc f = some G) (hr : ReifL 12 hs vs ds) (hg : G ds = some v)
  (k : TO E d n rnd ops l ⟨ms, (t, v) :: σ, hs⟩ Q) (hg0 : E.og f = [] := by rfl) : TO E d n rnd ops (i :: l) ⟨ms, σ, hs⟩ Q := by
 refine TO.cons_still (v := v) ho hd (fun a S hi => ⟨0, fun m _ => ?_⟩) k
 have e : aop E S a.ev ⟨some t, .call { callee := .value (.func f), args := xs, argTypes := ts }, ty, pos, af, g⟩ = .ok (.enter f vs, S) := by
  simp only [aop, acall, AAct.ev, acallee, hf, ofOpt, Except.bind, List.nil_append, List.append_nil];rw [evsL_ok hi.act _ _ hx]
 have w := hi.act.wanted (ops := ops) (o := ⟨some t, .call { callee := .value (.func f), args := xs, argTypes := ts }, ty, pos, af, g⟩) hw;unfold opVal;rw [ho];simp only [w, cond_true, e, callA, hG, hr S hi.mem, hg, ofOpt, Except.bind, hg0, glbOk, List.all_nil]
end
end Go.Am
end
section
namespace Go.Am.YtgbbhdoobhdadaaGreatDoor
open Go.Am Go.RowKit
def extJ : Nat → Option (List Value → Option Value) := fun f => match f with
 | 157 => some fun vs => match vs with
  | [.string a, .string b] => some (.int .i64 (Lib.compareBytes a.data.toList b.data.toList))
  | _ => none
 | _ => none
theorem find157 : Extern.findNext Go.Proofs.Tryz.f157 = none ∧ Extern.find Go.Proofs.Tryz.f157 = some Extern.BytealgCompare.compare := ⟨by kernel_rfl, by kernel_rfl⟩
theorem call157 (a b : ByteArray) (w : World) :
  (callFunc 157 #[.string a, .string b]).run Go.Proofs.Tryz.prog w = .ok (.value (.int .i64 (Lib.compareBytes a.data.toList b.data.toList))) w := by
 unfold callFunc;rw [run_bind_ok (a := Go.Proofs.Tryz.prog) (w1 := w) rfl];simp only [Go.Proofs.Tryz.func157];rw [if_neg (by decide)]
 have hb : Go.Proofs.Tryz.f157.body.isNone = true := rfl;rw [if_pos hb, run_bind_ok (a := ()) (w1 := w) rfl];simp only [find157.1, find157.2];rw [run_bind_ok (Lib.run_compareString a b w)];rfl
def effJ : Nat → Option (List AV → St → Option (AV × St)) := fun f => match f with
 | 32 => some fun _ _ => none
 | _ => none
noncomputable def envJ (orc : Nat → Option (List AV → Option AV)) : Env := { env orc with ext := extJ, eff := effJ }
theorem okJ (orc : Nat → Option (List AV → Option AV)) : EnvOk (envJ orc) :=
  { und := (ok orc).und, info := (ok orc).info, byt := (ok orc).byt, zro := (ok orc).zro, fn := (ok orc).fn,
    ext := fun f h e vs v hv w => by
      have e' : extJ f = some h := e
      unfold extJ at e'
      split at e'
      · cases e'
        simp only at hv
        split at hv
        · cases hv
          exact call157 _ _ w
        · cases hv
      · cases e' }
abbrev Orc := Nat → Option (List AV → Option AV)
def noOrc : Orc := fun _ => none
def bodyOk (f : Func) : Bool := match f.body with | some c => codeOk c | none => true
theorem bodies_ok : funcs.allK (fun k f => Nat.beq k 32 || bodyOk f) = true := by kernel_rfl
theorem mixed_ok : Go.Proofs.Tryz.prog.follows .mixedOrders = true := by kernel_rfl
theorem goodJ {orc : Orc} (h : ∀ f g, orc f = some g → Meets Go.Proofs.Tryz.prog f g) : EnvGood (envJ orc) :=
  { ok := okJ orc, orc := h, mixed := mixed_ok,
    body := fun f fn c he h1 h2 => by
      have := BT.All.get (BT.allK_All bodies_ok) h1
      have hne : Nat.beq f 32 = false := by
        cases hb : Nat.beq f 32 with
        | false => rfl
        | true => rw [Nat.eq_of_beq_eq_true hb] at he; cases he
      rw [hne, Bool.false_or] at this
      unfold bodyOk at this
      rw [h2] at this
      exact this,
    eff := fun f g h r S w args xs v S' _ _ hv => by
      have h' : effJ f = some g := h
      unfold effJ at h'
      split at h'
      · cases h'; cases hv
      · cases h' }
theorem good0 : EnvGood (envJ noOrc) := goodJ fun f g h => by cases h
abbrev Orc' := Orc
noncomputable def envS (orc : Orc') : Env := (envJ orc).sym
theorem goodS {orc : Orc'} (h : ∀ f g, orc f = some g → Meets Go.Proofs.Tryz.prog f g) : EnvGood (envS orc) := (goodJ h).sym
end Go.Am.YtgbbhdoobhdadaaGreatDoor
end
