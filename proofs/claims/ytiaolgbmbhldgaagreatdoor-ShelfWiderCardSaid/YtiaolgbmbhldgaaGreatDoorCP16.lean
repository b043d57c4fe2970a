/- Part 16. -/
import Derived.Test.YtiaolgbmbhldgaaGreatDoorCP2
import Derived.ChangeArms
import Derived.ChangeSlices
import Derived.OpenShut
import Derived.Test.YtiaolgbmbhldgaaGreatDoorCP12
import Derived.Test.YtiaolgbmbhldgaaGreatDoorRows
import Derived.ProofKit
import Derived.Test.YtiaolgbmbhldgaaGreatDoorCP13
section
namespace Go.Am
open Go.RowKit
def Lifts (P : Program) (t : TypeId) {α : Type} (e : En α) : Prop :=
 ∀ (H : Type) (enc : TypeId × Value → H) (W : World) (base : Nat) (held : Bool) (fuel : Nat) (cs : List Value) (x : DataW H × List MemPlace),
  DataW.trod enc P W base (fun _ => true) held fuel t cs = some x → ∃ a : α, RelL (snapR W 0) (e.f a) cs
theorem Lifts.int {P : Program} {t : TypeId} (ht : P.underlying t = some (.int .i64)) : Lifts P t encI := by
 intro H enc W base held fuel cs x hx;obtain ⟨n, rfl, _, _⟩ := DataW.trod_int ht hx;exact ⟨n, .cons (.lit _) (.nil _)⟩
theorem snap_cell {W : World} {b off : Nat} {v : Value} (h : W.cell? ⟨b, off, none⟩ = some v) : ∃ c, (snapR W 0).imm b = some c ∧ c[off]? = some v := by
 unfold World.cell? at h;split at h
 ·rename_i c _ _ hb
  simp at h;exact ⟨c, by simp only [snapR, snap, Nat.zero_le, if_true]; simp only [] at hb; rw [hb], h⟩
 ·cases h
theorem list_of {α : Type} {p : Nat → α → Prop} : ∀ n : Nat, (∀ i, i < n → ∃ a, p i a) → ∃ l : List α, l.length = n ∧ ∀ i a, l[i]? = some a → p i a := by
 intro n
 induction n with
 | zero => intro _; exact ⟨[], rfl, fun i a h => by simp at h⟩
 | succ n ih =>
  intro h;obtain ⟨l, h1, h2⟩ := ih fun i hi => h i (by omega)
  obtain ⟨a, ha⟩ := h n (by omega);refine ⟨l ++ [a], by simp [h1], fun i b hb => ?_⟩
  by_cases hi : i < l.length
  ·rw [List.getElem?_append_left hi] at hb; exact h2 i b hb
  ·rw [List.getElem?_append_right (by omega)] at hb
   have : i - l.length = 0 := by
    have := (List.getElem?_eq_some_iff.1 hb).1;simp at this; omega
   rw [this] at hb;simp at hb;subst hb
   have : i = n := by omega
   rw [this]; exact ha
theorem Lifts.slice {P : Program} {t e : TypeId} {α : Type} {en : En α} (ht : P.underlying t = some (.slice e)) (hu : P.cellsOf e = en.u) (h0 : 0 < en.u) (h : Lifts P e en) : Lifts P t (encSl en) := by
 intro H enc W base held fuel cs x hx
 rcases DataW.trod_slice ht hx with ⟨rfl, _⟩ | ⟨a, len, cap, elems, rest, n, _, rfl, _, hb, hl, _, hlen, hel, hsp, _⟩
 ·exact ⟨⟨nilS, [], .inl ⟨rfl, rfl, rfl⟩⟩, .cons (.lit _) (.nil _)⟩
 ·rw [hu] at hel hsp;obtain ⟨hrl, hr⟩ := hsp rfl
  by_cases hc : cap = 0
  ·subst hc
   have : len = 0 := by omega
   subst this;exact ⟨⟨.tree en.u 0 [], [], .inr ⟨rfl, by simp⟩⟩, .cons .tree0 (.nil _)⟩
  ·have hcell : ∀ i, i < len → ∃ (a' : α) (ci : List Value), W.cells? base (a.add (i * en.u)) en.u = some ci ∧ RelL (snapR W 0) (en.f a') ci := by
    intro i hi
    have he := hel i hi;rw [List.getElem?_eq_getElem (by omega)] at he;obtain ⟨ci, h1, h2⟩ := Option.bind_eq_some_iff.1 he;obtain ⟨a', h3⟩ := h _ _ _ _ _ _ _ _ h2;exact ⟨a', ci, h1, h3⟩
   have hspot : a.spot = none := by
    have : ∃ ci, W.cells? base (a.add (0 * en.u)) en.u = some ci := by
     by_cases hl0 : 0 < len
     ·obtain ⟨_, ci, h1, _⟩ := hcell 0 hl0;exact ⟨ci, h1⟩
     ·have hz : len = 0 := by omega
      have he := hr 0 (by omega);rw [List.getElem?_eq_getElem (by omega)] at he;obtain ⟨ci, h1, _⟩ := Option.bind_eq_some_iff.1 he;exact ⟨ci, by simpa [hz] using h1⟩
    obtain ⟨ci, h1⟩ := this;obtain ⟨_, h2, h3⟩ := World.cells?_some h1
    have h4 := h3 0 h0;rw [List.getElem?_eq_getElem (by omega)] at h4
    have := World.cell?_spot h4
    simpa [Addr.add] using this
   obtain ⟨b, off, sp⟩ := a;simp only at hspot;subst hspot;obtain ⟨l, hl1, hl2⟩ := list_of (p := fun i a' => ∃ ci : List Value, W.cells? base ((⟨b, off, none⟩ : Addr).add (i * en.u)) en.u = some ci ∧ RelL (snapR W 0) (en.f a') ci) len hcell
   have hfl : (l.flatMap en.f).length = len * en.u := by rw [flat_len, hl1]
   have each : ∀ j, j < len * en.u → ∃ v y c, (l.flatMap en.f)[j]? = some v ∧ (snapR W 0).imm b = some c ∧ c[off + j]? = some y ∧ RelV (snapR W 0) v y := by
    intro j hj
    have hi : j / en.u < l.length := by rw [hl1]; exact Nat.div_lt_of_lt_mul (by rw [Nat.mul_comm]; exact hj)
    have hk : j % en.u < en.u := Nat.mod_lt _ h0
    have hd : j / en.u * en.u + j % en.u = j := by rw [Nat.mul_comm]; exact Nat.div_add_mod j en.u
    obtain ⟨ci, h1, h2⟩ := hl2 _ _ (List.getElem?_eq_getElem hi);obtain ⟨_, h3, h4⟩ := World.cells?_some h1
    have h5 := h4 _ hk;rw [List.getElem?_eq_getElem (by omega)] at h5
    have h6 : ((⟨b, off, none⟩ : Addr).add (j / en.u * en.u)).add (j % en.u) = ⟨b, off + j, none⟩ := by
     simp only [addr_add]
     congr 1
     omega
    rw [h6] at h5;obtain ⟨c, h7, h8⟩ := snap_cell h5
    have hlen' := en.len l[j / en.u]
    have hv := List.getElem?_eq_getElem (l := en.f l[j / en.u]) (i := j % en.u) (by omega);refine ⟨_, _, c, ?_, h7, h8, h2.2 _ _ _ hv (List.getElem?_eq_getElem _)⟩
    have := flat_get (en := en) (List.getElem?_eq_getElem hi) hk;rw [hd] at this;rw [this, hv]
   refine ⟨⟨.tree en.u l.length (l.flatMap en.f), l, .inr ⟨rfl, by rw [hfl, hl1]⟩⟩, .cons ?_ (.nil _)⟩
   show RelV _ (.tree en.u l.length (l.flatMap en.f)) _;rw [hl1]
   by_cases hz : len * en.u = 0
   ·refine .tree (c := #[]) hfl hl (.inl (List.eq_nil_of_length_eq_zero (by omega))) fun i v x hv hx => by simp at hx
   ·obtain ⟨_, _, c, _, hc1, _, _⟩ := each (len * en.u - 1) (by omega);refine .tree (c := c) hfl hl (.inr ⟨hc1, ?_⟩) fun j v y hv hy => ?_
    ·obtain ⟨_, _, c', _, hc2, hc3, _⟩ := each (len * en.u - 1) (by omega);rw [hc1] at hc2;cases hc2
     have := (Array.getElem?_eq_some_iff.1 hc3).1;omega
    ·have hj := (List.getElem?_eq_some_iff.1 hv).1;obtain ⟨v', y', c', e1, e2, e3, e4⟩ := each j (by omega);rw [hc1] at e2;cases e2;rw [hv] at e1;rw [hy] at e3;cases e1;cases e3;exact e4
theorem RelL.glue {r : Ren} {a b : List AV} {cs : List Value} {n : Nat} (h1 : RelL r a (cs.take n)) (h2 : RelL r b (cs.drop n)) : RelL r (a ++ b) cs := by
 have := h1.append h2
 rwa [List.take_append_drop] at this
end Go.Am
end
section
namespace Go.Am
open Go.RowKit
def enPair {α β : Type} (a : En α) (b : En β) : En (α × β) := ⟨a.u + b.u, fun p => a.f p.1 ++ b.f p.2, fun p => by simp [a.len, b.len]⟩
theorem Lifts.map {P : Program} {t : TypeId} {α β : Type} {a : En α} {b : En β} (h : Lifts P t a) (hf : ∀ x, ∃ y, b.f y = a.f x) : Lifts P t b := by
 intro H enc W base held fuel cs x hx;obtain ⟨v, hv⟩ := h _ _ _ _ _ _ _ _ hx;obtain ⟨y, hy⟩ := hf v;exact ⟨y, by rw [hy]; exact hv⟩
theorem Lifts.arg {P : Program} {t : TypeId} {fs : Array Field} {α : Type} {en : En α} (hl : Lifts P t en) (ht : P.underlying t = some (.struct fs)) {W : World} {r : Reach} {b0 : Nat} {v : Value} (hval : Value.okWide P W r b0 t v)
  {H : Type} {enc : TypeId × Value → H} {base : Nat} {held : Bool} {d : DataW H} {ps : List MemPlace} (h : DataW.Trod enc P W base (fun _ => true) held t v d ps) : ∃ a, RelV (snapR W 0) (.agg (en.f a)) v := by
 simp only [Value.okWide, ht] at hval;obtain ⟨cs, rfl, _, _⟩ := hval;obtain ⟨fuel, hf⟩ := h;obtain ⟨a, ha⟩ := hl _ _ _ _ _ _ _ _ hf;exact ⟨a, by simpa [Value.cells] using RelV.agg ha.1 ha.2⟩
theorem Lifts.argS {P : Program} {t e : TypeId} {α : Type} {en : En α} (hl : Lifts P t (encSl en)) (ht : P.underlying t = some (.slice e)) {W : World} {r : Reach} {b0 : Nat} {v : Value} (hval : Value.okWide P W r b0 t v)
  {H : Type} {enc : TypeId × Value → H} {base : Nat} {held : Bool} {d : DataW H} {ps : List MemPlace} (h : DataW.Trod enc P W base (fun _ => true) held t v d ps) : ∃ g : GS en, RelV (snapR W 0) g.v v := by
 obtain ⟨fuel, hf⟩ := h;obtain ⟨a, ha⟩ := hl _ _ _ _ _ _ _ _ hf;refine ⟨a, ?_⟩;cases v with
 | agg cs => simp [Value.okWide, ht, Cell.okWide, Cell.ok] at hval
 | slice x y z => exact ha.2 0 _ _ rfl rfl
 | _ => simp [Value.okWide, ht, Cell.okWide, Cell.ok] at hval
end Go.Am
end
section
namespace Go.Am
open Go.RowKit
set_option linter.unusedVariables false
def encU16 : En UInt16 := ⟨1, fun b => [ivk .u16 (b.toNat : Int)], fun _ => rfl⟩
theorem Lifts.u8 {P : Program} {t : TypeId} (ht : P.underlying t = some (.int .u8)) : Lifts P t encU8 := by
 intro H enc W base held fuel cs x hx;obtain ⟨n, rfl, _, hw⟩ := DataW.trod_int ht hx
 have hw : 0 ≤ n ∧ n ≤ 255 := by
  have := Bool.and_eq_true_iff.1 hw;exact ⟨of_decide_eq_true this.1, of_decide_eq_true this.2⟩
 have e : ((UInt8.ofNat n.toNat).toNat : Int) = n := by rw [UInt8.toNat_ofNat']; omega
 refine ⟨UInt8.ofNat n.toNat, .cons ?_ (.nil _)⟩;rw [e];exact .lit _
theorem Lifts.u16 {P : Program} {t : TypeId} (ht : P.underlying t = some (.int .u16)) : Lifts P t encU16 := by
 intro H enc W base held fuel cs x hx;obtain ⟨n, rfl, _, hw⟩ := DataW.trod_int ht hx
 have hw : 0 ≤ n ∧ n ≤ 65535 := by
  have := Bool.and_eq_true_iff.1 hw;exact ⟨of_decide_eq_true this.1, of_decide_eq_true this.2⟩
 have e : ((UInt16.ofNat n.toNat).toNat : Int) = n := by rw [UInt16.toNat_ofNat']; omega
 refine ⟨UInt16.ofNat n.toNat, .cons ?_ (.nil _)⟩;rw [e];exact .lit _
theorem Lifts.argA {P : Program} {t e : TypeId} {n : Nat} {α : Type} {en : En α} (hl : Lifts P t en) (ht : P.underlying t = some (.array n e)) {W : World} {r : Reach} {b0 : Nat} {v : Value} (hval : Value.okWide P W r b0 t v)
  {H : Type} {enc : TypeId × Value → H} {base : Nat} {held : Bool} {d : DataW H} {ps : List MemPlace} (h : DataW.Trod enc P W base (fun _ => true) held t v d ps) : ∃ a, RelV (snapR W 0) (.agg (en.f a)) v := by
 simp only [Value.okWide, ht] at hval;obtain ⟨cs, rfl, _, _⟩ := hval;obtain ⟨fuel, hf⟩ := h;obtain ⟨a, ha⟩ := hl _ _ _ _ _ _ _ _ hf;exact ⟨a, by simpa [Value.cells] using RelV.agg ha.1 ha.2⟩
theorem Lifts.argI {P : Program} {t : TypeId} {k : IntKind} {α : Type} {en : En α} (hl : Lifts P t en) (ht : P.underlying t = some (.int k)) {W : World} {r : Reach} {b0 : Nat} {v : Value} (hval : Value.okWide P W r b0 t v)
  {H : Type} {enc : TypeId × Value → H} {base : Nat} {held : Bool} {d : DataW H} {ps : List MemPlace} (h : DataW.Trod enc P W base (fun _ => true) held t v d ps) : ∃ a, ∀ w, (en.f a)[0]? = some w → RelV (snapR W 0) w v := by
 obtain ⟨fuel, hf⟩ := h;obtain ⟨a, ha⟩ := hl _ _ _ _ _ _ _ _ hf;refine ⟨a, fun w hw => ?_⟩;cases v with
 | agg cs => simp [Value.okWide, ht, Cell.okWide, Cell.ok] at hval
 | _ => exact ha.2 0 _ _ hw rfl
end Go.Am
end
section
namespace Go.Am
open Go.RowKit
set_option linter.unusedVariables false
theorem Lifts.str {P : Program} {t : TypeId} (ht : P.underlying t = some .string) : Lifts P t encStr := by
 intro H enc W base held fuel cs x hx;obtain ⟨s, rfl, _, _⟩ := DataW.trod_string ht hx;refine ⟨s.data.toList, .cons ?_ (.nil _)⟩;exact .lit _
inductive Flds (P : Program) : List Field → Nat → {α : Type} → En α → Prop
 | one {f : Field} {off : Nat} {α : Type} {a : En α} (ho : f.offset = off) (hc : P.cellsOf f.type = a.u) (l : Lifts P f.type a) : Flds P [f] off a
 | cons {f : Field} {r : List Field} {off : Nat} {α β : Type} {a : En α} {b : En β} (ho : f.offset = off) (hc : P.cellsOf f.type = a.u) (l : Lifts P f.type a) (h : Flds P r (off + a.u) b) : Flds P (f :: r) off (enPair a b)
theorem Flds.run {P : Program} {H : Type} {enc : TypeId × Value → H} {W : World} {base : Nat} {held : Bool} {n : Nat} {cs : List Value} {fs : List Field} {off : Nat} {α : Type} {e : En α} (hf : Flds P fs off e)
  (h : ∀ (i : Nat) (f : Field), fs[i]? = some f → ∃ x, DataW.trod enc P W base (fun _ => true) held n f.type ((cs.drop f.offset).take (P.cellsOf f.type)) = some x) : ∃ x : α, RelL (snapR W 0) (e.f x) ((cs.drop off).take e.u) := by
 induction hf with
 | one ho hc l =>
  obtain ⟨x, hx⟩ := h 0 _ rfl;rw [ho, hc] at hx;exact l _ _ _ _ _ _ _ _ hx
 | @cons f r off α β a b ho hc l _ ih =>
  obtain ⟨x, hx⟩ := h 0 _ rfl;rw [ho, hc] at hx;obtain ⟨x0, r0⟩ := l _ _ _ _ _ _ _ _ hx;obtain ⟨x1, r1⟩ := ih fun i f hf => h (i + 1) f hf
  refine ⟨(x0, x1), ?_⟩
  show RelL _ _ ((cs.drop off).take (a.u + b.u));rw [List.take_add, List.drop_drop]
  have e1 := r0;exact RelL.append r0 r1
theorem Lifts.struct {P : Program} {t : TypeId} {fs : Array Field} {α : Type} {e : En α} (ht : P.underlying t = some (.struct fs)) (ct : P.cellsOf t = e.u) (hf : Flds P fs.toList 0 e) : Lifts P t e := by
 intro H enc W base held fuel cs x hx;obtain ⟨xs, n, _, _, hl, hn, h⟩ := DataW.trod_struct ht hx;obtain ⟨v, hv⟩ := hf.run (H := H) (enc := enc) (W := W) (base := base) (held := held) (n := n) (cs := cs) fun i f hi => by
  have hi' : fs[i]? = some f := by rw [← Array.getElem?_toList]; exact hi
  have hlt : i < xs.length := by rw [hn]; exact (Array.getElem?_eq_some_iff.1 hi').1
  exact ⟨xs[i], by rw [h i f hi', List.getElem?_eq_getElem hlt]⟩
 refine ⟨v, ?_⟩
 rwa [List.drop_zero, List.take_of_length_le (by omega)] at hv
theorem Lifts.arr3 {P : Program} {t e : TypeId} {α : Type} {a : En α} (ht : P.underlying t = some (.array 3 e)) (ce : P.cellsOf e = a.u) (ct : P.cellsOf t = a.u + (a.u + a.u)) (l : Lifts P e a) : Lifts P t (enPair a (enPair a a)) := by
 intro H enc W base held fuel cs x hx;obtain ⟨xs, n, _, _, hl, hn, h⟩ := DataW.trod_array ht hx
 have h0 := h 0 (by omega)
 have h1 := h 1 (by omega)
 have h2 := h 2 (by omega);rw [List.getElem?_eq_getElem (by omega), ce, Nat.zero_mul, List.drop_zero] at h0;rw [List.getElem?_eq_getElem (by omega), ce, Nat.one_mul] at h1;rw [List.getElem?_eq_getElem (by omega), ce, show 2 * a.u = a.u + a.u by omega, ← List.drop_drop, List.take_of_length_le (by simp; omega)] at h2;obtain ⟨x0, r0⟩ := l _ _ _ _ _ _ _ _ h0;obtain ⟨x1, r1⟩ := l _ _ _ _ _ _ _ _ h1;obtain ⟨x2, r2⟩ := l _ _ _ _ _ _ _ _ h2;exact ⟨(x0, x1, x2), .glue r0 (.glue r1 r2)⟩
theorem Lifts.arr2' {P : Program} {t e : TypeId} {α : Type} {a : En α} (ht : P.underlying t = some (.array 2 e)) (ce : P.cellsOf e = a.u) (ct : P.cellsOf t = a.u + a.u) (l : Lifts P e a) : Lifts P t (enPair a a) := by
 intro H enc W base held fuel cs x hx;obtain ⟨xs, n, _, _, hl, hn, h⟩ := DataW.trod_array ht hx
 have h0 := h 0 (by omega)
 have h1 := h 1 (by omega);rw [List.getElem?_eq_getElem (by omega), ce, Nat.zero_mul, List.drop_zero] at h0;rw [List.getElem?_eq_getElem (by omega), ce, Nat.one_mul, List.take_of_length_le (by simp; omega)] at h1;obtain ⟨x0, r0⟩ := l _ _ _ _ _ _ _ _ h0;obtain ⟨x1, r1⟩ := l _ _ _ _ _ _ _ _ h1;exact ⟨(x0, x1), .glue r0 r1⟩
end Go.Am
end
section
namespace Go.Am.YtiaolgbmbhldgaaGreatDoor
open Go.Am Go.RowKit Go.Proofs
theorem li_9 : Lifts Tryz.prog 9 encStr := .str Tryz.underlying9
theorem li_22 : Lifts Tryz.prog 22 (encSl encStr) := .slice Tryz.underlying22 (by kernel_rfl) (by decide) li_9
theorem li_3 : Lifts Tryz.prog 3 encI := .int Tryz.underlying3
theorem li_86 : Lifts Tryz.prog 86 (enPair encI (enPair encI (enPair encI encI))) := .struct Tryz.underlying86 (by kernel_rfl) (.cons rfl (by kernel_rfl) li_3 (.cons rfl (by kernel_rfl) li_3 (.cons rfl (by kernel_rfl) li_3 (.one rfl (by kernel_rfl) li_3))))
theorem lm_86 : Lifts Tryz.prog 86 qO := (li_86).map fun x => ⟨⟨x.1, x.2.1, x.2.2.1, x.2.2.2⟩, rfl⟩
theorem li_23 : Lifts Tryz.prog 23 (encSl qO) := .slice Tryz.underlying23 (by kernel_rfl) (by decide) lm_86
theorem li_28 : Lifts Tryz.prog 28 (enPair encI (enPair encI encStr)) := .struct Tryz.underlying28 (by kernel_rfl) (.cons rfl (by kernel_rfl) li_3 (.cons rfl (by kernel_rfl) li_3 (.one rfl (by kernel_rfl) li_9)))
theorem li_42 : Lifts Tryz.prog 42 (enPair (enPair encI (enPair encI encStr)) (enPair encI (enPair encI (enPair encI encI)))) := .struct Tryz.underlying42 (by kernel_rfl) (.cons rfl (by kernel_rfl) li_28 (.cons rfl (by kernel_rfl) li_3 (.cons rfl (by kernel_rfl) li_3 (.cons rfl (by kernel_rfl) li_3 (.one rfl (by kernel_rfl) li_3)))))
theorem lm_42 : Lifts Tryz.prog 42 qI := (li_42).map fun x => ⟨⟨x.1.1, x.1.2.1, x.1.2.2, x.2.1, x.2.2.1, x.2.2.2.1, x.2.2.2.2⟩, rfl⟩
theorem li_24 : Lifts Tryz.prog 24 (encSl qI) := .slice Tryz.underlying24 (by kernel_rfl) (by decide) lm_42
theorem li_26 : Lifts Tryz.prog 26 (enPair (encSl encStr) (enPair (encSl qO) (encSl qI))) := .struct Tryz.underlying26 (by kernel_rfl) (.cons rfl (by kernel_rfl) li_22 (.cons rfl (by kernel_rfl) li_23 (.one rfl (by kernel_rfl) li_24)))
theorem li_63 : Lifts Tryz.prog 63 (enPair (enPair encI (enPair encI encStr)) (enPair (enPair encI (enPair encI encStr)) (enPair encI (enPair encI encStr)))) := .arr3 Tryz.underlying63 (by kernel_rfl) (by kernel_rfl) li_28
theorem li_65 : Lifts Tryz.prog 65 encU16 := .u16 Tryz.underlying65
theorem li_5 : Lifts Tryz.prog 5 encU8 := .u8 Tryz.underlying5
theorem li_71 : Lifts Tryz.prog 71 (encSl encU8) := .slice Tryz.underlying71 (by kernel_rfl) (by decide) li_5
theorem li_83 : Lifts Tryz.prog 83 (enPair encU8 encU8) := .arr2' Tryz.underlying83 (by kernel_rfl) (by kernel_rfl) li_5
theorem li_84 : Lifts Tryz.prog 84 (enPair encU16 encU16) := .arr2' Tryz.underlying84 (by kernel_rfl) (by kernel_rfl) li_65
end Go.Am.YtiaolgbmbhldgaaGreatDoor
end
section
namespace Go.Am
set_option linter.unusedVariables false
set_option linter.unusedSimpArgs false
def upto (lo hi : Int) : List Int := (List.range (hi - lo).toNat).map fun i : Nat => lo + (i : Int)
theorem upto_nil {lo hi : Int} (h : hi ≤ lo) : upto lo hi = [] := by
 unfold upto; rw [show (hi - lo).toNat = 0 by omega]; rfl
theorem upto_succ {lo hi : Int} (h : lo ≤ hi) : upto lo (hi + 1) = upto lo hi ++ [hi] := by
 unfold upto;rw [show (hi + 1 - lo).toNat = (hi - lo).toNat + 1 by omega, List.range_succ, List.map_append]
 show _ ++ [lo + ((hi - lo).toNat : Int)] = _;rw [show lo + ((hi - lo).toNat : Int) = hi by omega]
theorem mem_upto {lo hi x : Int} : x ∈ upto lo hi ↔ lo ≤ x ∧ x < hi := by
 unfold upto;simp only [List.mem_map, List.mem_range];exact ⟨fun ⟨i, h1, h2⟩ => by omega, fun h => ⟨(x - lo).toNat, by omega, by omega⟩⟩
theorem upto_len {lo hi : Int} : (upto lo hi).length = (hi - lo).toNat := by simp [upto]
theorem upto_sorted {lo hi : Int} : (upto lo hi).Pairwise (· < ·) := by
 unfold upto;rw [List.pairwise_map];exact List.pairwise_lt_range.imp fun h => by omega
theorem iter_flat {α : Type} {body : Int × List α → Option (Stp (Int × List α) (List α))} {f : Int → List α} {lo hi : Int}
  (step : ∀ s, lo ≤ s → s < hi → body (s, (upto lo s).flatMap f) = some (.ag (s + 1, (upto lo s).flatMap f ++ f s)))
  (fin : ∀ s out, lo ≤ s → ¬ s < hi → body (s, out) = some (.dn out)) : iter body (lo, []) = some ((upto lo hi).flatMap f) := by
 have key : ∀ (m : Nat) (s : Int), lo ≤ s → (hi - s).toNat = m → iter body (s, (upto lo s).flatMap f) = some ((upto lo (max s hi)).flatMap f) := by
  intro m
  induction m with
  | zero =>
   intro s h1 h2;refine iter_eq.2 (.inr ?_);rw [fin s _ h1 (by omega), show max s hi = s by omega]
  | succ m ih =>
   intro s h1 h2;refine iter_eq.2 (.inl ⟨_, step s h1 (by omega), ?_⟩)
   have := ih (s + 1) (by omega) (by omega);rw [upto_succ h1, List.flatMap_append] at this;rw [show max s hi = max (s + 1) hi by omega]
   simpa using this
 have := key _ lo (Int.le_refl _) rfl;rw [upto_nil (Int.le_refl lo)] at this
 by_cases h : lo ≤ hi
 ·rw [show max lo hi = hi by omega] at this;exact this
 ·rw [show max lo hi = lo by omega, upto_nil (Int.le_refl lo)] at this;rw [upto_nil (by omega : hi ≤ lo)];exact this
end Go.Am
end
section
namespace Go.Am
set_option linter.unusedVariables false
set_option linter.unusedSimpArgs false
section
variable {all : List (List Int)} {m : List Int → Option Int} {k best : Nat} {least n : Int} {found : Bool} {l : List Int}
end
theorem w1_Has_eq {l : List Int} {n : Int} (hl : l.length ≤ 1000) : P_w1_Has l n = some (decide (n ∈ l)) := by
 unfold P_w1_Has;rw [iter_scanI (fun i => if l[i]? = some n then some true else none) l.length, seqx_scan]
 ·cases hf : (List.range l.length).findSome? (fun i => if l[i]? = some n then some true else none) with
  | none =>
   have := of_find_none hf;refine congrArg some (decide_eq_false fun hm => ?_).symm;obtain ⟨j, hj⟩ := List.getElem?_of_mem hm
   have h2 := this j (List.getElem?_eq_some_iff.1 hj).1;rw [if_pos hj] at h2;cases h2
  | some b =>
   obtain ⟨j, _, hj⟩ := List.exists_of_findSome?_eq_some hf
   by_cases e : l[j]? = some n
   ·rw [if_pos e] at hj;cases hj;exact congrArg some (decide_eq_true (List.mem_of_getElem? e)).symm
   ·rw [if_neg e] at hj; cases hj
 ·intro k hk _;obtain ⟨a, ha⟩ := get_some hk;unfold P_w1_Has_L1;rw [if_pos (by omega), el_at ha, chk_pos (i64_small (by omega)), ha]
  by_cases e : a = n
  ·rw [if_pos e, if_pos (by rw [e])]; rfl
  ·rw [if_neg e, if_neg (fun h => e (Option.some.inj h))]; rfl
 ·intro _;unfold P_w1_Has_L1;rw [if_neg (by omega)]
section
variable {cl : List Str} {sh : List qH} {bs books : List qB} {but clear : Int}
def RiseIn (n m : Nat) (l : List Int) : Prop := l.length = n ∧ l.Pairwise (· ≤ ·) ∧ ∀ x ∈ l, 0 ≤ x ∧ x < (m : Int)
noncomputable def costF (sh : List qH) (books : List qB) (but clear : Int) (l : List Int) : Option Int :=
 open Classical in if ¬ clear ∈ l ∧ Arr sh books l then some (movedN books l 0 but) else none
structure FewB (sh : List qH) (books : List qB) (but clear : Int) (l : List Int) (n : Int) : Prop where
 rise : RiseIn books.length sh.length l
 ok : costF sh books but clear l = some n
 least : ∀ l' n', RiseIn books.length sh.length l' → costF sh books but clear l' = some n' → n ≤ n' ∧ (n' = n → lexB l' l = false)
end
end Go.Am
end
section
namespace Go.Am
set_option linter.unusedVariables false
set_option linter.unusedSimpArgs false
section
variable {sh : List qH} {mv mv' : Int → Int → Int} {books : List qB} {a0 : qH} {but clear : Int}
theorem stand_arr' {ls : List Nat} (h0 : sh[0]? = some a0) :
  Stand sh mv books 0 0 a0.wide ls ↔ (ls.length = books.length ∧ (∀ n ∈ ls, n < sh.length) ∧ Arr sh books (intsOf ls)) ∧ ∀ (j n : Nat), ls[j]? = some n → mv j n ≠ 1000 := by
 have cap : ∀ (n : Nat) (a : qH), sh[n]? = some a → capAt a n 0 a0.wide = a.wide := fun n a ha => by
  unfold capAt
  by_cases e : n = 0
  ·subst e; rw [h0] at ha; cases ha; rw [if_pos rfl]
  ·rw [if_neg e]
 refine ⟨fun h => ⟨⟨h.len, fun n hn => (h.from_ n hn).2, (up_iff ls).2 h.up, fun s a ha => ?_⟩, fun j n hj => by have := h.may j n hj; rwa [Nat.zero_add] at this⟩, fun ⟨⟨h1, h2, h3, h4⟩, h5⟩ => ⟨h1, fun n hn => ⟨Nat.zero_le _, h2 n hn⟩, (up_iff ls).1 h3, fun n a ha _ => ?_, fun j n hj => by rw [Nat.zero_add]; exact h5 j n hj⟩⟩
 ·obtain ⟨r1, r2⟩ := h.room s a ha (Nat.zero_le _);rw [cap s a ha] at r1;exact ⟨r2, r1⟩
 ·obtain ⟨r1, r2⟩ := h4 n a ha;rw [cap n a ha];exact ⟨r2, r1⟩
theorem cost_congr : ∀ (ls : List Nat) (k : Nat), (∀ (j n : Nat), ls[j]? = some n → mv ((k + j : Nat) : Int) n = mv' ((k + j : Nat) : Int) n) → cost mv k ls = cost mv' k ls
 | [], _, _ => rfl
 | n :: ls, k, h => by
  have h0 := h 0 n rfl
  have ih := cost_congr ls (k + 1) fun j n hj => by
   have := h (j + 1) n (by simpa using hj)
   rwa [show k + (j + 1) = k + 1 + j by omega] at this
  rw [Nat.add_zero] at h0;unfold cost;rw [h0, ih]
theorem rise_nat {l : List Int} {n m : Nat} (h : RiseIn n m l) : ∃ ls : List Nat, l = intsOf ls ∧ ls.length = n ∧ (∀ x ∈ ls, x < m) ∧ ls.Pairwise (· ≤ ·) := by
 refine ⟨l.map Int.toNat, ?_, by simp [h.1], fun x hx => ?_, ?_⟩
 ·unfold intsOf;rw [List.map_map]
  have : l.map ((fun n : Nat => (n : Int)) ∘ Int.toNat) = l.map id := List.map_congr_left fun x hx => by
   have := h.2.2 x hx
   show ((x.toNat : Nat) : Int) = x;omega
  rw [this, List.map_id]
 ·obtain ⟨y, hy, rfl⟩ := List.mem_map.1 hx
  have := h.2.2 y hy;omega
 ·rw [List.pairwise_map];exact h.2.1.imp fun h => by omega
theorem rise_of {ls : List Nat} {m : Nat} (h2 : ∀ n ∈ ls, n < m) (h3 : ls.Pairwise (· ≤ ·)) : RiseIn ls.length m (intsOf ls) := by
 refine ⟨intsOf_len ls, ?_, fun x hx => ?_⟩
 ·unfold intsOf;rw [List.pairwise_map];exact h3.imp fun h => by omega
 ·obtain ⟨n, hn, rfl⟩ := List.mem_map.1 hx
  have := h2 n hn;omega
structure Counts (mv : Int → Int → Int) (n m : Nat) (books : List qB) (but clear : Int) : Prop where
 low : ∀ i k, 0 ≤ mv i k
 no : ∀ (i k : Nat), i < n → k < m → (k : Int) = clear → mv i k = 1000
 own : ∀ (i k : Nat), i < n → k < m → (k : Int) ≠ clear → mv i k = ownMv books but i k
theorem best_few (hc : Counts mv books.length sh.length books but clear) (h0 : sh[0]? = some a0) (hw : Wides books) (h11 : books.length ≤ 11) (hsh : ∀ (n : Nat) (a : qH), sh[n]? = some a → 0 ≤ a.wide) :
  ((bestW sh mv books 0 0 a0.wide).1 < 1000 → FewB sh books but clear (bestW sh mv books 0 0 a0.wide).2 (bestW sh mv books 0 0 a0.wide).1) ∧
  (¬ (bestW sh mv books 0 0 a0.wide).1 < 1000 → ∀ l, RiseIn books.length sh.length l → costF sh books but clear l = none) := by
 have hB := bestW_spec (sh := sh) hc.low books 0 0 a0.wide;generalize bestW sh mv books 0 0 a0.wide = w at hB
 have hfs : ∀ ls, feas sh mv books 0 0 a0.wide ls ↔ (ls.length = books.length ∧ (∀ n ∈ ls, n < sh.length) ∧ Arr sh books (intsOf ls)) ∧ ∀ (j n : Nat), ls[j]? = some n → mv j n ≠ 1000 := fun ls =>
  (feas_stand hsh books 0 0 a0.wide ls hw (hsh 0 a0 h0)).trans (stand_arr' h0)
 have key : ∀ ls : List Nat, ls.length = books.length → (∀ n ∈ ls, n < sh.length) →
   ((∀ (j n : Nat), ls[j]? = some n → mv j n ≠ 1000) ↔ ¬ clear ∈ intsOf ls) ∧ (¬ clear ∈ intsOf ls → cost mv 0 ls = movedN books (intsOf ls) 0 but) := by
  intro ls h1 h2;refine ⟨⟨fun h hm => ?_, fun h j n hj e => ?_⟩, fun h => ?_⟩
  ·obtain ⟨n, hn, e⟩ := List.mem_map.1 hm;obtain ⟨j, hj⟩ := List.getElem?_of_mem hn
   have hjl := (List.getElem?_eq_some_iff.1 hj).1;exact h j n hj (hc.no j n (by omega) (h2 n hn) e)
  ·have hjl := (List.getElem?_eq_some_iff.1 hj).1
   have hn := List.mem_of_getElem? hj
   by_cases e2 : (n : Int) = clear
   ·exact h (List.mem_map.2 ⟨n, hn, e2⟩)
   ·have e3 := hc.own j n (by omega) (h2 n hn) e2
    have := ownMv_rng (books := books) but (j : Int) (n : Int);omega
  ·have : cost mv 0 ls = cost (ownMv books but) 0 ls := cost_congr ls 0 fun j n hj => by
    have hjl := (List.getElem?_eq_some_iff.1 hj).1
    have hn := List.mem_of_getElem? hj;rw [Nat.zero_add];exact hc.own j n (by omega) (h2 n hn) fun e => h (List.mem_map.2 ⟨n, hn, e⟩)
   rw [this, cost_moved 0 ls (by omega)];rfl
 have all : ∀ l n, RiseIn books.length sh.length l → costF sh books but clear l = some n → ∃ ls, l = intsOf ls ∧ feas sh mv books 0 0 a0.wide ls ∧ cost mv 0 ls = n := by
  intro l n hR hn;unfold costF at hn;split at hn
  ·rename_i hok
   obtain ⟨ls, rfl, h1, h2, h3⟩ := rise_nat hR;obtain ⟨k1, k2⟩ := key ls h1 h2;refine ⟨ls, rfl, (hfs ls).2 ⟨⟨h1, h2, hok.2⟩, k1.2 hok.1⟩, ?_⟩;rw [k2 hok.1];exact Option.some.inj hn
  ·cases hn
 have lim : ∀ l : List Int, movedN books l 0 but < 1000 := fun l => by
  have := movedN_bound books l 0 but;omega
 refine ⟨fun hlt => ?_, fun hnl l hR => ?_⟩
 ·obtain ⟨ls, e1, e2, e3⟩ := hB.found hlt;obtain ⟨⟨h1, h2, h3⟩, h4⟩ := (hfs ls).1 e2;obtain ⟨k1, k2⟩ := key ls h1 h2
  have hcl := k1.1 h4;refine ⟨?_, ?_, fun l' n' hR' hn' => ?_⟩
  ·rw [e1, ← h1];exact rise_of h2 ((up_iff ls).1 h3.1)
  ·unfold costF;rw [e1, if_pos ⟨hcl, h3⟩, ← k2 hcl, e3]
  ·obtain ⟨ls', rfl, f1, f2⟩ := all l' n' hR' hn'
   have hlt' : cost mv 0 ls' < 1000 := by
    unfold costF at hn';split at hn'
    ·have := lim (intsOf ls')
     have := Option.some.inj hn';omega
    ·cases hn'
   obtain ⟨g1, g2⟩ := hB.least ls' f1 hlt';exact ⟨by omega, fun e => g2 (by omega)⟩
 ·cases hn : costF sh books but clear l with
  | none => rfl
  | some n =>
   obtain ⟨ls, rfl, f1, f2⟩ := all l n hR hn
   have hlt' : cost mv 0 ls < 1000 := by
    unfold costF at hn;split at hn
    ·have := lim (intsOf ls)
     have := Option.some.inj hn;omega
    ·cases hn
   have := (hB.least ls f1 hlt').1;omega
end
end Go.Am
end
section
namespace Go.Am
set_option linter.unusedVariables false
set_option linter.unusedSimpArgs false
theorem ints_loop {a b : List Int} (h : a.length = b.length) (hl : a.length ≤ 1000) : iter (P_w1_Ints_L1 a b) (true, 0) = some (decide (a = b)) := by
 refine Ok.get ?_;refine Ok.iter (fun s : Bool × Int => ∃ k : Nat, k ≤ a.length ∧ s.2 = k ∧ ((s.1 = true ∧ a.take k = b.take k) ∨ (s.1 = false ∧ a ≠ b))) (fun s => (if s.1 then 1 else 0) * (a.length + 1 - s.2.toNat)) ⟨0, Nat.zero_le _, rfl, .inl ⟨rfl, rfl⟩⟩ ?_;rintro ⟨same, i⟩ ⟨k, hk, hi, hs⟩;simp only at hi hs;subst hi;unfold P_w1_Ints_L1
 rcases hs with ⟨rfl, hs⟩ | ⟨rfl, hs⟩
 ·by_cases hlt : k < a.length
  ·obtain ⟨x, hx⟩ := get_some hlt;obtain ⟨y, hy⟩ := get_some (l := b) (k := k) (by omega)
   show Ok (seqx (andx (some (true, decide ((k : Int) < (a.length : Int)))) _) _) _;rw [decide_eq_true (show (k : Int) < (a.length : Int) by omega)]
   show Ok (el a (k : Int) _) _;rw [el_at hx, el_at hy];refine .chk (i64_small (by omega)) (.some ⟨⟨k + 1, by omega, rfl, ?_⟩, ?_⟩)
   ·by_cases e : x = y
    ·refine .inl ⟨decide_eq_true e, ?_⟩;rw [take_step hx, take_step hy, hs, e]
    ·refine .inr ⟨decide_eq_false e, fun h => e ?_⟩;rw [h] at hx;rw [hx] at hy;exact Option.some.inj hy
   ·show (if decide (x = y) = true then 1 else 0) * (a.length + 1 - ((k : Int) + 1).toNat) < (if true = true then 1 else 0) * (a.length + 1 - (k : Int).toNat)
    have h1 : ((k : Int) + 1).toNat = k + 1 := by omega
    have h2 : ((k : Int)).toNat = k := by omega
    rw [h1, h2, show (if true = true then (1 : Nat) else 0) = 1 from rfl]
    by_cases e : x = y
    ·rw [if_pos (decide_eq_true e)]; omega
    ·rw [if_neg (by rw [decide_eq_false e]; decide)]; omega
  ·have : k = a.length := by omega
   subst this
   show Ok (seqx (andx (some (true, decide (((a.length : Nat) : Int) < (a.length : Int)))) _) _) _;rw [decide_eq_false (by omega)];refine .some ?_
   show true = _;rw [List.take_length, h, List.take_length] at hs;exact (decide_eq_true hs).symm
 ·refine .some ?_
  show false = _;exact (decide_eq_false hs).symm
theorem w1_Ints_eq {a b : List Int} (hl : a.length ≤ 1000) : P_w1_Ints a b = some (decide (a = b)) := by
 unfold P_w1_Ints
 by_cases h : a.length = b.length
 ·rw [decide_eq_true (show (a.length : Int) = (b.length : Int) by omega), ints_loop h hl]; rfl
 ·rw [decide_eq_false (show ¬ (a.length : Int) = (b.length : Int) by omega)]
  have : iter (P_w1_Ints_L1 a b) (false, 0) = some false := iter_eq.2 (.inr rfl);rw [this, decide_eq_false fun e => h (by rw [e])]; rfl
theorem w1_Ints_refl {a : List Int} (hl : a.length ≤ 1000) : P_w1_Ints a a = some true := by rw [w1_Ints_eq hl, decide_eq_true rfl]
section
variable {cl : List Str} {sh : List qH} {bs books : List qB} {but clear : Int}
theorem own_eq {i : Nat} {n : Int} (hi : i < books.length) : P_s9_own cl sh books i n = some (ownMv books (-1) i n) := by
 obtain ⟨b, hb⟩ := get_some hi;unfold P_s9_own ownMv;rw [el_at hb, if_neg (show ¬ (i : Int) = -1 by omega)];simp only [Int.toNat_natCast, hb];split <;> rfl
def cntF (books : List qB) (but clear : Int) (i n : Int) : Int := if n = clear then 1000 else ownMv books but i n
theorem arrange_ok {F : Int → Int → Option Int} (hF : ∀ i n : Nat, i < books.length → n < sh.length → F i n = some (cntF books but clear i n)) (hs : 1 ≤ sh.length ∧ sh.length ≤ 4) (hw : Wides books) (h11 : books.length ≤ 11)
    (hsh : ∀ (n : Nat) (a : qH), sh[n]? = some a → 0 ≤ a.wide ∧ a.wide ≤ 2000) :
    ∃ m l, P_s9_arrange sh books F = some (m, l) ∧ ((m < 1000 ∧ FewB sh books but clear (l.take books.length) m) ∨ (¬ m < 1000 ∧ ∀ l, RiseIn books.length sh.length l → costF sh books but clear l = none)) := by
  obtain ⟨a0, ha0⟩ := get_some (l := sh) (k := 0) (by omega)
  have hv : ∀ i n : Nat, i < books.length → n < sh.length → mvOf F i n = cntF books but clear i n := fun i n hi hn => mvOf_of (hF i n hi hn) (by
    unfold cntF
    have := ownMv_rng (books := books) but (i : Int) (n : Int)
    split <;> omega)
  have hc : Counts (mvOf F) books.length sh.length books but clear := ⟨fun i n => (mvOf_rng F i n).1, fun i n hi hn e => by rw [hv i n hi hn]; unfold cntF; rw [if_pos e], fun i n hi hn e => by rw [hv i n hi hn]; unfold cntF; rw [if_neg e]⟩
  have hok : ArrOk sh books F := ⟨⟨h11, by omega⟩, fun b hb => by have := hw b hb; omega, fun a ha => by
      obtain ⟨j, hj⟩ := List.getElem?_of_mem ha
      have := hsh j a hj
      omega, fun i n hi hn => by rw [hF i n hi hn, hv i n hi hn]⟩
  have hb := best_few hc ha0 hw h11 fun n a ha => (hsh n a ha).1
  refine ⟨(wayOf sh books F a0).1, arrW 0 (wayOf sh books F a0), ?_, ?_⟩
  · unfold P_s9_arrange
    rw [show el sh 0 = el sh ((0 : Nat) : Int) from rfl, el_at ha0, chk_pos hok]
  · by_cases hlt : (wayOf sh books F a0).1 < 1000
    · have h1 := hb.1 hlt
      refine .inl ⟨hlt, ?_⟩
      have e : (arrW 0 (wayOf sh books F a0)).take books.length = (wayOf sh books F a0).2 := by
        unfold arrW
        rw [if_pos hlt]
        have : (wayOf sh books F a0).2.length = books.length := h1.rise.1
        rw [List.replicate_zero, List.nil_append, ← this, List.take_left]
      rw [e]
      exact h1
    · exact .inr ⟨hlt, hb.2 hlt⟩
end
section
variable {cl : List Str} {sh : List qH} {bs books : List qB} {b : qB}
theorem Fine.shw (h : Fine cl sh bs) (n : Nat) (a : qH) (ha : sh[n]? = some a) : 0 ≤ a.wide ∧ a.wide ≤ 2000 := by
 have := (h.shelf ha).2.1;unfold btw at this;omega
end
end Go.Am
end
section
namespace Go.Am
set_option linter.unusedVariables false
set_option linter.unusedSimpArgs false
theorem el_int {α β : Type} {l : List α} {x : Int} {a : α} {g : α → Option β} (h0 : 0 ≤ x) (ha : l[x.toNat]? = some a) : el l x g = g a := by
 unfold el;rw [if_pos h0, ha]
section
variable {cl : List Str} {sh : List qH} {bs books : List qB} {s : Int}
open Classical in
noncomputable def clrE (cl : List Str) (sh : List qH) (bs : List qB) (s : Int) : Int := if roomN cl sh bs = 0 then (if btw 0 ((sh.length : Int) - 1) s then (if Rises bs then 0 else 2) else 4) else roomN cl sh bs
def ClearIs (cl : List Str) (sh : List qH) (bs : List qB) (s : Int) (r : List Int × Int × Int) : Prop :=
 (clrE cl sh bs s ≠ 0 ∧ r = ([], 0, clrE cl sh bs s)) ∨ (clrE cl sh bs s = 0 ∧ (∀ l, RiseIn bs.length sh.length l → costF sh bs (-1) s l = none) ∧ r = ([], 0, 9)) ∨
 (clrE cl sh bs s = 0 ∧ ∃ l n, FewB sh bs (-1) s l n ∧ r = (l, n, 0))
open Classical in
theorem clrE_zero (h : clrE cl sh bs s = 0) : Fine cl sh bs ∧ (0 ≤ s ∧ s ≤ (sh.length : Int) - 1) ∧ Rises bs := by
 unfold clrE at h
 by_cases h0 : roomN cl sh bs = 0
 ·rw [if_pos h0] at h
  by_cases h1 : btw 0 ((sh.length : Int) - 1) s
  ·rw [if_pos h1] at h
   by_cases h2 : Rises bs
   ·exact ⟨roomN_zero.1 h0, h1, h2⟩
   ·rw [if_neg h2] at h; cases h
  ·rw [if_neg h1] at h; cases h
 ·rw [if_neg h0] at h; exact absurd h h0
open Classical in
theorem s9_Clear_ok : Ok (P_s9_Clear cl sh bs s) fun r => ClearIs cl sh bs s (r.1, r.2.2.1, r.2.2.2) := by
  unfold P_s9_Clear
  rw [s9_open_eq, andx_some']
  by_cases h : roomN cl sh bs = 0
  · have hF := roomN_zero.1 h
    have h1 := hF.sh1
    have h2 := hF.bs1
    have h3 := hF.cl1
    rw [if_neg (not_not_intro h), chk_pos (i64_small (by omega)), s9_out1, andx_some']
    by_cases g : btw 0 ((sh.length : Int) - 1) s
    · rw [decide_eq_false (not_not_intro g), if_neg (by decide), s9_ordered_eq (by omega) hF.marks hF.dist (by omega), andx_some']
      by_cases k : Rises bs
      · have hz : clrE cl sh bs s = 0 := by unfold clrE; rw [if_pos h, if_pos g, if_pos k]
        rw [decide_eq_true k, if_pos rfl]
        obtain ⟨m, l, e1, e2⟩ := arrange_ok (sh := sh) (books := bs) (but := -1) (clear := s) (F := fun i_ n_ => P_s9_Clear1 i_ n_ s cl sh bs) (fun i n hi hn => by
          unfold P_s9_Clear1 cntF
          by_cases e : (n : Int) = s
          · rw [if_pos e, if_pos e]
          · rw [if_neg e, if_neg e, own_eq hi, andx_some']) h1 hF.wides (by omega) hF.shw
        rw [e1, andx_some']
        dsimp only
        rcases e2 with ⟨h4, h5⟩ | ⟨h4, h5⟩
        · rw [if_neg (by omega), chk_pos (by omega), Int.toNat_natCast]
          exact .some (.inr (.inr ⟨hz, _, _, h5, rfl⟩))
        · rw [if_pos (by omega)]
          exact .some (.inr (.inl ⟨hz, h5, rfl⟩))
      · have hz : clrE cl sh bs s = 2 := by unfold clrE; rw [if_pos h, if_pos g, if_neg k]
        rw [decide_eq_false k, if_neg (by decide)]
        exact .some (.inl ⟨by rw [hz]; decide, by rw [hz]⟩)
    · have hz : clrE cl sh bs s = 4 := by unfold clrE; rw [if_pos h, if_neg g]
      rw [decide_eq_true g, if_pos rfl]
      exact .some (.inl ⟨by rw [hz]; decide, by rw [hz]⟩)
  · have hz : clrE cl sh bs s = roomN cl sh bs := by unfold clrE; rw [if_neg h]
    rw [if_pos h]
    exact .some (.inl ⟨by rw [hz]; exact h, by rw [hz]⟩)
def cfB (bs : List qB) (x y : Int) : Int := match bs[x.toNat]?, bs[y.toNat]? with
 | some a, some b => cmpM a.qK a.qL a.qJ b.qK b.qL b.qJ
 | _, _ => 0
theorem cfB_of {x y : Int} {a b : qB} (ha : bs[x.toNat]? = some a) (hb : bs[y.toNat]? = some b) : cfB bs x y = cmpM a.qK a.qL a.qJ b.qK b.qL b.qJ := by unfold cfB; rw [ha, hb]
theorem at_some {x : Int} (h : 0 ≤ x ∧ x < bs.length) : ∃ a, bs[x.toNat]? = some a := get_some (by omega)
theorem ord_cfB : Ord bs.length (cfB bs) := by
 refine ⟨fun x h1 h2 => ?_, fun x y z h1 h2 h3 h4 h5 h6 p q => ?_, fun x y z h1 h2 h3 h4 h5 h6 p q r => ?_⟩
 ·obtain ⟨a, ha⟩ := at_some ⟨h1, h2⟩;rw [cfB_of ha ha, cmpM_zero.2 ⟨rfl, rfl, rfl⟩];omega
 ·obtain ⟨a, ha⟩ := at_some ⟨h1, h2⟩;obtain ⟨b, hb⟩ := at_some ⟨h3, h4⟩;obtain ⟨c, hc⟩ := at_some ⟨h5, h6⟩;rw [cfB_of ha hb] at p;rw [cfB_of hb hc] at q;rw [cfB_of ha hc];exact cmpM_trans p q
 ·obtain ⟨a, ha⟩ := at_some ⟨h1, h2⟩;obtain ⟨b, hb⟩ := at_some ⟨h3, h4⟩;obtain ⟨c, hc⟩ := at_some ⟨h5, h6⟩;rw [cfB_of ha hb] at p;rw [cfB_of hb hc] at q;rw [cfB_of ha hc] at r
  by_cases e : cmpM a.qK a.qL a.qJ b.qK b.qL b.qJ = 0
  ·obtain ⟨e1, e2, e3⟩ := cmpM_zero.1 e;rw [e1, e2, e3] at r;exact q r
  ·have h7 : cmpM b.qK b.qL b.qJ a.qK a.qL a.qJ < 0 := by
    rw [cmpM_neg]; omega
   exact q (cmpM_trans h7 r)
def ordB (bs : List qB) : List Int := sortC (cfB bs) (upto 0 bs.length)
theorem ordB_perm : (ordB bs).Perm (upto 0 bs.length) := sortC_perm _ _
theorem ordB_len : (ordB bs).length = bs.length := by rw [ordB_perm.length_eq, upto_len]; omega
theorem mem_ordB {x : Int} : x ∈ ordB bs ↔ 0 ≤ x ∧ x < bs.length := ordB_perm.mem_iff.trans mem_upto
theorem cfB_ne (hd : Dist bs) {x y : Int} (hx : 0 ≤ x ∧ x < bs.length) (hy : 0 ≤ y ∧ y < bs.length) (hxy : x ≠ y) : cfB bs x y ≠ 0 := by
 obtain ⟨a, ha⟩ := at_some hx;obtain ⟨b, hb⟩ := at_some hy;rw [cfB_of ha hb];intro h;obtain ⟨e1, e2, e3⟩ := cmpM_zero.1 h
 rcases Int.lt_or_gt_of_ne hxy with h | h
 ·exact hd x.toNat y.toNat a b (by omega) ha hb ⟨e1, e2, e3⟩
 ·exact hd y.toNat x.toNat b a (by omega) hb ha ⟨e1.symm, e2.symm, e3.symm⟩
theorem cfB_neg {x y : Int} (hx : 0 ≤ x ∧ x < bs.length) (hy : 0 ≤ y ∧ y < bs.length) : cfB bs y x = - cfB bs x y := by
 obtain ⟨a, ha⟩ := at_some hx;obtain ⟨b, hb⟩ := at_some hy;rw [cfB_of ha hb, cfB_of hb ha, cmpM_neg]
theorem ordB_sorted (hd : Dist bs) : (ordB bs).Pairwise fun x y => cfB bs x y < 0 := by
 refine sortC_sorted (upto_sorted.imp_of_mem fun {x y} hx hy h => ?_) fun x hx y hy z hz => ?_
 ·have hx := mem_upto.1 hx
  have hy := mem_upto.1 hy
  have h1 := cfB_ne hd hx hy (by omega)
  have h2 := cfB_neg hx hy;exact ⟨h1, fun h => by omega⟩
 ·have hx := mem_upto.1 hx
  have hy := mem_upto.1 hy
  have hz := mem_upto.1 hz;exact ord_cfB.trans x y z hx.1 hx.2 hy.1 hy.2 hz.1 hz.2
theorem insertC_congr {cf cf' : Int → Int → Int} {a : Int} : ∀ {l : List Int}, (∀ x ∈ l, cf a x = cf' a x) → insertC cf a l = insertC cf' a l
 | [], _ => rfl
 | b :: r, h => by
  unfold insertC;rw [h b (by simp), insertC_congr fun x hx => h x (by simp [hx])]
theorem sortC_congr {cf cf' : Int → Int → Int} : ∀ {l : List Int}, (∀ x ∈ l, ∀ y ∈ l, cf x y = cf' x y) → sortC cf l = sortC cf' l
 | [], _ => rfl
 | a :: r, h => by
  unfold sortC;rw [sortC_congr fun x hx y hy => h x (by simp [hx]) y (by simp [hy])];exact insertC_congr fun x hx => h a (by simp) x (by simp [(sortC_perm cf' r).mem_iff.1 hx])
def takenB (bs : List qB) (l : List Int) : List qB := l.filterMap fun i => bs[i.toNat]?
theorem takenB_snoc {l : List Int} {i : Int} {a : qB} (h : bs[i.toNat]? = some a) : takenB bs (l ++ [i]) = takenB bs l ++ [a] := by
 unfold takenB;rw [List.filterMap_append];simp [h]
theorem takenB_len : ∀ {l : List Int}, (∀ x ∈ l, 0 ≤ x ∧ x < bs.length) → (takenB bs l).length = l.length
 | [], _ => rfl
 | i :: r, h => by
  obtain ⟨a, ha⟩ := at_some (h i (by simp))
  have ih := takenB_len (l := r) fun x hx => h x (by simp [hx])
  unfold takenB at ih ⊢;simp [ha, ih]
theorem takenB_mem {l : List Int} {b : qB} (h : b ∈ takenB bs l) : b ∈ bs := by
 obtain ⟨i, _, hi⟩ := List.mem_filterMap.1 h;exact List.mem_of_getElem? hi
theorem r9_Taken_eq {l : List Int} (h : ∀ x ∈ l, 0 ≤ x ∧ x < bs.length) (hl : l.length ≤ 1000) : P_r9_Taken bs l = some (takenB bs l) := by
 refine Ok.get ?_;unfold P_r9_Taken;refine Ok.andx (P := fun r => r = takenB bs l) ?_ (fun r hr => .some hr);refine Ok.count (fun (x : Int × List qB) => x.1) l.length (fun k x => x.2 = takenB bs (l.take k)) rfl rfl ?_ ?_
 ·rintro k ⟨i, out⟩ hk hx hI;simp only at hx hI;subst hx; subst hI;obtain ⟨x, hxk⟩ := get_some hk
  have hr := h x (List.mem_of_getElem? hxk);obtain ⟨a, ha⟩ := at_some hr;unfold P_r9_Taken_L1
  show Ok (if _ then _ else _) _
  have hlen : (takenB bs (l.take k)).length = (l.take k).length := takenB_len fun x hx => h x (List.mem_of_mem_take hx)
  rw [List.length_take] at hlen;rw [if_pos (by omega), el_at hxk, el_int hr.1 ha, chk_pos (by simp; omega), chk_pos (i64_small (by omega))];refine .some ⟨rfl, ?_⟩
  show takenB bs (l.take k) ++ [a] = _;rw [take_step hxk, takenB_snoc ha]
 ·rintro ⟨i, out⟩ hx hI;simp only at hx hI;subst hx; subst hI;unfold P_r9_Taken_L1
  show Ok (if _ then _ else _) _;rw [if_neg (by omega)];refine .some ?_
  show takenB bs (l.take l.length) = _;rw [List.take_length]
end
end Go.Am
end
section
namespace Go.Am
set_option linter.unusedVariables false
set_option linter.unusedSimpArgs false
section
variable {cl : List Str} {sh : List qH} {bs books : List qB} {s : Int}
theorem pair_at {R : Int → Int → Prop} {l : List Int} {i j : Nat} {x y : Int} (h : l.Pairwise R) (hij : i < j) (hx : l[i]? = some x) (hy : l[j]? = some y) : R x y := by
 obtain ⟨h1, e1⟩ := List.getElem?_eq_some_iff.1 hx;obtain ⟨h2, e2⟩ := List.getElem?_eq_some_iff.1 hy;rw [← e1, ← e2];exact List.pairwise_iff_getElem.1 h i j h1 h2 hij
theorem mem_take_at {l : List Int} {k : Nat} {x : Int} (h : x ∈ l.take k) : ∃ j, j < k ∧ l[j]? = some x := by
 obtain ⟨j, hj⟩ := List.getElem?_of_mem h
 have hj' := (List.getElem?_eq_some_iff.1 hj).1;rw [List.length_take] at hj';exact ⟨j, by omega, by rw [List.getElem?_take_of_lt (by omega)] at hj; exact hj⟩
theorem at_mem_take {l : List Int} {k j : Nat} {x : Int} (hj : j < k) (h : l[j]? = some x) : x ∈ l.take k := List.mem_of_getElem? (i := j) (by rw [List.getElem?_take_of_lt hj]; exact h)
theorem sorted_inner (hs : Shorts bs) (hd : Dist bs) (hl : bs.length ≤ 1000) {k : Nat} {x : Int} (hk : (ordB bs)[k]? = some x) : iter (P_r9_Sorted_L2 bs ((ordB bs).take k)) (-1, 0) = some x := by
 have hkl := (List.getElem?_eq_some_iff.1 hk).1
 have hsort := ordB_sorted hd
 have hlen := ordB_len (bs := bs)
 have hO := ord_cfB (bs := bs)
 have hx := mem_ordB.1 (List.mem_of_getElem? hk)
 have hasym : ∀ {x y : Int}, (0 ≤ x ∧ x < bs.length) → (0 ≤ y ∧ y < bs.length) → cfB bs x y < 0 → ¬ cfB bs y x < 0 := fun hx hy h => by
  have := cfB_neg hx hy;omega
 refine Ok.get ?_;refine Ok.count (fun s : Int × Int => s.2) bs.length (fun i s => (s.1 = -1 ∧ ∀ y : Nat, y < i → (y : Int) ∈ (ordB bs).take k) ∨ ((0 ≤ s.1 ∧ s.1 < i) ∧ ¬ s.1 ∈ (ordB bs).take k ∧ ∀ y : Nat, y < i → ¬ (y : Int) ∈ (ordB bs).take k → (y : Int) = s.1 ∨ cfB bs s.1 y < 0)) rfl (.inl ⟨rfl, fun y h => by omega⟩) ?_ ?_
 ·rintro i ⟨first, j⟩ hi hj hI;simp only at hj hI;subst hj;obtain ⟨a, ha⟩ := get_some hi
  have hcnt : I64 ((i : Int) + 1) := i64_small (by omega);unfold P_r9_Sorted_L2
  show Ok (if _ then _ else _) _;rw [if_pos (by omega), w1_Has_eq (by rw [List.length_take]; omega)]
  show Ok (andx (andx (if decide ((i : Int) ∈ (ordB bs).take k) = true then _ else _) _) _) _
  by_cases hin : (i : Int) ∈ (ordB bs).take k
  ·rw [if_pos (decide_eq_true hin)]
   show Ok (chk _ _) _;rw [chk_pos hcnt];refine .some ⟨rfl, ?_⟩
   rcases hI with ⟨h1, h2⟩ | ⟨h1, h2, h3⟩
   ·refine .inl ⟨h1, fun y hy => ?_⟩
    by_cases e : y = i
    ·rw [e]; exact hin
    ·exact h2 y (by omega)
   ·refine .inr ⟨⟨h1.1, by show first < ((i + 1 : Nat) : Int); omega⟩, h2, fun y hy hn => ?_⟩
    by_cases e : y = i
    ·rw [e] at hn; exact absurd hin hn
    ·exact h3 y (by omega) hn
  ·rw [if_neg (by rw [decide_eq_false hin]; decide)]
   rcases hI with ⟨h1, h2⟩ | ⟨h1, h2, h3⟩
   ·rw [if_pos (by omega)]
    show Ok (chk _ _) _;rw [chk_pos hcnt];refine .some ⟨rfl, .inr ⟨⟨by show (0 : Int) ≤ i; omega, by show (i : Int) < ((i + 1 : Nat) : Int); omega⟩, hin, fun y hy hn => ?_⟩⟩
    by_cases e : y = i
    ·exact .inl (by rw [e])
    ·exact absurd (h2 y (by omega)) hn
   ·obtain ⟨f, hf⟩ := at_some (bs := bs) (x := first) ⟨h1.1, by omega⟩
    have hsa := hs a (List.mem_of_getElem? ha)
    have hsf := hs f (List.mem_of_getElem? hf);rw [if_neg (by omega), el_at ha, el_int h1.1 hf, r9_First_eq (by omega) (by omega)]
    show Ok (andx (if decide (cmpM a.qK a.qL a.qJ f.qK f.qL f.qJ < 0) = true then _ else _) _) _
    have e0 : cmpM a.qK a.qL a.qJ f.qK f.qL f.qJ = cfB bs (i : Int) first := (cfB_of (by simpa using ha) hf).symm
    rw [e0]
    have ri : 0 ≤ (i : Int) ∧ (i : Int) < bs.length := ⟨by omega, by omega⟩
    have rf : 0 ≤ first ∧ first < bs.length := ⟨h1.1, by omega⟩
    by_cases hlt : cfB bs (i : Int) first < 0
    ·rw [if_pos (decide_eq_true hlt)]
     show Ok (chk _ _) _;rw [chk_pos hcnt];refine .some ⟨rfl, .inr ⟨⟨ri.1, by show (i : Int) < ((i + 1 : Nat) : Int); omega⟩, hin, fun y hy hn => ?_⟩⟩
     by_cases e : y = i
     ·exact .inl (by rw [e])
     ·refine .inr ?_
      rcases h3 y (by omega) hn with e1 | e1
      ·show cfB bs (i : Int) (y : Int) < 0;rw [e1]; exact hlt
      ·exact hO.trans _ _ _ ri.1 ri.2 rf.1 rf.2 (by omega) (by omega) hlt e1
    ·rw [if_neg (by rw [decide_eq_false hlt]; decide)]
     show Ok (chk _ _) _;rw [chk_pos hcnt];refine .some ⟨rfl, .inr ⟨⟨h1.1, by show first < ((i + 1 : Nat) : Int); omega⟩, h2, fun y hy hn => ?_⟩⟩
     by_cases e : y = i
     ·refine .inr ?_
      show cfB bs first (y : Int) < 0
      rw [e]
      have n1 := cfB_ne hd ri rf (by omega)
      have n2 := cfB_neg ri rf;omega
     ·exact h3 y (by omega) hn
 ·rintro ⟨first, j⟩ hj hI;simp only at hj hI;subst hj;unfold P_r9_Sorted_L2
  show Ok (if _ then _ else _) _;rw [if_neg (by omega)];refine .some ?_
  show first = x
  have hxn : ¬ x ∈ (ordB bs).take k := fun h => by
   obtain ⟨j, hj, hj'⟩ := mem_take_at h
   have := pair_at hsort hj hj' hk;exact hO.irrefl x hx.1 hx.2 this
  have hxe : ((x.toNat : Nat) : Int) = x := by omega
  rcases hI with ⟨h1, h2⟩ | ⟨h1, h2, h3⟩
  ·have := h2 x.toNat (by omega);rw [hxe] at this;exact absurd this hxn
  ·rcases h3 x.toNat (by omega) (by rw [hxe]; exact hxn) with e | e
   ·rw [← e, hxe]
   ·rw [hxe] at e;obtain ⟨j, hj⟩ := List.getElem?_of_mem (mem_ordB.2 (show 0 ≤ first ∧ first < bs.length from ⟨h1.1, by omega⟩))
    rcases Nat.lt_trichotomy j k with hlt | heq | hgt
    ·exact absurd (at_mem_take hlt hj) h2
    ·subst heq;rw [hj] at hk;exact Option.some.inj hk
    ·have := pair_at hsort hgt hk hj;exact absurd e (hasym hx ⟨h1.1, by omega⟩ this)
theorem r9_Sorted_eq (hs : Shorts bs) (hd : Dist bs) (hl : bs.length ≤ 1000) : P_r9_Sorted bs = some (ordB bs) := by
 refine Ok.get ?_;unfold P_r9_Sorted
 have hlen := ordB_len (bs := bs);refine Ok.andx (P := fun r => r = ordB bs) ?_ (fun r hr => .some hr);refine Ok.iter (fun out => ∃ k, k ≤ bs.length ∧ out = (ordB bs).take k) (fun out => bs.length - out.length) ⟨0, Nat.zero_le _, rfl⟩ ?_;rintro out ⟨k, hk, rfl⟩;unfold P_r9_Sorted_L1
 have hlt : ((ordB bs).take k).length = k := by rw [List.length_take]; omega
 by_cases h : k < bs.length
 ·obtain ⟨x, hx⟩ := get_some (l := ordB bs) (k := k) (by omega);rw [if_pos (by omega), sorted_inner hs hd hl hx, andx_some', chk_pos (by rw [hlt]; simp; omega)];refine .some ⟨⟨k + 1, by omega, (take_step hx).symm⟩, ?_⟩
  show bs.length - ((ordB bs).take k ++ [x]).length < bs.length - ((ordB bs).take k).length;rw [List.length_append, hlt];simp only [List.length_cons, List.length_nil];omega
 ·rw [if_neg (by omega)];refine .some ?_
  show (ordB bs).take k = _;exact List.take_of_length_le (by omega)
def ArrIs (cl : List Str) (sh : List qH) (bs : List qB) (r : List Int × List Int × Int × Int) : Prop :=
 (roomN cl sh bs ≠ 0 ∧ r = ([], [], 0, roomN cl sh bs)) ∨ (Fine cl sh bs ∧ (∀ l, RiseIn bs.length sh.length l → costF sh (takenB bs (ordB bs)) (-1) (-1) l = none) ∧ r = ([], [], 0, 9)) ∨
 (Fine cl sh bs ∧ ∃ l n, FewB sh (takenB bs (ordB bs)) (-1) (-1) l n ∧ r = (ordB bs, l, n, 0))
theorem taken_ord_len : (takenB bs (ordB bs)).length = bs.length := by rw [takenB_len fun x hx => mem_ordB.1 hx, ordB_len]
theorem taken_wides {l : List Int} (h : Wides bs) : Wides (takenB bs l) := fun b hb => h b (takenB_mem hb)
theorem cmp1_eq (hF : Fine cl sh bs) {x y : Int} (hx : 0 ≤ x ∧ x < bs.length) (hy : 0 ≤ y ∧ y < bs.length) : P_s9_Arrange1 x y cl sh bs = some (cfB bs x y) := by
 obtain ⟨a, ha⟩ := at_some hx;obtain ⟨b, hb⟩ := at_some hy
 have h1 := hF.cl1;unfold P_s9_Arrange1;rw [el_int hx.1 ha, el_int hy.1 hb, s9_compare_eq (by omega) (hF.marks a (List.mem_of_getElem? ha)) (hF.marks b (List.mem_of_getElem? hb)), andx_some', cfB_of ha hb]
theorem range_loop {n : Nat} (h : n ≤ 1000) {body : Int × List Int → Option (Stp (Int × List Int) (List Int))}
  (step : ∀ (i : Nat) (l : List Int), i < n → l.length = i → body (i, l) = some (.ag ((i : Int) + 1, l ++ [(i : Int)]))) (fin : ∀ (s : Int) l, ¬ s < n → body (s, l) = some (.dn l)) : iter body (0, []) = some (upto 0 n) := by
 have key := iter_flat (body := body) (f := fun i => [i]) (lo := 0) (hi := n) (fun s h1 h2 => ?_) (fun s out h1 h2 => ?_)
 ·rw [key];simp
 ·obtain ⟨i, rfl⟩ : ∃ i : Nat, s = (i : Int) := ⟨s.toNat, by omega⟩;refine step i _ (by omega) ?_;simp [upto_len]
 ·exact fin s out h2
theorem s9_Arrange_ok : Ok (P_s9_Arrange cl sh bs) fun r => ArrIs cl sh bs (r.1, r.2.2.1, r.2.2.2.2.1, r.2.2.2.2.2) := by
  unfold P_s9_Arrange
  rw [s9_open_eq, andx_some']
  by_cases h : roomN cl sh bs = 0
  · have hF := roomN_zero.1 h
    have h1 := hF.sh1
    have h2 := hF.bs1
    have hl := taken_ord_len (bs := bs)
    have ho := ordB_len (bs := bs)
    rw [if_neg (not_not_intro h)]
    have e1 : iter (P_s9_Arrange_L1 bs) (0, []) = some (upto 0 bs.length) := by
      refine range_loop (by omega) (fun i l hi hli => ?_) (fun s l hs => ?_)
      · unfold P_s9_Arrange_L1
        show (if _ then _ else _) = _
        rw [if_pos (by omega), chk_pos (by simp; omega), chk_pos (i64_small (by omega))]
      · unfold P_s9_Arrange_L1
        show (if _ then _ else _) = _
        rw [if_neg hs]
    rw [e1, andx_some']
    generalize hF' : (fun x y => P_s9_Arrange1 x y cl sh bs) = F
    have hFe : ∀ x y : Int, (0 ≤ x ∧ x < bs.length) → (0 ≤ y ∧ y < bs.length) → F x y = some (cfB bs x y) := fun x y hx hy => by rw [← hF']; exact cmp1_eq hF hx hy
    have hcf : ∀ x y : Int, (0 ≤ x ∧ x < bs.length) → (0 ≤ y ∧ y < bs.length) → cfOf F x y = cfB bs x y := fun x y hx hy => by unfold cfOf; rw [hFe x y hx hy]
    have hsort : sortC (cfOf F) (upto 0 bs.length) = ordB bs := sortC_congr fun x hx y hy => hcf x y (mem_upto.1 hx) (mem_upto.1 hy)
    have hO := ord_cfB (bs := bs)
    have hok : SortOkC F (cfOf F) bs.length (upto 0 bs.length) := by
      refine ⟨by rw [upto_len]; omega, fun x hx => mem_upto.1 hx, ⟨fun x a1 a2 => ?_, fun x y z a1 a2 a3 a4 a5 a6 => ?_, fun x y z a1 a2 a3 a4 a5 a6 => ?_⟩, ?_, fun x y a1 a2 a3 a4 => ?_⟩
      · rw [hcf x x ⟨a1, a2⟩ ⟨a1, a2⟩]; exact hO.irrefl x a1 a2
      · rw [hcf x y ⟨a1, a2⟩ ⟨a3, a4⟩, hcf y z ⟨a3, a4⟩ ⟨a5, a6⟩, hcf x z ⟨a1, a2⟩ ⟨a5, a6⟩]; exact hO.trans x y z a1 a2 a3 a4 a5 a6
      · rw [hcf x y ⟨a1, a2⟩ ⟨a3, a4⟩, hcf y z ⟨a3, a4⟩ ⟨a5, a6⟩, hcf x z ⟨a1, a2⟩ ⟨a5, a6⟩]; exact hO.ntrans x y z a1 a2 a3 a4 a5 a6
      · rw [hsort]
        refine (ordB_sorted hF.dist).imp_of_mem fun {x y} hx hy hxy => ?_
        rw [hcf x y (mem_ordB.1 hx) (mem_ordB.1 hy)]
        exact hxy
      · rw [hFe x y ⟨a1, a2⟩ ⟨a3, a4⟩, hcf x y ⟨a1, a2⟩ ⟨a3, a4⟩]
    rw [chk_pos hok, hsort]
    have e2 : iter (P_s9_Arrange_L2 cl sh bs (upto 0 bs.length)) (0, []) = some (takenB bs (ordB bs)) := by
      refine Ok.get ?_
      refine Ok.count (fun (x : Int × List qB) => x.1) (ordB bs).length (fun k x => x.2 = takenB bs ((ordB bs).take k)) rfl rfl ?_ ?_
      · rintro k ⟨i, out⟩ hk hx hI
        simp only at hx hI
        subst hx; subst hI
        obtain ⟨x, hxk⟩ := get_some hk
        have hr := mem_ordB.1 (List.mem_of_getElem? hxk)
        obtain ⟨a, ha⟩ := at_some hr
        unfold P_s9_Arrange_L2
        rw [hF', hsort]
        show Ok (if _ then _ else _) _
        have hlen : (takenB bs ((ordB bs).take k)).length = ((ordB bs).take k).length := takenB_len fun x hx => mem_ordB.1 (List.mem_of_mem_take hx)
        rw [List.length_take] at hlen
        rw [if_pos (by omega), el_at hxk, el_int hr.1 ha, chk_pos (by simp; omega), chk_pos (i64_small (by omega))]
        refine .some ⟨rfl, ?_⟩
        show takenB bs ((ordB bs).take k) ++ [a] = _
        rw [take_step hxk, takenB_snoc ha]
      · rintro ⟨i, out⟩ hx hI
        simp only at hx hI
        subst hx; subst hI
        unfold P_s9_Arrange_L2
        rw [hF', hsort]
        show Ok (if _ then _ else _) _
        rw [if_neg (by omega)]
        refine .some ?_
        show takenB bs ((ordB bs).take (ordB bs).length) = _
        rw [List.take_length]
    rw [e2, andx_some']
    obtain ⟨m, l, e3, e4⟩ := arrange_ok (sh := sh) (books := takenB bs (ordB bs)) (but := -1) (clear := -1) (F := fun i_ n_ => P_s9_own cl sh (takenB bs (ordB bs)) i_ n_) (fun i n hi hn => by
      unfold cntF
      rw [if_neg (show ¬ (n : Int) = -1 by omega), own_eq hi]) h1 (taken_wides hF.wides) (by omega) hF.shw
    rw [e3, andx_some']
    dsimp only
    rcases e4 with ⟨h4, h5⟩ | ⟨h4, h5⟩
    · rw [if_neg (by omega), chk_pos (by omega), Int.toNat_natCast, ho, ← hl]
      exact .some (.inr (.inr ⟨hF, _, _, h5, rfl⟩))
    · rw [if_pos (by omega)]
      refine .some (.inr (.inl ⟨hF, ?_, rfl⟩))
      rw [hl] at h5; exact h5
  · rw [if_pos h]
    exact .some (.inl ⟨h, rfl⟩)
end
end Go.Am
end
section
namespace Go.Am
set_option linter.unusedVariables false
set_option linter.unusedSimpArgs false
section
variable {cl : List Str} {sh : List qH} {bs books : List qB} {s : Int}
end
end Go.Am
end
section
namespace Go.Am
set_option linter.unusedVariables false
set_option linter.unusedSimpArgs false
section
variable {cl : List Str} {sh : List qH} {bs books : List qB} {b : qB}
end
end Go.Am
end
section
namespace Go.Am
set_option linter.unusedVariables false
set_option linter.unusedSimpArgs false
end Go.Am
end
section
namespace Go.Am
set_option linter.unusedVariables false
set_option linter.unusedSimpArgs false
section
variable {cl : List Str} {sh : List qH} {bs books : List qB}
end
end Go.Am
end
section
namespace Go.Am
set_option linter.unusedVariables false
set_option linter.unusedSimpArgs false
section
variable {cl : List Str} {sh : List qH} {bs books : List qB}
end
end Go.Am
end
section
namespace Go.Am
set_option linter.unusedVariables false
set_option linter.unusedSimpArgs false
section
variable {cl : List Str} {sh : List qH} {bs books : List qB} {ls : List Int} {i : Nat} {a : qH}
end
end Go.Am
end
section
namespace Go.Am
set_option linter.unusedVariables false
set_option linter.unusedSimpArgs false
section
variable {cl : List Str} {sh : List qH} {bs books : List qB}
theorem taken_at : ∀ {l : List Int} {k : Nat} {x : Int}, (∀ x ∈ l, 0 ≤ x ∧ x < bs.length) → l[k]? = some x → (takenB bs l)[k]? = bs[x.toNat]?
 | [], _, _, _, h => by simp at h
 | i :: r, 0, x, h, hx => by
  obtain ⟨a, ha⟩ := at_some (h i (by simp))
  have : i = x := by simpa using hx
  subst this;unfold takenB;simp [ha]
 | i :: r, k + 1, x, h, hx => by
  obtain ⟨a, ha⟩ := at_some (h i (by simp))
  have ih := taken_at (l := r) (k := k) (x := x) (fun x hx => h x (by simp [hx])) (by simpa using hx)
  have e : takenB bs (i :: r) = a :: takenB bs r := by unfold takenB; simp [ha]
  rw [e, List.getElem?_cons_succ];exact ih
end
end Go.Am
end
section
namespace Go.Am
set_option linter.unusedVariables false
set_option linter.unusedSimpArgs false
section
variable {cl : List Str} {sh : List qH} {bs books : List qB} {but clear : Int} {b : qB}
theorem turn_ok {x : List UInt8} {n : Nat} : Ok (P_law9_turn x n) fun r => 0 ≤ r ∧ r ≤ 255 := by
 unfold P_law9_turn
 by_cases h : (x.length : Int) = 0
 ·rw [if_pos h]; exact .some ⟨by decide, by decide⟩
 ·rw [if_neg h, chk_pos (by omega), Int.tmod_eq_emod_of_nonneg (by omega)]
  have h1 := Int.emod_nonneg (n : Int) h
  have h2 := Int.emod_lt_of_pos (n : Int) (show (0 : Int) < x.length by omega);obtain ⟨a, ha⟩ := get_some (l := x) (k := ((n : Int) % x.length).toNat) (by omega);rw [el_int h1 ha]
  have := a.toNat_lt;rw [chk_pos (by omega)];exact .some (by omega)
theorem Rising_ok {many shelves : Nat} {x : List UInt8} (hs : 1 ≤ shelves ∧ shelves ≤ 1000) (hm : many ≤ 1000) : Ok (P_law9_Rising many shelves x) (RiseIn many shelves) := by
 unfold P_law9_Rising;refine Ok.andx (P := RiseIn many shelves) ?_ (fun r hr => .some hr);refine Ok.count (fun s : Int × Int × List Int => s.2.1) many (fun k s => 0 ≤ s.1 ∧ s.1 < shelves ∧ RiseIn k shelves s.2.2 ∧ ∀ y ∈ s.2.2, y ≤ s.1) rfl ⟨by show (0 : Int) ≤ 0; omega, by show (0 : Int) < shelves; omega, ⟨rfl, List.Pairwise.nil, fun _ h => by cases h⟩, fun _ h => by cases h⟩ ?_ ?_
 ·rintro k ⟨at_, i, out⟩ hk hx ⟨h0, h1, hR, hle⟩;simp only at hx h0 h1 hR hle;subst hx;unfold P_law9_Rising_L1
  show Ok (if _ then _ else _) _;rw [if_pos (by omega), chk_pos (i64_small (by omega))];obtain ⟨r, e, hr⟩ := turn_ok (x := x) (n := k);rw [e, andx_some', chk_pos (by decide), Int.tmod_eq_emod_of_nonneg hr.1]
  have h3 := Int.emod_nonneg r (show (3 : Int) ≠ 0 by decide)
  have h4 := Int.emod_lt_of_pos r (show (0 : Int) < 3 by decide);generalize r % 3 = q at h3 h4 ⊢
  have hl := hR.1;rw [chk_pos (i64_small (by omega)), chk_pos (by simp; omega), chk_pos (i64_small (by omega))];refine .some ⟨rfl, ?_⟩
  show 0 ≤ min ((shelves : Int) - 1) (at_ + q) ∧ min ((shelves : Int) - 1) (at_ + q) < shelves ∧ RiseIn (k + 1) shelves (out ++ [min ((shelves : Int) - 1) (at_ + q)]) ∧ ∀ y ∈ out ++ [min ((shelves : Int) - 1) (at_ + q)], y ≤ min ((shelves : Int) - 1) (at_ + q)
  have hge : at_ ≤ min ((shelves : Int) - 1) (at_ + q) := by omega
  have hlt : min ((shelves : Int) - 1) (at_ + q) < shelves := by omega
  generalize min ((shelves : Int) - 1) (at_ + q) = w at hge hlt;refine ⟨by omega, hlt, ⟨by simp [hl], ?_, fun y hy => ?_⟩, fun y hy => ?_⟩
  ·rw [List.pairwise_append];refine ⟨hR.2.1, List.pairwise_singleton _ _, fun y hy z hz => ?_⟩
   have := hle y hy
   have := List.mem_singleton.1 hz;omega
  ·rcases List.mem_append.1 hy with hy | hy
   ·exact hR.2.2 y hy
   ·have := List.mem_singleton.1 hy;omega
  ·rcases List.mem_append.1 hy with hy | hy
   ·have := hle y hy;omega
   ·have := List.mem_singleton.1 hy;omega
 ·rintro ⟨at_, i, out⟩ hx ⟨_, _, hR, _⟩;simp only at hx hR;subst hx;unfold P_law9_Rising_L1
  show Ok (if _ then _ else _) _;rw [if_neg (by omega)];exact .some hR
open Classical in
theorem right_few {l : List Int} {n : Int} (hsh : sh.length ≤ 1000) (hw : Wides books) (hl : books.length ≤ 1000) (h : FewB sh books but clear l n) : P_law9_right cl sh bs books l but n = some true := by
 have hR := h.rise
 have hc := h.ok;unfold costF at hc;split at hc
 ·rename_i g
  simp only [Option.some.injEq] at hc;unfold P_law9_right
  have e1 : (l.length : Int) = books.length := by have := hR.1; omega
  rw [if_neg (not_not_intro e1)]
  have key : iter (P_law9_right_L1 sh l) 0 = some (.nx ()) := by
   refine Ok.get ?_;refine Ok.count (fun x : Int => x) l.length (fun _ _ => True) rfl trivial ?_ ?_
   ·rintro k i hk hx _;replace hx : i = k := hx;subst hx;obtain ⟨a, ha⟩ := get_some hk
    have hr := hR.2.2 a (List.mem_of_getElem? ha);unfold P_law9_right_L1
    show Ok (if _ then _ else _) _;rw [if_pos (by omega), el_at ha, if_neg (by omega), el_at ha, decide_eq_false (by omega)]
    show Ok (chk _ _) _;rw [chk_pos (i64_small (by omega))];exact .some ⟨rfl, trivial⟩
   ·rintro i hx _;replace hx : i = l.length := hx;subst hx;unfold P_law9_right_L1
    show Ok (if _ then _ else _) _;rw [if_neg (by omega)];exact .some rfl
  rw [key, seqx_nx, r9_Arranged_eq hsh hw hl hR.1, decide_eq_true g.2, andx_some', if_pos rfl, r9_Moved_eq hl hR.1, andx_some', hc, decide_eq_true rfl];rfl
 ·cases hc
open Classical in
theorem better_few {l x : List Int} {n : Int} (hsh : sh.length ≤ 1000) (hw : Wides books) (hl : books.length ≤ 1000) (h : FewB sh books but clear l n) (hx : RiseIn books.length sh.length x) (hcl : ¬ clear ∈ x) : P_law9_better cl sh bs books x but n l = some false := by
 unfold P_law9_better;rw [r9_Arranged_eq hsh hw hl hx.1, andx_some']
 by_cases ha : Arr sh books x
 ·have hc : costF sh books but clear x = some (movedN books x 0 but) := if_pos ⟨hcl, ha⟩
  have hle := h.least x _ hx hc;rw [decide_eq_true ha, if_pos rfl, r9_Moved_eq hl hx.1, andx_some', if_neg (by omega)]
  by_cases e : movedN books x 0 but = n
  ·rw [if_pos e, w1_Before_eq (by have := hx.1; omega), hle.2 e];rfl
  ·rw [if_neg e];rfl
 ·rw [decide_eq_false ha, if_neg (by decide)]
open Classical in
theorem arranged_none {x : List Int} (hsh : sh.length ≤ 1000) (hw : Wides books) (hl : books.length ≤ 1000) (h : ∀ l, RiseIn books.length sh.length l → costF sh books but clear l = none) (hx : RiseIn books.length sh.length x) (hcl : ¬ clear ∈ x) : P_r9_Arranged cl sh bs books x = some false := by
 rw [r9_Arranged_eq hsh hw hl hx.1];refine congrArg some (decide_eq_false fun ha => ?_)
 have := h x hx
 have hc : costF sh books but clear x = some (movedN books x 0 but) := if_pos ⟨hcl, ha⟩;rw [hc] at this;cases this
theorem rise_no {n m : Nat} {x : List Int} (h : RiseIn n m x) : ¬ (-1 : Int) ∈ x := fun g => by have := h.2.2 _ g; omega
end
end Go.Am
end
section
namespace Go.Am
set_option linter.unusedVariables false
set_option linter.unusedSimpArgs false
theorem up_pair : ∀ ls : List Int, (∀ k, upAt ls k) ↔ ls.Pairwise (· ≤ ·)
 | [] => ⟨fun _ => List.Pairwise.nil, fun _ k x y h => by simp at h⟩
 | [a] => ⟨fun _ => List.pairwise_singleton _ _, fun _ k x y h h' => by simp at h'⟩
 | a :: b :: r => by
  have ih := up_pair (b :: r)
  constructor
  ·intro h
   have h0 := h 0 a b rfl rfl
   have hp := ih.1 fun k x y hx hy => h (k + 1) x y (by simpa using hx) (by simpa using hy)
   refine List.pairwise_cons.2 ⟨fun x hx => ?_, hp⟩
   rcases List.mem_cons.1 hx with rfl | hx
   ·exact h0
   ·exact Int.le_trans h0 ((List.pairwise_cons.1 hp).1 x hx)
  ·intro h k x y hx hy;exact pair_le h hx hy
where
 pair_le {l : List Int} {k : Nat} {x y : Int} (h : l.Pairwise (· ≤ ·)) (hx : l[k]? = some x) (hy : l[k + 1]? = some y) : x ≤ y := pair_at h (Nat.lt_succ_self k) hx hy
theorem movedN_zero : ∀ (books : List qB) (ls : List Int) (i : Nat) (but : Int), ls.length = books.length →
  (movedN books ls i but = 0 ↔ ∀ (j : Nat) (b : qB), books[j]? = some b → ((i + j : Nat) : Int) ≠ but → ls[j]? = some b.shelf)
 | [], _, _, _, _ => ⟨fun _ j b h => by simp at h, fun _ => movedN_nil⟩
 | _ :: _, [], _, _, h => by simp at h
 | b :: r, s :: ls, i, but, hl => by
  have ih := movedN_zero r ls (i + 1) but (by simpa using hl)
  have hb := movedN_bound r ls (i + 1) but;rw [movedN_cons]
  constructor
  ·intro h j c hc hj
   have h1 : movedN r ls (i + 1) but = 0 := by
    by_cases g : ¬ (i : Int) = but ∧ ¬ s = b.shelf
    ·rw [if_pos g] at h; omega
    ·rw [if_neg g] at h; omega
   cases j with
   | zero =>
    simp only [List.getElem?_cons_zero, Option.some.injEq] at hc ⊢;subst hc
    by_cases g : s = b.shelf
    ·exact g
    ·rw [if_pos ⟨by simpa using hj, g⟩] at h; omega
   | succ j =>
    rw [List.getElem?_cons_succ] at hc ⊢;exact ih.1 h1 j c hc (by rw [show i + 1 + j = i + (j + 1) by omega]; exact hj)
  ·intro h
   have h1 : movedN r ls (i + 1) but = 0 := ih.2 fun j c hc hj => by
    have := h (j + 1) c (by rw [List.getElem?_cons_succ]; exact hc) (by rw [show i + (j + 1) = i + 1 + j by omega]; exact hj)
    rwa [List.getElem?_cons_succ] at this
   rw [h1, if_neg]
   ·rfl
   ·rintro ⟨g1, g2⟩
    have := h 0 b rfl (by simpa using g1);simp only [List.getElem?_cons_zero, Option.some.injEq] at this;exact g2 this
section
variable {cl : List Str} {sh : List qH} {bs books : List qB} {but clear : Int} {b : qB}
end
end Go.Am
end
section
namespace Go.Am
set_option linter.unusedVariables false
set_option linter.unusedSimpArgs false
section
variable {cl : List Str} {sh : List qH} {bs books : List qB} {but clear : Int} {b : qB}
theorem own_rise (hF : Fine cl sh bs) : RiseIn bs.length sh.length (bs.map (·.shelf)) := by
 refine ⟨by simp, (up_pair _).1 fun k x y hx hy => ?_, fun x hx => ?_⟩
 ·rw [List.getElem?_map] at hx hy;cases ha : bs[k]? with
  | none => rw [ha] at hx; cases hx
  | some a =>
   cases hb : bs[k + 1]? with
   | none => rw [hb] at hy; cases hy
   | some b =>
    rw [ha] at hx; rw [hb] at hy;cases hx; cases hy
    have h := (bkErr_zero (bk_all hF.bs2 hb)).2.2.1
    by_cases g : b.shelf < a.shelf
    ·exact absurd ⟨by omega, a, by simpa using ha, g⟩ h
    ·show a.shelf ≤ b.shelf; omega
 ·obtain ⟨a, ha, rfl⟩ := List.mem_map.1 hx;obtain ⟨j, hj⟩ := List.getElem?_of_mem ha;exact hF.book hj
theorem own_arr (hF : Fine cl sh bs) : Arr sh bs (bs.map (·.shelf)) := by
 refine ⟨(up_pair _).2 (own_rise hF).2.1, fun s a ha => ?_⟩;rw [withS_own];exact hF.fits ha
theorem own_cost (hF : Fine cl sh bs) : costF sh bs (-1) (-1) (bs.map (·.shelf)) = some 0 := by
 unfold costF;rw [if_pos ⟨rise_no (own_rise hF), own_arr hF⟩];refine congrArg some ((movedN_zero _ _ _ _ (by simp)).2 fun j b hb _ => ?_);rw [List.getElem?_map, hb];rfl
theorem sortC_id {cf : Int → Int → Int} : ∀ {l : List Int}, (∀ k x y, l[k]? = some x → l[k + 1]? = some y → cf x y < 0) → sortC cf l = l
 | [], _ => rfl
 | [a], _ => rfl
 | a :: b :: r, h => by
  have ih := sortC_id (l := b :: r) fun k x y hx hy => h (k + 1) x y (by simpa using hx) (by simpa using hy)
  have h0 := h 0 a b rfl rfl;rw [sortC, ih, insertC, if_pos (by omega)]
theorem upto_at {n k : Nat} {x : Int} (h : (upto 0 n)[k]? = some x) : x = k ∧ k < n := by
 unfold upto at h;rw [List.getElem?_map] at h
 by_cases hk : k < ((n : Int) - 0).toNat
 ·rw [List.getElem?_range hk] at h;simp at h;omega
 ·rw [List.getElem?_eq_none (by simpa using hk)] at h;cases h
theorem at_upto {n k : Nat} (h : k < n) : (upto 0 n)[k]? = some (k : Int) := by
 unfold upto;rw [List.getElem?_map, List.getElem?_range (by omega)];simp
theorem ordB_id (h : Rises bs) : ordB bs = upto 0 bs.length := by
 refine sortC_id fun k x y hx hy => ?_
 obtain ⟨rfl, h1⟩ := upto_at hx;obtain ⟨rfl, h2⟩ := upto_at hy;obtain ⟨a, ha⟩ := get_some (l := bs) h1;obtain ⟨b, hb⟩ := get_some (l := bs) h2;rw [cfB_of (a := a) (b := b) (by simpa using ha) (by rw [Int.toNat_natCast]; exact hb)];exact h k a b ha hb
theorem taken_id (h : Rises bs) : takenB bs (ordB bs) = bs := by
 have hl := taken_ord_len (bs := bs);refine List.ext_getElem? fun j => ?_
 by_cases hj : j < bs.length
 ·rw [taken_at (fun x hx => mem_ordB.1 hx) (by rw [ordB_id h]; exact at_upto hj), Int.toNat_natCast]
 ·rw [List.getElem?_eq_none (by omega), List.getElem?_eq_none (by omega)]
theorem arr_rises (hF : Fine cl sh bs) (hR : Rises bs) {r : List Int × List Int × Int × Int} (h : ArrIs cl sh bs r) : r = (ordB bs, bs.map (·.shelf), 0, 0) := by
 rcases h with ⟨h1, _⟩ | ⟨_, h1, _⟩ | ⟨_, l, n, h1, h2⟩
 ·exact absurd (roomN_zero.2 hF) h1
 ·have := h1 _ (own_rise hF);rw [taken_id hR, own_cost hF] at this;cases this
 ·rw [taken_id hR] at h1
  have hle := (h1.least _ _ (own_rise hF) (own_cost hF)).1
  have hok := h1.ok
  have hR := h1.rise;unfold costF at hok;split at hok
  rotate_left
  ·cases hok
  simp only [Option.some.injEq] at hok
  have hb := (movedN_bound bs l 0 (-1)).1
  have hz : n = 0 := by omega
  subst hz
  have h3 := (movedN_zero bs l 0 (-1) hR.1).1 hok
  have : l = bs.map (·.shelf) := by
   refine List.ext_getElem? fun j => ?_
   have hl := hR.1
   by_cases hj : j < bs.length
   ·obtain ⟨b, hb⟩ := get_some hj;rw [h3 j b hb (by omega), List.getElem?_map, hb];rfl
   ·rw [List.getElem?_eq_none (by omega), List.getElem?_eq_none (by simpa using hj)]
  rw [h2, this]
open Classical in
theorem ShelfArranged_true (cl : List Str) (sh : List qH) (bs : List qB) (x : List UInt8) (which : UInt8) : P_law_ShelfArranged cl sh bs x which = some true := by
  obtain ⟨⟨o, zo, l, zl, m, e⟩, eA, hA⟩ := s9_Arrange_ok (cl := cl) (sh := sh) (bs := bs)
  unfold P_law_ShelfArranged
  rw [eA, andx_some']
  dsimp only
  rw [law9_valid_eq, andx_some', show (GSo zo encI o).l = o from rfl, show (GSo zl encI l).l = l from rfl]
  simp only at hA
  by_cases hF : Fine cl sh bs
  · have hsh := hF.sh1
    have h10 := hF.bs1
    have hw := hF.wides
    have hN := roomN_zero.2 hF
    have ho := ordB_len (bs := bs)
    have hto := taken_ord_len (bs := bs)
    have hwt := taken_wides (bs := bs) (l := ordB bs) hw
    rw [decide_eq_true hF, if_pos rfl]
    obtain ⟨v, ev, hv⟩ := Rising_ok (many := bs.length) (shelves := sh.length) (x := x) (by omega) (by omega)
    have hvt : RiseIn (takenB bs (ordB bs)).length sh.length v := by rw [hto]; exact hv
    have hvl := hv.1
    have hb := which.toNat_lt
    rw [ev, andx_some', chk_pos (by omega), chk_pos (by omega), Int.tmod_eq_emod_of_nonneg (by omega)]
    have hs1 := Int.emod_nonneg (which.toNat : Int) (show (sh.length : Int) ≠ 0 by omega)
    have hs2 := Int.emod_lt_of_pos (which.toNat : Int) (show (0 : Int) < sh.length by omega)
    generalize (which.toNat : Int) % (sh.length : Int) = s at hs1 hs2 ⊢
    obtain ⟨⟨l', zl', m', e'⟩, eC, hC⟩ := s9_Clear_ok (cl := cl) (sh := sh) (bs := bs) (s := s)
    rw [eC, andx_some']
    dsimp only
    simp only at hC
    rw [show (GSo zl' encI l').l = l' from rfl, r9_Ordered_eq hF.marks.shorts (by omega), andx_some', r9_Sorted_eq hF.marks.shorts hF.dist (by omega), andx_some', r9_Taken_eq (fun x hx => mem_ordB.1 hx) (by omega), andx_some']
    have hclr : clrE cl sh bs s = if Rises bs then 0 else 2 := by
      unfold clrE
      rw [if_pos hN, if_pos (by unfold btw; omega)]
    have hA1 : (if decide (Rises bs) = true then andx (if ¬ e = 0 then some true else if ¬ m = 0 then some true else andx (P_r9_Own bs) fun y77 => andx (P_w1_Ints l y77) fun y78 => some (!y78)) fun x80 => if x80 = true then some (Ex.rt false) else some (Ex.nx ())
        else if ¬ e' = 2 then some (Ex.rt false) else some (Ex.nx ())) = some (Ex.nx () : Ex Unit Bool) := by
      by_cases hR : Rises bs
      · have h1 := arr_rises hF hR hA
        simp only [Prod.mk.injEq] at h1
        obtain ⟨rfl, rfl, rfl, rfl⟩ := h1
        rw [if_pos (decide_eq_true hR), if_neg (not_not_intro rfl), if_neg (not_not_intro rfl), r9_Own_eq (by omega), andx_some', w1_Ints_refl (by simp; omega), andx_some', andx_some']
        rfl
      · rw [if_neg hR] at hclr
        rw [if_neg (by rw [decide_eq_false hR]; decide)]
        have he : e' = 2 := by
          rcases hC with ⟨g, h1⟩ | ⟨g, _⟩ | ⟨g, _⟩
          · simp only [Prod.mk.injEq] at h1
            rw [h1.2.2, hclr]
          · rw [hclr] at g; cases g
          · rw [hclr] at g; cases g
        rw [if_neg (not_not_intro he)]
    rw [hA1, seqx_nx]
    have hA2 : (if ¬ e = 0 then andx (if ¬ e = 9 then some true else andx (P_r9_Arranged cl sh bs (takenB bs (ordB bs)) v) fun y95 => some y95) fun x96 => if x96 = true then some (Ex.rt false) else some (Ex.nx ())
        else andx (andx (some (ordB bs)) fun y100 => andx (P_w1_Ints o y100) fun y101 => if y101 = true then andx (P_law9_right cl sh bs (takenB bs (ordB bs)) l (-1) m) fun y108 => if y108 = true then andx (P_law9_better cl sh bs (takenB bs (ordB bs)) v (-1) m l) fun y117 => some y117 else some true else some true) fun x118 => if x118 = true then some (Ex.rt false) else some (Ex.nx ()))
        = some (Ex.nx () : Ex Unit Bool) := by
      rcases hA with ⟨h1, _⟩ | ⟨_, h1, h2⟩ | ⟨_, l0, n0, h1, h2⟩
      · exact absurd hN h1
      · simp only [Prod.mk.injEq] at h2
        obtain ⟨rfl, rfl, rfl, rfl⟩ := h2
        rw [if_pos (by decide), if_neg (not_not_intro rfl), arranged_none (by omega) hwt (by omega) (by rw [hto]; exact h1) hvt (rise_no hv), andx_some', andx_some']
        rfl
      · simp only [Prod.mk.injEq] at h2
        obtain ⟨rfl, rfl, rfl, rfl⟩ := h2
        rw [if_neg (not_not_intro rfl), andx_some', w1_Ints_refl (by omega), andx_some', if_pos rfl, right_few (by omega) hwt (by omega) h1, andx_some', if_pos rfl, better_few (by omega) hwt (by omega) h1 hvt (rise_no hv), andx_some', andx_some']
        rfl
    rw [hA2, seqx_nx]
    rcases hC with ⟨g, h1⟩ | ⟨g, h1, h2⟩ | ⟨g, l0, n0, h1, h2⟩
    · simp only [Prod.mk.injEq] at h1
      by_cases hR : Rises bs
      · rw [if_pos hR] at hclr; exact absurd hclr g
      · rw [if_neg hR] at hclr
        rw [if_pos (by rw [h1.2.2, hclr]), decide_eq_false hR, andx_some', if_neg (by decide)]
        rfl
    · simp only [Prod.mk.injEq] at h2
      obtain ⟨rfl, rfl, rfl⟩ := h2
      have hR := (clrE_zero g).2.2
      rw [if_neg (by decide), if_pos (by decide), if_pos rfl, w1_Has_eq (by omega), andx_some', taken_id hR]
      by_cases hc : s ∈ v
      · rw [if_pos (decide_eq_true hc)]; rfl
      · rw [if_neg (by rw [decide_eq_false hc]; decide), arranged_none (by omega) hw (by omega) h1 hv hc, andx_some', if_neg (by decide)]
        rfl
    · simp only [Prod.mk.injEq] at h2
      obtain ⟨rfl, rfl, rfl⟩ := h2
      have hR := (clrE_zero g).2.2
      have hok := h1.ok
      unfold costF at hok
      split at hok
      rotate_left
      · cases hok
      rename_i gg
      have hll := h1.rise.1
      rw [if_neg (by decide), if_neg (not_not_intro rfl), taken_id hR, right_few (by omega) hw (by omega) h1, andx_some', if_pos rfl, w1_Has_eq (by omega), andx_some', if_neg (by rw [decide_eq_false gg.1]; decide), w1_Has_eq (by omega), andx_some']
      by_cases hc : s ∈ v
      · rw [if_pos (decide_eq_true hc)]; rfl
      · rw [if_neg (by rw [decide_eq_false hc]; decide), better_few (by omega) hw (by omega) h1 hv hc, andx_some', if_neg (by decide)]
        rfl
  · rw [decide_eq_false hF, if_neg (by decide)]
    rcases hA with ⟨h1, h2⟩ | ⟨h1, _⟩ | ⟨h1, _⟩
    · simp only [Prod.mk.injEq] at h2
      obtain ⟨rfl, rfl, rfl, rfl⟩ := h2
      rw [if_pos h1, chk_pos (i64_small (by simp)), if_pos (by simp)]
      rfl
    · exact absurd h1 hF
    · exact absurd h1 hF
end
end Go.Am
end
