/- Part 15. -/
import Derived.Test.YtiaolgbmbhldgaaGreatDoorFP2
import Derived.ChangeArms
import Derived.ChangeSlices
import Derived.OpenShut
import Derived.Test.YtiaolgbmbhldgaaGreatDoorFP12
import Derived.Test.YtiaolgbmbhldgaaGreatDoorRows
import Derived.ProofKit
import Derived.Test.YtiaolgbmbhldgaaGreatDoorFP13
section
namespace Go.Am
open Go.RowKit
def Lifts (P : Program) (t : TypeId) {α : Type} (e : En α) : Prop :=
 ∀ (H : Type) (enc : TypeId × Value → H) (W : World) (base : Nat) (held : Bool) (fuel : Nat) (cs : List Value) (x : DataW H × List MemPlace),
  DataW.trod enc P W base (fun _ => true) held fuel t cs = some x → ∃ a : α, RelL (snapR W 0) (e.f a) cs
theorem Lifts.int {P : Program} {t : TypeId} (ht : P.underlying t = some (.int .i64)) : Lifts P t encI := by
 intro H enc W base held fuel cs x hx;obtain ⟨n, rfl, _, _⟩ := DataW.trod_int ht hx;exact ⟨n, .cons (.lit _) (.nil _)⟩
theorem snap_cell {W : World} {b off : Nat} {v : Value} (h : W.cell? ⟨b, off, none⟩ = some v) : ∃ c, (snapR W 0).imm b = some c ∧ c[off]? = some v := by
 unfold World.cell? at h;split at h
 ·rename_i c _ _ hb
  simp at h;exact ⟨c, by simp only [snapR, snap, Nat.zero_le, if_true]; simp only [] at hb; rw [hb], h⟩
 ·cases h
theorem list_of {α : Type} {p : Nat → α → Prop} : ∀ n : Nat, (∀ i, i < n → ∃ a, p i a) → ∃ l : List α, l.length = n ∧ ∀ i a, l[i]? = some a → p i a := by
 intro n
 induction n with
 | zero => intro _; exact ⟨[], rfl, fun i a h => by simp at h⟩
 | succ n ih =>
  intro h;obtain ⟨l, h1, h2⟩ := ih fun i hi => h i (by omega)
  obtain ⟨a, ha⟩ := h n (by omega);refine ⟨l ++ [a], by simp [h1], fun i b hb => ?_⟩
  by_cases hi : i < l.length
  ·rw [List.getElem?_append_left hi] at hb; exact h2 i b hb
  ·rw [List.getElem?_append_right (by omega)] at hb
   have : i - l.length = 0 := by
    have := (List.getElem?_eq_some_iff.1 hb).1;simp at this; omega
   rw [this] at hb;simp at hb;subst hb
   have : i = n := by omega
   rw [this]; exact ha
theorem Lifts.slice {P : Program} {t e : TypeId} {α : Type} {en : En α} (ht : P.underlying t = some (.slice e)) (hu : P.cellsOf e = en.u) (h0 : 0 < en.u) (h : Lifts P e en) : Lifts P t (encSl en) := by
 intro H enc W base held fuel cs x hx
 rcases DataW.trod_slice ht hx with ⟨rfl, _⟩ | ⟨a, len, cap, elems, rest, n, _, rfl, _, hb, hl, _, hlen, hel, hsp, _⟩
 ·exact ⟨⟨nilS, [], .inl ⟨rfl, rfl, rfl⟩⟩, .cons (.lit _) (.nil _)⟩
 ·rw [hu] at hel hsp;obtain ⟨hrl, hr⟩ := hsp rfl
  by_cases hc : cap = 0
  ·subst hc
   have : len = 0 := by omega
   subst this;exact ⟨⟨.tree en.u 0 [], [], .inr ⟨rfl, by simp⟩⟩, .cons .tree0 (.nil _)⟩
  ·have hcell : ∀ i, i < len → ∃ (a' : α) (ci : List Value), W.cells? base (a.add (i * en.u)) en.u = some ci ∧ RelL (snapR W 0) (en.f a') ci := by
    intro i hi
    have he := hel i hi;rw [List.getElem?_eq_getElem (by omega)] at he;obtain ⟨ci, h1, h2⟩ := Option.bind_eq_some_iff.1 he;obtain ⟨a', h3⟩ := h _ _ _ _ _ _ _ _ h2;exact ⟨a', ci, h1, h3⟩
   have hspot : a.spot = none := by
    have : ∃ ci, W.cells? base (a.add (0 * en.u)) en.u = some ci := by
     by_cases hl0 : 0 < len
     ·obtain ⟨_, ci, h1, _⟩ := hcell 0 hl0;exact ⟨ci, h1⟩
     ·have hz : len = 0 := by omega
      have he := hr 0 (by omega);rw [List.getElem?_eq_getElem (by omega)] at he;obtain ⟨ci, h1, _⟩ := Option.bind_eq_some_iff.1 he;exact ⟨ci, by simpa [hz] using h1⟩
    obtain ⟨ci, h1⟩ := this;obtain ⟨_, h2, h3⟩ := World.cells?_some h1
    have h4 := h3 0 h0;rw [List.getElem?_eq_getElem (by omega)] at h4
    have := World.cell?_spot h4
    simpa [Addr.add] using this
   obtain ⟨b, off, sp⟩ := a;simp only at hspot;subst hspot;obtain ⟨l, hl1, hl2⟩ := list_of (p := fun i a' => ∃ ci : List Value, W.cells? base ((⟨b, off, none⟩ : Addr).add (i * en.u)) en.u = some ci ∧ RelL (snapR W 0) (en.f a') ci) len hcell
   have hfl : (l.flatMap en.f).length = len * en.u := by rw [flat_len, hl1]
   have each : ∀ j, j < len * en.u → ∃ v y c, (l.flatMap en.f)[j]? = some v ∧ (snapR W 0).imm b = some c ∧ c[off + j]? = some y ∧ RelV (snapR W 0) v y := by
    intro j hj
    have hi : j / en.u < l.length := by rw [hl1]; exact Nat.div_lt_of_lt_mul (by rw [Nat.mul_comm]; exact hj)
    have hk : j % en.u < en.u := Nat.mod_lt _ h0
    have hd : j / en.u * en.u + j % en.u = j := by rw [Nat.mul_comm]; exact Nat.div_add_mod j en.u
    obtain ⟨ci, h1, h2⟩ := hl2 _ _ (List.getElem?_eq_getElem hi);obtain ⟨_, h3, h4⟩ := World.cells?_some h1
    have h5 := h4 _ hk;rw [List.getElem?_eq_getElem (by omega)] at h5
    have h6 : ((⟨b, off, none⟩ : Addr).add (j / en.u * en.u)).add (j % en.u) = ⟨b, off + j, none⟩ := by
     simp only [addr_add]
     congr 1
     omega
    rw [h6] at h5;obtain ⟨c, h7, h8⟩ := snap_cell h5
    have hlen' := en.len l[j / en.u]
    have hv := List.getElem?_eq_getElem (l := en.f l[j / en.u]) (i := j % en.u) (by omega);refine ⟨_, _, c, ?_, h7, h8, h2.2 _ _ _ hv (List.getElem?_eq_getElem _)⟩
    have := flat_get (en := en) (List.getElem?_eq_getElem hi) hk;rw [hd] at this;rw [this, hv]
   refine ⟨⟨.tree en.u l.length (l.flatMap en.f), l, .inr ⟨rfl, by rw [hfl, hl1]⟩⟩, .cons ?_ (.nil _)⟩
   show RelV _ (.tree en.u l.length (l.flatMap en.f)) _;rw [hl1]
   by_cases hz : len * en.u = 0
   ·refine .tree (c := #[]) hfl hl (.inl (List.eq_nil_of_length_eq_zero (by omega))) fun i v x hv hx => by simp at hx
   ·obtain ⟨_, _, c, _, hc1, _, _⟩ := each (len * en.u - 1) (by omega);refine .tree (c := c) hfl hl (.inr ⟨hc1, ?_⟩) fun j v y hv hy => ?_
    ·obtain ⟨_, _, c', _, hc2, hc3, _⟩ := each (len * en.u - 1) (by omega);rw [hc1] at hc2;cases hc2
     have := (Array.getElem?_eq_some_iff.1 hc3).1;omega
    ·have hj := (List.getElem?_eq_some_iff.1 hv).1;obtain ⟨v', y', c', e1, e2, e3, e4⟩ := each j (by omega);rw [hc1] at e2;cases e2;rw [hv] at e1;rw [hy] at e3;cases e1;cases e3;exact e4
theorem RelL.glue {r : Ren} {a b : List AV} {cs : List Value} {n : Nat} (h1 : RelL r a (cs.take n)) (h2 : RelL r b (cs.drop n)) : RelL r (a ++ b) cs := by
 have := h1.append h2
 rwa [List.take_append_drop] at this
end Go.Am
end
section
namespace Go.Am
open Go.RowKit
def enPair {α β : Type} (a : En α) (b : En β) : En (α × β) := ⟨a.u + b.u, fun p => a.f p.1 ++ b.f p.2, fun p => by simp [a.len, b.len]⟩
theorem Lifts.map {P : Program} {t : TypeId} {α β : Type} {a : En α} {b : En β} (h : Lifts P t a) (hf : ∀ x, ∃ y, b.f y = a.f x) : Lifts P t b := by
 intro H enc W base held fuel cs x hx;obtain ⟨v, hv⟩ := h _ _ _ _ _ _ _ _ hx;obtain ⟨y, hy⟩ := hf v;exact ⟨y, by rw [hy]; exact hv⟩
theorem Lifts.arg {P : Program} {t : TypeId} {fs : Array Field} {α : Type} {en : En α} (hl : Lifts P t en) (ht : P.underlying t = some (.struct fs)) {W : World} {r : Reach} {b0 : Nat} {v : Value} (hval : Value.okWide P W r b0 t v)
  {H : Type} {enc : TypeId × Value → H} {base : Nat} {held : Bool} {d : DataW H} {ps : List MemPlace} (h : DataW.Trod enc P W base (fun _ => true) held t v d ps) : ∃ a, RelV (snapR W 0) (.agg (en.f a)) v := by
 simp only [Value.okWide, ht] at hval;obtain ⟨cs, rfl, _, _⟩ := hval;obtain ⟨fuel, hf⟩ := h;obtain ⟨a, ha⟩ := hl _ _ _ _ _ _ _ _ hf;exact ⟨a, by simpa [Value.cells] using RelV.agg ha.1 ha.2⟩
theorem Lifts.argS {P : Program} {t e : TypeId} {α : Type} {en : En α} (hl : Lifts P t (encSl en)) (ht : P.underlying t = some (.slice e)) {W : World} {r : Reach} {b0 : Nat} {v : Value} (hval : Value.okWide P W r b0 t v)
  {H : Type} {enc : TypeId × Value → H} {base : Nat} {held : Bool} {d : DataW H} {ps : List MemPlace} (h : DataW.Trod enc P W base (fun _ => true) held t v d ps) : ∃ g : GS en, RelV (snapR W 0) g.v v := by
 obtain ⟨fuel, hf⟩ := h;obtain ⟨a, ha⟩ := hl _ _ _ _ _ _ _ _ hf;refine ⟨a, ?_⟩;cases v with
 | agg cs => simp [Value.okWide, ht, Cell.okWide, Cell.ok] at hval
 | slice x y z => exact ha.2 0 _ _ rfl rfl
 | _ => simp [Value.okWide, ht, Cell.okWide, Cell.ok] at hval
end Go.Am
end
section
namespace Go.Am
open Go.RowKit
set_option linter.unusedVariables false
def encU16 : En UInt16 := ⟨1, fun b => [ivk .u16 (b.toNat : Int)], fun _ => rfl⟩
theorem Lifts.u8 {P : Program} {t : TypeId} (ht : P.underlying t = some (.int .u8)) : Lifts P t encU8 := by
 intro H enc W base held fuel cs x hx;obtain ⟨n, rfl, _, hw⟩ := DataW.trod_int ht hx
 have hw : 0 ≤ n ∧ n ≤ 255 := by
  have := Bool.and_eq_true_iff.1 hw;exact ⟨of_decide_eq_true this.1, of_decide_eq_true this.2⟩
 have e : ((UInt8.ofNat n.toNat).toNat : Int) = n := by rw [UInt8.toNat_ofNat']; omega
 refine ⟨UInt8.ofNat n.toNat, .cons ?_ (.nil _)⟩;rw [e];exact .lit _
theorem Lifts.u16 {P : Program} {t : TypeId} (ht : P.underlying t = some (.int .u16)) : Lifts P t encU16 := by
 intro H enc W base held fuel cs x hx;obtain ⟨n, rfl, _, hw⟩ := DataW.trod_int ht hx
 have hw : 0 ≤ n ∧ n ≤ 65535 := by
  have := Bool.and_eq_true_iff.1 hw;exact ⟨of_decide_eq_true this.1, of_decide_eq_true this.2⟩
 have e : ((UInt16.ofNat n.toNat).toNat : Int) = n := by rw [UInt16.toNat_ofNat']; omega
 refine ⟨UInt16.ofNat n.toNat, .cons ?_ (.nil _)⟩;rw [e];exact .lit _
theorem Lifts.argI {P : Program} {t : TypeId} {k : IntKind} {α : Type} {en : En α} (hl : Lifts P t en) (ht : P.underlying t = some (.int k)) {W : World} {r : Reach} {b0 : Nat} {v : Value} (hval : Value.okWide P W r b0 t v)
  {H : Type} {enc : TypeId × Value → H} {base : Nat} {held : Bool} {d : DataW H} {ps : List MemPlace} (h : DataW.Trod enc P W base (fun _ => true) held t v d ps) : ∃ a, ∀ w, (en.f a)[0]? = some w → RelV (snapR W 0) w v := by
 obtain ⟨fuel, hf⟩ := h;obtain ⟨a, ha⟩ := hl _ _ _ _ _ _ _ _ hf;refine ⟨a, fun w hw => ?_⟩;cases v with
 | agg cs => simp [Value.okWide, ht, Cell.okWide, Cell.ok] at hval
 | _ => exact ha.2 0 _ _ hw rfl
end Go.Am
end
section
namespace Go.Am
open Go.RowKit
set_option linter.unusedVariables false
theorem Lifts.str {P : Program} {t : TypeId} (ht : P.underlying t = some .string) : Lifts P t encStr := by
 intro H enc W base held fuel cs x hx;obtain ⟨s, rfl, _, _⟩ := DataW.trod_string ht hx;refine ⟨s.data.toList, .cons ?_ (.nil _)⟩;exact .lit _
inductive Flds (P : Program) : List Field → Nat → {α : Type} → En α → Prop
 | one {f : Field} {off : Nat} {α : Type} {a : En α} (ho : f.offset = off) (hc : P.cellsOf f.type = a.u) (l : Lifts P f.type a) : Flds P [f] off a
 | cons {f : Field} {r : List Field} {off : Nat} {α β : Type} {a : En α} {b : En β} (ho : f.offset = off) (hc : P.cellsOf f.type = a.u) (l : Lifts P f.type a) (h : Flds P r (off + a.u) b) : Flds P (f :: r) off (enPair a b)
theorem Flds.run {P : Program} {H : Type} {enc : TypeId × Value → H} {W : World} {base : Nat} {held : Bool} {n : Nat} {cs : List Value} {fs : List Field} {off : Nat} {α : Type} {e : En α} (hf : Flds P fs off e)
  (h : ∀ (i : Nat) (f : Field), fs[i]? = some f → ∃ x, DataW.trod enc P W base (fun _ => true) held n f.type ((cs.drop f.offset).take (P.cellsOf f.type)) = some x) : ∃ x : α, RelL (snapR W 0) (e.f x) ((cs.drop off).take e.u) := by
 induction hf with
 | one ho hc l =>
  obtain ⟨x, hx⟩ := h 0 _ rfl;rw [ho, hc] at hx;exact l _ _ _ _ _ _ _ _ hx
 | @cons f r off α β a b ho hc l _ ih =>
  obtain ⟨x, hx⟩ := h 0 _ rfl;rw [ho, hc] at hx;obtain ⟨x0, r0⟩ := l _ _ _ _ _ _ _ _ hx;obtain ⟨x1, r1⟩ := ih fun i f hf => h (i + 1) f hf
  refine ⟨(x0, x1), ?_⟩
  show RelL _ _ ((cs.drop off).take (a.u + b.u));rw [List.take_add, List.drop_drop]
  have e1 := r0;exact RelL.append r0 r1
theorem Lifts.struct {P : Program} {t : TypeId} {fs : Array Field} {α : Type} {e : En α} (ht : P.underlying t = some (.struct fs)) (ct : P.cellsOf t = e.u) (hf : Flds P fs.toList 0 e) : Lifts P t e := by
 intro H enc W base held fuel cs x hx;obtain ⟨xs, n, _, _, hl, hn, h⟩ := DataW.trod_struct ht hx;obtain ⟨v, hv⟩ := hf.run (H := H) (enc := enc) (W := W) (base := base) (held := held) (n := n) (cs := cs) fun i f hi => by
  have hi' : fs[i]? = some f := by rw [← Array.getElem?_toList]; exact hi
  have hlt : i < xs.length := by rw [hn]; exact (Array.getElem?_eq_some_iff.1 hi').1
  exact ⟨xs[i], by rw [h i f hi', List.getElem?_eq_getElem hlt]⟩
 refine ⟨v, ?_⟩
 rwa [List.drop_zero, List.take_of_length_le (by omega)] at hv
theorem Lifts.arr3 {P : Program} {t e : TypeId} {α : Type} {a : En α} (ht : P.underlying t = some (.array 3 e)) (ce : P.cellsOf e = a.u) (ct : P.cellsOf t = a.u + (a.u + a.u)) (l : Lifts P e a) : Lifts P t (enPair a (enPair a a)) := by
 intro H enc W base held fuel cs x hx;obtain ⟨xs, n, _, _, hl, hn, h⟩ := DataW.trod_array ht hx
 have h0 := h 0 (by omega)
 have h1 := h 1 (by omega)
 have h2 := h 2 (by omega);rw [List.getElem?_eq_getElem (by omega), ce, Nat.zero_mul, List.drop_zero] at h0;rw [List.getElem?_eq_getElem (by omega), ce, Nat.one_mul] at h1;rw [List.getElem?_eq_getElem (by omega), ce, show 2 * a.u = a.u + a.u by omega, ← List.drop_drop, List.take_of_length_le (by simp; omega)] at h2;obtain ⟨x0, r0⟩ := l _ _ _ _ _ _ _ _ h0;obtain ⟨x1, r1⟩ := l _ _ _ _ _ _ _ _ h1;obtain ⟨x2, r2⟩ := l _ _ _ _ _ _ _ _ h2;exact ⟨(x0, x1, x2), .glue r0 (.glue r1 r2)⟩
theorem Lifts.arr2' {P : Program} {t e : TypeId} {α : Type} {a : En α} (ht : P.underlying t = some (.array 2 e)) (ce : P.cellsOf e = a.u) (ct : P.cellsOf t = a.u + a.u) (l : Lifts P e a) : Lifts P t (enPair a a) := by
 intro H enc W base held fuel cs x hx;obtain ⟨xs, n, _, _, hl, hn, h⟩ := DataW.trod_array ht hx
 have h0 := h 0 (by omega)
 have h1 := h 1 (by omega);rw [List.getElem?_eq_getElem (by omega), ce, Nat.zero_mul, List.drop_zero] at h0;rw [List.getElem?_eq_getElem (by omega), ce, Nat.one_mul, List.take_of_length_le (by simp; omega)] at h1;obtain ⟨x0, r0⟩ := l _ _ _ _ _ _ _ _ h0;obtain ⟨x1, r1⟩ := l _ _ _ _ _ _ _ _ h1;exact ⟨(x0, x1), .glue r0 r1⟩
end Go.Am
end
section
namespace Go.Am.YtiaolgbmbhldgaaGreatDoor
open Go.Am Go.RowKit Go.Proofs
theorem li_9 : Lifts Tryz.prog 9 encStr := .str Tryz.underlying9
theorem li_22 : Lifts Tryz.prog 22 (encSl encStr) := .slice Tryz.underlying22 (by kernel_rfl) (by decide) li_9
theorem li_3 : Lifts Tryz.prog 3 encI := .int Tryz.underlying3
theorem li_86 : Lifts Tryz.prog 86 (enPair encI (enPair encI (enPair encI encI))) := .struct Tryz.underlying86 (by kernel_rfl) (.cons rfl (by kernel_rfl) li_3 (.cons rfl (by kernel_rfl) li_3 (.cons rfl (by kernel_rfl) li_3 (.one rfl (by kernel_rfl) li_3))))
theorem lm_86 : Lifts Tryz.prog 86 qR := (li_86).map fun x => ⟨⟨x.1, x.2.1, x.2.2.1, x.2.2.2⟩, rfl⟩
theorem li_23 : Lifts Tryz.prog 23 (encSl qR) := .slice Tryz.underlying23 (by kernel_rfl) (by decide) lm_86
theorem li_28 : Lifts Tryz.prog 28 (enPair encI (enPair encI encStr)) := .struct Tryz.underlying28 (by kernel_rfl) (.cons rfl (by kernel_rfl) li_3 (.cons rfl (by kernel_rfl) li_3 (.one rfl (by kernel_rfl) li_9)))
theorem li_42 : Lifts Tryz.prog 42 (enPair (enPair encI (enPair encI encStr)) (enPair encI (enPair encI (enPair encI encI)))) := .struct Tryz.underlying42 (by kernel_rfl) (.cons rfl (by kernel_rfl) li_28 (.cons rfl (by kernel_rfl) li_3 (.cons rfl (by kernel_rfl) li_3 (.cons rfl (by kernel_rfl) li_3 (.one rfl (by kernel_rfl) li_3)))))
theorem lm_42 : Lifts Tryz.prog 42 qK := (li_42).map fun x => ⟨⟨x.1.1, x.1.2.1, x.1.2.2, x.2.1, x.2.2.1, x.2.2.2.1, x.2.2.2.2⟩, rfl⟩
theorem li_24 : Lifts Tryz.prog 24 (encSl qK) := .slice Tryz.underlying24 (by kernel_rfl) (by decide) lm_42
theorem li_26 : Lifts Tryz.prog 26 (enPair (encSl encStr) (enPair (encSl qR) (encSl qK))) := .struct Tryz.underlying26 (by kernel_rfl) (.cons rfl (by kernel_rfl) li_22 (.cons rfl (by kernel_rfl) li_23 (.one rfl (by kernel_rfl) li_24)))
theorem li_63 : Lifts Tryz.prog 63 (enPair (enPair encI (enPair encI encStr)) (enPair (enPair encI (enPair encI encStr)) (enPair encI (enPair encI encStr)))) := .arr3 Tryz.underlying63 (by kernel_rfl) (by kernel_rfl) li_28
theorem li_65 : Lifts Tryz.prog 65 encU16 := .u16 Tryz.underlying65
theorem li_5 : Lifts Tryz.prog 5 encU8 := .u8 Tryz.underlying5
theorem li_71 : Lifts Tryz.prog 71 (encSl encU8) := .slice Tryz.underlying71 (by kernel_rfl) (by decide) li_5
theorem li_83 : Lifts Tryz.prog 83 (enPair encU8 encU8) := .arr2' Tryz.underlying83 (by kernel_rfl) (by kernel_rfl) li_5
theorem li_84 : Lifts Tryz.prog 84 (enPair encU16 encU16) := .arr2' Tryz.underlying84 (by kernel_rfl) (by kernel_rfl) li_65
theorem li_43 : Lifts Tryz.prog 43 (encSl encI) := .slice Tryz.underlying43 (by kernel_rfl) (by decide) li_3
end Go.Am.YtiaolgbmbhldgaaGreatDoor
end
section
namespace Go.Am
set_option linter.unusedVariables false
set_option linter.unusedSimpArgs false
def upto (lo hi : Int) : List Int := (List.range (hi - lo).toNat).map fun i : Nat => lo + (i : Int)
theorem upto_nil {lo hi : Int} (h : hi ≤ lo) : upto lo hi = [] := by
 unfold upto; rw [show (hi - lo).toNat = 0 by omega]; rfl
theorem upto_succ {lo hi : Int} (h : lo ≤ hi) : upto lo (hi + 1) = upto lo hi ++ [hi] := by
 unfold upto;rw [show (hi + 1 - lo).toNat = (hi - lo).toNat + 1 by omega, List.range_succ, List.map_append]
 show _ ++ [lo + ((hi - lo).toNat : Int)] = _;rw [show lo + ((hi - lo).toNat : Int) = hi by omega]
theorem mem_upto {lo hi x : Int} : x ∈ upto lo hi ↔ lo ≤ x ∧ x < hi := by
 unfold upto;simp only [List.mem_map, List.mem_range];exact ⟨fun ⟨i, h1, h2⟩ => by omega, fun h => ⟨(x - lo).toNat, by omega, by omega⟩⟩
theorem upto_len {lo hi : Int} : (upto lo hi).length = (hi - lo).toNat := by simp [upto]
theorem iter_flat {α : Type} {body : Int × List α → Option (Stp (Int × List α) (List α))} {f : Int → List α} {lo hi : Int}
  (step : ∀ s, lo ≤ s → s < hi → body (s, (upto lo s).flatMap f) = some (.ag (s + 1, (upto lo s).flatMap f ++ f s)))
  (fin : ∀ s out, lo ≤ s → ¬ s < hi → body (s, out) = some (.dn out)) : iter body (lo, []) = some ((upto lo hi).flatMap f) := by
 have key : ∀ (m : Nat) (s : Int), lo ≤ s → (hi - s).toNat = m → iter body (s, (upto lo s).flatMap f) = some ((upto lo (max s hi)).flatMap f) := by
  intro m
  induction m with
  | zero =>
   intro s h1 h2;refine iter_eq.2 (.inr ?_);rw [fin s _ h1 (by omega), show max s hi = s by omega]
  | succ m ih =>
   intro s h1 h2;refine iter_eq.2 (.inl ⟨_, step s h1 (by omega), ?_⟩)
   have := ih (s + 1) (by omega) (by omega);rw [upto_succ h1, List.flatMap_append] at this;rw [show max s hi = max (s + 1) hi by omega]
   simpa using this
 have := key _ lo (Int.le_refl _) rfl;rw [upto_nil (Int.le_refl lo)] at this
 by_cases h : lo ≤ hi
 ·rw [show max lo hi = hi by omega] at this;exact this
 ·rw [show max lo hi = lo by omega, upto_nil (Int.le_refl lo)] at this;rw [upto_nil (by omega : hi ≤ lo)];exact this
theorem flat_le {α β : Type} {f : β → List α} {n : Nat} : ∀ {l : List β}, (∀ x ∈ l, (f x).length ≤ n) → (l.flatMap f).length ≤ l.length * n
 | [], _ => by simp
 | a :: r, h => by
  have h1 := h a (by simp)
  have h2 := flat_le (l := r) fun x hx => h x (by simp [hx])
  rw [List.flatMap_cons, List.length_append, List.length_cons, Nat.add_mul];omega
end Go.Am
end
section
namespace Go.Am
set_option linter.unusedVariables false
set_option linter.unusedSimpArgs false
section
variable {all : List (List Int)} {m : List Int → Option Int} {k best : Nat} {least n : Int} {found : Bool} {l : List Int}
end
theorem w1_Has_eq {l : List Int} {n : Int} (hl : l.length ≤ 1000) : P_w1_Has l n = some (decide (n ∈ l)) := by
 unfold P_w1_Has;rw [iter_scanI (fun i => if l[i]? = some n then some true else none) l.length, seqx_scan]
 ·cases hf : (List.range l.length).findSome? (fun i => if l[i]? = some n then some true else none) with
  | none =>
   have := of_find_none hf;refine congrArg some (decide_eq_false fun hm => ?_).symm;obtain ⟨j, hj⟩ := List.getElem?_of_mem hm
   have h2 := this j (List.getElem?_eq_some_iff.1 hj).1;rw [if_pos hj] at h2;cases h2
  | some b =>
   obtain ⟨j, _, hj⟩ := List.exists_of_findSome?_eq_some hf
   by_cases e : l[j]? = some n
   ·rw [if_pos e] at hj;cases hj;exact congrArg some (decide_eq_true (List.mem_of_getElem? e)).symm
   ·rw [if_neg e] at hj; cases hj
 ·intro k hk _;obtain ⟨a, ha⟩ := get_some hk;unfold P_w1_Has_L1;rw [if_pos (by omega), el_at ha, chk_pos (i64_small (by omega)), ha]
  by_cases e : a = n
  ·rw [if_pos e, if_pos (by rw [e])]; rfl
  ·rw [if_neg e, if_neg (fun h => e (Option.some.inj h))]; rfl
 ·intro _;unfold P_w1_Has_L1;rw [if_neg (by omega)]
section
variable {cl : List Str} {sh : List qH} {bs books : List qA} {but clear : Int}
def RiseIn (n m : Nat) (l : List Int) : Prop := l.length = n ∧ l.Pairwise (· ≤ ·) ∧ ∀ x ∈ l, 0 ≤ x ∧ x < (m : Int)
noncomputable def costF (sh : List qH) (books : List qA) (but clear : Int) (l : List Int) : Option Int :=
 open Classical in if ¬ clear ∈ l ∧ Arr sh books l then some (movedN books l 0 but) else none
structure FewB (sh : List qH) (books : List qA) (but clear : Int) (l : List Int) (n : Int) : Prop where
 rise : RiseIn books.length sh.length l
 ok : costF sh books but clear l = some n
 least : ∀ l' n', RiseIn books.length sh.length l' → costF sh books but clear l' = some n' → n ≤ n' ∧ (n' = n → lexB l' l = false)
end
end Go.Am
end
section
namespace Go.Am
set_option linter.unusedVariables false
set_option linter.unusedSimpArgs false
section
variable {sh : List qH} {mv mv' : Int → Int → Int} {books : List qA} {a0 : qH} {but clear : Int}
end
end Go.Am
end
section
namespace Go.Am
set_option linter.unusedVariables false
set_option linter.unusedSimpArgs false
theorem ints_loop {a b : List Int} (h : a.length = b.length) (hl : a.length ≤ 1000) : iter (P_w1_Ints_L1 a b) (true, 0) = some (decide (a = b)) := by
 refine Ok.get ?_;refine Ok.iter (fun s : Bool × Int => ∃ k : Nat, k ≤ a.length ∧ s.2 = k ∧ ((s.1 = true ∧ a.take k = b.take k) ∨ (s.1 = false ∧ a ≠ b))) (fun s => (if s.1 then 1 else 0) * (a.length + 1 - s.2.toNat)) ⟨0, Nat.zero_le _, rfl, .inl ⟨rfl, rfl⟩⟩ ?_;rintro ⟨same, i⟩ ⟨k, hk, hi, hs⟩;simp only at hi hs;subst hi;unfold P_w1_Ints_L1
 rcases hs with ⟨rfl, hs⟩ | ⟨rfl, hs⟩
 ·by_cases hlt : k < a.length
  ·obtain ⟨x, hx⟩ := get_some hlt;obtain ⟨y, hy⟩ := get_some (l := b) (k := k) (by omega)
   show Ok (seqx (andx (some (true, decide ((k : Int) < (a.length : Int)))) _) _) _;rw [decide_eq_true (show (k : Int) < (a.length : Int) by omega)]
   show Ok (el a (k : Int) _) _;rw [el_at hx, el_at hy];refine .chk (i64_small (by omega)) (.some ⟨⟨k + 1, by omega, rfl, ?_⟩, ?_⟩)
   ·by_cases e : x = y
    ·refine .inl ⟨decide_eq_true e, ?_⟩;rw [take_step hx, take_step hy, hs, e]
    ·refine .inr ⟨decide_eq_false e, fun h => e ?_⟩;rw [h] at hx;rw [hx] at hy;exact Option.some.inj hy
   ·show (if decide (x = y) = true then 1 else 0) * (a.length + 1 - ((k : Int) + 1).toNat) < (if true = true then 1 else 0) * (a.length + 1 - (k : Int).toNat)
    have h1 : ((k : Int) + 1).toNat = k + 1 := by omega
    have h2 : ((k : Int)).toNat = k := by omega
    rw [h1, h2, show (if true = true then (1 : Nat) else 0) = 1 from rfl]
    by_cases e : x = y
    ·rw [if_pos (decide_eq_true e)]; omega
    ·rw [if_neg (by rw [decide_eq_false e]; decide)]; omega
  ·have : k = a.length := by omega
   subst this
   show Ok (seqx (andx (some (true, decide (((a.length : Nat) : Int) < (a.length : Int)))) _) _) _;rw [decide_eq_false (by omega)];refine .some ?_
   show true = _;rw [List.take_length, h, List.take_length] at hs;exact (decide_eq_true hs).symm
 ·refine .some ?_
  show false = _;exact (decide_eq_false hs).symm
theorem w1_Ints_eq {a b : List Int} (hl : a.length ≤ 1000) : P_w1_Ints a b = some (decide (a = b)) := by
 unfold P_w1_Ints
 by_cases h : a.length = b.length
 ·rw [decide_eq_true (show (a.length : Int) = (b.length : Int) by omega), ints_loop h hl]; rfl
 ·rw [decide_eq_false (show ¬ (a.length : Int) = (b.length : Int) by omega)]
  have : iter (P_w1_Ints_L1 a b) (false, 0) = some false := iter_eq.2 (.inr rfl);rw [this, decide_eq_false fun e => h (by rw [e])]; rfl
theorem w1_Ints_refl {a : List Int} (hl : a.length ≤ 1000) : P_w1_Ints a a = some true := by rw [w1_Ints_eq hl, decide_eq_true rfl]
section
variable {cl : List Str} {sh : List qH} {bs books : List qA} {but clear : Int}
end
section
variable {cl : List Str} {sh : List qH} {bs books : List qA} {b : qA}
end
end Go.Am
end
section
namespace Go.Am
set_option linter.unusedVariables false
set_option linter.unusedSimpArgs false
theorem el_int {α β : Type} {l : List α} {x : Int} {a : α} {g : α → Option β} (h0 : 0 ≤ x) (ha : l[x.toNat]? = some a) : el l x g = g a := by
 unfold el;rw [if_pos h0, ha]
section
variable {cl : List Str} {sh : List qH} {bs books : List qA} {s : Int}
open Classical in
noncomputable def clrE (cl : List Str) (sh : List qH) (bs : List qA) (s : Int) : Int := if roomN cl sh bs = 0 then (if btw 0 ((sh.length : Int) - 1) s then (if Rises bs then 0 else 2) else 4) else roomN cl sh bs
def ClearIs (cl : List Str) (sh : List qH) (bs : List qA) (s : Int) (r : List Int × Int × Int) : Prop :=
 (clrE cl sh bs s ≠ 0 ∧ r = ([], 0, clrE cl sh bs s)) ∨ (clrE cl sh bs s = 0 ∧ (∀ l, RiseIn bs.length sh.length l → costF sh bs (-1) s l = none) ∧ r = ([], 0, 9)) ∨
 (clrE cl sh bs s = 0 ∧ ∃ l n, FewB sh bs (-1) s l n ∧ r = (l, n, 0))
open Classical in
theorem clrE_zero (h : clrE cl sh bs s = 0) : Fine cl sh bs ∧ (0 ≤ s ∧ s ≤ (sh.length : Int) - 1) ∧ Rises bs := by
 unfold clrE at h
 by_cases h0 : roomN cl sh bs = 0
 ·rw [if_pos h0] at h
  by_cases h1 : btw 0 ((sh.length : Int) - 1) s
  ·rw [if_pos h1] at h
   by_cases h2 : Rises bs
   ·exact ⟨roomN_zero.1 h0, h1, h2⟩
   ·rw [if_neg h2] at h; cases h
  ·rw [if_neg h1] at h; cases h
 ·rw [if_neg h0] at h; exact absurd h h0
def cfB (bs : List qA) (x y : Int) : Int := match bs[x.toNat]?, bs[y.toNat]? with
 | some a, some b => cmpM a.qS a.qT a.qU b.qS b.qT b.qU
 | _, _ => 0
theorem at_some {x : Int} (h : 0 ≤ x ∧ x < bs.length) : ∃ a, bs[x.toNat]? = some a := get_some (by omega)
def ordB (bs : List qA) : List Int := sortC (cfB bs) (upto 0 bs.length)
theorem ordB_perm : (ordB bs).Perm (upto 0 bs.length) := sortC_perm _ _
theorem ordB_len : (ordB bs).length = bs.length := by rw [ordB_perm.length_eq, upto_len]; omega
theorem mem_ordB {x : Int} : x ∈ ordB bs ↔ 0 ≤ x ∧ x < bs.length := ordB_perm.mem_iff.trans mem_upto
def takenB (bs : List qA) (l : List Int) : List qA := l.filterMap fun i => bs[i.toNat]?
theorem takenB_len : ∀ {l : List Int}, (∀ x ∈ l, 0 ≤ x ∧ x < bs.length) → (takenB bs l).length = l.length
 | [], _ => rfl
 | i :: r, h => by
  obtain ⟨a, ha⟩ := at_some (h i (by simp))
  have ih := takenB_len (l := r) fun x hx => h x (by simp [hx])
  unfold takenB at ih ⊢;simp [ha, ih]
end
end Go.Am
end
section
namespace Go.Am
set_option linter.unusedVariables false
set_option linter.unusedSimpArgs false
section
variable {cl : List Str} {sh : List qH} {bs books : List qA} {s : Int}
def ArrIs (cl : List Str) (sh : List qH) (bs : List qA) (r : List Int × List Int × Int × Int) : Prop :=
 (roomN cl sh bs ≠ 0 ∧ r = ([], [], 0, roomN cl sh bs)) ∨ (Fine cl sh bs ∧ (∀ l, RiseIn bs.length sh.length l → costF sh (takenB bs (ordB bs)) (-1) (-1) l = none) ∧ r = ([], [], 0, 9)) ∨
 (Fine cl sh bs ∧ ∃ l n, FewB sh (takenB bs (ordB bs)) (-1) (-1) l n ∧ r = (ordB bs, l, n, 0))
theorem taken_ord_len : (takenB bs (ordB bs)).length = bs.length := by rw [takenB_len fun x hx => mem_ordB.1 hx, ordB_len]
end
end Go.Am
end
section
namespace Go.Am
set_option linter.unusedVariables false
set_option linter.unusedSimpArgs false
section
variable {cl : List Str} {sh : List qH} {bs books : List qA} {s : Int}
end
end Go.Am
end
section
namespace Go.Am
set_option linter.unusedVariables false
set_option linter.unusedSimpArgs false
section
variable {cl : List Str} {sh : List qH} {bs books : List qA} {b : qA}
end
end Go.Am
end
section
namespace Go.Am
set_option linter.unusedVariables false
set_option linter.unusedSimpArgs false
end Go.Am
end
section
namespace Go.Am
set_option linter.unusedVariables false
set_option linter.unusedSimpArgs false
section
variable {cl : List Str} {sh : List qH} {bs books : List qA}
end
end Go.Am
end
section
namespace Go.Am
set_option linter.unusedVariables false
set_option linter.unusedSimpArgs false
section
variable {cl : List Str} {sh : List qH} {bs books : List qA}
end
end Go.Am
end
section
namespace Go.Am
set_option linter.unusedVariables false
set_option linter.unusedSimpArgs false
section
variable {cl : List Str} {sh : List qH} {bs books : List qA} {ls : List Int} {i : Nat} {a : qH}
end
end Go.Am
end
section
namespace Go.Am
set_option linter.unusedVariables false
set_option linter.unusedSimpArgs false
section
variable {cl : List Str} {sh : List qH} {bs books : List qA}
end
end Go.Am
end
section
namespace Go.Am
set_option linter.unusedVariables false
set_option linter.unusedSimpArgs false
section
variable {cl : List Str} {sh : List qH} {bs books : List qA} {but clear : Int} {b : qA}
end
end Go.Am
end
section
namespace Go.Am
set_option linter.unusedVariables false
set_option linter.unusedSimpArgs false
section
variable {cl : List Str} {sh : List qH} {bs books : List qA} {but clear : Int} {b : qA}
end
end Go.Am
end
section
namespace Go.Am
set_option linter.unusedVariables false
set_option linter.unusedSimpArgs false
section
variable {cl : List Str} {sh : List qH} {bs books : List qA} {but clear : Int} {b : qA}
end
end Go.Am
end
section
namespace Go.Am
set_option linter.unusedVariables false
set_option linter.unusedSimpArgs false
structure Nar (a b : qA) : Prop where
 c : b.qS = a.qS
 n : b.qT = a.qT
 s : b.qU = a.qU
 y : b.heavy = a.heavy
 p : b.shelf = a.shelf
 w : 1 ≤ b.wide ∧ b.wide ≤ a.wide
 h : 1 ≤ b.high ∧ b.high ≤ a.high
inductive NarL : List qA → List qA → Prop
 | nil : NarL [] []
 | cons {a b r t} : Nar a b → NarL r t → NarL (a :: r) (b :: t)
namespace NarL
theorem len {x y : List qA} (h : NarL x y) : y.length = x.length := by
 induction h with
 | nil => rfl
 | cons _ _ ih => simp [ih]
theorem get {x y : List qA} (h : NarL x y) : ∀ {k : Nat} {a : qA}, x[k]? = some a → ∃ b, y[k]? = some b ∧ Nar a b := by
 induction h with
 | nil => intro k a ha; simp at ha
 | cons hn _ ih =>
  intro k a ha;cases k with
  | zero => simp at ha; subst ha; exact ⟨_, by simp, hn⟩
  | succ k => rw [List.getElem?_cons_succ] at ha ⊢; exact ih ha
theorem back {x y : List qA} (h : NarL x y) {k : Nat} {b : qA} (hb : y[k]? = some b) : ∃ a, x[k]? = some a ∧ Nar a b := by
 obtain ⟨a, ha⟩ := get_some (l := x) (k := k) (by rw [← h.len]; exact (List.getElem?_eq_some_iff.1 hb).1);obtain ⟨c, hc, hn⟩ := h.get ha;rw [hb] at hc;cases hc;exact ⟨a, ha, hn⟩
theorem take {x y : List qA} (h : NarL x y) : ∀ k, NarL (x.take k) (y.take k) := by
 induction h with
 | nil => intro k; simp; exact .nil
 | cons hn _ ih =>
  intro k;cases k with
  | zero => exact .nil
  | succ k => exact .cons hn (ih k)
theorem wideOn {x y : List qA} (h : NarL x y) (i : Int) : Am.wideOn i y ≤ Am.wideOn i x := by
 induction h with
 | nil => exact Int.le_refl _
 | cons hn _ ih =>
  unfold Am.wideOn;rw [hn.p]
  have := hn.w;split <;> omega
theorem lowOn {x y : List qA} (h : NarL x y) {i t : Int} (hl : Am.lowOn i t x) : Am.lowOn i t y := fun b hb hs => by
 obtain ⟨k, hk⟩ := List.getElem?_of_mem hb;obtain ⟨a, ha, hn⟩ := h.back hk
 have := hl a (List.mem_of_getElem? ha) (by rw [← hn.p]; exact hs)
 have := hn.h;omega
theorem withS {x y : List qA} (h : NarL x y) : ∀ ls : List Int, NarL (Am.withS x ls) (Am.withS y ls) := by
 induction h with
 | nil => intro ls; exact .nil
 | cons hn _ ih =>
  intro ls;cases ls with
  | nil => exact .nil
  | cons s ls => exact .cons ⟨hn.c, hn.n, hn.s, hn.y, rfl, hn.w, hn.h⟩ (ih ls)
theorem taken {x y : List qA} (h : NarL x y) : ∀ l : List Int, NarL (takenB x l) (takenB y l)
 | [] => .nil
 | i :: l => by
  have ih := taken h l;unfold takenB at ih ⊢;rw [List.filterMap_cons, List.filterMap_cons];cases ha : x[i.toNat]? with
  | none =>
   have := List.getElem?_eq_none_iff.1 ha;rw [List.getElem?_eq_none (by rw [h.len]; exact this)];exact ih
  | some a =>
   obtain ⟨b, hb, hn⟩ := h.get ha;rw [hb];exact .cons hn ih
theorem cfB {x y : List qA} (h : NarL x y) (i j : Int) : Am.cfB y i j = Am.cfB x i j := by
 unfold Am.cfB;cases ha : x[i.toNat]? with
 | none =>
  have := List.getElem?_eq_none_iff.1 ha;rw [List.getElem?_eq_none (by rw [h.len]; exact this)]
 | some a =>
  obtain ⟨b, hb, hn⟩ := h.get ha;rw [hb];cases hc : x[j.toNat]? with
  | none =>
   have := List.getElem?_eq_none_iff.1 hc;rw [List.getElem?_eq_none (by rw [h.len]; exact this)]
  | some c =>
   obtain ⟨d, hd, hm⟩ := h.get hc;rw [hd];simp only [hn.c, hn.n, hn.s, hm.c, hm.n, hm.s]
theorem ordB {x y : List qA} (h : NarL x y) : Am.ordB y = Am.ordB x := by
 unfold Am.ordB;rw [h.len, show Am.cfB y = Am.cfB x from funext fun i => funext fun j => h.cfB i j]
theorem moved {x y : List qA} (h : NarL x y) : ∀ (ls : List Int) (i : Nat) (but : Int), movedN y ls i but = movedN x ls i but := by
 induction h with
 | nil => intro ls i but; rfl
 | cons hn _ ih =>
  intro ls i but;cases ls with
  | nil => rfl
  | cons s ls => rw [movedN_cons, movedN_cons, ih, hn.p]
theorem fits {x y : List qA} (h : NarL x y) {i : Nat} {a : qH} (hf : Am.fits x i a) : Am.fits y i a := ⟨h.lowOn hf.1, Int.le_trans (h.wideOn i) hf.2⟩
end NarL
section
variable {cl : List Str} {sh sh' : List qH} {bs bs' books : List qA} {but clear : Int} {b : qA}
structure Wid (sh sh' : List qH) : Prop where
 len : sh'.length = sh.length
 back : ∀ (k : Nat) (a' : qH), sh'[k]? = some a' → ∃ a, sh[k]? = some a ∧ a'.away = a.away ∧ a'.climb = a.climb ∧ (a.wide ≤ a'.wide ∧ a'.wide ≤ 2000) ∧ (a.high ≤ a'.high ∧ a'.high ≤ 2000)
theorem Wid.fits {i : Nat} {a a' : qH} (h1 : a.wide ≤ a'.wide) (h2 : a.high ≤ a'.high) (hf : Am.fits bs i a) : Am.fits bs i a' := ⟨fun b hb hs => Int.le_trans (hf.1 b hb hs) h2, Int.le_trans hf.2 h1⟩
end
end Go.Am
end
section
namespace Go.Am
set_option linter.unusedVariables false
set_option linter.unusedSimpArgs false
def nextI (t : List Int) : Int := t.foldl (fun a x => max a (x + 1)) 0
theorem nextI_snoc (t : List Int) (n : Int) : nextI (t ++ [n]) = max (nextI t) (n + 1) := by unfold nextI; rw [List.foldl_append]; rfl
theorem next_loop {t : List Int} (hl : t.length ≤ 1000) (hx : ∀ x ∈ t, 0 ≤ x ∧ x ≤ 1000) : iter (P_r9_numbered_L1 t) (0, 0) = some (nextI t) := by
 refine Ok.get ?_;refine Ok.count (fun s : Int × Int => s.2) t.length (fun k s => s.1 = nextI (t.take k)) rfl rfl ?_ ?_
 ·rintro k ⟨nx, i⟩ hk hx' hI;simp only at hx' hI;subst hx';obtain ⟨a, ha⟩ := get_some hk
  have := hx a (List.mem_of_getElem? ha);unfold P_r9_numbered_L1
  show Ok (if _ then _ else _) _;rw [if_pos (by omega), el_at ha, chk_pos (i64_small (by omega)), chk_pos (i64_small (by omega))];refine .some ⟨rfl, ?_⟩
  show max nx (a + 1) = _;rw [take_step ha, nextI_snoc, hI]
 ·rintro ⟨nx, i⟩ hx' hI;simp only at hx' hI;subst hx';unfold P_r9_numbered_L1
  show Ok (if _ then _ else _) _;rw [if_neg (by omega)];rw [List.take_length] at hI;exact .some hI
theorem wk_len : ∀ (m i : Nat) (t s : List Int), s.length + m ≤ 6 → (wk m i t s).length ≤ 7 ^ m
  | 0, _, _, _, _ => Nat.le_refl _
  | m + 1, i, t, s, h => by
    have h1 := flat_le (f := fun n : Nat => wk m (i + 1) (t ++ [(n : Int)]) (wkSet s n i)) (n := 7 ^ m) (l := List.range (s.length + 1)) fun n hn => wk_len m _ _ _ (by
      have hn := List.mem_range.1 hn
      unfold wkSet
      rw [List.length_set]
      have := extS_len (s := s) (n := n) (by omega)
      omega)
    rw [List.length_range] at h1
    have h2 : (s.length + 1) * 7 ^ m ≤ 7 * 7 ^ m := Nat.mul_le_mul_right _ (by omega)
    show ((List.range (s.length + 1)).flatMap _).length ≤ 7 ^ (m + 1)
    rw [Nat.pow_succ]
    omega
theorem wk_flat {m i : Nat} {t s : List Int} : (wk (m + 1) i t s).map Prod.fst = (upto 0 ((s.length : Int) + 1)).flatMap fun n => (wk m (i + 1) (t ++ [n]) (wkSet s n.toNat i)).map Prod.fst := by
 show ((List.range (s.length + 1)).flatMap _).map Prod.fst = _;unfold upto;rw [List.map_flatMap, List.flatMap_map, show ((s.length : Int) + 1 - 0).toNat = s.length + 1 by omega]
 congr 1
 funext n
 simp
theorem numbered_eq {many : Nat} (h6 : many ≤ 6) : ∀ (m fuel i : Nat) (t s : List Int), m < fuel → t.length = i → i + m = many → s.length ≤ i → (s.length : Int) = nextI t → (∀ x ∈ t, 0 ≤ x ∧ x ≤ 6) →
    ∃ z, P_r9_numbered_N fuel t many = some ((wk m i t s).map Prod.fst, z)
  | m, 0, i, t, s, hf, _, _, _, _, _ => by omega
  | 0, fuel + 1, i, t, s, hf, htl, him, hsl, hn, hx => by
    refine ⟨false, ?_⟩
    show P_r9_numbered_B (P_r9_numbered_N fuel) t many = _
    unfold P_r9_numbered_B
    rw [if_pos (by omega)]
    rfl
  | m + 1, fuel + 1, i, t, s, hf, htl, him, hsl, hn, hx => by
    refine ⟨true, ?_⟩
    show P_r9_numbered_B (P_r9_numbered_N fuel) t many = _
    unfold P_r9_numbered_B
    rw [if_neg (by omega), next_loop (by omega) (fun x h => by have := hx x h; omega), andx_some', ← hn, wk_flat]
    have hloop : iter (P_r9_numbered_L2 t many (P_r9_numbered_N fuel) (s.length : Int)) (0, ([] : List (List Int))) = some ((upto 0 ((s.length : Int) + 1)).flatMap fun n => (wk m (i + 1) (t ++ [n]) (wkSet s n.toNat i)).map Prod.fst) := by
      refine iter_flat (f := fun n => (wk m (i + 1) (t ++ [n]) (wkSet s n.toNat i)).map Prod.fst) (fun n h1 h2 => ?_) (fun n out h1 h2 => ?_)
      · unfold P_r9_numbered_L2
        show (if n ≤ (s.length : Int) then _ else _) = _
        have hset : ∀ n : Int, 0 ≤ n → n < (s.length : Int) + 1 → (wkSet s n.toNat i).length ≤ i + 1 ∧ ((wkSet s n.toNat i).length : Int) = nextI (t ++ [n]) ∧ (wkSet s n.toNat i).length + m ≤ 6 := fun n h1 h2 => by
          rw [nextI_snoc, ← hn]
          unfold wkSet extS
          rw [List.length_set]
          split
          · rw [List.length_append, List.length_singleton]; omega
          · omega
        obtain ⟨g1, g2, g3⟩ := hset n h1 h2
        obtain ⟨z, hz⟩ := numbered_eq h6 m fuel (i + 1) (t ++ [n]) (wkSet s n.toNat i) (by omega) (by simp; omega) (by omega) g1 g2 (fun x hx' => by
          rcases List.mem_append.1 hx' with hx' | hx'
          · exact hx x hx'
          · have := List.mem_singleton.1 hx'
            omega)
        have e1 : ((wk m (i + 1) (t ++ [n]) (wkSet s n.toNat i)).map Prod.fst).length ≤ 7 ^ m := by rw [List.length_map]; exact wk_len _ _ _ _ g3
        have e2 := flat_le (f := fun n => (wk m (i + 1) (t ++ [n]) (wkSet s n.toNat i)).map Prod.fst) (n := 7 ^ m) (l := upto 0 n) fun x hx' => by
          have := mem_upto.1 hx'
          rw [List.length_map]
          exact wk_len _ _ _ _ (hset x (by omega) (by omega)).2.2
        rw [upto_len] at e2
        have e3 : (n - 0).toNat * 7 ^ m ≤ 7 * 7 ^ m := Nat.mul_le_mul_right _ (by omega)
        have e4 : 7 ^ m ≤ 7 ^ 6 := Nat.pow_le_pow_right (by decide) (by omega)
        have e5 : (7 : Nat) ^ 6 = 117649 := by decide
        rw [if_pos (by omega), chk_pos (by simp; omega), chk_pos (by simp; omega)]
        show andx (P_r9_numbered_N fuel (t ++ [n]) many) _ = _
        rw [hz]
        show chk _ (chk _ _) = _
        rw [chk_pos (by omega), chk_pos (i64_small (by omega))]
      · unfold P_r9_numbered_L2
        show (if n ≤ (s.length : Int) then _ else _) = _
        rw [if_neg (by omega)]
    rw [hloop]
    rfl
theorem numbered_walks {many : Nat} (h6 : many ≤ 6) : ∃ z, P_r9_numbered [] (many : Int) = some ((walksOf many).map Prod.fst, z) := by
 unfold P_r9_numbered;exact numbered_eq h6 many 100 0 [] [] (by omega) rfl (by omega) (Nat.le_refl _) rfl (fun x h => by cases h)
end Go.Am
end
section
namespace Go.Am
set_option linter.unusedVariables false
set_option linter.unusedSimpArgs false
structure PartAt (i : Nat) (t s : List Int) : Prop where
 tl : t.length = i
 sl : s.length ≤ i
 tr : ∀ x ∈ t, 0 ≤ x ∧ x < s.length
 el : ∀ (n : Nat) (x : Int), s[n]? = some x → (0 ≤ x ∧ x < 2 ^ i) ∧ ∀ j : Nat, x.toNat.testBit j = decide (t[j]? = some (n : Int))
theorem testBit_add {x i j : Nat} (h : x < 2 ^ i) : (x + 2 ^ i).testBit j = (x.testBit j || decide (j = i)) := by
 rw [Nat.add_comm]
 by_cases h1 : j < i
 ·rw [Nat.testBit_two_pow_add_gt h1, decide_eq_false (by omega), Bool.or_false]
 ·by_cases h2 : j = i
  ·subst h2;rw [Nat.testBit_two_pow_add_eq, Nat.testBit_lt_two_pow h, decide_eq_true rfl];rfl
  ·have e : 2 ^ (i + 1) ≤ 2 ^ j := Nat.pow_le_pow_right (by decide) (by omega)
   have e2 : 2 ^ (i + 1) = 2 ^ i * 2 := Nat.pow_succ 2 i
   have e3 : 2 ^ i ≤ 2 ^ j := Nat.pow_le_pow_right (by decide) (by omega);rw [Nat.testBit_lt_two_pow (by omega), Nat.testBit_lt_two_pow (by omega), decide_eq_false h2];rfl
theorem PartAt.ext {i n : Nat} {t s : List Int} (h : PartAt i t s) (hn : n ≤ s.length) {k : Nat} {x : Int} (hx : (extS s n)[k]? = some x) : (0 ≤ x ∧ x < 2 ^ i) ∧ ∀ j : Nat, x.toNat.testBit j = decide (t[j]? = some (k : Int)) := by
 unfold extS at hx;split at hx
 ·by_cases hk : k < s.length
  ·rw [List.getElem?_append_left hk] at hx;exact h.el k x hx
  ·rw [List.getElem?_append_right (by omega)] at hx
   have hk2 : k = s.length := by
    have := (List.getElem?_eq_some_iff.1 hx).1;simp at this;omega
   subst hk2;simp at hx;subst hx;refine ⟨⟨Int.le_refl _, pow_pos' i⟩, fun j => ?_⟩;rw [decide_eq_false fun hj => by have := (h.tr _ (List.mem_of_getElem? hj)).2; omega];simp
 ·exact h.el k x hx
theorem PartAt.next {i n : Nat} {t s : List Int} (h : PartAt i t s) (hn : n ≤ s.length) : PartAt (i + 1) (t ++ [(n : Int)]) (wkSet s n i) := by
 have htl := h.tl
 have hsl := h.sl
 have hel := extS_len hn;obtain ⟨y, hy, _, _⟩ := extS_at hn
 have hyr := h.ext hn hy
 have hp := pow_pos' i
 have e2 : (2 : Int) ^ (i + 1) = 2 ^ i * 2 := Int.pow_succ 2 i
 have hsge : s.length ≤ (extS s n).length := by
  unfold extS;split
  ·rw [List.length_append]; omega
  ·exact Nat.le_refl _
 rw [wkSet_of hy];refine ⟨by simp; omega, by rw [List.length_set]; omega, fun x hx => ?_, fun k x hx => ?_⟩
 ·rw [List.length_set]
  rcases List.mem_append.1 hx with hx | hx
  ·have := h.tr x hx;omega
  ·have := List.mem_singleton.1 hx;omega
 ·rw [List.getElem?_set] at hx
  have hget : ∀ j : Nat, (t ++ [(n : Int)])[j]? = some (k : Int) ↔ (t[j]? = some (k : Int) ∨ (j = i ∧ k = n)) := fun j => by
   by_cases hj : j < i
   ·rw [List.getElem?_append_left (by omega)];exact ⟨.inl, fun g => g.elim (fun g => g) fun g => by omega⟩
   ·rw [List.getElem?_append_right (by omega)]
    by_cases hji : j = i
    ·subst hji
     have e : j - t.length = 0 := by omega
     rw [e, List.getElem?_eq_none (show t.length ≤ j by omega)];simp;omega
    ·have e : j - t.length = j - t.length - 1 + 1 := by omega
     rw [List.getElem?_eq_none (show [(n : Int)].length ≤ j - t.length by simp; omega), List.getElem?_eq_none (show t.length ≤ j by omega)];simp;omega
  by_cases hkn : n = k
  ·subst hkn;rw [if_pos rfl, if_pos hel.1] at hx;cases hx;refine ⟨by omega, fun j => ?_⟩
   have hpn : ((2 ^ i : Nat) : Int) = (2 : Int) ^ i := by exact_mod_cast rfl
   have e : (y + 2 ^ i).toNat = y.toNat + 2 ^ i := by omega
   have hlt : y.toNat < 2 ^ i := by omega
   rw [e, testBit_add hlt, hyr.2 j]
   by_cases g1 : t[j]? = some (n : Int)
   ·rw [decide_eq_true g1, decide_eq_true ((hget j).2 (.inl g1))];rfl
   ·by_cases g2 : j = i
    ·rw [decide_eq_true g2, decide_eq_true ((hget j).2 (.inr ⟨g2, rfl⟩)), Bool.or_true]
    ·rw [decide_eq_false g1, decide_eq_false g2, decide_eq_false fun g => ((hget j).1 g).elim g1 fun g => g2 g.1];rfl
  ·rw [if_neg hkn] at hx
   have hr := h.ext hn hx;refine ⟨by omega, fun j => ?_⟩;rw [hr.2 j];refine decide_eq_decide.2 ⟨fun g => (hget j).2 (.inl g), fun g => ((hget j).1 g).elim (fun g => g) fun g => by omega⟩
theorem wk_part : ∀ (m i : Nat) (t s : List Int), PartAt i t s → ∀ p ∈ wk m i t s, PartAt (i + m) p.1 p.2
 | 0, i, t, s, h, p, hp => by
  have := List.mem_singleton.1 hp;subst this;exact h
 | m + 1, i, t, s, h, p, hp => by
  obtain ⟨n, hn, hp⟩ := List.mem_flatMap.1 (show p ∈ (List.range (s.length + 1)).flatMap _ from hp)
  have hn := List.mem_range.1 hn
  have := wk_part m (i + 1) _ _ (h.next (n := n) (by omega)) p hp
  rwa [show i + 1 + m = i + (m + 1) by omega] at this
theorem walks_part {many : Nat} {p : List Int × List Int} (h : p ∈ walksOf many) : PartAt many p.1 p.2 := by
 have := wk_part many 0 [] [] ⟨rfl, Nat.le_refl _, fun x h => (by cases h), fun n x h => by simp at h⟩ p h
 rwa [Nat.zero_add] at this
end Go.Am
end
section
namespace Go.Am
set_option linter.unusedVariables false
set_option linter.unusedSimpArgs false
def selK (bs : List qA) (books : List Int) (m : Nat → Bool) (k : Nat) : List qA := (List.range k).flatMap fun i => if m i then (match books[i]? with | some x => (match bs[x.toNat]? with | some b => [b] | none => []) | none => []) else []
theorem selK_step {bs : List qA} {books : List Int} {m : Nat → Bool} {k : Nat} {x : Int} {b : qA} (hx : books[k]? = some x) (hb : bs[x.toNat]? = some b) : selK bs books m (k + 1) = selK bs books m k ++ if m k then [b] else [] := by
 unfold selK;rw [List.range_succ, List.flatMap_append, List.flatMap_cons, List.flatMap_nil, List.append_nil, hx];simp only [hb]
theorem selK_mem {bs : List qA} {books : List Int} {m : Nat → Bool} {k : Nat} {b : qA} (h : b ∈ selK bs books m k) : b ∈ bs := by
 obtain ⟨i, _, hi⟩ := List.mem_flatMap.1 h;split at hi
 ·split at hi
  ·split at hi
   ·rename_i hb
    have := List.mem_singleton.1 hi;subst this;exact List.mem_of_getElem? hb
   ·cases hi
  ·cases hi
 ·cases hi
theorem selK_len {bs : List qA} {books : List Int} {m : Nat → Bool} (k : Nat) : (selK bs books m k).length ≤ k := by
 have := flat_le (f := fun i => if m i then (match books[i]? with | some x => (match bs[x.toNat]? with | some b => [b] | none => []) | none => []) else ([] : List qA)) (n := 1) (l := List.range k) fun i _ => by
  split
  ·split
   ·split <;> simp
   ·simp
  ·simp
 rw [List.length_range] at this;unfold selK;omega
def heavyS : List qA → Int
 | [] => 0
 | b :: r => b.heavy + heavyS r
theorem heavyS_append : ∀ x y : List qA, heavyS (x ++ y) = heavyS x + heavyS y
 | [], y => by simp [heavyS]
 | b :: r, y => by simp [heavyS, heavyS_append r y]; omega
def awOf (sh : List qH) (b : qA) : Int := match sh[b.shelf.toNat]? with | some a => a.away | none => 0
def awayS (sh : List qH) : List qA → Int
 | [] => 0
 | b :: r => max (awOf sh b) (awayS sh r)
theorem awayS_nonneg (sh : List qH) : ∀ l : List qA, 0 ≤ awayS sh l
 | [] => Int.le_refl _
 | b :: r => by have := awayS_nonneg sh r; unfold awayS; omega
theorem awayS_append (sh : List qH) : ∀ x y : List qA, awayS sh (x ++ y) = max (awayS sh x) (awayS sh y)
 | [], y => by have := awayS_nonneg sh y; simp [awayS]; omega
 | b :: r, y => by simp only [List.cons_append, awayS, awayS_append sh r y]; omega
def clOf (sh : List qH) (k : Nat) : Int := match sh[k]? with | some a => a.climb | none => 0
open Classical in
noncomputable def climbK (sh : List qH) (S : List qA) : Nat → Int
 | 0 => 0
 | k + 1 => climbK sh S k + (if ∃ b ∈ S, b.shelf = (k : Int) then clOf sh k else 0)
open Classical in
theorem climbK_succ (sh : List qH) (S : List qA) (k : Nat) : climbK sh S (k + 1) = climbK sh S k + (if ∃ b ∈ S, b.shelf = (k : Int) then clOf sh k else 0) := rfl
noncomputable def wayS (sh : List qH) (S : List qA) : Int := 2 * (awayS sh S + climbK sh S sh.length)
section
variable {cl : List Str} {sh : List qH} {bs : List qA} {books : List Int} {S : List qA}
theorem Fine.heavy (hF : Fine cl sh bs) {b : qA} (hb : b ∈ bs) : (1 ≤ b.heavy ∧ b.heavy ≤ 100) ∧ (0 ≤ b.shelf ∧ b.shelf < sh.length) := by
 obtain ⟨j, hj⟩ := List.getElem?_of_mem hb
 have h := bkErr_zero (bk_all hF.bs2 hj)
 have h1 := h.1;unfold bkRange btw at h1;exact ⟨by omega, hF.book hj⟩
theorem Fine.aw (hF : Fine cl sh bs) {j : Nat} {a : qH} (ha : sh[j]? = some a) : (0 ≤ a.away ∧ a.away ≤ 1000) ∧ (0 ≤ a.climb ∧ a.climb ≤ 1000) := by
 have := hF.shelf ha;unfold shOk btw at this;omega
theorem heavyS_bound (hF : Fine cl sh bs) : ∀ S : List qA, (∀ b ∈ S, b ∈ bs) → 0 ≤ heavyS S ∧ heavyS S ≤ 100 * S.length
 | [], _ => by simp [heavyS]
 | b :: r, h => by
  have h1 := (hF.heavy (h b (by simp))).1
  have h2 := heavyS_bound hF r fun c hc => h c (by simp [hc])
  simp only [heavyS, List.length_cons];omega
theorem awayS_bound (hF : Fine cl sh bs) : ∀ S : List qA, awayS sh S ≤ 1000
 | [] => by simp [awayS]
 | b :: r => by
  have h2 := awayS_bound hF r
  have h1 : awOf sh b ≤ 1000 := by
   unfold awOf;split
   ·rename_i a ha
    have := hF.aw ha;omega
   ·omega
  simp only [awayS];omega
theorem climbK_bound (hF : Fine cl sh bs) (S : List qA) : ∀ k : Nat, 0 ≤ climbK sh S k ∧ climbK sh S k ≤ 1000 * k
 | 0 => by simp [climbK]
 | k + 1 => by
  have h2 := climbK_bound hF S k
  have h1 : 0 ≤ clOf sh k ∧ clOf sh k ≤ 1000 := by
   unfold clOf;split
   ·rename_i a ha
    have := hF.aw ha;omega
   ·omega
  unfold climbK;split <;> omega
theorem wayS_bound (hF : Fine cl sh bs) (S : List qA) : 0 ≤ wayS sh S ∧ wayS sh S ≤ 10000 := by
 have h1 := awayS_bound hF S
 have h2 := climbK_bound hF S sh.length
 have h3 := awayS_nonneg sh S
 have := hF.sh1;unfold wayS;omega
theorem bit_and : ∀ x : Fin 64, ∀ k : Fin 6, andI (shrI (x.val : Int) (k.val : Int)) 1 = if x.val.testBit k.val then 1 else 0 := by decide +kernel
theorem bit_and' {x k : Nat} (hx : x < 64) (hk : k < 6) : andI (shrI (x : Int) (k : Int)) 1 = if x.testBit k then 1 else 0 := bit_and ⟨x, hx⟩ ⟨k, hk⟩
theorem bit_seen : ∀ x : Fin 16, ∀ s : Fin 4, orI (x.val : Int) (shlI 1 (s.val : Int)) = ((x.val ||| 2 ^ s.val : Nat) : Int) ∧ x.val ||| 2 ^ s.val < 16 ∧ I64 (shlI 1 (s.val : Int)) := by decide +kernel
structure Places (bs : List qA) (books : List Int) : Prop where
 len : books.length ≤ 6
 el : ∀ x ∈ books, 0 ≤ x ∧ x < bs.length
open Classical in
theorem s9_trip_eq (hF : Fine cl sh bs) (hP : Places bs books) {N : Nat} (hN : N < 64) : P_s9_trip cl sh bs books (N : Int) = some (wayS sh (selK bs books (fun i => N.testBit i) books.length), heavyS (selK bs books (fun i => N.testBit i) books.length)) := by
 have hsh := hF.sh1
 have h6 := hP.len;generalize hm : (fun i : Nat => N.testBit i) = m;refine Ok.get ?_;unfold P_s9_trip;refine Ok.andx (P := fun r => r.1 = awayS sh (selK bs books m books.length) ∧ r.2.1 = heavyS (selK bs books m books.length) ∧ ∃ q : Nat, r.2.2 = q ∧ q < 16 ∧ ∀ s : Nat, q.testBit s = decide (∃ b ∈ selK bs books m books.length, b.shelf = (s : Int))) ?_ ?_
 ·refine Ok.count (fun s : Int × Int × Int × Int => s.2.2.2) books.length (fun k r => r.1 = awayS sh (selK bs books m k) ∧ r.2.1 = heavyS (selK bs books m k) ∧ ∃ q : Nat, r.2.2.1 = q ∧ q < 16 ∧ ∀ s : Nat, q.testBit s = decide (∃ b ∈ selK bs books m k, b.shelf = (s : Int))) rfl ⟨rfl, rfl, 0, rfl, by decide, fun s => by simp [selK]⟩ ?_ ?_
  ·rintro k ⟨way, heavy, seen, i⟩ hk hx ⟨h1, h2, q, h3, hq, h4⟩;simp only at hx h1 h2 h3;subst hx; subst h1; subst h2; subst h3;obtain ⟨x, hxk⟩ := get_some hk
   have hxr := hP.el x (List.mem_of_getElem? hxk);obtain ⟨b, hb⟩ := at_some hxr
   have hbr := hF.heavy (List.mem_of_getElem? hb)
   have hst := selK_step (m := m) hxk hb
   have hlen := selK_len (bs := bs) (books := books) (m := m) k
   have hhb := heavyS_bound hF (selK bs books m k) fun b h => selK_mem h
   unfold P_s9_trip_L1
   show Ok (if _ then _ else _) _;rw [if_pos (by omega), el_at hxk, chk_pos (by omega), bit_and' hN (by omega)]
   have hmk : N.testBit k = m k := by rw [← hm]
   rw [hmk]
   have hcnt : I64 ((k : Int) + 1) := i64_small (by omega)
   by_cases hbit : m k = true
   ·rw [if_pos hbit] at hst;rw [if_pos hbit, if_neg (by decide), el_int hxr.1 hb, chk_pos (i64_small (by omega))];obtain ⟨a, ha⟩ := get_some (l := sh) (k := b.shelf.toNat) (by omega)
    have hs := bit_seen ⟨q, hq⟩ ⟨b.shelf.toNat, by omega⟩;simp only [show ((b.shelf.toNat : Nat) : Int) = b.shelf by omega] at hs;rw [el_int hbr.2.1 ha, chk_pos ⟨by omega, hs.2.2⟩, hs.1, andx_some'];dsimp only;rw [chk_pos hcnt];refine .some ⟨rfl, ?_, ?_, _, rfl, hs.2.1, fun s => ?_⟩
    ·show max (awayS sh (selK bs books m k)) a.away = _;rw [hst, awayS_append]
     have e : awOf sh b = a.away := by unfold awOf; rw [ha]
     have := (hF.aw ha).1;simp only [awayS, e];omega
    ·show heavyS (selK bs books m k) + b.heavy = _;rw [hst, heavyS_append];simp [heavyS]
    ·show (q ||| 2 ^ b.shelf.toNat).testBit s = _;rw [Nat.testBit_or, h4 s, Nat.testBit_two_pow, hst]
     by_cases g1 : ∃ b ∈ selK bs books m k, b.shelf = (s : Int)
     ·obtain ⟨c, hc, hcs⟩ := g1;rw [decide_eq_true ⟨c, hc, hcs⟩, decide_eq_true (p := ∃ b_1 ∈ selK bs books m k ++ [b], b_1.shelf = (s : Int)) ⟨c, by simp [hc], hcs⟩];rfl
     ·by_cases g2 : b.shelf.toNat = s
      ·rw [decide_eq_true g2, Bool.or_true, decide_eq_true];exact ⟨b, by simp, by omega⟩
      ·rw [decide_eq_false g1, decide_eq_false g2, decide_eq_false]
       ·rfl
       ·rintro ⟨c, hc, hcs⟩
        rcases List.mem_append.1 hc with hc | hc
        ·exact g1 ⟨c, hc, hcs⟩
        ·have := List.mem_singleton.1 hc;subst this;omega
   ·rw [if_neg hbit, List.append_nil] at hst;rw [if_neg hbit, if_pos rfl, andx_some'];dsimp only;rw [chk_pos hcnt];refine .some ⟨rfl, ?_, ?_, q, rfl, hq, fun s => ?_⟩
    ·rw [hst]
    ·rw [hst]
    ·rw [hst]; exact h4 s
  ·rintro ⟨way, heavy, seen, i⟩ hx hI;simp only at hx hI;subst hx;unfold P_s9_trip_L1
   show Ok (if _ then _ else _) _;rw [if_neg (by omega)];exact .some hI
 ·rintro ⟨way, heavy, seen⟩ ⟨h1, h2, q, h3, hq, h4⟩;simp only at h1 h2 h3;subst h1; subst h2; subst h3;generalize selK bs books m books.length = S at h4 ⊢
  have hab := awayS_bound hF S
  have hcb := climbK_bound hF S
  have han := awayS_nonneg sh S;refine Ok.andx (P := fun r => r = awayS sh S + climbK sh S sh.length) ?_ (fun r hr => ?_)
  ·refine Ok.count (fun s : Int × Int => s.2) sh.length (fun k r => r.1 = awayS sh S + climbK sh S k) rfl (by simp [climbK]) ?_ ?_
   ·rintro k ⟨way, i⟩ hk hx h1;simp only at hx h1;subst hx; subst h1;obtain ⟨a, ha⟩ := get_some hk
    have har := hF.aw ha
    have hck := hcb k;unfold P_s9_trip_L2
    show Ok (if _ then _ else _) _;rw [if_pos (by omega), el_at ha, chk_pos (by omega), bit_and' (by omega) (by omega), h4 k]
    have e : clOf sh k = a.climb := by unfold clOf; rw [ha]
    have hb1 : (0 : Int) ≤ (if decide (∃ b ∈ S, b.shelf = (k : Int)) = true then 1 else 0) * a.climb ∧ (if decide (∃ b ∈ S, b.shelf = (k : Int)) = true then (1 : Int) else 0) * a.climb ≤ 1000 := by
     split <;> omega
    rw [chk_pos (i64_small (by omega)), chk_pos (i64_small (by omega)), chk_pos (i64_small (by omega))];refine .some ⟨rfl, ?_⟩
    show awayS sh S + climbK sh S k + (if decide (∃ b ∈ S, b.shelf = (k : Int)) = true then (1 : Int) else 0) * a.climb = awayS sh S + climbK sh S (k + 1);rw [climbK_succ, e]
    by_cases g : ∃ b ∈ S, b.shelf = (k : Int)
    ·rw [if_pos (decide_eq_true g), if_pos g]; omega
    ·rw [if_neg (by rw [decide_eq_false g]; decide), if_neg g]; omega
   ·rintro ⟨way, i⟩ hx h1;simp only at hx h1;subst hx;unfold P_s9_trip_L2
    show Ok (if _ then _ else _) _;rw [if_neg (by omega)];exact .some h1
  ·subst hr
   have := hcb sh.length;rw [chk_pos (i64_small (by omega))];exact .some rfl
end
end Go.Am
end
section
namespace Go.Am
set_option linter.unusedVariables false
set_option linter.unusedSimpArgs false
def onS (s : Int) (S : List qA) : List qA := S.filter fun b => decide (b.shelf = s)
def ltS (s : Int) (S : List qA) : List qA := S.filter fun b => decide (b.shelf < s)
theorem ltS_heavy {s : Int} : ∀ S : List qA, heavyS (ltS (s + 1) S) = heavyS (ltS s S) + heavyS (onS s S)
 | [] => rfl
 | b :: r => by
  have ih := ltS_heavy (s := s) r;unfold ltS onS at ih ⊢;simp only [List.filter_cons]
  by_cases h1 : b.shelf < s
  ·rw [if_pos (decide_eq_true (by omega)), if_pos (decide_eq_true h1), if_neg (by rw [decide_eq_false (by omega)]; decide)];simp only [heavyS, ih]; omega
  ·by_cases h2 : b.shelf = s
   ·rw [if_pos (decide_eq_true (by omega)), if_neg (by rw [decide_eq_false h1]; decide), if_pos (decide_eq_true h2)];simp only [heavyS, ih]; omega
   ·rw [if_neg (by rw [decide_eq_false (by omega)]; decide), if_neg (by rw [decide_eq_false h1]; decide), if_neg (by rw [decide_eq_false h2]; decide)];exact ih
theorem ltS_away {sh : List qH} {s : Int} : ∀ S : List qA, awayS sh (ltS (s + 1) S) = max (awayS sh (ltS s S)) (awayS sh (onS s S))
 | [] => rfl
 | b :: r => by
  have ih := ltS_away (sh := sh) (s := s) r;unfold ltS onS at ih ⊢;simp only [List.filter_cons]
  by_cases h1 : b.shelf < s
  ·rw [if_pos (decide_eq_true (by omega)), if_pos (decide_eq_true h1), if_neg (by rw [decide_eq_false (by omega)]; decide)];simp only [awayS, ih]; omega
  ·by_cases h2 : b.shelf = s
   ·rw [if_pos (decide_eq_true (by omega)), if_neg (by rw [decide_eq_false h1]; decide), if_pos (decide_eq_true h2)];simp only [awayS, ih]; omega
   ·rw [if_neg (by rw [decide_eq_false (by omega)]; decide), if_neg (by rw [decide_eq_false h1]; decide), if_neg (by rw [decide_eq_false h2]; decide)];exact ih
theorem ltS_none {S : List qA} (h : ∀ b ∈ S, 0 ≤ b.shelf) : ltS 0 S = [] := List.filter_eq_nil_iff.2 fun b hb => by have := h b hb; simp; omega
theorem ltS_all {S : List qA} {n : Int} (h : ∀ b ∈ S, b.shelf < n) : ltS n S = S := List.filter_eq_self.2 fun b hb => decide_eq_true (h b hb)
theorem onS_append {s : Int} {x y : List qA} : onS s (x ++ y) = onS s x ++ onS s y := List.filter_append ..
theorem max3 {x z a : Int} (h : 0 ≤ a) : max (max x z) a = max x (max z (max a 0)) := by omega
section
variable {cl : List Str} {sh : List qH} {bs : List qA} {books : List Int}
open Classical in
theorem r9_Trip_eq (hF : Fine cl sh bs) (hP : Places bs books) {t : List Int} (ht : t.length = books.length) {n : Int} : P_r9_Trip cl sh bs books t n = some (wayS sh (selK bs books (fun i => decide (t[i]? = some n)) books.length), heavyS (selK bs books (fun i => decide (t[i]? = some n)) books.length)) := by
 have hsh := hF.sh1
 have h6 := hP.len;generalize hm : (fun i : Nat => decide (t[i]? = some n)) = m
 have hSm : ∀ b ∈ selK bs books m books.length, 0 ≤ b.shelf ∧ b.shelf < sh.length := fun b hb => (hF.heavy (selK_mem hb)).2
 have hlenS := selK_len (bs := bs) (books := books) (m := m) books.length;refine Ok.get ?_;unfold P_r9_Trip;refine Ok.andx (P := fun r => r = (awayS sh (selK bs books m books.length), climbK sh (selK bs books m books.length) sh.length, heavyS (selK bs books m books.length))) ?_ ?_
 ·refine Ok.count (fun s : Int × Int × Int × Int => s.2.2.2) sh.length (fun k r => r.1 = awayS sh (ltS k (selK bs books m books.length)) ∧ r.2.1 = climbK sh (selK bs books m books.length) k ∧ r.2.2.1 = heavyS (ltS k (selK bs books m books.length))) rfl ⟨by show _ = awayS sh (ltS 0 _); rw [ltS_none fun b hb => (hSm b hb).1]; rfl, rfl, by show _ = heavyS (ltS 0 _); rw [ltS_none fun b hb => (hSm b hb).1]; rfl⟩ ?_ ?_
  ·rintro s ⟨away, climb, heavy, s_⟩ hk hx ⟨h1, h2, h3⟩;simp only at hx h1 h2 h3;subst hx;obtain ⟨a, ha⟩ := get_some hk
   have har := hF.aw ha
   have hcb := climbK_bound hF (selK bs books m books.length) s
   have hhb := heavyS_bound hF (ltS s (selK bs books m books.length)) fun b hb => selK_mem ((List.mem_filter.1 hb).1)
   have hll : (ltS s (selK bs books m books.length)).length ≤ (selK bs books m books.length).length := List.length_filter_le _ _;unfold P_r9_Trip_L1
   show Ok (if _ then _ else _) _;rw [if_pos (by omega)];refine Ok.andx (P := fun r => r = (awayS sh (ltS (s + 1 : Nat) (selK bs books m books.length)), climbK sh (selK bs books m books.length) (s + 1), heavyS (ltS (s + 1 : Nat) (selK bs books m books.length)))) ?_ ?_
   ·refine Ok.andx (P := fun r => r = (max away (awayS sh (onS s (selK bs books m books.length))), heavy + heavyS (onS s (selK bs books m books.length)), if ∃ b ∈ selK bs books m books.length, b.shelf = (s : Int) then (1 : Int) else 0)) ?_ ?_
    ·refine Ok.count (fun r : Int × Int × Int × Int => r.2.2.2) books.length (fun k r => r.1 = max away (awayS sh (onS s (selK bs books m k))) ∧ r.2.1 = heavy + heavyS (onS s (selK bs books m k)) ∧ r.2.2.1 = if ∃ b ∈ selK bs books m k, b.shelf = (s : Int) then (1 : Int) else 0) rfl ⟨?_, ?_, ?_⟩ ?_ ?_
     ·have := awayS_nonneg sh (ltS s (selK bs books m books.length))
      show away = max away (awayS sh (onS s []))
      show away = max away 0;omega
     ·show heavy = heavy + 0;omega
     ·show (0 : Int) = _;rw [if_neg (by simp [selK])]
     ·rintro k ⟨aw2, hv2, so, i⟩ hk2 hx ⟨g1, g2, g3⟩;simp only at hx g1 g2 g3;subst hx;obtain ⟨x, hxk⟩ := get_some hk2
      have hxr := hP.el x (List.mem_of_getElem? hxk);obtain ⟨b, hb⟩ := at_some hxr
      have hbr := hF.heavy (List.mem_of_getElem? hb)
      have hst := selK_step (m := m) hxk hb;obtain ⟨u, hu⟩ := get_some (l := t) (k := k) (by omega)
      have hmk : m k = decide (u = n) := by
       rw [← hm];refine decide_eq_decide.2 ⟨fun h => ?_, fun h => ?_⟩
       ·rw [hu] at h; exact Option.some.inj h
       ·rw [hu, h]
      have hcnt : I64 ((k : Int) + 1) := i64_small (by omega)
      have hb2 := heavyS_bound hF (onS s (selK bs books m k)) fun b hb => selK_mem ((List.mem_filter.1 hb).1)
      have hl2 : (onS s (selK bs books m k)).length ≤ (selK bs books m k).length := List.length_filter_le _ _
      have hl3 := selK_len (bs := bs) (books := books) (m := m) k;unfold P_r9_Trip_L2
      show Ok (if _ then _ else _) _;rw [if_pos (by omega), el_at hxk, el_int hxr.1 hb, el_at hu]
      by_cases hsel : u = n ∧ b.shelf = (s : Int)
      ·have hmt : m k = true := by rw [hmk]; exact decide_eq_true hsel.1
       rw [if_pos hmt] at hst
       have hon : onS s (selK bs books m (k + 1)) = onS s (selK bs books m k) ++ [b] := by
        rw [hst, onS_append]
        congr 1
        unfold onS;rw [List.filter_cons, if_pos (decide_eq_true hsel.2)];rfl
       rw [if_pos hsel.1, decide_eq_true hsel.2, andx_some', if_pos rfl, chk_pos (i64_small (by omega)), el_at ha, andx_some'];dsimp only;rw [chk_pos hcnt];refine .some ⟨rfl, ?_, ?_, ?_⟩
       ·show max aw2 a.away = _
        have e : awOf sh b = a.away := by
         unfold awOf;rw [hsel.2, Int.toNat_natCast, ha]
        rw [hon, awayS_append, g1];simp only [awayS, e];exact max3 har.1.1
       ·show hv2 + b.heavy = _;rw [hon, heavyS_append];simp only [heavyS];omega
       ·show (1 : Int) = _;rw [if_pos ⟨b, by rw [hst]; simp, hsel.2⟩]
      ·have hcond : (if u = n then some (decide (b.shelf = (s : Int))) else some false) = some false := by
        by_cases hu1 : u = n
        ·rw [if_pos hu1, decide_eq_false fun h => hsel ⟨hu1, h⟩]
        ·rw [if_neg hu1]
       rw [hcond, andx_some', if_neg (by decide), andx_some'];dsimp only;rw [chk_pos hcnt]
       have hon : onS s (selK bs books m (k + 1)) = onS s (selK bs books m k) := by
        rw [hst, onS_append]
        by_cases hmt : m k = true
        ·rw [if_pos hmt];unfold onS;rw [List.filter_cons, if_neg, List.filter_nil, List.append_nil];rw [decide_eq_false fun h => hsel ⟨by rw [hmk] at hmt; exact of_decide_eq_true hmt, h⟩];decide
        ·rw [if_neg hmt];simp [onS]
       refine .some ⟨rfl, ?_, ?_, ?_⟩
       ·rw [hon]; exact g1
       ·rw [hon]; exact g2
       ·show so = _;rw [g3]
        have hiff : (∃ b ∈ selK bs books m k, b.shelf = (s : Int)) ↔ ∃ b ∈ selK bs books m (k + 1), b.shelf = (s : Int) := ⟨fun ⟨c, hc, hcs⟩ => ⟨c, by rw [hst]; exact List.mem_append_left _ hc, hcs⟩, fun ⟨c, hc, hcs⟩ => ?_⟩
        ·by_cases g : ∃ b ∈ selK bs books m k, b.shelf = (s : Int)
         ·rw [if_pos g, if_pos (hiff.1 g)]
         ·rw [if_neg g, if_neg fun h => g (hiff.2 h)]
        rw [hst] at hc
        rcases List.mem_append.1 hc with hc | hc
        ·exact ⟨c, hc, hcs⟩
        ·split at hc
         ·rename_i hmt
          have := List.mem_singleton.1 hc;subst this;exact absurd ⟨by rw [hmk] at hmt; exact of_decide_eq_true hmt, hcs⟩ hsel
         ·cases hc
     ·rintro ⟨aw2, hv2, so, i⟩ hx ⟨g1, g2, g3⟩;simp only at hx g1 g2 g3;subst hx; subst g1; subst g2; subst g3;unfold P_r9_Trip_L2
      show Ok (if _ then _ else _) _;rw [if_neg (by omega)];exact .some rfl
    ·rintro r rfl;dsimp only
     have e : clOf sh s = a.climb := by unfold clOf; rw [ha]
     have hb1 : (0 : Int) ≤ (if ∃ b ∈ selK bs books m books.length, b.shelf = (s : Int) then (1 : Int) else 0) * a.climb ∧ (if ∃ b ∈ selK bs books m books.length, b.shelf = (s : Int) then (1 : Int) else 0) * a.climb ≤ 1000 := by
      split <;> omega
     rw [el_at ha, chk_pos (i64_small (by omega)), chk_pos (i64_small (by omega))];refine .some ?_;rw [climbK_succ, e, h1, h2, h3, show (((s + 1 : Nat) : Int)) = (s : Int) + 1 by omega, ltS_heavy, ltS_away]
     congr 2
     by_cases g : ∃ b ∈ selK bs books m books.length, b.shelf = (s : Int)
     ·rw [if_pos g, if_pos g]; omega
     ·rw [if_neg g, if_neg g]; omega
   ·rintro r rfl;dsimp only;rw [chk_pos (i64_small (by omega))];exact .some ⟨rfl, rfl, rfl, rfl⟩
  ·rintro ⟨away, climb, heavy, s_⟩ hx ⟨h1, h2, h3⟩;simp only at hx h1 h2 h3;subst hx;unfold P_r9_Trip_L1
   show Ok (if _ then _ else _) _;rw [if_neg (by omega)];rw [ltS_all fun b hb => (hSm b hb).2] at h1 h3;subst h1; subst h2; subst h3;exact .some rfl
 ·rintro r rfl;dsimp only
  have h1 := awayS_bound hF (selK bs books m books.length)
  have h2 := climbK_bound hF (selK bs books m books.length) sh.length
  have h3 := awayS_nonneg sh (selK bs books m books.length);rw [chk_pos (i64_small (by omega)), chk_pos (i64_small (by omega)), chk_pos (i64_small (by omega))];refine .some ?_
  show (_, _) = (2 * (_ + _), _);rw [Int.mul_add]
end
end Go.Am
end
section
namespace Go.Am
set_option linter.unusedVariables false
set_option linter.unusedSimpArgs false
section
variable {cl : List Str} {sh : List qH} {bs : List qA} {books : List Int} {carry : Int}
def tripS (bs : List qA) (books t : List Int) (n : Nat) : List qA := selK bs books (fun i => decide (t[i]? = some (n : Int))) books.length
noncomputable def sumW (sh : List qH) (bs : List qA) (books t : List Int) : Nat → Int
 | 0 => 0
 | k + 1 => sumW sh bs books t k + wayS sh (tripS bs books t k)
theorem sumW_succ (t : List Int) (k : Nat) : sumW sh bs books t (k + 1) = sumW sh bs books t k + wayS sh (tripS bs books t k) := rfl
def lightW (bs : List qA) (books t : List Int) (carry : Int) (k : Nat) : Prop := ∀ n, n < k → heavyS (tripS bs books t n) ≤ carry
theorem sumW_bound (hF : Fine cl sh bs) (t : List Int) : ∀ k : Nat, 0 ≤ sumW sh bs books t k ∧ sumW sh bs books t k ≤ 10000 * k
 | 0 => by simp [sumW]
 | k + 1 => by
  have h1 := sumW_bound hF t k
  have h2 := wayS_bound hF (tripS bs books t k);rw [sumW_succ];omega
open Classical in
theorem r9_Way_eq (hF : Fine cl sh bs) (hP : Places bs books) {t : List Int} (ht : t.length = books.length) : P_r9_Way cl sh bs books t carry = some (if lightW bs books t carry books.length then (sumW sh bs books t books.length, true) else (0, false)) := by
 have h6 := hP.len;refine Ok.get ?_;unfold P_r9_Way;refine Ok.seqx ?_;refine Ok.count (fun s : Int × Int => s.2) books.length (fun k r => r.1 = sumW sh bs books t k ∧ lightW bs books t carry k) rfl ⟨rfl, fun n h => by omega⟩ ?_ ?_
 ·rintro k ⟨sum, i⟩ hk hx ⟨h1, h2⟩;simp only at hx h1;subst hx; subst h1
  have hb := sumW_bound (books := books) hF t k
  have hw := wayS_bound hF (tripS bs books t k);unfold P_r9_Way_L1
  show Ok (if _ then _ else _) _
  have hT : P_r9_Trip cl sh bs books t (k : Int) = some (wayS sh (tripS bs books t k), heavyS (tripS bs books t k)) := r9_Trip_eq hF hP ht;rw [if_pos (by omega), hT, andx_some'];dsimp only
  by_cases g : heavyS (tripS bs books t k) > carry
  ·rw [if_pos g];refine .some ?_
   show (0, false) = _;rw [if_neg fun h => by have := h k hk; omega]
  ·rw [if_neg g]
   show Ok (chk (I64 (sumW sh bs books t k + wayS sh (tripS bs books t k))) _) _;rw [chk_pos (i64_small (by omega)), chk_pos (i64_small (by omega))];refine .some ⟨rfl, rfl, fun n hn => ?_⟩
   by_cases e : n = k
   ·subst e; omega
   ·exact h2 n (by omega)
 ·rintro ⟨sum, i⟩ hx ⟨h1, h2⟩;simp only at hx h1;subst hx; subst h1;unfold P_r9_Way_L1
  show Ok (if _ then _ else _) _;rw [if_neg (by omega)];refine .some ?_
  show Ok (some _) _;exact .some (by rw [if_pos h2])
theorem climbK_nil (sh : List qH) : ∀ k : Nat, climbK sh [] k = 0
 | 0 => rfl
 | k + 1 => by rw [climbK_succ, climbK_nil sh k, if_neg (by simp)]; rfl
theorem wayS_nil (sh : List qH) : wayS sh [] = 0 := by unfold wayS; rw [climbK_nil]; rfl
theorem tripS_none {t : List Int} {n : Nat} (h : ∀ x ∈ t, x < (n : Int)) : tripS bs books t n = [] := by
 unfold tripS selK;refine List.flatMap_eq_nil_iff.2 fun i _ => ?_
 refine if_neg fun hi => ?_
 have := h _ (List.mem_of_getElem? (of_decide_eq_true hi));omega
theorem sumW_rest {t : List Int} {a : Nat} (h : ∀ x ∈ t, x < (a : Int)) : ∀ k : Nat, sumW sh bs books t (a + k) = sumW sh bs books t a
 | 0 => rfl
 | k + 1 => by
  rw [show a + (k + 1) = (a + k) + 1 by omega, sumW_succ, sumW_rest h k, tripS_none (fun x hx => by have := h x hx; omega), wayS_nil];omega
theorem lightW_rest {t : List Int} {a k : Nat} (hc : 0 ≤ carry) (h : ∀ x ∈ t, x < (a : Int)) : lightW bs books t carry (a + k) ↔ lightW bs books t carry a := by
 refine ⟨fun g n hn => g n (by omega), fun g n hn => ?_⟩
 by_cases e : n < a
 ·exact g n e
 ·rw [tripS_none fun x hx => by have := h x hx; omega];exact hc
open Classical in
theorem walk_sum (hF : Fine cl sh bs) (hP : Places bs books) (hc : 0 ≤ carry) {p : List Int × List Int} (hp : PartAt books.length p.1 p.2) : iter (P_s9_Walk_L5 cl sh bs books carry p) (0, true, 0) = some (sumW sh bs books p.1 books.length, decide (lightW bs books p.1 carry books.length)) := by
 have h6 := hP.len
 have hsl := hp.sl;obtain ⟨d, hd⟩ : ∃ d, books.length = p.2.length + d := ⟨books.length - p.2.length, by omega⟩;rw [hd, sumW_rest (fun x hx => (hp.tr x hx).2) d, decide_eq_decide.2 (lightW_rest hc fun x hx => (hp.tr x hx).2)];refine Ok.get ?_;refine Ok.count (fun s : Int × Bool × Int => s.2.2) p.2.length (fun k r => r.1 = sumW sh bs books p.1 k ∧ r.2.1 = decide (lightW bs books p.1 carry k)) rfl ⟨rfl, (decide_eq_true (show lightW bs books p.1 carry 0 from fun n h => by omega)).symm⟩ ?_ ?_
 ·rintro k ⟨sum, light, i⟩ hk hx ⟨h1, h2⟩;simp only at hx h1 h2;subst hx; subst h1;obtain ⟨x, hxk⟩ := get_some hk;obtain ⟨hr, hbit⟩ := hp.el k x hxk
  have h64 : (2 : Int) ^ books.length ≤ 64 := by
   have : (2 : Nat) ^ books.length ≤ 2 ^ 6 := Nat.pow_le_pow_right (by decide) h6
   have h2 : ((2 ^ books.length : Nat) : Int) = (2 : Int) ^ books.length := by exact_mod_cast rfl
   have e : (2 : Nat) ^ 6 = 64 := by decide
   omega
  have hb := sumW_bound (books := books) hF p.1 k
  have hw := wayS_bound hF (tripS bs books p.1 k)
  have htrip := s9_trip_eq hF hP (N := x.toNat) (by omega);rw [show (fun i : Nat => x.toNat.testBit i) = fun i => decide (p.1[i]? = some (k : Int)) from funext hbit, show ((x.toNat : Nat) : Int) = x by omega] at htrip;replace htrip : P_s9_trip cl sh bs books x = some (wayS sh (tripS bs books p.1 k), heavyS (tripS bs books p.1 k)) := htrip;unfold P_s9_Walk_L5
  show Ok (if _ then _ else _) _;rw [if_pos (by omega), el_at hxk, htrip, andx_some'];dsimp only
  show Ok (andx (chk (I64 (sumW sh bs books p.1 k + wayS sh (tripS bs books p.1 k))) _) _) _;rw [chk_pos (i64_small (by omega))]
  have hcnt : I64 ((k : Int) + 1) := i64_small (by omega)
  by_cases g : lightW bs books p.1 carry k
  ·rw [h2, if_pos (decide_eq_true g), andx_some'];dsimp only;rw [chk_pos hcnt];refine .some ⟨rfl, rfl, ?_⟩
   show decide (heavyS (tripS bs books p.1 k) ≤ carry) = _;refine decide_eq_decide.2 ⟨fun h n hn => ?_, fun h => h k (Nat.lt_succ_self k)⟩
   by_cases e : n = k
   ·subst e; exact h
   ·exact g n (by omega)
  ·rw [h2, if_neg (by rw [decide_eq_false g]; decide), andx_some'];dsimp only;rw [chk_pos hcnt];refine .some ⟨rfl, rfl, ?_⟩
   show false = _;rw [decide_eq_false fun h => g fun n hn => h n (by omega)]
 ·rintro ⟨sum, light, i⟩ hx ⟨h1, h2⟩;simp only at hx h1 h2;subst hx; subst h1; subst h2;unfold P_s9_Walk_L5
  show Ok (if _ then _ else _) _;rw [if_neg (by omega)];exact .some rfl
end
end Go.Am
end
section
namespace Go.Am
set_option linter.unusedVariables false
set_option linter.unusedSimpArgs false
section
variable {cl : List Str} {sh : List qH} {bs : List qA} {books : List Int} {carry : Int}
open Classical in
noncomputable def stepF (sh : List qH) (bs : List qA) (books : List Int) (carry : Int) (st : Option (List Int × Int)) (p : List Int × List Int) : Option (List Int × Int) :=
  if lightW bs books p.1 carry books.length then
    (match st with
      | none => some (p.1, sumW sh bs books p.1 books.length)
      | some (t, n) => if sumW sh bs books p.1 books.length < n then some (p.1, sumW sh bs books p.1 books.length) else some (t, n))
  else st
def encF : Option (List Int × Int) → List Int × Bool × Bool × Int
 | none => ([], true, false, 0)
 | some (t, n) => (t, false, true, n)
noncomputable def bestF (sh : List qH) (bs : List qA) (books : List Int) (carry : Int) : Option (List Int × Int) := (walksOf books.length).foldl (stepF sh bs books carry) none
open Classical in
theorem walk_round (hF : Fine cl sh bs) (hP : Places bs books) (hc : 0 ≤ carry) {p : List Int × List Int} (hp : PartAt books.length p.1 p.2) (st : Option (List Int × Int)) :
  P_s9_Walk_L4 cl sh bs books carry (encF st) p = some (.ag (encF (stepF sh bs books carry st p))) := by
 have h6 := hP.len
 have htl := hp.tl
 have hsum := walk_sum hF hP hc hp
 have key : ∀ (trips : List Int) (z found : Bool) (way : Int), P_s9_Walk_L4 cl sh bs books carry (trips, z, found, way) p =
   andx (if decide (lightW bs books p.1 carry books.length) = true then (if found = true then some (decide (sumW sh bs books p.1 books.length < way), true) else some (true, false)) else some (false, found)) fun r => if r.1 = true then chk (p.1.length < 1000) (some (Stp.ag (p.1, false, true, sumW sh bs books p.1 books.length))) else some (Stp.ag (trips, z, r.2, way)) := fun trips z found way => by
  unfold P_s9_Walk_L4;rw [hsum];rfl
 by_cases g : lightW bs books p.1 carry books.length
 ·cases st with
  | none =>
   show P_s9_Walk_L4 cl sh bs books carry ([], true, false, 0) p = _;rw [key, if_pos (decide_eq_true g), if_neg (by decide), andx_some', if_pos rfl, chk_pos (by omega)];unfold stepF;rw [if_pos g];rfl
  | some q =>
   obtain ⟨t, n⟩ := q
   show P_s9_Walk_L4 cl sh bs books carry (t, false, true, n) p = _;rw [key, if_pos (decide_eq_true g), if_pos rfl, andx_some'];unfold stepF;rw [if_pos g];dsimp only
   by_cases hlt : sumW sh bs books p.1 books.length < n
   ·rw [if_pos (decide_eq_true hlt), chk_pos (by omega), if_pos hlt];rfl
   ·rw [if_neg (by rw [decide_eq_false hlt]; decide), if_neg hlt];rfl
 ·have hst : stepF sh bs books carry st p = st := if_neg g;rw [hst];cases st with
  | none =>
   show P_s9_Walk_L4 cl sh bs books carry ([], true, false, 0) p = _;rw [key, if_neg (by rw [decide_eq_false g]; decide), andx_some', if_neg (by decide)];rfl
  | some q =>
   obtain ⟨t, n⟩ := q
   show P_s9_Walk_L4 cl sh bs books carry (t, false, true, n) p = _;rw [key, if_neg (by rw [decide_eq_false g]; decide), andx_some', if_neg (by decide)];rfl
theorem walk_fold (hF : Fine cl sh bs) (hP : Places bs books) (hc : 0 ≤ carry) : ∀ (l : List (List Int × List Int)) (st : Option (List Int × Int)), (∀ p ∈ l, PartAt books.length p.1 p.2) →
  foldx (P_s9_Walk_L4 cl sh bs books carry) l (encF st) = some (.nx (encF (l.foldl (stepF sh bs books carry) st)))
 | [], st, _ => rfl
 | p :: l, st, h => by
  unfold foldx;rw [walk_round hF hP hc (h p (by simp)) st];exact walk_fold hF hP hc l _ fun q hq => h q (by simp [hq])
open Classical in
theorem ref_fold (hF : Fine cl sh bs) (hP : Places bs books) : Ok (iter (P_r9_Walk_L1 cl sh bs books carry ((walksOf books.length).map Prod.fst)) (List.length ((walksOf books.length).map Prod.fst), 0, false, 0)) fun r => nelL ((walksOf books.length).map Prod.fst) r.1 = (encF (bestF sh bs books carry)).1 ∧ r.2 = (encF (bestF sh bs books carry)).2.2.2 := by
 have h6 := hP.len
 have hlen := wk_len books.length 0 [] [] (by simpa using h6)
 have e4 : 7 ^ books.length ≤ 7 ^ 6 := Nat.pow_le_pow_right (by decide) (by omega)
 have e5 : (7 : Nat) ^ 6 = 117649 := by decide
 have hpart := fun p (h : p ∈ walksOf books.length) => walks_part h
 unfold bestF
 change (walksOf books.length).length ≤ 7 ^ books.length at hlen
 generalize walksOf books.length = W at hlen hpart ⊢
 have hWl : (W.map Prod.fst).length = W.length := List.length_map ..;refine Ok.count (fun s : Nat × Int × Bool × Int => s.2.2.2) W.length (fun k r => nelL (W.map Prod.fst) r.1 = (encF ((W.take k).foldl (stepF sh bs books carry) none)).1 ∧ r.2.1 = (encF ((W.take k).foldl (stepF sh bs books carry) none)).2.2.2 ∧ r.2.2.1 = (encF ((W.take k).foldl (stepF sh bs books carry) none)).2.2.1) rfl ⟨nelL_end (Nat.le_refl _), rfl, rfl⟩ ?_ ?_
 ·rintro k ⟨best, least, found, i⟩ hk hx ⟨h1, h2, h3⟩;simp only at hx h1 h2 h3;subst hx;obtain ⟨p, hp⟩ := get_some hk
  have hpa := hpart p (List.mem_of_getElem? hp)
  have hpt : (W.map Prod.fst)[k]? = some p.1 := by rw [List.getElem?_map, hp]; rfl
  have hnel : nelL (W.map Prod.fst) (Int.toNat (k : Int)) = p.1 := nelL_of (by simpa using hpt)
  have hway := r9_Way_eq (carry := carry) hF hP hpa.tl
  have hst : (W.take (k + 1)).foldl (stepF sh bs books carry) none = stepF sh bs books carry ((W.take k).foldl (stepF sh bs books carry) none) p := by
   rw [take_step hp, List.foldl_append];rfl
  obtain ⟨st, hst0⟩ : ∃ st, (W.take k).foldl (stepF sh bs books carry) none = st := ⟨_, rfl⟩;rw [hst0] at h1 h2 h3 hst
  have fin : ∀ {b : Nat} {n : Int} {f : Bool} {st' : Option (List Int × Int)}, stepF sh bs books carry st p = st' → nelL (W.map Prod.fst) b = (encF st').1 → n = (encF st').2.2.2 → f = (encF st').2.2.1 →
    nelL (W.map Prod.fst) b = (encF ((W.take (k + 1)).foldl (stepF sh bs books carry) none)).1 ∧ n = (encF ((W.take (k + 1)).foldl (stepF sh bs books carry) none)).2.2.2 ∧ f = (encF ((W.take (k + 1)).foldl (stepF sh bs books carry) none)).2.2.1 := fun e g1 g2 g3 => by
   rw [hst, e];exact ⟨g1, g2, g3⟩
  have hcnt : I64 ((k : Int) + 1) := i64_small (by omega);unfold P_r9_Walk_L1
  show Ok (if _ then _ else _) _;rw [if_pos (by omega), chk_pos (by omega), hnel, hway, andx_some']
  by_cases g : lightW bs books p.1 carry books.length
  ·rw [if_pos g];dsimp only;rw [if_pos rfl]
   have hs : stepF sh bs books carry st p = _ := if_pos g;cases st with
   | none =>
    replace h3 : found = false := h3;rw [h3, if_neg (by decide), andx_some'];dsimp only;rw [if_pos rfl, chk_pos (by omega), andx_some'];dsimp only;rw [chk_pos hcnt];exact .some ⟨rfl, fin hs hnel rfl rfl⟩
   | some q =>
    obtain ⟨t, n⟩ := q;replace h3 : found = true := h3;replace h2 : least = n := h2;rw [h3, if_pos rfl, andx_some'];dsimp only
    by_cases hlt : sumW sh bs books p.1 books.length < least
    ·rw [if_pos (decide_eq_true hlt), chk_pos (by omega), andx_some'];dsimp only;rw [chk_pos hcnt];exact .some ⟨rfl, fin (hs.trans (if_pos (by omega))) hnel rfl rfl⟩
    ·rw [if_neg (by rw [decide_eq_false hlt]; decide), andx_some'];dsimp only;rw [chk_pos hcnt];exact .some ⟨rfl, fin (hs.trans (if_neg (by omega))) h1 h2 rfl⟩
  ·rw [if_neg g];dsimp only
   have hs : stepF sh bs books carry st p = st := if_neg g;rw [if_neg (by decide), andx_some'];dsimp only;rw [if_neg (by decide), andx_some'];dsimp only;rw [chk_pos hcnt];exact .some ⟨rfl, fin hs h1 h2 h3⟩
 ·rintro ⟨best, least, found, i⟩ hx ⟨h1, h2, h3⟩;simp only at hx h1 h2 h3;subst hx;rw [List.take_length] at h1 h2;unfold P_r9_Walk_L1
  show Ok (if _ then _ else _) _;rw [if_neg (by omega)];exact .some ⟨h1, h2⟩
end
end Go.Am
end
section
namespace Go.Am
set_option linter.unusedVariables false
set_option linter.unusedSimpArgs false
section
variable {cl : List Str} {sh : List qH} {bs : List qA} {books : List Int} {carry : Int}
def onceAt (books : List Int) (i : Nat) : Prop := ∀ x, books[i]? = some x → ¬ x ∈ books.take i
def lightAt (bs : List qA) (books : List Int) (carry : Int) (i : Nat) : Prop := ∀ x b, books[i]? = some x → bs[x.toNat]? = some b → b.heavy ≤ carry
open Classical in
noncomputable def listE (cl : List Str) (sh : List qH) (bs : List qA) (books : List Int) (carry : Int) : Int :=
  if roomN cl sh bs = 0 then
    (if books.length > 6 then 3 else if ∀ j, j < books.length → btwAt 0 ((bs.length : Int) - 1) books j then
      (if ∀ j, j < books.length → onceAt books j then (if 1 ≤ carry ∧ carry ≤ 100 then (if ∀ j, j < books.length → lightAt bs books carry j then 0 else 9) else 7) else 5) else 4)
  else roomN cl sh bs
theorem while_loop {P : Nat → Prop} [∀ i, Decidable (P i)] {n : Nat} {c e : Int} {body : Int × Int → Option (Stp (Int × Int) Int)} (hn : n ≤ 1000)
  (stop : ∀ (e_ i : Int), (e_ ≠ 0 ∨ ¬ i < n) → body (e_, i) = some (.dn e_)) (step : ∀ k : Nat, k < n → e = 0 → body (0, (k : Int)) = some (.ag (if P k then 0 else c, (k : Int) + 1))) (hc : c ≠ 0) [Decidable (∀ j, j < n → P j)] :
  iter body (e, 0) = some (if e = 0 then (if ∀ j, j < n → P j then 0 else c) else e) := by
 by_cases he : e = 0
 ·subst he;rw [if_pos rfl];refine Ok.get ?_;refine Ok.count (fun s : Int × Int => s.2) n (fun k s => (s.1 = 0 ∧ ∀ j, j < k → P j) ∨ (s.1 = c ∧ ¬ ∀ j, j < n → P j)) rfl (.inl ⟨rfl, fun j h => by omega⟩) ?_ ?_
  ·rintro k ⟨e_, i⟩ hk hx hI;simp only at hx hI;subst hx
   rcases hI with ⟨rfl, h2⟩ | ⟨rfl, h2⟩
   ·rw [step k hk rfl];refine .some ⟨rfl, ?_⟩
    by_cases h : P k
    ·refine .inl ⟨if_pos h, fun j hj => ?_⟩
     by_cases e : j = k
     ·subst e; exact h
     ·exact h2 j (by omega)
    ·exact .inr ⟨if_neg h, fun g => h (g k hk)⟩
   ·rw [stop _ _ (.inl hc)];exact .some (if_neg h2).symm
  ·rintro ⟨e_, i⟩ hx hI;simp only at hx hI;subst hx;rw [stop _ _ (.inr (by omega))];refine .some ?_
   rcases hI with ⟨rfl, h2⟩ | ⟨rfl, h2⟩
   ·exact (if_pos h2).symm
   ·exact (if_neg h2).symm
 ·rw [if_neg he];exact iter_eq.2 (.inr (stop _ _ (.inl he)))
open Classical in
theorem r9_Listed_eq : P_r9_Listed cl sh bs books carry = some (listE cl sh bs books carry) := by
  obtain ⟨c0, i0, e0, he, hf⟩ := roomE_ok cl sh bs
  have hN : roomN cl sh bs = e0 := by unfold roomN; rw [he]
  unfold P_r9_Listed
  rw [r9_Check_eq, he, andx_some']
  dsimp only
  unfold listE
  rw [hN]
  by_cases hz : e0 = 0
  · have hF := hf.1 hz
    have h10 := hF.bs1
    subst hz
    rw [if_pos rfl, if_pos rfl, andx_some']
    by_cases h6 : books.length > 6
    · rw [if_pos (decide_eq_true (by omega)), if_pos h6, andx_some']
      have s1 : iter (P_r9_Listed_L1 bs books) (3, 0) = some 3 := iter_eq.2 (.inr (by
        unfold P_r9_Listed_L1
        dsimp only
        by_cases hl : (0 : Int) < (books.length : Int)
        · rw [if_pos hl]; rfl
        · rw [if_neg hl]; rfl))
      have s2 : iter (P_r9_Listed_L2 books) (3, 0) = some 3 := iter_eq.2 (.inr (by
        unfold P_r9_Listed_L2
        dsimp only
        by_cases hl : (0 : Int) < (books.length : Int)
        · rw [if_pos hl]; rfl
        · rw [if_neg hl]; rfl))
      have s3 : iter (P_r9_Listed_L3 bs books carry) (3, 0) = some 3 := iter_eq.2 (.inr (by
        unfold P_r9_Listed_L3
        dsimp only
        by_cases hl : (0 : Int) < (books.length : Int)
        · rw [if_pos hl]; rfl
        · rw [if_neg hl]; rfl))
      rw [s1, andx_some', s2, andx_some', if_neg (by decide), andx_some', if_neg (by decide), andx_some', s3, andx_some']
    · rw [if_neg (by rw [decide_eq_false (by omega)]; decide), if_neg h6, andx_some']
      have s1 : ∀ e : Int, iter (P_r9_Listed_L1 bs books) (e, 0) = some (if e = 0 then (if ∀ j, j < books.length → btwAt 0 ((bs.length : Int) - 1) books j then 0 else 4) else e) := fun e => while_loop (P := btwAt 0 ((bs.length : Int) - 1) books) (by omega) (fun e_ i h => by
        unfold P_r9_Listed_L1
        dsimp only
        rcases h with h | h
        · by_cases hl : i < (books.length : Int)
          · rw [if_pos hl, decide_eq_false h]; rfl
          · rw [if_neg hl]; rfl
        · rw [if_neg h]; rfl) (fun k hk _ => by
        obtain ⟨x, hx⟩ := get_some hk
        unfold P_r9_Listed_L1
        dsimp only
        rw [if_pos (by omega), decide_eq_true rfl, andx_some', if_pos rfl, seqx_nx, el_at hx, chk_pos (i64_small (by omega)), r9_in_eq, andx_some']
        have hb : btwAt 0 ((bs.length : Int) - 1) books k ↔ (0 ≤ x ∧ x ≤ (bs.length : Int) - 1) := ⟨fun g => g x hx, fun g y hy => by rw [hx] at hy; cases hy; exact g⟩
        by_cases g : 0 ≤ x ∧ x ≤ (bs.length : Int) - 1
        · rw [if_pos (decide_eq_true g), if_pos (hb.2 g), andx_some', chk_pos (i64_small (by omega))]
        · rw [if_neg (by rw [decide_eq_false g]; decide), if_neg fun h => g (hb.1 h), andx_some', chk_pos (i64_small (by omega))]) (by decide)
      have s2 : ∀ e : Int, iter (P_r9_Listed_L2 books) (e, 0) = some (if e = 0 then (if ∀ j, j < books.length → onceAt books j then 0 else 5) else e) := fun e => while_loop (P := onceAt books) (by omega) (fun e_ i h => by
        unfold P_r9_Listed_L2
        dsimp only
        rcases h with h | h
        · by_cases hl : i < (books.length : Int)
          · rw [if_pos hl, decide_eq_false h]; rfl
          · rw [if_neg hl]; rfl
        · rw [if_neg h]; rfl) (fun k hk _ => by
        obtain ⟨x, hx⟩ := get_some hk
        unfold P_r9_Listed_L2
        dsimp only
        rw [if_pos (by omega), decide_eq_true rfl, andx_some', if_pos rfl, seqx_nx, chk_pos (by omega), el_at hx, take_sub, w1_Has_eq (by rw [List.length_take]; omega), andx_some']
        have hb : onceAt books k ↔ ¬ x ∈ books.take k := ⟨fun g => g x hx, fun g y hy => by rw [hx] at hy; cases hy; exact g⟩
        by_cases g : x ∈ books.take k
        · rw [if_pos (decide_eq_true g), if_neg fun h => hb.1 h g, andx_some', chk_pos (i64_small (by omega))]
        · rw [if_neg (by rw [decide_eq_false g]; decide), if_pos (hb.2 g), andx_some', chk_pos (i64_small (by omega))]) (by decide)
      rw [s1, andx_some', if_pos rfl]
      by_cases g1 : ∀ j, j < books.length → btwAt 0 ((bs.length : Int) - 1) books j
      · rw [if_pos g1, if_pos g1, s2, andx_some', if_pos rfl]
        have s3 : ∀ e : Int, iter (P_r9_Listed_L3 bs books carry) (e, 0) = some (if e = 0 then (if ∀ j, j < books.length → lightAt bs books carry j then 0 else 9) else e) := fun e => while_loop (P := lightAt bs books carry) (by omega) (fun e_ i h => by
          unfold P_r9_Listed_L3
          dsimp only
          rcases h with h | h
          · by_cases hl : i < (books.length : Int)
            · rw [if_pos hl, decide_eq_false h]; rfl
            · rw [if_neg hl]; rfl
          · rw [if_neg h]; rfl) (fun k hk _ => by
          obtain ⟨x, hx⟩ := get_some hk
          have hr := g1 k hk x hx
          unfold btw at hr
          obtain ⟨b, hb⟩ := at_some (bs := bs) (x := x) (by omega)
          unfold P_r9_Listed_L3
          dsimp only
          rw [if_pos (by omega), decide_eq_true rfl, andx_some', if_pos rfl, seqx_nx, el_at hx, el_int hr.1 hb]
          have hbb : lightAt bs books carry k ↔ b.heavy ≤ carry := ⟨fun g => g x b hx hb, fun g y c hy hc => by rw [hx] at hy; cases hy; rw [hb] at hc; cases hc; exact g⟩
          by_cases g : b.heavy > carry
          · rw [if_pos g, if_neg fun h => by have := hbb.1 h; omega, andx_some', chk_pos (i64_small (by omega))]
          · rw [if_neg g, if_pos (hbb.2 (by omega)), andx_some', chk_pos (i64_small (by omega))]) (by decide)
        by_cases g2 : ∀ j, j < books.length → onceAt books j
        · rw [if_pos g2, if_pos g2, if_pos rfl, r9_in_eq, andx_some', andx_some']
          by_cases g3 : 1 ≤ carry ∧ carry ≤ 100
          · rw [decide_eq_true g3, if_neg (by decide), if_pos g3, andx_some', s3, andx_some', if_pos rfl]
          · rw [decide_eq_false g3, if_pos (show (!false) = true from rfl), if_neg g3, andx_some', s3, andx_some', if_neg (by decide)]
        · rw [if_neg g2, if_neg g2, if_neg (by decide), andx_some', if_neg (by decide), andx_some', s3, andx_some', if_neg (by decide)]
      · have s24 : iter (P_r9_Listed_L2 books) (4, 0) = some 4 := by rw [s2]; exact congrArg some (if_neg (by decide))
        rw [if_neg g1, if_neg g1, s24, andx_some', if_neg (by decide), andx_some', if_neg (by decide), andx_some']
        have s3 : iter (P_r9_Listed_L3 bs books carry) (4, 0) = some 4 := iter_eq.2 (.inr (by
          unfold P_r9_Listed_L3
          dsimp only
          by_cases hl : (0 : Int) < (books.length : Int)
          · rw [if_pos hl]; rfl
          · rw [if_neg hl]; rfl))
        rw [s3, andx_some']
  · rw [if_neg hz, if_neg hz, andx_some', if_neg (by decide), andx_some']
    have s1 : iter (P_r9_Listed_L1 bs books) (e0, 0) = some e0 := iter_eq.2 (.inr (by
      unfold P_r9_Listed_L1
      dsimp only
      by_cases hl : (0 : Int) < (books.length : Int)
      · rw [if_pos hl, decide_eq_false hz]; rfl
      · rw [if_neg hl]; rfl))
    have s2 : iter (P_r9_Listed_L2 books) (e0, 0) = some e0 := iter_eq.2 (.inr (by
      unfold P_r9_Listed_L2
      dsimp only
      by_cases hl : (0 : Int) < (books.length : Int)
      · rw [if_pos hl, decide_eq_false hz]; rfl
      · rw [if_neg hl]; rfl))
    have s3 : iter (P_r9_Listed_L3 bs books carry) (e0, 0) = some e0 := iter_eq.2 (.inr (by
      unfold P_r9_Listed_L3
      dsimp only
      by_cases hl : (0 : Int) < (books.length : Int)
      · rw [if_pos hl, decide_eq_false hz]; rfl
      · rw [if_neg hl]; rfl))
    rw [s1, andx_some', s2, andx_some', if_neg hz, andx_some', if_neg (by decide), andx_some', s3, andx_some']
end
end Go.Am
end
section
namespace Go.Am
set_option linter.unusedVariables false
set_option linter.unusedSimpArgs false
section
variable {cl : List Str} {sh : List qH} {bs : List qA} {books : List Int} {carry : Int}
open Classical in
theorem dup_eq {k : Nat} {x : Int} (hl : books.length ≤ 1000) (hk : k ≤ books.length) : (andx (seqx (iter (P_s9_Walk_L2 books (k : Int) x) 0) fun _ => some (-1)) fun y7 => if y7 ≥ 0 then some (5 : Int) else some 0) = some (if x ∈ books.take k then 5 else 0) := by
 have hle : (books.take k).length ≤ 1000 := by rw [List.length_take]; omega
 rw [iter_scanI (fun j : Nat => if (books.take k)[j]? = some x then some (j : Int) else none) (books.take k).length, seqx_scan]
 ·cases hf : (List.range (books.take k).length).findSome? (fun j : Nat => if (books.take k)[j]? = some x then some (j : Int) else none) with
  | none =>
   have := of_find_none hf
   have hno : ¬ x ∈ books.take k := fun hm => by
    obtain ⟨j, hj⟩ := List.getElem?_of_mem hm
    have h2 := this j (List.getElem?_eq_some_iff.1 hj).1;rw [if_pos hj] at h2;cases h2
   rw [if_neg hno];rfl
  | some b =>
   obtain ⟨j, _, hj⟩ := List.exists_of_findSome?_eq_some hf
   by_cases e : (books.take k)[j]? = some x
   ·rw [if_pos e] at hj;cases hj;rw [if_pos (List.mem_of_getElem? e)]
    show (if (j : Int) ≥ 0 then some (5 : Int) else some 0) = _;rw [if_pos (by omega)]
   ·rw [if_neg e] at hj; cases hj
 ·intro j hj _;obtain ⟨a, ha⟩ := get_some hj;unfold P_s9_Walk_L2;rw [take_sub, if_pos (by omega), el_at ha, chk_pos (i64_small (by omega)), ha]
  by_cases e : x = a
  ·rw [if_pos e, if_pos (by rw [e])]; rfl
  ·rw [if_neg e, if_neg (fun h => e (Option.some.inj h).symm)]; rfl
 ·intro _;unfold P_s9_Walk_L2;rw [take_sub, if_neg (by omega)]
open Classical in
theorem walk_once (hl : books.length ≤ 1000) : iter (P_s9_Walk_L1 books) 0 = some (scanX (fun i => if onceAt books i then none else some ((i : Int), (5 : Int))) books.length) := by
 refine iter_scanI (fun i => if onceAt books i then none else some ((i : Int), (5 : Int))) books.length (fun k hk _ => ?_) (fun _ => ?_)
 ·obtain ⟨x, hx⟩ := get_some hk;unfold P_s9_Walk_L1;rw [if_pos (by omega), el_at hx, chk_pos (by omega), dup_eq hl (by omega), andx_some']
  have hb : onceAt books k ↔ ¬ x ∈ books.take k := ⟨fun g => g x hx, fun g y hy => by rw [hx] at hy; cases hy; exact g⟩
  by_cases g : x ∈ books.take k
  ·rw [if_pos g, if_pos (by decide), if_neg fun h => hb.1 h g]; rfl
  ·rw [if_neg g, if_neg (by decide), if_pos (hb.2 g), chk_pos (i64_small (by omega))]; rfl
 ·unfold P_s9_Walk_L1;rw [if_neg (by omega)]
open Classical in
theorem walk_light (hl : books.length ≤ 1000) (hr : ∀ x ∈ books, 0 ≤ x ∧ x < bs.length) : iter (P_s9_Walk_L3 bs books carry) 0 = some (scanX (fun i => if lightAt bs books carry i then none else some (([] : List Int), true, (0 : Int), (9 : Int))) books.length) := by
 refine iter_scanI (fun i => if lightAt bs books carry i then none else some (([] : List Int), true, (0 : Int), (9 : Int))) books.length (fun k hk _ => ?_) (fun _ => ?_)
 ·obtain ⟨x, hx⟩ := get_some hk
  have hxr := hr x (List.mem_of_getElem? hx);obtain ⟨b, hb⟩ := at_some hxr;unfold P_s9_Walk_L3;rw [if_pos (by omega), el_at hx, el_int hxr.1 hb]
  have hbb : lightAt bs books carry k ↔ b.heavy ≤ carry := ⟨fun g => g x b hx hb, fun g y c hy hc => by rw [hx] at hy; cases hy; rw [hb] at hc; cases hc; exact g⟩
  by_cases g : b.heavy > carry
  ·rw [if_pos g, if_neg fun h => by have := hbb.1 h; omega]; rfl
  ·rw [if_neg g, if_pos (hbb.2 (by omega)), chk_pos (i64_small (by omega))]; rfl
 ·unfold P_s9_Walk_L3;rw [if_neg (by omega)]
theorem places_of (h6 : ¬ books.length > 6) (h : ∀ j, j < books.length → btwAt 0 ((bs.length : Int) - 1) books j) : Places bs books := ⟨by omega, fun x hx => by
  obtain ⟨j, hj⟩ := List.getElem?_of_mem hx
  have := h j (List.getElem?_eq_some_iff.1 hj).1 x hj
  unfold btw at this
  omega⟩
theorem listE_zero (h : listE cl sh bs books carry = 0) : Fine cl sh bs ∧ Places bs books ∧ (1 ≤ carry ∧ carry ≤ 100) ∧ (∀ j, j < books.length → onceAt books j) ∧ ∀ j, j < books.length → lightAt bs books carry j := by
 unfold listE at h
 by_cases h0 : roomN cl sh bs = 0
 ·rw [if_pos h0] at h
  by_cases h6 : books.length > 6
  ·rw [if_pos h6] at h; cases h
  ·rw [if_neg h6] at h;split at h
   ·rename_i g1
    split at h
    ·rename_i g2
     split at h
     ·rename_i g3
      split at h
      ·rename_i g4
       exact ⟨roomN_zero.1 h0, places_of h6 g1, g3, g2, g4⟩
      ·cases h
     ·cases h
    ·cases h
   ·cases h
 ·rw [if_neg h0] at h; exact absurd h h0
open Classical in
theorem s9_Walk_eq : P_s9_Walk cl sh bs books carry = some (if listE cl sh bs books carry = 0 then ((encF (bestF sh bs books carry)).1, (encF (bestF sh bs books carry)).2.1, (encF (bestF sh bs books carry)).2.2.2, 0) else ([], true, 0, listE cl sh bs books carry)) := by
  unfold P_s9_Walk
  rw [s9_open_eq, andx_some']
  by_cases h0 : roomN cl sh bs = 0
  · rw [if_neg (not_not_intro h0)]
    have hF := roomN_zero.1 h0
    have h10 := hF.bs1
    by_cases h6 : books.length > 6
    · have hE : listE cl sh bs books carry = 3 := by unfold listE; rw [if_pos h0, if_pos h6]
      rw [if_pos (by omega), hE, if_neg (by decide)]
    · rw [if_neg (by omega), chk_pos (i64_small (by omega)), s9_out_eq _ _ _ (by omega), andx_some']
      by_cases g1 : ∀ j, j < books.length → btwAt 0 ((bs.length : Int) - 1) books j
      · have hP := places_of h6 g1
        rw [decide_eq_false (not_not_intro g1), if_neg (by decide), walk_once (by omega), seqx_scan]
        by_cases g2 : ∀ j, j < books.length → onceAt books j
        · have hfn : (List.range books.length).findSome? (fun i => if onceAt books i then none else some ((i : Int), (5 : Int))) = none := find_none fun j hj => if_pos (g2 j hj)
          rw [hfn]
          dsimp only
          rw [andx_some']
          dsimp only
          have hout : P_s9_out 1 100 [carry] = some (decide (¬ (1 ≤ carry ∧ carry ≤ 100))) := by
            rw [s9_out_eq _ _ _ (by simp)]
            refine congrArg some (decide_eq_decide.2 (not_congr ⟨fun h => h 0 (by simp) carry rfl, fun h j hj x hx => ?_⟩))
            have : j = 0 := by simpa using hj
            subst this
            have : carry = x := by simpa using hx
            subst this
            exact h
          rw [if_neg (not_not_intro rfl), hout, andx_some']
          by_cases g3 : 1 ≤ carry ∧ carry ≤ 100
          · rw [decide_eq_false (not_not_intro g3), if_neg (by decide), walk_light (by omega) hP.el, seqx_scan, find_if]
            by_cases g4 : ∀ j, j < books.length → lightAt bs books carry j
            · have hE : listE cl sh bs books carry = 0 := by unfold listE; rw [if_pos h0, if_neg h6, if_pos g1, if_pos g2, if_pos g3, if_pos g4]
              rw [if_pos g4, chk_pos (by omega), hE, if_pos rfl]
              have hw := walk_fold (carry := carry) hF hP (by omega) (walksOf books.length) none fun p hp => walks_part hp
              have hw' : foldx (P_s9_Walk_L4 cl sh bs books carry) (walksOf books.length) ([], true, false, 0) = some (.nx (encF (bestF sh bs books carry))) := hw
              dsimp only
              rw [hw', seqx_nx]
              rfl
            · have hE : listE cl sh bs books carry = 9 := by unfold listE; rw [if_pos h0, if_neg h6, if_pos g1, if_pos g2, if_pos g3, if_neg g4]
              rw [if_neg g4, hE, if_neg (by decide)]
          · have hE : listE cl sh bs books carry = 7 := by unfold listE; rw [if_pos h0, if_neg h6, if_pos g1, if_pos g2, if_neg g3]
            rw [decide_eq_true g3, if_pos rfl, hE, if_neg (by decide)]
        · have hE : listE cl sh bs books carry = 5 := by unfold listE; rw [if_pos h0, if_neg h6, if_pos g1, if_neg g2]
          rw [hE, if_neg (by decide)]
          cases hf : (List.range books.length).findSome? (fun i => if onceAt books i then none else some ((i : Int), (5 : Int))) with
          | none => exact absurd (fun j hj => Classical.byContradiction fun h => by
              have := of_find_none hf j hj
              rw [if_neg h] at this
              cases this) g2
          | some q =>
            obtain ⟨j, _, hj⟩ := List.exists_of_findSome?_eq_some hf
            by_cases e : onceAt books j
            · rw [if_pos e] at hj; cases hj
            · rw [if_neg e] at hj
              cases hj
              dsimp only
              rw [andx_some']
              dsimp only
              rw [if_pos (by decide)]
      · have hE : listE cl sh bs books carry = 4 := by unfold listE; rw [if_pos h0, if_neg h6, if_neg g1]
        rw [decide_eq_true g1, if_pos rfl, hE, if_neg (by decide)]
  · have hE : listE cl sh bs books carry = roomN cl sh bs := by unfold listE; rw [if_neg h0]
    rw [if_pos h0, hE, if_neg h0]
open Classical in
theorem r9_Walk_eq : P_r9_Walk cl sh bs books carry = some (if listE cl sh bs books carry = 0 then ((encF (bestF sh bs books carry)).1, (encF (bestF sh bs books carry)).2.2.2, 0) else ([], 0, listE cl sh bs books carry)) := by
 refine Ok.get ?_;unfold P_r9_Walk;rw [r9_Listed_eq, andx_some']
 by_cases h : listE cl sh bs books carry = 0
 ·obtain ⟨hF, hP, _⟩ := listE_zero h;obtain ⟨z, hz⟩ := numbered_walks (many := books.length) hP.len;rw [if_neg (not_not_intro h), if_pos h, hz, andx_some'];dsimp only;refine Ok.andx (ref_fold hF hP) ?_;rintro ⟨best, least⟩ ⟨h1, h2⟩;simp only at h1 h2;exact .some (by rw [h1, h2])
 ·rw [if_pos h, if_neg h];exact .some rfl
open Classical in
theorem best_len (h6 : books.length ≤ 6) : (encF (bestF sh bs books carry)).1.length ≤ 6 := by
 have key : ∀ (l : List (List Int × List Int)) (st : Option (List Int × Int)), (∀ p ∈ l, p.1.length ≤ 6) → (encF st).1.length ≤ 6 → (encF (l.foldl (stepF sh bs books carry) st)).1.length ≤ 6 := by
  intro l
  induction l with
  | nil => intro st _ h; exact h
  | cons p l ih =>
   intro st hl h;refine ih _ (fun q hq => hl q (by simp [hq])) ?_
   have hp := hl p (by simp);unfold stepF;split
   ·cases st with
    | none => exact hp
    | some q =>
     obtain ⟨t, n⟩ := q;dsimp only;split
     ·exact hp
     ·exact h
   ·exact h
 refine key _ none (fun p hp => ?_) (by decide)
 have := (walks_part hp).tl;omega
theorem ShelfWalks_true (cl : List Str) (sh : List qH) (bs : List qA) (books : List Int) (carry : Int) : P_law_ShelfWalks cl sh bs books carry = some true := by
 unfold P_law_ShelfWalks
 have h9 := s9_Walk_eq (cl := cl) (sh := sh) (bs := bs) (books := books) (carry := carry)
 have hr := r9_Walk_eq (cl := cl) (sh := sh) (bs := bs) (books := books) (carry := carry)
 by_cases h : listE cl sh bs books carry = 0
 ·obtain ⟨hF, hP, _⟩ := listE_zero h
  have hl := best_len (sh := sh) (bs := bs) (carry := carry) hP.len;rw [if_pos h] at h9 hr;rw [h9, andx_some'];dsimp only;rw [hr, andx_some'];dsimp only;rw [show (GSo (encF (bestF sh bs books carry)).2.1 encI (encF (bestF sh bs books carry)).1).l = (encF (bestF sh bs books carry)).1 from rfl, w1_Ints_refl (by omega), andx_some', if_pos rfl, if_pos rfl, if_pos rfl];rfl
 ·rw [if_neg h] at h9 hr;rw [h9, andx_some'];dsimp only;rw [hr, andx_some'];dsimp only;rw [show (GSo true encI ([] : List Int)).l = [] from rfl, w1_Ints_refl (by decide), andx_some', if_pos rfl, if_pos rfl, if_pos rfl];rfl
end
end Go.Am
end
