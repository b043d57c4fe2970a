/- Part 16. -/
import Derived.Test.YtiaolgbmbhldgaaGreatDoorDP2
import Derived.ChangeArms
import Derived.ChangeSlices
import Derived.OpenShut
import Derived.Test.YtiaolgbmbhldgaaGreatDoorDP12
import Derived.Test.YtiaolgbmbhldgaaGreatDoorRows
import Derived.ProofKit
import Derived.Test.YtiaolgbmbhldgaaGreatDoorDP13
import Derived.Test.YtiaolgbmbhldgaaGreatDoorDP14
section
namespace Go.Am
open Go.RowKit
def Lifts (P : Program) (t : TypeId) {α : Type} (e : En α) : Prop :=
 ∀ (H : Type) (enc : TypeId × Value → H) (W : World) (base : Nat) (held : Bool) (fuel : Nat) (cs : List Value) (x : DataW H × List MemPlace),
  DataW.trod enc P W base (fun _ => true) held fuel t cs = some x → ∃ a : α, RelL (snapR W 0) (e.f a) cs
theorem Lifts.int {P : Program} {t : TypeId} (ht : P.underlying t = some (.int .i64)) : Lifts P t encI := by
 intro H enc W base held fuel cs x hx;obtain ⟨n, rfl, _, _⟩ := DataW.trod_int ht hx;exact ⟨n, .cons (.lit _) (.nil _)⟩
theorem snap_cell {W : World} {b off : Nat} {v : Value} (h : W.cell? ⟨b, off, none⟩ = some v) : ∃ c, (snapR W 0).imm b = some c ∧ c[off]? = some v := by
 unfold World.cell? at h;split at h
 ·rename_i c _ _ hb
  simp at h;exact ⟨c, by simp only [snapR, snap, Nat.zero_le, if_true]; simp only [] at hb; rw [hb], h⟩
 ·cases h
theorem list_of {α : Type} {p : Nat → α → Prop} : ∀ n : Nat, (∀ i, i < n → ∃ a, p i a) → ∃ l : List α, l.length = n ∧ ∀ i a, l[i]? = some a → p i a := by
 intro n
 induction n with
 | zero => intro _; exact ⟨[], rfl, fun i a h => by simp at h⟩
 | succ n ih =>
  intro h;obtain ⟨l, h1, h2⟩ := ih fun i hi => h i (by omega)
  obtain ⟨a, ha⟩ := h n (by omega);refine ⟨l ++ [a], by simp [h1], fun i b hb => ?_⟩
  by_cases hi : i < l.length
  ·rw [List.getElem?_append_left hi] at hb; exact h2 i b hb
  ·rw [List.getElem?_append_right (by omega)] at hb
   have : i - l.length = 0 := by
    have := (List.getElem?_eq_some_iff.1 hb).1;simp at this; omega
   rw [this] at hb;simp at hb;subst hb
   have : i = n := by omega
   rw [this]; exact ha
theorem Lifts.slice {P : Program} {t e : TypeId} {α : Type} {en : En α} (ht : P.underlying t = some (.slice e)) (hu : P.cellsOf e = en.u) (h0 : 0 < en.u) (h : Lifts P e en) : Lifts P t (encSl en) := by
 intro H enc W base held fuel cs x hx
 rcases DataW.trod_slice ht hx with ⟨rfl, _⟩ | ⟨a, len, cap, elems, rest, n, _, rfl, _, hb, hl, _, hlen, hel, hsp, _⟩
 ·exact ⟨⟨nilS, [], .inl ⟨rfl, rfl, rfl⟩⟩, .cons (.lit _) (.nil _)⟩
 ·rw [hu] at hel hsp;obtain ⟨hrl, hr⟩ := hsp rfl
  by_cases hc : cap = 0
  ·subst hc
   have : len = 0 := by omega
   subst this;exact ⟨⟨.tree en.u 0 [], [], .inr ⟨rfl, by simp⟩⟩, .cons .tree0 (.nil _)⟩
  ·have hcell : ∀ i, i < len → ∃ (a' : α) (ci : List Value), W.cells? base (a.add (i * en.u)) en.u = some ci ∧ RelL (snapR W 0) (en.f a') ci := by
    intro i hi
    have he := hel i hi;rw [List.getElem?_eq_getElem (by omega)] at he;obtain ⟨ci, h1, h2⟩ := Option.bind_eq_some_iff.1 he;obtain ⟨a', h3⟩ := h _ _ _ _ _ _ _ _ h2;exact ⟨a', ci, h1, h3⟩
   have hspot : a.spot = none := by
    have : ∃ ci, W.cells? base (a.add (0 * en.u)) en.u = some ci := by
     by_cases hl0 : 0 < len
     ·obtain ⟨_, ci, h1, _⟩ := hcell 0 hl0;exact ⟨ci, h1⟩
     ·have hz : len = 0 := by omega
      have he := hr 0 (by omega);rw [List.getElem?_eq_getElem (by omega)] at he;obtain ⟨ci, h1, _⟩ := Option.bind_eq_some_iff.1 he;exact ⟨ci, by simpa [hz] using h1⟩
    obtain ⟨ci, h1⟩ := this;obtain ⟨_, h2, h3⟩ := World.cells?_some h1
    have h4 := h3 0 h0;rw [List.getElem?_eq_getElem (by omega)] at h4
    have := World.cell?_spot h4
    simpa [Addr.add] using this
   obtain ⟨b, off, sp⟩ := a;simp only at hspot;subst hspot;obtain ⟨l, hl1, hl2⟩ := list_of (p := fun i a' => ∃ ci : List Value, W.cells? base ((⟨b, off, none⟩ : Addr).add (i * en.u)) en.u = some ci ∧ RelL (snapR W 0) (en.f a') ci) len hcell
   have hfl : (l.flatMap en.f).length = len * en.u := by rw [flat_len, hl1]
   have each : ∀ j, j < len * en.u → ∃ v y c, (l.flatMap en.f)[j]? = some v ∧ (snapR W 0).imm b = some c ∧ c[off + j]? = some y ∧ RelV (snapR W 0) v y := by
    intro j hj
    have hi : j / en.u < l.length := by rw [hl1]; exact Nat.div_lt_of_lt_mul (by rw [Nat.mul_comm]; exact hj)
    have hk : j % en.u < en.u := Nat.mod_lt _ h0
    have hd : j / en.u * en.u + j % en.u = j := by rw [Nat.mul_comm]; exact Nat.div_add_mod j en.u
    obtain ⟨ci, h1, h2⟩ := hl2 _ _ (List.getElem?_eq_getElem hi);obtain ⟨_, h3, h4⟩ := World.cells?_some h1
    have h5 := h4 _ hk;rw [List.getElem?_eq_getElem (by omega)] at h5
    have h6 : ((⟨b, off, none⟩ : Addr).add (j / en.u * en.u)).add (j % en.u) = ⟨b, off + j, none⟩ := by
     simp only [addr_add]
     congr 1
     omega
    rw [h6] at h5;obtain ⟨c, h7, h8⟩ := snap_cell h5
    have hlen' := en.len l[j / en.u]
    have hv := List.getElem?_eq_getElem (l := en.f l[j / en.u]) (i := j % en.u) (by omega);refine ⟨_, _, c, ?_, h7, h8, h2.2 _ _ _ hv (List.getElem?_eq_getElem _)⟩
    have := flat_get (en := en) (List.getElem?_eq_getElem hi) hk;rw [hd] at this;rw [this, hv]
   refine ⟨⟨.tree en.u l.length (l.flatMap en.f), l, .inr ⟨rfl, by rw [hfl, hl1]⟩⟩, .cons ?_ (.nil _)⟩
   show RelV _ (.tree en.u l.length (l.flatMap en.f)) _;rw [hl1]
   by_cases hz : len * en.u = 0
   ·refine .tree (c := #[]) hfl hl (.inl (List.eq_nil_of_length_eq_zero (by omega))) fun i v x hv hx => by simp at hx
   ·obtain ⟨_, _, c, _, hc1, _, _⟩ := each (len * en.u - 1) (by omega);refine .tree (c := c) hfl hl (.inr ⟨hc1, ?_⟩) fun j v y hv hy => ?_
    ·obtain ⟨_, _, c', _, hc2, hc3, _⟩ := each (len * en.u - 1) (by omega);rw [hc1] at hc2;cases hc2
     have := (Array.getElem?_eq_some_iff.1 hc3).1;omega
    ·have hj := (List.getElem?_eq_some_iff.1 hv).1;obtain ⟨v', y', c', e1, e2, e3, e4⟩ := each j (by omega);rw [hc1] at e2;cases e2;rw [hv] at e1;rw [hy] at e3;cases e1;cases e3;exact e4
theorem RelL.glue {r : Ren} {a b : List AV} {cs : List Value} {n : Nat} (h1 : RelL r a (cs.take n)) (h2 : RelL r b (cs.drop n)) : RelL r (a ++ b) cs := by
 have := h1.append h2
 rwa [List.take_append_drop] at this
end Go.Am
end
section
namespace Go.Am
open Go.RowKit
def enPair {α β : Type} (a : En α) (b : En β) : En (α × β) := ⟨a.u + b.u, fun p => a.f p.1 ++ b.f p.2, fun p => by simp [a.len, b.len]⟩
theorem Lifts.map {P : Program} {t : TypeId} {α β : Type} {a : En α} {b : En β} (h : Lifts P t a) (hf : ∀ x, ∃ y, b.f y = a.f x) : Lifts P t b := by
 intro H enc W base held fuel cs x hx;obtain ⟨v, hv⟩ := h _ _ _ _ _ _ _ _ hx;obtain ⟨y, hy⟩ := hf v;exact ⟨y, by rw [hy]; exact hv⟩
theorem Lifts.arg {P : Program} {t : TypeId} {fs : Array Field} {α : Type} {en : En α} (hl : Lifts P t en) (ht : P.underlying t = some (.struct fs)) {W : World} {r : Reach} {b0 : Nat} {v : Value} (hval : Value.okWide P W r b0 t v)
  {H : Type} {enc : TypeId × Value → H} {base : Nat} {held : Bool} {d : DataW H} {ps : List MemPlace} (h : DataW.Trod enc P W base (fun _ => true) held t v d ps) : ∃ a, RelV (snapR W 0) (.agg (en.f a)) v := by
 simp only [Value.okWide, ht] at hval;obtain ⟨cs, rfl, _, _⟩ := hval;obtain ⟨fuel, hf⟩ := h;obtain ⟨a, ha⟩ := hl _ _ _ _ _ _ _ _ hf;exact ⟨a, by simpa [Value.cells] using RelV.agg ha.1 ha.2⟩
theorem Lifts.argS {P : Program} {t e : TypeId} {α : Type} {en : En α} (hl : Lifts P t (encSl en)) (ht : P.underlying t = some (.slice e)) {W : World} {r : Reach} {b0 : Nat} {v : Value} (hval : Value.okWide P W r b0 t v)
  {H : Type} {enc : TypeId × Value → H} {base : Nat} {held : Bool} {d : DataW H} {ps : List MemPlace} (h : DataW.Trod enc P W base (fun _ => true) held t v d ps) : ∃ g : GS en, RelV (snapR W 0) g.v v := by
 obtain ⟨fuel, hf⟩ := h;obtain ⟨a, ha⟩ := hl _ _ _ _ _ _ _ _ hf;refine ⟨a, ?_⟩;cases v with
 | agg cs => simp [Value.okWide, ht, Cell.okWide, Cell.ok] at hval
 | slice x y z => exact ha.2 0 _ _ rfl rfl
 | _ => simp [Value.okWide, ht, Cell.okWide, Cell.ok] at hval
end Go.Am
end
section
namespace Go.Am
open Go.RowKit
set_option linter.unusedVariables false
def encU16 : En UInt16 := ⟨1, fun b => [ivk .u16 (b.toNat : Int)], fun _ => rfl⟩
theorem Lifts.u8 {P : Program} {t : TypeId} (ht : P.underlying t = some (.int .u8)) : Lifts P t encU8 := by
 intro H enc W base held fuel cs x hx;obtain ⟨n, rfl, _, hw⟩ := DataW.trod_int ht hx
 have hw : 0 ≤ n ∧ n ≤ 255 := by
  have := Bool.and_eq_true_iff.1 hw;exact ⟨of_decide_eq_true this.1, of_decide_eq_true this.2⟩
 have e : ((UInt8.ofNat n.toNat).toNat : Int) = n := by rw [UInt8.toNat_ofNat']; omega
 refine ⟨UInt8.ofNat n.toNat, .cons ?_ (.nil _)⟩;rw [e];exact .lit _
theorem Lifts.u16 {P : Program} {t : TypeId} (ht : P.underlying t = some (.int .u16)) : Lifts P t encU16 := by
 intro H enc W base held fuel cs x hx;obtain ⟨n, rfl, _, hw⟩ := DataW.trod_int ht hx
 have hw : 0 ≤ n ∧ n ≤ 65535 := by
  have := Bool.and_eq_true_iff.1 hw;exact ⟨of_decide_eq_true this.1, of_decide_eq_true this.2⟩
 have e : ((UInt16.ofNat n.toNat).toNat : Int) = n := by rw [UInt16.toNat_ofNat']; omega
 refine ⟨UInt16.ofNat n.toNat, .cons ?_ (.nil _)⟩;rw [e];exact .lit _
end Go.Am
end
section
namespace Go.Am
open Go.RowKit
set_option linter.unusedVariables false
theorem Lifts.str {P : Program} {t : TypeId} (ht : P.underlying t = some .string) : Lifts P t encStr := by
 intro H enc W base held fuel cs x hx;obtain ⟨s, rfl, _, _⟩ := DataW.trod_string ht hx;refine ⟨s.data.toList, .cons ?_ (.nil _)⟩;exact .lit _
inductive Flds (P : Program) : List Field → Nat → {α : Type} → En α → Prop
 | one {f : Field} {off : Nat} {α : Type} {a : En α} (ho : f.offset = off) (hc : P.cellsOf f.type = a.u) (l : Lifts P f.type a) : Flds P [f] off a
 | cons {f : Field} {r : List Field} {off : Nat} {α β : Type} {a : En α} {b : En β} (ho : f.offset = off) (hc : P.cellsOf f.type = a.u) (l : Lifts P f.type a) (h : Flds P r (off + a.u) b) : Flds P (f :: r) off (enPair a b)
theorem Flds.run {P : Program} {H : Type} {enc : TypeId × Value → H} {W : World} {base : Nat} {held : Bool} {n : Nat} {cs : List Value} {fs : List Field} {off : Nat} {α : Type} {e : En α} (hf : Flds P fs off e)
  (h : ∀ (i : Nat) (f : Field), fs[i]? = some f → ∃ x, DataW.trod enc P W base (fun _ => true) held n f.type ((cs.drop f.offset).take (P.cellsOf f.type)) = some x) : ∃ x : α, RelL (snapR W 0) (e.f x) ((cs.drop off).take e.u) := by
 induction hf with
 | one ho hc l =>
  obtain ⟨x, hx⟩ := h 0 _ rfl;rw [ho, hc] at hx;exact l _ _ _ _ _ _ _ _ hx
 | @cons f r off α β a b ho hc l _ ih =>
  obtain ⟨x, hx⟩ := h 0 _ rfl;rw [ho, hc] at hx;obtain ⟨x0, r0⟩ := l _ _ _ _ _ _ _ _ hx;obtain ⟨x1, r1⟩ := ih fun i f hf => h (i + 1) f hf
  refine ⟨(x0, x1), ?_⟩
  show RelL _ _ ((cs.drop off).take (a.u + b.u));rw [List.take_add, List.drop_drop]
  have e1 := r0;exact RelL.append r0 r1
theorem Lifts.struct {P : Program} {t : TypeId} {fs : Array Field} {α : Type} {e : En α} (ht : P.underlying t = some (.struct fs)) (ct : P.cellsOf t = e.u) (hf : Flds P fs.toList 0 e) : Lifts P t e := by
 intro H enc W base held fuel cs x hx;obtain ⟨xs, n, _, _, hl, hn, h⟩ := DataW.trod_struct ht hx;obtain ⟨v, hv⟩ := hf.run (H := H) (enc := enc) (W := W) (base := base) (held := held) (n := n) (cs := cs) fun i f hi => by
  have hi' : fs[i]? = some f := by rw [← Array.getElem?_toList]; exact hi
  have hlt : i < xs.length := by rw [hn]; exact (Array.getElem?_eq_some_iff.1 hi').1
  exact ⟨xs[i], by rw [h i f hi', List.getElem?_eq_getElem hlt]⟩
 refine ⟨v, ?_⟩
 rwa [List.drop_zero, List.take_of_length_le (by omega)] at hv
theorem Lifts.arr3 {P : Program} {t e : TypeId} {α : Type} {a : En α} (ht : P.underlying t = some (.array 3 e)) (ce : P.cellsOf e = a.u) (ct : P.cellsOf t = a.u + (a.u + a.u)) (l : Lifts P e a) : Lifts P t (enPair a (enPair a a)) := by
 intro H enc W base held fuel cs x hx;obtain ⟨xs, n, _, _, hl, hn, h⟩ := DataW.trod_array ht hx
 have h0 := h 0 (by omega)
 have h1 := h 1 (by omega)
 have h2 := h 2 (by omega);rw [List.getElem?_eq_getElem (by omega), ce, Nat.zero_mul, List.drop_zero] at h0;rw [List.getElem?_eq_getElem (by omega), ce, Nat.one_mul] at h1;rw [List.getElem?_eq_getElem (by omega), ce, show 2 * a.u = a.u + a.u by omega, ← List.drop_drop, List.take_of_length_le (by simp; omega)] at h2;obtain ⟨x0, r0⟩ := l _ _ _ _ _ _ _ _ h0;obtain ⟨x1, r1⟩ := l _ _ _ _ _ _ _ _ h1;obtain ⟨x2, r2⟩ := l _ _ _ _ _ _ _ _ h2;exact ⟨(x0, x1, x2), .glue r0 (.glue r1 r2)⟩
theorem Lifts.arr2' {P : Program} {t e : TypeId} {α : Type} {a : En α} (ht : P.underlying t = some (.array 2 e)) (ce : P.cellsOf e = a.u) (ct : P.cellsOf t = a.u + a.u) (l : Lifts P e a) : Lifts P t (enPair a a) := by
 intro H enc W base held fuel cs x hx;obtain ⟨xs, n, _, _, hl, hn, h⟩ := DataW.trod_array ht hx
 have h0 := h 0 (by omega)
 have h1 := h 1 (by omega);rw [List.getElem?_eq_getElem (by omega), ce, Nat.zero_mul, List.drop_zero] at h0;rw [List.getElem?_eq_getElem (by omega), ce, Nat.one_mul, List.take_of_length_le (by simp; omega)] at h1;obtain ⟨x0, r0⟩ := l _ _ _ _ _ _ _ _ h0;obtain ⟨x1, r1⟩ := l _ _ _ _ _ _ _ _ h1;exact ⟨(x0, x1), .glue r0 r1⟩
end Go.Am
end
section
namespace Go.Am.YtiaolgbmbhldgaaGreatDoor
open Go.Am Go.RowKit Go.Proofs
theorem li_9 : Lifts Tryz.prog 9 encStr := .str Tryz.underlying9
theorem li_22 : Lifts Tryz.prog 22 (encSl encStr) := .slice Tryz.underlying22 (by kernel_rfl) (by decide) li_9
theorem li_3 : Lifts Tryz.prog 3 encI := .int Tryz.underlying3
theorem li_86 : Lifts Tryz.prog 86 (enPair encI (enPair encI (enPair encI encI))) := .struct Tryz.underlying86 (by kernel_rfl) (.cons rfl (by kernel_rfl) li_3 (.cons rfl (by kernel_rfl) li_3 (.cons rfl (by kernel_rfl) li_3 (.one rfl (by kernel_rfl) li_3))))
theorem lm_86 : Lifts Tryz.prog 86 qW := (li_86).map fun x => ⟨⟨x.1, x.2.1, x.2.2.1, x.2.2.2⟩, rfl⟩
theorem li_23 : Lifts Tryz.prog 23 (encSl qW) := .slice Tryz.underlying23 (by kernel_rfl) (by decide) lm_86
theorem li_28 : Lifts Tryz.prog 28 (enPair encI (enPair encI encStr)) := .struct Tryz.underlying28 (by kernel_rfl) (.cons rfl (by kernel_rfl) li_3 (.cons rfl (by kernel_rfl) li_3 (.one rfl (by kernel_rfl) li_9)))
theorem li_42 : Lifts Tryz.prog 42 (enPair (enPair encI (enPair encI encStr)) (enPair encI (enPair encI (enPair encI encI)))) := .struct Tryz.underlying42 (by kernel_rfl) (.cons rfl (by kernel_rfl) li_28 (.cons rfl (by kernel_rfl) li_3 (.cons rfl (by kernel_rfl) li_3 (.cons rfl (by kernel_rfl) li_3 (.one rfl (by kernel_rfl) li_3)))))
theorem lm_42 : Lifts Tryz.prog 42 qK := (li_42).map fun x => ⟨⟨x.1.1, x.1.2.1, x.1.2.2, x.2.1, x.2.2.1, x.2.2.2.1, x.2.2.2.2⟩, rfl⟩
theorem li_24 : Lifts Tryz.prog 24 (encSl qK) := .slice Tryz.underlying24 (by kernel_rfl) (by decide) lm_42
theorem li_26 : Lifts Tryz.prog 26 (enPair (encSl encStr) (enPair (encSl qW) (encSl qK))) := .struct Tryz.underlying26 (by kernel_rfl) (.cons rfl (by kernel_rfl) li_22 (.cons rfl (by kernel_rfl) li_23 (.one rfl (by kernel_rfl) li_24)))
theorem li_63 : Lifts Tryz.prog 63 (enPair (enPair encI (enPair encI encStr)) (enPair (enPair encI (enPair encI encStr)) (enPair encI (enPair encI encStr)))) := .arr3 Tryz.underlying63 (by kernel_rfl) (by kernel_rfl) li_28
theorem li_65 : Lifts Tryz.prog 65 encU16 := .u16 Tryz.underlying65
theorem li_5 : Lifts Tryz.prog 5 encU8 := .u8 Tryz.underlying5
theorem li_71 : Lifts Tryz.prog 71 (encSl encU8) := .slice Tryz.underlying71 (by kernel_rfl) (by decide) li_5
theorem li_83 : Lifts Tryz.prog 83 (enPair encU8 encU8) := .arr2' Tryz.underlying83 (by kernel_rfl) (by kernel_rfl) li_5
theorem li_84 : Lifts Tryz.prog 84 (enPair encU16 encU16) := .arr2' Tryz.underlying84 (by kernel_rfl) (by kernel_rfl) li_65
end Go.Am.YtiaolgbmbhldgaaGreatDoor
end
section
namespace Go.Am
set_option linter.unusedVariables false
set_option linter.unusedSimpArgs false
def upto (lo hi : Int) : List Int := (List.range (hi - lo).toNat).map fun i : Nat => lo + (i : Int)
theorem upto_nil {lo hi : Int} (h : hi ≤ lo) : upto lo hi = [] := by
 unfold upto; rw [show (hi - lo).toNat = 0 by omega]; rfl
theorem upto_succ {lo hi : Int} (h : lo ≤ hi) : upto lo (hi + 1) = upto lo hi ++ [hi] := by
 unfold upto;rw [show (hi + 1 - lo).toNat = (hi - lo).toNat + 1 by omega, List.range_succ, List.map_append]
 show _ ++ [lo + ((hi - lo).toNat : Int)] = _;rw [show lo + ((hi - lo).toNat : Int) = hi by omega]
theorem mem_upto {lo hi x : Int} : x ∈ upto lo hi ↔ lo ≤ x ∧ x < hi := by
 unfold upto;simp only [List.mem_map, List.mem_range];exact ⟨fun ⟨i, h1, h2⟩ => by omega, fun h => ⟨(x - lo).toNat, by omega, by omega⟩⟩
theorem upto_len {lo hi : Int} : (upto lo hi).length = (hi - lo).toNat := by simp [upto]
theorem upto_sorted {lo hi : Int} : (upto lo hi).Pairwise (· < ·) := by
 unfold upto;rw [List.pairwise_map];exact List.pairwise_lt_range.imp fun h => by omega
theorem iter_flat {α : Type} {body : Int × List α → Option (Stp (Int × List α) (List α))} {f : Int → List α} {lo hi : Int}
  (step : ∀ s, lo ≤ s → s < hi → body (s, (upto lo s).flatMap f) = some (.ag (s + 1, (upto lo s).flatMap f ++ f s)))
  (fin : ∀ s out, lo ≤ s → ¬ s < hi → body (s, out) = some (.dn out)) : iter body (lo, []) = some ((upto lo hi).flatMap f) := by
 have key : ∀ (m : Nat) (s : Int), lo ≤ s → (hi - s).toNat = m → iter body (s, (upto lo s).flatMap f) = some ((upto lo (max s hi)).flatMap f) := by
  intro m
  induction m with
  | zero =>
   intro s h1 h2;refine iter_eq.2 (.inr ?_);rw [fin s _ h1 (by omega), show max s hi = s by omega]
  | succ m ih =>
   intro s h1 h2;refine iter_eq.2 (.inl ⟨_, step s h1 (by omega), ?_⟩)
   have := ih (s + 1) (by omega) (by omega);rw [upto_succ h1, List.flatMap_append] at this;rw [show max s hi = max (s + 1) hi by omega]
   simpa using this
 have := key _ lo (Int.le_refl _) rfl;rw [upto_nil (Int.le_refl lo)] at this
 by_cases h : lo ≤ hi
 ·rw [show max lo hi = hi by omega] at this;exact this
 ·rw [show max lo hi = lo by omega, upto_nil (Int.le_refl lo)] at this;rw [upto_nil (by omega : hi ≤ lo)];exact this
theorem flat_le {α β : Type} {f : β → List α} {n : Nat} : ∀ {l : List β}, (∀ x ∈ l, (f x).length ≤ n) → (l.flatMap f).length ≤ l.length * n
 | [], _ => by simp
 | a :: r, h => by
  have h1 := h a (by simp)
  have h2 := flat_le (l := r) fun x hx => h x (by simp [hx])
  rw [List.flatMap_cons, List.length_append, List.length_cons, Nat.add_mul];omega
def lastI (b : List Int) : Int := match b.getLast? with | some x => x | none => 0
theorem lastI_snoc (b : List Int) (s : Int) : lastI (b ++ [s]) = s := by unfold lastI; rw [List.getLast?_concat]
def risingL (sh : Int) : Nat → List Int → List (List Int)
 | 0, b => [b]
 | k + 1, b => (upto (lastI b) sh).flatMap fun s => risingL sh k (b ++ [s])
theorem rising_len {sh : Int} (hs : sh ≤ 4) : ∀ (k : Nat) (b : List Int), 0 ≤ lastI b → (risingL sh k b).length ≤ 4 ^ k
 | 0, b, _ => Nat.le_refl _
 | k + 1, b, hb => by
  have h1 := flat_le (f := fun s => risingL sh k (b ++ [s])) (n := 4 ^ k) (l := upto (lastI b) sh) fun s hs' => rising_len hs k _ (by rw [lastI_snoc]; have := mem_upto.1 hs'; omega)
  rw [upto_len] at h1
  have h2 : (sh - lastI b).toNat * 4 ^ k ≤ 4 * 4 ^ k := Nat.mul_le_mul_right _ (by omega)
  show ((upto (lastI b) sh).flatMap fun s => risingL sh k (b ++ [s])).length ≤ 4 ^ (k + 1);rw [Nat.pow_succ];omega
theorem rising_eq {sh many : Int} (hs : sh ≤ 4) : ∀ (k fuel : Nat) (b : List Int), k < fuel → (b.length : Int) + k = many → b.length + k ≤ 11 → 0 ≤ lastI b → ∃ z, P_r9_rising_N fuel b many sh = some (risingL sh k b, z)
 | k, 0, b, hf, _, _, _ => by omega
 | 0, fuel + 1, b, hf, hm, hl, hb => by
  refine ⟨false, ?_⟩
  show P_r9_rising_B (P_r9_rising_N fuel) b many sh = _;unfold P_r9_rising_B;rw [if_pos (by omega)];rfl
 | k + 1, fuel + 1, b, hf, hm, hl, hb => by
  refine ⟨true, ?_⟩
  show P_r9_rising_B (P_r9_rising_N fuel) b many sh = _;unfold P_r9_rising_B;rw [if_neg (by omega)]
  have hlow : (if (b.length : Int) > 0 then chk (I64 ((b.length : Int) - 1)) (el b ((b.length : Int) - 1) fun a23 => some a23) else some 0) = some (lastI b) := by
   by_cases h0 : b.length = 0
   ·rw [if_neg (by omega), List.eq_nil_of_length_eq_zero h0]; rfl
   ·rw [if_pos (by omega), chk_pos (i64_small (by omega))];obtain ⟨a, ha⟩ := get_some (l := b) (k := b.length - 1) (by omega);rw [show (b.length : Int) - 1 = ((b.length - 1 : Nat) : Int) by omega, el_at ha];unfold lastI;rw [List.getLast?_eq_getElem?, ha]
  have hloop : iter (P_r9_rising_L1 b many sh (P_r9_rising_N fuel)) (lastI b, ([] : List (List Int))) = some ((upto (lastI b) sh).flatMap fun s => risingL sh k (b ++ [s])) := by
   refine iter_flat (f := fun s => risingL sh k (b ++ [s])) (fun s h1 h2 => ?_) (fun s out h1 h2 => ?_)
   ·unfold P_r9_rising_L1
    show (if s < sh then _ else _) = _;obtain ⟨z, hz⟩ := rising_eq (many := many) hs k fuel (b ++ [s]) (by omega) (by simp; omega) (by simp; omega) (by rw [lastI_snoc]; omega)
    have e1 := rising_len hs k (b ++ [s]) (by rw [lastI_snoc]; omega)
    have e2 := flat_le (f := fun s => risingL sh k (b ++ [s])) (n := 4 ^ k) (l := upto (lastI b) s) fun x hx => rising_len hs k _ (by rw [lastI_snoc]; have := mem_upto.1 hx; omega)
    rw [upto_len] at e2
    have e3 : (s - lastI b).toNat * 4 ^ k ≤ 4 * 4 ^ k := Nat.mul_le_mul_right _ (by omega)
    have e4 : 4 ^ k ≤ 4 ^ 11 := Nat.pow_le_pow_right (by decide) (by omega)
    have e5 : (4 : Nat) ^ 11 = 4194304 := by decide
    rw [if_pos h2, chk_pos (by simp; omega), chk_pos (by simp; omega)]
    show andx (P_r9_rising_N fuel (b ++ [s]) many sh) _ = _;rw [hz]
    show chk _ (chk _ _) = _;rw [chk_pos (by omega), chk_pos (i64_small (by omega))]
   ·unfold P_r9_rising_L1
    show (if s < sh then _ else _) = _;rw [if_neg h2]
  rw [hlow]
  show andx (iter _ _) _ = _;rw [hloop];rfl
theorem mem_rising {sh : Int} : ∀ (k : Nat) (b l : List Int), l ∈ risingL sh k b ↔ ∃ t, l = b ++ t ∧ t.length = k ∧ (lastI b :: t).Pairwise (· ≤ ·) ∧ ∀ x ∈ t, x < sh
 | 0, b, l => by
  show l ∈ [b] ↔ _;rw [List.mem_singleton];refine ⟨fun h => ⟨[], by simp [h], rfl, by simp, by simp⟩, fun ⟨t, h1, h2, _⟩ => ?_⟩;rw [List.eq_nil_of_length_eq_zero h2] at h1
  simpa using h1
 | k + 1, b, l => by
  show l ∈ (upto (lastI b) sh).flatMap _ ↔ _;rw [List.mem_flatMap]
  constructor
  ·rintro ⟨s, hs, hl⟩;obtain ⟨t, rfl, h2, h3, h4⟩ := (mem_rising k _ _).1 hl;rw [lastI_snoc] at h3
   have hs' := mem_upto.1 hs;obtain ⟨h5, h6⟩ := List.pairwise_cons.1 h3;refine ⟨s :: t, by simp, by simp [h2], List.pairwise_cons.2 ⟨fun x hx => ?_, h3⟩, fun x hx => ?_⟩
   ·rcases List.mem_cons.1 hx with rfl | hx
    ·exact hs'.1
    ·have := h5 x hx; omega
   ·rcases List.mem_cons.1 hx with rfl | hx
    ·exact hs'.2
    ·exact h4 x hx
  ·rintro ⟨t, rfl, h2, h3, h4⟩;cases t with
   | nil => simp at h2
   | cons s t =>
    obtain ⟨h5, h6⟩ := List.pairwise_cons.1 h3;exact ⟨s, mem_upto.2 ⟨h5 s (by simp), h4 s (by simp)⟩, (mem_rising k _ _).2 ⟨t, by simp, by simpa using h2, by rw [lastI_snoc]; exact h6, fun x hx => h4 x (by simp [hx])⟩⟩
theorem lexB_append : ∀ (b x y : List Int), lexB (b ++ x) (b ++ y) = lexB x y
 | [], _, _ => rfl
 | a :: b, x, y => by
  show lexB (a :: (b ++ x)) (a :: (b ++ y)) = _;rw [lexB, if_pos rfl, lexB_append b x y]
theorem rising_order {sh : Int} : ∀ (k : Nat) (b : List Int), (risingL sh k b).Pairwise fun x y => lexB x y = true
 | 0, b => by simp [risingL]
 | k + 1, b => by
  show ((upto (lastI b) sh).flatMap _).Pairwise _;rw [List.pairwise_flatMap];refine ⟨fun s _ => rising_order k _, upto_sorted.imp fun {s s'} h x hx y hy => ?_⟩;obtain ⟨t, rfl, _⟩ := (mem_rising k _ _).1 hx;obtain ⟨t', rfl, _⟩ := (mem_rising k _ _).1 hy;rw [List.append_assoc, List.append_assoc, lexB_append]
  show lexB (s :: t) (s' :: t') = true;rw [lexB, if_neg (by omega)];exact decide_eq_true h
end Go.Am
end
section
namespace Go.Am
set_option linter.unusedVariables false
set_option linter.unusedSimpArgs false
def FirstMin (all : List (List Int)) (m : List Int → Option Int) (k : Nat) (best : Nat) (least : Int) (found : Bool) : Prop :=
 (found = false ∧ ∀ j l, j < k → all[j]? = some l → m l = none) ∨
 (found = true ∧ best < k ∧ ∃ l, all[best]? = some l ∧ m l = some least ∧ ∀ j l' n', j < k → all[j]? = some l' → m l' = some n' → least ≤ n' ∧ (j < best → least < n'))
section
variable {all : List (List Int)} {m : List Int → Option Int} {k best : Nat} {least n : Int} {found : Bool} {l : List Int}
theorem FirstMin.zero : FirstMin all m 0 best least false := .inl ⟨rfl, fun j l h => by omega⟩
theorem FirstMin.none (h : FirstMin all m k best least found) (hl : all[k]? = some l) (hm : m l = none) : FirstMin all m (k + 1) best least found := by
 rcases h with ⟨h1, h2⟩ | ⟨h1, h2, l0, h3, h4, h5⟩
 ·refine .inl ⟨h1, fun j l' hj hl' => ?_⟩
  by_cases e : j = k
  ·subst e; rw [hl] at hl'; cases hl'; exact hm
  ·exact h2 j l' (by omega) hl'
 ·refine .inr ⟨h1, by omega, l0, h3, h4, fun j l' n' hj hl' hn' => ?_⟩
  by_cases e : j = k
  ·subst e; rw [hl] at hl'; cases hl'; rw [hm] at hn'; cases hn'
  ·exact h5 j l' n' (by omega) hl' hn'
theorem FirstMin.better (h : FirstMin all m k best least found) (hl : all[k]? = some l) (hm : m l = some n) (hb : found = false ∨ n < least) : FirstMin all m (k + 1) k n true := by
 refine .inr ⟨rfl, by omega, l, hl, hm, fun j l' n' hj hl' hn' => ?_⟩
 by_cases e : j = k
 ·subst e; rw [hl] at hl'; cases hl'; rw [hm] at hn'; cases hn'; exact ⟨by omega, fun h => by omega⟩
 ·rcases h with ⟨h1, h2⟩ | ⟨h1, h2, l0, h3, h4, h5⟩
  ·rw [h2 j l' (by omega) hl'] at hn'; cases hn'
  ·rcases hb with hb | hb
   ·rw [h1] at hb; cases hb
   ·have := h5 j l' n' (by omega) hl' hn';exact ⟨by omega, fun _ => by omega⟩
theorem FirstMin.worse (h : FirstMin all m k best least true) (hl : all[k]? = some l) (hm : m l = some n) (hb : ¬ n < least) : FirstMin all m (k + 1) best least true := by
 rcases h with ⟨h1, h2⟩ | ⟨h1, h2, l0, h3, h4, h5⟩
 ·cases h1
 ·refine .inr ⟨rfl, by omega, l0, h3, h4, fun j l' n' hj hl' hn' => ?_⟩
  by_cases e : j = k
  ·subst e; rw [hl] at hl'; cases hl'; rw [hm] at hn'; cases hn'; exact ⟨by omega, fun h => by omega⟩
  ·exact h5 j l' n' (by omega) hl' hn'
theorem lexB_irr : ∀ l : List Int, lexB l l = false
 | [] => rfl
 | a :: r => by rw [lexB, if_pos rfl]; exact lexB_irr r
theorem lexB_asym : ∀ l l' : List Int, lexB l l' = true → lexB l' l = false
 | [], [], h => by cases h
 | [], b :: s, _ => rfl
 | a :: r, [], h => by cases h
 | a :: r, b :: s, h => by
  rw [lexB] at h ⊢
  by_cases e : a = b
  ·rw [if_pos e] at h; rw [if_pos e.symm]; exact lexB_asym r s h
  ·rw [if_neg e] at h; rw [if_neg fun h => e h.symm]
   have := of_decide_eq_true h;exact decide_eq_false (by omega)
theorem lexB_tot : ∀ l l' : List Int, l.length = l'.length → lexB l l' = false → lexB l' l = false → l = l'
 | [], [], _, _, _ => rfl
 | [], b :: s, h, _, _ => by simp at h
 | a :: r, [], h, _, _ => by simp at h
 | a :: r, b :: s, h, h1, h2 => by
  rw [lexB] at h1 h2
  by_cases e : a = b
  ·rw [if_pos e] at h1; rw [if_pos e.symm] at h2;rw [e, lexB_tot r s (by simpa using h) h1 h2]
  ·rw [if_neg e] at h1; rw [if_neg fun h => e h.symm] at h2
   have := of_decide_eq_false h1
   have := of_decide_eq_false h2;omega
theorem FirstMin.fin (h : FirstMin all m all.length best least found) (ho : all.Pairwise fun x y => lexB x y = true) :
  (found = false ∧ ∀ l ∈ all, m l = Option.none) ∨ (found = true ∧ nelL all best ∈ all ∧ m (nelL all best) = some least ∧ ∀ l' n', l' ∈ all → m l' = some n' → least ≤ n' ∧ (n' = least → lexB l' (nelL all best) = false)) := by
 rcases h with ⟨h1, h2⟩ | ⟨h1, h2, l0, h3, h4, h5⟩
 ·refine .inl ⟨h1, fun l hl => ?_⟩;obtain ⟨j, hj⟩ := List.getElem?_of_mem hl;exact h2 j l (List.getElem?_eq_some_iff.1 hj).1 hj
 ·refine .inr ⟨h1, ?_⟩;rw [nelL_of h3];refine ⟨List.mem_of_getElem? h3, h4, fun l' n' hl' hn' => ?_⟩;obtain ⟨j, hj⟩ := List.getElem?_of_mem hl'
  have hjl := (List.getElem?_eq_some_iff.1 hj).1;obtain ⟨g1, g2⟩ := h5 j l' n' hjl hj hn';refine ⟨g1, fun e => ?_⟩
  rcases Nat.lt_trichotomy j best with hlt | heq | hgt
  ·have := g2 hlt; omega
  ·subst heq;rw [h3] at hj; cases hj;exact lexB_irr _
  ·have h2' : best < all.length := (List.getElem?_eq_some_iff.1 h3).1
   have := List.pairwise_iff_getElem.1 ho best j h2' hjl hgt
   have e1 : all[best] = l0 := Option.some.inj ((List.getElem?_eq_getElem h2').symm.trans h3)
   have e2 : all[j] = l' := Option.some.inj ((List.getElem?_eq_getElem hjl).symm.trans hj);rw [e1, e2] at this;exact lexB_asym _ _ this
end
theorem w1_Has_eq {l : List Int} {n : Int} (hl : l.length ≤ 1000) : P_w1_Has l n = some (decide (n ∈ l)) := by
 unfold P_w1_Has;rw [iter_scanI (fun i => if l[i]? = some n then some true else none) l.length, seqx_scan]
 ·cases hf : (List.range l.length).findSome? (fun i => if l[i]? = some n then some true else none) with
  | none =>
   have := of_find_none hf;refine congrArg some (decide_eq_false fun hm => ?_).symm;obtain ⟨j, hj⟩ := List.getElem?_of_mem hm
   have h2 := this j (List.getElem?_eq_some_iff.1 hj).1;rw [if_pos hj] at h2;cases h2
  | some b =>
   obtain ⟨j, _, hj⟩ := List.exists_of_findSome?_eq_some hf
   by_cases e : l[j]? = some n
   ·rw [if_pos e] at hj;cases hj;exact congrArg some (decide_eq_true (List.mem_of_getElem? e)).symm
   ·rw [if_neg e] at hj; cases hj
 ·intro k hk _;obtain ⟨a, ha⟩ := get_some hk;unfold P_w1_Has_L1;rw [if_pos (by omega), el_at ha, chk_pos (i64_small (by omega)), ha]
  by_cases e : a = n
  ·rw [if_pos e, if_pos (by rw [e])]; rfl
  ·rw [if_neg e, if_neg (fun h => e (Option.some.inj h))]; rfl
 ·intro _;unfold P_w1_Has_L1;rw [if_neg (by omega)]
section
variable {cl : List Str} {sh : List qH} {bs books : List qA} {but clear : Int}
def RiseIn (n m : Nat) (l : List Int) : Prop := l.length = n ∧ l.Pairwise (· ≤ ·) ∧ ∀ x ∈ l, 0 ≤ x ∧ x < (m : Int)
theorem mem_rising0 {n m : Nat} {l : List Int} : l ∈ risingL m n [] ↔ RiseIn n m l := by
 rw [mem_rising]
 constructor
 ·rintro ⟨t, rfl, h2, h3, h4⟩;obtain ⟨h5, h6⟩ := List.pairwise_cons.1 h3;exact ⟨h2, h6, fun x hx => ⟨h5 x hx, h4 x hx⟩⟩
 ·rintro ⟨h1, h2, h3⟩;exact ⟨l, rfl, h1, List.pairwise_cons.2 ⟨fun x hx => (h3 x hx).1, h2⟩, fun x hx => (h3 x hx).2⟩
noncomputable def costF (sh : List qH) (books : List qA) (but clear : Int) (l : List Int) : Option Int :=
 open Classical in if ¬ clear ∈ l ∧ Arr sh books l then some (movedN books l 0 but) else none
structure FewB (sh : List qH) (books : List qA) (but clear : Int) (l : List Int) (n : Int) : Prop where
 rise : RiseIn books.length sh.length l
 ok : costF sh books but clear l = some n
 least : ∀ l' n', RiseIn books.length sh.length l' → costF sh books but clear l' = some n' → n ≤ n' ∧ (n' = n → lexB l' l = false)
theorem FewB.unique {l l' : List Int} {n n' : Int} (h : FewB sh books but clear l n) (h' : FewB sh books but clear l' n') : l = l' ∧ n = n' := by
 have h1 := h.least l' n' h'.rise h'.ok
 have h2 := h'.least l n h.rise h.ok
 have e : n = n' := by omega
 exact ⟨lexB_tot l l' (by rw [h.rise.1, h'.rise.1]) (h2.2 e) (h1.2 e.symm), e⟩
def FewRes (sh : List qH) (books : List qA) (but clear : Int) (r : List Int × Int × Bool) : Prop :=
 (r.2.2 = false ∧ ∀ l, RiseIn books.length sh.length l → costF sh books but clear l = none) ∨ (r.2.2 = true ∧ FewB sh books but clear r.1 r.2.1)
open Classical in
theorem Fewest_ok (hsh : sh.length ≤ 4) (hb : Wides books) (hl : books.length ≤ 11) : Ok (P_r9_Fewest cl sh bs books but clear) (FewRes sh books but clear) := by
 unfold P_r9_Fewest;obtain ⟨z, hz⟩ := rising_eq (sh := (sh.length : Int)) (many := (books.length : Int)) (by omega) books.length 100 [] (by omega) (by simp) (by simpa using hl) (Int.le_refl _)
 have hz' : P_r9_rising [] (books.length : Int) (sh.length : Int) = some (risingL sh.length books.length [], z) := hz;rw [hz']
 show Ok (andx (iter _ _) _) _
 have hlen := rising_len (sh := (sh.length : Int)) (by omega) books.length [] (Int.le_refl _)
 have hmem : ∀ l, l ∈ risingL sh.length books.length [] ↔ RiseIn books.length sh.length l := fun l => mem_rising0
 have hord := rising_order (sh := (sh.length : Int)) books.length [];generalize hall : risingL (sh.length : Int) books.length [] = all at hlen hmem hord ⊢
 have e4 : 4 ^ books.length ≤ 4 ^ 11 := Nat.pow_le_pow_right (by decide) (by omega)
 have e5 : (4 : Nat) ^ 11 = 4194304 := by decide
 refine Ok.andx (P := fun x => FirstMin all (costF sh books but clear) all.length x.1 x.2.1 x.2.2) ?_ ?_
 ·refine Ok.count (fun x : Nat × Int × Bool × Int => x.2.2.2) all.length (fun k x => FirstMin all (costF sh books but clear) k x.1 x.2.1 x.2.2.1) rfl FirstMin.zero ?_ ?_
  ·rintro k ⟨best, least, found, i⟩ hk hx hI;simp only at hx hI;subst hx;obtain ⟨l, hlk⟩ := get_some hk
   have hR := (hmem l).1 (List.mem_of_getElem? hlk)
   have e1 : nelL all (Int.toNat (k : Int)) = l := nelL_of (by simpa using hlk);unfold P_r9_Fewest_L1
   show Ok (if _ then _ else _) _;rw [if_pos (by omega), chk_pos (by omega), chk_pos (by omega), chk_pos (by omega), e1, w1_Has_eq (by rw [hR.1]; omega)]
   show Ok (andx (seqx (andx (if decide (clear ∈ l) = true then _ else _) _) _) _) _
   have hcnt : I64 ((k : Int) + 1) := i64_small (by omega)
   by_cases hc : clear ∈ l
   ·have hm : costF sh books but clear l = none := if_neg fun h => h.1 hc
    rw [if_pos (decide_eq_true hc)]
    show Ok (chk _ _) _;rw [chk_pos hcnt];exact .some ⟨rfl, hI.none hlk hm⟩
   ·rw [if_neg (by rw [decide_eq_false hc]; decide), r9_Arranged_eq (by omega) hb (by omega) hR.1]
    show Ok (andx (seqx (if (!decide (Arr sh books l)) = true then _ else _) _) _) _
    by_cases ha : Arr sh books l
    ·have hm : costF sh books but clear l = some (movedN books l 0 but) := if_pos ⟨hc, ha⟩;rw [if_neg (by rw [decide_eq_true ha]; decide)]
     show Ok (andx (andx (P_r9_Moved books l but) _) _) _;rw [r9_Moved_eq (by omega) hR.1];cases found with
     | false =>
      show Ok (andx (chk _ _) _) _;rw [chk_pos (by omega)]
      show Ok (chk _ _) _;rw [chk_pos hcnt];exact .some ⟨rfl, by simpa using hI.better hlk hm (.inl rfl)⟩
     | true =>
      show Ok (andx (if decide (movedN books l 0 but < least) = true then _ else _) _) _
      by_cases hlt : movedN books l 0 but < least
      ·rw [if_pos (decide_eq_true hlt), chk_pos (by omega)]
       show Ok (chk _ _) _;rw [chk_pos hcnt];exact .some ⟨rfl, by simpa using hI.better hlk hm (.inr hlt)⟩
      ·rw [if_neg (by rw [decide_eq_false hlt]; decide)]
       show Ok (chk _ _) _;rw [chk_pos hcnt];exact .some ⟨rfl, hI.worse hlk hm hlt⟩
    ·have hm : costF sh books but clear l = none := if_neg fun h => ha h.2
     rw [if_pos (by rw [decide_eq_false ha]; rfl)]
     show Ok (chk _ _) _;rw [chk_pos hcnt];exact .some ⟨rfl, hI.none hlk hm⟩
  ·rintro ⟨best, least, found, i⟩ hx hI;simp only at hx hI;subst hx;unfold P_r9_Fewest_L1
   show Ok (if _ then _ else _) _;rw [if_neg (by omega)];exact .some hI
 ·rintro ⟨best, least, found⟩ hI;refine .some ?_
  rcases (show FirstMin all _ _ _ _ _ from hI).fin hord with ⟨h1, h2⟩ | ⟨h1, h2, h3, h4⟩
  ·exact .inl ⟨h1, fun l hR => h2 l ((hmem l).2 hR)⟩
  ·exact .inr ⟨h1, (hmem _).1 h2, h3, fun l' n' hR hn => h4 l' n' ((hmem l').2 hR) hn⟩
end
end Go.Am
end
section
namespace Go.Am
set_option linter.unusedVariables false
set_option linter.unusedSimpArgs false
section
variable {sh : List qH} {mv mv' : Int → Int → Int} {books : List qA} {a0 : qH} {but clear : Int}
theorem stand_arr' {ls : List Nat} (h0 : sh[0]? = some a0) :
  Stand sh mv books 0 0 a0.wide ls ↔ (ls.length = books.length ∧ (∀ n ∈ ls, n < sh.length) ∧ Arr sh books (intsOf ls)) ∧ ∀ (j n : Nat), ls[j]? = some n → mv j n ≠ 1000 := by
 have cap : ∀ (n : Nat) (a : qH), sh[n]? = some a → capAt a n 0 a0.wide = a.wide := fun n a ha => by
  unfold capAt
  by_cases e : n = 0
  ·subst e; rw [h0] at ha; cases ha; rw [if_pos rfl]
  ·rw [if_neg e]
 refine ⟨fun h => ⟨⟨h.len, fun n hn => (h.from_ n hn).2, (up_iff ls).2 h.up, fun s a ha => ?_⟩, fun j n hj => by have := h.may j n hj; rwa [Nat.zero_add] at this⟩, fun ⟨⟨h1, h2, h3, h4⟩, h5⟩ => ⟨h1, fun n hn => ⟨Nat.zero_le _, h2 n hn⟩, (up_iff ls).1 h3, fun n a ha _ => ?_, fun j n hj => by rw [Nat.zero_add]; exact h5 j n hj⟩⟩
 ·obtain ⟨r1, r2⟩ := h.room s a ha (Nat.zero_le _);rw [cap s a ha] at r1;exact ⟨r2, r1⟩
 ·obtain ⟨r1, r2⟩ := h4 n a ha;rw [cap n a ha];exact ⟨r2, r1⟩
theorem cost_congr : ∀ (ls : List Nat) (k : Nat), (∀ (j n : Nat), ls[j]? = some n → mv ((k + j : Nat) : Int) n = mv' ((k + j : Nat) : Int) n) → cost mv k ls = cost mv' k ls
 | [], _, _ => rfl
 | n :: ls, k, h => by
  have h0 := h 0 n rfl
  have ih := cost_congr ls (k + 1) fun j n hj => by
   have := h (j + 1) n (by simpa using hj)
   rwa [show k + (j + 1) = k + 1 + j by omega] at this
  rw [Nat.add_zero] at h0;unfold cost;rw [h0, ih]
theorem rise_nat {l : List Int} {n m : Nat} (h : RiseIn n m l) : ∃ ls : List Nat, l = intsOf ls ∧ ls.length = n ∧ (∀ x ∈ ls, x < m) ∧ ls.Pairwise (· ≤ ·) := by
 refine ⟨l.map Int.toNat, ?_, by simp [h.1], fun x hx => ?_, ?_⟩
 ·unfold intsOf;rw [List.map_map]
  have : l.map ((fun n : Nat => (n : Int)) ∘ Int.toNat) = l.map id := List.map_congr_left fun x hx => by
   have := h.2.2 x hx
   show ((x.toNat : Nat) : Int) = x;omega
  rw [this, List.map_id]
 ·obtain ⟨y, hy, rfl⟩ := List.mem_map.1 hx
  have := h.2.2 y hy;omega
 ·rw [List.pairwise_map];exact h.2.1.imp fun h => by omega
theorem rise_of {ls : List Nat} {m : Nat} (h2 : ∀ n ∈ ls, n < m) (h3 : ls.Pairwise (· ≤ ·)) : RiseIn ls.length m (intsOf ls) := by
 refine ⟨intsOf_len ls, ?_, fun x hx => ?_⟩
 ·unfold intsOf;rw [List.pairwise_map];exact h3.imp fun h => by omega
 ·obtain ⟨n, hn, rfl⟩ := List.mem_map.1 hx
  have := h2 n hn;omega
structure Counts (mv : Int → Int → Int) (n m : Nat) (books : List qA) (but clear : Int) : Prop where
 low : ∀ i k, 0 ≤ mv i k
 no : ∀ (i k : Nat), i < n → k < m → (k : Int) = clear → mv i k = 1000
 own : ∀ (i k : Nat), i < n → k < m → (k : Int) ≠ clear → mv i k = ownMv books but i k
theorem best_few (hc : Counts mv books.length sh.length books but clear) (h0 : sh[0]? = some a0) (hw : Wides books) (h11 : books.length ≤ 11) (hsh : ∀ (n : Nat) (a : qH), sh[n]? = some a → 0 ≤ a.wide) :
  ((bestW sh mv books 0 0 a0.wide).1 < 1000 → FewB sh books but clear (bestW sh mv books 0 0 a0.wide).2 (bestW sh mv books 0 0 a0.wide).1) ∧
  (¬ (bestW sh mv books 0 0 a0.wide).1 < 1000 → ∀ l, RiseIn books.length sh.length l → costF sh books but clear l = none) := by
 have hB := bestW_spec (sh := sh) hc.low books 0 0 a0.wide;generalize bestW sh mv books 0 0 a0.wide = w at hB
 have hfs : ∀ ls, feas sh mv books 0 0 a0.wide ls ↔ (ls.length = books.length ∧ (∀ n ∈ ls, n < sh.length) ∧ Arr sh books (intsOf ls)) ∧ ∀ (j n : Nat), ls[j]? = some n → mv j n ≠ 1000 := fun ls =>
  (feas_stand hsh books 0 0 a0.wide ls hw (hsh 0 a0 h0)).trans (stand_arr' h0)
 have key : ∀ ls : List Nat, ls.length = books.length → (∀ n ∈ ls, n < sh.length) →
   ((∀ (j n : Nat), ls[j]? = some n → mv j n ≠ 1000) ↔ ¬ clear ∈ intsOf ls) ∧ (¬ clear ∈ intsOf ls → cost mv 0 ls = movedN books (intsOf ls) 0 but) := by
  intro ls h1 h2;refine ⟨⟨fun h hm => ?_, fun h j n hj e => ?_⟩, fun h => ?_⟩
  ·obtain ⟨n, hn, e⟩ := List.mem_map.1 hm;obtain ⟨j, hj⟩ := List.getElem?_of_mem hn
   have hjl := (List.getElem?_eq_some_iff.1 hj).1;exact h j n hj (hc.no j n (by omega) (h2 n hn) e)
  ·have hjl := (List.getElem?_eq_some_iff.1 hj).1
   have hn := List.mem_of_getElem? hj
   by_cases e2 : (n : Int) = clear
   ·exact h (List.mem_map.2 ⟨n, hn, e2⟩)
   ·have e3 := hc.own j n (by omega) (h2 n hn) e2
    have := ownMv_rng (books := books) but (j : Int) (n : Int);omega
  ·have : cost mv 0 ls = cost (ownMv books but) 0 ls := cost_congr ls 0 fun j n hj => by
    have hjl := (List.getElem?_eq_some_iff.1 hj).1
    have hn := List.mem_of_getElem? hj;rw [Nat.zero_add];exact hc.own j n (by omega) (h2 n hn) fun e => h (List.mem_map.2 ⟨n, hn, e⟩)
   rw [this, cost_moved 0 ls (by omega)];rfl
 have all : ∀ l n, RiseIn books.length sh.length l → costF sh books but clear l = some n → ∃ ls, l = intsOf ls ∧ feas sh mv books 0 0 a0.wide ls ∧ cost mv 0 ls = n := by
  intro l n hR hn;unfold costF at hn;split at hn
  ·rename_i hok
   obtain ⟨ls, rfl, h1, h2, h3⟩ := rise_nat hR;obtain ⟨k1, k2⟩ := key ls h1 h2;refine ⟨ls, rfl, (hfs ls).2 ⟨⟨h1, h2, hok.2⟩, k1.2 hok.1⟩, ?_⟩;rw [k2 hok.1];exact Option.some.inj hn
  ·cases hn
 have lim : ∀ l : List Int, movedN books l 0 but < 1000 := fun l => by
  have := movedN_bound books l 0 but;omega
 refine ⟨fun hlt => ?_, fun hnl l hR => ?_⟩
 ·obtain ⟨ls, e1, e2, e3⟩ := hB.found hlt;obtain ⟨⟨h1, h2, h3⟩, h4⟩ := (hfs ls).1 e2;obtain ⟨k1, k2⟩ := key ls h1 h2
  have hcl := k1.1 h4;refine ⟨?_, ?_, fun l' n' hR' hn' => ?_⟩
  ·rw [e1, ← h1];exact rise_of h2 ((up_iff ls).1 h3.1)
  ·unfold costF;rw [e1, if_pos ⟨hcl, h3⟩, ← k2 hcl, e3]
  ·obtain ⟨ls', rfl, f1, f2⟩ := all l' n' hR' hn'
   have hlt' : cost mv 0 ls' < 1000 := by
    unfold costF at hn';split at hn'
    ·have := lim (intsOf ls')
     have := Option.some.inj hn';omega
    ·cases hn'
   obtain ⟨g1, g2⟩ := hB.least ls' f1 hlt';exact ⟨by omega, fun e => g2 (by omega)⟩
 ·cases hn : costF sh books but clear l with
  | none => rfl
  | some n =>
   obtain ⟨ls, rfl, f1, f2⟩ := all l n hR hn
   have hlt' : cost mv 0 ls < 1000 := by
    unfold costF at hn;split at hn
    ·have := lim (intsOf ls)
     have := Option.some.inj hn;omega
    ·cases hn
   have := (hB.least ls f1 hlt').1;omega
end
end Go.Am
end
section
namespace Go.Am
set_option linter.unusedVariables false
set_option linter.unusedSimpArgs false
section
variable {cl : List Str} {sh : List qH} {bs books : List qA} {but clear : Int}
theorem own_eq {i : Nat} {n : Int} (hi : i < books.length) : P_s9_own cl sh books i n = some (ownMv books (-1) i n) := by
 obtain ⟨b, hb⟩ := get_some hi;unfold P_s9_own ownMv;rw [el_at hb, if_neg (show ¬ (i : Int) = -1 by omega)];simp only [Int.toNat_natCast, hb];split <;> rfl
def cntF (books : List qA) (but clear : Int) (i n : Int) : Int := if n = clear then 1000 else ownMv books but i n
theorem arrange_ok {F : Int → Int → Option Int} (hF : ∀ i n : Nat, i < books.length → n < sh.length → F i n = some (cntF books but clear i n)) (hs : 1 ≤ sh.length ∧ sh.length ≤ 4) (hw : Wides books) (h11 : books.length ≤ 11)
    (hsh : ∀ (n : Nat) (a : qH), sh[n]? = some a → 0 ≤ a.wide ∧ a.wide ≤ 2000) :
    ∃ m l, P_s9_arrange sh books F = some (m, l) ∧ ((m < 1000 ∧ FewB sh books but clear (l.take books.length) m) ∨ (¬ m < 1000 ∧ ∀ l, RiseIn books.length sh.length l → costF sh books but clear l = none)) := by
  obtain ⟨a0, ha0⟩ := get_some (l := sh) (k := 0) (by omega)
  have hv : ∀ i n : Nat, i < books.length → n < sh.length → mvOf F i n = cntF books but clear i n := fun i n hi hn => mvOf_of (hF i n hi hn) (by
    unfold cntF
    have := ownMv_rng (books := books) but (i : Int) (n : Int)
    split <;> omega)
  have hc : Counts (mvOf F) books.length sh.length books but clear := ⟨fun i n => (mvOf_rng F i n).1, fun i n hi hn e => by rw [hv i n hi hn]; unfold cntF; rw [if_pos e], fun i n hi hn e => by rw [hv i n hi hn]; unfold cntF; rw [if_neg e]⟩
  have hok : ArrOk sh books F := ⟨⟨h11, by omega⟩, fun b hb => by have := hw b hb; omega, fun a ha => by
      obtain ⟨j, hj⟩ := List.getElem?_of_mem ha
      have := hsh j a hj
      omega, fun i n hi hn => by rw [hF i n hi hn, hv i n hi hn]⟩
  have hb := best_few hc ha0 hw h11 fun n a ha => (hsh n a ha).1
  refine ⟨(wayOf sh books F a0).1, arrW 0 (wayOf sh books F a0), ?_, ?_⟩
  · unfold P_s9_arrange
    rw [show el sh 0 = el sh ((0 : Nat) : Int) from rfl, el_at ha0, chk_pos hok]
  · by_cases hlt : (wayOf sh books F a0).1 < 1000
    · have h1 := hb.1 hlt
      refine .inl ⟨hlt, ?_⟩
      have e : (arrW 0 (wayOf sh books F a0)).take books.length = (wayOf sh books F a0).2 := by
        unfold arrW
        rw [if_pos hlt]
        have : (wayOf sh books F a0).2.length = books.length := h1.rise.1
        rw [List.replicate_zero, List.nil_append, ← this, List.take_left]
      rw [e]
      exact h1
    · exact .inr ⟨hlt, hb.2 hlt⟩
end
section
variable {cl : List Str} {sh : List qH} {bs books : List qA} {b : qA}
open Classical in
theorem furE_zero (h : furE cl sh bs b = 0) : Fine cl sh bs ∧ (1 ≤ b.wide ∧ b.wide ≤ 2000) ∧ (1 ≤ b.high ∧ b.high ≤ 2000) ∧ mkErr cl.length b.qP b.qQ b.qO = 0 ∧ Rises bs ∧ ¬ twice bs b.qP b.qQ b.qO := by
 unfold furE at h
 by_cases h0 : roomN cl sh bs = 0
 ·rw [if_pos h0] at h
  by_cases h1 : bkErr1 cl.length b.qP b.qQ b.qO b.wide b.high b.heavy bs = 0
  ·rw [if_pos h1] at h
   by_cases h2 : Rises bs
   ·refine ⟨roomN_zero.1 h0, ?_⟩;unfold bkErr1 at h1
    by_cases g : mkErr cl.length b.qP b.qQ b.qO = 0
    ·rw [if_pos g] at h1
     by_cases g2 : bkRange b.wide b.high b.heavy
     ·rw [if_pos g2] at h1
      by_cases g3 : twice bs b.qP b.qQ b.qO
      ·rw [if_pos g3] at h1; cases h1
      ·exact ⟨g2.1, g2.2.1, g, h2, g3⟩
     ·rw [if_neg g2] at h1; cases h1
    ·rw [if_neg g] at h1; exact absurd h1 g
   ·rw [if_neg h2] at h; cases h
  ·rw [if_neg h1] at h; exact absurd h h1
 ·rw [if_neg h0] at h; exact absurd h h0
theorem inserted_len : (insertedB bs b).length = bs.length + 1 := by
 have := place_le bs b;unfold insertedB;simp only [List.length_append, List.length_take, List.length_cons, List.length_drop];omega
theorem inserted_wides (h : Fine cl sh bs) (hb : 1 ≤ b.wide ∧ b.wide ≤ 2000) : Wides (insertedB bs b) := fun c hc => by
 unfold insertedB at hc
 rcases List.mem_append.1 hc with hc | hc
 ·exact h.wides c (List.mem_of_mem_take hc)
 ·rcases List.mem_cons.1 hc with rfl | hc
  ·exact hb
  ·exact h.wides c (List.mem_of_mem_drop hc)
theorem Fine.shw (h : Fine cl sh bs) (n : Nat) (a : qH) (ha : sh[n]? = some a) : 0 ≤ a.wide ∧ a.wide ≤ 2000 := by
 have := (h.shelf ha).2.1;unfold btw at this;omega
def PutIs (cl : List Str) (sh : List qH) (bs : List qA) (b : qA) (r : Int × Int × List Int × Int) : Prop :=
 (furE cl sh bs b ≠ 0 ∧ r = (0, 0, [], furE cl sh bs b)) ∨ (furE cl sh bs b = 0 ∧ bs.length = 10 ∧ r = (0, 0, [], 3)) ∨
 (furE cl sh bs b = 0 ∧ bs.length ≠ 10 ∧ (∀ l, RiseIn (bs.length + 1) sh.length l → costF sh (insertedB bs b) (place bs b) (-1) l = none) ∧ r = (0, 0, [], 9)) ∨
 (furE cl sh bs b = 0 ∧ bs.length ≠ 10 ∧ ∃ l n, FewB sh (insertedB bs b) (place bs b) (-1) l n ∧ r = ((place bs b : Int), n, l, 0))
theorem few_none {but clear : Int} {l : List Int} {n : Int} (h : FewB sh books but clear l n) (h' : ∀ l, RiseIn books.length sh.length l → costF sh books but clear l = none) : False := by
 have := h' l h.rise;rw [h.ok] at this;cases this
theorem PutIs.unique {r r' : Int × Int × List Int × Int} (h : PutIs cl sh bs b r) (h' : PutIs cl sh bs b r') : r = r' := by
  have hl := inserted_len (bs := bs) (b := b)
  rcases h with ⟨a1, a2⟩ | ⟨a1, a2, a3⟩ | ⟨a1, a2, a3, a4⟩ | ⟨a1, a2, l, n, a3, a4⟩ <;> rcases h' with ⟨b1, b2⟩ | ⟨b1, b2, b3⟩ | ⟨b1, b2, b3, b4⟩ | ⟨b1, b2, l', n', b3, b4⟩ <;>
    first
    | (exfalso; omega)
    | (rw [a2, b2]; done)
    | (rw [a3, b3]; done)
    | (rw [a4, b4]; done)
    | skip
  · exact (few_none b3 (by rw [hl]; exact a3)).elim
  · exact (few_none a3 (by rw [hl]; exact b3)).elim
  · obtain ⟨e1, e2⟩ := a3.unique b3
    rw [a4, b4, e1, e2]
theorem r9_Put_ok : Ok (P_r9_Put cl sh bs b.qP b.qQ b.qO b.wide b.high b.heavy b.shelf) (PutIs cl sh bs b) := by
 unfold P_r9_Put;rw [r9_Further_eq, andx_some']
 by_cases h : furE cl sh bs b = 0
 ·obtain ⟨hF, hw, hh, hm, hr, ht⟩ := furE_zero h
  have hl := inserted_len (bs := bs) (b := b)
  have h10 := hF.bs1;rw [if_pos h, andx_some']
  by_cases g : bs.length = 10
  ·rw [decide_eq_true (show (bs.length : Int) = 10 by omega)];exact .some (.inr (.inl ⟨h, g, rfl⟩))
  ·rw [decide_eq_false (show ¬ (bs.length : Int) = 10 by omega), if_neg (by decide), andx_some', if_neg (not_not_intro h), r9_With_eq hF.marks.shorts (markOk_bound hm).2.2.1 (by omega), andx_some'];refine Ok.andx (Fewest_ok (by have := hF.sh1; omega) (inserted_wides hF hw) (by omega)) ?_;rintro ⟨l, n, f⟩ hres
   rcases hres with ⟨h1, h2⟩ | ⟨h1, h2⟩
   ·simp only at h1;subst h1;refine .some (.inr (.inr (.inl ⟨h, g, ?_, rfl⟩)));rw [← hl]; exact h2
   ·simp only at h1;subst h1;exact .some (.inr (.inr (.inr ⟨h, g, l, n, h2, rfl⟩)))
 ·rw [if_neg h, andx_some']
  show Ok (andx (some _) _) _;rw [andx_some', if_pos h];exact .some (.inl ⟨h, rfl⟩)
theorem s9_Put_ok : Ok (P_s9_Put cl sh bs b.qP b.qQ b.qO b.wide b.high b.heavy b.shelf) fun r => PutIs cl sh bs b (r.1, r.2.1, r.2.2.1, r.2.2.2.2) := by
  unfold P_s9_Put
  rw [show (⟨b.qP, b.qQ, b.qO, b.wide, b.high, b.heavy, b.shelf⟩ : qA) = b from rfl, s9_enter_eq, andx_some']
  by_cases h : furE cl sh bs b = 0
  · obtain ⟨hF, hw, hh, hm, hr, ht⟩ := furE_zero h
    have hl := inserted_len (bs := bs) (b := b)
    have h10 := hF.bs1
    rw [if_pos h]
    show Ok (if _ then _ else _) _
    rw [if_neg (by decide)]
    by_cases g : bs.length = 10
    · rw [if_pos (show (bs.length : Int) = 10 by omega)]
      exact .some (.inr (.inl ⟨h, g, rfl⟩))
    · rw [if_neg (show ¬ (bs.length : Int) = 10 by omega)]
      obtain ⟨m, l, e1, e2⟩ := arrange_ok (sh := sh) (books := insertedB bs b) (but := (place bs b : Int)) (clear := -1) (F := fun i_ n_ => P_s9_Put1 i_ n_ (place bs b : Int) cl sh (insertedB bs b)) (fun i n hi hn => by
        unfold P_s9_Put1 cntF
        rw [if_neg (show ¬ (n : Int) = -1 by omega)]
        by_cases e : (i : Int) = (place bs b : Int)
        · rw [if_pos e]; unfold ownMv; rw [if_pos e]
        · rw [if_neg e, own_eq hi, andx_some']
          unfold ownMv
          rw [if_neg e, if_neg (show ¬ (i : Int) = -1 by omega)]) hF.sh1 (inserted_wides hF hw) (by omega) hF.shw
      rw [e1, andx_some']
      dsimp only
      rcases e2 with ⟨h1, h2⟩ | ⟨h1, h2⟩
      · rw [if_neg (by omega), chk_pos (by omega)]
        rw [Int.toNat_natCast]
        exact .some (.inr (.inr (.inr ⟨h, g, _, _, h2, rfl⟩)))
      · rw [if_pos (by omega)]
        refine .some (.inr (.inr (.inl ⟨h, g, ?_, rfl⟩)))
        rw [← hl]; exact h2
  · rw [if_neg h]
    show Ok (if _ then _ else _) _
    rw [if_pos h]
    exact .some (.inl ⟨h, rfl⟩)
end
end Go.Am
end
section
namespace Go.Am
set_option linter.unusedVariables false
set_option linter.unusedSimpArgs false
theorem el_int {α β : Type} {l : List α} {x : Int} {a : α} {g : α → Option β} (h0 : 0 ≤ x) (ha : l[x.toNat]? = some a) : el l x g = g a := by
 unfold el;rw [if_pos h0, ha]
section
variable {cl : List Str} {sh : List qH} {bs books : List qA} {s : Int}
end
end Go.Am
end
section
namespace Go.Am
set_option linter.unusedVariables false
set_option linter.unusedSimpArgs false
section
variable {cl : List Str} {sh : List qH} {bs books : List qA} {s : Int}
theorem pair_at {R : Int → Int → Prop} {l : List Int} {i j : Nat} {x y : Int} (h : l.Pairwise R) (hij : i < j) (hx : l[i]? = some x) (hy : l[j]? = some y) : R x y := by
 obtain ⟨h1, e1⟩ := List.getElem?_eq_some_iff.1 hx;obtain ⟨h2, e2⟩ := List.getElem?_eq_some_iff.1 hy;rw [← e1, ← e2];exact List.pairwise_iff_getElem.1 h i j h1 h2 hij
end
end Go.Am
end
section
namespace Go.Am
set_option linter.unusedVariables false
set_option linter.unusedSimpArgs false
section
variable {cl : List Str} {sh : List qH} {bs books : List qA} {s : Int}
theorem PutIs.len {b : qA} {r : Int × Int × List Int × Int} (h : PutIs cl sh bs b r) : r.2.2.1.length ≤ 11 := by
 rcases h with ⟨_, rfl⟩ | ⟨_, _, rfl⟩ | ⟨_, _, _, rfl⟩ | ⟨hz, _, l, n, h, rfl⟩
 ·exact Nat.zero_le _
 ·exact Nat.zero_le _
 ·exact Nat.zero_le _
 ·have h2 := h.rise.1
  have h3 := inserted_len (bs := bs) (b := b)
  have h4 := (furE_zero hz).1.bs1;simp only;omega
end
end Go.Am
end
section
namespace Go.Am
set_option linter.unusedVariables false
set_option linter.unusedSimpArgs false
section
variable {cl : List Str} {sh : List qH} {bs books : List qA} {b : qA}
theorem inserted_at : (insertedB bs b)[place bs b]? = some b := by
 have := place_le bs b;unfold insertedB;rw [List.getElem?_append_right (by simp; omega)];simp [show place bs b - min (place bs b) bs.length = 0 by omega]
theorem inserted_ne {i : Nat} {c : qA} (hi : i ≠ place bs b) (h : (insertedB bs b)[i]? = some c) : c ∈ bs := by
 have := place_le bs b;unfold insertedB at h
 by_cases hlt : i < place bs b
 ·rw [List.getElem?_append_left (by simp; omega)] at h;exact List.mem_of_mem_take (List.mem_of_getElem? h)
 ·rw [List.getElem?_append_right (by simp; omega)] at h
  have hm : min (place bs b) bs.length = place bs b := by omega
  rw [List.length_take, hm, show i - place bs b = (i - place bs b - 1) + 1 by omega, List.getElem?_cons_succ] at h;exact List.mem_of_mem_drop (List.mem_of_getElem? h)
def ownAt (books : List qA) (at_ : Nat) (s : Int) : List Int := (books.map (·.shelf)).set at_ s
theorem ownAt_len {a : Nat} {s : Int} : (ownAt books a s).length = books.length := by simp [ownAt]
theorem ownAt_get {a i : Nat} {s : Int} {c : qA} (h : books[i]? = some c) : (ownAt books a s)[i]? = some (if i = a then s else c.shelf) := by
 unfold ownAt;rw [List.getElem?_set]
 have hi := (List.getElem?_eq_some_iff.1 h).1
 by_cases e : a = i
 ·subst e;rw [if_pos rfl, if_pos (by simpa using hi), if_pos rfl]
 ·rw [if_neg e, if_neg fun h => e h.symm, List.getElem?_map, h];rfl
theorem arr_run {F : Int → Int → Option Int} {a0 : qH} (ha0 : sh[0]? = some a0) (hF : ∀ i n : Nat, i < books.length → n < sh.length → ∃ v, F i n = some v ∧ 0 ≤ v ∧ v ≤ 1000) (hs : sh.length ≤ 4) (hw : Wides books) (h11 : books.length ≤ 11)
    (hsh : ∀ (n : Nat) (a : qH), sh[n]? = some a → 0 ≤ a.wide ∧ a.wide ≤ 2000) : P_s9_arrange sh books F = some ((wayOf sh books F a0).1, arrW 0 (wayOf sh books F a0)) := by
  have hok : ArrOk sh books F := ⟨⟨h11, by omega⟩, fun b hb => by have := hw b hb; omega, fun a ha => by
      obtain ⟨j, hj⟩ := List.getElem?_of_mem ha
      have := hsh j a hj
      omega, fun i n hi hn => by
      obtain ⟨v, h1, h2, h3⟩ := hF i n hi hn
      rw [mvOf_of h1 ⟨h2, h3⟩, h1]⟩
  unfold P_s9_arrange
  rw [show el sh 0 = el sh ((0 : Nat) : Int) from rfl, el_at ha0, chk_pos hok]
theorem fits_key {F : Int → Int → Option Int} {o : List Int} {a0 : qH} (ha0 : sh[0]? = some a0) (ho : o.length = books.length) (hF : ∀ i n : Nat, i < books.length → n < sh.length → F i n = some (if o[i]? = some (n : Int) then 0 else 1000))
  (hr : ∀ x ∈ o, 0 ≤ x ∧ x < (sh.length : Int)) (hw : Wides books) (h11 : books.length ≤ 11) (hsh : ∀ (n : Nat) (a : qH), sh[n]? = some a → 0 ≤ a.wide ∧ a.wide ≤ 2000) :
  ((wayOf sh books F a0).1 = 0 ∧ arrW 0 (wayOf sh books F a0) = o ++ List.replicate (11 - books.length) 0) ↔ Arr sh books o := by
 have hB := bestW_spec (sh := sh) (fun i n => (mvOf_rng F i n).1) books 0 0 a0.wide
 have hmv : ∀ i n : Nat, i < books.length → n < sh.length → mvOf F i n = if o[i]? = some (n : Int) then 0 else 1000 := fun i n hi hn => mvOf_of (hF i n hi hn) (by split <;> omega)
 have hfs : ∀ ls, feas sh (mvOf F) books 0 0 a0.wide ls ↔ (ls.length = books.length ∧ (∀ n ∈ ls, n < sh.length) ∧ Arr sh books (intsOf ls)) ∧ ∀ (j n : Nat), ls[j]? = some n → mvOf F j n ≠ 1000 := fun ls =>
  (feas_stand (fun n a ha => (hsh n a ha).1) books 0 0 a0.wide ls hw (hsh 0 a0 ha0).1).trans (stand_arr' ha0)
 have huniq : ∀ ls : List Nat, ls.length = books.length → (∀ n ∈ ls, n < sh.length) → (∀ (j n : Nat), ls[j]? = some n → mvOf F j n ≠ 1000) → intsOf ls = o := by
  intro ls h1 h2 h3;refine List.ext_getElem? fun j => ?_
  unfold intsOf;rw [List.getElem?_map];cases hj : ls[j]? with
  | none =>
   have := List.getElem?_eq_none_iff.1 hj;rw [List.getElem?_eq_none (by omega)];rfl
  | some n =>
   have hjl := (List.getElem?_eq_some_iff.1 hj).1
   have h4 := h3 j n hj;rw [hmv j n (by omega) (h2 n (List.mem_of_getElem? hj))] at h4
   by_cases e : o[j]? = some (n : Int)
   ·rw [e]; rfl
   ·rw [if_neg e] at h4; exact absurd rfl h4
 have hlow := hB.low
 have hfound : (bestW sh (mvOf F) books 0 0 a0.wide).1 < 1000 → (bestW sh (mvOf F) books 0 0 a0.wide).2 = o ∧ Arr sh books o := fun hlt => by
  obtain ⟨ls, e1, e2, e3⟩ := hB.found hlt;obtain ⟨⟨h1, h2, h3⟩, h4⟩ := (hfs ls).1 e2
  have e := huniq ls h1 h2 h4;rw [e1];exact ⟨e, by rw [e] at h3; exact h3⟩
 unfold wayOf;refine ⟨fun ⟨h1, h2⟩ => (hfound (by omega)).2, fun h => ?_⟩
 have hls : intsOf (o.map Int.toNat) = o := by
  unfold intsOf;rw [List.map_map]
  have : o.map ((fun n : Nat => (n : Int)) ∘ Int.toNat) = o.map id := List.map_congr_left fun x hx => by
   have := hr x hx
   show ((x.toNat : Nat) : Int) = x;omega
  rw [this, List.map_id]
 have hzero : ∀ (j n : Nat), (o.map Int.toNat)[j]? = some n → mvOf F j n = 0 := fun j n hj => by
  rw [List.getElem?_map, Option.map_eq_some_iff] at hj;obtain ⟨x, hx, rfl⟩ := hj
  have hxr := hr x (List.mem_of_getElem? hx)
  have hjl := (List.getElem?_eq_some_iff.1 hx).1;rw [hmv j x.toNat (by omega) (by omega), if_pos (by rw [hx]; congr 1; omega)]
 have hfe : feas sh (mvOf F) books 0 0 a0.wide (o.map Int.toNat) := by
  refine (hfs _).2 ⟨⟨by simp [ho], fun n hn => ?_, by rw [hls]; exact h⟩, fun j n hj => by rw [hzero j n hj]; decide⟩;obtain ⟨x, hx, rfl⟩ := List.mem_map.1 hn
  have := hr x hx;omega
 have hcost : ∀ (ls : List Nat) (k : Nat), (∀ (j n : Nat), ls[j]? = some n → mvOf F ((k + j : Nat) : Int) n = 0) → cost (mvOf F) k ls = 0 := by
  intro ls
  induction ls with
  | nil => intro k _; rfl
  | cons n ls ih =>
   intro k hk
   have h0 := hk 0 n rfl;rw [Nat.add_zero] at h0
   have h1 := ih (k + 1) fun j m hj => by
    have := hk (j + 1) m (by simpa using hj)
    rwa [show k + (j + 1) = k + 1 + j by omega] at this
   unfold cost;rw [h0, h1];rfl
 have hc := hcost (o.map Int.toNat) 0 fun j n hj => by rw [Nat.zero_add]; exact hzero j n hj
 have hle := (hB.least _ hfe (by omega)).1
 have h0 : (bestW sh (mvOf F) books 0 0 a0.wide).1 = 0 := by omega
 refine ⟨h0, ?_⟩;unfold arrW;rw [if_pos (by omega), (hfound (by omega)).1, List.replicate_zero, List.nil_append, ho]
theorem filter_flat {α : Type} {p : α → Prop} [DecidablePred p] : ∀ l : List α, (l.flatMap fun s => if p s then [s] else []) = l.filter fun s => decide (p s)
 | [] => rfl
 | a :: r => by
  rw [List.flatMap_cons, filter_flat r]
  by_cases h : p a
  ·rw [if_pos h, List.filter_cons_of_pos (by simpa using h)]; rfl
  ·rw [if_neg h, List.filter_cons_of_neg (by simpa using h)]; rfl
open Classical in
noncomputable def fitSel (sh : List qH) (bs : List qA) (b : qA) : List Int := (upto 0 sh.length).filter fun s => decide (Arr sh (insertedB bs b) (ownAt (insertedB bs b) (place bs b) s))
def FitsIs (cl : List Str) (sh : List qH) (bs : List qA) (b : qA) (r : List Int × Int) : Prop :=
 (furE cl sh bs b ≠ 0 ∧ r = ([], furE cl sh bs b)) ∨ (furE cl sh bs b = 0 ∧ r = (fitSel sh bs b, 0))
theorem FitsIs.unique {r r' : List Int × Int} (h : FitsIs cl sh bs b r) (h' : FitsIs cl sh bs b r') : r = r' := by
 rcases h with ⟨a1, a2⟩ | ⟨a1, a2⟩ <;> rcases h' with ⟨b1, b2⟩ | ⟨b1, b2⟩
 ·rw [a2, b2]
 ·exact absurd b1 a1
 ·exact absurd a1 b1
 ·rw [a2, b2]
open Classical in
theorem flat_prefix {n : Nat} {s : Int} {p : Int → Prop} (h0 : 0 ≤ s) (hs : s ≤ n) : ((upto 0 s).flatMap fun s => if p s then [s] else []).length ≤ n := by
 have := flat_le (f := fun s => if p s then [s] else []) (n := 1) (l := upto 0 s) fun x _ => by split <;> simp
 rw [upto_len] at this;omega
open Classical in
theorem r9_Fits_ok : Ok (P_r9_Fits cl sh bs b.qP b.qQ b.qO b.wide b.high b.heavy b.shelf) (FitsIs cl sh bs b) := by
 unfold P_r9_Fits;rw [r9_Further_eq, andx_some']
 by_cases h : furE cl sh bs b = 0
 ·obtain ⟨hF, hw, hh, hm, hr, ht⟩ := furE_zero h
  have hl := inserted_len (bs := bs) (b := b)
  have h10 := hF.bs1
  have hsh := hF.sh1;rw [if_neg (not_not_intro h), r9_With_eq hF.marks.shorts (markOk_bound hm).2.2.1 (by omega), andx_some'];dsimp only
  have key : iter (P_r9_Fits_L1 cl sh bs (insertedB bs b) (place bs b : Int)) (0, []) = some ((upto 0 sh.length).flatMap fun s => if Arr sh (insertedB bs b) (ownAt (insertedB bs b) (place bs b) s) then [s] else []) := by
   refine iter_flat (fun s h1 h2 => ?_) (fun s out h1 h2 => ?_)
   ·unfold P_r9_Fits_L1
    show (if _ then _ else _) = _
    have hpre := flat_prefix (n := sh.length) (p := fun s => Arr sh (insertedB bs b) (ownAt (insertedB bs b) (place bs b) s)) h1 (by omega);generalize hout : ((upto 0 s).flatMap fun s => if Arr sh (insertedB bs b) (ownAt (insertedB bs b) (place bs b) s) then [s] else []) = out at hpre ⊢
    have hat : ((insertedB bs b).map (·.shelf))[place bs b]? = some b.shelf := by rw [List.getElem?_map, inserted_at]; rfl
    rw [if_pos h2, r9_Own_eq (by omega), andx_some', el_at hat, Int.toNat_natCast]
    show andx (andx (P_r9_Arranged cl sh bs (insertedB bs b) (ownAt (insertedB bs b) (place bs b) s)) _) _ = _;rw [r9_Arranged_eq (by omega) (inserted_wides hF hw) (by omega) ownAt_len, andx_some']
    by_cases ha : Arr sh (insertedB bs b) (ownAt (insertedB bs b) (place bs b) s)
    ·rw [if_pos (decide_eq_true ha), if_pos ha, chk_pos (by simp; omega), andx_some', chk_pos (i64_small (by omega))]
    ·rw [if_neg (by rw [decide_eq_false ha]; decide), if_neg ha, andx_some', chk_pos (i64_small (by omega)), List.append_nil]
   ·unfold P_r9_Fits_L1
    show (if _ then _ else _) = _;rw [if_neg h2]
  rw [key, andx_some', filter_flat];exact .some (.inr ⟨h, rfl⟩)
 ·rw [if_pos h];exact .some (.inl ⟨h, rfl⟩)
theorem own_loop (h11 : books.length ≤ 11) : iter (P_s9_Fits_L4 books) (0, List.replicate 11 (0 : Int)) = some (books.map (·.shelf) ++ List.replicate (11 - books.length) 0) := by
 refine Ok.get ?_;refine Ok.count (fun (x : Int × List Int) => x.1) books.length (fun k x => x.2 = (books.take k).map (·.shelf) ++ List.replicate (11 - k) 0) rfl rfl ?_ ?_
 ·rintro k ⟨i, own⟩ hk hx hI;simp only at hx hI;subst hx; subst hI;obtain ⟨c, hc⟩ := get_some hk
  have hl1 : ((books.take k).map (·.shelf)).length = k := by simp; omega
  have hlen : ((books.take k).map (·.shelf) ++ List.replicate (11 - k) (0 : Int)).length = 11 := by simp; omega
  obtain ⟨x, hx⟩ := get_some (l := (books.take k).map (·.shelf) ++ List.replicate (11 - k) (0 : Int)) (k := k) (by omega);unfold P_s9_Fits_L4
  show Ok (if _ then _ else _) _;rw [if_pos (by omega), el_at hc, chk_pos (by rw [hlen]; rfl), el_at hx, chk_pos (i64_small (by omega)), Int.toNat_natCast];refine .some ⟨rfl, ?_⟩
  show ((books.take k).map (·.shelf) ++ List.replicate (11 - k) (0 : Int)).set k c.shelf = _;rw [take_step hc, List.map_append, List.set_append_right _ _ (by omega), hl1, Nat.sub_self, show 11 - k = (11 - (k + 1)) + 1 by omega, List.replicate_succ, List.set_cons_zero];simp
 ·rintro ⟨i, own⟩ hx hI;simp only at hx hI;subst hx; subst hI;unfold P_s9_Fits_L4
  show Ok (if _ then _ else _) _;rw [if_neg (by omega)];refine .some ?_
  show (books.take books.length).map _ ++ _ = _;rw [List.take_length]
open Classical in
theorem s9_Fits_ok : Ok (P_s9_Fits cl sh bs b.qP b.qQ b.qO b.wide b.high b.heavy b.shelf) (FitsIs cl sh bs b) := by
  unfold P_s9_Fits
  rw [show (⟨b.qP, b.qQ, b.qO, b.wide, b.high, b.heavy, b.shelf⟩ : qA) = b from rfl, s9_enter_eq, andx_some']
  by_cases h : furE cl sh bs b = 0
  · obtain ⟨hF, hw, hh, hm, hr, ht⟩ := furE_zero h
    have hl := inserted_len (bs := bs) (b := b)
    have hp := place_le bs b
    have h10 := hF.bs1
    have hsh := hF.sh1
    rw [if_pos h]
    show Ok (if _ then _ else _) _
    rw [if_neg (by decide)]
    obtain ⟨a0, ha0⟩ := get_some (l := sh) (k := 0) (by omega)
    have key : iter (P_s9_Fits_L3 cl sh (insertedB bs b) (place bs b : Int)) (0, []) = some ((upto 0 sh.length).flatMap fun s => if Arr sh (insertedB bs b) (ownAt (insertedB bs b) (place bs b) s) then [s] else []) := by
      refine iter_flat (fun s h1 h2 => ?_) (fun s out h1 h2 => ?_)
      · unfold P_s9_Fits_L3
        show (if _ then _ else _) = _
        have hpre := flat_prefix (n := sh.length) (p := fun s => Arr sh (insertedB bs b) (ownAt (insertedB bs b) (place bs b) s)) h1 (by omega)
        generalize hout : ((upto 0 s).flatMap fun s => if Arr sh (insertedB bs b) (ownAt (insertedB bs b) (place bs b) s) then [s] else []) = out at hpre ⊢
        have hFe : ∀ i n : Nat, i < (insertedB bs b).length → n < sh.length → (fun i_ n_ => P_s9_Fits1 i_ n_ (place bs b : Int) s cl sh (insertedB bs b)) i n = some (if (ownAt (insertedB bs b) (place bs b) s)[i]? = some (n : Int) then 0 else 1000) := by
          intro i n hi hn
          obtain ⟨c, hc⟩ := get_some hi
          rw [ownAt_get hc]
          show P_s9_Fits1 (i : Int) (n : Int) (place bs b : Int) s cl sh (insertedB bs b) = _
          unfold P_s9_Fits1
          have hown : P_s9_own cl sh (insertedB bs b) (i : Int) (n : Int) = some (if c.shelf = (n : Int) then 0 else 1) := by
            unfold P_s9_own
            rw [el_at hc]
            split <;> rfl
          by_cases e : i = place bs b
          · rw [if_pos (show (i : Int) = (place bs b : Int) by omega), if_pos e]
            by_cases e2 : (n : Int) = s
            · rw [if_pos e2, if_pos (by rw [e2])]; rfl
            · rw [if_neg e2, if_neg (not_not_intro (show (i : Int) = (place bs b : Int) by omega)), if_neg (fun h => e2 (Option.some.inj h).symm)]; rfl
          · rw [if_neg (show ¬ (i : Int) = (place bs b : Int) by omega), if_pos (show ¬ (i : Int) = (place bs b : Int) by omega), if_neg e, hown]
            by_cases e2 : c.shelf = (n : Int)
            · rw [if_pos e2, if_pos (by rw [e2])]; rfl
            · rw [if_neg e2, if_neg (fun h => e2 (Option.some.inj h))]; rfl
        have hrun := arr_run (F := fun i_ n_ => P_s9_Fits1 i_ n_ (place bs b : Int) s cl sh (insertedB bs b)) ha0 (fun i n hi hn => ⟨_, hFe i n hi hn, by split <;> omega, by split <;> omega⟩) (by omega) (inserted_wides hF hw) (by omega) hF.shw
        have hk := fits_key (F := fun i_ n_ => P_s9_Fits1 i_ n_ (place bs b : Int) s cl sh (insertedB bs b)) (o := ownAt (insertedB bs b) (place bs b) s) ha0 ownAt_len hFe (fun x hx => by
          obtain ⟨i, hi⟩ := List.getElem?_of_mem hx
          have hil := (List.getElem?_eq_some_iff.1 hi).1
          rw [ownAt_len] at hil
          obtain ⟨c, hc⟩ := get_some hil
          rw [ownAt_get hc] at hi
          have := Option.some.inj hi
          by_cases e : i = place bs b
          · rw [if_pos e] at this; omega
          · rw [if_neg e] at this
            obtain ⟨j, hj⟩ := List.getElem?_of_mem (inserted_ne e hc)
            have := hF.book hj
            omega) (inserted_wides hF hw) (by omega) hF.shw
        rw [if_pos h2, hrun, andx_some']
        dsimp only
        generalize wayOf sh (insertedB bs b) (fun i_ n_ => P_s9_Fits1 i_ n_ (place bs b : Int) s cl sh (insertedB bs b)) a0 = w at hk
        have hat : ((insertedB bs b).map (·.shelf) ++ List.replicate (11 - (insertedB bs b).length) 0)[place bs b]? = some b.shelf := by
          rw [List.getElem?_append_left (by simp; omega), List.getElem?_map, inserted_at]; rfl
        have hol : ((insertedB bs b).map (·.shelf) ++ List.replicate (11 - (insertedB bs b).length) (0 : Int)).length = 11 := by simp; omega
        have hset : ((insertedB bs b).map (·.shelf) ++ List.replicate (11 - (insertedB bs b).length) (0 : Int)).set (place bs b) s = ownAt (insertedB bs b) (place bs b) s ++ List.replicate (11 - (insertedB bs b).length) 0 := by
          rw [List.set_append_left _ _ (by simp; omega)]; rfl
        rw [own_loop (by omega), andx_some', chk_pos (by rw [hol]; rfl), el_at hat, Int.toNat_natCast, hset]
        have hol2 : (ownAt (insertedB bs b) (place bs b) s ++ List.replicate (11 - (insertedB bs b).length) (0 : Int)).length = 11 := by rw [← hset, List.length_set, hol]
        rw [chk_pos hol2]
        by_cases ha : Arr sh (insertedB bs b) (ownAt (insertedB bs b) (place bs b) s)
        · obtain ⟨k1, k2⟩ := hk.2 ha
          rw [if_pos k1, andx_some', decide_eq_true k2, if_pos rfl, if_pos ha, chk_pos (by simp; omega), andx_some', chk_pos (i64_small (by omega))]
        · rw [if_neg ha]
          by_cases k1 : w.1 = 0
          · rw [if_pos k1, andx_some', decide_eq_false (fun k2 => ha (hk.1 ⟨k1, k2⟩)), if_neg (by decide), andx_some', chk_pos (i64_small (by omega)), List.append_nil]
          · rw [if_neg k1, andx_some', if_neg (by decide), andx_some', chk_pos (i64_small (by omega)), List.append_nil]
      · unfold P_s9_Fits_L3
        show (if _ then _ else _) = _
        rw [if_neg h2]
    rw [key, andx_some', filter_flat]
    exact .some (.inr ⟨h, rfl⟩)
  · rw [if_neg h]
    show Ok (if _ then _ else _) _
    rw [if_pos h]
    exact .some (.inl ⟨h, rfl⟩)
end
end Go.Am
end
section
namespace Go.Am
set_option linter.unusedVariables false
set_option linter.unusedSimpArgs false
end Go.Am
end
section
namespace Go.Am
set_option linter.unusedVariables false
set_option linter.unusedSimpArgs false
section
variable {cl : List Str} {sh : List qH} {bs books : List qA}
end
end Go.Am
end
section
namespace Go.Am
set_option linter.unusedVariables false
set_option linter.unusedSimpArgs false
section
variable {cl : List Str} {sh : List qH} {bs books : List qA}
end
end Go.Am
end
section
namespace Go.Am
set_option linter.unusedVariables false
set_option linter.unusedSimpArgs false
section
variable {cl : List Str} {sh : List qH} {bs books : List qA} {ls : List Int} {i : Nat} {a : qH}
theorem fitSel_len {b : qA} : (fitSel sh bs b).length ≤ sh.length := by
 have h : (fitSel sh bs b).length ≤ (upto 0 sh.length).length := List.length_filter_le _ _;rw [upto_len] at h;omega
theorem same_Fits {b : qA} : ∃ l e, P_s9_Fits cl sh bs b.qP b.qQ b.qO b.wide b.high b.heavy b.shelf = some (l, e) ∧ P_r9_Fits cl sh bs b.qP b.qQ b.qO b.wide b.high b.heavy b.shelf = some (l, e) ∧ FitsIs cl sh bs b (l, e) ∧ l.length ≤ 10 := by
 obtain ⟨r, e1, h1⟩ := s9_Fits_ok (cl := cl) (sh := sh) (bs := bs) (b := b);obtain ⟨r', e2, h2⟩ := r9_Fits_ok (cl := cl) (sh := sh) (bs := bs) (b := b)
 have := h1.unique h2;subst this;obtain ⟨l, e⟩ := r;refine ⟨l, e, e1, e2, h1, ?_⟩
 rcases h1 with ⟨_, h⟩ | ⟨hz, h⟩
 ·cases h; exact Nat.zero_le _
 ·cases h
  have := fitSel_len (sh := sh) (bs := bs) (b := b)
  have := (furE_zero hz).1.sh1;omega
theorem same_Put {b : qA} : ∃ at_ m l z e, P_s9_Put cl sh bs b.qP b.qQ b.qO b.wide b.high b.heavy b.shelf = some (at_, m, l, z, e) ∧ P_r9_Put cl sh bs b.qP b.qQ b.qO b.wide b.high b.heavy b.shelf = some (at_, m, l, e) ∧ PutIs cl sh bs b (at_, m, l, e) ∧ l.length ≤ 11 := by
 obtain ⟨⟨a1, a2, a3, a4, a5⟩, e1, h1⟩ := s9_Put_ok (cl := cl) (sh := sh) (bs := bs) (b := b);obtain ⟨r', e2, h2⟩ := r9_Put_ok (cl := cl) (sh := sh) (bs := bs) (b := b)
 have := h1.unique h2;subst this;exact ⟨a1, a2, a3, a4, a5, e1, e2, h1, h1.len⟩
end
end Go.Am
end
section
namespace Go.Am
set_option linter.unusedVariables false
set_option linter.unusedSimpArgs false
section
variable {cl : List Str} {sh : List qH} {bs books : List qA}
end
end Go.Am
end
section
namespace Go.Am
set_option linter.unusedVariables false
set_option linter.unusedSimpArgs false
section
variable {cl : List Str} {sh : List qH} {bs books : List qA} {but clear : Int} {b : qA}
theorem turn_ok {x : List UInt8} {n : Nat} : Ok (P_law9_turn x n) fun r => 0 ≤ r ∧ r ≤ 255 := by
 unfold P_law9_turn
 by_cases h : (x.length : Int) = 0
 ·rw [if_pos h]; exact .some ⟨by decide, by decide⟩
 ·rw [if_neg h, chk_pos (by omega), Int.tmod_eq_emod_of_nonneg (by omega)]
  have h1 := Int.emod_nonneg (n : Int) h
  have h2 := Int.emod_lt_of_pos (n : Int) (show (0 : Int) < x.length by omega);obtain ⟨a, ha⟩ := get_some (l := x) (k := ((n : Int) % x.length).toNat) (by omega);rw [el_int h1 ha]
  have := a.toNat_lt;rw [chk_pos (by omega)];exact .some (by omega)
theorem Rising_ok {many shelves : Nat} {x : List UInt8} (hs : 1 ≤ shelves ∧ shelves ≤ 1000) (hm : many ≤ 1000) : Ok (P_law9_Rising many shelves x) (RiseIn many shelves) := by
 unfold P_law9_Rising;refine Ok.andx (P := RiseIn many shelves) ?_ (fun r hr => .some hr);refine Ok.count (fun s : Int × Int × List Int => s.2.1) many (fun k s => 0 ≤ s.1 ∧ s.1 < shelves ∧ RiseIn k shelves s.2.2 ∧ ∀ y ∈ s.2.2, y ≤ s.1) rfl ⟨by show (0 : Int) ≤ 0; omega, by show (0 : Int) < shelves; omega, ⟨rfl, List.Pairwise.nil, fun _ h => by cases h⟩, fun _ h => by cases h⟩ ?_ ?_
 ·rintro k ⟨at_, i, out⟩ hk hx ⟨h0, h1, hR, hle⟩;simp only at hx h0 h1 hR hle;subst hx;unfold P_law9_Rising_L1
  show Ok (if _ then _ else _) _;rw [if_pos (by omega), chk_pos (i64_small (by omega))];obtain ⟨r, e, hr⟩ := turn_ok (x := x) (n := k);rw [e, andx_some', chk_pos (by decide), Int.tmod_eq_emod_of_nonneg hr.1]
  have h3 := Int.emod_nonneg r (show (3 : Int) ≠ 0 by decide)
  have h4 := Int.emod_lt_of_pos r (show (0 : Int) < 3 by decide);generalize r % 3 = q at h3 h4 ⊢
  have hl := hR.1;rw [chk_pos (i64_small (by omega)), chk_pos (by simp; omega), chk_pos (i64_small (by omega))];refine .some ⟨rfl, ?_⟩
  show 0 ≤ min ((shelves : Int) - 1) (at_ + q) ∧ min ((shelves : Int) - 1) (at_ + q) < shelves ∧ RiseIn (k + 1) shelves (out ++ [min ((shelves : Int) - 1) (at_ + q)]) ∧ ∀ y ∈ out ++ [min ((shelves : Int) - 1) (at_ + q)], y ≤ min ((shelves : Int) - 1) (at_ + q)
  have hge : at_ ≤ min ((shelves : Int) - 1) (at_ + q) := by omega
  have hlt : min ((shelves : Int) - 1) (at_ + q) < shelves := by omega
  generalize min ((shelves : Int) - 1) (at_ + q) = w at hge hlt;refine ⟨by omega, hlt, ⟨by simp [hl], ?_, fun y hy => ?_⟩, fun y hy => ?_⟩
  ·rw [List.pairwise_append];refine ⟨hR.2.1, List.pairwise_singleton _ _, fun y hy z hz => ?_⟩
   have := hle y hy
   have := List.mem_singleton.1 hz;omega
  ·rcases List.mem_append.1 hy with hy | hy
   ·exact hR.2.2 y hy
   ·have := List.mem_singleton.1 hy;omega
  ·rcases List.mem_append.1 hy with hy | hy
   ·have := hle y hy;omega
   ·have := List.mem_singleton.1 hy;omega
 ·rintro ⟨at_, i, out⟩ hx ⟨_, _, hR, _⟩;simp only at hx hR;subst hx;unfold P_law9_Rising_L1
  show Ok (if _ then _ else _) _;rw [if_neg (by omega)];exact .some hR
open Classical in
theorem right_few {l : List Int} {n : Int} (hsh : sh.length ≤ 1000) (hw : Wides books) (hl : books.length ≤ 1000) (h : FewB sh books but clear l n) : P_law9_right cl sh bs books l but n = some true := by
 have hR := h.rise
 have hc := h.ok;unfold costF at hc;split at hc
 ·rename_i g
  simp only [Option.some.injEq] at hc;unfold P_law9_right
  have e1 : (l.length : Int) = books.length := by have := hR.1; omega
  rw [if_neg (not_not_intro e1)]
  have key : iter (P_law9_right_L1 sh l) 0 = some (.nx ()) := by
   refine Ok.get ?_;refine Ok.count (fun x : Int => x) l.length (fun _ _ => True) rfl trivial ?_ ?_
   ·rintro k i hk hx _;replace hx : i = k := hx;subst hx;obtain ⟨a, ha⟩ := get_some hk
    have hr := hR.2.2 a (List.mem_of_getElem? ha);unfold P_law9_right_L1
    show Ok (if _ then _ else _) _;rw [if_pos (by omega), el_at ha, if_neg (by omega), el_at ha, decide_eq_false (by omega)]
    show Ok (chk _ _) _;rw [chk_pos (i64_small (by omega))];exact .some ⟨rfl, trivial⟩
   ·rintro i hx _;replace hx : i = l.length := hx;subst hx;unfold P_law9_right_L1
    show Ok (if _ then _ else _) _;rw [if_neg (by omega)];exact .some rfl
  rw [key, seqx_nx, r9_Arranged_eq hsh hw hl hR.1, decide_eq_true g.2, andx_some', if_pos rfl, r9_Moved_eq hl hR.1, andx_some', hc, decide_eq_true rfl];rfl
 ·cases hc
open Classical in
theorem better_few {l x : List Int} {n : Int} (hsh : sh.length ≤ 1000) (hw : Wides books) (hl : books.length ≤ 1000) (h : FewB sh books but clear l n) (hx : RiseIn books.length sh.length x) (hcl : ¬ clear ∈ x) : P_law9_better cl sh bs books x but n l = some false := by
 unfold P_law9_better;rw [r9_Arranged_eq hsh hw hl hx.1, andx_some']
 by_cases ha : Arr sh books x
 ·have hc : costF sh books but clear x = some (movedN books x 0 but) := if_pos ⟨hcl, ha⟩
  have hle := h.least x _ hx hc;rw [decide_eq_true ha, if_pos rfl, r9_Moved_eq hl hx.1, andx_some', if_neg (by omega)]
  by_cases e : movedN books x 0 but = n
  ·rw [if_pos e, w1_Before_eq (by have := hx.1; omega), hle.2 e];rfl
  ·rw [if_neg e];rfl
 ·rw [decide_eq_false ha, if_neg (by decide)]
open Classical in
theorem arranged_none {x : List Int} (hsh : sh.length ≤ 1000) (hw : Wides books) (hl : books.length ≤ 1000) (h : ∀ l, RiseIn books.length sh.length l → costF sh books but clear l = none) (hx : RiseIn books.length sh.length x) (hcl : ¬ clear ∈ x) : P_r9_Arranged cl sh bs books x = some false := by
 rw [r9_Arranged_eq hsh hw hl hx.1];refine congrArg some (decide_eq_false fun ha => ?_)
 have := h x hx
 have hc : costF sh books but clear x = some (movedN books x 0 but) := if_pos ⟨hcl, ha⟩;rw [hc] at this;cases this
theorem rise_no {n m : Nat} {x : List Int} (h : RiseIn n m x) : ¬ (-1 : Int) ∈ x := fun g => by have := h.2.2 _ g; omega
end
end Go.Am
end
section
namespace Go.Am
set_option linter.unusedVariables false
set_option linter.unusedSimpArgs false
theorem up_pair : ∀ ls : List Int, (∀ k, upAt ls k) ↔ ls.Pairwise (· ≤ ·)
 | [] => ⟨fun _ => List.Pairwise.nil, fun _ k x y h => by simp at h⟩
 | [a] => ⟨fun _ => List.pairwise_singleton _ _, fun _ k x y h h' => by simp at h'⟩
 | a :: b :: r => by
  have ih := up_pair (b :: r)
  constructor
  ·intro h
   have h0 := h 0 a b rfl rfl
   have hp := ih.1 fun k x y hx hy => h (k + 1) x y (by simpa using hx) (by simpa using hy)
   refine List.pairwise_cons.2 ⟨fun x hx => ?_, hp⟩
   rcases List.mem_cons.1 hx with rfl | hx
   ·exact h0
   ·exact Int.le_trans h0 ((List.pairwise_cons.1 hp).1 x hx)
  ·intro h k x y hx hy;exact pair_le h hx hy
where
 pair_le {l : List Int} {k : Nat} {x y : Int} (h : l.Pairwise (· ≤ ·)) (hx : l[k]? = some x) (hy : l[k + 1]? = some y) : x ≤ y := pair_at h (Nat.lt_succ_self k) hx hy
theorem movedN_zero : ∀ (books : List qA) (ls : List Int) (i : Nat) (but : Int), ls.length = books.length →
  (movedN books ls i but = 0 ↔ ∀ (j : Nat) (b : qA), books[j]? = some b → ((i + j : Nat) : Int) ≠ but → ls[j]? = some b.shelf)
 | [], _, _, _, _ => ⟨fun _ j b h => by simp at h, fun _ => movedN_nil⟩
 | _ :: _, [], _, _, h => by simp at h
 | b :: r, s :: ls, i, but, hl => by
  have ih := movedN_zero r ls (i + 1) but (by simpa using hl)
  have hb := movedN_bound r ls (i + 1) but;rw [movedN_cons]
  constructor
  ·intro h j c hc hj
   have h1 : movedN r ls (i + 1) but = 0 := by
    by_cases g : ¬ (i : Int) = but ∧ ¬ s = b.shelf
    ·rw [if_pos g] at h; omega
    ·rw [if_neg g] at h; omega
   cases j with
   | zero =>
    simp only [List.getElem?_cons_zero, Option.some.injEq] at hc ⊢;subst hc
    by_cases g : s = b.shelf
    ·exact g
    ·rw [if_pos ⟨by simpa using hj, g⟩] at h; omega
   | succ j =>
    rw [List.getElem?_cons_succ] at hc ⊢;exact ih.1 h1 j c hc (by rw [show i + 1 + j = i + (j + 1) by omega]; exact hj)
  ·intro h
   have h1 : movedN r ls (i + 1) but = 0 := ih.2 fun j c hc hj => by
    have := h (j + 1) c (by rw [List.getElem?_cons_succ]; exact hc) (by rw [show i + (j + 1) = i + 1 + j by omega]; exact hj)
    rwa [List.getElem?_cons_succ] at this
   rw [h1, if_neg]
   ·rfl
   ·rintro ⟨g1, g2⟩
    have := h 0 b rfl (by simpa using g1);simp only [List.getElem?_cons_zero, Option.some.injEq] at this;exact g2 this
section
variable {cl : List Str} {sh : List qH} {bs books : List qA} {but clear : Int} {b : qA}
theorem fitSel_mem {s : Int} : s ∈ fitSel sh bs b ↔ (0 ≤ s ∧ s < sh.length) ∧ Arr sh (insertedB bs b) (ownAt (insertedB bs b) (place bs b) s) := by
 unfold fitSel;rw [List.mem_filter, mem_upto];simp only [decide_eq_true_eq]
theorem fitSel_sorted : (fitSel sh bs b).Pairwise (· < ·) := upto_sorted.sublist List.filter_sublist
theorem ownAt_rise (hF : Fine cl sh bs) {s : Int} (h : s ∈ fitSel sh bs b) : RiseIn (bs.length + 1) sh.length (ownAt (insertedB bs b) (place bs b) s) := by
 obtain ⟨hs, ha⟩ := fitSel_mem.1 h;refine ⟨by rw [ownAt_len, inserted_len], (up_pair _).1 ha.1, fun x hx => ?_⟩;obtain ⟨j, hj⟩ := List.getElem?_of_mem hx;obtain ⟨c, hc⟩ := get_some (l := insertedB bs b) (k := j) (by have := (List.getElem?_eq_some_iff.1 hj).1; rwa [ownAt_len] at this);rw [ownAt_get hc] at hj
 by_cases e : j = place bs b
 ·rw [if_pos e] at hj;cases hj;exact hs
 ·rw [if_neg e] at hj;cases hj
  have hm := inserted_ne e hc;obtain ⟨k, hk⟩ := List.getElem?_of_mem hm;exact hF.book hk
theorem ownAt_moved {s : Int} : movedN (insertedB bs b) (ownAt (insertedB bs b) (place bs b) s) 0 (place bs b) = 0 := by
 rw [movedN_zero _ _ _ _ ownAt_len];intro j c hc hj;rw [ownAt_get hc, if_neg (by omega)]
theorem own_of_moved {l : List Int} (hl : l.length = bs.length + 1) (h : movedN (insertedB bs b) l 0 (place bs b) = 0) : ∃ s, l[place bs b]? = some s ∧ l = ownAt (insertedB bs b) (place bs b) s := by
 have hpl := place_le bs b;obtain ⟨s, hs⟩ := get_some (l := l) (k := place bs b) (by omega);refine ⟨s, hs, List.ext_getElem? fun j => ?_⟩
 have h1 := (movedN_zero _ _ _ _ (by rw [inserted_len]; exact hl)).1 h
 by_cases hj : j < bs.length + 1
 ·obtain ⟨c, hc⟩ := get_some (l := insertedB bs b) (k := j) (by rw [inserted_len]; exact hj);rw [ownAt_get hc]
  by_cases e : j = place bs b
  ·rw [if_pos e, e, hs]
  ·rw [if_neg e];exact h1 j c hc (by omega)
 ·rw [List.getElem?_eq_none (by omega), List.getElem?_eq_none (by rw [ownAt_len, inserted_len]; omega)]
open Classical in
theorem put_loop (hF : Fine cl sh bs) (hw : Wides (insertedB bs b)) : iter (P_law_ShelfPut_L1 cl sh bs (fitSel sh bs b) (insertedB bs b) (place bs b)) 0 = some (.nx ()) := by
  have hl := inserted_len (bs := bs) (b := b)
  have h10 := hF.bs1
  have hsh := hF.sh1
  have hpl := place_le bs b
  have hfl := fitSel_len (sh := sh) (bs := bs) (b := b)
  refine Ok.get ?_
  refine Ok.count (fun x : Int => x) (fitSel sh bs b).length (fun _ _ => True) rfl trivial ?_ ?_
  · rintro k i hk hx _
    replace hx : i = k := hx
    subst hx
    obtain ⟨s, hs⟩ := get_some hk
    obtain ⟨hr, ha⟩ := fitSel_mem.1 (List.mem_of_getElem? hs)
    obtain ⟨c, hc⟩ := get_some (l := insertedB bs b) (k := place bs b) (by omega)
    have hown : ((insertedB bs b).map (·.shelf))[place bs b]? = some c.shelf := by rw [List.getElem?_map, hc]; rfl
    have hArr : P_r9_Arranged cl sh bs (insertedB bs b) (List.set ((insertedB bs b).map (·.shelf)) ((place bs b : Nat) : Int).toNat s) = some true := by
      rw [r9_Arranged_eq (by omega) hw (by omega) (by simp), Int.toNat_natCast]
      exact congrArg some (decide_eq_true ha)
    unfold P_law_ShelfPut_L1
    show Ok (if _ then _ else _) _
    rw [if_pos (by omega), r9_Own_eq (by omega), andx_some', el_at hs, el_at hown]
    have hcond : (el (fitSel sh bs b) (k : Int) fun a80 => if a80 < 0 then some true else el (fitSel sh bs b) (k : Int) fun a86 => if a86 ≥ (sh.length : Int) then some true else
        if (k : Int) > 0 then el (fitSel sh bs b) (k : Int) fun a99 => chk (I64 ((k : Int) - 1)) (el (fitSel sh bs b) ((k : Int) - 1) fun a104 => if a99 ≤ a104 then some true else andx (P_r9_Arranged cl sh bs (insertedB bs b) (List.set ((insertedB bs b).map (·.shelf)) ((place bs b : Nat) : Int).toNat s)) fun y113 => some (!y113))
        else andx (P_r9_Arranged cl sh bs (insertedB bs b) (List.set ((insertedB bs b).map (·.shelf)) ((place bs b : Nat) : Int).toNat s)) fun y113 => some (!y113)) = some false := by
      rw [el_at hs, if_neg (by omega), el_at hs, if_neg (by omega), hArr]
      by_cases h0 : k = 0
      · rw [if_neg (by omega)]; rfl
      · obtain ⟨y, hy⟩ := get_some (l := fitSel sh bs b) (k := k - 1) (by omega)
        have hlt := pair_at fitSel_sorted (show k - 1 < k by omega) hy hs
        rw [if_pos (by omega), el_at hs, chk_pos (i64_small (by omega)), show (k : Int) - 1 = ((k - 1 : Nat) : Int) by omega, el_at hy, if_neg (by omega)]
        rfl
    rw [hcond, andx_some', if_neg (by decide), seqx_nx, chk_pos (i64_small (by omega))]
    exact .some ⟨rfl, trivial⟩
  · rintro i hx _
    replace hx : i = (fitSel sh bs b).length := hx
    subst hx
    unfold P_law_ShelfPut_L1
    show Ok (if _ then _ else _) _
    rw [if_neg (by omega)]
    exact .some rfl
open Classical in
theorem ShelfPut_true (cl : List Str) (sh : List qH) (bs : List qA) (c n : Int) (s : Str) (w h y p : Int) (x : List UInt8) : P_law_ShelfPut cl sh bs c n s w h y p x = some true := by
 obtain ⟨l3, e3, p3, q3, hFit, b3⟩ := same_Fits (cl := cl) (sh := sh) (bs := bs) (b := ⟨c, n, s, w, h, y, p⟩);obtain ⟨a4, m4, l4, z4, e4, p4, q4, hPut, b4⟩ := same_Put (cl := cl) (sh := sh) (bs := bs) (b := ⟨c, n, s, w, h, y, p⟩)
 have hfur := r9_Further_eq (cl := cl) (sh := sh) (bs := bs) (b := ⟨c, n, s, w, h, y, p⟩)
 have hGl : (GSo z4 encI l4).l = l4 := rfl;simp only at p3 q3 p4 q4 hfur;unfold P_law_ShelfPut;rw [p4, andx_some'];dsimp only;rw [p3, andx_some'];dsimp only;rw [hfur, andx_some', hGl]
 clear p4 p3 q3 q4 hfur hGl
 generalize hB : (⟨c, n, s, w, h, y, p⟩ : qA) = b at *
 by_cases h0 : furE cl sh bs b = 0
 ·rw [if_neg (not_not_intro h0)];obtain ⟨hF, hw1, hh1, hmk, hRis, htw⟩ := furE_zero h0
  have hw := inserted_wides hF hw1
  have hl := inserted_len (bs := bs) (b := b)
  have h10 := hF.bs1
  have hsh := hF.sh1
  rcases hFit with ⟨g, _⟩ | ⟨_, hf⟩
  ·exact absurd h0 g
  simp only [Prod.mk.injEq] at hf;obtain ⟨rfl, rfl⟩ := hf;rw [r9_With_eq hF.marks.shorts (markOk_bound hmk).2.2.1 (by omega), andx_some'];dsimp only;rw [if_neg (not_not_intro rfl), put_loop hF hw, seqx_nx]
  rcases hPut with ⟨g, _⟩ | ⟨_, hten, hp⟩ | ⟨_, hten, hno, hp⟩ | ⟨_, hten, l, m, hfew, hp⟩
  ·exact absurd h0 g
  ·simp only [Prod.mk.injEq] at hp;obtain ⟨_, _, _, rfl⟩ := hp;rw [if_pos (by omega), if_pos rfl];rfl
  ·simp only [Prod.mk.injEq] at hp;obtain ⟨_, _, _, rfl⟩ := hp
   have hno' : ∀ l, RiseIn (insertedB bs b).length sh.length l → costF sh (insertedB bs b) (place bs b) (-1) l = none := by rw [hl]; exact hno
   rw [if_neg (by omega)];obtain ⟨v, ev, hv⟩ := Rising_ok (many := (insertedB bs b).length) (shelves := sh.length) (x := x) (by omega) (by omega);rw [ev, andx_some', if_pos (by decide), if_pos rfl, arranged_none (by omega) hw (by omega) hno' hv (rise_no hv), andx_some', if_neg (by decide)]
   have he : fitSel sh bs b = [] := by
    cases hsel : fitSel sh bs b with
    | nil => rfl
    | cons s r =>
     have hs : s ∈ fitSel sh bs b := by rw [hsel]; exact List.mem_cons_self
     have hR := ownAt_rise hF hs
     have h1 := hno _ hR
     have h2 : costF sh (insertedB bs b) (place bs b) (-1) (ownAt (insertedB bs b) (place bs b) s) = some _ := if_pos ⟨rise_no hR, (fitSel_mem.1 hs).2⟩;rw [h2] at h1;cases h1
   rw [he, if_pos (by rfl)];rfl
  ·simp only [Prod.mk.injEq] at hp;obtain ⟨rfl, rfl, rfl, rfl⟩ := hp;rw [if_neg (by omega)];obtain ⟨v, ev, hv⟩ := Rising_ok (many := (insertedB bs b).length) (shelves := sh.length) (x := x) (by omega) (by omega);rw [ev, andx_some', if_neg (not_not_intro rfl), if_pos rfl, right_few (by omega) hw (by omega) hfew, andx_some', if_pos rfl, better_few (by omega) hw (by omega) hfew hv (rise_no hv), andx_some', if_neg (by decide)]
   have hiff : m4 = 0 ↔ ((fitSel sh bs b).length : Int) > 0 := by
    have hok := hfew.ok;unfold costF at hok;split at hok
    rotate_left
    ·cases hok
    rename_i g
    simp only [Option.some.injEq] at hok
    have hlr : l4.length = bs.length + 1 := by have := hfew.rise.1; omega
    constructor
    ·intro hz;subst hz;obtain ⟨s, hs, he⟩ := own_of_moved hlr hok
     have : s ∈ fitSel sh bs b := fitSel_mem.2 ⟨hfew.rise.2.2 s (List.mem_of_getElem? hs), by rw [← he]; exact g.2⟩
     have := List.length_pos_of_mem this;omega
    ·intro hz;cases hsel : fitSel sh bs b with
     | nil => rw [hsel] at hz; simp at hz
     | cons s r =>
      have hs : s ∈ fitSel sh bs b := by rw [hsel]; exact List.mem_cons_self
      have hR := ownAt_rise hF hs
      have h2 : costF sh (insertedB bs b) (place bs b) (-1) (ownAt (insertedB bs b) (place bs b) s) = some 0 := by
       unfold costF;rw [if_pos ⟨rise_no hR, (fitSel_mem.1 hs).2⟩, ownAt_moved]
      have h3 := (hfew.least _ _ (by rw [hl]; exact hR) h2).1
      have h4 := (movedN_bound (insertedB bs b) l4 0 (place bs b)).1;omega
   rw [if_pos (by rw [decide_eq_decide]; exact hiff)];rfl
 ·rw [if_pos h0]
  rcases hFit with ⟨_, hf⟩ | ⟨g, _⟩
  rotate_left
  ·exact absurd g h0
  rcases hPut with ⟨_, hp⟩ | ⟨g, _⟩ | ⟨g, _⟩ | ⟨g, _⟩
  rotate_left
  ·exact absurd g h0
  ·exact absurd g h0
  ·exact absurd g h0
  simp only [Prod.mk.injEq] at hf hp;obtain ⟨rfl, rfl⟩ := hf;obtain ⟨rfl, rfl, rfl, rfl⟩ := hp;rw [if_pos h0, if_pos rfl, chk_pos (i64_small (by simp)), if_pos (by simp)];rfl
end
end Go.Am
end
