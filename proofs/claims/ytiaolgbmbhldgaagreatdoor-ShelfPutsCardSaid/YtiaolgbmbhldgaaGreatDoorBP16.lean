/- Part 16. -/
import Derived.Test.YtiaolgbmbhldgaaGreatDoorBP2
import Derived.ChangeArms
import Derived.ChangeSlices
import Derived.OpenShut
import Derived.Test.YtiaolgbmbhldgaaGreatDoorBP12
import Derived.Test.YtiaolgbmbhldgaaGreatDoorRows
import Derived.ProofKit
import Derived.Test.YtiaolgbmbhldgaaGreatDoorBP13
import Derived.Test.YtiaolgbmbhldgaaGreatDoorBP14
section
namespace Go.Am
open Go.RowKit
def Lifts (P : Program) (t : TypeId) {α : Type} (e : En α) : Prop :=
 ∀ (H : Type) (enc : TypeId × Value → H) (W : World) (base : Nat) (held : Bool) (fuel : Nat) (cs : List Value) (x : DataW H × List MemPlace),
  DataW.trod enc P W base (fun _ => true) held fuel t cs = some x → ∃ a : α, RelL (snapR W 0) (e.f a) cs
theorem Lifts.int {P : Program} {t : TypeId} (ht : P.underlying t = some (.int .i64)) : Lifts P t encI := by
 intro H enc W base held fuel cs x hx;obtain ⟨n, rfl, _, _⟩ := DataW.trod_int ht hx;exact ⟨n, .cons (.lit _) (.nil _)⟩
theorem snap_cell {W : World} {b off : Nat} {v : Value} (h : W.cell? ⟨b, off, none⟩ = some v) : ∃ c, (snapR W 0).imm b = some c ∧ c[off]? = some v := by
 unfold World.cell? at h;split at h
 ·rename_i c _ _ hb
  simp at h;exact ⟨c, by simp only [snapR, snap, Nat.zero_le, if_true]; simp only [] at hb; rw [hb], h⟩
 ·cases h
theorem list_of {α : Type} {p : Nat → α → Prop} : ∀ n : Nat, (∀ i, i < n → ∃ a, p i a) → ∃ l : List α, l.length = n ∧ ∀ i a, l[i]? = some a → p i a := by
 intro n
 induction n with
 | zero => intro _; exact ⟨[], rfl, fun i a h => by simp at h⟩
 | succ n ih =>
  intro h;obtain ⟨l, h1, h2⟩ := ih fun i hi => h i (by omega)
  obtain ⟨a, ha⟩ := h n (by omega);refine ⟨l ++ [a], by simp [h1], fun i b hb => ?_⟩
  by_cases hi : i < l.length
  ·rw [List.getElem?_append_left hi] at hb; exact h2 i b hb
  ·rw [List.getElem?_append_right (by omega)] at hb
   have : i - l.length = 0 := by
    have := (List.getElem?_eq_some_iff.1 hb).1;simp at this; omega
   rw [this] at hb;simp at hb;subst hb
   have : i = n := by omega
   rw [this]; exact ha
theorem Lifts.slice {P : Program} {t e : TypeId} {α : Type} {en : En α} (ht : P.underlying t = some (.slice e)) (hu : P.cellsOf e = en.u) (h0 : 0 < en.u) (h : Lifts P e en) : Lifts P t (encSl en) := by
 intro H enc W base held fuel cs x hx
 rcases DataW.trod_slice ht hx with ⟨rfl, _⟩ | ⟨a, len, cap, elems, rest, n, _, rfl, _, hb, hl, _, hlen, hel, hsp, _⟩
 ·exact ⟨⟨nilS, [], .inl ⟨rfl, rfl, rfl⟩⟩, .cons (.lit _) (.nil _)⟩
 ·rw [hu] at hel hsp;obtain ⟨hrl, hr⟩ := hsp rfl
  by_cases hc : cap = 0
  ·subst hc
   have : len = 0 := by omega
   subst this;exact ⟨⟨.tree en.u 0 [], [], .inr ⟨rfl, by simp⟩⟩, .cons .tree0 (.nil _)⟩
  ·have hcell : ∀ i, i < len → ∃ (a' : α) (ci : List Value), W.cells? base (a.add (i * en.u)) en.u = some ci ∧ RelL (snapR W 0) (en.f a') ci := by
    intro i hi
    have he := hel i hi;rw [List.getElem?_eq_getElem (by omega)] at he;obtain ⟨ci, h1, h2⟩ := Option.bind_eq_some_iff.1 he;obtain ⟨a', h3⟩ := h _ _ _ _ _ _ _ _ h2;exact ⟨a', ci, h1, h3⟩
   have hspot : a.spot = none := by
    have : ∃ ci, W.cells? base (a.add (0 * en.u)) en.u = some ci := by
     by_cases hl0 : 0 < len
     ·obtain ⟨_, ci, h1, _⟩ := hcell 0 hl0;exact ⟨ci, h1⟩
     ·have hz : len = 0 := by omega
      have he := hr 0 (by omega);rw [List.getElem?_eq_getElem (by omega)] at he;obtain ⟨ci, h1, _⟩ := Option.bind_eq_some_iff.1 he;exact ⟨ci, by simpa [hz] using h1⟩
    obtain ⟨ci, h1⟩ := this;obtain ⟨_, h2, h3⟩ := World.cells?_some h1
    have h4 := h3 0 h0;rw [List.getElem?_eq_getElem (by omega)] at h4
    have := World.cell?_spot h4
    simpa [Addr.add] using this
   obtain ⟨b, off, sp⟩ := a;simp only at hspot;subst hspot;obtain ⟨l, hl1, hl2⟩ := list_of (p := fun i a' => ∃ ci : List Value, W.cells? base ((⟨b, off, none⟩ : Addr).add (i * en.u)) en.u = some ci ∧ RelL (snapR W 0) (en.f a') ci) len hcell
   have hfl : (l.flatMap en.f).length = len * en.u := by rw [flat_len, hl1]
   have each : ∀ j, j < len * en.u → ∃ v y c, (l.flatMap en.f)[j]? = some v ∧ (snapR W 0).imm b = some c ∧ c[off + j]? = some y ∧ RelV (snapR W 0) v y := by
    intro j hj
    have hi : j / en.u < l.length := by rw [hl1]; exact Nat.div_lt_of_lt_mul (by rw [Nat.mul_comm]; exact hj)
    have hk : j % en.u < en.u := Nat.mod_lt _ h0
    have hd : j / en.u * en.u + j % en.u = j := by rw [Nat.mul_comm]; exact Nat.div_add_mod j en.u
    obtain ⟨ci, h1, h2⟩ := hl2 _ _ (List.getElem?_eq_getElem hi);obtain ⟨_, h3, h4⟩ := World.cells?_some h1
    have h5 := h4 _ hk;rw [List.getElem?_eq_getElem (by omega)] at h5
    have h6 : ((⟨b, off, none⟩ : Addr).add (j / en.u * en.u)).add (j % en.u) = ⟨b, off + j, none⟩ := by
     simp only [addr_add]
     congr 1
     omega
    rw [h6] at h5;obtain ⟨c, h7, h8⟩ := snap_cell h5
    have hlen' := en.len l[j / en.u]
    have hv := List.getElem?_eq_getElem (l := en.f l[j / en.u]) (i := j % en.u) (by omega);refine ⟨_, _, c, ?_, h7, h8, h2.2 _ _ _ hv (List.getElem?_eq_getElem _)⟩
    have := flat_get (en := en) (List.getElem?_eq_getElem hi) hk;rw [hd] at this;rw [this, hv]
   refine ⟨⟨.tree en.u l.length (l.flatMap en.f), l, .inr ⟨rfl, by rw [hfl, hl1]⟩⟩, .cons ?_ (.nil _)⟩
   show RelV _ (.tree en.u l.length (l.flatMap en.f)) _;rw [hl1]
   by_cases hz : len * en.u = 0
   ·refine .tree (c := #[]) hfl hl (.inl (List.eq_nil_of_length_eq_zero (by omega))) fun i v x hv hx => by simp at hx
   ·obtain ⟨_, _, c, _, hc1, _, _⟩ := each (len * en.u - 1) (by omega);refine .tree (c := c) hfl hl (.inr ⟨hc1, ?_⟩) fun j v y hv hy => ?_
    ·obtain ⟨_, _, c', _, hc2, hc3, _⟩ := each (len * en.u - 1) (by omega);rw [hc1] at hc2;cases hc2
     have := (Array.getElem?_eq_some_iff.1 hc3).1;omega
    ·have hj := (List.getElem?_eq_some_iff.1 hv).1;obtain ⟨v', y', c', e1, e2, e3, e4⟩ := each j (by omega);rw [hc1] at e2;cases e2;rw [hv] at e1;rw [hy] at e3;cases e1;cases e3;exact e4
theorem RelL.glue {r : Ren} {a b : List AV} {cs : List Value} {n : Nat} (h1 : RelL r a (cs.take n)) (h2 : RelL r b (cs.drop n)) : RelL r (a ++ b) cs := by
 have := h1.append h2
 rwa [List.take_append_drop] at this
end Go.Am
end
section
namespace Go.Am
open Go.RowKit
def enPair {α β : Type} (a : En α) (b : En β) : En (α × β) := ⟨a.u + b.u, fun p => a.f p.1 ++ b.f p.2, fun p => by simp [a.len, b.len]⟩
theorem Lifts.map {P : Program} {t : TypeId} {α β : Type} {a : En α} {b : En β} (h : Lifts P t a) (hf : ∀ x, ∃ y, b.f y = a.f x) : Lifts P t b := by
 intro H enc W base held fuel cs x hx;obtain ⟨v, hv⟩ := h _ _ _ _ _ _ _ _ hx;obtain ⟨y, hy⟩ := hf v;exact ⟨y, by rw [hy]; exact hv⟩
theorem Lifts.arg {P : Program} {t : TypeId} {fs : Array Field} {α : Type} {en : En α} (hl : Lifts P t en) (ht : P.underlying t = some (.struct fs)) {W : World} {r : Reach} {b0 : Nat} {v : Value} (hval : Value.okWide P W r b0 t v)
  {H : Type} {enc : TypeId × Value → H} {base : Nat} {held : Bool} {d : DataW H} {ps : List MemPlace} (h : DataW.Trod enc P W base (fun _ => true) held t v d ps) : ∃ a, RelV (snapR W 0) (.agg (en.f a)) v := by
 simp only [Value.okWide, ht] at hval;obtain ⟨cs, rfl, _, _⟩ := hval;obtain ⟨fuel, hf⟩ := h;obtain ⟨a, ha⟩ := hl _ _ _ _ _ _ _ _ hf;exact ⟨a, by simpa [Value.cells] using RelV.agg ha.1 ha.2⟩
end Go.Am
end
section
namespace Go.Am
open Go.RowKit
set_option linter.unusedVariables false
def encU16 : En UInt16 := ⟨1, fun b => [ivk .u16 (b.toNat : Int)], fun _ => rfl⟩
theorem Lifts.u8 {P : Program} {t : TypeId} (ht : P.underlying t = some (.int .u8)) : Lifts P t encU8 := by
 intro H enc W base held fuel cs x hx;obtain ⟨n, rfl, _, hw⟩ := DataW.trod_int ht hx
 have hw : 0 ≤ n ∧ n ≤ 255 := by
  have := Bool.and_eq_true_iff.1 hw;exact ⟨of_decide_eq_true this.1, of_decide_eq_true this.2⟩
 have e : ((UInt8.ofNat n.toNat).toNat : Int) = n := by rw [UInt8.toNat_ofNat']; omega
 refine ⟨UInt8.ofNat n.toNat, .cons ?_ (.nil _)⟩;rw [e];exact .lit _
theorem Lifts.u16 {P : Program} {t : TypeId} (ht : P.underlying t = some (.int .u16)) : Lifts P t encU16 := by
 intro H enc W base held fuel cs x hx;obtain ⟨n, rfl, _, hw⟩ := DataW.trod_int ht hx
 have hw : 0 ≤ n ∧ n ≤ 65535 := by
  have := Bool.and_eq_true_iff.1 hw;exact ⟨of_decide_eq_true this.1, of_decide_eq_true this.2⟩
 have e : ((UInt16.ofNat n.toNat).toNat : Int) = n := by rw [UInt16.toNat_ofNat']; omega
 refine ⟨UInt16.ofNat n.toNat, .cons ?_ (.nil _)⟩;rw [e];exact .lit _
end Go.Am
end
section
namespace Go.Am
open Go.RowKit
set_option linter.unusedVariables false
theorem Lifts.str {P : Program} {t : TypeId} (ht : P.underlying t = some .string) : Lifts P t encStr := by
 intro H enc W base held fuel cs x hx;obtain ⟨s, rfl, _, _⟩ := DataW.trod_string ht hx;refine ⟨s.data.toList, .cons ?_ (.nil _)⟩;exact .lit _
inductive Flds (P : Program) : List Field → Nat → {α : Type} → En α → Prop
 | one {f : Field} {off : Nat} {α : Type} {a : En α} (ho : f.offset = off) (hc : P.cellsOf f.type = a.u) (l : Lifts P f.type a) : Flds P [f] off a
 | cons {f : Field} {r : List Field} {off : Nat} {α β : Type} {a : En α} {b : En β} (ho : f.offset = off) (hc : P.cellsOf f.type = a.u) (l : Lifts P f.type a) (h : Flds P r (off + a.u) b) : Flds P (f :: r) off (enPair a b)
theorem Flds.run {P : Program} {H : Type} {enc : TypeId × Value → H} {W : World} {base : Nat} {held : Bool} {n : Nat} {cs : List Value} {fs : List Field} {off : Nat} {α : Type} {e : En α} (hf : Flds P fs off e)
  (h : ∀ (i : Nat) (f : Field), fs[i]? = some f → ∃ x, DataW.trod enc P W base (fun _ => true) held n f.type ((cs.drop f.offset).take (P.cellsOf f.type)) = some x) : ∃ x : α, RelL (snapR W 0) (e.f x) ((cs.drop off).take e.u) := by
 induction hf with
 | one ho hc l =>
  obtain ⟨x, hx⟩ := h 0 _ rfl;rw [ho, hc] at hx;exact l _ _ _ _ _ _ _ _ hx
 | @cons f r off α β a b ho hc l _ ih =>
  obtain ⟨x, hx⟩ := h 0 _ rfl;rw [ho, hc] at hx;obtain ⟨x0, r0⟩ := l _ _ _ _ _ _ _ _ hx;obtain ⟨x1, r1⟩ := ih fun i f hf => h (i + 1) f hf
  refine ⟨(x0, x1), ?_⟩
  show RelL _ _ ((cs.drop off).take (a.u + b.u));rw [List.take_add, List.drop_drop]
  have e1 := r0;exact RelL.append r0 r1
theorem Lifts.struct {P : Program} {t : TypeId} {fs : Array Field} {α : Type} {e : En α} (ht : P.underlying t = some (.struct fs)) (ct : P.cellsOf t = e.u) (hf : Flds P fs.toList 0 e) : Lifts P t e := by
 intro H enc W base held fuel cs x hx;obtain ⟨xs, n, _, _, hl, hn, h⟩ := DataW.trod_struct ht hx;obtain ⟨v, hv⟩ := hf.run (H := H) (enc := enc) (W := W) (base := base) (held := held) (n := n) (cs := cs) fun i f hi => by
  have hi' : fs[i]? = some f := by rw [← Array.getElem?_toList]; exact hi
  have hlt : i < xs.length := by rw [hn]; exact (Array.getElem?_eq_some_iff.1 hi').1
  exact ⟨xs[i], by rw [h i f hi', List.getElem?_eq_getElem hlt]⟩
 refine ⟨v, ?_⟩
 rwa [List.drop_zero, List.take_of_length_le (by omega)] at hv
theorem Lifts.arr3 {P : Program} {t e : TypeId} {α : Type} {a : En α} (ht : P.underlying t = some (.array 3 e)) (ce : P.cellsOf e = a.u) (ct : P.cellsOf t = a.u + (a.u + a.u)) (l : Lifts P e a) : Lifts P t (enPair a (enPair a a)) := by
 intro H enc W base held fuel cs x hx;obtain ⟨xs, n, _, _, hl, hn, h⟩ := DataW.trod_array ht hx
 have h0 := h 0 (by omega)
 have h1 := h 1 (by omega)
 have h2 := h 2 (by omega);rw [List.getElem?_eq_getElem (by omega), ce, Nat.zero_mul, List.drop_zero] at h0;rw [List.getElem?_eq_getElem (by omega), ce, Nat.one_mul] at h1;rw [List.getElem?_eq_getElem (by omega), ce, show 2 * a.u = a.u + a.u by omega, ← List.drop_drop, List.take_of_length_le (by simp; omega)] at h2;obtain ⟨x0, r0⟩ := l _ _ _ _ _ _ _ _ h0;obtain ⟨x1, r1⟩ := l _ _ _ _ _ _ _ _ h1;obtain ⟨x2, r2⟩ := l _ _ _ _ _ _ _ _ h2;exact ⟨(x0, x1, x2), .glue r0 (.glue r1 r2)⟩
theorem Lifts.arr2' {P : Program} {t e : TypeId} {α : Type} {a : En α} (ht : P.underlying t = some (.array 2 e)) (ce : P.cellsOf e = a.u) (ct : P.cellsOf t = a.u + a.u) (l : Lifts P e a) : Lifts P t (enPair a a) := by
 intro H enc W base held fuel cs x hx;obtain ⟨xs, n, _, _, hl, hn, h⟩ := DataW.trod_array ht hx
 have h0 := h 0 (by omega)
 have h1 := h 1 (by omega);rw [List.getElem?_eq_getElem (by omega), ce, Nat.zero_mul, List.drop_zero] at h0;rw [List.getElem?_eq_getElem (by omega), ce, Nat.one_mul, List.take_of_length_le (by simp; omega)] at h1;obtain ⟨x0, r0⟩ := l _ _ _ _ _ _ _ _ h0;obtain ⟨x1, r1⟩ := l _ _ _ _ _ _ _ _ h1;exact ⟨(x0, x1), .glue r0 r1⟩
end Go.Am
end
section
namespace Go.Am.YtiaolgbmbhldgaaGreatDoor
open Go.Am Go.RowKit Go.Proofs
theorem li_9 : Lifts Tryz.prog 9 encStr := .str Tryz.underlying9
theorem li_22 : Lifts Tryz.prog 22 (encSl encStr) := .slice Tryz.underlying22 (by kernel_rfl) (by decide) li_9
theorem li_3 : Lifts Tryz.prog 3 encI := .int Tryz.underlying3
theorem li_86 : Lifts Tryz.prog 86 (enPair encI (enPair encI (enPair encI encI))) := .struct Tryz.underlying86 (by kernel_rfl) (.cons rfl (by kernel_rfl) li_3 (.cons rfl (by kernel_rfl) li_3 (.cons rfl (by kernel_rfl) li_3 (.one rfl (by kernel_rfl) li_3))))
theorem lm_86 : Lifts Tryz.prog 86 qW := (li_86).map fun x => ⟨⟨x.1, x.2.1, x.2.2.1, x.2.2.2⟩, rfl⟩
theorem li_23 : Lifts Tryz.prog 23 (encSl qW) := .slice Tryz.underlying23 (by kernel_rfl) (by decide) lm_86
theorem li_28 : Lifts Tryz.prog 28 (enPair encI (enPair encI encStr)) := .struct Tryz.underlying28 (by kernel_rfl) (.cons rfl (by kernel_rfl) li_3 (.cons rfl (by kernel_rfl) li_3 (.one rfl (by kernel_rfl) li_9)))
theorem li_42 : Lifts Tryz.prog 42 (enPair (enPair encI (enPair encI encStr)) (enPair encI (enPair encI (enPair encI encI)))) := .struct Tryz.underlying42 (by kernel_rfl) (.cons rfl (by kernel_rfl) li_28 (.cons rfl (by kernel_rfl) li_3 (.cons rfl (by kernel_rfl) li_3 (.cons rfl (by kernel_rfl) li_3 (.one rfl (by kernel_rfl) li_3)))))
theorem lm_42 : Lifts Tryz.prog 42 qP := (li_42).map fun x => ⟨⟨x.1.1, x.1.2.1, x.1.2.2, x.2.1, x.2.2.1, x.2.2.2.1, x.2.2.2.2⟩, rfl⟩
theorem li_24 : Lifts Tryz.prog 24 (encSl qP) := .slice Tryz.underlying24 (by kernel_rfl) (by decide) lm_42
theorem li_26 : Lifts Tryz.prog 26 (enPair (encSl encStr) (enPair (encSl qW) (encSl qP))) := .struct Tryz.underlying26 (by kernel_rfl) (.cons rfl (by kernel_rfl) li_22 (.cons rfl (by kernel_rfl) li_23 (.one rfl (by kernel_rfl) li_24)))
theorem li_63 : Lifts Tryz.prog 63 (enPair (enPair encI (enPair encI encStr)) (enPair (enPair encI (enPair encI encStr)) (enPair encI (enPair encI encStr)))) := .arr3 Tryz.underlying63 (by kernel_rfl) (by kernel_rfl) li_28
theorem li_65 : Lifts Tryz.prog 65 encU16 := .u16 Tryz.underlying65
theorem li_5 : Lifts Tryz.prog 5 encU8 := .u8 Tryz.underlying5
theorem li_71 : Lifts Tryz.prog 71 (encSl encU8) := .slice Tryz.underlying71 (by kernel_rfl) (by decide) li_5
theorem li_83 : Lifts Tryz.prog 83 (enPair encU8 encU8) := .arr2' Tryz.underlying83 (by kernel_rfl) (by kernel_rfl) li_5
theorem li_84 : Lifts Tryz.prog 84 (enPair encU16 encU16) := .arr2' Tryz.underlying84 (by kernel_rfl) (by kernel_rfl) li_65
end Go.Am.YtiaolgbmbhldgaaGreatDoor
end
section
namespace Go.Am
set_option linter.unusedVariables false
set_option linter.unusedSimpArgs false
def upto (lo hi : Int) : List Int := (List.range (hi - lo).toNat).map fun i : Nat => lo + (i : Int)
theorem upto_nil {lo hi : Int} (h : hi ≤ lo) : upto lo hi = [] := by
 unfold upto; rw [show (hi - lo).toNat = 0 by omega]; rfl
theorem upto_succ {lo hi : Int} (h : lo ≤ hi) : upto lo (hi + 1) = upto lo hi ++ [hi] := by
 unfold upto;rw [show (hi + 1 - lo).toNat = (hi - lo).toNat + 1 by omega, List.range_succ, List.map_append]
 show _ ++ [lo + ((hi - lo).toNat : Int)] = _;rw [show lo + ((hi - lo).toNat : Int) = hi by omega]
theorem mem_upto {lo hi x : Int} : x ∈ upto lo hi ↔ lo ≤ x ∧ x < hi := by
 unfold upto;simp only [List.mem_map, List.mem_range];exact ⟨fun ⟨i, h1, h2⟩ => by omega, fun h => ⟨(x - lo).toNat, by omega, by omega⟩⟩
theorem upto_len {lo hi : Int} : (upto lo hi).length = (hi - lo).toNat := by simp [upto]
theorem upto_sorted {lo hi : Int} : (upto lo hi).Pairwise (· < ·) := by
 unfold upto;rw [List.pairwise_map];exact List.pairwise_lt_range.imp fun h => by omega
theorem iter_flat {α : Type} {body : Int × List α → Option (Stp (Int × List α) (List α))} {f : Int → List α} {lo hi : Int}
  (step : ∀ s, lo ≤ s → s < hi → body (s, (upto lo s).flatMap f) = some (.ag (s + 1, (upto lo s).flatMap f ++ f s)))
  (fin : ∀ s out, lo ≤ s → ¬ s < hi → body (s, out) = some (.dn out)) : iter body (lo, []) = some ((upto lo hi).flatMap f) := by
 have key : ∀ (m : Nat) (s : Int), lo ≤ s → (hi - s).toNat = m → iter body (s, (upto lo s).flatMap f) = some ((upto lo (max s hi)).flatMap f) := by
  intro m
  induction m with
  | zero =>
   intro s h1 h2;refine iter_eq.2 (.inr ?_);rw [fin s _ h1 (by omega), show max s hi = s by omega]
  | succ m ih =>
   intro s h1 h2;refine iter_eq.2 (.inl ⟨_, step s h1 (by omega), ?_⟩)
   have := ih (s + 1) (by omega) (by omega);rw [upto_succ h1, List.flatMap_append] at this;rw [show max s hi = max (s + 1) hi by omega]
   simpa using this
 have := key _ lo (Int.le_refl _) rfl;rw [upto_nil (Int.le_refl lo)] at this
 by_cases h : lo ≤ hi
 ·rw [show max lo hi = hi by omega] at this;exact this
 ·rw [show max lo hi = lo by omega, upto_nil (Int.le_refl lo)] at this;rw [upto_nil (by omega : hi ≤ lo)];exact this
theorem flat_le {α β : Type} {f : β → List α} {n : Nat} : ∀ {l : List β}, (∀ x ∈ l, (f x).length ≤ n) → (l.flatMap f).length ≤ l.length * n
 | [], _ => by simp
 | a :: r, h => by
  have h1 := h a (by simp)
  have h2 := flat_le (l := r) fun x hx => h x (by simp [hx])
  rw [List.flatMap_cons, List.length_append, List.length_cons, Nat.add_mul];omega
def lastI (b : List Int) : Int := match b.getLast? with | some x => x | none => 0
theorem lastI_snoc (b : List Int) (s : Int) : lastI (b ++ [s]) = s := by unfold lastI; rw [List.getLast?_concat]
def risingL (sh : Int) : Nat → List Int → List (List Int)
 | 0, b => [b]
 | k + 1, b => (upto (lastI b) sh).flatMap fun s => risingL sh k (b ++ [s])
theorem rising_len {sh : Int} (hs : sh ≤ 4) : ∀ (k : Nat) (b : List Int), 0 ≤ lastI b → (risingL sh k b).length ≤ 4 ^ k
 | 0, b, _ => Nat.le_refl _
 | k + 1, b, hb => by
  have h1 := flat_le (f := fun s => risingL sh k (b ++ [s])) (n := 4 ^ k) (l := upto (lastI b) sh) fun s hs' => rising_len hs k _ (by rw [lastI_snoc]; have := mem_upto.1 hs'; omega)
  rw [upto_len] at h1
  have h2 : (sh - lastI b).toNat * 4 ^ k ≤ 4 * 4 ^ k := Nat.mul_le_mul_right _ (by omega)
  show ((upto (lastI b) sh).flatMap fun s => risingL sh k (b ++ [s])).length ≤ 4 ^ (k + 1);rw [Nat.pow_succ];omega
theorem rising_eq {sh many : Int} (hs : sh ≤ 4) : ∀ (k fuel : Nat) (b : List Int), k < fuel → (b.length : Int) + k = many → b.length + k ≤ 11 → 0 ≤ lastI b → ∃ z, P_r9_rising_N fuel b many sh = some (risingL sh k b, z)
 | k, 0, b, hf, _, _, _ => by omega
 | 0, fuel + 1, b, hf, hm, hl, hb => by
  refine ⟨false, ?_⟩
  show P_r9_rising_B (P_r9_rising_N fuel) b many sh = _;unfold P_r9_rising_B;rw [if_pos (by omega)];rfl
 | k + 1, fuel + 1, b, hf, hm, hl, hb => by
  refine ⟨true, ?_⟩
  show P_r9_rising_B (P_r9_rising_N fuel) b many sh = _;unfold P_r9_rising_B;rw [if_neg (by omega)]
  have hlow : (if (b.length : Int) > 0 then chk (I64 ((b.length : Int) - 1)) (el b ((b.length : Int) - 1) fun a23 => some a23) else some 0) = some (lastI b) := by
   by_cases h0 : b.length = 0
   ·rw [if_neg (by omega), List.eq_nil_of_length_eq_zero h0]; rfl
   ·rw [if_pos (by omega), chk_pos (i64_small (by omega))];obtain ⟨a, ha⟩ := get_some (l := b) (k := b.length - 1) (by omega);rw [show (b.length : Int) - 1 = ((b.length - 1 : Nat) : Int) by omega, el_at ha];unfold lastI;rw [List.getLast?_eq_getElem?, ha]
  have hloop : iter (P_r9_rising_L1 b many sh (P_r9_rising_N fuel)) (lastI b, ([] : List (List Int))) = some ((upto (lastI b) sh).flatMap fun s => risingL sh k (b ++ [s])) := by
   refine iter_flat (f := fun s => risingL sh k (b ++ [s])) (fun s h1 h2 => ?_) (fun s out h1 h2 => ?_)
   ·unfold P_r9_rising_L1
    show (if s < sh then _ else _) = _;obtain ⟨z, hz⟩ := rising_eq (many := many) hs k fuel (b ++ [s]) (by omega) (by simp; omega) (by simp; omega) (by rw [lastI_snoc]; omega)
    have e1 := rising_len hs k (b ++ [s]) (by rw [lastI_snoc]; omega)
    have e2 := flat_le (f := fun s => risingL sh k (b ++ [s])) (n := 4 ^ k) (l := upto (lastI b) s) fun x hx => rising_len hs k _ (by rw [lastI_snoc]; have := mem_upto.1 hx; omega)
    rw [upto_len] at e2
    have e3 : (s - lastI b).toNat * 4 ^ k ≤ 4 * 4 ^ k := Nat.mul_le_mul_right _ (by omega)
    have e4 : 4 ^ k ≤ 4 ^ 11 := Nat.pow_le_pow_right (by decide) (by omega)
    have e5 : (4 : Nat) ^ 11 = 4194304 := by decide
    rw [if_pos h2, chk_pos (by simp; omega), chk_pos (by simp; omega)]
    show andx (P_r9_rising_N fuel (b ++ [s]) many sh) _ = _;rw [hz]
    show chk _ (chk _ _) = _;rw [chk_pos (by omega), chk_pos (i64_small (by omega))]
   ·unfold P_r9_rising_L1
    show (if s < sh then _ else _) = _;rw [if_neg h2]
  rw [hlow]
  show andx (iter _ _) _ = _;rw [hloop];rfl
theorem mem_rising {sh : Int} : ∀ (k : Nat) (b l : List Int), l ∈ risingL sh k b ↔ ∃ t, l = b ++ t ∧ t.length = k ∧ (lastI b :: t).Pairwise (· ≤ ·) ∧ ∀ x ∈ t, x < sh
 | 0, b, l => by
  show l ∈ [b] ↔ _;rw [List.mem_singleton];refine ⟨fun h => ⟨[], by simp [h], rfl, by simp, by simp⟩, fun ⟨t, h1, h2, _⟩ => ?_⟩;rw [List.eq_nil_of_length_eq_zero h2] at h1
  simpa using h1
 | k + 1, b, l => by
  show l ∈ (upto (lastI b) sh).flatMap _ ↔ _;rw [List.mem_flatMap]
  constructor
  ·rintro ⟨s, hs, hl⟩;obtain ⟨t, rfl, h2, h3, h4⟩ := (mem_rising k _ _).1 hl;rw [lastI_snoc] at h3
   have hs' := mem_upto.1 hs;obtain ⟨h5, h6⟩ := List.pairwise_cons.1 h3;refine ⟨s :: t, by simp, by simp [h2], List.pairwise_cons.2 ⟨fun x hx => ?_, h3⟩, fun x hx => ?_⟩
   ·rcases List.mem_cons.1 hx with rfl | hx
    ·exact hs'.1
    ·have := h5 x hx; omega
   ·rcases List.mem_cons.1 hx with rfl | hx
    ·exact hs'.2
    ·exact h4 x hx
  ·rintro ⟨t, rfl, h2, h3, h4⟩;cases t with
   | nil => simp at h2
   | cons s t =>
    obtain ⟨h5, h6⟩ := List.pairwise_cons.1 h3;exact ⟨s, mem_upto.2 ⟨h5 s (by simp), h4 s (by simp)⟩, (mem_rising k _ _).2 ⟨t, by simp, by simpa using h2, by rw [lastI_snoc]; exact h6, fun x hx => h4 x (by simp [hx])⟩⟩
theorem lexB_append : ∀ (b x y : List Int), lexB (b ++ x) (b ++ y) = lexB x y
 | [], _, _ => rfl
 | a :: b, x, y => by
  show lexB (a :: (b ++ x)) (a :: (b ++ y)) = _;rw [lexB, if_pos rfl, lexB_append b x y]
theorem rising_order {sh : Int} : ∀ (k : Nat) (b : List Int), (risingL sh k b).Pairwise fun x y => lexB x y = true
 | 0, b => by simp [risingL]
 | k + 1, b => by
  show ((upto (lastI b) sh).flatMap _).Pairwise _;rw [List.pairwise_flatMap];refine ⟨fun s _ => rising_order k _, upto_sorted.imp fun {s s'} h x hx y hy => ?_⟩;obtain ⟨t, rfl, _⟩ := (mem_rising k _ _).1 hx;obtain ⟨t', rfl, _⟩ := (mem_rising k _ _).1 hy;rw [List.append_assoc, List.append_assoc, lexB_append]
  show lexB (s :: t) (s' :: t') = true;rw [lexB, if_neg (by omega)];exact decide_eq_true h
end Go.Am
end
section
namespace Go.Am
set_option linter.unusedVariables false
set_option linter.unusedSimpArgs false
def FirstMin (all : List (List Int)) (m : List Int → Option Int) (k : Nat) (best : Nat) (least : Int) (found : Bool) : Prop :=
 (found = false ∧ ∀ j l, j < k → all[j]? = some l → m l = none) ∨
 (found = true ∧ best < k ∧ ∃ l, all[best]? = some l ∧ m l = some least ∧ ∀ j l' n', j < k → all[j]? = some l' → m l' = some n' → least ≤ n' ∧ (j < best → least < n'))
section
variable {all : List (List Int)} {m : List Int → Option Int} {k best : Nat} {least n : Int} {found : Bool} {l : List Int}
theorem FirstMin.zero : FirstMin all m 0 best least false := .inl ⟨rfl, fun j l h => by omega⟩
theorem FirstMin.none (h : FirstMin all m k best least found) (hl : all[k]? = some l) (hm : m l = none) : FirstMin all m (k + 1) best least found := by
 rcases h with ⟨h1, h2⟩ | ⟨h1, h2, l0, h3, h4, h5⟩
 ·refine .inl ⟨h1, fun j l' hj hl' => ?_⟩
  by_cases e : j = k
  ·subst e; rw [hl] at hl'; cases hl'; exact hm
  ·exact h2 j l' (by omega) hl'
 ·refine .inr ⟨h1, by omega, l0, h3, h4, fun j l' n' hj hl' hn' => ?_⟩
  by_cases e : j = k
  ·subst e; rw [hl] at hl'; cases hl'; rw [hm] at hn'; cases hn'
  ·exact h5 j l' n' (by omega) hl' hn'
theorem FirstMin.better (h : FirstMin all m k best least found) (hl : all[k]? = some l) (hm : m l = some n) (hb : found = false ∨ n < least) : FirstMin all m (k + 1) k n true := by
 refine .inr ⟨rfl, by omega, l, hl, hm, fun j l' n' hj hl' hn' => ?_⟩
 by_cases e : j = k
 ·subst e; rw [hl] at hl'; cases hl'; rw [hm] at hn'; cases hn'; exact ⟨by omega, fun h => by omega⟩
 ·rcases h with ⟨h1, h2⟩ | ⟨h1, h2, l0, h3, h4, h5⟩
  ·rw [h2 j l' (by omega) hl'] at hn'; cases hn'
  ·rcases hb with hb | hb
   ·rw [h1] at hb; cases hb
   ·have := h5 j l' n' (by omega) hl' hn';exact ⟨by omega, fun _ => by omega⟩
theorem FirstMin.worse (h : FirstMin all m k best least true) (hl : all[k]? = some l) (hm : m l = some n) (hb : ¬ n < least) : FirstMin all m (k + 1) best least true := by
 rcases h with ⟨h1, h2⟩ | ⟨h1, h2, l0, h3, h4, h5⟩
 ·cases h1
 ·refine .inr ⟨rfl, by omega, l0, h3, h4, fun j l' n' hj hl' hn' => ?_⟩
  by_cases e : j = k
  ·subst e; rw [hl] at hl'; cases hl'; rw [hm] at hn'; cases hn'; exact ⟨by omega, fun h => by omega⟩
  ·exact h5 j l' n' (by omega) hl' hn'
theorem lexB_irr : ∀ l : List Int, lexB l l = false
 | [] => rfl
 | a :: r => by rw [lexB, if_pos rfl]; exact lexB_irr r
theorem lexB_asym : ∀ l l' : List Int, lexB l l' = true → lexB l' l = false
 | [], [], h => by cases h
 | [], b :: s, _ => rfl
 | a :: r, [], h => by cases h
 | a :: r, b :: s, h => by
  rw [lexB] at h ⊢
  by_cases e : a = b
  ·rw [if_pos e] at h; rw [if_pos e.symm]; exact lexB_asym r s h
  ·rw [if_neg e] at h; rw [if_neg fun h => e h.symm]
   have := of_decide_eq_true h;exact decide_eq_false (by omega)
theorem lexB_tot : ∀ l l' : List Int, l.length = l'.length → lexB l l' = false → lexB l' l = false → l = l'
 | [], [], _, _, _ => rfl
 | [], b :: s, h, _, _ => by simp at h
 | a :: r, [], h, _, _ => by simp at h
 | a :: r, b :: s, h, h1, h2 => by
  rw [lexB] at h1 h2
  by_cases e : a = b
  ·rw [if_pos e] at h1; rw [if_pos e.symm] at h2;rw [e, lexB_tot r s (by simpa using h) h1 h2]
  ·rw [if_neg e] at h1; rw [if_neg fun h => e h.symm] at h2
   have := of_decide_eq_false h1
   have := of_decide_eq_false h2;omega
theorem FirstMin.fin (h : FirstMin all m all.length best least found) (ho : all.Pairwise fun x y => lexB x y = true) :
  (found = false ∧ ∀ l ∈ all, m l = Option.none) ∨ (found = true ∧ nelL all best ∈ all ∧ m (nelL all best) = some least ∧ ∀ l' n', l' ∈ all → m l' = some n' → least ≤ n' ∧ (n' = least → lexB l' (nelL all best) = false)) := by
 rcases h with ⟨h1, h2⟩ | ⟨h1, h2, l0, h3, h4, h5⟩
 ·refine .inl ⟨h1, fun l hl => ?_⟩;obtain ⟨j, hj⟩ := List.getElem?_of_mem hl;exact h2 j l (List.getElem?_eq_some_iff.1 hj).1 hj
 ·refine .inr ⟨h1, ?_⟩;rw [nelL_of h3];refine ⟨List.mem_of_getElem? h3, h4, fun l' n' hl' hn' => ?_⟩;obtain ⟨j, hj⟩ := List.getElem?_of_mem hl'
  have hjl := (List.getElem?_eq_some_iff.1 hj).1;obtain ⟨g1, g2⟩ := h5 j l' n' hjl hj hn';refine ⟨g1, fun e => ?_⟩
  rcases Nat.lt_trichotomy j best with hlt | heq | hgt
  ·have := g2 hlt; omega
  ·subst heq;rw [h3] at hj; cases hj;exact lexB_irr _
  ·have h2' : best < all.length := (List.getElem?_eq_some_iff.1 h3).1
   have := List.pairwise_iff_getElem.1 ho best j h2' hjl hgt
   have e1 : all[best] = l0 := Option.some.inj ((List.getElem?_eq_getElem h2').symm.trans h3)
   have e2 : all[j] = l' := Option.some.inj ((List.getElem?_eq_getElem hjl).symm.trans hj);rw [e1, e2] at this;exact lexB_asym _ _ this
end
theorem w1_Has_eq {l : List Int} {n : Int} (hl : l.length ≤ 1000) : P_w1_Has l n = some (decide (n ∈ l)) := by
 unfold P_w1_Has;rw [iter_scanI (fun i => if l[i]? = some n then some true else none) l.length, seqx_scan]
 ·cases hf : (List.range l.length).findSome? (fun i => if l[i]? = some n then some true else none) with
  | none =>
   have := of_find_none hf;refine congrArg some (decide_eq_false fun hm => ?_).symm;obtain ⟨j, hj⟩ := List.getElem?_of_mem hm
   have h2 := this j (List.getElem?_eq_some_iff.1 hj).1;rw [if_pos hj] at h2;cases h2
  | some b =>
   obtain ⟨j, _, hj⟩ := List.exists_of_findSome?_eq_some hf
   by_cases e : l[j]? = some n
   ·rw [if_pos e] at hj;cases hj;exact congrArg some (decide_eq_true (List.mem_of_getElem? e)).symm
   ·rw [if_neg e] at hj; cases hj
 ·intro k hk _;obtain ⟨a, ha⟩ := get_some hk;unfold P_w1_Has_L1;rw [if_pos (by omega), el_at ha, chk_pos (i64_small (by omega)), ha]
  by_cases e : a = n
  ·rw [if_pos e, if_pos (by rw [e])]; rfl
  ·rw [if_neg e, if_neg (fun h => e (Option.some.inj h))]; rfl
 ·intro _;unfold P_w1_Has_L1;rw [if_neg (by omega)]
section
variable {cl : List Str} {sh : List qH} {bs books : List qA} {but clear : Int}
def RiseIn (n m : Nat) (l : List Int) : Prop := l.length = n ∧ l.Pairwise (· ≤ ·) ∧ ∀ x ∈ l, 0 ≤ x ∧ x < (m : Int)
theorem mem_rising0 {n m : Nat} {l : List Int} : l ∈ risingL m n [] ↔ RiseIn n m l := by
 rw [mem_rising]
 constructor
 ·rintro ⟨t, rfl, h2, h3, h4⟩;obtain ⟨h5, h6⟩ := List.pairwise_cons.1 h3;exact ⟨h2, h6, fun x hx => ⟨h5 x hx, h4 x hx⟩⟩
 ·rintro ⟨h1, h2, h3⟩;exact ⟨l, rfl, h1, List.pairwise_cons.2 ⟨fun x hx => (h3 x hx).1, h2⟩, fun x hx => (h3 x hx).2⟩
noncomputable def costF (sh : List qH) (books : List qA) (but clear : Int) (l : List Int) : Option Int :=
 open Classical in if ¬ clear ∈ l ∧ Arr sh books l then some (movedN books l 0 but) else none
structure FewB (sh : List qH) (books : List qA) (but clear : Int) (l : List Int) (n : Int) : Prop where
 rise : RiseIn books.length sh.length l
 ok : costF sh books but clear l = some n
 least : ∀ l' n', RiseIn books.length sh.length l' → costF sh books but clear l' = some n' → n ≤ n' ∧ (n' = n → lexB l' l = false)
theorem FewB.unique {l l' : List Int} {n n' : Int} (h : FewB sh books but clear l n) (h' : FewB sh books but clear l' n') : l = l' ∧ n = n' := by
 have h1 := h.least l' n' h'.rise h'.ok
 have h2 := h'.least l n h.rise h.ok
 have e : n = n' := by omega
 exact ⟨lexB_tot l l' (by rw [h.rise.1, h'.rise.1]) (h2.2 e) (h1.2 e.symm), e⟩
def FewRes (sh : List qH) (books : List qA) (but clear : Int) (r : List Int × Int × Bool) : Prop :=
 (r.2.2 = false ∧ ∀ l, RiseIn books.length sh.length l → costF sh books but clear l = none) ∨ (r.2.2 = true ∧ FewB sh books but clear r.1 r.2.1)
open Classical in
theorem Fewest_ok (hsh : sh.length ≤ 4) (hb : Wides books) (hl : books.length ≤ 11) : Ok (P_r9_Fewest cl sh bs books but clear) (FewRes sh books but clear) := by
 unfold P_r9_Fewest;obtain ⟨z, hz⟩ := rising_eq (sh := (sh.length : Int)) (many := (books.length : Int)) (by omega) books.length 100 [] (by omega) (by simp) (by simpa using hl) (Int.le_refl _)
 have hz' : P_r9_rising [] (books.length : Int) (sh.length : Int) = some (risingL sh.length books.length [], z) := hz;rw [hz']
 show Ok (andx (iter _ _) _) _
 have hlen := rising_len (sh := (sh.length : Int)) (by omega) books.length [] (Int.le_refl _)
 have hmem : ∀ l, l ∈ risingL sh.length books.length [] ↔ RiseIn books.length sh.length l := fun l => mem_rising0
 have hord := rising_order (sh := (sh.length : Int)) books.length [];generalize hall : risingL (sh.length : Int) books.length [] = all at hlen hmem hord ⊢
 have e4 : 4 ^ books.length ≤ 4 ^ 11 := Nat.pow_le_pow_right (by decide) (by omega)
 have e5 : (4 : Nat) ^ 11 = 4194304 := by decide
 refine Ok.andx (P := fun x => FirstMin all (costF sh books but clear) all.length x.1 x.2.1 x.2.2) ?_ ?_
 ·refine Ok.count (fun x : Nat × Int × Bool × Int => x.2.2.2) all.length (fun k x => FirstMin all (costF sh books but clear) k x.1 x.2.1 x.2.2.1) rfl FirstMin.zero ?_ ?_
  ·rintro k ⟨best, least, found, i⟩ hk hx hI;simp only at hx hI;subst hx;obtain ⟨l, hlk⟩ := get_some hk
   have hR := (hmem l).1 (List.mem_of_getElem? hlk)
   have e1 : nelL all (Int.toNat (k : Int)) = l := nelL_of (by simpa using hlk);unfold P_r9_Fewest_L1
   show Ok (if _ then _ else _) _;rw [if_pos (by omega), chk_pos (by omega), chk_pos (by omega), chk_pos (by omega), e1, w1_Has_eq (by rw [hR.1]; omega)]
   show Ok (andx (seqx (andx (if decide (clear ∈ l) = true then _ else _) _) _) _) _
   have hcnt : I64 ((k : Int) + 1) := i64_small (by omega)
   by_cases hc : clear ∈ l
   ·have hm : costF sh books but clear l = none := if_neg fun h => h.1 hc
    rw [if_pos (decide_eq_true hc)]
    show Ok (chk _ _) _;rw [chk_pos hcnt];exact .some ⟨rfl, hI.none hlk hm⟩
   ·rw [if_neg (by rw [decide_eq_false hc]; decide), r9_Arranged_eq (by omega) hb (by omega) hR.1]
    show Ok (andx (seqx (if (!decide (Arr sh books l)) = true then _ else _) _) _) _
    by_cases ha : Arr sh books l
    ·have hm : costF sh books but clear l = some (movedN books l 0 but) := if_pos ⟨hc, ha⟩;rw [if_neg (by rw [decide_eq_true ha]; decide)]
     show Ok (andx (andx (P_r9_Moved books l but) _) _) _;rw [r9_Moved_eq (by omega) hR.1];cases found with
     | false =>
      show Ok (andx (chk _ _) _) _;rw [chk_pos (by omega)]
      show Ok (chk _ _) _;rw [chk_pos hcnt];exact .some ⟨rfl, by simpa using hI.better hlk hm (.inl rfl)⟩
     | true =>
      show Ok (andx (if decide (movedN books l 0 but < least) = true then _ else _) _) _
      by_cases hlt : movedN books l 0 but < least
      ·rw [if_pos (decide_eq_true hlt), chk_pos (by omega)]
       show Ok (chk _ _) _;rw [chk_pos hcnt];exact .some ⟨rfl, by simpa using hI.better hlk hm (.inr hlt)⟩
      ·rw [if_neg (by rw [decide_eq_false hlt]; decide)]
       show Ok (chk _ _) _;rw [chk_pos hcnt];exact .some ⟨rfl, hI.worse hlk hm hlt⟩
    ·have hm : costF sh books but clear l = none := if_neg fun h => ha h.2
     rw [if_pos (by rw [decide_eq_false ha]; rfl)]
     show Ok (chk _ _) _;rw [chk_pos hcnt];exact .some ⟨rfl, hI.none hlk hm⟩
  ·rintro ⟨best, least, found, i⟩ hx hI;simp only at hx hI;subst hx;unfold P_r9_Fewest_L1
   show Ok (if _ then _ else _) _;rw [if_neg (by omega)];exact .some hI
 ·rintro ⟨best, least, found⟩ hI;refine .some ?_
  rcases (show FirstMin all _ _ _ _ _ from hI).fin hord with ⟨h1, h2⟩ | ⟨h1, h2, h3, h4⟩
  ·exact .inl ⟨h1, fun l hR => h2 l ((hmem l).2 hR)⟩
  ·exact .inr ⟨h1, (hmem _).1 h2, h3, fun l' n' hR hn => h4 l' n' ((hmem l').2 hR) hn⟩
end
end Go.Am
end
section
namespace Go.Am
set_option linter.unusedVariables false
set_option linter.unusedSimpArgs false
section
variable {sh : List qH} {mv mv' : Int → Int → Int} {books : List qA} {a0 : qH} {but clear : Int}
theorem stand_arr' {ls : List Nat} (h0 : sh[0]? = some a0) :
  Stand sh mv books 0 0 a0.wide ls ↔ (ls.length = books.length ∧ (∀ n ∈ ls, n < sh.length) ∧ Arr sh books (intsOf ls)) ∧ ∀ (j n : Nat), ls[j]? = some n → mv j n ≠ 1000 := by
 have cap : ∀ (n : Nat) (a : qH), sh[n]? = some a → capAt a n 0 a0.wide = a.wide := fun n a ha => by
  unfold capAt
  by_cases e : n = 0
  ·subst e; rw [h0] at ha; cases ha; rw [if_pos rfl]
  ·rw [if_neg e]
 refine ⟨fun h => ⟨⟨h.len, fun n hn => (h.from_ n hn).2, (up_iff ls).2 h.up, fun s a ha => ?_⟩, fun j n hj => by have := h.may j n hj; rwa [Nat.zero_add] at this⟩, fun ⟨⟨h1, h2, h3, h4⟩, h5⟩ => ⟨h1, fun n hn => ⟨Nat.zero_le _, h2 n hn⟩, (up_iff ls).1 h3, fun n a ha _ => ?_, fun j n hj => by rw [Nat.zero_add]; exact h5 j n hj⟩⟩
 ·obtain ⟨r1, r2⟩ := h.room s a ha (Nat.zero_le _);rw [cap s a ha] at r1;exact ⟨r2, r1⟩
 ·obtain ⟨r1, r2⟩ := h4 n a ha;rw [cap n a ha];exact ⟨r2, r1⟩
theorem cost_congr : ∀ (ls : List Nat) (k : Nat), (∀ (j n : Nat), ls[j]? = some n → mv ((k + j : Nat) : Int) n = mv' ((k + j : Nat) : Int) n) → cost mv k ls = cost mv' k ls
 | [], _, _ => rfl
 | n :: ls, k, h => by
  have h0 := h 0 n rfl
  have ih := cost_congr ls (k + 1) fun j n hj => by
   have := h (j + 1) n (by simpa using hj)
   rwa [show k + (j + 1) = k + 1 + j by omega] at this
  rw [Nat.add_zero] at h0;unfold cost;rw [h0, ih]
theorem rise_nat {l : List Int} {n m : Nat} (h : RiseIn n m l) : ∃ ls : List Nat, l = intsOf ls ∧ ls.length = n ∧ (∀ x ∈ ls, x < m) ∧ ls.Pairwise (· ≤ ·) := by
 refine ⟨l.map Int.toNat, ?_, by simp [h.1], fun x hx => ?_, ?_⟩
 ·unfold intsOf;rw [List.map_map]
  have : l.map ((fun n : Nat => (n : Int)) ∘ Int.toNat) = l.map id := List.map_congr_left fun x hx => by
   have := h.2.2 x hx
   show ((x.toNat : Nat) : Int) = x;omega
  rw [this, List.map_id]
 ·obtain ⟨y, hy, rfl⟩ := List.mem_map.1 hx
  have := h.2.2 y hy;omega
 ·rw [List.pairwise_map];exact h.2.1.imp fun h => by omega
theorem rise_of {ls : List Nat} {m : Nat} (h2 : ∀ n ∈ ls, n < m) (h3 : ls.Pairwise (· ≤ ·)) : RiseIn ls.length m (intsOf ls) := by
 refine ⟨intsOf_len ls, ?_, fun x hx => ?_⟩
 ·unfold intsOf;rw [List.pairwise_map];exact h3.imp fun h => by omega
 ·obtain ⟨n, hn, rfl⟩ := List.mem_map.1 hx
  have := h2 n hn;omega
structure Counts (mv : Int → Int → Int) (n m : Nat) (books : List qA) (but clear : Int) : Prop where
 low : ∀ i k, 0 ≤ mv i k
 no : ∀ (i k : Nat), i < n → k < m → (k : Int) = clear → mv i k = 1000
 own : ∀ (i k : Nat), i < n → k < m → (k : Int) ≠ clear → mv i k = ownMv books but i k
theorem best_few (hc : Counts mv books.length sh.length books but clear) (h0 : sh[0]? = some a0) (hw : Wides books) (h11 : books.length ≤ 11) (hsh : ∀ (n : Nat) (a : qH), sh[n]? = some a → 0 ≤ a.wide) :
  ((bestW sh mv books 0 0 a0.wide).1 < 1000 → FewB sh books but clear (bestW sh mv books 0 0 a0.wide).2 (bestW sh mv books 0 0 a0.wide).1) ∧
  (¬ (bestW sh mv books 0 0 a0.wide).1 < 1000 → ∀ l, RiseIn books.length sh.length l → costF sh books but clear l = none) := by
 have hB := bestW_spec (sh := sh) hc.low books 0 0 a0.wide;generalize bestW sh mv books 0 0 a0.wide = w at hB
 have hfs : ∀ ls, feas sh mv books 0 0 a0.wide ls ↔ (ls.length = books.length ∧ (∀ n ∈ ls, n < sh.length) ∧ Arr sh books (intsOf ls)) ∧ ∀ (j n : Nat), ls[j]? = some n → mv j n ≠ 1000 := fun ls =>
  (feas_stand hsh books 0 0 a0.wide ls hw (hsh 0 a0 h0)).trans (stand_arr' h0)
 have key : ∀ ls : List Nat, ls.length = books.length → (∀ n ∈ ls, n < sh.length) →
   ((∀ (j n : Nat), ls[j]? = some n → mv j n ≠ 1000) ↔ ¬ clear ∈ intsOf ls) ∧ (¬ clear ∈ intsOf ls → cost mv 0 ls = movedN books (intsOf ls) 0 but) := by
  intro ls h1 h2;refine ⟨⟨fun h hm => ?_, fun h j n hj e => ?_⟩, fun h => ?_⟩
  ·obtain ⟨n, hn, e⟩ := List.mem_map.1 hm;obtain ⟨j, hj⟩ := List.getElem?_of_mem hn
   have hjl := (List.getElem?_eq_some_iff.1 hj).1;exact h j n hj (hc.no j n (by omega) (h2 n hn) e)
  ·have hjl := (List.getElem?_eq_some_iff.1 hj).1
   have hn := List.mem_of_getElem? hj
   by_cases e2 : (n : Int) = clear
   ·exact h (List.mem_map.2 ⟨n, hn, e2⟩)
   ·have e3 := hc.own j n (by omega) (h2 n hn) e2
    have := ownMv_rng (books := books) but (j : Int) (n : Int);omega
  ·have : cost mv 0 ls = cost (ownMv books but) 0 ls := cost_congr ls 0 fun j n hj => by
    have hjl := (List.getElem?_eq_some_iff.1 hj).1
    have hn := List.mem_of_getElem? hj;rw [Nat.zero_add];exact hc.own j n (by omega) (h2 n hn) fun e => h (List.mem_map.2 ⟨n, hn, e⟩)
   rw [this, cost_moved 0 ls (by omega)];rfl
 have all : ∀ l n, RiseIn books.length sh.length l → costF sh books but clear l = some n → ∃ ls, l = intsOf ls ∧ feas sh mv books 0 0 a0.wide ls ∧ cost mv 0 ls = n := by
  intro l n hR hn;unfold costF at hn;split at hn
  ·rename_i hok
   obtain ⟨ls, rfl, h1, h2, h3⟩ := rise_nat hR;obtain ⟨k1, k2⟩ := key ls h1 h2;refine ⟨ls, rfl, (hfs ls).2 ⟨⟨h1, h2, hok.2⟩, k1.2 hok.1⟩, ?_⟩;rw [k2 hok.1];exact Option.some.inj hn
  ·cases hn
 have lim : ∀ l : List Int, movedN books l 0 but < 1000 := fun l => by
  have := movedN_bound books l 0 but;omega
 refine ⟨fun hlt => ?_, fun hnl l hR => ?_⟩
 ·obtain ⟨ls, e1, e2, e3⟩ := hB.found hlt;obtain ⟨⟨h1, h2, h3⟩, h4⟩ := (hfs ls).1 e2;obtain ⟨k1, k2⟩ := key ls h1 h2
  have hcl := k1.1 h4;refine ⟨?_, ?_, fun l' n' hR' hn' => ?_⟩
  ·rw [e1, ← h1];exact rise_of h2 ((up_iff ls).1 h3.1)
  ·unfold costF;rw [e1, if_pos ⟨hcl, h3⟩, ← k2 hcl, e3]
  ·obtain ⟨ls', rfl, f1, f2⟩ := all l' n' hR' hn'
   have hlt' : cost mv 0 ls' < 1000 := by
    unfold costF at hn';split at hn'
    ·have := lim (intsOf ls')
     have := Option.some.inj hn';omega
    ·cases hn'
   obtain ⟨g1, g2⟩ := hB.least ls' f1 hlt';exact ⟨by omega, fun e => g2 (by omega)⟩
 ·cases hn : costF sh books but clear l with
  | none => rfl
  | some n =>
   obtain ⟨ls, rfl, f1, f2⟩ := all l n hR hn
   have hlt' : cost mv 0 ls < 1000 := by
    unfold costF at hn;split at hn
    ·have := lim (intsOf ls)
     have := Option.some.inj hn;omega
    ·cases hn
   have := (hB.least ls f1 hlt').1;omega
end
end Go.Am
end
section
namespace Go.Am
set_option linter.unusedVariables false
set_option linter.unusedSimpArgs false
theorem ints_loop {a b : List Int} (h : a.length = b.length) (hl : a.length ≤ 1000) : iter (P_w1_Ints_L1 a b) (true, 0) = some (decide (a = b)) := by
 refine Ok.get ?_;refine Ok.iter (fun s : Bool × Int => ∃ k : Nat, k ≤ a.length ∧ s.2 = k ∧ ((s.1 = true ∧ a.take k = b.take k) ∨ (s.1 = false ∧ a ≠ b))) (fun s => (if s.1 then 1 else 0) * (a.length + 1 - s.2.toNat)) ⟨0, Nat.zero_le _, rfl, .inl ⟨rfl, rfl⟩⟩ ?_;rintro ⟨same, i⟩ ⟨k, hk, hi, hs⟩;simp only at hi hs;subst hi;unfold P_w1_Ints_L1
 rcases hs with ⟨rfl, hs⟩ | ⟨rfl, hs⟩
 ·by_cases hlt : k < a.length
  ·obtain ⟨x, hx⟩ := get_some hlt;obtain ⟨y, hy⟩ := get_some (l := b) (k := k) (by omega)
   show Ok (seqx (andx (some (true, decide ((k : Int) < (a.length : Int)))) _) _) _;rw [decide_eq_true (show (k : Int) < (a.length : Int) by omega)]
   show Ok (el a (k : Int) _) _;rw [el_at hx, el_at hy];refine .chk (i64_small (by omega)) (.some ⟨⟨k + 1, by omega, rfl, ?_⟩, ?_⟩)
   ·by_cases e : x = y
    ·refine .inl ⟨decide_eq_true e, ?_⟩;rw [take_step hx, take_step hy, hs, e]
    ·refine .inr ⟨decide_eq_false e, fun h => e ?_⟩;rw [h] at hx;rw [hx] at hy;exact Option.some.inj hy
   ·show (if decide (x = y) = true then 1 else 0) * (a.length + 1 - ((k : Int) + 1).toNat) < (if true = true then 1 else 0) * (a.length + 1 - (k : Int).toNat)
    have h1 : ((k : Int) + 1).toNat = k + 1 := by omega
    have h2 : ((k : Int)).toNat = k := by omega
    rw [h1, h2, show (if true = true then (1 : Nat) else 0) = 1 from rfl]
    by_cases e : x = y
    ·rw [if_pos (decide_eq_true e)]; omega
    ·rw [if_neg (by rw [decide_eq_false e]; decide)]; omega
  ·have : k = a.length := by omega
   subst this
   show Ok (seqx (andx (some (true, decide (((a.length : Nat) : Int) < (a.length : Int)))) _) _) _;rw [decide_eq_false (by omega)];refine .some ?_
   show true = _;rw [List.take_length, h, List.take_length] at hs;exact (decide_eq_true hs).symm
 ·refine .some ?_
  show false = _;exact (decide_eq_false hs).symm
theorem w1_Ints_eq {a b : List Int} (hl : a.length ≤ 1000) : P_w1_Ints a b = some (decide (a = b)) := by
 unfold P_w1_Ints
 by_cases h : a.length = b.length
 ·rw [decide_eq_true (show (a.length : Int) = (b.length : Int) by omega), ints_loop h hl]; rfl
 ·rw [decide_eq_false (show ¬ (a.length : Int) = (b.length : Int) by omega)]
  have : iter (P_w1_Ints_L1 a b) (false, 0) = some false := iter_eq.2 (.inr rfl);rw [this, decide_eq_false fun e => h (by rw [e])]; rfl
theorem w1_Ints_refl {a : List Int} (hl : a.length ≤ 1000) : P_w1_Ints a a = some true := by rw [w1_Ints_eq hl, decide_eq_true rfl]
section
variable {cl : List Str} {sh : List qH} {bs books : List qA} {but clear : Int}
theorem own_eq {i : Nat} {n : Int} (hi : i < books.length) : P_s9_own cl sh books i n = some (ownMv books (-1) i n) := by
 obtain ⟨b, hb⟩ := get_some hi;unfold P_s9_own ownMv;rw [el_at hb, if_neg (show ¬ (i : Int) = -1 by omega)];simp only [Int.toNat_natCast, hb];split <;> rfl
def cntF (books : List qA) (but clear : Int) (i n : Int) : Int := if n = clear then 1000 else ownMv books but i n
theorem arrange_ok {F : Int → Int → Option Int} (hF : ∀ i n : Nat, i < books.length → n < sh.length → F i n = some (cntF books but clear i n)) (hs : 1 ≤ sh.length ∧ sh.length ≤ 4) (hw : Wides books) (h11 : books.length ≤ 11)
    (hsh : ∀ (n : Nat) (a : qH), sh[n]? = some a → 0 ≤ a.wide ∧ a.wide ≤ 2000) :
    ∃ m l, P_s9_arrange sh books F = some (m, l) ∧ ((m < 1000 ∧ FewB sh books but clear (l.take books.length) m) ∨ (¬ m < 1000 ∧ ∀ l, RiseIn books.length sh.length l → costF sh books but clear l = none)) := by
  obtain ⟨a0, ha0⟩ := get_some (l := sh) (k := 0) (by omega)
  have hv : ∀ i n : Nat, i < books.length → n < sh.length → mvOf F i n = cntF books but clear i n := fun i n hi hn => mvOf_of (hF i n hi hn) (by
    unfold cntF
    have := ownMv_rng (books := books) but (i : Int) (n : Int)
    split <;> omega)
  have hc : Counts (mvOf F) books.length sh.length books but clear := ⟨fun i n => (mvOf_rng F i n).1, fun i n hi hn e => by rw [hv i n hi hn]; unfold cntF; rw [if_pos e], fun i n hi hn e => by rw [hv i n hi hn]; unfold cntF; rw [if_neg e]⟩
  have hok : ArrOk sh books F := ⟨⟨h11, by omega⟩, fun b hb => by have := hw b hb; omega, fun a ha => by
      obtain ⟨j, hj⟩ := List.getElem?_of_mem ha
      have := hsh j a hj
      omega, fun i n hi hn => by rw [hF i n hi hn, hv i n hi hn]⟩
  have hb := best_few hc ha0 hw h11 fun n a ha => (hsh n a ha).1
  refine ⟨(wayOf sh books F a0).1, arrW 0 (wayOf sh books F a0), ?_, ?_⟩
  · unfold P_s9_arrange
    rw [show el sh 0 = el sh ((0 : Nat) : Int) from rfl, el_at ha0, chk_pos hok]
  · by_cases hlt : (wayOf sh books F a0).1 < 1000
    · have h1 := hb.1 hlt
      refine .inl ⟨hlt, ?_⟩
      have e : (arrW 0 (wayOf sh books F a0)).take books.length = (wayOf sh books F a0).2 := by
        unfold arrW
        rw [if_pos hlt]
        have : (wayOf sh books F a0).2.length = books.length := h1.rise.1
        rw [List.replicate_zero, List.nil_append, ← this, List.take_left]
      rw [e]
      exact h1
    · exact .inr ⟨hlt, hb.2 hlt⟩
end
section
variable {cl : List Str} {sh : List qH} {bs books : List qA} {b : qA}
open Classical in
theorem furE_zero (h : furE cl sh bs b = 0) : Fine cl sh bs ∧ (1 ≤ b.wide ∧ b.wide ≤ 2000) ∧ (1 ≤ b.high ∧ b.high ≤ 2000) ∧ mkErr cl.length b.qR b.qS b.qQ = 0 ∧ Rises bs ∧ ¬ twice bs b.qR b.qS b.qQ := by
 unfold furE at h
 by_cases h0 : roomN cl sh bs = 0
 ·rw [if_pos h0] at h
  by_cases h1 : bkErr1 cl.length b.qR b.qS b.qQ b.wide b.high b.heavy bs = 0
  ·rw [if_pos h1] at h
   by_cases h2 : Rises bs
   ·refine ⟨roomN_zero.1 h0, ?_⟩;unfold bkErr1 at h1
    by_cases g : mkErr cl.length b.qR b.qS b.qQ = 0
    ·rw [if_pos g] at h1
     by_cases g2 : bkRange b.wide b.high b.heavy
     ·rw [if_pos g2] at h1
      by_cases g3 : twice bs b.qR b.qS b.qQ
      ·rw [if_pos g3] at h1; cases h1
      ·exact ⟨g2.1, g2.2.1, g, h2, g3⟩
     ·rw [if_neg g2] at h1; cases h1
    ·rw [if_neg g] at h1; exact absurd h1 g
   ·rw [if_neg h2] at h; cases h
  ·rw [if_neg h1] at h; exact absurd h h1
 ·rw [if_neg h0] at h; exact absurd h h0
theorem inserted_len : (insertedB bs b).length = bs.length + 1 := by
 have := place_le bs b;unfold insertedB;simp only [List.length_append, List.length_take, List.length_cons, List.length_drop];omega
theorem inserted_wides (h : Fine cl sh bs) (hb : 1 ≤ b.wide ∧ b.wide ≤ 2000) : Wides (insertedB bs b) := fun c hc => by
 unfold insertedB at hc
 rcases List.mem_append.1 hc with hc | hc
 ·exact h.wides c (List.mem_of_mem_take hc)
 ·rcases List.mem_cons.1 hc with rfl | hc
  ·exact hb
  ·exact h.wides c (List.mem_of_mem_drop hc)
theorem Fine.shw (h : Fine cl sh bs) (n : Nat) (a : qH) (ha : sh[n]? = some a) : 0 ≤ a.wide ∧ a.wide ≤ 2000 := by
 have := (h.shelf ha).2.1;unfold btw at this;omega
def PutIs (cl : List Str) (sh : List qH) (bs : List qA) (b : qA) (r : Int × Int × List Int × Int) : Prop :=
 (furE cl sh bs b ≠ 0 ∧ r = (0, 0, [], furE cl sh bs b)) ∨ (furE cl sh bs b = 0 ∧ bs.length = 10 ∧ r = (0, 0, [], 3)) ∨
 (furE cl sh bs b = 0 ∧ bs.length ≠ 10 ∧ (∀ l, RiseIn (bs.length + 1) sh.length l → costF sh (insertedB bs b) (place bs b) (-1) l = none) ∧ r = (0, 0, [], 9)) ∨
 (furE cl sh bs b = 0 ∧ bs.length ≠ 10 ∧ ∃ l n, FewB sh (insertedB bs b) (place bs b) (-1) l n ∧ r = ((place bs b : Int), n, l, 0))
theorem few_none {but clear : Int} {l : List Int} {n : Int} (h : FewB sh books but clear l n) (h' : ∀ l, RiseIn books.length sh.length l → costF sh books but clear l = none) : False := by
 have := h' l h.rise;rw [h.ok] at this;cases this
theorem PutIs.unique {r r' : Int × Int × List Int × Int} (h : PutIs cl sh bs b r) (h' : PutIs cl sh bs b r') : r = r' := by
  have hl := inserted_len (bs := bs) (b := b)
  rcases h with ⟨a1, a2⟩ | ⟨a1, a2, a3⟩ | ⟨a1, a2, a3, a4⟩ | ⟨a1, a2, l, n, a3, a4⟩ <;> rcases h' with ⟨b1, b2⟩ | ⟨b1, b2, b3⟩ | ⟨b1, b2, b3, b4⟩ | ⟨b1, b2, l', n', b3, b4⟩ <;>
    first
    | (exfalso; omega)
    | (rw [a2, b2]; done)
    | (rw [a3, b3]; done)
    | (rw [a4, b4]; done)
    | skip
  · exact (few_none b3 (by rw [hl]; exact a3)).elim
  · exact (few_none a3 (by rw [hl]; exact b3)).elim
  · obtain ⟨e1, e2⟩ := a3.unique b3
    rw [a4, b4, e1, e2]
theorem r9_Put_ok : Ok (P_r9_Put cl sh bs b.qR b.qS b.qQ b.wide b.high b.heavy b.shelf) (PutIs cl sh bs b) := by
 unfold P_r9_Put;rw [r9_Further_eq, andx_some']
 by_cases h : furE cl sh bs b = 0
 ·obtain ⟨hF, hw, hh, hm, hr, ht⟩ := furE_zero h
  have hl := inserted_len (bs := bs) (b := b)
  have h10 := hF.bs1;rw [if_pos h, andx_some']
  by_cases g : bs.length = 10
  ·rw [decide_eq_true (show (bs.length : Int) = 10 by omega)];exact .some (.inr (.inl ⟨h, g, rfl⟩))
  ·rw [decide_eq_false (show ¬ (bs.length : Int) = 10 by omega), if_neg (by decide), andx_some', if_neg (not_not_intro h), r9_With_eq hF.marks.shorts (markOk_bound hm).2.2.1 (by omega), andx_some'];refine Ok.andx (Fewest_ok (by have := hF.sh1; omega) (inserted_wides hF hw) (by omega)) ?_;rintro ⟨l, n, f⟩ hres
   rcases hres with ⟨h1, h2⟩ | ⟨h1, h2⟩
   ·simp only at h1;subst h1;refine .some (.inr (.inr (.inl ⟨h, g, ?_, rfl⟩)));rw [← hl]; exact h2
   ·simp only at h1;subst h1;exact .some (.inr (.inr (.inr ⟨h, g, l, n, h2, rfl⟩)))
 ·rw [if_neg h, andx_some']
  show Ok (andx (some _) _) _;rw [andx_some', if_pos h];exact .some (.inl ⟨h, rfl⟩)
theorem s9_Put_ok : Ok (P_s9_Put cl sh bs b.qR b.qS b.qQ b.wide b.high b.heavy b.shelf) fun r => PutIs cl sh bs b (r.1, r.2.1, r.2.2.1, r.2.2.2.2) := by
  unfold P_s9_Put
  rw [show (⟨b.qR, b.qS, b.qQ, b.wide, b.high, b.heavy, b.shelf⟩ : qA) = b from rfl, s9_enter_eq, andx_some']
  by_cases h : furE cl sh bs b = 0
  · obtain ⟨hF, hw, hh, hm, hr, ht⟩ := furE_zero h
    have hl := inserted_len (bs := bs) (b := b)
    have h10 := hF.bs1
    rw [if_pos h]
    show Ok (if _ then _ else _) _
    rw [if_neg (by decide)]
    by_cases g : bs.length = 10
    · rw [if_pos (show (bs.length : Int) = 10 by omega)]
      exact .some (.inr (.inl ⟨h, g, rfl⟩))
    · rw [if_neg (show ¬ (bs.length : Int) = 10 by omega)]
      obtain ⟨m, l, e1, e2⟩ := arrange_ok (sh := sh) (books := insertedB bs b) (but := (place bs b : Int)) (clear := -1) (F := fun i_ n_ => P_s9_Put1 i_ n_ (place bs b : Int) cl sh (insertedB bs b)) (fun i n hi hn => by
        unfold P_s9_Put1 cntF
        rw [if_neg (show ¬ (n : Int) = -1 by omega)]
        by_cases e : (i : Int) = (place bs b : Int)
        · rw [if_pos e]; unfold ownMv; rw [if_pos e]
        · rw [if_neg e, own_eq hi, andx_some']
          unfold ownMv
          rw [if_neg e, if_neg (show ¬ (i : Int) = -1 by omega)]) hF.sh1 (inserted_wides hF hw) (by omega) hF.shw
      rw [e1, andx_some']
      dsimp only
      rcases e2 with ⟨h1, h2⟩ | ⟨h1, h2⟩
      · rw [if_neg (by omega), chk_pos (by omega)]
        rw [Int.toNat_natCast]
        exact .some (.inr (.inr (.inr ⟨h, g, _, _, h2, rfl⟩)))
      · rw [if_pos (by omega)]
        refine .some (.inr (.inr (.inl ⟨h, g, ?_, rfl⟩)))
        rw [← hl]; exact h2
  · rw [if_neg h]
    show Ok (if _ then _ else _) _
    rw [if_pos h]
    exact .some (.inl ⟨h, rfl⟩)
end
end Go.Am
end
section
namespace Go.Am
set_option linter.unusedVariables false
set_option linter.unusedSimpArgs false
theorem el_int {α β : Type} {l : List α} {x : Int} {a : α} {g : α → Option β} (h0 : 0 ≤ x) (ha : l[x.toNat]? = some a) : el l x g = g a := by
 unfold el;rw [if_pos h0, ha]
section
variable {cl : List Str} {sh : List qH} {bs books : List qA} {s : Int}
end
end Go.Am
end
section
namespace Go.Am
set_option linter.unusedVariables false
set_option linter.unusedSimpArgs false
section
variable {cl : List Str} {sh : List qH} {bs books : List qA} {s : Int}
end
end Go.Am
end
section
namespace Go.Am
set_option linter.unusedVariables false
set_option linter.unusedSimpArgs false
section
variable {cl : List Str} {sh : List qH} {bs books : List qA} {s : Int}
theorem PutIs.len {b : qA} {r : Int × Int × List Int × Int} (h : PutIs cl sh bs b r) : r.2.2.1.length ≤ 11 := by
 rcases h with ⟨_, rfl⟩ | ⟨_, _, rfl⟩ | ⟨_, _, _, rfl⟩ | ⟨hz, _, l, n, h, rfl⟩
 ·exact Nat.zero_le _
 ·exact Nat.zero_le _
 ·exact Nat.zero_le _
 ·have h2 := h.rise.1
  have h3 := inserted_len (bs := bs) (b := b)
  have h4 := (furE_zero hz).1.bs1;simp only;omega
end
end Go.Am
end
section
namespace Go.Am
set_option linter.unusedVariables false
set_option linter.unusedSimpArgs false
section
variable {cl : List Str} {sh : List qH} {bs books : List qA} {b : qA}
theorem inserted_at : (insertedB bs b)[place bs b]? = some b := by
 have := place_le bs b;unfold insertedB;rw [List.getElem?_append_right (by simp; omega)];simp [show place bs b - min (place bs b) bs.length = 0 by omega]
theorem inserted_ne {i : Nat} {c : qA} (hi : i ≠ place bs b) (h : (insertedB bs b)[i]? = some c) : c ∈ bs := by
 have := place_le bs b;unfold insertedB at h
 by_cases hlt : i < place bs b
 ·rw [List.getElem?_append_left (by simp; omega)] at h;exact List.mem_of_mem_take (List.mem_of_getElem? h)
 ·rw [List.getElem?_append_right (by simp; omega)] at h
  have hm : min (place bs b) bs.length = place bs b := by omega
  rw [List.length_take, hm, show i - place bs b = (i - place bs b - 1) + 1 by omega, List.getElem?_cons_succ] at h;exact List.mem_of_mem_drop (List.mem_of_getElem? h)
def ownAt (books : List qA) (at_ : Nat) (s : Int) : List Int := (books.map (·.shelf)).set at_ s
theorem ownAt_len {a : Nat} {s : Int} : (ownAt books a s).length = books.length := by simp [ownAt]
theorem ownAt_get {a i : Nat} {s : Int} {c : qA} (h : books[i]? = some c) : (ownAt books a s)[i]? = some (if i = a then s else c.shelf) := by
 unfold ownAt;rw [List.getElem?_set]
 have hi := (List.getElem?_eq_some_iff.1 h).1
 by_cases e : a = i
 ·subst e;rw [if_pos rfl, if_pos (by simpa using hi), if_pos rfl]
 ·rw [if_neg e, if_neg fun h => e h.symm, List.getElem?_map, h];rfl
theorem arr_run {F : Int → Int → Option Int} {a0 : qH} (ha0 : sh[0]? = some a0) (hF : ∀ i n : Nat, i < books.length → n < sh.length → ∃ v, F i n = some v ∧ 0 ≤ v ∧ v ≤ 1000) (hs : sh.length ≤ 4) (hw : Wides books) (h11 : books.length ≤ 11)
    (hsh : ∀ (n : Nat) (a : qH), sh[n]? = some a → 0 ≤ a.wide ∧ a.wide ≤ 2000) : P_s9_arrange sh books F = some ((wayOf sh books F a0).1, arrW 0 (wayOf sh books F a0)) := by
  have hok : ArrOk sh books F := ⟨⟨h11, by omega⟩, fun b hb => by have := hw b hb; omega, fun a ha => by
      obtain ⟨j, hj⟩ := List.getElem?_of_mem ha
      have := hsh j a hj
      omega, fun i n hi hn => by
      obtain ⟨v, h1, h2, h3⟩ := hF i n hi hn
      rw [mvOf_of h1 ⟨h2, h3⟩, h1]⟩
  unfold P_s9_arrange
  rw [show el sh 0 = el sh ((0 : Nat) : Int) from rfl, el_at ha0, chk_pos hok]
theorem fits_key {F : Int → Int → Option Int} {o : List Int} {a0 : qH} (ha0 : sh[0]? = some a0) (ho : o.length = books.length) (hF : ∀ i n : Nat, i < books.length → n < sh.length → F i n = some (if o[i]? = some (n : Int) then 0 else 1000))
  (hr : ∀ x ∈ o, 0 ≤ x ∧ x < (sh.length : Int)) (hw : Wides books) (h11 : books.length ≤ 11) (hsh : ∀ (n : Nat) (a : qH), sh[n]? = some a → 0 ≤ a.wide ∧ a.wide ≤ 2000) :
  ((wayOf sh books F a0).1 = 0 ∧ arrW 0 (wayOf sh books F a0) = o ++ List.replicate (11 - books.length) 0) ↔ Arr sh books o := by
 have hB := bestW_spec (sh := sh) (fun i n => (mvOf_rng F i n).1) books 0 0 a0.wide
 have hmv : ∀ i n : Nat, i < books.length → n < sh.length → mvOf F i n = if o[i]? = some (n : Int) then 0 else 1000 := fun i n hi hn => mvOf_of (hF i n hi hn) (by split <;> omega)
 have hfs : ∀ ls, feas sh (mvOf F) books 0 0 a0.wide ls ↔ (ls.length = books.length ∧ (∀ n ∈ ls, n < sh.length) ∧ Arr sh books (intsOf ls)) ∧ ∀ (j n : Nat), ls[j]? = some n → mvOf F j n ≠ 1000 := fun ls =>
  (feas_stand (fun n a ha => (hsh n a ha).1) books 0 0 a0.wide ls hw (hsh 0 a0 ha0).1).trans (stand_arr' ha0)
 have huniq : ∀ ls : List Nat, ls.length = books.length → (∀ n ∈ ls, n < sh.length) → (∀ (j n : Nat), ls[j]? = some n → mvOf F j n ≠ 1000) → intsOf ls = o := by
  intro ls h1 h2 h3;refine List.ext_getElem? fun j => ?_
  unfold intsOf;rw [List.getElem?_map];cases hj : ls[j]? with
  | none =>
   have := List.getElem?_eq_none_iff.1 hj;rw [List.getElem?_eq_none (by omega)];rfl
  | some n =>
   have hjl := (List.getElem?_eq_some_iff.1 hj).1
   have h4 := h3 j n hj;rw [hmv j n (by omega) (h2 n (List.mem_of_getElem? hj))] at h4
   by_cases e : o[j]? = some (n : Int)
   ·rw [e]; rfl
   ·rw [if_neg e] at h4; exact absurd rfl h4
 have hlow := hB.low
 have hfound : (bestW sh (mvOf F) books 0 0 a0.wide).1 < 1000 → (bestW sh (mvOf F) books 0 0 a0.wide).2 = o ∧ Arr sh books o := fun hlt => by
  obtain ⟨ls, e1, e2, e3⟩ := hB.found hlt;obtain ⟨⟨h1, h2, h3⟩, h4⟩ := (hfs ls).1 e2
  have e := huniq ls h1 h2 h4;rw [e1];exact ⟨e, by rw [e] at h3; exact h3⟩
 unfold wayOf;refine ⟨fun ⟨h1, h2⟩ => (hfound (by omega)).2, fun h => ?_⟩
 have hls : intsOf (o.map Int.toNat) = o := by
  unfold intsOf;rw [List.map_map]
  have : o.map ((fun n : Nat => (n : Int)) ∘ Int.toNat) = o.map id := List.map_congr_left fun x hx => by
   have := hr x hx
   show ((x.toNat : Nat) : Int) = x;omega
  rw [this, List.map_id]
 have hzero : ∀ (j n : Nat), (o.map Int.toNat)[j]? = some n → mvOf F j n = 0 := fun j n hj => by
  rw [List.getElem?_map, Option.map_eq_some_iff] at hj;obtain ⟨x, hx, rfl⟩ := hj
  have hxr := hr x (List.mem_of_getElem? hx)
  have hjl := (List.getElem?_eq_some_iff.1 hx).1;rw [hmv j x.toNat (by omega) (by omega), if_pos (by rw [hx]; congr 1; omega)]
 have hfe : feas sh (mvOf F) books 0 0 a0.wide (o.map Int.toNat) := by
  refine (hfs _).2 ⟨⟨by simp [ho], fun n hn => ?_, by rw [hls]; exact h⟩, fun j n hj => by rw [hzero j n hj]; decide⟩;obtain ⟨x, hx, rfl⟩ := List.mem_map.1 hn
  have := hr x hx;omega
 have hcost : ∀ (ls : List Nat) (k : Nat), (∀ (j n : Nat), ls[j]? = some n → mvOf F ((k + j : Nat) : Int) n = 0) → cost (mvOf F) k ls = 0 := by
  intro ls
  induction ls with
  | nil => intro k _; rfl
  | cons n ls ih =>
   intro k hk
   have h0 := hk 0 n rfl;rw [Nat.add_zero] at h0
   have h1 := ih (k + 1) fun j m hj => by
    have := hk (j + 1) m (by simpa using hj)
    rwa [show k + (j + 1) = k + 1 + j by omega] at this
   unfold cost;rw [h0, h1];rfl
 have hc := hcost (o.map Int.toNat) 0 fun j n hj => by rw [Nat.zero_add]; exact hzero j n hj
 have hle := (hB.least _ hfe (by omega)).1
 have h0 : (bestW sh (mvOf F) books 0 0 a0.wide).1 = 0 := by omega
 refine ⟨h0, ?_⟩;unfold arrW;rw [if_pos (by omega), (hfound (by omega)).1, List.replicate_zero, List.nil_append, ho]
theorem filter_flat {α : Type} {p : α → Prop} [DecidablePred p] : ∀ l : List α, (l.flatMap fun s => if p s then [s] else []) = l.filter fun s => decide (p s)
 | [] => rfl
 | a :: r => by
  rw [List.flatMap_cons, filter_flat r]
  by_cases h : p a
  ·rw [if_pos h, List.filter_cons_of_pos (by simpa using h)]; rfl
  ·rw [if_neg h, List.filter_cons_of_neg (by simpa using h)]; rfl
open Classical in
noncomputable def fitSel (sh : List qH) (bs : List qA) (b : qA) : List Int := (upto 0 sh.length).filter fun s => decide (Arr sh (insertedB bs b) (ownAt (insertedB bs b) (place bs b) s))
def FitsIs (cl : List Str) (sh : List qH) (bs : List qA) (b : qA) (r : List Int × Int) : Prop :=
 (furE cl sh bs b ≠ 0 ∧ r = ([], furE cl sh bs b)) ∨ (furE cl sh bs b = 0 ∧ r = (fitSel sh bs b, 0))
theorem FitsIs.unique {r r' : List Int × Int} (h : FitsIs cl sh bs b r) (h' : FitsIs cl sh bs b r') : r = r' := by
 rcases h with ⟨a1, a2⟩ | ⟨a1, a2⟩ <;> rcases h' with ⟨b1, b2⟩ | ⟨b1, b2⟩
 ·rw [a2, b2]
 ·exact absurd b1 a1
 ·exact absurd a1 b1
 ·rw [a2, b2]
open Classical in
theorem flat_prefix {n : Nat} {s : Int} {p : Int → Prop} (h0 : 0 ≤ s) (hs : s ≤ n) : ((upto 0 s).flatMap fun s => if p s then [s] else []).length ≤ n := by
 have := flat_le (f := fun s => if p s then [s] else []) (n := 1) (l := upto 0 s) fun x _ => by split <;> simp
 rw [upto_len] at this;omega
open Classical in
theorem r9_Fits_ok : Ok (P_r9_Fits cl sh bs b.qR b.qS b.qQ b.wide b.high b.heavy b.shelf) (FitsIs cl sh bs b) := by
 unfold P_r9_Fits;rw [r9_Further_eq, andx_some']
 by_cases h : furE cl sh bs b = 0
 ·obtain ⟨hF, hw, hh, hm, hr, ht⟩ := furE_zero h
  have hl := inserted_len (bs := bs) (b := b)
  have h10 := hF.bs1
  have hsh := hF.sh1;rw [if_neg (not_not_intro h), r9_With_eq hF.marks.shorts (markOk_bound hm).2.2.1 (by omega), andx_some'];dsimp only
  have key : iter (P_r9_Fits_L1 cl sh bs (insertedB bs b) (place bs b : Int)) (0, []) = some ((upto 0 sh.length).flatMap fun s => if Arr sh (insertedB bs b) (ownAt (insertedB bs b) (place bs b) s) then [s] else []) := by
   refine iter_flat (fun s h1 h2 => ?_) (fun s out h1 h2 => ?_)
   ·unfold P_r9_Fits_L1
    show (if _ then _ else _) = _
    have hpre := flat_prefix (n := sh.length) (p := fun s => Arr sh (insertedB bs b) (ownAt (insertedB bs b) (place bs b) s)) h1 (by omega);generalize hout : ((upto 0 s).flatMap fun s => if Arr sh (insertedB bs b) (ownAt (insertedB bs b) (place bs b) s) then [s] else []) = out at hpre ⊢
    have hat : ((insertedB bs b).map (·.shelf))[place bs b]? = some b.shelf := by rw [List.getElem?_map, inserted_at]; rfl
    rw [if_pos h2, r9_Own_eq (by omega), andx_some', el_at hat, Int.toNat_natCast]
    show andx (andx (P_r9_Arranged cl sh bs (insertedB bs b) (ownAt (insertedB bs b) (place bs b) s)) _) _ = _;rw [r9_Arranged_eq (by omega) (inserted_wides hF hw) (by omega) ownAt_len, andx_some']
    by_cases ha : Arr sh (insertedB bs b) (ownAt (insertedB bs b) (place bs b) s)
    ·rw [if_pos (decide_eq_true ha), if_pos ha, chk_pos (by simp; omega), andx_some', chk_pos (i64_small (by omega))]
    ·rw [if_neg (by rw [decide_eq_false ha]; decide), if_neg ha, andx_some', chk_pos (i64_small (by omega)), List.append_nil]
   ·unfold P_r9_Fits_L1
    show (if _ then _ else _) = _;rw [if_neg h2]
  rw [key, andx_some', filter_flat];exact .some (.inr ⟨h, rfl⟩)
 ·rw [if_pos h];exact .some (.inl ⟨h, rfl⟩)
theorem own_loop (h11 : books.length ≤ 11) : iter (P_s9_Fits_L4 books) (0, List.replicate 11 (0 : Int)) = some (books.map (·.shelf) ++ List.replicate (11 - books.length) 0) := by
 refine Ok.get ?_;refine Ok.count (fun (x : Int × List Int) => x.1) books.length (fun k x => x.2 = (books.take k).map (·.shelf) ++ List.replicate (11 - k) 0) rfl rfl ?_ ?_
 ·rintro k ⟨i, own⟩ hk hx hI;simp only at hx hI;subst hx; subst hI;obtain ⟨c, hc⟩ := get_some hk
  have hl1 : ((books.take k).map (·.shelf)).length = k := by simp; omega
  have hlen : ((books.take k).map (·.shelf) ++ List.replicate (11 - k) (0 : Int)).length = 11 := by simp; omega
  obtain ⟨x, hx⟩ := get_some (l := (books.take k).map (·.shelf) ++ List.replicate (11 - k) (0 : Int)) (k := k) (by omega);unfold P_s9_Fits_L4
  show Ok (if _ then _ else _) _;rw [if_pos (by omega), el_at hc, chk_pos (by rw [hlen]; rfl), el_at hx, chk_pos (i64_small (by omega)), Int.toNat_natCast];refine .some ⟨rfl, ?_⟩
  show ((books.take k).map (·.shelf) ++ List.replicate (11 - k) (0 : Int)).set k c.shelf = _;rw [take_step hc, List.map_append, List.set_append_right _ _ (by omega), hl1, Nat.sub_self, show 11 - k = (11 - (k + 1)) + 1 by omega, List.replicate_succ, List.set_cons_zero];simp
 ·rintro ⟨i, own⟩ hx hI;simp only at hx hI;subst hx; subst hI;unfold P_s9_Fits_L4
  show Ok (if _ then _ else _) _;rw [if_neg (by omega)];refine .some ?_
  show (books.take books.length).map _ ++ _ = _;rw [List.take_length]
open Classical in
theorem s9_Fits_ok : Ok (P_s9_Fits cl sh bs b.qR b.qS b.qQ b.wide b.high b.heavy b.shelf) (FitsIs cl sh bs b) := by
  unfold P_s9_Fits
  rw [show (⟨b.qR, b.qS, b.qQ, b.wide, b.high, b.heavy, b.shelf⟩ : qA) = b from rfl, s9_enter_eq, andx_some']
  by_cases h : furE cl sh bs b = 0
  · obtain ⟨hF, hw, hh, hm, hr, ht⟩ := furE_zero h
    have hl := inserted_len (bs := bs) (b := b)
    have hp := place_le bs b
    have h10 := hF.bs1
    have hsh := hF.sh1
    rw [if_pos h]
    show Ok (if _ then _ else _) _
    rw [if_neg (by decide)]
    obtain ⟨a0, ha0⟩ := get_some (l := sh) (k := 0) (by omega)
    have key : iter (P_s9_Fits_L3 cl sh (insertedB bs b) (place bs b : Int)) (0, []) = some ((upto 0 sh.length).flatMap fun s => if Arr sh (insertedB bs b) (ownAt (insertedB bs b) (place bs b) s) then [s] else []) := by
      refine iter_flat (fun s h1 h2 => ?_) (fun s out h1 h2 => ?_)
      · unfold P_s9_Fits_L3
        show (if _ then _ else _) = _
        have hpre := flat_prefix (n := sh.length) (p := fun s => Arr sh (insertedB bs b) (ownAt (insertedB bs b) (place bs b) s)) h1 (by omega)
        generalize hout : ((upto 0 s).flatMap fun s => if Arr sh (insertedB bs b) (ownAt (insertedB bs b) (place bs b) s) then [s] else []) = out at hpre ⊢
        have hFe : ∀ i n : Nat, i < (insertedB bs b).length → n < sh.length → (fun i_ n_ => P_s9_Fits1 i_ n_ (place bs b : Int) s cl sh (insertedB bs b)) i n = some (if (ownAt (insertedB bs b) (place bs b) s)[i]? = some (n : Int) then 0 else 1000) := by
          intro i n hi hn
          obtain ⟨c, hc⟩ := get_some hi
          rw [ownAt_get hc]
          show P_s9_Fits1 (i : Int) (n : Int) (place bs b : Int) s cl sh (insertedB bs b) = _
          unfold P_s9_Fits1
          have hown : P_s9_own cl sh (insertedB bs b) (i : Int) (n : Int) = some (if c.shelf = (n : Int) then 0 else 1) := by
            unfold P_s9_own
            rw [el_at hc]
            split <;> rfl
          by_cases e : i = place bs b
          · rw [if_pos (show (i : Int) = (place bs b : Int) by omega), if_pos e]
            by_cases e2 : (n : Int) = s
            · rw [if_pos e2, if_pos (by rw [e2])]; rfl
            · rw [if_neg e2, if_neg (not_not_intro (show (i : Int) = (place bs b : Int) by omega)), if_neg (fun h => e2 (Option.some.inj h).symm)]; rfl
          · rw [if_neg (show ¬ (i : Int) = (place bs b : Int) by omega), if_pos (show ¬ (i : Int) = (place bs b : Int) by omega), if_neg e, hown]
            by_cases e2 : c.shelf = (n : Int)
            · rw [if_pos e2, if_pos (by rw [e2])]; rfl
            · rw [if_neg e2, if_neg (fun h => e2 (Option.some.inj h))]; rfl
        have hrun := arr_run (F := fun i_ n_ => P_s9_Fits1 i_ n_ (place bs b : Int) s cl sh (insertedB bs b)) ha0 (fun i n hi hn => ⟨_, hFe i n hi hn, by split <;> omega, by split <;> omega⟩) (by omega) (inserted_wides hF hw) (by omega) hF.shw
        have hk := fits_key (F := fun i_ n_ => P_s9_Fits1 i_ n_ (place bs b : Int) s cl sh (insertedB bs b)) (o := ownAt (insertedB bs b) (place bs b) s) ha0 ownAt_len hFe (fun x hx => by
          obtain ⟨i, hi⟩ := List.getElem?_of_mem hx
          have hil := (List.getElem?_eq_some_iff.1 hi).1
          rw [ownAt_len] at hil
          obtain ⟨c, hc⟩ := get_some hil
          rw [ownAt_get hc] at hi
          have := Option.some.inj hi
          by_cases e : i = place bs b
          · rw [if_pos e] at this; omega
          · rw [if_neg e] at this
            obtain ⟨j, hj⟩ := List.getElem?_of_mem (inserted_ne e hc)
            have := hF.book hj
            omega) (inserted_wides hF hw) (by omega) hF.shw
        rw [if_pos h2, hrun, andx_some']
        dsimp only
        generalize wayOf sh (insertedB bs b) (fun i_ n_ => P_s9_Fits1 i_ n_ (place bs b : Int) s cl sh (insertedB bs b)) a0 = w at hk
        have hat : ((insertedB bs b).map (·.shelf) ++ List.replicate (11 - (insertedB bs b).length) 0)[place bs b]? = some b.shelf := by
          rw [List.getElem?_append_left (by simp; omega), List.getElem?_map, inserted_at]; rfl
        have hol : ((insertedB bs b).map (·.shelf) ++ List.replicate (11 - (insertedB bs b).length) (0 : Int)).length = 11 := by simp; omega
        have hset : ((insertedB bs b).map (·.shelf) ++ List.replicate (11 - (insertedB bs b).length) (0 : Int)).set (place bs b) s = ownAt (insertedB bs b) (place bs b) s ++ List.replicate (11 - (insertedB bs b).length) 0 := by
          rw [List.set_append_left _ _ (by simp; omega)]; rfl
        rw [own_loop (by omega), andx_some', chk_pos (by rw [hol]; rfl), el_at hat, Int.toNat_natCast, hset]
        have hol2 : (ownAt (insertedB bs b) (place bs b) s ++ List.replicate (11 - (insertedB bs b).length) (0 : Int)).length = 11 := by rw [← hset, List.length_set, hol]
        rw [chk_pos hol2]
        by_cases ha : Arr sh (insertedB bs b) (ownAt (insertedB bs b) (place bs b) s)
        · obtain ⟨k1, k2⟩ := hk.2 ha
          rw [if_pos k1, andx_some', decide_eq_true k2, if_pos rfl, if_pos ha, chk_pos (by simp; omega), andx_some', chk_pos (i64_small (by omega))]
        · rw [if_neg ha]
          by_cases k1 : w.1 = 0
          · rw [if_pos k1, andx_some', decide_eq_false (fun k2 => ha (hk.1 ⟨k1, k2⟩)), if_neg (by decide), andx_some', chk_pos (i64_small (by omega)), List.append_nil]
          · rw [if_neg k1, andx_some', if_neg (by decide), andx_some', chk_pos (i64_small (by omega)), List.append_nil]
      · unfold P_s9_Fits_L3
        show (if _ then _ else _) = _
        rw [if_neg h2]
    rw [key, andx_some', filter_flat]
    exact .some (.inr ⟨h, rfl⟩)
  · rw [if_neg h]
    show Ok (if _ then _ else _) _
    rw [if_pos h]
    exact .some (.inl ⟨h, rfl⟩)
end
end Go.Am
end
section
namespace Go.Am
set_option linter.unusedVariables false
set_option linter.unusedSimpArgs false
theorem upto_cons {lo hi : Int} (h : lo < hi) : upto lo hi = lo :: upto (lo + 1) hi := by
 unfold upto;rw [show (hi - lo).toNat = (hi - (lo + 1)).toNat + 1 by omega, List.range_succ_eq_map, List.map_cons, List.map_map]
 show (lo + ((0 : Nat) : Int)) :: _ = _
 congr 1
 ·omega
 ·refine List.map_congr_left fun i _ => ?_
  show lo + ((i + 1 : Nat) : Int) = lo + 1 + (i : Int);omega
theorem upto_append {lo s hi : Int} (h1 : lo ≤ s) (h2 : s ≤ hi) : upto lo hi = upto lo s ++ upto s hi := by
 obtain ⟨n, hn⟩ : ∃ n : Nat, hi = s + n := ⟨(hi - s).toNat, by omega⟩;subst hn
 induction n with
 | zero => rw [show s + ((0 : Nat) : Int) = s by omega, upto_nil (Int.le_refl s), List.append_nil]
 | succ n ih =>
  rw [show s + ((n + 1 : Nat) : Int) = (s + n) + 1 by omega, upto_succ (by omega), upto_succ (by omega), ih (by omega), List.append_assoc]
def listsL (below : Int) : Nat → Int → List (List Int)
 | 0, _ => [[]]
 | k + 1, f => (upto f (below - k)).flatMap fun first => (listsL below k (first + 1)).map (first :: ·)
theorem lists_len {below : Int} : ∀ (n k : Nat) (f : Int), (below - f).toNat = n → (listsL below k f).length ≤ 2 ^ n
 | n, 0, f, _ => by show 1 ≤ _; exact Nat.one_le_two_pow
 | n, k + 1, f, hn => by
  show ((upto f (below - k)).flatMap _).length ≤ _
  by_cases h : f < below - k
  ·obtain ⟨m, rfl⟩ : ∃ m, n = m + 1 := ⟨n - 1, by omega⟩
   have h1 := lists_len (below := below) m k (f + 1) (by omega)
   have h2 : ((upto (f + 1) (below - k)).flatMap fun first => (listsL below k (first + 1)).map (first :: ·)).length ≤ 2 ^ m := lists_len (below := below) m (k + 1) (f + 1) (by omega);rw [upto_cons h, List.flatMap_cons, List.length_append, List.length_map, Nat.pow_succ];omega
  ·rw [upto_nil (by omega)];exact Nat.zero_le _
 termination_by n k => (n, k)
theorem lists_pre {below : Int} {k : Nat} {f s : Int} (h1 : f ≤ s) (h2 : s ≤ below - k) (h0 : 0 ≤ f) (hb : below ≤ 10) : ((upto f s).flatMap fun first => (listsL below k (first + 1)).map (first :: ·)).length ≤ 1024 := by
 have h := lists_len (below := below) _ (k + 1) f rfl
 have e : (listsL below (k + 1) f) = (upto f (below - k)).flatMap fun first => (listsL below k (first + 1)).map (first :: ·) := rfl
 rw [e, upto_append h1 h2, List.flatMap_append, List.length_append] at h
 have : (2 : Nat) ^ (below - f).toNat ≤ 2 ^ 10 := Nat.pow_le_pow_right (by decide) (by omega)
 have e5 : (2 : Nat) ^ 10 = 1024 := by decide
 omega
def Inc (f below : Int) (l : List Int) : Prop := l.Pairwise (· < ·) ∧ ∀ x ∈ l, f ≤ x ∧ x < below
theorem inc_room {f below : Int} : ∀ {l : List Int}, Inc f below l → l ≠ [] → f + l.length ≤ below
 | [], _, h => absurd rfl h
 | a :: r, ⟨h1, h2⟩, _ => by
  obtain ⟨g1, g2⟩ := List.pairwise_cons.1 h1
  have ha := h2 a (by simp)
  by_cases hr : r = []
  ·subst hr;simp only [List.length_cons, List.length_nil];omega
  ·have := inc_room (f := a + 1) (below := below) (l := r) ⟨g2, fun x hx => ⟨by have := g1 x hx; omega, (h2 x (by simp [hx])).2⟩⟩ hr;simp only [List.length_cons];omega
theorem mem_lists {below : Int} : ∀ (k : Nat) (f : Int) (l : List Int), l ∈ listsL below k f ↔ l.length = k ∧ Inc f below l
 | 0, f, l => by
  show l ∈ [[]] ↔ _;rw [List.mem_singleton];refine ⟨fun h => by subst h; exact ⟨rfl, .nil, by simp⟩, fun h => List.eq_nil_of_length_eq_zero h.1⟩
 | k + 1, f, l => by
  show l ∈ (upto f (below - k)).flatMap _ ↔ _;rw [List.mem_flatMap]
  constructor
  ·rintro ⟨a, ha, hl⟩;obtain ⟨t, ht, rfl⟩ := List.mem_map.1 hl;obtain ⟨h1, h2, h3⟩ := (mem_lists k _ _).1 ht
   have ha' := mem_upto.1 ha;refine ⟨by simp [h1], List.pairwise_cons.2 ⟨fun x hx => by have := h3 x hx; omega, h2⟩, fun x hx => ?_⟩
   rcases List.mem_cons.1 hx with rfl | hx
   ·omega
   ·have := h3 x hx; omega
  ·rintro ⟨h1, h2, h3⟩;cases l with
   | nil => simp at h1
   | cons a t =>
    obtain ⟨g1, g2⟩ := List.pairwise_cons.1 h2
    have ha := h3 a (by simp)
    have ht : Inc (a + 1) below t := ⟨g2, fun x hx => ⟨by have := g1 x hx; omega, (h3 x (by simp [hx])).2⟩⟩
    have hk : t.length = k := by simpa using h1
    refine ⟨a, mem_upto.2 ⟨ha.1, ?_⟩, List.mem_map.2 ⟨t, (mem_lists k _ _).2 ⟨hk, ht⟩, rfl⟩⟩
    by_cases ht0 : t = []
    ·subst ht0;simp only [List.length_nil] at hk;subst hk;omega
    ·have := inc_room ht ht0;omega
theorem lists_order {below : Int} : ∀ (k : Nat) (f : Int), (listsL below k f).Pairwise fun x y => lexB x y = true
 | 0, f => by simp [listsL]
 | k + 1, f => by
  show ((upto f (below - k)).flatMap _).Pairwise _;rw [List.pairwise_flatMap];refine ⟨fun a _ => ?_, upto_sorted.imp fun {a a'} h x hx y hy => ?_⟩
  ·rw [List.pairwise_map];refine (lists_order k (a + 1)).imp fun {x y} h => ?_
   show lexB (a :: x) (a :: y) = true;rw [lexB, if_pos rfl];exact h
  ·obtain ⟨t, _, rfl⟩ := List.mem_map.1 hx;obtain ⟨t', _, rfl⟩ := List.mem_map.1 hy
   show lexB (a :: t) (a' :: t') = true;rw [lexB, if_neg (by omega)];exact decide_eq_true h
theorem iter_flat' {α : Type} {body : Int × List α → Option (Stp (Int × List α) (List α))} {f : Int → List α} {lo hi : Int}
  (step : ∀ s, lo ≤ s → s < hi → body (s, (upto lo s).flatMap f) = some (.ag (s + 1, (upto lo s).flatMap f ++ f s)))
  (fin : ∀ out, body (max lo hi, out) = some (.dn out)) : iter body (lo, []) = some ((upto lo hi).flatMap f) := by
 have key : ∀ (m : Nat) (s : Int), lo ≤ s → s ≤ max lo hi → (hi - s).toNat = m → iter body (s, (upto lo s).flatMap f) = some ((upto lo (max lo hi)).flatMap f) := by
  intro m
  induction m with
  | zero =>
   intro s h1 h2 h3;refine iter_eq.2 (.inr ?_);rw [show s = max lo hi by omega];exact fin _
  | succ m ih =>
   intro s h1 h2 h3;refine iter_eq.2 (.inl ⟨_, step s h1 (by omega), ?_⟩)
   have := ih (s + 1) (by omega) (by omega) (by omega);rw [upto_succ h1, List.flatMap_append] at this
   simpa using this
 have := key _ lo (Int.le_refl _) (by omega) rfl;rw [upto_nil (Int.le_refl lo)] at this
 by_cases h : lo ≤ hi
 ·rw [show max lo hi = hi by omega] at this;exact this
 ·rw [show max lo hi = lo by omega, upto_nil (Int.le_refl lo)] at this;rw [upto_nil (by omega : hi ≤ lo)];exact this
theorem lists_inner {first : Int} {y : List (List Int)} {out : List (List Int)} (h1 : out.length + y.length ≤ 1000000) (h2 : ∀ l ∈ y, l.length ≤ 1000) : iter (P_r1_Lists_L2 first y) (0, out) = some (out ++ y.map (first :: ·)) := by
 refine Ok.get ?_;refine Ok.count (fun (x : Int × List (List Int)) => x.1) y.length (fun k x => x.2 = out ++ (y.take k).map (first :: ·)) rfl (by simp) ?_ ?_
 ·rintro k ⟨i, o⟩ hk hx hI;simp only at hx hI;subst hx; subst hI;obtain ⟨l, hl⟩ := get_some hk
  have := h2 l (List.mem_of_getElem? hl);unfold P_r1_Lists_L2
  show Ok (if _ then _ else _) _;rw [if_pos (by omega), el_at hl, chk_pos (by simp; omega), chk_pos (by simp; omega), chk_pos (i64_small (by omega))];refine .some ⟨rfl, ?_⟩
  show (out ++ (y.take k).map (first :: ·)) ++ [[first] ++ l] = _;rw [take_step hl, List.map_append, List.append_assoc];rfl
 ·rintro ⟨i, o⟩ hx hI;simp only at hx hI;subst hx; subst hI;unfold P_r1_Lists_L2
  show Ok (if _ then _ else _) _;rw [if_neg (by omega)];refine .some ?_
  show out ++ (y.take y.length).map _ = _;rw [List.take_length]
theorem lists_eq {below : Int} (hb : below ≤ 10) : ∀ (k fuel : Nat) (f : Int), k < fuel → k ≤ 20 → 0 ≤ f → f ≤ 1000 → ∃ z, P_r1_Lists_N fuel f below (k : Int) = some (listsL below k f, z)
 | k, 0, f, hf, _, _, _ => by omega
 | 0, fuel + 1, f, hf, _, _, _ => by
  refine ⟨false, ?_⟩
  show P_r1_Lists_B (P_r1_Lists_N fuel) f below ((0 : Nat) : Int) = _;unfold P_r1_Lists_B;rw [if_pos (by omega)];rfl
 | k + 1, fuel + 1, f, hf, hk, h0, h1000 => by
  refine ⟨true, ?_⟩
  show P_r1_Lists_B (P_r1_Lists_N fuel) f below ((k + 1 : Nat) : Int) = _;unfold P_r1_Lists_B;rw [if_neg (by omega)]
  have hloop : iter (P_r1_Lists_L1 below ((k + 1 : Nat) : Int) (P_r1_Lists_N fuel)) (f, ([] : List (List Int))) = some ((upto f (below - k)).flatMap fun first => (listsL below k (first + 1)).map (first :: ·)) := by
   refine iter_flat' (f := fun first => (listsL below k (first + 1)).map (first :: ·)) (fun s h1 h2 => ?_) (fun out => ?_)
   ·unfold P_r1_Lists_L1
    show chk _ _ = _;obtain ⟨z, hz⟩ := lists_eq hb k fuel (s + 1) (by omega) (by omega) (by omega) (by omega)
    have e1 := lists_pre (k := k) (s := s) h1 (by omega) h0 hb
    have e2 := lists_len (below := below) _ k (s + 1) rfl
    have e3 : (2 : Nat) ^ (below - (s + 1)).toNat ≤ 2 ^ 10 := Nat.pow_le_pow_right (by decide) (by omega)
    have e5 : (2 : Nat) ^ 10 = 1024 := by decide
    rw [chk_pos (i64_small (by omega)), if_pos (by omega), chk_pos (i64_small (by omega)), chk_pos (i64_small (by omega)), show ((k + 1 : Nat) : Int) - 1 = (k : Int) by omega, hz]
    show andx (iter _ _) _ = _;rw [lists_inner (by omega) (fun l hl => by have := ((mem_lists k _ _).1 hl).1; omega), andx_some', chk_pos (i64_small (by omega))]
   ·unfold P_r1_Lists_L1
    show chk _ _ = _;rw [chk_pos (i64_small (by omega)), if_neg (by omega)]
  rw [hloop];rfl
end Go.Am
end
section
namespace Go.Am
set_option linter.unusedVariables false
set_option linter.unusedSimpArgs false
theorem find_first {A : Type} {f : Nat → Option A} {a : A} : ∀ {n : Nat}, (List.range n).findSome? f = some a → ∃ k, k < n ∧ f k = some a ∧ ∀ i, i < k → f i = none
 | 0, h => by simp at h
 | n + 1, h => by
  rw [List.range_succ, List.findSome?_append] at h;cases hp : (List.range n).findSome? f with
  | some b =>
   rw [hp] at h;obtain ⟨k, h1, h2, h3⟩ := find_first hp;exact ⟨k, by omega, by rw [h2]; simpa using h, h3⟩
  | none =>
   rw [hp] at h;exact ⟨n, by omega, by simpa using h, fun i hi => of_find_none hp i hi⟩
section
variable {cl : List Str} {sh : List qH} {bs books : List qA}
def keepB (p : Nat → Bool) : List qA → Nat → List qA
 | [], _ => []
 | b :: r, k => if p k then keepB p r (k + 1) else b :: keepB p r (k + 1)
theorem keepB_congr {p q : Nat → Bool} : ∀ (l : List qA) (k : Nat), (∀ i, k ≤ i → i < k + l.length → p i = q i) → keepB p l k = keepB q l k
 | [], _, _ => rfl
 | b :: r, k, h => by
  have h0 := h k (Nat.le_refl _) (by simp)
  have ih := keepB_congr (p := p) (q := q) r (k + 1) fun i h1 h2 => h i (by omega) (by simp only [List.length_cons]; omega)
  unfold keepB;rw [h0, ih]
theorem keepB_snoc {p : Nat → Bool} : ∀ (l : List qA) (b : qA) (k : Nat), keepB p (l ++ [b]) k = keepB p l k ++ (if p (k + l.length) then [] else [b])
 | [], b, k => by
  show keepB p [b] k = [] ++ _;rw [List.nil_append];simp only [keepB, List.length_nil, Nat.add_zero]
 | a :: r, b, k => by
  have ih := keepB_snoc (p := p) r b (k + 1)
  show keepB p (a :: (r ++ [b])) k = keepB p (a :: r) k ++ _;simp only [keepB, List.length_cons];rw [ih, show k + 1 + r.length = k + (r.length + 1) by omega];split <;> simp
theorem keepB_sub {p : Nat → Bool} : ∀ (l : List qA) (k : Nat), (keepB p l k).Sublist l
 | [], _ => .slnil
 | b :: r, k => by
  unfold keepB;split
  ·exact .cons _ (keepB_sub r (k + 1))
  ·exact .cons_cons _ (keepB_sub r (k + 1))
theorem keepB_all {p : Nat → Bool} : ∀ (l : List qA) (k : Nat), (∀ i, k ≤ i → i < k + l.length → p i = true) → keepB p l k = []
 | [], _, _ => rfl
 | b :: r, k, h => by
  unfold keepB;rw [if_pos (h k (Nat.le_refl _) (by simp)), keepB_all r (k + 1) fun i h1 h2 => h i (by omega) (by simp only [List.length_cons]; omega)]
def inL (l : List Int) (i : Nat) : Bool := decide ((i : Int) ∈ l)
theorem rises_nil : Rises [] := fun k a b ha hb => by simp at ha
theorem r9_Less_eq {l : List Int} (hb : bs.length ≤ 1000) (hl : l.length ≤ 1000) : P_r9_Less bs l = some (keepB (inL l) bs 0) := by
 refine Ok.get ?_;unfold P_r9_Less;refine Ok.andx (P := fun r => r = keepB (inL l) bs 0) ?_ (fun r hr => .some hr);refine Ok.count (fun (x : Int × List qA) => x.1) bs.length (fun k x => x.2 = keepB (inL l) (bs.take k) 0) rfl rfl ?_ ?_
 ·rintro k ⟨i, out⟩ hk hx hI;simp only at hx hI;subst hx; subst hI;obtain ⟨a, ha⟩ := get_some hk
  have hlen := (keepB_sub (p := inL l) (bs.take k) 0).length_le;rw [List.length_take] at hlen;unfold P_r9_Less_L1
  show Ok (if _ then _ else _) _;rw [if_pos (by omega), w1_Has_eq hl]
  show Ok (andx (if decide ((k : Int) ∈ l) = true then _ else _) _) _
  have hst := keepB_snoc (p := inL l) (bs.take k) a 0;rw [← take_step ha, show 0 + (bs.take k).length = k by rw [List.length_take]; omega] at hst
  by_cases hin : (k : Int) ∈ l
  ·have e : inL l k = true := decide_eq_true hin;rw [if_pos (decide_eq_true hin)]
   show Ok (chk _ _) _;rw [chk_pos (i64_small (by omega))];refine .some ⟨rfl, ?_⟩
   show keepB (inL l) (bs.take k) 0 = _;rw [hst, if_pos e, List.append_nil]
  ·have e : inL l k = false := decide_eq_false hin;rw [if_neg (by rw [decide_eq_false hin]; decide), el_at ha, chk_pos (by simp; omega)]
   show Ok (chk _ _) _;rw [chk_pos (i64_small (by omega))];refine .some ⟨rfl, ?_⟩
   show keepB (inL l) (bs.take k) 0 ++ [a] = _;rw [hst, if_neg (by rw [e]; decide)]
 ·rintro ⟨i, out⟩ hx hI;simp only at hx hI;subst hx; subst hI;unfold P_r9_Less_L1
  show Ok (if _ then _ else _) _;rw [if_neg (by omega)];refine .some ?_
  show keepB (inL l) (bs.take bs.length) 0 = _;rw [List.take_length]
structure AstIs (bs : List qA) (l : List Int) : Prop where
 inc : Inc 0 bs.length l
 ok : Rises (keepB (inL l) bs 0)
 least : ∀ l', Inc 0 bs.length l' → Rises (keepB (inL l') bs 0) → l.length ≤ l'.length ∧ (l'.length = l.length → lexB l' l = false)
theorem AstIs.unique {l l' : List Int} (h : AstIs bs l) (h' : AstIs bs l') : l = l' := by
 have h1 := h.least l' h'.inc h'.ok
 have h2 := h'.least l h.inc h.ok
 have e : l.length = l'.length := by omega
 exact lexB_tot l l' e (h2.2 e) (h1.2 e.symm)
theorem Inc.len {l : List Int} {n : Nat} (h : Inc 0 n l) : l.length ≤ n := by
 by_cases e : l = []
 ·subst e; exact Nat.zero_le _
 ·have := inc_room h e;omega
theorem keepB_shorts {p : Nat → Bool} {k : Nat} (h : Shorts bs) : Shorts (keepB p bs k) := fun b hb => h b ((keepB_sub bs k).subset hb)
open Classical in
theorem r9_Astray_ok (hF : Fine cl sh bs) : ∃ l, P_r9_Astray cl sh bs = some (l, 0) ∧ AstIs bs l := by
 obtain ⟨c0, i, e, he, hf⟩ := roomE_ok cl sh bs
 have he0 := hf.2 hF
 have h10 := hF.bs1
 have key : Ok (P_r9_Astray cl sh bs) fun r => r.2 = 0 ∧ AstIs bs r.1 := by
  unfold P_r9_Astray;rw [r9_Check_eq, he, andx_some'];dsimp only;rw [if_neg (not_not_intro he0)];refine Ok.seqx ?_;refine Ok.iter (fun many : Int => ∃ m : Nat, many = m ∧ m ≤ bs.length ∧ ∀ l', Inc 0 bs.length l' → l'.length < m → ¬ Rises (keepB (inL l') bs 0)) (fun many => bs.length + 1 - many.toNat) ⟨0, rfl, Nat.zero_le _, fun l' _ h => by omega⟩ ?_;rintro _ ⟨m, rfl, hm, hI⟩;unfold P_r9_Astray_L1;rw [if_pos (by omega)];obtain ⟨z, hz⟩ := lists_eq (below := (bs.length : Int)) (by omega) m 100 0 (by omega) (by omega) (by omega) (by omega)
  have hz' : P_r1_Lists 0 (bs.length : Int) (m : Int) = some (listsL bs.length m 0, z) := hz;rw [hz', andx_some'];dsimp only
  have hmem : ∀ l, l ∈ listsL bs.length m 0 ↔ l.length = m ∧ Inc 0 bs.length l := fun l => mem_lists m 0 l
  have hord := lists_order (below := (bs.length : Int)) m 0
  have hlen : (listsL bs.length m 0).length ≤ 1024 := by
   have h1 := lists_len (below := (bs.length : Int)) _ m 0 rfl
   have h2 : (2 : Nat) ^ ((bs.length : Int) - 0).toNat ≤ 2 ^ 10 := Nat.pow_le_pow_right (by decide) (by omega)
   have h3 : (2 : Nat) ^ 10 = 1024 := by decide
   omega
  generalize listsL (bs.length : Int) m 0 = all at hmem hord hlen
  let f : Nat → Option (Stp Int (Ex Unit (List Int × Int))) := fun i => if Rises (keepB (inL (nelL all i)) bs 0) then some (Stp.dn (Ex.rt (nelL all i, 0))) else none
  have hscan : iter (P_r9_Astray_L2 bs all) 0 = some (scanX f all.length) := by
   refine iter_scanI f all.length (fun k hk _ => ?_) (fun _ => ?_)
   ·obtain ⟨l, hl⟩ := get_some hk
    have e1 : nelL all (Int.toNat (k : Int)) = l := nelL_of (by simpa using hl)
    have e2 : nelL all k = l := nelL_of hl
    have hR := (hmem l).1 (List.mem_of_getElem? hl);unfold P_r9_Astray_L2
    have hsh := keepB_shorts (p := inL l) (k := 0) hF.marks.shorts
    have hkl := (keepB_sub (p := inL l) bs 0).length_le;rw [if_pos (by omega), chk_pos (by omega), e1, r9_Less_eq (by omega) (by omega), andx_some', r9_Ordered_eq hsh (by omega), andx_some', chk_pos (by omega), chk_pos (i64_small (by omega))]
    show _ = some (scanS _ (if Rises (keepB (inL (nelL all k)) bs 0) then _ else _));rw [e2]
    by_cases hr : Rises (keepB (inL l) bs 0)
    ·rw [if_pos (decide_eq_true hr), if_pos hr]; rfl
    ·rw [if_neg (by rw [decide_eq_false hr]; decide), if_neg hr]; rfl
   ·unfold P_r9_Astray_L2;rw [if_neg (by omega)]
  rw [hscan, seqx_scan];cases hfd : (List.range all.length).findSome? f with
  | none =>
   have hno := of_find_none hfd
   have hI' : ∀ l', Inc 0 bs.length l' → l'.length < m + 1 → ¬ Rises (keepB (inL l') bs 0) := fun l' h1 h2 h3 => by
    by_cases e : l'.length < m
    ·exact hI l' h1 e h3
    ·obtain ⟨j, hj⟩ := List.getElem?_of_mem ((hmem l').2 ⟨by omega, h1⟩)
     have hjl := (List.getElem?_eq_some_iff.1 hj).1
     have := hno j hjl
     have e2 : nelL all j = l' := nelL_of hj;simp only [f] at this;rw [e2, if_pos h3] at this;cases this
   simp only;rw [chk_pos (i64_small (by omega))]
   by_cases hlast : m = bs.length
   ·exfalso
    have hinc : Inc 0 bs.length (upto 0 bs.length) := ⟨upto_sorted, fun x hx => mem_upto.1 hx⟩;refine hI' _ hinc (by rw [upto_len]; omega) ?_
    have hk0 : keepB (inL (upto 0 bs.length)) bs 0 = [] := keepB_all bs 0 fun i _ hi => decide_eq_true (mem_upto.2 ⟨by omega, by omega⟩)
    rw [hk0];exact rises_nil
   ·refine .some ⟨⟨m + 1, rfl, by omega, hI'⟩, ?_⟩
    show bs.length + 1 - ((m : Int) + 1).toNat < bs.length + 1 - (m : Int).toNat
    have h1 : ((m : Int) + 1).toNat = m + 1 := by omega
    have h2 : (m : Int).toNat = m := by omega
    rw [h1, h2];omega
  | some r =>
   simp only;obtain ⟨k, hk, hkr, hkf⟩ := find_first hfd;obtain ⟨l, hl⟩ := get_some hk
   have e2 : nelL all k = l := nelL_of hl;simp only [f] at hkr;rw [e2] at hkr
   by_cases hr : Rises (keepB (inL l) bs 0)
   ·rw [if_pos hr] at hkr;obtain rfl := Option.some.inj hkr;obtain ⟨h1, h2⟩ := (hmem l).1 (List.mem_of_getElem? hl);refine .some ?_;refine ⟨rfl, h2, hr, fun l' h3 h4 => ?_⟩
    show l.length ≤ l'.length ∧ (l'.length = l.length → lexB l' l = false)
    have hge : ¬ l'.length < m := fun h => hI l' h3 h h4
    refine ⟨by omega, fun e => ?_⟩;obtain ⟨i, hi⟩ := List.getElem?_of_mem ((hmem l').2 ⟨by omega, h3⟩)
    have hil := (List.getElem?_eq_some_iff.1 hi).1
    rcases Nat.lt_trichotomy i k with hlt | heq | hgt
    ·have := hkf i hlt;simp only [f] at this;rw [nelL_of hi, if_pos h4] at this;cases this
    ·subst heq;rw [hl] at hi;cases hi;exact lexB_irr _
    ·have := List.pairwise_iff_getElem.1 hord k i hk hil hgt
     have e3 : all[k] = l := Option.some.inj ((List.getElem?_eq_getElem hk).symm.trans hl)
     have e4 : all[i] = l' := Option.some.inj ((List.getElem?_eq_getElem hil).symm.trans hi);rw [e3, e4] at this;exact lexB_asym _ _ this
   ·rw [if_neg hr] at hkr; cases hkr
 obtain ⟨⟨l, e0⟩, h1, h2, h3⟩ := key;simp only at h2;subst h2;exact ⟨l, h1, h3⟩
end
end Go.Am
end
section
namespace Go.Am
set_option linter.unusedVariables false
set_option linter.unusedSimpArgs false
theorem shrI_nat (s i : Nat) : shrI (s : Int) (i : Int) = ((s / 2 ^ i : Nat) : Int) := by
 unfold shrI;rw [Int.toNat_natCast, Int.fdiv_eq_ediv_of_nonneg _ (by exact_mod_cast Nat.zero_le (2 ^ i))]
 norm_cast
theorem andI_one (x : Nat) : andI (x : Int) 1 = ((x % 2 : Nat) : Int) := by
 have h : (BitVec.ofInt 64 (x : Int) &&& BitVec.ofInt 64 1).toNat = x % 2 := by
  rw [BitVec.toNat_and, BitVec.ofInt_natCast, BitVec.toNat_ofNat, show (BitVec.ofInt 64 1).toNat = 1 from rfl, Nat.and_one_is_mod];omega
 unfold andI;rw [h, wrap_id (by omega) (by omega)]
theorem bit_iff (s i : Nat) : (andI (shrI (s : Int) (i : Int)) 1 = 1) ↔ s.testBit i = true := by
 rw [shrI_nat, andI_one, Nat.testBit_eq_decide_div_mod_eq, decide_eq_true_eq];omega
theorem bits_of (p : Nat → Bool) : ∀ n : Nat, ∃ s, s < 2 ^ n ∧ ∀ i, i < n → s.testBit i = p i
 | 0 => ⟨0, by decide, fun i h => by omega⟩
 | n + 1 => by
  obtain ⟨s, h1, h2⟩ := bits_of p n;cases hp : p n with
  | false =>
   refine ⟨s, by rw [Nat.pow_succ]; omega, fun i hi => ?_⟩
   by_cases e : i = n
   ·subst e;rw [hp, Nat.testBit_lt_two_pow h1]
   ·exact h2 i (by omega)
  | true =>
   refine ⟨2 ^ n + s, by rw [Nat.pow_succ]; omega, fun i hi => ?_⟩
   by_cases e : i = n
   ·subst e;rw [hp, Nat.testBit_two_pow_add_eq, Nat.testBit_lt_two_pow h1];rfl
   ·rw [Nat.testBit_two_pow_add_gt (by omega)];exact h2 i (by omega)
theorem lexB_trans : ∀ {a b c : List Int}, lexB a b = true → lexB b c = true → lexB a c = true
 | [], [], _, h, _ => by cases h
 | [], _ :: _, [], _, h => by cases h
 | [], _ :: _, _ :: _, _, _ => rfl
 | _ :: _, [], _, h, _ => by cases h
 | _ :: _, _ :: _, [], _, h => by cases h
 | x :: a, y :: b, z :: c, h1, h2 => by
  rw [lexB] at h1 h2 ⊢
  by_cases e1 : x = y
  ·rw [if_pos e1] at h1
   by_cases e2 : y = z
   ·rw [if_pos e2] at h2;rw [if_pos (e1.trans e2)];exact lexB_trans h1 h2
   ·rw [if_neg e2] at h2;rw [if_neg (by omega), e1];exact h2
  ·rw [if_neg e1] at h1
   have g1 := of_decide_eq_true h1
   by_cases e2 : y = z
   ·rw [if_neg (by omega), ← e2];exact h1
   ·rw [if_neg e2] at h2
    have g2 := of_decide_eq_true h2;rw [if_neg (by omega)];exact decide_eq_true (by omega)
section
variable {cl : List Str} {sh : List qH} {bs books : List qA}
def bitsL (n s : Nat) : List Int := (upto 0 n).filter fun i => s.testBit i.toNat
theorem mem_bits {n s : Nat} {x : Int} : x ∈ bitsL n s ↔ (0 ≤ x ∧ x < n) ∧ s.testBit x.toNat = true := by
 unfold bitsL;rw [List.mem_filter, mem_upto]
theorem bits_inc {n s : Nat} : Inc 0 n (bitsL n s) := ⟨upto_sorted.filter _, fun x hx => (mem_bits.1 hx).1⟩
theorem inc_ext : ∀ {l l' : List Int}, l.Pairwise (· < ·) → l'.Pairwise (· < ·) → (∀ x, x ∈ l ↔ x ∈ l') → l = l'
 | [], [], _, _, _ => rfl
 | [], b :: s, _, _, h => by have := (h b).2 (by simp); simp at this
 | a :: r, [], _, _, h => by have := (h a).1 (by simp); simp at this
 | a :: r, b :: s, h1, h2, h => by
  obtain ⟨g1, g2⟩ := List.pairwise_cons.1 h1;obtain ⟨k1, k2⟩ := List.pairwise_cons.1 h2
  have e : a = b := by
   rcases List.mem_cons.1 ((h a).1 (by simp)) with e | e
   ·exact e
   ·rcases List.mem_cons.1 ((h b).2 (by simp)) with e' | e'
    ·exact e'.symm
    ·have := k1 a e
     have := g1 b e';omega
  subst e
  congr 1
  refine inc_ext g2 k2 fun x => ⟨fun hx => ?_, fun hx => ?_⟩
  ·rcases List.mem_cons.1 ((h x).1 (by simp [hx])) with e | e
   ·have := g1 x hx; omega
   ·exact e
  ·rcases List.mem_cons.1 ((h x).2 (by simp [hx])) with e | e
   ·have := k1 x hx; omega
   ·exact e
theorem bits_step {k s : Nat} : bitsL (k + 1) s = bitsL k s ++ (if s.testBit k then [(k : Int)] else []) := by
 unfold bitsL;rw [show ((k + 1 : Nat) : Int) = (k : Int) + 1 by omega, upto_succ (by omega), List.filter_append]
 congr 1
 cases h : s.testBit k <;> simp [h]
theorem bits_len {k s : Nat} : (bitsL k s).length ≤ k := by
 have := List.length_filter_le (fun i : Int => s.testBit i.toNat) (upto 0 k);unfold bitsL;rw [upto_len] at this;omega
theorem rises_prefix {x y : List qA} (h : Rises (x ++ y)) : Rises x := fun k a b ha hb => by
 have h1 := (List.getElem?_eq_some_iff.1 ha).1
 have h2 := (List.getElem?_eq_some_iff.1 hb).1;exact h k a b (by rw [List.getElem?_append_left h1]; exact ha) (by rw [List.getElem?_append_left h2]; exact hb)
theorem rises_snoc {x : List qA} {b : qA} : Rises (x ++ [b]) ↔ Rises x ∧ ∀ a, x.getLast? = some a → mLess a b := by
 refine ⟨fun h => ⟨rises_prefix h, fun a ha => ?_⟩, fun ⟨h1, h2⟩ k a c ha hc => ?_⟩
 ·rw [List.getLast?_eq_getElem?] at ha
  have hl := (List.getElem?_eq_some_iff.1 ha).1;refine h (x.length - 1) a b (by rw [List.getElem?_append_left hl]; exact ha) ?_;rw [show x.length - 1 + 1 = x.length by omega, List.getElem?_append_right (Nat.le_refl _), Nat.sub_self];rfl
 ·by_cases hk : k + 1 < x.length
  ·rw [List.getElem?_append_left (by omega)] at ha;rw [List.getElem?_append_left hk] at hc;exact h1 k a c ha hc
  ·have hc' := (List.getElem?_eq_some_iff.1 hc).1;simp only [List.length_append, List.length_cons, List.length_nil] at hc'
   have e : k + 1 = x.length := by omega
   rw [List.getElem?_append_left (by omega)] at ha;rw [e, List.getElem?_append_right (Nat.le_refl _), Nat.sub_self] at hc
   have hcb : b = c := Option.some.inj hc;rw [← hcb];refine h2 a ?_;rw [List.getLast?_eq_getElem?, show x.length - 1 = k by omega];exact ha
theorem keepB_append {p : Nat → Bool} : ∀ (l r : List qA) (k : Nat), keepB p (l ++ r) k = keepB p l k ++ keepB p r (k + l.length)
 | [], r, k => rfl
 | a :: l, r, k => by
  have ih := keepB_append (p := p) l r (k + 1)
  show keepB p (a :: (l ++ r)) k = keepB p (a :: l) k ++ _;simp only [keepB, List.length_cons];rw [ih, show k + 1 + l.length = k + (l.length + 1) by omega];split <;> simp
theorem keepB_take {p : Nat → Bool} (k : Nat) (h : Rises (keepB p bs 0)) : Rises (keepB p (bs.take k) 0) := by
 have e : keepB p bs 0 = keepB p (bs.take k) 0 ++ keepB p (bs.drop k) (0 + (bs.take k).length) := by
  rw [← keepB_append, List.take_append_drop]
 rw [e] at h;exact rises_prefix h
open Classical in
theorem set_loop (hF : Fine cl sh bs) {s : Nat} {found : Bool} {best : List Int} : iter (P_s9_Astray_L2 bs found (s : Int) best) (-1, 0, []) = some (if Rises (keepB (fun i => s.testBit i) bs 0) then Ex.nx (bitsL bs.length s) else Ex.rt (found, best)) := by
  have h10 := hF.bs1
  have h6 := hF.cl1
  refine Ok.get ?_
  refine Ok.count (fun (x : Int × Int × List Int) => x.2.1) bs.length (fun k x => x.2.2 = bitsL k s ∧ Rises (keepB (fun i => s.testBit i) (bs.take k) 0) ∧
    ((x.1 = -1 ∧ keepB (fun i => s.testBit i) (bs.take k) 0 = []) ∨ (0 ≤ x.1 ∧ x.1 < k ∧ ∃ a, bs[x.1.toNat]? = some a ∧ (keepB (fun i => s.testBit i) (bs.take k) 0).getLast? = some a))) rfl ⟨rfl, rises_nil, .inl ⟨rfl, rfl⟩⟩ ?_ ?_
  · rintro k ⟨last, i, l⟩ hk hx ⟨h1, h2, h3⟩
    simp only at hx h1 h2 h3
    subst hx; subst h1
    obtain ⟨b, hb⟩ := get_some hk
    have hst := keepB_snoc (p := fun i => s.testBit i) (bs.take k) b 0
    rw [← take_step hb, show 0 + (bs.take k).length = k by rw [List.length_take]; omega] at hst
    have hbl := bits_len (k := k) (s := s)
    have hbs := bits_step (k := k) (s := s)
    have hcnt : I64 ((k : Int) + 1) := i64_small (by omega)
    unfold P_s9_Astray_L2
    show Ok (if _ then _ else _) _
    rw [if_pos (by omega), el_at hb, chk_pos (by omega)]
    by_cases hbit : s.testBit k = true
    · rw [if_pos ((bit_iff s k).2 hbit), chk_pos (by simp; omega)]
      rw [if_pos hbit] at hbs hst
      show Ok (chk _ _) _
      rw [chk_pos hcnt]
      rw [List.append_nil] at hst
      refine .some ⟨rfl, ?_, ?_, ?_⟩
      · show bitsL k s ++ [(k : Int)] = _
        rw [hbs]
      · rw [hst]; exact h2
      · rw [hst]
        rcases h3 with ⟨g1, g2⟩ | ⟨g1, g2, g3⟩
        · exact .inl ⟨g1, g2⟩
        · exact .inr ⟨g1, by show last < ((k + 1 : Nat) : Int); omega, g3⟩
    · have hbit' : ¬ andI (shrI (s : Int) (k : Int)) 1 = 1 := fun h => hbit ((bit_iff s k).1 h)
      rw [if_neg hbit']
      rw [if_neg hbit] at hbs hst
      rw [List.append_nil] at hbs
      rcases h3 with ⟨g1, g2⟩ | ⟨g1, g2, a, g3, g4⟩
      · rw [if_neg (by omega)]
        show Ok (chk _ _) _
        rw [chk_pos hcnt]
        rw [g2, List.nil_append] at hst
        refine .some ⟨rfl, ?_, ?_, .inr ⟨by show (0 : Int) ≤ k; omega, by show (k : Int) < ((k + 1 : Nat) : Int); omega, b, by simpa using hb, by rw [hst]; rfl⟩⟩
        · show bitsL k s = _
          rw [hbs]
        · rw [hst]
          intro j x y hx hy
          simp at hy
      · have hne : cmpM a.qR a.qS a.qQ b.qR b.qS b.qQ ≠ 0 := fun h => by
          obtain ⟨e1, e2, e3⟩ := cmpM_zero.1 h
          exact hF.dist last.toNat k a b (by omega) g3 hb ⟨e1, e2, e3⟩
        rw [if_pos g1, el_int g1 g3, s9_compare_eq (by omega) (hF.marks a (List.mem_of_getElem? g3)) (hF.marks b (List.mem_of_getElem? hb))]
        rw [andx_some', andx_some']
        by_cases hgt : cmpM a.qR a.qS a.qQ b.qR b.qS b.qQ > 0
        · rw [if_pos (decide_eq_true hgt)]
          refine .some ?_
          show Ex.rt (found, best) = _
          rw [if_neg fun h => ?_]
          have h5 := keepB_take (p := fun i => s.testBit i) (k + 1) h
          rw [hst] at h5
          have h6 : mLess a b := (rises_snoc.1 h5).2 a g4
          unfold mLess at h6
          omega
        · rw [if_neg (by rw [decide_eq_false hgt]; decide)]
          show Ok (chk _ _) _
          rw [chk_pos hcnt]
          refine .some ⟨rfl, ?_, ?_, .inr ⟨by show (0 : Int) ≤ k; omega, by show (k : Int) < ((k + 1 : Nat) : Int); omega, b, by simpa using hb, ?_⟩⟩
          · show bitsL k s = _
            rw [hbs]
          · rw [hst]
            refine rises_snoc.2 ⟨h2, fun c hc => ?_⟩
            rw [g4] at hc
            cases hc
            show cmpM a.qR a.qS a.qQ b.qR b.qS b.qQ < 0
            omega
          · rw [hst, List.getLast?_concat]
  · rintro ⟨last, i, l⟩ hx ⟨h1, h2, h3⟩
    simp only at hx h1 h2 h3
    subst hx; subst h1
    unfold P_s9_Astray_L2
    show Ok (if _ then _ else _) _
    rw [if_neg (by omega)]
    rw [List.take_length] at h2
    refine .some ?_
    show Ex.nx (bitsL bs.length s) = _
    rw [if_pos h2]
theorem cmpInt_lt (x y : Int) : P_cmpInt x y = some (if x < y then -1 else if x > y then 1 else 0) := by
 unfold P_cmpInt;rw [if_neg (not_not_intro rfl), if_neg (not_not_intro rfl)]
 by_cases h1 : x < y
 ·rw [if_pos h1, if_pos h1]
 ·rw [if_neg h1, if_neg h1]
  by_cases h2 : x > y
  ·rw [if_pos h2, if_pos h2]
  ·rw [if_neg h2, if_neg h2]
theorem compare_ok {best l : List Int} (h : l.length = best.length) (hl : l.length ≤ 1000) : ∃ y, seqx (iter (P_s9_Astray_L3 best l) 0) (fun _ => if (l.length : Int) < (best.length : Int) then some (-1) else some 0) = some y ∧ (y < 0 ↔ lexB l best = true) := by
 have key : Ok (seqx (iter (P_s9_Astray_L3 best l) 0) (fun _ => if (l.length : Int) < (best.length : Int) then some (-1) else some 0)) fun y => y < 0 ↔ lexB l best = true := by
  refine Ok.seqx ?_;refine Ok.count (fun x : Int => x) l.length (fun k _ => l.take k = best.take k) rfl rfl ?_ ?_
  ·rintro k i hk hx hI
   try simp only at hx
   subst hx;obtain ⟨x, hx⟩ := get_some hk;obtain ⟨y, hy⟩ := get_some (l := best) (k := k) (by omega)
   have e1 : l = l.take k ++ x :: l.drop (k + 1) := by
    have := List.take_append_drop k l;rw [List.drop_eq_getElem_cons hk] at this;rw [List.getElem?_eq_getElem hk] at hx;rw [Option.some.inj hx] at this;exact this.symm
   have hkb : k < best.length := by omega
   have e2 : best = best.take k ++ y :: best.drop (k + 1) := by
    have := List.take_append_drop k best;rw [List.drop_eq_getElem_cons hkb] at this;rw [List.getElem?_eq_getElem hkb] at hy;rw [Option.some.inj hy] at this;exact this.symm
   have e3 : lexB l best = lexB (x :: l.drop (k + 1)) (y :: best.drop (k + 1)) := by
    have h1 : lexB l best = lexB (l.take k ++ x :: l.drop (k + 1)) (best.take k ++ y :: best.drop (k + 1)) := by rw [← e1, ← e2]
    rw [h1, hI, lexB_append]
   unfold P_s9_Astray_L3
   show Ok (if _ then _ else _) _;rw [if_pos (by omega), el_at hx, if_neg (by omega), el_at hy, cmpInt_lt, andx_some']
   by_cases h1 : x < y
   ·rw [if_pos h1, if_pos (by decide)];refine .some ?_
    show (-1 : Int) < 0 ↔ _;rw [e3, lexB, if_neg (by omega), decide_eq_true h1];simp
   ·rw [if_neg h1]
    by_cases h2 : x > y
    ·rw [if_pos h2, if_pos (by decide)];refine .some ?_
     show (1 : Int) < 0 ↔ _;rw [e3, lexB, if_neg (by omega), decide_eq_false h1];simp
    ·have e : x = y := by omega
     rw [if_neg h2, if_neg (by decide), chk_pos (i64_small (by omega))];refine .some ⟨rfl, ?_⟩
     show l.take (k + 1) = best.take (k + 1);rw [take_step hx, take_step hy, hI, e]
  ·rintro i hx hI
   try simp only at hx
   subst hx;unfold P_s9_Astray_L3
   show Ok (if _ then _ else _) _;rw [if_neg (by omega)];refine .some ?_
   show Ok (if _ then _ else _) _;rw [if_neg (by omega)];refine .some ?_;rw [List.take_length, h, List.take_length] at hI;rw [hI, lexB_irr];simp
 exact key
open Classical in
theorem s9_Astray_ok (hF : Fine cl sh bs) : ∃ l, P_s9_Astray cl sh bs = some (l, 0) ∧ AstIs bs l := by
  have h10 := hF.bs1
  have hpow : (2 : Nat) ^ bs.length ≤ 2 ^ 10 := Nat.pow_le_pow_right (by decide) h10
  have h1024 : (2 : Nat) ^ 10 = 1024 := by decide
  have hpow0 : 0 < (2 : Nat) ^ bs.length := Nat.two_pow_pos _
  have hshl : shlI 1 (bs.length : Int) = ((2 ^ bs.length : Nat) : Int) := by
    unfold shlI
    rw [Int.toNat_natCast, Int.one_mul]
    norm_cast
  let Q : Nat → Prop := fun s => Rises (keepB (fun i => s.testBit i) bs 0)
  have hQ : ∀ s, Q s ↔ Rises (keepB (inL (bitsL bs.length s)) bs 0) := fun s => by
    have : keepB (fun i => s.testBit i) bs 0 = keepB (inL (bitsL bs.length s)) bs 0 := keepB_congr bs 0 fun i _ hi => by
      unfold inL
      cases hb : s.testBit i with
      | true => exact (decide_eq_true (mem_bits.2 ⟨⟨by omega, by omega⟩, by simpa using hb⟩)).symm
      | false => exact (decide_eq_false fun h => by have := (mem_bits.1 h).2; rw [Int.toNat_natCast, hb] at this; cases this).symm
    show Rises _ ↔ _
    rw [this]
  have key : Ok (P_s9_Astray cl sh bs) fun r => r.2 = 0 ∧ AstIs bs r.1 := by
    unfold P_s9_Astray
    rw [s9_open_eq, andx_some', if_neg (not_not_intro (roomN_zero.2 hF)), hshl, chk_pos ⟨⟨by omega, by omega⟩, i64_small (by omega)⟩]
    refine Ok.andx (P := fun l => ∃ s, s < 2 ^ bs.length ∧ l = bitsL bs.length s ∧ Q s ∧ ∀ s', s' < 2 ^ bs.length → Q s' → l.length ≤ (bitsL bs.length s').length ∧ ((bitsL bs.length s').length = l.length → lexB (bitsL bs.length s') l = false)) ?_ ?_
    · refine Ok.count (fun x : Bool × Int × List Int => x.2.1) (2 ^ bs.length) (fun k x => (x.1 = false ∧ ∀ s, s < k → ¬ Q s) ∨ (x.1 = true ∧ ∃ s, s < k ∧ x.2.2 = bitsL bs.length s ∧ Q s ∧ ∀ s', s' < k → Q s' → x.2.2.length ≤ (bitsL bs.length s').length ∧ ((bitsL bs.length s').length = x.2.2.length → lexB (bitsL bs.length s') x.2.2 = false)))
        rfl (.inl ⟨rfl, fun s h => by omega⟩) ?_ ?_
      · rintro k ⟨found, i, best⟩ hk hx hI
        simp only at hx hI
        subst hx
        have hbk := bits_len (k := bs.length) (s := k)
        have hcnt : I64 ((k : Int) + 1) := i64_small (by omega)
        unfold P_s9_Astray_L1
        show Ok (if _ then _ else _) _
        rw [hshl, if_pos (by omega), set_loop hF]
        by_cases hq : Rises (keepB (fun i => k.testBit i) bs 0)
        · rw [if_pos hq, seqx_nx]
          have take : (found = false ∨ (bitsL bs.length k).length < best.length ∨ ((bitsL bs.length k).length = best.length ∧ lexB (bitsL bs.length k) best = true)) →
              ∃ s, s < k + 1 ∧ bitsL bs.length k = bitsL bs.length s ∧ Q s ∧ ∀ s', s' < k + 1 → Q s' → (bitsL bs.length k).length ≤ (bitsL bs.length s').length ∧ ((bitsL bs.length s').length = (bitsL bs.length k).length → lexB (bitsL bs.length s') (bitsL bs.length k) = false) := by
            intro hc
            refine ⟨k, by omega, rfl, hq, fun s' hs' hq' => ?_⟩
            by_cases e : s' = k
            · subst e
              exact ⟨Nat.le_refl _, fun _ => lexB_irr _⟩
            · rcases hI with ⟨g1, g2⟩ | ⟨g1, s, g2, g3, g4, g5⟩
              · exact absurd hq' (g2 s' (by omega))
              · obtain ⟨p1, p2⟩ := g5 s' (by omega) hq'
                rcases hc with hc | hc | ⟨hc1, hc2⟩
                · rw [g1] at hc; cases hc
                · exact ⟨by omega, fun h => by omega⟩
                · refine ⟨by omega, fun h => ?_⟩
                  cases hx : lexB (bitsL bs.length s') (bitsL bs.length k) with
                  | false => rfl
                  | true =>
                    have h3 := p2 (by omega)
                    have h4 := lexB_trans hx hc2
                    rw [h3] at h4
                    cases h4
          have keep : found = true → ¬ ((bitsL bs.length k).length < best.length ∨ ((bitsL bs.length k).length = best.length ∧ lexB (bitsL bs.length k) best = true)) →
              ∃ s, s < k + 1 ∧ best = bitsL bs.length s ∧ Q s ∧ ∀ s', s' < k + 1 → Q s' → best.length ≤ (bitsL bs.length s').length ∧ ((bitsL bs.length s').length = best.length → lexB (bitsL bs.length s') best = false) := by
            intro hf hc
            rcases hI with ⟨g1, g2⟩ | ⟨g1, s, g2, g3, g4, g5⟩
            · rw [hf] at g1; cases g1
            · refine ⟨s, by omega, g3, g4, fun s' hs' hq' => ?_⟩
              by_cases e : s' = k
              · subst e
                refine ⟨by omega, fun h => ?_⟩
                cases hx : lexB (bitsL bs.length s') best with
                | false => rfl
                | true => exact absurd (.inr ⟨h, hx⟩) hc
              · exact g5 s' (by omega) hq'
          cases found with
          | false =>
            show Ok (chk _ _) _
            rw [chk_pos hcnt]
            exact .some ⟨rfl, .inr ⟨rfl, take (.inl rfl)⟩⟩
          | true =>
            rw [if_pos rfl]
            by_cases c1 : (bitsL bs.length k).length < best.length
            · rw [if_pos (by omega)]
              show Ok (chk _ _) _
              rw [chk_pos hcnt]
              exact .some ⟨rfl, .inr ⟨rfl, take (.inr (.inl c1))⟩⟩
            · rw [if_neg (by omega)]
              by_cases c2 : (bitsL bs.length k).length = best.length
              · obtain ⟨y, hy, hy'⟩ := compare_ok c2 (by omega)
                rw [if_pos (by omega), hy]
                show Ok (andx (if decide (y < 0) = true then _ else _) _) _
                by_cases c3 : y < 0
                · rw [if_pos (decide_eq_true c3)]
                  show Ok (chk _ _) _
                  rw [chk_pos hcnt]
                  exact .some ⟨rfl, .inr ⟨rfl, take (.inr (.inr ⟨c2, hy'.1 c3⟩))⟩⟩
                · rw [if_neg (by rw [decide_eq_false c3]; decide)]
                  show Ok (chk _ _) _
                  rw [chk_pos hcnt]
                  exact .some ⟨rfl, .inr ⟨rfl, keep rfl fun h => by
                    rcases h with h | ⟨_, h⟩
                    · exact c1 h
                    · exact c3 (hy'.2 h)⟩⟩
              · rw [if_neg (by omega)]
                show Ok (chk _ _) _
                rw [chk_pos hcnt]
                exact .some ⟨rfl, .inr ⟨rfl, keep rfl fun h => by omega⟩⟩
        · rw [if_neg hq, seqx_rt, andx_some']
          dsimp only
          rw [chk_pos hcnt]
          refine .some ⟨rfl, ?_⟩
          rcases hI with ⟨g1, g2⟩ | ⟨g1, s, g2, g3, g4, g5⟩
          · refine .inl ⟨g1, fun s hs => ?_⟩
            by_cases e : s = k
            · subst e; exact hq
            · exact g2 s (by omega)
          · refine .inr ⟨g1, s, by omega, g3, g4, fun s' hs' hq' => ?_⟩
            by_cases e : s' = k
            · subst e; exact absurd hq' hq
            · exact g5 s' (by omega) hq'
      · rintro ⟨found, i, best⟩ hx hI
        simp only at hx hI
        subst hx
        unfold P_s9_Astray_L1
        show Ok (if _ then _ else _) _
        rw [hshl, if_neg (by omega)]
        refine .some ?_
        rcases hI with ⟨g1, g2⟩ | ⟨g1, g2⟩
        · exfalso
          obtain ⟨s, hs1, hs2⟩ := bits_of (fun _ => true) bs.length
          refine g2 s hs1 ?_
          show Rises _
          rw [keepB_all bs 0 fun i _ hi => hs2 i (by omega)]
          exact rises_nil
        · exact g2
    · rintro l ⟨s, h1, rfl, h3, h4⟩
      refine .some ⟨rfl, bits_inc, (hQ s).1 h3, fun l' hi hr => ?_⟩
      obtain ⟨s', hs1, hs2⟩ := bits_of (inL l') bs.length
      have e : bitsL bs.length s' = l' := inc_ext bits_inc.1 hi.1 fun x => by
        rw [mem_bits]
        refine ⟨fun ⟨hx, hb⟩ => ?_, fun hx => ?_⟩
        · rw [hs2 x.toNat (by omega)] at hb
          have := of_decide_eq_true hb
          rwa [show ((x.toNat : Nat) : Int) = x by omega] at this
        · have hxr := hi.2 x hx
          refine ⟨hxr, ?_⟩
          rw [hs2 x.toNat (by omega)]
          exact decide_eq_true (by rwa [show ((x.toNat : Nat) : Int) = x by omega])
      have := h4 s' hs1 ((hQ s').2 (by rw [e]; exact hr))
      rw [e] at this
      exact this
  obtain ⟨⟨l, e0⟩, h1, h2, h3⟩ := key
  simp only at h2
  subst h2
  exact ⟨l, h1, h3⟩
end
end Go.Am
end
section
namespace Go.Am
set_option linter.unusedVariables false
set_option linter.unusedSimpArgs false
section
variable {cl : List Str} {sh : List qH} {bs books : List qA} {ls : List Int} {i : Nat} {a : qH}
theorem r9_Filled_gen (ha : sh[i]? = some a) (hb : Wides books) (hl : books.length ≤ 1000) (hls : ls.length = books.length) (hlow : lowOn i a.high (withS books ls)) :
  P_r9_Filled cl sh bs books ls (i : Int) = some (wideOn i (withS books ls)) := by
 have hB := withS_wides (ls := ls) hb
 have hlen := withS_len hls;refine Ok.get ?_;unfold P_r9_Filled;refine Ok.seqx ?_;refine Ok.count (fun (x : Int × Int) => x.2) books.length (fun k x => x.1 = wideOn i ((withS books ls).take k)) rfl rfl ?_ ?_
 ·rintro k ⟨n, j⟩ hk hx h1;simp only at hx h1;subst hx;obtain ⟨b, hbk⟩ := get_some hk;obtain ⟨s, hsk⟩ := get_some (l := ls) (k := k) (by omega)
  have hw := withS_get hbk hsk;unfold P_r9_Filled_L1
  show Ok (if _ then _ else _) _
  have hk1 := wideOn_take (i := i) hB k
  have hk2 := wideOn_take (i := i) hB (k + 1)
  have hst := wideOn_step (i := i) hw;rw [if_pos (by omega)];refine Ok.seqx ?_;rw [el_at hsk]
  by_cases hs : s = i
  ·rw [if_pos hs] at hst;rw [if_neg (not_not_intro hs), el_at hbk, el_at ha, el_at hbk]
   have hh : ¬ b.high > a.high := by
    have := hlow _ (List.mem_of_getElem? hw) hs;simp only at this;omega
   rw [if_neg hh];simp only at hst;refine .chk (i64_small (by omega)) (.some (.chk (i64_small (by omega)) (.some ⟨rfl, ?_⟩)))
   show n + b.wide = _;omega
  ·rw [if_neg hs] at hst;rw [if_pos hs];refine .some (.chk (i64_small (by omega)) (.some ⟨rfl, ?_⟩))
   show n = _;omega
 ·rintro ⟨n, j⟩ hx h1;simp only at hx h1;subst hx;unfold P_r9_Filled_L1
  show Ok (if _ then _ else _) _;rw [if_neg (by omega)];rw [← hlen, List.take_length] at h1;exact .some (.some h1)
theorem Left.unique {l l' : List Int} (h : Left sh bs l) (h' : Left sh bs l') : l = l' := by
 refine List.ext_getElem? fun j => ?_
 cases ha : sh[j]? with
 | none =>
  have := List.getElem?_eq_none_iff.1 ha;rw [List.getElem?_eq_none (by rw [h.1]; exact this), List.getElem?_eq_none (by rw [h'.1]; exact this)]
 | some a => rw [h.2 j a ha, h'.2 j a ha]
theorem r9_Spare_ok (h : Fine cl sh bs) : Ok (P_r9_Spare cl sh bs) fun r => r.2 = 0 ∧ Left sh bs r.1 := by
 obtain ⟨c, i, e, he, hf⟩ := roomE_ok cl sh bs
 have he0 := hf.2 h
 have hsh := h.sh1
 have hbs := h.bs1;unfold P_r9_Spare;rw [r9_Check_eq, he, andx_some'];dsimp only;rw [if_neg (not_not_intro he0)];refine Ok.andx (P := fun l => Left sh bs l) ?_ (fun l hl => .some ⟨rfl, hl⟩);refine Ok.count (fun (x : Int × List Int) => x.1) sh.length (fun k x => x.2.length = k ∧ ∀ (j : Nat) (a : qH), j < k → sh[j]? = some a → x.2[j]? = some (a.wide - wideOn j bs)) rfl ⟨rfl, fun j a hj => by omega⟩ ?_ ?_
 ·rintro k ⟨i, out⟩ hk hx ⟨h1, h2⟩;simp only at hx h1 h2;subst hx;obtain ⟨a, ha⟩ := get_some hk
  have hfit := h.fits ha
  have hw := h.shw k a ha
  have hwo := wideOn_nonneg (i := (k : Int)) h.wides
  have hown : withS bs (bs.map (·.shelf)) = bs := withS_own bs;unfold P_r9_Spare_L1
  show Ok (if _ then _ else _) _;rw [if_pos (by omega), el_at ha, r9_Own_eq (by omega), andx_some', r9_Filled_gen ha h.wides (by omega) (by simp) (by rw [hown]; exact hfit.1), hown, andx_some', chk_pos (i64_small (by omega)), chk_pos (by simp; omega), chk_pos (i64_small (by omega))];refine .some ⟨rfl, by show (out ++ [_]).length = k + 1; simp [h1], fun j b hj hb => ?_⟩
  show (out ++ [a.wide - wideOn k bs])[j]? = _
  by_cases hjk : j < k
  ·rw [List.getElem?_append_left (by omega)];exact h2 j b hjk hb
  ·have : j = k := by omega
   subst this;rw [ha] at hb;cases hb;rw [List.getElem?_append_right (by omega), h1, Nat.sub_self];rfl
 ·rintro ⟨i, out⟩ hx ⟨h1, h2⟩;simp only at hx h1 h2;subst hx;unfold P_r9_Spare_L1
  show Ok (if _ then _ else _) _;rw [if_neg (by omega)];exact .some ⟨h1, fun j a ha => h2 j a (List.getElem?_eq_some_iff.1 ha).1 ha⟩
theorem r9_Spare_no (h : ¬ Fine cl sh bs) : P_r9_Spare cl sh bs = some ([], roomN cl sh bs) := by
 obtain ⟨c, i, e, he, hf⟩ := roomE_ok cl sh bs
 have hN : roomN cl sh bs = e := by unfold roomN; rw [he]
 unfold P_r9_Spare;rw [r9_Check_eq, he, andx_some'];dsimp only;rw [if_pos (fun h0 => h (hf.1 h0)), hN]
theorem s9_Spare_no (h : ¬ Fine cl sh bs) : P_s9_Spare cl sh bs = some ([], roomN cl sh bs) := by
 unfold P_s9_Spare;rw [s9_open_eq, andx_some', if_pos (fun h0 => h (roomN_zero.1 h0))]
theorem r9_Astray_no (h : ¬ Fine cl sh bs) : P_r9_Astray cl sh bs = some ([], roomN cl sh bs) := by
 obtain ⟨c, i, e, he, hf⟩ := roomE_ok cl sh bs
 have hN : roomN cl sh bs = e := by unfold roomN; rw [he]
 unfold P_r9_Astray;rw [r9_Check_eq, he, andx_some'];dsimp only;rw [if_pos (fun h0 => h (hf.1 h0)), hN]
theorem s9_Astray_no (h : ¬ Fine cl sh bs) : P_s9_Astray cl sh bs = some ([], roomN cl sh bs) := by
 unfold P_s9_Astray;rw [s9_open_eq, andx_some', if_pos (fun h0 => h (roomN_zero.1 h0))]
theorem same_Spare : ∃ l e, P_s9_Spare cl sh bs = some (l, e) ∧ P_r9_Spare cl sh bs = some (l, e) ∧ l.length ≤ 10 := by
 by_cases h : Fine cl sh bs
 ·obtain ⟨⟨l, e⟩, e1, h1, h2⟩ := s9_Spare_ok h;obtain ⟨⟨l', e'⟩, e2, h3, h4⟩ := r9_Spare_ok h;simp only at h1 h3;subst h1; subst h3
  have := h2.unique h4;simp only at this;subst this
  have h5 := h2.1
  have h6 := h.sh1;exact ⟨l, 0, e1, e2, by simp only at h5; omega⟩
 ·exact ⟨_, _, s9_Spare_no h, r9_Spare_no h, Nat.zero_le _⟩
theorem same_Astray : ∃ l e, P_s9_Astray cl sh bs = some (l, e) ∧ P_r9_Astray cl sh bs = some (l, e) ∧ l.length ≤ 10 := by
 by_cases h : Fine cl sh bs
 ·obtain ⟨l, e1, h2⟩ := s9_Astray_ok h;obtain ⟨l', e2, h4⟩ := r9_Astray_ok h
  have := h2.unique h4;subst this
  have h5 := h2.inc.len
  have h6 := h.bs1;exact ⟨l, 0, e1, e2, by omega⟩
 ·exact ⟨_, _, s9_Astray_no h, r9_Astray_no h, Nat.zero_le _⟩
theorem fitSel_len {b : qA} : (fitSel sh bs b).length ≤ sh.length := by
 have h : (fitSel sh bs b).length ≤ (upto 0 sh.length).length := List.length_filter_le _ _;rw [upto_len] at h;omega
theorem same_Fits {b : qA} : ∃ l e, P_s9_Fits cl sh bs b.qR b.qS b.qQ b.wide b.high b.heavy b.shelf = some (l, e) ∧ P_r9_Fits cl sh bs b.qR b.qS b.qQ b.wide b.high b.heavy b.shelf = some (l, e) ∧ FitsIs cl sh bs b (l, e) ∧ l.length ≤ 10 := by
 obtain ⟨r, e1, h1⟩ := s9_Fits_ok (cl := cl) (sh := sh) (bs := bs) (b := b);obtain ⟨r', e2, h2⟩ := r9_Fits_ok (cl := cl) (sh := sh) (bs := bs) (b := b)
 have := h1.unique h2;subst this;obtain ⟨l, e⟩ := r;refine ⟨l, e, e1, e2, h1, ?_⟩
 rcases h1 with ⟨_, h⟩ | ⟨hz, h⟩
 ·cases h; exact Nat.zero_le _
 ·cases h
  have := fitSel_len (sh := sh) (bs := bs) (b := b)
  have := (furE_zero hz).1.sh1;omega
theorem same_Put {b : qA} : ∃ at_ m l z e, P_s9_Put cl sh bs b.qR b.qS b.qQ b.wide b.high b.heavy b.shelf = some (at_, m, l, z, e) ∧ P_r9_Put cl sh bs b.qR b.qS b.qQ b.wide b.high b.heavy b.shelf = some (at_, m, l, e) ∧ PutIs cl sh bs b (at_, m, l, e) ∧ l.length ≤ 11 := by
 obtain ⟨⟨a1, a2, a3, a4, a5⟩, e1, h1⟩ := s9_Put_ok (cl := cl) (sh := sh) (bs := bs) (b := b);obtain ⟨r', e2, h2⟩ := r9_Put_ok (cl := cl) (sh := sh) (bs := bs) (b := b)
 have := h1.unique h2;subst this;exact ⟨a1, a2, a3, a4, a5, e1, e2, h1, h1.len⟩
theorem ShelfPuts_true (cl : List Str) (sh : List qH) (bs : List qA) (c n : Int) (s : Str) (w h y p : Int) : P_law_ShelfPuts cl sh bs c n s w h y p = some true := by
  obtain ⟨l1, e1, p1, q1, b1⟩ := same_Astray (cl := cl) (sh := sh) (bs := bs)
  obtain ⟨l2, e2, p2, q2, b2⟩ := same_Spare (cl := cl) (sh := sh) (bs := bs)
  obtain ⟨l3, e3, p3, q3, _, b3⟩ := same_Fits (cl := cl) (sh := sh) (bs := bs) (b := ⟨c, n, s, w, h, y, p⟩)
  obtain ⟨a4, m4, l4, z4, e4, p4, q4, _, b4⟩ := same_Put (cl := cl) (sh := sh) (bs := bs) (b := ⟨c, n, s, w, h, y, p⟩)
  simp only at p3 q3 p4 q4
  unfold P_law_ShelfPuts
  simp only [p1, q1, p2, q2, p3, q3, p4, q4, andx_some', seqx_nx, show (GSo z4 encI l4).l = l4 from rfl, w1_Ints_refl (show l1.length ≤ 1000 by omega), w1_Ints_refl (show l2.length ≤ 1000 by omega), w1_Ints_refl (show l3.length ≤ 1000 by omega), w1_Ints_refl (show l4.length ≤ 1000 by omega),
    if_true, not_true, decide_false, if_false, Bool.false_eq_true]
end
end Go.Am
end
