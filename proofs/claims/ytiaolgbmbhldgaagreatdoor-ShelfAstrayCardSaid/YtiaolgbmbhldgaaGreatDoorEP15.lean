/- Part 15. -/
import Derived.Test.YtiaolgbmbhldgaaGreatDoorEP2
import Derived.ChangeArms
import Derived.ChangeSlices
import Derived.OpenShut
import Derived.Test.YtiaolgbmbhldgaaGreatDoorEP12
import Derived.Test.YtiaolgbmbhldgaaGreatDoorRows
import Derived.ProofKit
import Derived.Test.YtiaolgbmbhldgaaGreatDoorEP13
section
namespace Go.Am
open Go.RowKit
def Lifts (P : Program) (t : TypeId) {α : Type} (e : En α) : Prop :=
 ∀ (H : Type) (enc : TypeId × Value → H) (W : World) (base : Nat) (held : Bool) (fuel : Nat) (cs : List Value) (x : DataW H × List MemPlace),
  DataW.trod enc P W base (fun _ => true) held fuel t cs = some x → ∃ a : α, RelL (snapR W 0) (e.f a) cs
theorem Lifts.int {P : Program} {t : TypeId} (ht : P.underlying t = some (.int .i64)) : Lifts P t encI := by
 intro H enc W base held fuel cs x hx;obtain ⟨n, rfl, _, _⟩ := DataW.trod_int ht hx;exact ⟨n, .cons (.lit _) (.nil _)⟩
theorem snap_cell {W : World} {b off : Nat} {v : Value} (h : W.cell? ⟨b, off, none⟩ = some v) : ∃ c, (snapR W 0).imm b = some c ∧ c[off]? = some v := by
 unfold World.cell? at h;split at h
 ·rename_i c _ _ hb
  simp at h;exact ⟨c, by simp only [snapR, snap, Nat.zero_le, if_true]; simp only [] at hb; rw [hb], h⟩
 ·cases h
theorem list_of {α : Type} {p : Nat → α → Prop} : ∀ n : Nat, (∀ i, i < n → ∃ a, p i a) → ∃ l : List α, l.length = n ∧ ∀ i a, l[i]? = some a → p i a := by
 intro n
 induction n with
 | zero => intro _; exact ⟨[], rfl, fun i a h => by simp at h⟩
 | succ n ih =>
  intro h;obtain ⟨l, h1, h2⟩ := ih fun i hi => h i (by omega)
  obtain ⟨a, ha⟩ := h n (by omega);refine ⟨l ++ [a], by simp [h1], fun i b hb => ?_⟩
  by_cases hi : i < l.length
  ·rw [List.getElem?_append_left hi] at hb; exact h2 i b hb
  ·rw [List.getElem?_append_right (by omega)] at hb
   have : i - l.length = 0 := by
    have := (List.getElem?_eq_some_iff.1 hb).1;simp at this; omega
   rw [this] at hb;simp at hb;subst hb
   have : i = n := by omega
   rw [this]; exact ha
theorem Lifts.slice {P : Program} {t e : TypeId} {α : Type} {en : En α} (ht : P.underlying t = some (.slice e)) (hu : P.cellsOf e = en.u) (h0 : 0 < en.u) (h : Lifts P e en) : Lifts P t (encSl en) := by
 intro H enc W base held fuel cs x hx
 rcases DataW.trod_slice ht hx with ⟨rfl, _⟩ | ⟨a, len, cap, elems, rest, n, _, rfl, _, hb, hl, _, hlen, hel, hsp, _⟩
 ·exact ⟨⟨nilS, [], .inl ⟨rfl, rfl, rfl⟩⟩, .cons (.lit _) (.nil _)⟩
 ·rw [hu] at hel hsp;obtain ⟨hrl, hr⟩ := hsp rfl
  by_cases hc : cap = 0
  ·subst hc
   have : len = 0 := by omega
   subst this;exact ⟨⟨.tree en.u 0 [], [], .inr ⟨rfl, by simp⟩⟩, .cons .tree0 (.nil _)⟩
  ·have hcell : ∀ i, i < len → ∃ (a' : α) (ci : List Value), W.cells? base (a.add (i * en.u)) en.u = some ci ∧ RelL (snapR W 0) (en.f a') ci := by
    intro i hi
    have he := hel i hi;rw [List.getElem?_eq_getElem (by omega)] at he;obtain ⟨ci, h1, h2⟩ := Option.bind_eq_some_iff.1 he;obtain ⟨a', h3⟩ := h _ _ _ _ _ _ _ _ h2;exact ⟨a', ci, h1, h3⟩
   have hspot : a.spot = none := by
    have : ∃ ci, W.cells? base (a.add (0 * en.u)) en.u = some ci := by
     by_cases hl0 : 0 < len
     ·obtain ⟨_, ci, h1, _⟩ := hcell 0 hl0;exact ⟨ci, h1⟩
     ·have hz : len = 0 := by omega
      have he := hr 0 (by omega);rw [List.getElem?_eq_getElem (by omega)] at he;obtain ⟨ci, h1, _⟩ := Option.bind_eq_some_iff.1 he;exact ⟨ci, by simpa [hz] using h1⟩
    obtain ⟨ci, h1⟩ := this;obtain ⟨_, h2, h3⟩ := World.cells?_some h1
    have h4 := h3 0 h0;rw [List.getElem?_eq_getElem (by omega)] at h4
    have := World.cell?_spot h4
    simpa [Addr.add] using this
   obtain ⟨b, off, sp⟩ := a;simp only at hspot;subst hspot;obtain ⟨l, hl1, hl2⟩ := list_of (p := fun i a' => ∃ ci : List Value, W.cells? base ((⟨b, off, none⟩ : Addr).add (i * en.u)) en.u = some ci ∧ RelL (snapR W 0) (en.f a') ci) len hcell
   have hfl : (l.flatMap en.f).length = len * en.u := by rw [flat_len, hl1]
   have each : ∀ j, j < len * en.u → ∃ v y c, (l.flatMap en.f)[j]? = some v ∧ (snapR W 0).imm b = some c ∧ c[off + j]? = some y ∧ RelV (snapR W 0) v y := by
    intro j hj
    have hi : j / en.u < l.length := by rw [hl1]; exact Nat.div_lt_of_lt_mul (by rw [Nat.mul_comm]; exact hj)
    have hk : j % en.u < en.u := Nat.mod_lt _ h0
    have hd : j / en.u * en.u + j % en.u = j := by rw [Nat.mul_comm]; exact Nat.div_add_mod j en.u
    obtain ⟨ci, h1, h2⟩ := hl2 _ _ (List.getElem?_eq_getElem hi);obtain ⟨_, h3, h4⟩ := World.cells?_some h1
    have h5 := h4 _ hk;rw [List.getElem?_eq_getElem (by omega)] at h5
    have h6 : ((⟨b, off, none⟩ : Addr).add (j / en.u * en.u)).add (j % en.u) = ⟨b, off + j, none⟩ := by
     simp only [addr_add]
     congr 1
     omega
    rw [h6] at h5;obtain ⟨c, h7, h8⟩ := snap_cell h5
    have hlen' := en.len l[j / en.u]
    have hv := List.getElem?_eq_getElem (l := en.f l[j / en.u]) (i := j % en.u) (by omega);refine ⟨_, _, c, ?_, h7, h8, h2.2 _ _ _ hv (List.getElem?_eq_getElem _)⟩
    have := flat_get (en := en) (List.getElem?_eq_getElem hi) hk;rw [hd] at this;rw [this, hv]
   refine ⟨⟨.tree en.u l.length (l.flatMap en.f), l, .inr ⟨rfl, by rw [hfl, hl1]⟩⟩, .cons ?_ (.nil _)⟩
   show RelV _ (.tree en.u l.length (l.flatMap en.f)) _;rw [hl1]
   by_cases hz : len * en.u = 0
   ·refine .tree (c := #[]) hfl hl (.inl (List.eq_nil_of_length_eq_zero (by omega))) fun i v x hv hx => by simp at hx
   ·obtain ⟨_, _, c, _, hc1, _, _⟩ := each (len * en.u - 1) (by omega);refine .tree (c := c) hfl hl (.inr ⟨hc1, ?_⟩) fun j v y hv hy => ?_
    ·obtain ⟨_, _, c', _, hc2, hc3, _⟩ := each (len * en.u - 1) (by omega);rw [hc1] at hc2;cases hc2
     have := (Array.getElem?_eq_some_iff.1 hc3).1;omega
    ·have hj := (List.getElem?_eq_some_iff.1 hv).1;obtain ⟨v', y', c', e1, e2, e3, e4⟩ := each j (by omega);rw [hc1] at e2;cases e2;rw [hv] at e1;rw [hy] at e3;cases e1;cases e3;exact e4
theorem RelL.glue {r : Ren} {a b : List AV} {cs : List Value} {n : Nat} (h1 : RelL r a (cs.take n)) (h2 : RelL r b (cs.drop n)) : RelL r (a ++ b) cs := by
 have := h1.append h2
 rwa [List.take_append_drop] at this
end Go.Am
end
section
namespace Go.Am
open Go.RowKit
def enPair {α β : Type} (a : En α) (b : En β) : En (α × β) := ⟨a.u + b.u, fun p => a.f p.1 ++ b.f p.2, fun p => by simp [a.len, b.len]⟩
theorem Lifts.map {P : Program} {t : TypeId} {α β : Type} {a : En α} {b : En β} (h : Lifts P t a) (hf : ∀ x, ∃ y, b.f y = a.f x) : Lifts P t b := by
 intro H enc W base held fuel cs x hx;obtain ⟨v, hv⟩ := h _ _ _ _ _ _ _ _ hx;obtain ⟨y, hy⟩ := hf v;exact ⟨y, by rw [hy]; exact hv⟩
theorem Lifts.arg {P : Program} {t : TypeId} {fs : Array Field} {α : Type} {en : En α} (hl : Lifts P t en) (ht : P.underlying t = some (.struct fs)) {W : World} {r : Reach} {b0 : Nat} {v : Value} (hval : Value.okWide P W r b0 t v)
  {H : Type} {enc : TypeId × Value → H} {base : Nat} {held : Bool} {d : DataW H} {ps : List MemPlace} (h : DataW.Trod enc P W base (fun _ => true) held t v d ps) : ∃ a, RelV (snapR W 0) (.agg (en.f a)) v := by
 simp only [Value.okWide, ht] at hval;obtain ⟨cs, rfl, _, _⟩ := hval;obtain ⟨fuel, hf⟩ := h;obtain ⟨a, ha⟩ := hl _ _ _ _ _ _ _ _ hf;exact ⟨a, by simpa [Value.cells] using RelV.agg ha.1 ha.2⟩
end Go.Am
end
section
namespace Go.Am
open Go.RowKit
set_option linter.unusedVariables false
def encU16 : En UInt16 := ⟨1, fun b => [ivk .u16 (b.toNat : Int)], fun _ => rfl⟩
theorem Lifts.u8 {P : Program} {t : TypeId} (ht : P.underlying t = some (.int .u8)) : Lifts P t encU8 := by
 intro H enc W base held fuel cs x hx;obtain ⟨n, rfl, _, hw⟩ := DataW.trod_int ht hx
 have hw : 0 ≤ n ∧ n ≤ 255 := by
  have := Bool.and_eq_true_iff.1 hw;exact ⟨of_decide_eq_true this.1, of_decide_eq_true this.2⟩
 have e : ((UInt8.ofNat n.toNat).toNat : Int) = n := by rw [UInt8.toNat_ofNat']; omega
 refine ⟨UInt8.ofNat n.toNat, .cons ?_ (.nil _)⟩;rw [e];exact .lit _
theorem Lifts.u16 {P : Program} {t : TypeId} (ht : P.underlying t = some (.int .u16)) : Lifts P t encU16 := by
 intro H enc W base held fuel cs x hx;obtain ⟨n, rfl, _, hw⟩ := DataW.trod_int ht hx
 have hw : 0 ≤ n ∧ n ≤ 65535 := by
  have := Bool.and_eq_true_iff.1 hw;exact ⟨of_decide_eq_true this.1, of_decide_eq_true this.2⟩
 have e : ((UInt16.ofNat n.toNat).toNat : Int) = n := by rw [UInt16.toNat_ofNat']; omega
 refine ⟨UInt16.ofNat n.toNat, .cons ?_ (.nil _)⟩;rw [e];exact .lit _
theorem Lifts.argI {P : Program} {t : TypeId} {k : IntKind} {α : Type} {en : En α} (hl : Lifts P t en) (ht : P.underlying t = some (.int k)) {W : World} {r : Reach} {b0 : Nat} {v : Value} (hval : Value.okWide P W r b0 t v)
  {H : Type} {enc : TypeId × Value → H} {base : Nat} {held : Bool} {d : DataW H} {ps : List MemPlace} (h : DataW.Trod enc P W base (fun _ => true) held t v d ps) : ∃ a, ∀ w, (en.f a)[0]? = some w → RelV (snapR W 0) w v := by
 obtain ⟨fuel, hf⟩ := h;obtain ⟨a, ha⟩ := hl _ _ _ _ _ _ _ _ hf;refine ⟨a, fun w hw => ?_⟩;cases v with
 | agg cs => simp [Value.okWide, ht, Cell.okWide, Cell.ok] at hval
 | _ => exact ha.2 0 _ _ hw rfl
end Go.Am
end
section
namespace Go.Am
open Go.RowKit
set_option linter.unusedVariables false
theorem Lifts.str {P : Program} {t : TypeId} (ht : P.underlying t = some .string) : Lifts P t encStr := by
 intro H enc W base held fuel cs x hx;obtain ⟨s, rfl, _, _⟩ := DataW.trod_string ht hx;refine ⟨s.data.toList, .cons ?_ (.nil _)⟩;exact .lit _
inductive Flds (P : Program) : List Field → Nat → {α : Type} → En α → Prop
 | one {f : Field} {off : Nat} {α : Type} {a : En α} (ho : f.offset = off) (hc : P.cellsOf f.type = a.u) (l : Lifts P f.type a) : Flds P [f] off a
 | cons {f : Field} {r : List Field} {off : Nat} {α β : Type} {a : En α} {b : En β} (ho : f.offset = off) (hc : P.cellsOf f.type = a.u) (l : Lifts P f.type a) (h : Flds P r (off + a.u) b) : Flds P (f :: r) off (enPair a b)
theorem Flds.run {P : Program} {H : Type} {enc : TypeId × Value → H} {W : World} {base : Nat} {held : Bool} {n : Nat} {cs : List Value} {fs : List Field} {off : Nat} {α : Type} {e : En α} (hf : Flds P fs off e)
  (h : ∀ (i : Nat) (f : Field), fs[i]? = some f → ∃ x, DataW.trod enc P W base (fun _ => true) held n f.type ((cs.drop f.offset).take (P.cellsOf f.type)) = some x) : ∃ x : α, RelL (snapR W 0) (e.f x) ((cs.drop off).take e.u) := by
 induction hf with
 | one ho hc l =>
  obtain ⟨x, hx⟩ := h 0 _ rfl;rw [ho, hc] at hx;exact l _ _ _ _ _ _ _ _ hx
 | @cons f r off α β a b ho hc l _ ih =>
  obtain ⟨x, hx⟩ := h 0 _ rfl;rw [ho, hc] at hx;obtain ⟨x0, r0⟩ := l _ _ _ _ _ _ _ _ hx;obtain ⟨x1, r1⟩ := ih fun i f hf => h (i + 1) f hf
  refine ⟨(x0, x1), ?_⟩
  show RelL _ _ ((cs.drop off).take (a.u + b.u));rw [List.take_add, List.drop_drop]
  have e1 := r0;exact RelL.append r0 r1
theorem Lifts.struct {P : Program} {t : TypeId} {fs : Array Field} {α : Type} {e : En α} (ht : P.underlying t = some (.struct fs)) (ct : P.cellsOf t = e.u) (hf : Flds P fs.toList 0 e) : Lifts P t e := by
 intro H enc W base held fuel cs x hx;obtain ⟨xs, n, _, _, hl, hn, h⟩ := DataW.trod_struct ht hx;obtain ⟨v, hv⟩ := hf.run (H := H) (enc := enc) (W := W) (base := base) (held := held) (n := n) (cs := cs) fun i f hi => by
  have hi' : fs[i]? = some f := by rw [← Array.getElem?_toList]; exact hi
  have hlt : i < xs.length := by rw [hn]; exact (Array.getElem?_eq_some_iff.1 hi').1
  exact ⟨xs[i], by rw [h i f hi', List.getElem?_eq_getElem hlt]⟩
 refine ⟨v, ?_⟩
 rwa [List.drop_zero, List.take_of_length_le (by omega)] at hv
theorem Lifts.arr3 {P : Program} {t e : TypeId} {α : Type} {a : En α} (ht : P.underlying t = some (.array 3 e)) (ce : P.cellsOf e = a.u) (ct : P.cellsOf t = a.u + (a.u + a.u)) (l : Lifts P e a) : Lifts P t (enPair a (enPair a a)) := by
 intro H enc W base held fuel cs x hx;obtain ⟨xs, n, _, _, hl, hn, h⟩ := DataW.trod_array ht hx
 have h0 := h 0 (by omega)
 have h1 := h 1 (by omega)
 have h2 := h 2 (by omega);rw [List.getElem?_eq_getElem (by omega), ce, Nat.zero_mul, List.drop_zero] at h0;rw [List.getElem?_eq_getElem (by omega), ce, Nat.one_mul] at h1;rw [List.getElem?_eq_getElem (by omega), ce, show 2 * a.u = a.u + a.u by omega, ← List.drop_drop, List.take_of_length_le (by simp; omega)] at h2;obtain ⟨x0, r0⟩ := l _ _ _ _ _ _ _ _ h0;obtain ⟨x1, r1⟩ := l _ _ _ _ _ _ _ _ h1;obtain ⟨x2, r2⟩ := l _ _ _ _ _ _ _ _ h2;exact ⟨(x0, x1, x2), .glue r0 (.glue r1 r2)⟩
theorem Lifts.arr2' {P : Program} {t e : TypeId} {α : Type} {a : En α} (ht : P.underlying t = some (.array 2 e)) (ce : P.cellsOf e = a.u) (ct : P.cellsOf t = a.u + a.u) (l : Lifts P e a) : Lifts P t (enPair a a) := by
 intro H enc W base held fuel cs x hx;obtain ⟨xs, n, _, _, hl, hn, h⟩ := DataW.trod_array ht hx
 have h0 := h 0 (by omega)
 have h1 := h 1 (by omega);rw [List.getElem?_eq_getElem (by omega), ce, Nat.zero_mul, List.drop_zero] at h0;rw [List.getElem?_eq_getElem (by omega), ce, Nat.one_mul, List.take_of_length_le (by simp; omega)] at h1;obtain ⟨x0, r0⟩ := l _ _ _ _ _ _ _ _ h0;obtain ⟨x1, r1⟩ := l _ _ _ _ _ _ _ _ h1;exact ⟨(x0, x1), .glue r0 r1⟩
end Go.Am
end
section
namespace Go.Am.YtiaolgbmbhldgaaGreatDoor
open Go.Am Go.RowKit Go.Proofs
theorem li_9 : Lifts Tryz.prog 9 encStr := .str Tryz.underlying9
theorem li_22 : Lifts Tryz.prog 22 (encSl encStr) := .slice Tryz.underlying22 (by kernel_rfl) (by decide) li_9
theorem li_3 : Lifts Tryz.prog 3 encI := .int Tryz.underlying3
theorem li_86 : Lifts Tryz.prog 86 (enPair encI (enPair encI (enPair encI encI))) := .struct Tryz.underlying86 (by kernel_rfl) (.cons rfl (by kernel_rfl) li_3 (.cons rfl (by kernel_rfl) li_3 (.cons rfl (by kernel_rfl) li_3 (.one rfl (by kernel_rfl) li_3))))
theorem lm_86 : Lifts Tryz.prog 86 qS := (li_86).map fun x => ⟨⟨x.1, x.2.1, x.2.2.1, x.2.2.2⟩, rfl⟩
theorem li_23 : Lifts Tryz.prog 23 (encSl qS) := .slice Tryz.underlying23 (by kernel_rfl) (by decide) lm_86
theorem li_28 : Lifts Tryz.prog 28 (enPair encI (enPair encI encStr)) := .struct Tryz.underlying28 (by kernel_rfl) (.cons rfl (by kernel_rfl) li_3 (.cons rfl (by kernel_rfl) li_3 (.one rfl (by kernel_rfl) li_9)))
theorem li_42 : Lifts Tryz.prog 42 (enPair (enPair encI (enPair encI encStr)) (enPair encI (enPair encI (enPair encI encI)))) := .struct Tryz.underlying42 (by kernel_rfl) (.cons rfl (by kernel_rfl) li_28 (.cons rfl (by kernel_rfl) li_3 (.cons rfl (by kernel_rfl) li_3 (.cons rfl (by kernel_rfl) li_3 (.one rfl (by kernel_rfl) li_3)))))
theorem lm_42 : Lifts Tryz.prog 42 qI := (li_42).map fun x => ⟨⟨x.1.1, x.1.2.1, x.1.2.2, x.2.1, x.2.2.1, x.2.2.2.1, x.2.2.2.2⟩, rfl⟩
theorem li_24 : Lifts Tryz.prog 24 (encSl qI) := .slice Tryz.underlying24 (by kernel_rfl) (by decide) lm_42
theorem li_26 : Lifts Tryz.prog 26 (enPair (encSl encStr) (enPair (encSl qS) (encSl qI))) := .struct Tryz.underlying26 (by kernel_rfl) (.cons rfl (by kernel_rfl) li_22 (.cons rfl (by kernel_rfl) li_23 (.one rfl (by kernel_rfl) li_24)))
theorem li_63 : Lifts Tryz.prog 63 (enPair (enPair encI (enPair encI encStr)) (enPair (enPair encI (enPair encI encStr)) (enPair encI (enPair encI encStr)))) := .arr3 Tryz.underlying63 (by kernel_rfl) (by kernel_rfl) li_28
theorem li_65 : Lifts Tryz.prog 65 encU16 := .u16 Tryz.underlying65
theorem li_5 : Lifts Tryz.prog 5 encU8 := .u8 Tryz.underlying5
theorem li_71 : Lifts Tryz.prog 71 (encSl encU8) := .slice Tryz.underlying71 (by kernel_rfl) (by decide) li_5
theorem li_83 : Lifts Tryz.prog 83 (enPair encU8 encU8) := .arr2' Tryz.underlying83 (by kernel_rfl) (by kernel_rfl) li_5
theorem li_84 : Lifts Tryz.prog 84 (enPair encU16 encU16) := .arr2' Tryz.underlying84 (by kernel_rfl) (by kernel_rfl) li_65
end Go.Am.YtiaolgbmbhldgaaGreatDoor
end
section
namespace Go.Am
set_option linter.unusedVariables false
set_option linter.unusedSimpArgs false
def upto (lo hi : Int) : List Int := (List.range (hi - lo).toNat).map fun i : Nat => lo + (i : Int)
theorem upto_nil {lo hi : Int} (h : hi ≤ lo) : upto lo hi = [] := by
 unfold upto; rw [show (hi - lo).toNat = 0 by omega]; rfl
theorem upto_succ {lo hi : Int} (h : lo ≤ hi) : upto lo (hi + 1) = upto lo hi ++ [hi] := by
 unfold upto;rw [show (hi + 1 - lo).toNat = (hi - lo).toNat + 1 by omega, List.range_succ, List.map_append]
 show _ ++ [lo + ((hi - lo).toNat : Int)] = _;rw [show lo + ((hi - lo).toNat : Int) = hi by omega]
theorem mem_upto {lo hi x : Int} : x ∈ upto lo hi ↔ lo ≤ x ∧ x < hi := by
 unfold upto;simp only [List.mem_map, List.mem_range];exact ⟨fun ⟨i, h1, h2⟩ => by omega, fun h => ⟨(x - lo).toNat, by omega, by omega⟩⟩
theorem upto_len {lo hi : Int} : (upto lo hi).length = (hi - lo).toNat := by simp [upto]
theorem upto_sorted {lo hi : Int} : (upto lo hi).Pairwise (· < ·) := by
 unfold upto;rw [List.pairwise_map];exact List.pairwise_lt_range.imp fun h => by omega
theorem iter_flat {α : Type} {body : Int × List α → Option (Stp (Int × List α) (List α))} {f : Int → List α} {lo hi : Int}
  (step : ∀ s, lo ≤ s → s < hi → body (s, (upto lo s).flatMap f) = some (.ag (s + 1, (upto lo s).flatMap f ++ f s)))
  (fin : ∀ s out, lo ≤ s → ¬ s < hi → body (s, out) = some (.dn out)) : iter body (lo, []) = some ((upto lo hi).flatMap f) := by
 have key : ∀ (m : Nat) (s : Int), lo ≤ s → (hi - s).toNat = m → iter body (s, (upto lo s).flatMap f) = some ((upto lo (max s hi)).flatMap f) := by
  intro m
  induction m with
  | zero =>
   intro s h1 h2;refine iter_eq.2 (.inr ?_);rw [fin s _ h1 (by omega), show max s hi = s by omega]
  | succ m ih =>
   intro s h1 h2;refine iter_eq.2 (.inl ⟨_, step s h1 (by omega), ?_⟩)
   have := ih (s + 1) (by omega) (by omega);rw [upto_succ h1, List.flatMap_append] at this;rw [show max s hi = max (s + 1) hi by omega]
   simpa using this
 have := key _ lo (Int.le_refl _) rfl;rw [upto_nil (Int.le_refl lo)] at this
 by_cases h : lo ≤ hi
 ·rw [show max lo hi = hi by omega] at this;exact this
 ·rw [show max lo hi = lo by omega, upto_nil (Int.le_refl lo)] at this;rw [upto_nil (by omega : hi ≤ lo)];exact this
theorem lexB_append : ∀ (b x y : List Int), lexB (b ++ x) (b ++ y) = lexB x y
 | [], _, _ => rfl
 | a :: b, x, y => by
  show lexB (a :: (b ++ x)) (a :: (b ++ y)) = _;rw [lexB, if_pos rfl, lexB_append b x y]
end Go.Am
end
section
namespace Go.Am
set_option linter.unusedVariables false
set_option linter.unusedSimpArgs false
section
variable {all : List (List Int)} {m : List Int → Option Int} {k best : Nat} {least n : Int} {found : Bool} {l : List Int}
theorem lexB_irr : ∀ l : List Int, lexB l l = false
 | [] => rfl
 | a :: r => by rw [lexB, if_pos rfl]; exact lexB_irr r
end
theorem w1_Has_eq {l : List Int} {n : Int} (hl : l.length ≤ 1000) : P_w1_Has l n = some (decide (n ∈ l)) := by
 unfold P_w1_Has;rw [iter_scanI (fun i => if l[i]? = some n then some true else none) l.length, seqx_scan]
 ·cases hf : (List.range l.length).findSome? (fun i => if l[i]? = some n then some true else none) with
  | none =>
   have := of_find_none hf;refine congrArg some (decide_eq_false fun hm => ?_).symm;obtain ⟨j, hj⟩ := List.getElem?_of_mem hm
   have h2 := this j (List.getElem?_eq_some_iff.1 hj).1;rw [if_pos hj] at h2;cases h2
  | some b =>
   obtain ⟨j, _, hj⟩ := List.exists_of_findSome?_eq_some hf
   by_cases e : l[j]? = some n
   ·rw [if_pos e] at hj;cases hj;exact congrArg some (decide_eq_true (List.mem_of_getElem? e)).symm
   ·rw [if_neg e] at hj; cases hj
 ·intro k hk _;obtain ⟨a, ha⟩ := get_some hk;unfold P_w1_Has_L1;rw [if_pos (by omega), el_at ha, chk_pos (i64_small (by omega)), ha]
  by_cases e : a = n
  ·rw [if_pos e, if_pos (by rw [e])]; rfl
  ·rw [if_neg e, if_neg (fun h => e (Option.some.inj h))]; rfl
 ·intro _;unfold P_w1_Has_L1;rw [if_neg (by omega)]
section
variable {cl : List Str} {sh : List qH} {bs books : List qA} {but clear : Int}
def RiseIn (n m : Nat) (l : List Int) : Prop := l.length = n ∧ l.Pairwise (· ≤ ·) ∧ ∀ x ∈ l, 0 ≤ x ∧ x < (m : Int)
noncomputable def costF (sh : List qH) (books : List qA) (but clear : Int) (l : List Int) : Option Int :=
 open Classical in if ¬ clear ∈ l ∧ Arr sh books l then some (movedN books l 0 but) else none
structure FewB (sh : List qH) (books : List qA) (but clear : Int) (l : List Int) (n : Int) : Prop where
 rise : RiseIn books.length sh.length l
 ok : costF sh books but clear l = some n
 least : ∀ l' n', RiseIn books.length sh.length l' → costF sh books but clear l' = some n' → n ≤ n' ∧ (n' = n → lexB l' l = false)
end
end Go.Am
end
section
namespace Go.Am
set_option linter.unusedVariables false
set_option linter.unusedSimpArgs false
section
variable {sh : List qH} {mv mv' : Int → Int → Int} {books : List qA} {a0 : qH} {but clear : Int}
theorem stand_arr' {ls : List Nat} (h0 : sh[0]? = some a0) :
  Stand sh mv books 0 0 a0.wide ls ↔ (ls.length = books.length ∧ (∀ n ∈ ls, n < sh.length) ∧ Arr sh books (intsOf ls)) ∧ ∀ (j n : Nat), ls[j]? = some n → mv j n ≠ 1000 := by
 have cap : ∀ (n : Nat) (a : qH), sh[n]? = some a → capAt a n 0 a0.wide = a.wide := fun n a ha => by
  unfold capAt
  by_cases e : n = 0
  ·subst e; rw [h0] at ha; cases ha; rw [if_pos rfl]
  ·rw [if_neg e]
 refine ⟨fun h => ⟨⟨h.len, fun n hn => (h.from_ n hn).2, (up_iff ls).2 h.up, fun s a ha => ?_⟩, fun j n hj => by have := h.may j n hj; rwa [Nat.zero_add] at this⟩, fun ⟨⟨h1, h2, h3, h4⟩, h5⟩ => ⟨h1, fun n hn => ⟨Nat.zero_le _, h2 n hn⟩, (up_iff ls).1 h3, fun n a ha _ => ?_, fun j n hj => by rw [Nat.zero_add]; exact h5 j n hj⟩⟩
 ·obtain ⟨r1, r2⟩ := h.room s a ha (Nat.zero_le _);rw [cap s a ha] at r1;exact ⟨r2, r1⟩
 ·obtain ⟨r1, r2⟩ := h4 n a ha;rw [cap n a ha];exact ⟨r2, r1⟩
theorem cost_congr : ∀ (ls : List Nat) (k : Nat), (∀ (j n : Nat), ls[j]? = some n → mv ((k + j : Nat) : Int) n = mv' ((k + j : Nat) : Int) n) → cost mv k ls = cost mv' k ls
 | [], _, _ => rfl
 | n :: ls, k, h => by
  have h0 := h 0 n rfl
  have ih := cost_congr ls (k + 1) fun j n hj => by
   have := h (j + 1) n (by simpa using hj)
   rwa [show k + (j + 1) = k + 1 + j by omega] at this
  rw [Nat.add_zero] at h0;unfold cost;rw [h0, ih]
theorem rise_nat {l : List Int} {n m : Nat} (h : RiseIn n m l) : ∃ ls : List Nat, l = intsOf ls ∧ ls.length = n ∧ (∀ x ∈ ls, x < m) ∧ ls.Pairwise (· ≤ ·) := by
 refine ⟨l.map Int.toNat, ?_, by simp [h.1], fun x hx => ?_, ?_⟩
 ·unfold intsOf;rw [List.map_map]
  have : l.map ((fun n : Nat => (n : Int)) ∘ Int.toNat) = l.map id := List.map_congr_left fun x hx => by
   have := h.2.2 x hx
   show ((x.toNat : Nat) : Int) = x;omega
  rw [this, List.map_id]
 ·obtain ⟨y, hy, rfl⟩ := List.mem_map.1 hx
  have := h.2.2 y hy;omega
 ·rw [List.pairwise_map];exact h.2.1.imp fun h => by omega
theorem rise_of {ls : List Nat} {m : Nat} (h2 : ∀ n ∈ ls, n < m) (h3 : ls.Pairwise (· ≤ ·)) : RiseIn ls.length m (intsOf ls) := by
 refine ⟨intsOf_len ls, ?_, fun x hx => ?_⟩
 ·unfold intsOf;rw [List.pairwise_map];exact h3.imp fun h => by omega
 ·obtain ⟨n, hn, rfl⟩ := List.mem_map.1 hx
  have := h2 n hn;omega
structure Counts (mv : Int → Int → Int) (n m : Nat) (books : List qA) (but clear : Int) : Prop where
 low : ∀ i k, 0 ≤ mv i k
 no : ∀ (i k : Nat), i < n → k < m → (k : Int) = clear → mv i k = 1000
 own : ∀ (i k : Nat), i < n → k < m → (k : Int) ≠ clear → mv i k = ownMv books but i k
theorem best_few (hc : Counts mv books.length sh.length books but clear) (h0 : sh[0]? = some a0) (hw : Wides books) (h11 : books.length ≤ 11) (hsh : ∀ (n : Nat) (a : qH), sh[n]? = some a → 0 ≤ a.wide) :
  ((bestW sh mv books 0 0 a0.wide).1 < 1000 → FewB sh books but clear (bestW sh mv books 0 0 a0.wide).2 (bestW sh mv books 0 0 a0.wide).1) ∧
  (¬ (bestW sh mv books 0 0 a0.wide).1 < 1000 → ∀ l, RiseIn books.length sh.length l → costF sh books but clear l = none) := by
 have hB := bestW_spec (sh := sh) hc.low books 0 0 a0.wide;generalize bestW sh mv books 0 0 a0.wide = w at hB
 have hfs : ∀ ls, feas sh mv books 0 0 a0.wide ls ↔ (ls.length = books.length ∧ (∀ n ∈ ls, n < sh.length) ∧ Arr sh books (intsOf ls)) ∧ ∀ (j n : Nat), ls[j]? = some n → mv j n ≠ 1000 := fun ls =>
  (feas_stand hsh books 0 0 a0.wide ls hw (hsh 0 a0 h0)).trans (stand_arr' h0)
 have key : ∀ ls : List Nat, ls.length = books.length → (∀ n ∈ ls, n < sh.length) →
   ((∀ (j n : Nat), ls[j]? = some n → mv j n ≠ 1000) ↔ ¬ clear ∈ intsOf ls) ∧ (¬ clear ∈ intsOf ls → cost mv 0 ls = movedN books (intsOf ls) 0 but) := by
  intro ls h1 h2;refine ⟨⟨fun h hm => ?_, fun h j n hj e => ?_⟩, fun h => ?_⟩
  ·obtain ⟨n, hn, e⟩ := List.mem_map.1 hm;obtain ⟨j, hj⟩ := List.getElem?_of_mem hn
   have hjl := (List.getElem?_eq_some_iff.1 hj).1;exact h j n hj (hc.no j n (by omega) (h2 n hn) e)
  ·have hjl := (List.getElem?_eq_some_iff.1 hj).1
   have hn := List.mem_of_getElem? hj
   by_cases e2 : (n : Int) = clear
   ·exact h (List.mem_map.2 ⟨n, hn, e2⟩)
   ·have e3 := hc.own j n (by omega) (h2 n hn) e2
    have := ownMv_rng (books := books) but (j : Int) (n : Int);omega
  ·have : cost mv 0 ls = cost (ownMv books but) 0 ls := cost_congr ls 0 fun j n hj => by
    have hjl := (List.getElem?_eq_some_iff.1 hj).1
    have hn := List.mem_of_getElem? hj;rw [Nat.zero_add];exact hc.own j n (by omega) (h2 n hn) fun e => h (List.mem_map.2 ⟨n, hn, e⟩)
   rw [this, cost_moved 0 ls (by omega)];rfl
 have all : ∀ l n, RiseIn books.length sh.length l → costF sh books but clear l = some n → ∃ ls, l = intsOf ls ∧ feas sh mv books 0 0 a0.wide ls ∧ cost mv 0 ls = n := by
  intro l n hR hn;unfold costF at hn;split at hn
  ·rename_i hok
   obtain ⟨ls, rfl, h1, h2, h3⟩ := rise_nat hR;obtain ⟨k1, k2⟩ := key ls h1 h2;refine ⟨ls, rfl, (hfs ls).2 ⟨⟨h1, h2, hok.2⟩, k1.2 hok.1⟩, ?_⟩;rw [k2 hok.1];exact Option.some.inj hn
  ·cases hn
 have lim : ∀ l : List Int, movedN books l 0 but < 1000 := fun l => by
  have := movedN_bound books l 0 but;omega
 refine ⟨fun hlt => ?_, fun hnl l hR => ?_⟩
 ·obtain ⟨ls, e1, e2, e3⟩ := hB.found hlt;obtain ⟨⟨h1, h2, h3⟩, h4⟩ := (hfs ls).1 e2;obtain ⟨k1, k2⟩ := key ls h1 h2
  have hcl := k1.1 h4;refine ⟨?_, ?_, fun l' n' hR' hn' => ?_⟩
  ·rw [e1, ← h1];exact rise_of h2 ((up_iff ls).1 h3.1)
  ·unfold costF;rw [e1, if_pos ⟨hcl, h3⟩, ← k2 hcl, e3]
  ·obtain ⟨ls', rfl, f1, f2⟩ := all l' n' hR' hn'
   have hlt' : cost mv 0 ls' < 1000 := by
    unfold costF at hn';split at hn'
    ·have := lim (intsOf ls')
     have := Option.some.inj hn';omega
    ·cases hn'
   obtain ⟨g1, g2⟩ := hB.least ls' f1 hlt';exact ⟨by omega, fun e => g2 (by omega)⟩
 ·cases hn : costF sh books but clear l with
  | none => rfl
  | some n =>
   obtain ⟨ls, rfl, f1, f2⟩ := all l n hR hn
   have hlt' : cost mv 0 ls < 1000 := by
    unfold costF at hn;split at hn
    ·have := lim (intsOf ls)
     have := Option.some.inj hn;omega
    ·cases hn
   have := (hB.least ls f1 hlt').1;omega
end
end Go.Am
end
section
namespace Go.Am
set_option linter.unusedVariables false
set_option linter.unusedSimpArgs false
section
variable {cl : List Str} {sh : List qH} {bs books : List qA} {but clear : Int}
theorem own_eq {i : Nat} {n : Int} (hi : i < books.length) : P_s9_own cl sh books i n = some (ownMv books (-1) i n) := by
 obtain ⟨b, hb⟩ := get_some hi;unfold P_s9_own ownMv;rw [el_at hb, if_neg (show ¬ (i : Int) = -1 by omega)];simp only [Int.toNat_natCast, hb];split <;> rfl
def cntF (books : List qA) (but clear : Int) (i n : Int) : Int := if n = clear then 1000 else ownMv books but i n
theorem arrange_ok {F : Int → Int → Option Int} (hF : ∀ i n : Nat, i < books.length → n < sh.length → F i n = some (cntF books but clear i n)) (hs : 1 ≤ sh.length ∧ sh.length ≤ 4) (hw : Wides books) (h11 : books.length ≤ 11)
    (hsh : ∀ (n : Nat) (a : qH), sh[n]? = some a → 0 ≤ a.wide ∧ a.wide ≤ 2000) :
    ∃ m l, P_s9_arrange sh books F = some (m, l) ∧ ((m < 1000 ∧ FewB sh books but clear (l.take books.length) m) ∨ (¬ m < 1000 ∧ ∀ l, RiseIn books.length sh.length l → costF sh books but clear l = none)) := by
  obtain ⟨a0, ha0⟩ := get_some (l := sh) (k := 0) (by omega)
  have hv : ∀ i n : Nat, i < books.length → n < sh.length → mvOf F i n = cntF books but clear i n := fun i n hi hn => mvOf_of (hF i n hi hn) (by
    unfold cntF
    have := ownMv_rng (books := books) but (i : Int) (n : Int)
    split <;> omega)
  have hc : Counts (mvOf F) books.length sh.length books but clear := ⟨fun i n => (mvOf_rng F i n).1, fun i n hi hn e => by rw [hv i n hi hn]; unfold cntF; rw [if_pos e], fun i n hi hn e => by rw [hv i n hi hn]; unfold cntF; rw [if_neg e]⟩
  have hok : ArrOk sh books F := ⟨⟨h11, by omega⟩, fun b hb => by have := hw b hb; omega, fun a ha => by
      obtain ⟨j, hj⟩ := List.getElem?_of_mem ha
      have := hsh j a hj
      omega, fun i n hi hn => by rw [hF i n hi hn, hv i n hi hn]⟩
  have hb := best_few hc ha0 hw h11 fun n a ha => (hsh n a ha).1
  refine ⟨(wayOf sh books F a0).1, arrW 0 (wayOf sh books F a0), ?_, ?_⟩
  · unfold P_s9_arrange
    rw [show el sh 0 = el sh ((0 : Nat) : Int) from rfl, el_at ha0, chk_pos hok]
  · by_cases hlt : (wayOf sh books F a0).1 < 1000
    · have h1 := hb.1 hlt
      refine .inl ⟨hlt, ?_⟩
      have e : (arrW 0 (wayOf sh books F a0)).take books.length = (wayOf sh books F a0).2 := by
        unfold arrW
        rw [if_pos hlt]
        have : (wayOf sh books F a0).2.length = books.length := h1.rise.1
        rw [List.replicate_zero, List.nil_append, ← this, List.take_left]
      rw [e]
      exact h1
    · exact .inr ⟨hlt, hb.2 hlt⟩
end
section
variable {cl : List Str} {sh : List qH} {bs books : List qA} {b : qA}
theorem Fine.shw (h : Fine cl sh bs) (n : Nat) (a : qH) (ha : sh[n]? = some a) : 0 ≤ a.wide ∧ a.wide ≤ 2000 := by
 have := (h.shelf ha).2.1;unfold btw at this;omega
end
end Go.Am
end
section
namespace Go.Am
set_option linter.unusedVariables false
set_option linter.unusedSimpArgs false
theorem el_int {α β : Type} {l : List α} {x : Int} {a : α} {g : α → Option β} (h0 : 0 ≤ x) (ha : l[x.toNat]? = some a) : el l x g = g a := by
 unfold el;rw [if_pos h0, ha]
section
variable {cl : List Str} {sh : List qH} {bs books : List qA} {s : Int}
def cfB (bs : List qA) (x y : Int) : Int := match bs[x.toNat]?, bs[y.toNat]? with
 | some a, some b => cmpM a.qJ a.qK a.qL b.qJ b.qK b.qL
 | _, _ => 0
theorem cfB_of {x y : Int} {a b : qA} (ha : bs[x.toNat]? = some a) (hb : bs[y.toNat]? = some b) : cfB bs x y = cmpM a.qJ a.qK a.qL b.qJ b.qK b.qL := by unfold cfB; rw [ha, hb]
theorem at_some {x : Int} (h : 0 ≤ x ∧ x < bs.length) : ∃ a, bs[x.toNat]? = some a := get_some (by omega)
theorem ord_cfB : Ord bs.length (cfB bs) := by
 refine ⟨fun x h1 h2 => ?_, fun x y z h1 h2 h3 h4 h5 h6 p q => ?_, fun x y z h1 h2 h3 h4 h5 h6 p q r => ?_⟩
 ·obtain ⟨a, ha⟩ := at_some ⟨h1, h2⟩;rw [cfB_of ha ha, cmpM_zero.2 ⟨rfl, rfl, rfl⟩];omega
 ·obtain ⟨a, ha⟩ := at_some ⟨h1, h2⟩;obtain ⟨b, hb⟩ := at_some ⟨h3, h4⟩;obtain ⟨c, hc⟩ := at_some ⟨h5, h6⟩;rw [cfB_of ha hb] at p;rw [cfB_of hb hc] at q;rw [cfB_of ha hc];exact cmpM_trans p q
 ·obtain ⟨a, ha⟩ := at_some ⟨h1, h2⟩;obtain ⟨b, hb⟩ := at_some ⟨h3, h4⟩;obtain ⟨c, hc⟩ := at_some ⟨h5, h6⟩;rw [cfB_of ha hb] at p;rw [cfB_of hb hc] at q;rw [cfB_of ha hc] at r
  by_cases e : cmpM a.qJ a.qK a.qL b.qJ b.qK b.qL = 0
  ·obtain ⟨e1, e2, e3⟩ := cmpM_zero.1 e;rw [e1, e2, e3] at r;exact q r
  ·have h7 : cmpM b.qJ b.qK b.qL a.qJ a.qK a.qL < 0 := by
    rw [cmpM_neg]; omega
   exact q (cmpM_trans h7 r)
def ordB (bs : List qA) : List Int := sortC (cfB bs) (upto 0 bs.length)
theorem ordB_perm : (ordB bs).Perm (upto 0 bs.length) := sortC_perm _ _
theorem ordB_len : (ordB bs).length = bs.length := by rw [ordB_perm.length_eq, upto_len]; omega
theorem mem_ordB {x : Int} : x ∈ ordB bs ↔ 0 ≤ x ∧ x < bs.length := ordB_perm.mem_iff.trans mem_upto
theorem cfB_ne (hd : Dist bs) {x y : Int} (hx : 0 ≤ x ∧ x < bs.length) (hy : 0 ≤ y ∧ y < bs.length) (hxy : x ≠ y) : cfB bs x y ≠ 0 := by
 obtain ⟨a, ha⟩ := at_some hx;obtain ⟨b, hb⟩ := at_some hy;rw [cfB_of ha hb];intro h;obtain ⟨e1, e2, e3⟩ := cmpM_zero.1 h
 rcases Int.lt_or_gt_of_ne hxy with h | h
 ·exact hd x.toNat y.toNat a b (by omega) ha hb ⟨e1, e2, e3⟩
 ·exact hd y.toNat x.toNat b a (by omega) hb ha ⟨e1.symm, e2.symm, e3.symm⟩
theorem cfB_neg {x y : Int} (hx : 0 ≤ x ∧ x < bs.length) (hy : 0 ≤ y ∧ y < bs.length) : cfB bs y x = - cfB bs x y := by
 obtain ⟨a, ha⟩ := at_some hx;obtain ⟨b, hb⟩ := at_some hy;rw [cfB_of ha hb, cfB_of hb ha, cmpM_neg]
theorem ordB_sorted (hd : Dist bs) : (ordB bs).Pairwise fun x y => cfB bs x y < 0 := by
 refine sortC_sorted (upto_sorted.imp_of_mem fun {x y} hx hy h => ?_) fun x hx y hy z hz => ?_
 ·have hx := mem_upto.1 hx
  have hy := mem_upto.1 hy
  have h1 := cfB_ne hd hx hy (by omega)
  have h2 := cfB_neg hx hy;exact ⟨h1, fun h => by omega⟩
 ·have hx := mem_upto.1 hx
  have hy := mem_upto.1 hy
  have hz := mem_upto.1 hz;exact ord_cfB.trans x y z hx.1 hx.2 hy.1 hy.2 hz.1 hz.2
theorem insertC_congr {cf cf' : Int → Int → Int} {a : Int} : ∀ {l : List Int}, (∀ x ∈ l, cf a x = cf' a x) → insertC cf a l = insertC cf' a l
 | [], _ => rfl
 | b :: r, h => by
  unfold insertC;rw [h b (by simp), insertC_congr fun x hx => h x (by simp [hx])]
theorem sortC_congr {cf cf' : Int → Int → Int} : ∀ {l : List Int}, (∀ x ∈ l, ∀ y ∈ l, cf x y = cf' x y) → sortC cf l = sortC cf' l
 | [], _ => rfl
 | a :: r, h => by
  unfold sortC;rw [sortC_congr fun x hx y hy => h x (by simp [hx]) y (by simp [hy])];exact insertC_congr fun x hx => h a (by simp) x (by simp [(sortC_perm cf' r).mem_iff.1 hx])
def takenB (bs : List qA) (l : List Int) : List qA := l.filterMap fun i => bs[i.toNat]?
theorem takenB_snoc {l : List Int} {i : Int} {a : qA} (h : bs[i.toNat]? = some a) : takenB bs (l ++ [i]) = takenB bs l ++ [a] := by
 unfold takenB;rw [List.filterMap_append];simp [h]
theorem takenB_len : ∀ {l : List Int}, (∀ x ∈ l, 0 ≤ x ∧ x < bs.length) → (takenB bs l).length = l.length
 | [], _ => rfl
 | i :: r, h => by
  obtain ⟨a, ha⟩ := at_some (h i (by simp))
  have ih := takenB_len (l := r) fun x hx => h x (by simp [hx])
  unfold takenB at ih ⊢;simp [ha, ih]
theorem takenB_mem {l : List Int} {b : qA} (h : b ∈ takenB bs l) : b ∈ bs := by
 obtain ⟨i, _, hi⟩ := List.mem_filterMap.1 h;exact List.mem_of_getElem? hi
theorem r9_Taken_eq {l : List Int} (h : ∀ x ∈ l, 0 ≤ x ∧ x < bs.length) (hl : l.length ≤ 1000) : P_r9_Taken bs l = some (takenB bs l) := by
 refine Ok.get ?_;unfold P_r9_Taken;refine Ok.andx (P := fun r => r = takenB bs l) ?_ (fun r hr => .some hr);refine Ok.count (fun (x : Int × List qA) => x.1) l.length (fun k x => x.2 = takenB bs (l.take k)) rfl rfl ?_ ?_
 ·rintro k ⟨i, out⟩ hk hx hI;simp only at hx hI;subst hx; subst hI;obtain ⟨x, hxk⟩ := get_some hk
  have hr := h x (List.mem_of_getElem? hxk);obtain ⟨a, ha⟩ := at_some hr;unfold P_r9_Taken_L1
  show Ok (if _ then _ else _) _
  have hlen : (takenB bs (l.take k)).length = (l.take k).length := takenB_len fun x hx => h x (List.mem_of_mem_take hx)
  rw [List.length_take] at hlen;rw [if_pos (by omega), el_at hxk, el_int hr.1 ha, chk_pos (by simp; omega), chk_pos (i64_small (by omega))];refine .some ⟨rfl, ?_⟩
  show takenB bs (l.take k) ++ [a] = _;rw [take_step hxk, takenB_snoc ha]
 ·rintro ⟨i, out⟩ hx hI;simp only at hx hI;subst hx; subst hI;unfold P_r9_Taken_L1
  show Ok (if _ then _ else _) _;rw [if_neg (by omega)];refine .some ?_
  show takenB bs (l.take l.length) = _;rw [List.take_length]
end
end Go.Am
end
section
namespace Go.Am
set_option linter.unusedVariables false
set_option linter.unusedSimpArgs false
section
variable {cl : List Str} {sh : List qH} {bs books : List qA} {s : Int}
theorem pair_at {R : Int → Int → Prop} {l : List Int} {i j : Nat} {x y : Int} (h : l.Pairwise R) (hij : i < j) (hx : l[i]? = some x) (hy : l[j]? = some y) : R x y := by
 obtain ⟨h1, e1⟩ := List.getElem?_eq_some_iff.1 hx;obtain ⟨h2, e2⟩ := List.getElem?_eq_some_iff.1 hy;rw [← e1, ← e2];exact List.pairwise_iff_getElem.1 h i j h1 h2 hij
theorem mem_take_at {l : List Int} {k : Nat} {x : Int} (h : x ∈ l.take k) : ∃ j, j < k ∧ l[j]? = some x := by
 obtain ⟨j, hj⟩ := List.getElem?_of_mem h
 have hj' := (List.getElem?_eq_some_iff.1 hj).1;rw [List.length_take] at hj';exact ⟨j, by omega, by rw [List.getElem?_take_of_lt (by omega)] at hj; exact hj⟩
def ArrIs (cl : List Str) (sh : List qH) (bs : List qA) (r : List Int × List Int × Int × Int) : Prop :=
 (roomN cl sh bs ≠ 0 ∧ r = ([], [], 0, roomN cl sh bs)) ∨ (Fine cl sh bs ∧ (∀ l, RiseIn bs.length sh.length l → costF sh (takenB bs (ordB bs)) (-1) (-1) l = none) ∧ r = ([], [], 0, 9)) ∨
 (Fine cl sh bs ∧ ∃ l n, FewB sh (takenB bs (ordB bs)) (-1) (-1) l n ∧ r = (ordB bs, l, n, 0))
theorem taken_ord_len : (takenB bs (ordB bs)).length = bs.length := by rw [takenB_len fun x hx => mem_ordB.1 hx, ordB_len]
theorem taken_wides {l : List Int} (h : Wides bs) : Wides (takenB bs l) := fun b hb => h b (takenB_mem hb)
theorem cmp1_eq (hF : Fine cl sh bs) {x y : Int} (hx : 0 ≤ x ∧ x < bs.length) (hy : 0 ≤ y ∧ y < bs.length) : P_s9_Arrange1 x y cl sh bs = some (cfB bs x y) := by
 obtain ⟨a, ha⟩ := at_some hx;obtain ⟨b, hb⟩ := at_some hy
 have h1 := hF.cl1;unfold P_s9_Arrange1;rw [el_int hx.1 ha, el_int hy.1 hb, s9_compare_eq (by omega) (hF.marks a (List.mem_of_getElem? ha)) (hF.marks b (List.mem_of_getElem? hb)), andx_some', cfB_of ha hb]
theorem range_loop {n : Nat} (h : n ≤ 1000) {body : Int × List Int → Option (Stp (Int × List Int) (List Int))}
  (step : ∀ (i : Nat) (l : List Int), i < n → l.length = i → body (i, l) = some (.ag ((i : Int) + 1, l ++ [(i : Int)]))) (fin : ∀ (s : Int) l, ¬ s < n → body (s, l) = some (.dn l)) : iter body (0, []) = some (upto 0 n) := by
 have key := iter_flat (body := body) (f := fun i => [i]) (lo := 0) (hi := n) (fun s h1 h2 => ?_) (fun s out h1 h2 => ?_)
 ·rw [key];simp
 ·obtain ⟨i, rfl⟩ : ∃ i : Nat, s = (i : Int) := ⟨s.toNat, by omega⟩;refine step i _ (by omega) ?_;simp [upto_len]
 ·exact fin s out h2
theorem s9_Arrange_ok : Ok (P_s9_Arrange cl sh bs) fun r => ArrIs cl sh bs (r.1, r.2.2.1, r.2.2.2.2.1, r.2.2.2.2.2) := by
  unfold P_s9_Arrange
  rw [s9_open_eq, andx_some']
  by_cases h : roomN cl sh bs = 0
  · have hF := roomN_zero.1 h
    have h1 := hF.sh1
    have h2 := hF.bs1
    have hl := taken_ord_len (bs := bs)
    have ho := ordB_len (bs := bs)
    rw [if_neg (not_not_intro h)]
    have e1 : iter (P_s9_Arrange_L1 bs) (0, []) = some (upto 0 bs.length) := by
      refine range_loop (by omega) (fun i l hi hli => ?_) (fun s l hs => ?_)
      · unfold P_s9_Arrange_L1
        show (if _ then _ else _) = _
        rw [if_pos (by omega), chk_pos (by simp; omega), chk_pos (i64_small (by omega))]
      · unfold P_s9_Arrange_L1
        show (if _ then _ else _) = _
        rw [if_neg hs]
    rw [e1, andx_some']
    generalize hF' : (fun x y => P_s9_Arrange1 x y cl sh bs) = F
    have hFe : ∀ x y : Int, (0 ≤ x ∧ x < bs.length) → (0 ≤ y ∧ y < bs.length) → F x y = some (cfB bs x y) := fun x y hx hy => by rw [← hF']; exact cmp1_eq hF hx hy
    have hcf : ∀ x y : Int, (0 ≤ x ∧ x < bs.length) → (0 ≤ y ∧ y < bs.length) → cfOf F x y = cfB bs x y := fun x y hx hy => by unfold cfOf; rw [hFe x y hx hy]
    have hsort : sortC (cfOf F) (upto 0 bs.length) = ordB bs := sortC_congr fun x hx y hy => hcf x y (mem_upto.1 hx) (mem_upto.1 hy)
    have hO := ord_cfB (bs := bs)
    have hok : SortOkC F (cfOf F) bs.length (upto 0 bs.length) := by
      refine ⟨by rw [upto_len]; omega, fun x hx => mem_upto.1 hx, ⟨fun x a1 a2 => ?_, fun x y z a1 a2 a3 a4 a5 a6 => ?_, fun x y z a1 a2 a3 a4 a5 a6 => ?_⟩, ?_, fun x y a1 a2 a3 a4 => ?_⟩
      · rw [hcf x x ⟨a1, a2⟩ ⟨a1, a2⟩]; exact hO.irrefl x a1 a2
      · rw [hcf x y ⟨a1, a2⟩ ⟨a3, a4⟩, hcf y z ⟨a3, a4⟩ ⟨a5, a6⟩, hcf x z ⟨a1, a2⟩ ⟨a5, a6⟩]; exact hO.trans x y z a1 a2 a3 a4 a5 a6
      · rw [hcf x y ⟨a1, a2⟩ ⟨a3, a4⟩, hcf y z ⟨a3, a4⟩ ⟨a5, a6⟩, hcf x z ⟨a1, a2⟩ ⟨a5, a6⟩]; exact hO.ntrans x y z a1 a2 a3 a4 a5 a6
      · rw [hsort]
        refine (ordB_sorted hF.dist).imp_of_mem fun {x y} hx hy hxy => ?_
        rw [hcf x y (mem_ordB.1 hx) (mem_ordB.1 hy)]
        exact hxy
      · rw [hFe x y ⟨a1, a2⟩ ⟨a3, a4⟩, hcf x y ⟨a1, a2⟩ ⟨a3, a4⟩]
    rw [chk_pos hok, hsort]
    have e2 : iter (P_s9_Arrange_L2 cl sh bs (upto 0 bs.length)) (0, []) = some (takenB bs (ordB bs)) := by
      refine Ok.get ?_
      refine Ok.count (fun (x : Int × List qA) => x.1) (ordB bs).length (fun k x => x.2 = takenB bs ((ordB bs).take k)) rfl rfl ?_ ?_
      · rintro k ⟨i, out⟩ hk hx hI
        simp only at hx hI
        subst hx; subst hI
        obtain ⟨x, hxk⟩ := get_some hk
        have hr := mem_ordB.1 (List.mem_of_getElem? hxk)
        obtain ⟨a, ha⟩ := at_some hr
        unfold P_s9_Arrange_L2
        rw [hF', hsort]
        show Ok (if _ then _ else _) _
        have hlen : (takenB bs ((ordB bs).take k)).length = ((ordB bs).take k).length := takenB_len fun x hx => mem_ordB.1 (List.mem_of_mem_take hx)
        rw [List.length_take] at hlen
        rw [if_pos (by omega), el_at hxk, el_int hr.1 ha, chk_pos (by simp; omega), chk_pos (i64_small (by omega))]
        refine .some ⟨rfl, ?_⟩
        show takenB bs ((ordB bs).take k) ++ [a] = _
        rw [take_step hxk, takenB_snoc ha]
      · rintro ⟨i, out⟩ hx hI
        simp only at hx hI
        subst hx; subst hI
        unfold P_s9_Arrange_L2
        rw [hF', hsort]
        show Ok (if _ then _ else _) _
        rw [if_neg (by omega)]
        refine .some ?_
        show takenB bs ((ordB bs).take (ordB bs).length) = _
        rw [List.take_length]
    rw [e2, andx_some']
    obtain ⟨m, l, e3, e4⟩ := arrange_ok (sh := sh) (books := takenB bs (ordB bs)) (but := -1) (clear := -1) (F := fun i_ n_ => P_s9_own cl sh (takenB bs (ordB bs)) i_ n_) (fun i n hi hn => by
      unfold cntF
      rw [if_neg (show ¬ (n : Int) = -1 by omega), own_eq hi]) h1 (taken_wides hF.wides) (by omega) hF.shw
    rw [e3, andx_some']
    dsimp only
    rcases e4 with ⟨h4, h5⟩ | ⟨h4, h5⟩
    · rw [if_neg (by omega), chk_pos (by omega), Int.toNat_natCast, ho, ← hl]
      exact .some (.inr (.inr ⟨hF, _, _, h5, rfl⟩))
    · rw [if_pos (by omega)]
      refine .some (.inr (.inl ⟨hF, ?_, rfl⟩))
      rw [hl] at h5; exact h5
  · rw [if_pos h]
    exact .some (.inl ⟨h, rfl⟩)
end
end Go.Am
end
section
namespace Go.Am
set_option linter.unusedVariables false
set_option linter.unusedSimpArgs false
section
variable {cl : List Str} {sh : List qH} {bs books : List qA} {s : Int}
end
end Go.Am
end
section
namespace Go.Am
set_option linter.unusedVariables false
set_option linter.unusedSimpArgs false
section
variable {cl : List Str} {sh : List qH} {bs books : List qA} {b : qA}
end
end Go.Am
end
section
namespace Go.Am
set_option linter.unusedVariables false
set_option linter.unusedSimpArgs false
def Inc (f below : Int) (l : List Int) : Prop := l.Pairwise (· < ·) ∧ ∀ x ∈ l, f ≤ x ∧ x < below
theorem inc_room {f below : Int} : ∀ {l : List Int}, Inc f below l → l ≠ [] → f + l.length ≤ below
 | [], _, h => absurd rfl h
 | a :: r, ⟨h1, h2⟩, _ => by
  obtain ⟨g1, g2⟩ := List.pairwise_cons.1 h1
  have ha := h2 a (by simp)
  by_cases hr : r = []
  ·subst hr;simp only [List.length_cons, List.length_nil];omega
  ·have := inc_room (f := a + 1) (below := below) (l := r) ⟨g2, fun x hx => ⟨by have := g1 x hx; omega, (h2 x (by simp [hx])).2⟩⟩ hr;simp only [List.length_cons];omega
end Go.Am
end
section
namespace Go.Am
set_option linter.unusedVariables false
set_option linter.unusedSimpArgs false
section
variable {cl : List Str} {sh : List qH} {bs books : List qA}
def keepB (p : Nat → Bool) : List qA → Nat → List qA
 | [], _ => []
 | b :: r, k => if p k then keepB p r (k + 1) else b :: keepB p r (k + 1)
theorem keepB_congr {p q : Nat → Bool} : ∀ (l : List qA) (k : Nat), (∀ i, k ≤ i → i < k + l.length → p i = q i) → keepB p l k = keepB q l k
 | [], _, _ => rfl
 | b :: r, k, h => by
  have h0 := h k (Nat.le_refl _) (by simp)
  have ih := keepB_congr (p := p) (q := q) r (k + 1) fun i h1 h2 => h i (by omega) (by simp only [List.length_cons]; omega)
  unfold keepB;rw [h0, ih]
theorem keepB_snoc {p : Nat → Bool} : ∀ (l : List qA) (b : qA) (k : Nat), keepB p (l ++ [b]) k = keepB p l k ++ (if p (k + l.length) then [] else [b])
 | [], b, k => by
  show keepB p [b] k = [] ++ _;rw [List.nil_append];simp only [keepB, List.length_nil, Nat.add_zero]
 | a :: r, b, k => by
  have ih := keepB_snoc (p := p) r b (k + 1)
  show keepB p (a :: (r ++ [b])) k = keepB p (a :: r) k ++ _;simp only [keepB, List.length_cons];rw [ih, show k + 1 + r.length = k + (r.length + 1) by omega];split <;> simp
theorem keepB_sub {p : Nat → Bool} : ∀ (l : List qA) (k : Nat), (keepB p l k).Sublist l
 | [], _ => .slnil
 | b :: r, k => by
  unfold keepB;split
  ·exact .cons _ (keepB_sub r (k + 1))
  ·exact .cons_cons _ (keepB_sub r (k + 1))
theorem keepB_all {p : Nat → Bool} : ∀ (l : List qA) (k : Nat), (∀ i, k ≤ i → i < k + l.length → p i = true) → keepB p l k = []
 | [], _, _ => rfl
 | b :: r, k, h => by
  unfold keepB;rw [if_pos (h k (Nat.le_refl _) (by simp)), keepB_all r (k + 1) fun i h1 h2 => h i (by omega) (by simp only [List.length_cons]; omega)]
def inL (l : List Int) (i : Nat) : Bool := decide ((i : Int) ∈ l)
theorem rises_nil : Rises [] := fun k a b ha hb => by simp at ha
theorem r9_Less_eq {l : List Int} (hb : bs.length ≤ 1000) (hl : l.length ≤ 1000) : P_r9_Less bs l = some (keepB (inL l) bs 0) := by
 refine Ok.get ?_;unfold P_r9_Less;refine Ok.andx (P := fun r => r = keepB (inL l) bs 0) ?_ (fun r hr => .some hr);refine Ok.count (fun (x : Int × List qA) => x.1) bs.length (fun k x => x.2 = keepB (inL l) (bs.take k) 0) rfl rfl ?_ ?_
 ·rintro k ⟨i, out⟩ hk hx hI;simp only at hx hI;subst hx; subst hI;obtain ⟨a, ha⟩ := get_some hk
  have hlen := (keepB_sub (p := inL l) (bs.take k) 0).length_le;rw [List.length_take] at hlen;unfold P_r9_Less_L1
  show Ok (if _ then _ else _) _;rw [if_pos (by omega), w1_Has_eq hl]
  show Ok (andx (if decide ((k : Int) ∈ l) = true then _ else _) _) _
  have hst := keepB_snoc (p := inL l) (bs.take k) a 0;rw [← take_step ha, show 0 + (bs.take k).length = k by rw [List.length_take]; omega] at hst
  by_cases hin : (k : Int) ∈ l
  ·have e : inL l k = true := decide_eq_true hin;rw [if_pos (decide_eq_true hin)]
   show Ok (chk _ _) _;rw [chk_pos (i64_small (by omega))];refine .some ⟨rfl, ?_⟩
   show keepB (inL l) (bs.take k) 0 = _;rw [hst, if_pos e, List.append_nil]
  ·have e : inL l k = false := decide_eq_false hin;rw [if_neg (by rw [decide_eq_false hin]; decide), el_at ha, chk_pos (by simp; omega)]
   show Ok (chk _ _) _;rw [chk_pos (i64_small (by omega))];refine .some ⟨rfl, ?_⟩
   show keepB (inL l) (bs.take k) 0 ++ [a] = _;rw [hst, if_neg (by rw [e]; decide)]
 ·rintro ⟨i, out⟩ hx hI;simp only at hx hI;subst hx; subst hI;unfold P_r9_Less_L1
  show Ok (if _ then _ else _) _;rw [if_neg (by omega)];refine .some ?_
  show keepB (inL l) (bs.take bs.length) 0 = _;rw [List.take_length]
structure AstIs (bs : List qA) (l : List Int) : Prop where
 inc : Inc 0 bs.length l
 ok : Rises (keepB (inL l) bs 0)
 least : ∀ l', Inc 0 bs.length l' → Rises (keepB (inL l') bs 0) → l.length ≤ l'.length ∧ (l'.length = l.length → lexB l' l = false)
theorem Inc.len {l : List Int} {n : Nat} (h : Inc 0 n l) : l.length ≤ n := by
 by_cases e : l = []
 ·subst e; exact Nat.zero_le _
 ·have := inc_room h e;omega
end
end Go.Am
end
section
namespace Go.Am
set_option linter.unusedVariables false
set_option linter.unusedSimpArgs false
theorem shrI_nat (s i : Nat) : shrI (s : Int) (i : Int) = ((s / 2 ^ i : Nat) : Int) := by
 unfold shrI;rw [Int.toNat_natCast, Int.fdiv_eq_ediv_of_nonneg _ (by exact_mod_cast Nat.zero_le (2 ^ i))]
 norm_cast
theorem andI_one (x : Nat) : andI (x : Int) 1 = ((x % 2 : Nat) : Int) := by
 have h : (BitVec.ofInt 64 (x : Int) &&& BitVec.ofInt 64 1).toNat = x % 2 := by
  rw [BitVec.toNat_and, BitVec.ofInt_natCast, BitVec.toNat_ofNat, show (BitVec.ofInt 64 1).toNat = 1 from rfl, Nat.and_one_is_mod];omega
 unfold andI;rw [h, wrap_id (by omega) (by omega)]
theorem bit_iff (s i : Nat) : (andI (shrI (s : Int) (i : Int)) 1 = 1) ↔ s.testBit i = true := by
 rw [shrI_nat, andI_one, Nat.testBit_eq_decide_div_mod_eq, decide_eq_true_eq];omega
theorem bits_of (p : Nat → Bool) : ∀ n : Nat, ∃ s, s < 2 ^ n ∧ ∀ i, i < n → s.testBit i = p i
 | 0 => ⟨0, by decide, fun i h => by omega⟩
 | n + 1 => by
  obtain ⟨s, h1, h2⟩ := bits_of p n;cases hp : p n with
  | false =>
   refine ⟨s, by rw [Nat.pow_succ]; omega, fun i hi => ?_⟩
   by_cases e : i = n
   ·subst e;rw [hp, Nat.testBit_lt_two_pow h1]
   ·exact h2 i (by omega)
  | true =>
   refine ⟨2 ^ n + s, by rw [Nat.pow_succ]; omega, fun i hi => ?_⟩
   by_cases e : i = n
   ·subst e;rw [hp, Nat.testBit_two_pow_add_eq, Nat.testBit_lt_two_pow h1];rfl
   ·rw [Nat.testBit_two_pow_add_gt (by omega)];exact h2 i (by omega)
theorem lexB_trans : ∀ {a b c : List Int}, lexB a b = true → lexB b c = true → lexB a c = true
 | [], [], _, h, _ => by cases h
 | [], _ :: _, [], _, h => by cases h
 | [], _ :: _, _ :: _, _, _ => rfl
 | _ :: _, [], _, h, _ => by cases h
 | _ :: _, _ :: _, [], _, h => by cases h
 | x :: a, y :: b, z :: c, h1, h2 => by
  rw [lexB] at h1 h2 ⊢
  by_cases e1 : x = y
  ·rw [if_pos e1] at h1
   by_cases e2 : y = z
   ·rw [if_pos e2] at h2;rw [if_pos (e1.trans e2)];exact lexB_trans h1 h2
   ·rw [if_neg e2] at h2;rw [if_neg (by omega), e1];exact h2
  ·rw [if_neg e1] at h1
   have g1 := of_decide_eq_true h1
   by_cases e2 : y = z
   ·rw [if_neg (by omega), ← e2];exact h1
   ·rw [if_neg e2] at h2
    have g2 := of_decide_eq_true h2;rw [if_neg (by omega)];exact decide_eq_true (by omega)
section
variable {cl : List Str} {sh : List qH} {bs books : List qA}
def bitsL (n s : Nat) : List Int := (upto 0 n).filter fun i => s.testBit i.toNat
theorem mem_bits {n s : Nat} {x : Int} : x ∈ bitsL n s ↔ (0 ≤ x ∧ x < n) ∧ s.testBit x.toNat = true := by
 unfold bitsL;rw [List.mem_filter, mem_upto]
theorem bits_inc {n s : Nat} : Inc 0 n (bitsL n s) := ⟨upto_sorted.filter _, fun x hx => (mem_bits.1 hx).1⟩
theorem inc_ext : ∀ {l l' : List Int}, l.Pairwise (· < ·) → l'.Pairwise (· < ·) → (∀ x, x ∈ l ↔ x ∈ l') → l = l'
 | [], [], _, _, _ => rfl
 | [], b :: s, _, _, h => by have := (h b).2 (by simp); simp at this
 | a :: r, [], _, _, h => by have := (h a).1 (by simp); simp at this
 | a :: r, b :: s, h1, h2, h => by
  obtain ⟨g1, g2⟩ := List.pairwise_cons.1 h1;obtain ⟨k1, k2⟩ := List.pairwise_cons.1 h2
  have e : a = b := by
   rcases List.mem_cons.1 ((h a).1 (by simp)) with e | e
   ·exact e
   ·rcases List.mem_cons.1 ((h b).2 (by simp)) with e' | e'
    ·exact e'.symm
    ·have := k1 a e
     have := g1 b e';omega
  subst e
  congr 1
  refine inc_ext g2 k2 fun x => ⟨fun hx => ?_, fun hx => ?_⟩
  ·rcases List.mem_cons.1 ((h x).1 (by simp [hx])) with e | e
   ·have := g1 x hx; omega
   ·exact e
  ·rcases List.mem_cons.1 ((h x).2 (by simp [hx])) with e | e
   ·have := k1 x hx; omega
   ·exact e
theorem bits_step {k s : Nat} : bitsL (k + 1) s = bitsL k s ++ (if s.testBit k then [(k : Int)] else []) := by
 unfold bitsL;rw [show ((k + 1 : Nat) : Int) = (k : Int) + 1 by omega, upto_succ (by omega), List.filter_append]
 congr 1
 cases h : s.testBit k <;> simp [h]
theorem bits_len {k s : Nat} : (bitsL k s).length ≤ k := by
 have := List.length_filter_le (fun i : Int => s.testBit i.toNat) (upto 0 k);unfold bitsL;rw [upto_len] at this;omega
theorem rises_prefix {x y : List qA} (h : Rises (x ++ y)) : Rises x := fun k a b ha hb => by
 have h1 := (List.getElem?_eq_some_iff.1 ha).1
 have h2 := (List.getElem?_eq_some_iff.1 hb).1;exact h k a b (by rw [List.getElem?_append_left h1]; exact ha) (by rw [List.getElem?_append_left h2]; exact hb)
theorem rises_snoc {x : List qA} {b : qA} : Rises (x ++ [b]) ↔ Rises x ∧ ∀ a, x.getLast? = some a → mLess a b := by
 refine ⟨fun h => ⟨rises_prefix h, fun a ha => ?_⟩, fun ⟨h1, h2⟩ k a c ha hc => ?_⟩
 ·rw [List.getLast?_eq_getElem?] at ha
  have hl := (List.getElem?_eq_some_iff.1 ha).1;refine h (x.length - 1) a b (by rw [List.getElem?_append_left hl]; exact ha) ?_;rw [show x.length - 1 + 1 = x.length by omega, List.getElem?_append_right (Nat.le_refl _), Nat.sub_self];rfl
 ·by_cases hk : k + 1 < x.length
  ·rw [List.getElem?_append_left (by omega)] at ha;rw [List.getElem?_append_left hk] at hc;exact h1 k a c ha hc
  ·have hc' := (List.getElem?_eq_some_iff.1 hc).1;simp only [List.length_append, List.length_cons, List.length_nil] at hc'
   have e : k + 1 = x.length := by omega
   rw [List.getElem?_append_left (by omega)] at ha;rw [e, List.getElem?_append_right (Nat.le_refl _), Nat.sub_self] at hc
   have hcb : b = c := Option.some.inj hc;rw [← hcb];refine h2 a ?_;rw [List.getLast?_eq_getElem?, show x.length - 1 = k by omega];exact ha
theorem keepB_append {p : Nat → Bool} : ∀ (l r : List qA) (k : Nat), keepB p (l ++ r) k = keepB p l k ++ keepB p r (k + l.length)
 | [], r, k => rfl
 | a :: l, r, k => by
  have ih := keepB_append (p := p) l r (k + 1)
  show keepB p (a :: (l ++ r)) k = keepB p (a :: l) k ++ _;simp only [keepB, List.length_cons];rw [ih, show k + 1 + l.length = k + (l.length + 1) by omega];split <;> simp
theorem keepB_take {p : Nat → Bool} (k : Nat) (h : Rises (keepB p bs 0)) : Rises (keepB p (bs.take k) 0) := by
 have e : keepB p bs 0 = keepB p (bs.take k) 0 ++ keepB p (bs.drop k) (0 + (bs.take k).length) := by
  rw [← keepB_append, List.take_append_drop]
 rw [e] at h;exact rises_prefix h
open Classical in
theorem set_loop (hF : Fine cl sh bs) {s : Nat} {found : Bool} {best : List Int} : iter (P_s9_Astray_L2 bs found (s : Int) best) (-1, 0, []) = some (if Rises (keepB (fun i => s.testBit i) bs 0) then Ex.nx (bitsL bs.length s) else Ex.rt (found, best)) := by
  have h10 := hF.bs1
  have h6 := hF.cl1
  refine Ok.get ?_
  refine Ok.count (fun (x : Int × Int × List Int) => x.2.1) bs.length (fun k x => x.2.2 = bitsL k s ∧ Rises (keepB (fun i => s.testBit i) (bs.take k) 0) ∧
    ((x.1 = -1 ∧ keepB (fun i => s.testBit i) (bs.take k) 0 = []) ∨ (0 ≤ x.1 ∧ x.1 < k ∧ ∃ a, bs[x.1.toNat]? = some a ∧ (keepB (fun i => s.testBit i) (bs.take k) 0).getLast? = some a))) rfl ⟨rfl, rises_nil, .inl ⟨rfl, rfl⟩⟩ ?_ ?_
  · rintro k ⟨last, i, l⟩ hk hx ⟨h1, h2, h3⟩
    simp only at hx h1 h2 h3
    subst hx; subst h1
    obtain ⟨b, hb⟩ := get_some hk
    have hst := keepB_snoc (p := fun i => s.testBit i) (bs.take k) b 0
    rw [← take_step hb, show 0 + (bs.take k).length = k by rw [List.length_take]; omega] at hst
    have hbl := bits_len (k := k) (s := s)
    have hbs := bits_step (k := k) (s := s)
    have hcnt : I64 ((k : Int) + 1) := i64_small (by omega)
    unfold P_s9_Astray_L2
    show Ok (if _ then _ else _) _
    rw [if_pos (by omega), el_at hb, chk_pos (by omega)]
    by_cases hbit : s.testBit k = true
    · rw [if_pos ((bit_iff s k).2 hbit), chk_pos (by simp; omega)]
      rw [if_pos hbit] at hbs hst
      show Ok (chk _ _) _
      rw [chk_pos hcnt]
      rw [List.append_nil] at hst
      refine .some ⟨rfl, ?_, ?_, ?_⟩
      · show bitsL k s ++ [(k : Int)] = _
        rw [hbs]
      · rw [hst]; exact h2
      · rw [hst]
        rcases h3 with ⟨g1, g2⟩ | ⟨g1, g2, g3⟩
        · exact .inl ⟨g1, g2⟩
        · exact .inr ⟨g1, by show last < ((k + 1 : Nat) : Int); omega, g3⟩
    · have hbit' : ¬ andI (shrI (s : Int) (k : Int)) 1 = 1 := fun h => hbit ((bit_iff s k).1 h)
      rw [if_neg hbit']
      rw [if_neg hbit] at hbs hst
      rw [List.append_nil] at hbs
      rcases h3 with ⟨g1, g2⟩ | ⟨g1, g2, a, g3, g4⟩
      · rw [if_neg (by omega)]
        show Ok (chk _ _) _
        rw [chk_pos hcnt]
        rw [g2, List.nil_append] at hst
        refine .some ⟨rfl, ?_, ?_, .inr ⟨by show (0 : Int) ≤ k; omega, by show (k : Int) < ((k + 1 : Nat) : Int); omega, b, by simpa using hb, by rw [hst]; rfl⟩⟩
        · show bitsL k s = _
          rw [hbs]
        · rw [hst]
          intro j x y hx hy
          simp at hy
      · have hne : cmpM a.qJ a.qK a.qL b.qJ b.qK b.qL ≠ 0 := fun h => by
          obtain ⟨e1, e2, e3⟩ := cmpM_zero.1 h
          exact hF.dist last.toNat k a b (by omega) g3 hb ⟨e1, e2, e3⟩
        rw [if_pos g1, el_int g1 g3, s9_compare_eq (by omega) (hF.marks a (List.mem_of_getElem? g3)) (hF.marks b (List.mem_of_getElem? hb))]
        rw [andx_some', andx_some']
        by_cases hgt : cmpM a.qJ a.qK a.qL b.qJ b.qK b.qL > 0
        · rw [if_pos (decide_eq_true hgt)]
          refine .some ?_
          show Ex.rt (found, best) = _
          rw [if_neg fun h => ?_]
          have h5 := keepB_take (p := fun i => s.testBit i) (k + 1) h
          rw [hst] at h5
          have h6 : mLess a b := (rises_snoc.1 h5).2 a g4
          unfold mLess at h6
          omega
        · rw [if_neg (by rw [decide_eq_false hgt]; decide)]
          show Ok (chk _ _) _
          rw [chk_pos hcnt]
          refine .some ⟨rfl, ?_, ?_, .inr ⟨by show (0 : Int) ≤ k; omega, by show (k : Int) < ((k + 1 : Nat) : Int); omega, b, by simpa using hb, ?_⟩⟩
          · show bitsL k s = _
            rw [hbs]
          · rw [hst]
            refine rises_snoc.2 ⟨h2, fun c hc => ?_⟩
            rw [g4] at hc
            cases hc
            show cmpM a.qJ a.qK a.qL b.qJ b.qK b.qL < 0
            omega
          · rw [hst, List.getLast?_concat]
  · rintro ⟨last, i, l⟩ hx ⟨h1, h2, h3⟩
    simp only at hx h1 h2 h3
    subst hx; subst h1
    unfold P_s9_Astray_L2
    show Ok (if _ then _ else _) _
    rw [if_neg (by omega)]
    rw [List.take_length] at h2
    refine .some ?_
    show Ex.nx (bitsL bs.length s) = _
    rw [if_pos h2]
theorem cmpInt_lt (x y : Int) : P_cmpInt x y = some (if x < y then -1 else if x > y then 1 else 0) := by
 unfold P_cmpInt;rw [if_neg (not_not_intro rfl), if_neg (not_not_intro rfl)]
 by_cases h1 : x < y
 ·rw [if_pos h1, if_pos h1]
 ·rw [if_neg h1, if_neg h1]
  by_cases h2 : x > y
  ·rw [if_pos h2, if_pos h2]
  ·rw [if_neg h2, if_neg h2]
theorem compare_ok {best l : List Int} (h : l.length = best.length) (hl : l.length ≤ 1000) : ∃ y, seqx (iter (P_s9_Astray_L3 best l) 0) (fun _ => if (l.length : Int) < (best.length : Int) then some (-1) else some 0) = some y ∧ (y < 0 ↔ lexB l best = true) := by
 have key : Ok (seqx (iter (P_s9_Astray_L3 best l) 0) (fun _ => if (l.length : Int) < (best.length : Int) then some (-1) else some 0)) fun y => y < 0 ↔ lexB l best = true := by
  refine Ok.seqx ?_;refine Ok.count (fun x : Int => x) l.length (fun k _ => l.take k = best.take k) rfl rfl ?_ ?_
  ·rintro k i hk hx hI
   try simp only at hx
   subst hx;obtain ⟨x, hx⟩ := get_some hk;obtain ⟨y, hy⟩ := get_some (l := best) (k := k) (by omega)
   have e1 : l = l.take k ++ x :: l.drop (k + 1) := by
    have := List.take_append_drop k l;rw [List.drop_eq_getElem_cons hk] at this;rw [List.getElem?_eq_getElem hk] at hx;rw [Option.some.inj hx] at this;exact this.symm
   have hkb : k < best.length := by omega
   have e2 : best = best.take k ++ y :: best.drop (k + 1) := by
    have := List.take_append_drop k best;rw [List.drop_eq_getElem_cons hkb] at this;rw [List.getElem?_eq_getElem hkb] at hy;rw [Option.some.inj hy] at this;exact this.symm
   have e3 : lexB l best = lexB (x :: l.drop (k + 1)) (y :: best.drop (k + 1)) := by
    have h1 : lexB l best = lexB (l.take k ++ x :: l.drop (k + 1)) (best.take k ++ y :: best.drop (k + 1)) := by rw [← e1, ← e2]
    rw [h1, hI, lexB_append]
   unfold P_s9_Astray_L3
   show Ok (if _ then _ else _) _;rw [if_pos (by omega), el_at hx, if_neg (by omega), el_at hy, cmpInt_lt, andx_some']
   by_cases h1 : x < y
   ·rw [if_pos h1, if_pos (by decide)];refine .some ?_
    show (-1 : Int) < 0 ↔ _;rw [e3, lexB, if_neg (by omega), decide_eq_true h1];simp
   ·rw [if_neg h1]
    by_cases h2 : x > y
    ·rw [if_pos h2, if_pos (by decide)];refine .some ?_
     show (1 : Int) < 0 ↔ _;rw [e3, lexB, if_neg (by omega), decide_eq_false h1];simp
    ·have e : x = y := by omega
     rw [if_neg h2, if_neg (by decide), chk_pos (i64_small (by omega))];refine .some ⟨rfl, ?_⟩
     show l.take (k + 1) = best.take (k + 1);rw [take_step hx, take_step hy, hI, e]
  ·rintro i hx hI
   try simp only at hx
   subst hx;unfold P_s9_Astray_L3
   show Ok (if _ then _ else _) _;rw [if_neg (by omega)];refine .some ?_
   show Ok (if _ then _ else _) _;rw [if_neg (by omega)];refine .some ?_;rw [List.take_length, h, List.take_length] at hI;rw [hI, lexB_irr];simp
 exact key
open Classical in
theorem s9_Astray_ok (hF : Fine cl sh bs) : ∃ l, P_s9_Astray cl sh bs = some (l, 0) ∧ AstIs bs l := by
  have h10 := hF.bs1
  have hpow : (2 : Nat) ^ bs.length ≤ 2 ^ 10 := Nat.pow_le_pow_right (by decide) h10
  have h1024 : (2 : Nat) ^ 10 = 1024 := by decide
  have hpow0 : 0 < (2 : Nat) ^ bs.length := Nat.two_pow_pos _
  have hshl : shlI 1 (bs.length : Int) = ((2 ^ bs.length : Nat) : Int) := by
    unfold shlI
    rw [Int.toNat_natCast, Int.one_mul]
    norm_cast
  let Q : Nat → Prop := fun s => Rises (keepB (fun i => s.testBit i) bs 0)
  have hQ : ∀ s, Q s ↔ Rises (keepB (inL (bitsL bs.length s)) bs 0) := fun s => by
    have : keepB (fun i => s.testBit i) bs 0 = keepB (inL (bitsL bs.length s)) bs 0 := keepB_congr bs 0 fun i _ hi => by
      unfold inL
      cases hb : s.testBit i with
      | true => exact (decide_eq_true (mem_bits.2 ⟨⟨by omega, by omega⟩, by simpa using hb⟩)).symm
      | false => exact (decide_eq_false fun h => by have := (mem_bits.1 h).2; rw [Int.toNat_natCast, hb] at this; cases this).symm
    show Rises _ ↔ _
    rw [this]
  have key : Ok (P_s9_Astray cl sh bs) fun r => r.2 = 0 ∧ AstIs bs r.1 := by
    unfold P_s9_Astray
    rw [s9_open_eq, andx_some', if_neg (not_not_intro (roomN_zero.2 hF)), hshl, chk_pos ⟨⟨by omega, by omega⟩, i64_small (by omega)⟩]
    refine Ok.andx (P := fun l => ∃ s, s < 2 ^ bs.length ∧ l = bitsL bs.length s ∧ Q s ∧ ∀ s', s' < 2 ^ bs.length → Q s' → l.length ≤ (bitsL bs.length s').length ∧ ((bitsL bs.length s').length = l.length → lexB (bitsL bs.length s') l = false)) ?_ ?_
    · refine Ok.count (fun x : Bool × Int × List Int => x.2.1) (2 ^ bs.length) (fun k x => (x.1 = false ∧ ∀ s, s < k → ¬ Q s) ∨ (x.1 = true ∧ ∃ s, s < k ∧ x.2.2 = bitsL bs.length s ∧ Q s ∧ ∀ s', s' < k → Q s' → x.2.2.length ≤ (bitsL bs.length s').length ∧ ((bitsL bs.length s').length = x.2.2.length → lexB (bitsL bs.length s') x.2.2 = false)))
        rfl (.inl ⟨rfl, fun s h => by omega⟩) ?_ ?_
      · rintro k ⟨found, i, best⟩ hk hx hI
        simp only at hx hI
        subst hx
        have hbk := bits_len (k := bs.length) (s := k)
        have hcnt : I64 ((k : Int) + 1) := i64_small (by omega)
        unfold P_s9_Astray_L1
        show Ok (if _ then _ else _) _
        rw [hshl, if_pos (by omega), set_loop hF]
        by_cases hq : Rises (keepB (fun i => k.testBit i) bs 0)
        · rw [if_pos hq, seqx_nx]
          have take : (found = false ∨ (bitsL bs.length k).length < best.length ∨ ((bitsL bs.length k).length = best.length ∧ lexB (bitsL bs.length k) best = true)) →
              ∃ s, s < k + 1 ∧ bitsL bs.length k = bitsL bs.length s ∧ Q s ∧ ∀ s', s' < k + 1 → Q s' → (bitsL bs.length k).length ≤ (bitsL bs.length s').length ∧ ((bitsL bs.length s').length = (bitsL bs.length k).length → lexB (bitsL bs.length s') (bitsL bs.length k) = false) := by
            intro hc
            refine ⟨k, by omega, rfl, hq, fun s' hs' hq' => ?_⟩
            by_cases e : s' = k
            · subst e
              exact ⟨Nat.le_refl _, fun _ => lexB_irr _⟩
            · rcases hI with ⟨g1, g2⟩ | ⟨g1, s, g2, g3, g4, g5⟩
              · exact absurd hq' (g2 s' (by omega))
              · obtain ⟨p1, p2⟩ := g5 s' (by omega) hq'
                rcases hc with hc | hc | ⟨hc1, hc2⟩
                · rw [g1] at hc; cases hc
                · exact ⟨by omega, fun h => by omega⟩
                · refine ⟨by omega, fun h => ?_⟩
                  cases hx : lexB (bitsL bs.length s') (bitsL bs.length k) with
                  | false => rfl
                  | true =>
                    have h3 := p2 (by omega)
                    have h4 := lexB_trans hx hc2
                    rw [h3] at h4
                    cases h4
          have keep : found = true → ¬ ((bitsL bs.length k).length < best.length ∨ ((bitsL bs.length k).length = best.length ∧ lexB (bitsL bs.length k) best = true)) →
              ∃ s, s < k + 1 ∧ best = bitsL bs.length s ∧ Q s ∧ ∀ s', s' < k + 1 → Q s' → best.length ≤ (bitsL bs.length s').length ∧ ((bitsL bs.length s').length = best.length → lexB (bitsL bs.length s') best = false) := by
            intro hf hc
            rcases hI with ⟨g1, g2⟩ | ⟨g1, s, g2, g3, g4, g5⟩
            · rw [hf] at g1; cases g1
            · refine ⟨s, by omega, g3, g4, fun s' hs' hq' => ?_⟩
              by_cases e : s' = k
              · subst e
                refine ⟨by omega, fun h => ?_⟩
                cases hx : lexB (bitsL bs.length s') best with
                | false => rfl
                | true => exact absurd (.inr ⟨h, hx⟩) hc
              · exact g5 s' (by omega) hq'
          cases found with
          | false =>
            show Ok (chk _ _) _
            rw [chk_pos hcnt]
            exact .some ⟨rfl, .inr ⟨rfl, take (.inl rfl)⟩⟩
          | true =>
            rw [if_pos rfl]
            by_cases c1 : (bitsL bs.length k).length < best.length
            · rw [if_pos (by omega)]
              show Ok (chk _ _) _
              rw [chk_pos hcnt]
              exact .some ⟨rfl, .inr ⟨rfl, take (.inr (.inl c1))⟩⟩
            · rw [if_neg (by omega)]
              by_cases c2 : (bitsL bs.length k).length = best.length
              · obtain ⟨y, hy, hy'⟩ := compare_ok c2 (by omega)
                rw [if_pos (by omega), hy]
                show Ok (andx (if decide (y < 0) = true then _ else _) _) _
                by_cases c3 : y < 0
                · rw [if_pos (decide_eq_true c3)]
                  show Ok (chk _ _) _
                  rw [chk_pos hcnt]
                  exact .some ⟨rfl, .inr ⟨rfl, take (.inr (.inr ⟨c2, hy'.1 c3⟩))⟩⟩
                · rw [if_neg (by rw [decide_eq_false c3]; decide)]
                  show Ok (chk _ _) _
                  rw [chk_pos hcnt]
                  exact .some ⟨rfl, .inr ⟨rfl, keep rfl fun h => by
                    rcases h with h | ⟨_, h⟩
                    · exact c1 h
                    · exact c3 (hy'.2 h)⟩⟩
              · rw [if_neg (by omega)]
                show Ok (chk _ _) _
                rw [chk_pos hcnt]
                exact .some ⟨rfl, .inr ⟨rfl, keep rfl fun h => by omega⟩⟩
        · rw [if_neg hq, seqx_rt, andx_some']
          dsimp only
          rw [chk_pos hcnt]
          refine .some ⟨rfl, ?_⟩
          rcases hI with ⟨g1, g2⟩ | ⟨g1, s, g2, g3, g4, g5⟩
          · refine .inl ⟨g1, fun s hs => ?_⟩
            by_cases e : s = k
            · subst e; exact hq
            · exact g2 s (by omega)
          · refine .inr ⟨g1, s, by omega, g3, g4, fun s' hs' hq' => ?_⟩
            by_cases e : s' = k
            · subst e; exact absurd hq' hq
            · exact g5 s' (by omega) hq'
      · rintro ⟨found, i, best⟩ hx hI
        simp only at hx hI
        subst hx
        unfold P_s9_Astray_L1
        show Ok (if _ then _ else _) _
        rw [hshl, if_neg (by omega)]
        refine .some ?_
        rcases hI with ⟨g1, g2⟩ | ⟨g1, g2⟩
        · exfalso
          obtain ⟨s, hs1, hs2⟩ := bits_of (fun _ => true) bs.length
          refine g2 s hs1 ?_
          show Rises _
          rw [keepB_all bs 0 fun i _ hi => hs2 i (by omega)]
          exact rises_nil
        · exact g2
    · rintro l ⟨s, h1, rfl, h3, h4⟩
      refine .some ⟨rfl, bits_inc, (hQ s).1 h3, fun l' hi hr => ?_⟩
      obtain ⟨s', hs1, hs2⟩ := bits_of (inL l') bs.length
      have e : bitsL bs.length s' = l' := inc_ext bits_inc.1 hi.1 fun x => by
        rw [mem_bits]
        refine ⟨fun ⟨hx, hb⟩ => ?_, fun hx => ?_⟩
        · rw [hs2 x.toNat (by omega)] at hb
          have := of_decide_eq_true hb
          rwa [show ((x.toNat : Nat) : Int) = x by omega] at this
        · have hxr := hi.2 x hx
          refine ⟨hxr, ?_⟩
          rw [hs2 x.toNat (by omega)]
          exact decide_eq_true (by rwa [show ((x.toNat : Nat) : Int) = x by omega])
      have := h4 s' hs1 ((hQ s').2 (by rw [e]; exact hr))
      rw [e] at this
      exact this
  obtain ⟨⟨l, e0⟩, h1, h2, h3⟩ := key
  simp only at h2
  subst h2
  exact ⟨l, h1, h3⟩
end
end Go.Am
end
section
namespace Go.Am
set_option linter.unusedVariables false
set_option linter.unusedSimpArgs false
section
variable {cl : List Str} {sh : List qH} {bs books : List qA} {ls : List Int} {i : Nat} {a : qH}
theorem s9_Astray_no (h : ¬ Fine cl sh bs) : P_s9_Astray cl sh bs = some ([], roomN cl sh bs) := by
 unfold P_s9_Astray;rw [s9_open_eq, andx_some', if_pos (fun h0 => h (roomN_zero.1 h0))]
end
end Go.Am
end
section
namespace Go.Am
set_option linter.unusedVariables false
set_option linter.unusedSimpArgs false
section
variable {cl : List Str} {sh : List qH} {bs books : List qA}
open Classical in
theorem inOrder_eq (hF : Fine cl sh bs) {x : List qA} (hm : MarksOk cl.length x) (hl : x.length ≤ 1000) : P_law9_inOrder cl sh bs x = some (decide (Rises x)) := by
 unfold P_law9_inOrder
 have key : iter (P_law9_inOrder_L1 cl sh bs x) 1 = some (scanX (fun i => if riseAt x i then none else some false) (x.length - 1)) := by
  refine iter_scan (fun k : Nat => (k : Int) + 1) (fun i => if riseAt x i then none else some false) (x.length - 1) (fun _ => rfl) (fun k hk _ => ?_) (fun _ => ?_)
  ·obtain ⟨a, ha⟩ := get_some (l := x) (k := k) (by omega);obtain ⟨b, hb⟩ := get_some (l := x) (k := k + 1) (by omega)
   have ma := hm a (List.mem_of_getElem? ha)
   have mb := hm b (List.mem_of_getElem? hb)
   have e : riseAt x k ↔ mLess a b := ⟨fun h => h a b ha hb, fun h a' b' ha' hb' => by rw [ha] at ha'; rw [hb] at hb'; cases ha'; cases hb'; exact h⟩
   have h2 : two cl sh bs a.qJ a.qK a.qL b.qJ b.qK b.qL = 0 := two_zero.2 ⟨hF, ma, mb⟩
   have hB : befR cl sh bs a.qJ a.qK a.qL b.qJ b.qK b.qL = (sgn (cmpM a.qJ a.qK a.qL b.qJ b.qK b.qL), 0) := by
    unfold befR;rw [if_pos h2]
   unfold P_law9_inOrder_L1
   have e1 : (k : Int) + 1 - 1 = (k : Int) := by omega
   have e2 : (k : Int) + 1 = ((k + 1 : Nat) : Int) := by omega
   rw [if_pos (by omega), e1, e2, chk_pos (i64_small (by omega)), el_at ha, el_at hb, s9_Before_eq, hB, andx_some'];dsimp only;rw [if_neg (not_not_intro rfl), andx_some', chk_pos (i64_small (by omega))]
   by_cases h : mLess a b
   ·have h3 := sgn_lt.2 h;rw [if_pos (e.2 h), h3];simp;rfl
   ·have h3 := fun g => h (sgn_lt.1 g)
    rw [if_neg (fun g => h (e.1 g))];split
    ·rfl
    ·rename_i g
     exact absurd (decide_eq_true h3) (by simpa using g)
  ·unfold P_law9_inOrder_L1;rw [if_neg (by omega)]
 rw [key, seqx_scan, find_if]
 by_cases h : ∀ j, j < x.length - 1 → riseAt x j
 ·rw [if_pos h, decide_eq_true];intro k a b ha hb;exact h k (by have := (List.getElem?_eq_some_iff.1 hb).1; omega) a b ha hb
 ·rw [if_neg h, decide_eq_false];exact fun g => h fun j _ => g j
theorem some_eq {bits : UInt16} {n : Nat} (hn : n ≤ 16) : P_law9_some bits n = some (bitsL n bits.toNat) := by
 refine Ok.get ?_
 have hb := bits.toNat_lt;unfold P_law9_some;refine Ok.andx (P := fun r => r = bitsL n bits.toNat) ?_ (fun r hr => .some hr);refine Ok.count (fun (x : Int × List Int) => x.1) n (fun k x => x.2 = bitsL k bits.toNat) rfl rfl ?_ ?_
 ·rintro k ⟨i, l⟩ hk hx hI;simp only at hx hI;subst hx; subst hI
  have hbl := bits_len (k := k) (s := bits.toNat)
  have hst := bits_step (k := k) (s := bits.toNat)
  have hbit : Int.tmod (shrI (bits.toNat : Int) (k : Int)) 2 = 1 ↔ bits.toNat.testBit k = true := by
   rw [shrI_nat, Nat.testBit_eq_decide_div_mod_eq, decide_eq_true_eq, Int.tmod_eq_emod_of_nonneg (by exact_mod_cast Nat.zero_le _)];generalize bits.toNat / 2 ^ k = q;omega
  unfold P_law9_some_L1
  show Ok (if _ then _ else _) _;rw [if_pos (by omega), chk_pos (by omega), chk_pos (by omega), chk_pos (by decide)]
  by_cases h : bits.toNat.testBit k = true
  ·rw [if_pos (hbit.2 h), chk_pos (by simp; omega), andx_some', chk_pos (i64_small (by omega))];refine .some ⟨rfl, ?_⟩
   show bitsL k bits.toNat ++ [(k : Int)] = _;rw [hst, if_pos h]
  ·rw [if_neg (fun g => h (hbit.1 g)), andx_some', chk_pos (i64_small (by omega))];refine .some ⟨rfl, ?_⟩
   show bitsL k bits.toNat = _;rw [hst, if_neg h, List.append_nil]
 ·rintro ⟨i, l⟩ hx hI;simp only at hx hI;subst hx; subst hI;unfold P_law9_some_L1
  show Ok (if _ then _ else _) _;rw [if_neg (by omega)];exact .some rfl
theorem keepB_marks {p : Nat → Bool} {k n : Nat} (h : MarksOk n bs) : MarksOk n (keepB p bs k) := fun b hb => h b ((keepB_sub bs k).subset hb)
theorem taken_marks {l : List Int} {n : Nat} (h : MarksOk n bs) : MarksOk n (takenB bs l) := fun b hb => h b (takenB_mem hb)
theorem taken_at : ∀ {l : List Int} {k : Nat} {x : Int}, (∀ x ∈ l, 0 ≤ x ∧ x < bs.length) → l[k]? = some x → (takenB bs l)[k]? = bs[x.toNat]?
 | [], _, _, _, h => by simp at h
 | i :: r, 0, x, h, hx => by
  obtain ⟨a, ha⟩ := at_some (h i (by simp))
  have : i = x := by simpa using hx
  subst this;unfold takenB;simp [ha]
 | i :: r, k + 1, x, h, hx => by
  obtain ⟨a, ha⟩ := at_some (h i (by simp))
  have ih := taken_at (l := r) (k := k) (x := x) (fun x hx => h x (by simp [hx])) (by simpa using hx)
  have e : takenB bs (i :: r) = a :: takenB bs r := by unfold takenB; simp [ha]
  rw [e, List.getElem?_cons_succ];exact ih
theorem taken_rises (hd : Dist bs) : Rises (takenB bs (ordB bs)) := fun k a b ha hb => by
 have hr : ∀ x ∈ ordB bs, 0 ≤ x ∧ x < bs.length := fun x hx => mem_ordB.1 hx
 have hl := taken_ord_len (bs := bs)
 have ho := ordB_len (bs := bs)
 have h1 := (List.getElem?_eq_some_iff.1 hb).1;obtain ⟨x, hx⟩ := get_some (l := ordB bs) (k := k) (by omega);obtain ⟨y, hy⟩ := get_some (l := ordB bs) (k := k + 1) (by omega);rw [taken_at hr hx] at ha;rw [taken_at hr hy] at hb
 have := pair_at (ordB_sorted hd) (show k < k + 1 by omega) hx hy;rw [cfB_of ha hb] at this;exact this
theorem astray_loop {l : List Int} {n : Nat} (hl : Inc 0 bs.length l) (hlen : l.length ≤ 1000) : iter (P_law_ShelfAstray_L1 bs l) 0 = some (.nx ()) := by
 refine Ok.get ?_;refine Ok.count (fun x : Int => x) l.length (fun k _ => True) rfl trivial ?_ ?_
 ·rintro k i hk hx _;replace hx : i = k := hx;subst hx;obtain ⟨x, hxk⟩ := get_some hk
  have hr := hl.2 x (List.mem_of_getElem? hxk)
  have hcnt : I64 ((k : Int) + 1) := i64_small (by omega);unfold P_law_ShelfAstray_L1
  show Ok (if _ then _ else _) _;rw [if_pos (by omega), el_at hxk, if_neg (by omega), el_at hxk, if_neg (by omega)]
  by_cases h0 : k = 0
  ·rw [if_neg (by omega)]
   show Ok (chk _ _) _;rw [chk_pos hcnt];exact .some ⟨rfl, trivial⟩
  ·obtain ⟨y, hy⟩ := get_some (l := l) (k := k - 1) (by omega)
   have hlt := pair_at hl.1 (show k - 1 < k by omega) hy hxk;rw [if_pos (by omega), el_at hxk, chk_pos (i64_small (by omega)), show (k : Int) - 1 = ((k - 1 : Nat) : Int) by omega, el_at hy, decide_eq_false (by omega)]
   show Ok (chk _ _) _;rw [chk_pos hcnt];exact .some ⟨rfl, trivial⟩
 ·rintro i hx _;replace hx : i = l.length := hx;subst hx;unfold P_law_ShelfAstray_L1
  show Ok (if _ then _ else _) _;rw [if_neg (by omega)];exact .some rfl
theorem order_loop {z : Bool} (h10 : bs.length ≤ 10) (hd : Dist bs) : iter (P_law_ShelfAstray_L2 bs (ordB bs) z) 0 = some (.nx ()) := by
 have ho := ordB_len (bs := bs);refine Ok.get ?_;refine Ok.count (fun x : Int => x) (ordB bs).length (fun k _ => True) rfl trivial ?_ ?_
 ·rintro k i hk hx _;replace hx : i = k := hx;subst hx;obtain ⟨x, hxk⟩ := get_some hk
  have hr := mem_ordB.1 (List.mem_of_getElem? hxk)
  have hcnt : I64 ((k : Int) + 1) := i64_small (by omega)
  have hno : ¬ x ∈ (ordB bs).take k := fun h => by
   obtain ⟨j, hj, hj'⟩ := mem_take_at h
   have := pair_at (ordB_sorted hd) hj hj' hxk;exact (ord_cfB (bs := bs)).irrefl x hr.1 hr.2 this
  unfold P_law_ShelfAstray_L2
  show Ok (if (k : Int) < ((ordB bs).length : Int) then _ else _) _;rw [if_pos (by omega)]
  show Ok (seqx (andx (el (ordB bs) (k : Int) _) _) _) _;rw [el_at hxk, if_neg (by omega)]
  show Ok (seqx (andx (el (ordB bs) (k : Int) _) _) _) _;rw [el_at hxk, if_neg (by omega)]
  show Ok (seqx (andx (chk (0 ≤ (0 : Int) ∧ (0 : Int) ≤ (k : Int) ∧ (k : Int) ≤ ((ordB bs).length : Int)) (el (ordB bs) (k : Int) _)) _) _) _;rw [chk_pos (by omega), el_at hxk]
  show Ok (seqx (andx (andx (P_w1_Has (List.take ((k : Int) - (0 : Int)).toNat (List.drop ((0 : Int) : Int).toNat (ordB bs))) x) _) _) _) _;rw [take_sub, w1_Has_eq (by rw [List.length_take]; omega), decide_eq_false hno]
  show Ok (chk _ _) _;rw [chk_pos hcnt];exact .some ⟨rfl, trivial⟩
 ·rintro i hx _;replace hx : i = (ordB bs).length := hx;subst hx;unfold P_law_ShelfAstray_L2
  show Ok (if ((ordB bs).length : Int) < ((ordB bs).length : Int) then _ else _) _;rw [if_neg (by omega)];exact .some rfl
open Classical in
theorem ShelfAstray_true (cl : List Str) (sh : List qH) (bs : List qA) (bits : UInt16) : P_law_ShelfAstray cl sh bs bits = some true := by
 unfold P_law_ShelfAstray
 by_cases hF : Fine cl sh bs
 ·obtain ⟨l, e1, hA⟩ := s9_Astray_ok hF
  have h10 := hF.bs1
  have hll := hA.inc.len
  have hbl := bits_len (k := bs.length) (s := bits.toNat)
  have hkl := fun q => (keepB_sub (p := q) bs 0).length_le
  rw [e1, andx_some'];dsimp only;rw [law9_valid_eq, decide_eq_true hF, andx_some', if_pos rfl, astray_loop (n := bs.length) hA.inc (by omega), seqx_nx, some_eq (by omega), andx_some', if_neg (not_not_intro rfl), r9_Less_eq (by omega) (by omega), andx_some', inOrder_eq hF (keepB_marks hF.marks) (by have := hkl (inL l); omega), decide_eq_true hA.ok, andx_some', if_pos rfl]
  have hother : (if ((bitsL bs.length bits.toNat).length : Int) < (l.length : Int) then andx (P_r9_Less bs (bitsL bs.length bits.toNat)) fun y96 => andx (P_law9_inOrder cl sh bs y96) fun y97 => some y97 else some false) = some false := by
   by_cases hlt : (bitsL bs.length bits.toNat).length < l.length
   ·rw [if_pos (by omega), r9_Less_eq (by omega) (by omega), andx_some', inOrder_eq hF (keepB_marks hF.marks) (by have := hkl (inL (bitsL bs.length bits.toNat)); omega), decide_eq_false fun hr => ?_, andx_some']
    have := (hA.least _ bits_inc hr).1;omega
   ·rw [if_neg (by omega)]
  rw [hother, andx_some', if_neg (by decide), seqx_nx];obtain ⟨⟨a1, a2, a3, a4, a5, a6⟩, e2, q⟩ := s9_Arrange_ok (cl := cl) (sh := sh) (bs := bs);rw [e2, andx_some'];dsimp only
  rcases q with ⟨h1, _⟩ | ⟨_, _, h1⟩ | ⟨_, l', n', _, h1⟩
  ·exact absurd (roomN_zero.2 hF) h1
  ·simp only [Prod.mk.injEq] at h1;obtain ⟨_, _, _, rfl⟩ := h1;rw [if_pos (by decide), if_pos rfl];rfl
  ·simp only [Prod.mk.injEq] at h1;obtain ⟨rfl, _, _, rfl⟩ := h1
   have ho := ordB_len (bs := bs)
   have htl := taken_ord_len (bs := bs);rw [if_neg (not_not_intro rfl)]
   show (if ¬ ((ordB bs).length : Int) = (bs.length : Int) then _ else _) = _;rw [if_neg (by omega), order_loop h10 hF.dist, seqx_nx]
   show andx (andx (P_r9_Taken bs (ordB bs)) _) _ = _;rw [r9_Taken_eq (fun x hx => mem_ordB.1 hx) (by omega), andx_some', inOrder_eq hF (taken_marks hF.marks) (by omega), decide_eq_true (taken_rises hF.dist)];rfl
 ·have hN : roomN cl sh bs ≠ 0 := fun h => hF (roomN_zero.1 h)
  rw [s9_Astray_no hF, andx_some'];dsimp only;rw [law9_valid_eq, decide_eq_false hF, andx_some', if_neg (by decide), if_pos hN];rfl
end
end Go.Am
end
