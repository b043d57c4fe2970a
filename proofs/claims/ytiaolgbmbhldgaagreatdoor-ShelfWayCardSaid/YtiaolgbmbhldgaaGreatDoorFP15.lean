/- Part 15. -/
import Derived.Test.YtiaolgbmbhldgaaGreatDoorFP2
import Derived.ChangeArms
import Derived.ChangeSlices
import Derived.OpenShut
import Derived.Test.YtiaolgbmbhldgaaGreatDoorFP12
import Derived.Test.YtiaolgbmbhldgaaGreatDoorRows
import Derived.ProofKit
import Derived.Test.YtiaolgbmbhldgaaGreatDoorFP13
section
namespace Go.Am
open Go.RowKit
def Lifts (P : Program) (t : TypeId) {α : Type} (e : En α) : Prop :=
 ∀ (H : Type) (enc : TypeId × Value → H) (W : World) (base : Nat) (held : Bool) (fuel : Nat) (cs : List Value) (x : DataW H × List MemPlace),
  DataW.trod enc P W base (fun _ => true) held fuel t cs = some x → ∃ a : α, RelL (snapR W 0) (e.f a) cs
theorem Lifts.int {P : Program} {t : TypeId} (ht : P.underlying t = some (.int .i64)) : Lifts P t encI := by
 intro H enc W base held fuel cs x hx;obtain ⟨n, rfl, _, _⟩ := DataW.trod_int ht hx;exact ⟨n, .cons (.lit _) (.nil _)⟩
theorem snap_cell {W : World} {b off : Nat} {v : Value} (h : W.cell? ⟨b, off, none⟩ = some v) : ∃ c, (snapR W 0).imm b = some c ∧ c[off]? = some v := by
 unfold World.cell? at h;split at h
 ·rename_i c _ _ hb
  simp at h;exact ⟨c, by simp only [snapR, snap, Nat.zero_le, if_true]; simp only [] at hb; rw [hb], h⟩
 ·cases h
theorem list_of {α : Type} {p : Nat → α → Prop} : ∀ n : Nat, (∀ i, i < n → ∃ a, p i a) → ∃ l : List α, l.length = n ∧ ∀ i a, l[i]? = some a → p i a := by
 intro n
 induction n with
 | zero => intro _; exact ⟨[], rfl, fun i a h => by simp at h⟩
 | succ n ih =>
  intro h;obtain ⟨l, h1, h2⟩ := ih fun i hi => h i (by omega)
  obtain ⟨a, ha⟩ := h n (by omega);refine ⟨l ++ [a], by simp [h1], fun i b hb => ?_⟩
  by_cases hi : i < l.length
  ·rw [List.getElem?_append_left hi] at hb; exact h2 i b hb
  ·rw [List.getElem?_append_right (by omega)] at hb
   have : i - l.length = 0 := by
    have := (List.getElem?_eq_some_iff.1 hb).1;simp at this; omega
   rw [this] at hb;simp at hb;subst hb
   have : i = n := by omega
   rw [this]; exact ha
theorem Lifts.slice {P : Program} {t e : TypeId} {α : Type} {en : En α} (ht : P.underlying t = some (.slice e)) (hu : P.cellsOf e = en.u) (h0 : 0 < en.u) (h : Lifts P e en) : Lifts P t (encSl en) := by
 intro H enc W base held fuel cs x hx
 rcases DataW.trod_slice ht hx with ⟨rfl, _⟩ | ⟨a, len, cap, elems, rest, n, _, rfl, _, hb, hl, _, hlen, hel, hsp, _⟩
 ·exact ⟨⟨nilS, [], .inl ⟨rfl, rfl, rfl⟩⟩, .cons (.lit _) (.nil _)⟩
 ·rw [hu] at hel hsp;obtain ⟨hrl, hr⟩ := hsp rfl
  by_cases hc : cap = 0
  ·subst hc
   have : len = 0 := by omega
   subst this;exact ⟨⟨.tree en.u 0 [], [], .inr ⟨rfl, by simp⟩⟩, .cons .tree0 (.nil _)⟩
  ·have hcell : ∀ i, i < len → ∃ (a' : α) (ci : List Value), W.cells? base (a.add (i * en.u)) en.u = some ci ∧ RelL (snapR W 0) (en.f a') ci := by
    intro i hi
    have he := hel i hi;rw [List.getElem?_eq_getElem (by omega)] at he;obtain ⟨ci, h1, h2⟩ := Option.bind_eq_some_iff.1 he;obtain ⟨a', h3⟩ := h _ _ _ _ _ _ _ _ h2;exact ⟨a', ci, h1, h3⟩
   have hspot : a.spot = none := by
    have : ∃ ci, W.cells? base (a.add (0 * en.u)) en.u = some ci := by
     by_cases hl0 : 0 < len
     ·obtain ⟨_, ci, h1, _⟩ := hcell 0 hl0;exact ⟨ci, h1⟩
     ·have hz : len = 0 := by omega
      have he := hr 0 (by omega);rw [List.getElem?_eq_getElem (by omega)] at he;obtain ⟨ci, h1, _⟩ := Option.bind_eq_some_iff.1 he;exact ⟨ci, by simpa [hz] using h1⟩
    obtain ⟨ci, h1⟩ := this;obtain ⟨_, h2, h3⟩ := World.cells?_some h1
    have h4 := h3 0 h0;rw [List.getElem?_eq_getElem (by omega)] at h4
    have := World.cell?_spot h4
    simpa [Addr.add] using this
   obtain ⟨b, off, sp⟩ := a;simp only at hspot;subst hspot;obtain ⟨l, hl1, hl2⟩ := list_of (p := fun i a' => ∃ ci : List Value, W.cells? base ((⟨b, off, none⟩ : Addr).add (i * en.u)) en.u = some ci ∧ RelL (snapR W 0) (en.f a') ci) len hcell
   have hfl : (l.flatMap en.f).length = len * en.u := by rw [flat_len, hl1]
   have each : ∀ j, j < len * en.u → ∃ v y c, (l.flatMap en.f)[j]? = some v ∧ (snapR W 0).imm b = some c ∧ c[off + j]? = some y ∧ RelV (snapR W 0) v y := by
    intro j hj
    have hi : j / en.u < l.length := by rw [hl1]; exact Nat.div_lt_of_lt_mul (by rw [Nat.mul_comm]; exact hj)
    have hk : j % en.u < en.u := Nat.mod_lt _ h0
    have hd : j / en.u * en.u + j % en.u = j := by rw [Nat.mul_comm]; exact Nat.div_add_mod j en.u
    obtain ⟨ci, h1, h2⟩ := hl2 _ _ (List.getElem?_eq_getElem hi);obtain ⟨_, h3, h4⟩ := World.cells?_some h1
    have h5 := h4 _ hk;rw [List.getElem?_eq_getElem (by omega)] at h5
    have h6 : ((⟨b, off, none⟩ : Addr).add (j / en.u * en.u)).add (j % en.u) = ⟨b, off + j, none⟩ := by
     simp only [addr_add]
     congr 1
     omega
    rw [h6] at h5;obtain ⟨c, h7, h8⟩ := snap_cell h5
    have hlen' := en.len l[j / en.u]
    have hv := List.getElem?_eq_getElem (l := en.f l[j / en.u]) (i := j % en.u) (by omega);refine ⟨_, _, c, ?_, h7, h8, h2.2 _ _ _ hv (List.getElem?_eq_getElem _)⟩
    have := flat_get (en := en) (List.getElem?_eq_getElem hi) hk;rw [hd] at this;rw [this, hv]
   refine ⟨⟨.tree en.u l.length (l.flatMap en.f), l, .inr ⟨rfl, by rw [hfl, hl1]⟩⟩, .cons ?_ (.nil _)⟩
   show RelV _ (.tree en.u l.length (l.flatMap en.f)) _;rw [hl1]
   by_cases hz : len * en.u = 0
   ·refine .tree (c := #[]) hfl hl (.inl (List.eq_nil_of_length_eq_zero (by omega))) fun i v x hv hx => by simp at hx
   ·obtain ⟨_, _, c, _, hc1, _, _⟩ := each (len * en.u - 1) (by omega);refine .tree (c := c) hfl hl (.inr ⟨hc1, ?_⟩) fun j v y hv hy => ?_
    ·obtain ⟨_, _, c', _, hc2, hc3, _⟩ := each (len * en.u - 1) (by omega);rw [hc1] at hc2;cases hc2
     have := (Array.getElem?_eq_some_iff.1 hc3).1;omega
    ·have hj := (List.getElem?_eq_some_iff.1 hv).1;obtain ⟨v', y', c', e1, e2, e3, e4⟩ := each j (by omega);rw [hc1] at e2;cases e2;rw [hv] at e1;rw [hy] at e3;cases e1;cases e3;exact e4
theorem RelL.glue {r : Ren} {a b : List AV} {cs : List Value} {n : Nat} (h1 : RelL r a (cs.take n)) (h2 : RelL r b (cs.drop n)) : RelL r (a ++ b) cs := by
 have := h1.append h2
 rwa [List.take_append_drop] at this
end Go.Am
end
section
namespace Go.Am
open Go.RowKit
def enPair {α β : Type} (a : En α) (b : En β) : En (α × β) := ⟨a.u + b.u, fun p => a.f p.1 ++ b.f p.2, fun p => by simp [a.len, b.len]⟩
theorem Lifts.map {P : Program} {t : TypeId} {α β : Type} {a : En α} {b : En β} (h : Lifts P t a) (hf : ∀ x, ∃ y, b.f y = a.f x) : Lifts P t b := by
 intro H enc W base held fuel cs x hx;obtain ⟨v, hv⟩ := h _ _ _ _ _ _ _ _ hx;obtain ⟨y, hy⟩ := hf v;exact ⟨y, by rw [hy]; exact hv⟩
theorem Lifts.arg {P : Program} {t : TypeId} {fs : Array Field} {α : Type} {en : En α} (hl : Lifts P t en) (ht : P.underlying t = some (.struct fs)) {W : World} {r : Reach} {b0 : Nat} {v : Value} (hval : Value.okWide P W r b0 t v)
  {H : Type} {enc : TypeId × Value → H} {base : Nat} {held : Bool} {d : DataW H} {ps : List MemPlace} (h : DataW.Trod enc P W base (fun _ => true) held t v d ps) : ∃ a, RelV (snapR W 0) (.agg (en.f a)) v := by
 simp only [Value.okWide, ht] at hval;obtain ⟨cs, rfl, _, _⟩ := hval;obtain ⟨fuel, hf⟩ := h;obtain ⟨a, ha⟩ := hl _ _ _ _ _ _ _ _ hf;exact ⟨a, by simpa [Value.cells] using RelV.agg ha.1 ha.2⟩
end Go.Am
end
section
namespace Go.Am
open Go.RowKit
set_option linter.unusedVariables false
def encU16 : En UInt16 := ⟨1, fun b => [ivk .u16 (b.toNat : Int)], fun _ => rfl⟩
theorem Lifts.u8 {P : Program} {t : TypeId} (ht : P.underlying t = some (.int .u8)) : Lifts P t encU8 := by
 intro H enc W base held fuel cs x hx;obtain ⟨n, rfl, _, hw⟩ := DataW.trod_int ht hx
 have hw : 0 ≤ n ∧ n ≤ 255 := by
  have := Bool.and_eq_true_iff.1 hw;exact ⟨of_decide_eq_true this.1, of_decide_eq_true this.2⟩
 have e : ((UInt8.ofNat n.toNat).toNat : Int) = n := by rw [UInt8.toNat_ofNat']; omega
 refine ⟨UInt8.ofNat n.toNat, .cons ?_ (.nil _)⟩;rw [e];exact .lit _
theorem Lifts.u16 {P : Program} {t : TypeId} (ht : P.underlying t = some (.int .u16)) : Lifts P t encU16 := by
 intro H enc W base held fuel cs x hx;obtain ⟨n, rfl, _, hw⟩ := DataW.trod_int ht hx
 have hw : 0 ≤ n ∧ n ≤ 65535 := by
  have := Bool.and_eq_true_iff.1 hw;exact ⟨of_decide_eq_true this.1, of_decide_eq_true this.2⟩
 have e : ((UInt16.ofNat n.toNat).toNat : Int) = n := by rw [UInt16.toNat_ofNat']; omega
 refine ⟨UInt16.ofNat n.toNat, .cons ?_ (.nil _)⟩;rw [e];exact .lit _
theorem Lifts.argA {P : Program} {t e : TypeId} {n : Nat} {α : Type} {en : En α} (hl : Lifts P t en) (ht : P.underlying t = some (.array n e)) {W : World} {r : Reach} {b0 : Nat} {v : Value} (hval : Value.okWide P W r b0 t v)
  {H : Type} {enc : TypeId × Value → H} {base : Nat} {held : Bool} {d : DataW H} {ps : List MemPlace} (h : DataW.Trod enc P W base (fun _ => true) held t v d ps) : ∃ a, RelV (snapR W 0) (.agg (en.f a)) v := by
 simp only [Value.okWide, ht] at hval;obtain ⟨cs, rfl, _, _⟩ := hval;obtain ⟨fuel, hf⟩ := h;obtain ⟨a, ha⟩ := hl _ _ _ _ _ _ _ _ hf;exact ⟨a, by simpa [Value.cells] using RelV.agg ha.1 ha.2⟩
theorem Lifts.argI {P : Program} {t : TypeId} {k : IntKind} {α : Type} {en : En α} (hl : Lifts P t en) (ht : P.underlying t = some (.int k)) {W : World} {r : Reach} {b0 : Nat} {v : Value} (hval : Value.okWide P W r b0 t v)
  {H : Type} {enc : TypeId × Value → H} {base : Nat} {held : Bool} {d : DataW H} {ps : List MemPlace} (h : DataW.Trod enc P W base (fun _ => true) held t v d ps) : ∃ a, ∀ w, (en.f a)[0]? = some w → RelV (snapR W 0) w v := by
 obtain ⟨fuel, hf⟩ := h;obtain ⟨a, ha⟩ := hl _ _ _ _ _ _ _ _ hf;refine ⟨a, fun w hw => ?_⟩;cases v with
 | agg cs => simp [Value.okWide, ht, Cell.okWide, Cell.ok] at hval
 | _ => exact ha.2 0 _ _ hw rfl
end Go.Am
end
section
namespace Go.Am
open Go.RowKit
set_option linter.unusedVariables false
theorem Lifts.str {P : Program} {t : TypeId} (ht : P.underlying t = some .string) : Lifts P t encStr := by
 intro H enc W base held fuel cs x hx;obtain ⟨s, rfl, _, _⟩ := DataW.trod_string ht hx;refine ⟨s.data.toList, .cons ?_ (.nil _)⟩;exact .lit _
inductive Flds (P : Program) : List Field → Nat → {α : Type} → En α → Prop
 | one {f : Field} {off : Nat} {α : Type} {a : En α} (ho : f.offset = off) (hc : P.cellsOf f.type = a.u) (l : Lifts P f.type a) : Flds P [f] off a
 | cons {f : Field} {r : List Field} {off : Nat} {α β : Type} {a : En α} {b : En β} (ho : f.offset = off) (hc : P.cellsOf f.type = a.u) (l : Lifts P f.type a) (h : Flds P r (off + a.u) b) : Flds P (f :: r) off (enPair a b)
theorem Flds.run {P : Program} {H : Type} {enc : TypeId × Value → H} {W : World} {base : Nat} {held : Bool} {n : Nat} {cs : List Value} {fs : List Field} {off : Nat} {α : Type} {e : En α} (hf : Flds P fs off e)
  (h : ∀ (i : Nat) (f : Field), fs[i]? = some f → ∃ x, DataW.trod enc P W base (fun _ => true) held n f.type ((cs.drop f.offset).take (P.cellsOf f.type)) = some x) : ∃ x : α, RelL (snapR W 0) (e.f x) ((cs.drop off).take e.u) := by
 induction hf with
 | one ho hc l =>
  obtain ⟨x, hx⟩ := h 0 _ rfl;rw [ho, hc] at hx;exact l _ _ _ _ _ _ _ _ hx
 | @cons f r off α β a b ho hc l _ ih =>
  obtain ⟨x, hx⟩ := h 0 _ rfl;rw [ho, hc] at hx;obtain ⟨x0, r0⟩ := l _ _ _ _ _ _ _ _ hx;obtain ⟨x1, r1⟩ := ih fun i f hf => h (i + 1) f hf
  refine ⟨(x0, x1), ?_⟩
  show RelL _ _ ((cs.drop off).take (a.u + b.u));rw [List.take_add, List.drop_drop]
  have e1 := r0;exact RelL.append r0 r1
theorem Lifts.struct {P : Program} {t : TypeId} {fs : Array Field} {α : Type} {e : En α} (ht : P.underlying t = some (.struct fs)) (ct : P.cellsOf t = e.u) (hf : Flds P fs.toList 0 e) : Lifts P t e := by
 intro H enc W base held fuel cs x hx;obtain ⟨xs, n, _, _, hl, hn, h⟩ := DataW.trod_struct ht hx;obtain ⟨v, hv⟩ := hf.run (H := H) (enc := enc) (W := W) (base := base) (held := held) (n := n) (cs := cs) fun i f hi => by
  have hi' : fs[i]? = some f := by rw [← Array.getElem?_toList]; exact hi
  have hlt : i < xs.length := by rw [hn]; exact (Array.getElem?_eq_some_iff.1 hi').1
  exact ⟨xs[i], by rw [h i f hi', List.getElem?_eq_getElem hlt]⟩
 refine ⟨v, ?_⟩
 rwa [List.drop_zero, List.take_of_length_le (by omega)] at hv
theorem Lifts.arr3 {P : Program} {t e : TypeId} {α : Type} {a : En α} (ht : P.underlying t = some (.array 3 e)) (ce : P.cellsOf e = a.u) (ct : P.cellsOf t = a.u + (a.u + a.u)) (l : Lifts P e a) : Lifts P t (enPair a (enPair a a)) := by
 intro H enc W base held fuel cs x hx;obtain ⟨xs, n, _, _, hl, hn, h⟩ := DataW.trod_array ht hx
 have h0 := h 0 (by omega)
 have h1 := h 1 (by omega)
 have h2 := h 2 (by omega);rw [List.getElem?_eq_getElem (by omega), ce, Nat.zero_mul, List.drop_zero] at h0;rw [List.getElem?_eq_getElem (by omega), ce, Nat.one_mul] at h1;rw [List.getElem?_eq_getElem (by omega), ce, show 2 * a.u = a.u + a.u by omega, ← List.drop_drop, List.take_of_length_le (by simp; omega)] at h2;obtain ⟨x0, r0⟩ := l _ _ _ _ _ _ _ _ h0;obtain ⟨x1, r1⟩ := l _ _ _ _ _ _ _ _ h1;obtain ⟨x2, r2⟩ := l _ _ _ _ _ _ _ _ h2;exact ⟨(x0, x1, x2), .glue r0 (.glue r1 r2)⟩
theorem Lifts.arr2' {P : Program} {t e : TypeId} {α : Type} {a : En α} (ht : P.underlying t = some (.array 2 e)) (ce : P.cellsOf e = a.u) (ct : P.cellsOf t = a.u + a.u) (l : Lifts P e a) : Lifts P t (enPair a a) := by
 intro H enc W base held fuel cs x hx;obtain ⟨xs, n, _, _, hl, hn, h⟩ := DataW.trod_array ht hx
 have h0 := h 0 (by omega)
 have h1 := h 1 (by omega);rw [List.getElem?_eq_getElem (by omega), ce, Nat.zero_mul, List.drop_zero] at h0;rw [List.getElem?_eq_getElem (by omega), ce, Nat.one_mul, List.take_of_length_le (by simp; omega)] at h1;obtain ⟨x0, r0⟩ := l _ _ _ _ _ _ _ _ h0;obtain ⟨x1, r1⟩ := l _ _ _ _ _ _ _ _ h1;exact ⟨(x0, x1), .glue r0 r1⟩
end Go.Am
end
section
namespace Go.Am.YtiaolgbmbhldgaaGreatDoor
open Go.Am Go.RowKit Go.Proofs
theorem li_9 : Lifts Tryz.prog 9 encStr := .str Tryz.underlying9
theorem li_22 : Lifts Tryz.prog 22 (encSl encStr) := .slice Tryz.underlying22 (by kernel_rfl) (by decide) li_9
theorem li_3 : Lifts Tryz.prog 3 encI := .int Tryz.underlying3
theorem li_86 : Lifts Tryz.prog 86 (enPair encI (enPair encI (enPair encI encI))) := .struct Tryz.underlying86 (by kernel_rfl) (.cons rfl (by kernel_rfl) li_3 (.cons rfl (by kernel_rfl) li_3 (.cons rfl (by kernel_rfl) li_3 (.one rfl (by kernel_rfl) li_3))))
theorem lm_86 : Lifts Tryz.prog 86 qU := (li_86).map fun x => ⟨⟨x.1, x.2.1, x.2.2.1, x.2.2.2⟩, rfl⟩
theorem li_23 : Lifts Tryz.prog 23 (encSl qU) := .slice Tryz.underlying23 (by kernel_rfl) (by decide) lm_86
theorem li_28 : Lifts Tryz.prog 28 (enPair encI (enPair encI encStr)) := .struct Tryz.underlying28 (by kernel_rfl) (.cons rfl (by kernel_rfl) li_3 (.cons rfl (by kernel_rfl) li_3 (.one rfl (by kernel_rfl) li_9)))
theorem li_42 : Lifts Tryz.prog 42 (enPair (enPair encI (enPair encI encStr)) (enPair encI (enPair encI (enPair encI encI)))) := .struct Tryz.underlying42 (by kernel_rfl) (.cons rfl (by kernel_rfl) li_28 (.cons rfl (by kernel_rfl) li_3 (.cons rfl (by kernel_rfl) li_3 (.cons rfl (by kernel_rfl) li_3 (.one rfl (by kernel_rfl) li_3)))))
theorem lm_42 : Lifts Tryz.prog 42 qN := (li_42).map fun x => ⟨⟨x.1.1, x.1.2.1, x.1.2.2, x.2.1, x.2.2.1, x.2.2.2.1, x.2.2.2.2⟩, rfl⟩
theorem li_24 : Lifts Tryz.prog 24 (encSl qN) := .slice Tryz.underlying24 (by kernel_rfl) (by decide) lm_42
theorem li_26 : Lifts Tryz.prog 26 (enPair (encSl encStr) (enPair (encSl qU) (encSl qN))) := .struct Tryz.underlying26 (by kernel_rfl) (.cons rfl (by kernel_rfl) li_22 (.cons rfl (by kernel_rfl) li_23 (.one rfl (by kernel_rfl) li_24)))
theorem li_63 : Lifts Tryz.prog 63 (enPair (enPair encI (enPair encI encStr)) (enPair (enPair encI (enPair encI encStr)) (enPair encI (enPair encI encStr)))) := .arr3 Tryz.underlying63 (by kernel_rfl) (by kernel_rfl) li_28
theorem li_65 : Lifts Tryz.prog 65 encU16 := .u16 Tryz.underlying65
theorem li_5 : Lifts Tryz.prog 5 encU8 := .u8 Tryz.underlying5
theorem li_71 : Lifts Tryz.prog 71 (encSl encU8) := .slice Tryz.underlying71 (by kernel_rfl) (by decide) li_5
theorem li_83 : Lifts Tryz.prog 83 (enPair encU8 encU8) := .arr2' Tryz.underlying83 (by kernel_rfl) (by kernel_rfl) li_5
theorem li_84 : Lifts Tryz.prog 84 (enPair encU16 encU16) := .arr2' Tryz.underlying84 (by kernel_rfl) (by kernel_rfl) li_65
theorem li_43 : Lifts Tryz.prog 43 (encSl encI) := .slice Tryz.underlying43 (by kernel_rfl) (by decide) li_3
theorem li_88 : Lifts Tryz.prog 88 (enPair (encSl encU8) (encSl encU8)) := .arr2' Tryz.underlying88 (by kernel_rfl) (by kernel_rfl) li_71
end Go.Am.YtiaolgbmbhldgaaGreatDoor
end
section
namespace Go.Am
set_option linter.unusedVariables false
set_option linter.unusedSimpArgs false
theorem slice_bound {P : Program} {e es : TypeId} (he : P.underlying e = some (.slice es)) {W : World} {r : Reach} {b0 : Nat} {v : Value} (hv : Cell.okWide P W r b0 e v) {ρ : Ren} {α : Type} {en : En α} {x : GS en} (h : RelV ρ x.v v) : x.l.length ≤ 9223372036854775807 := by
 rcases x.ok with ⟨h1, h2, h3⟩ | ⟨h1, h2⟩
 ·omega
 ·rw [h1] at h;generalize x.l.flatMap en.f = cells at h;generalize x.l.length = n at h ⊢;cases h with
  | tree hl hc hi hv' =>
   simp only [Cell.okWide, Cell.ok, he] at hv
   have h3 := hv.2.1
   have e : IntKind.i64.max = 9223372036854775807 := rfl;rw [e] at h3;omega
  | tree0 => omega
theorem pair_bound {P : Program} {t e es : TypeId} {ts : List TypeId} (ht : P.underlying t = some (.array 2 e)) (he : P.underlying e = some (.slice es)) (hts : P.cellTypes P.depth t = some ts) (h0 : ts[0 % ts.length]? = some e)
  {W : World} {r : Reach} {b0 : Nat} {v : Value} (hval : Value.okWide P W r b0 t v) {ρ : Ren} {α : Type} {en : En α} {x y : GS en} (h : RelV ρ (.agg [x.v, y.v]) v) : x.l.length ≤ 9223372036854775807 := by
 simp only [Value.okWide, ht] at hval;obtain ⟨cs, rfl, hsz, ts', hts', hn, hall⟩ := hval;rw [hts] at hts';cases hts';generalize hc : Value.agg cs = w at h;cases h with
 | agg h1 hx =>
  rename_i xs
  cases hc;obtain ⟨a, ha⟩ : ∃ a, xs[0]? = some a := ⟨xs[0]'(by simp at h1; omega), List.getElem?_eq_getElem _⟩
  have hr := hx 0 x.v a rfl ha;obtain ⟨u, hu, hok⟩ := hall 0 a (by simpa using ha);rw [h0] at hu;cases hu;exact slice_bound he hok hr
end Go.Am
end
section
namespace Go.Am
set_option linter.unusedVariables false
set_option linter.unusedSimpArgs false
def upto (lo hi : Int) : List Int := (List.range (hi - lo).toNat).map fun i : Nat => lo + (i : Int)
theorem upto_succ {lo hi : Int} (h : lo ≤ hi) : upto lo (hi + 1) = upto lo hi ++ [hi] := by
 unfold upto;rw [show (hi + 1 - lo).toNat = (hi - lo).toNat + 1 by omega, List.range_succ, List.map_append]
 show _ ++ [lo + ((hi - lo).toNat : Int)] = _;rw [show lo + ((hi - lo).toNat : Int) = hi by omega]
theorem mem_upto {lo hi x : Int} : x ∈ upto lo hi ↔ lo ≤ x ∧ x < hi := by
 unfold upto;simp only [List.mem_map, List.mem_range];exact ⟨fun ⟨i, h1, h2⟩ => by omega, fun h => ⟨(x - lo).toNat, by omega, by omega⟩⟩
theorem upto_len {lo hi : Int} : (upto lo hi).length = (hi - lo).toNat := by simp [upto]
theorem flat_le {α β : Type} {f : β → List α} {n : Nat} : ∀ {l : List β}, (∀ x ∈ l, (f x).length ≤ n) → (l.flatMap f).length ≤ l.length * n
 | [], _ => by simp
 | a :: r, h => by
  have h1 := h a (by simp)
  have h2 := flat_le (l := r) fun x hx => h x (by simp [hx])
  rw [List.flatMap_cons, List.length_append, List.length_cons, Nat.add_mul];omega
theorem lexB_append : ∀ (b x y : List Int), lexB (b ++ x) (b ++ y) = lexB x y
 | [], _, _ => rfl
 | a :: b, x, y => by
  show lexB (a :: (b ++ x)) (a :: (b ++ y)) = _;rw [lexB, if_pos rfl, lexB_append b x y]
end Go.Am
end
section
namespace Go.Am
set_option linter.unusedVariables false
set_option linter.unusedSimpArgs false
section
variable {all : List (List Int)} {m : List Int → Option Int} {k best : Nat} {least n : Int} {found : Bool} {l : List Int}
theorem lexB_irr : ∀ l : List Int, lexB l l = false
 | [] => rfl
 | a :: r => by rw [lexB, if_pos rfl]; exact lexB_irr r
theorem lexB_asym : ∀ l l' : List Int, lexB l l' = true → lexB l' l = false
 | [], [], h => by cases h
 | [], b :: s, _ => rfl
 | a :: r, [], h => by cases h
 | a :: r, b :: s, h => by
  rw [lexB] at h ⊢
  by_cases e : a = b
  ·rw [if_pos e] at h; rw [if_pos e.symm]; exact lexB_asym r s h
  ·rw [if_neg e] at h; rw [if_neg fun h => e h.symm]
   have := of_decide_eq_true h;exact decide_eq_false (by omega)
end
theorem w1_Has_eq {l : List Int} {n : Int} (hl : l.length ≤ 1000) : P_w1_Has l n = some (decide (n ∈ l)) := by
 unfold P_w1_Has;rw [iter_scanI (fun i => if l[i]? = some n then some true else none) l.length, seqx_scan]
 ·cases hf : (List.range l.length).findSome? (fun i => if l[i]? = some n then some true else none) with
  | none =>
   have := of_find_none hf;refine congrArg some (decide_eq_false fun hm => ?_).symm;obtain ⟨j, hj⟩ := List.getElem?_of_mem hm
   have h2 := this j (List.getElem?_eq_some_iff.1 hj).1;rw [if_pos hj] at h2;cases h2
  | some b =>
   obtain ⟨j, _, hj⟩ := List.exists_of_findSome?_eq_some hf
   by_cases e : l[j]? = some n
   ·rw [if_pos e] at hj;cases hj;exact congrArg some (decide_eq_true (List.mem_of_getElem? e)).symm
   ·rw [if_neg e] at hj; cases hj
 ·intro k hk _;obtain ⟨a, ha⟩ := get_some hk;unfold P_w1_Has_L1;rw [if_pos (by omega), el_at ha, chk_pos (i64_small (by omega)), ha]
  by_cases e : a = n
  ·rw [if_pos e, if_pos (by rw [e])]; rfl
  ·rw [if_neg e, if_neg (fun h => e (Option.some.inj h))]; rfl
 ·intro _;unfold P_w1_Has_L1;rw [if_neg (by omega)]
section
variable {cl : List Str} {sh : List qH} {bs books : List qA} {but clear : Int}
def RiseIn (n m : Nat) (l : List Int) : Prop := l.length = n ∧ l.Pairwise (· ≤ ·) ∧ ∀ x ∈ l, 0 ≤ x ∧ x < (m : Int)
noncomputable def costF (sh : List qH) (books : List qA) (but clear : Int) (l : List Int) : Option Int :=
 open Classical in if ¬ clear ∈ l ∧ Arr sh books l then some (movedN books l 0 but) else none
structure FewB (sh : List qH) (books : List qA) (but clear : Int) (l : List Int) (n : Int) : Prop where
 rise : RiseIn books.length sh.length l
 ok : costF sh books but clear l = some n
 least : ∀ l' n', RiseIn books.length sh.length l' → costF sh books but clear l' = some n' → n ≤ n' ∧ (n' = n → lexB l' l = false)
end
end Go.Am
end
section
namespace Go.Am
set_option linter.unusedVariables false
set_option linter.unusedSimpArgs false
section
variable {sh : List qH} {mv mv' : Int → Int → Int} {books : List qA} {a0 : qH} {but clear : Int}
end
end Go.Am
end
section
namespace Go.Am
set_option linter.unusedVariables false
set_option linter.unusedSimpArgs false
section
variable {cl : List Str} {sh : List qH} {bs books : List qA} {but clear : Int}
end
section
variable {cl : List Str} {sh : List qH} {bs books : List qA} {b : qA}
end
end Go.Am
end
section
namespace Go.Am
set_option linter.unusedVariables false
set_option linter.unusedSimpArgs false
theorem el_int {α β : Type} {l : List α} {x : Int} {a : α} {g : α → Option β} (h0 : 0 ≤ x) (ha : l[x.toNat]? = some a) : el l x g = g a := by
 unfold el;rw [if_pos h0, ha]
section
variable {cl : List Str} {sh : List qH} {bs books : List qA} {s : Int}
open Classical in
noncomputable def clrE (cl : List Str) (sh : List qH) (bs : List qA) (s : Int) : Int := if roomN cl sh bs = 0 then (if btw 0 ((sh.length : Int) - 1) s then (if Rises bs then 0 else 2) else 4) else roomN cl sh bs
def ClearIs (cl : List Str) (sh : List qH) (bs : List qA) (s : Int) (r : List Int × Int × Int) : Prop :=
 (clrE cl sh bs s ≠ 0 ∧ r = ([], 0, clrE cl sh bs s)) ∨ (clrE cl sh bs s = 0 ∧ (∀ l, RiseIn bs.length sh.length l → costF sh bs (-1) s l = none) ∧ r = ([], 0, 9)) ∨
 (clrE cl sh bs s = 0 ∧ ∃ l n, FewB sh bs (-1) s l n ∧ r = (l, n, 0))
open Classical in
theorem clrE_zero (h : clrE cl sh bs s = 0) : Fine cl sh bs ∧ (0 ≤ s ∧ s ≤ (sh.length : Int) - 1) ∧ Rises bs := by
 unfold clrE at h
 by_cases h0 : roomN cl sh bs = 0
 ·rw [if_pos h0] at h
  by_cases h1 : btw 0 ((sh.length : Int) - 1) s
  ·rw [if_pos h1] at h
   by_cases h2 : Rises bs
   ·exact ⟨roomN_zero.1 h0, h1, h2⟩
   ·rw [if_neg h2] at h; cases h
  ·rw [if_neg h1] at h; cases h
 ·rw [if_neg h0] at h; exact absurd h h0
def cfB (bs : List qA) (x y : Int) : Int := match bs[x.toNat]?, bs[y.toNat]? with
 | some a, some b => cmpM a.qR a.qS a.qT b.qR b.qS b.qT
 | _, _ => 0
theorem at_some {x : Int} (h : 0 ≤ x ∧ x < bs.length) : ∃ a, bs[x.toNat]? = some a := get_some (by omega)
def ordB (bs : List qA) : List Int := sortC (cfB bs) (upto 0 bs.length)
theorem ordB_perm : (ordB bs).Perm (upto 0 bs.length) := sortC_perm _ _
theorem ordB_len : (ordB bs).length = bs.length := by rw [ordB_perm.length_eq, upto_len]; omega
theorem mem_ordB {x : Int} : x ∈ ordB bs ↔ 0 ≤ x ∧ x < bs.length := ordB_perm.mem_iff.trans mem_upto
def takenB (bs : List qA) (l : List Int) : List qA := l.filterMap fun i => bs[i.toNat]?
theorem takenB_len : ∀ {l : List Int}, (∀ x ∈ l, 0 ≤ x ∧ x < bs.length) → (takenB bs l).length = l.length
 | [], _ => rfl
 | i :: r, h => by
  obtain ⟨a, ha⟩ := at_some (h i (by simp))
  have ih := takenB_len (l := r) fun x hx => h x (by simp [hx])
  unfold takenB at ih ⊢;simp [ha, ih]
end
end Go.Am
end
section
namespace Go.Am
set_option linter.unusedVariables false
set_option linter.unusedSimpArgs false
section
variable {cl : List Str} {sh : List qH} {bs books : List qA} {s : Int}
theorem pair_at {R : Int → Int → Prop} {l : List Int} {i j : Nat} {x y : Int} (h : l.Pairwise R) (hij : i < j) (hx : l[i]? = some x) (hy : l[j]? = some y) : R x y := by
 obtain ⟨h1, e1⟩ := List.getElem?_eq_some_iff.1 hx;obtain ⟨h2, e2⟩ := List.getElem?_eq_some_iff.1 hy;rw [← e1, ← e2];exact List.pairwise_iff_getElem.1 h i j h1 h2 hij
theorem mem_take_at {l : List Int} {k : Nat} {x : Int} (h : x ∈ l.take k) : ∃ j, j < k ∧ l[j]? = some x := by
 obtain ⟨j, hj⟩ := List.getElem?_of_mem h
 have hj' := (List.getElem?_eq_some_iff.1 hj).1;rw [List.length_take] at hj';exact ⟨j, by omega, by rw [List.getElem?_take_of_lt (by omega)] at hj; exact hj⟩
def ArrIs (cl : List Str) (sh : List qH) (bs : List qA) (r : List Int × List Int × Int × Int) : Prop :=
 (roomN cl sh bs ≠ 0 ∧ r = ([], [], 0, roomN cl sh bs)) ∨ (Fine cl sh bs ∧ (∀ l, RiseIn bs.length sh.length l → costF sh (takenB bs (ordB bs)) (-1) (-1) l = none) ∧ r = ([], [], 0, 9)) ∨
 (Fine cl sh bs ∧ ∃ l n, FewB sh (takenB bs (ordB bs)) (-1) (-1) l n ∧ r = (ordB bs, l, n, 0))
theorem taken_ord_len : (takenB bs (ordB bs)).length = bs.length := by rw [takenB_len fun x hx => mem_ordB.1 hx, ordB_len]
end
end Go.Am
end
section
namespace Go.Am
set_option linter.unusedVariables false
set_option linter.unusedSimpArgs false
section
variable {cl : List Str} {sh : List qH} {bs books : List qA} {s : Int}
end
end Go.Am
end
section
namespace Go.Am
set_option linter.unusedVariables false
set_option linter.unusedSimpArgs false
section
variable {cl : List Str} {sh : List qH} {bs books : List qA} {b : qA}
end
end Go.Am
end
section
namespace Go.Am
set_option linter.unusedVariables false
set_option linter.unusedSimpArgs false
end Go.Am
end
section
namespace Go.Am
set_option linter.unusedVariables false
set_option linter.unusedSimpArgs false
section
variable {cl : List Str} {sh : List qH} {bs books : List qA}
end
end Go.Am
end
section
namespace Go.Am
set_option linter.unusedVariables false
set_option linter.unusedSimpArgs false
section
variable {cl : List Str} {sh : List qH} {bs books : List qA}
end
end Go.Am
end
section
namespace Go.Am
set_option linter.unusedVariables false
set_option linter.unusedSimpArgs false
section
variable {cl : List Str} {sh : List qH} {bs books : List qA} {ls : List Int} {i : Nat} {a : qH}
end
end Go.Am
end
section
namespace Go.Am
set_option linter.unusedVariables false
set_option linter.unusedSimpArgs false
section
variable {cl : List Str} {sh : List qH} {bs books : List qA}
end
end Go.Am
end
section
namespace Go.Am
set_option linter.unusedVariables false
set_option linter.unusedSimpArgs false
section
variable {cl : List Str} {sh : List qH} {bs books : List qA} {but clear : Int} {b : qA}
theorem turn_ok {x : List UInt8} {n : Nat} : Ok (P_law9_turn x n) fun r => 0 ≤ r ∧ r ≤ 255 := by
 unfold P_law9_turn
 by_cases h : (x.length : Int) = 0
 ·rw [if_pos h]; exact .some ⟨by decide, by decide⟩
 ·rw [if_neg h, chk_pos (by omega), Int.tmod_eq_emod_of_nonneg (by omega)]
  have h1 := Int.emod_nonneg (n : Int) h
  have h2 := Int.emod_lt_of_pos (n : Int) (show (0 : Int) < x.length by omega);obtain ⟨a, ha⟩ := get_some (l := x) (k := ((n : Int) % x.length).toNat) (by omega);rw [el_int h1 ha]
  have := a.toNat_lt;rw [chk_pos (by omega)];exact .some (by omega)
end
end Go.Am
end
section
namespace Go.Am
set_option linter.unusedVariables false
set_option linter.unusedSimpArgs false
section
variable {cl : List Str} {sh : List qH} {bs books : List qA} {but clear : Int} {b : qA}
end
end Go.Am
end
section
namespace Go.Am
set_option linter.unusedVariables false
set_option linter.unusedSimpArgs false
section
variable {cl : List Str} {sh : List qH} {bs books : List qA} {but clear : Int} {b : qA}
theorem at_upto {n k : Nat} (h : k < n) : (upto 0 n)[k]? = some (k : Int) := by
 unfold upto;rw [List.getElem?_map, List.getElem?_range (by omega)];simp
end
end Go.Am
end
section
namespace Go.Am
set_option linter.unusedVariables false
set_option linter.unusedSimpArgs false
structure Nar (a b : qA) : Prop where
 c : b.qR = a.qR
 n : b.qS = a.qS
 s : b.qT = a.qT
 y : b.heavy = a.heavy
 p : b.shelf = a.shelf
 w : 1 ≤ b.wide ∧ b.wide ≤ a.wide
 h : 1 ≤ b.high ∧ b.high ≤ a.high
inductive NarL : List qA → List qA → Prop
 | nil : NarL [] []
 | cons {a b r t} : Nar a b → NarL r t → NarL (a :: r) (b :: t)
namespace NarL
theorem len {x y : List qA} (h : NarL x y) : y.length = x.length := by
 induction h with
 | nil => rfl
 | cons _ _ ih => simp [ih]
theorem get {x y : List qA} (h : NarL x y) : ∀ {k : Nat} {a : qA}, x[k]? = some a → ∃ b, y[k]? = some b ∧ Nar a b := by
 induction h with
 | nil => intro k a ha; simp at ha
 | cons hn _ ih =>
  intro k a ha;cases k with
  | zero => simp at ha; subst ha; exact ⟨_, by simp, hn⟩
  | succ k => rw [List.getElem?_cons_succ] at ha ⊢; exact ih ha
theorem back {x y : List qA} (h : NarL x y) {k : Nat} {b : qA} (hb : y[k]? = some b) : ∃ a, x[k]? = some a ∧ Nar a b := by
 obtain ⟨a, ha⟩ := get_some (l := x) (k := k) (by rw [← h.len]; exact (List.getElem?_eq_some_iff.1 hb).1);obtain ⟨c, hc, hn⟩ := h.get ha;rw [hb] at hc;cases hc;exact ⟨a, ha, hn⟩
theorem take {x y : List qA} (h : NarL x y) : ∀ k, NarL (x.take k) (y.take k) := by
 induction h with
 | nil => intro k; simp; exact .nil
 | cons hn _ ih =>
  intro k;cases k with
  | zero => exact .nil
  | succ k => exact .cons hn (ih k)
theorem wideOn {x y : List qA} (h : NarL x y) (i : Int) : Am.wideOn i y ≤ Am.wideOn i x := by
 induction h with
 | nil => exact Int.le_refl _
 | cons hn _ ih =>
  unfold Am.wideOn;rw [hn.p]
  have := hn.w;split <;> omega
theorem lowOn {x y : List qA} (h : NarL x y) {i t : Int} (hl : Am.lowOn i t x) : Am.lowOn i t y := fun b hb hs => by
 obtain ⟨k, hk⟩ := List.getElem?_of_mem hb;obtain ⟨a, ha, hn⟩ := h.back hk
 have := hl a (List.mem_of_getElem? ha) (by rw [← hn.p]; exact hs)
 have := hn.h;omega
theorem withS {x y : List qA} (h : NarL x y) : ∀ ls : List Int, NarL (Am.withS x ls) (Am.withS y ls) := by
 induction h with
 | nil => intro ls; exact .nil
 | cons hn _ ih =>
  intro ls;cases ls with
  | nil => exact .nil
  | cons s ls => exact .cons ⟨hn.c, hn.n, hn.s, hn.y, rfl, hn.w, hn.h⟩ (ih ls)
theorem cfB {x y : List qA} (h : NarL x y) (i j : Int) : Am.cfB y i j = Am.cfB x i j := by
 unfold Am.cfB;cases ha : x[i.toNat]? with
 | none =>
  have := List.getElem?_eq_none_iff.1 ha;rw [List.getElem?_eq_none (by rw [h.len]; exact this)]
 | some a =>
  obtain ⟨b, hb, hn⟩ := h.get ha;rw [hb];cases hc : x[j.toNat]? with
  | none =>
   have := List.getElem?_eq_none_iff.1 hc;rw [List.getElem?_eq_none (by rw [h.len]; exact this)]
  | some c =>
   obtain ⟨d, hd, hm⟩ := h.get hc;rw [hd];simp only [hn.c, hn.n, hn.s, hm.c, hm.n, hm.s]
theorem ordB {x y : List qA} (h : NarL x y) : Am.ordB y = Am.ordB x := by
 unfold Am.ordB;rw [h.len, show Am.cfB y = Am.cfB x from funext fun i => funext fun j => h.cfB i j]
theorem moved {x y : List qA} (h : NarL x y) : ∀ (ls : List Int) (i : Nat) (but : Int), movedN y ls i but = movedN x ls i but := by
 induction h with
 | nil => intro ls i but; rfl
 | cons hn _ ih =>
  intro ls i but;cases ls with
  | nil => rfl
  | cons s ls => rw [movedN_cons, movedN_cons, ih, hn.p]
theorem fits {x y : List qA} (h : NarL x y) {i : Nat} {a : qH} (hf : Am.fits x i a) : Am.fits y i a := ⟨h.lowOn hf.1, Int.le_trans (h.wideOn i) hf.2⟩
end NarL
section
variable {cl : List Str} {sh sh' : List qH} {bs bs' books : List qA} {but clear : Int} {b : qA}
structure Wid (sh sh' : List qH) : Prop where
 len : sh'.length = sh.length
 back : ∀ (k : Nat) (a' : qH), sh'[k]? = some a' → ∃ a, sh[k]? = some a ∧ a'.away = a.away ∧ a'.climb = a.climb ∧ (a.wide ≤ a'.wide ∧ a'.wide ≤ 2000) ∧ (a.high ≤ a'.high ∧ a'.high ≤ 2000)
theorem Wid.fits {i : Nat} {a a' : qH} (h1 : a.wide ≤ a'.wide) (h2 : a.high ≤ a'.high) (hf : Am.fits bs i a) : Am.fits bs i a' := ⟨fun b hb hs => Int.le_trans (hf.1 b hb hs) h2, Int.le_trans hf.2 h1⟩
end
end Go.Am
end
section
namespace Go.Am
set_option linter.unusedVariables false
set_option linter.unusedSimpArgs false
def nextI (t : List Int) : Int := t.foldl (fun a x => max a (x + 1)) 0
theorem nextI_snoc (t : List Int) (n : Int) : nextI (t ++ [n]) = max (nextI t) (n + 1) := by unfold nextI; rw [List.foldl_append]; rfl
end Go.Am
end
section
namespace Go.Am
set_option linter.unusedVariables false
set_option linter.unusedSimpArgs false
structure PartAt (i : Nat) (t s : List Int) : Prop where
 tl : t.length = i
 sl : s.length ≤ i
 tr : ∀ x ∈ t, 0 ≤ x ∧ x < s.length
 el : ∀ (n : Nat) (x : Int), s[n]? = some x → (0 ≤ x ∧ x < 2 ^ i) ∧ ∀ j : Nat, x.toNat.testBit j = decide (t[j]? = some (n : Int))
theorem testBit_add {x i j : Nat} (h : x < 2 ^ i) : (x + 2 ^ i).testBit j = (x.testBit j || decide (j = i)) := by
 rw [Nat.add_comm]
 by_cases h1 : j < i
 ·rw [Nat.testBit_two_pow_add_gt h1, decide_eq_false (by omega), Bool.or_false]
 ·by_cases h2 : j = i
  ·subst h2;rw [Nat.testBit_two_pow_add_eq, Nat.testBit_lt_two_pow h, decide_eq_true rfl];rfl
  ·have e : 2 ^ (i + 1) ≤ 2 ^ j := Nat.pow_le_pow_right (by decide) (by omega)
   have e2 : 2 ^ (i + 1) = 2 ^ i * 2 := Nat.pow_succ 2 i
   have e3 : 2 ^ i ≤ 2 ^ j := Nat.pow_le_pow_right (by decide) (by omega);rw [Nat.testBit_lt_two_pow (by omega), Nat.testBit_lt_two_pow (by omega), decide_eq_false h2];rfl
theorem PartAt.ext {i n : Nat} {t s : List Int} (h : PartAt i t s) (hn : n ≤ s.length) {k : Nat} {x : Int} (hx : (extS s n)[k]? = some x) : (0 ≤ x ∧ x < 2 ^ i) ∧ ∀ j : Nat, x.toNat.testBit j = decide (t[j]? = some (k : Int)) := by
 unfold extS at hx;split at hx
 ·by_cases hk : k < s.length
  ·rw [List.getElem?_append_left hk] at hx;exact h.el k x hx
  ·rw [List.getElem?_append_right (by omega)] at hx
   have hk2 : k = s.length := by
    have := (List.getElem?_eq_some_iff.1 hx).1;simp at this;omega
   subst hk2;simp at hx;subst hx;refine ⟨⟨Int.le_refl _, pow_pos' i⟩, fun j => ?_⟩;rw [decide_eq_false fun hj => by have := (h.tr _ (List.mem_of_getElem? hj)).2; omega];simp
 ·exact h.el k x hx
theorem PartAt.next {i n : Nat} {t s : List Int} (h : PartAt i t s) (hn : n ≤ s.length) : PartAt (i + 1) (t ++ [(n : Int)]) (wkSet s n i) := by
 have htl := h.tl
 have hsl := h.sl
 have hel := extS_len hn;obtain ⟨y, hy, _, _⟩ := extS_at hn
 have hyr := h.ext hn hy
 have hp := pow_pos' i
 have e2 : (2 : Int) ^ (i + 1) = 2 ^ i * 2 := Int.pow_succ 2 i
 have hsge : s.length ≤ (extS s n).length := by
  unfold extS;split
  ·rw [List.length_append]; omega
  ·exact Nat.le_refl _
 rw [wkSet_of hy];refine ⟨by simp; omega, by rw [List.length_set]; omega, fun x hx => ?_, fun k x hx => ?_⟩
 ·rw [List.length_set]
  rcases List.mem_append.1 hx with hx | hx
  ·have := h.tr x hx;omega
  ·have := List.mem_singleton.1 hx;omega
 ·rw [List.getElem?_set] at hx
  have hget : ∀ j : Nat, (t ++ [(n : Int)])[j]? = some (k : Int) ↔ (t[j]? = some (k : Int) ∨ (j = i ∧ k = n)) := fun j => by
   by_cases hj : j < i
   ·rw [List.getElem?_append_left (by omega)];exact ⟨.inl, fun g => g.elim (fun g => g) fun g => by omega⟩
   ·rw [List.getElem?_append_right (by omega)]
    by_cases hji : j = i
    ·subst hji
     have e : j - t.length = 0 := by omega
     rw [e, List.getElem?_eq_none (show t.length ≤ j by omega)];simp;omega
    ·have e : j - t.length = j - t.length - 1 + 1 := by omega
     rw [List.getElem?_eq_none (show [(n : Int)].length ≤ j - t.length by simp; omega), List.getElem?_eq_none (show t.length ≤ j by omega)];simp;omega
  by_cases hkn : n = k
  ·subst hkn;rw [if_pos rfl, if_pos hel.1] at hx;cases hx;refine ⟨by omega, fun j => ?_⟩
   have hpn : ((2 ^ i : Nat) : Int) = (2 : Int) ^ i := by exact_mod_cast rfl
   have e : (y + 2 ^ i).toNat = y.toNat + 2 ^ i := by omega
   have hlt : y.toNat < 2 ^ i := by omega
   rw [e, testBit_add hlt, hyr.2 j]
   by_cases g1 : t[j]? = some (n : Int)
   ·rw [decide_eq_true g1, decide_eq_true ((hget j).2 (.inl g1))];rfl
   ·by_cases g2 : j = i
    ·rw [decide_eq_true g2, decide_eq_true ((hget j).2 (.inr ⟨g2, rfl⟩)), Bool.or_true]
    ·rw [decide_eq_false g1, decide_eq_false g2, decide_eq_false fun g => ((hget j).1 g).elim g1 fun g => g2 g.1];rfl
  ·rw [if_neg hkn] at hx
   have hr := h.ext hn hx;refine ⟨by omega, fun j => ?_⟩;rw [hr.2 j];refine decide_eq_decide.2 ⟨fun g => (hget j).2 (.inl g), fun g => ((hget j).1 g).elim (fun g => g) fun g => by omega⟩
theorem wk_part : ∀ (m i : Nat) (t s : List Int), PartAt i t s → ∀ p ∈ wk m i t s, PartAt (i + m) p.1 p.2
 | 0, i, t, s, h, p, hp => by
  have := List.mem_singleton.1 hp;subst this;exact h
 | m + 1, i, t, s, h, p, hp => by
  obtain ⟨n, hn, hp⟩ := List.mem_flatMap.1 (show p ∈ (List.range (s.length + 1)).flatMap _ from hp)
  have hn := List.mem_range.1 hn
  have := wk_part m (i + 1) _ _ (h.next (n := n) (by omega)) p hp
  rwa [show i + 1 + m = i + (m + 1) by omega] at this
theorem walks_part {many : Nat} {p : List Int × List Int} (h : p ∈ walksOf many) : PartAt many p.1 p.2 := by
 have := wk_part many 0 [] [] ⟨rfl, Nat.le_refl _, fun x h => (by cases h), fun n x h => by simp at h⟩ p h
 rwa [Nat.zero_add] at this
end Go.Am
end
section
namespace Go.Am
set_option linter.unusedVariables false
set_option linter.unusedSimpArgs false
def selK (bs : List qA) (books : List Int) (m : Nat → Bool) (k : Nat) : List qA := (List.range k).flatMap fun i => if m i then (match books[i]? with | some x => (match bs[x.toNat]? with | some b => [b] | none => []) | none => []) else []
theorem selK_step {bs : List qA} {books : List Int} {m : Nat → Bool} {k : Nat} {x : Int} {b : qA} (hx : books[k]? = some x) (hb : bs[x.toNat]? = some b) : selK bs books m (k + 1) = selK bs books m k ++ if m k then [b] else [] := by
 unfold selK;rw [List.range_succ, List.flatMap_append, List.flatMap_cons, List.flatMap_nil, List.append_nil, hx];simp only [hb]
theorem selK_mem {bs : List qA} {books : List Int} {m : Nat → Bool} {k : Nat} {b : qA} (h : b ∈ selK bs books m k) : b ∈ bs := by
 obtain ⟨i, _, hi⟩ := List.mem_flatMap.1 h;split at hi
 ·split at hi
  ·split at hi
   ·rename_i hb
    have := List.mem_singleton.1 hi;subst this;exact List.mem_of_getElem? hb
   ·cases hi
  ·cases hi
 ·cases hi
theorem selK_len {bs : List qA} {books : List Int} {m : Nat → Bool} (k : Nat) : (selK bs books m k).length ≤ k := by
 have := flat_le (f := fun i => if m i then (match books[i]? with | some x => (match bs[x.toNat]? with | some b => [b] | none => []) | none => []) else ([] : List qA)) (n := 1) (l := List.range k) fun i _ => by
  split
  ·split
   ·split <;> simp
   ·simp
  ·simp
 rw [List.length_range] at this;unfold selK;omega
def heavyS : List qA → Int
 | [] => 0
 | b :: r => b.heavy + heavyS r
theorem heavyS_append : ∀ x y : List qA, heavyS (x ++ y) = heavyS x + heavyS y
 | [], y => by simp [heavyS]
 | b :: r, y => by simp [heavyS, heavyS_append r y]; omega
def awOf (sh : List qH) (b : qA) : Int := match sh[b.shelf.toNat]? with | some a => a.away | none => 0
def awayS (sh : List qH) : List qA → Int
 | [] => 0
 | b :: r => max (awOf sh b) (awayS sh r)
theorem awayS_nonneg (sh : List qH) : ∀ l : List qA, 0 ≤ awayS sh l
 | [] => Int.le_refl _
 | b :: r => by have := awayS_nonneg sh r; unfold awayS; omega
theorem awayS_append (sh : List qH) : ∀ x y : List qA, awayS sh (x ++ y) = max (awayS sh x) (awayS sh y)
 | [], y => by have := awayS_nonneg sh y; simp [awayS]; omega
 | b :: r, y => by simp only [List.cons_append, awayS, awayS_append sh r y]; omega
def clOf (sh : List qH) (k : Nat) : Int := match sh[k]? with | some a => a.climb | none => 0
open Classical in
noncomputable def climbK (sh : List qH) (S : List qA) : Nat → Int
 | 0 => 0
 | k + 1 => climbK sh S k + (if ∃ b ∈ S, b.shelf = (k : Int) then clOf sh k else 0)
open Classical in
theorem climbK_succ (sh : List qH) (S : List qA) (k : Nat) : climbK sh S (k + 1) = climbK sh S k + (if ∃ b ∈ S, b.shelf = (k : Int) then clOf sh k else 0) := rfl
noncomputable def wayS (sh : List qH) (S : List qA) : Int := 2 * (awayS sh S + climbK sh S sh.length)
section
variable {cl : List Str} {sh : List qH} {bs : List qA} {books : List Int} {S : List qA}
theorem Fine.heavy (hF : Fine cl sh bs) {b : qA} (hb : b ∈ bs) : (1 ≤ b.heavy ∧ b.heavy ≤ 100) ∧ (0 ≤ b.shelf ∧ b.shelf < sh.length) := by
 obtain ⟨j, hj⟩ := List.getElem?_of_mem hb
 have h := bkErr_zero (bk_all hF.bs2 hj)
 have h1 := h.1;unfold bkRange btw at h1;exact ⟨by omega, hF.book hj⟩
theorem Fine.aw (hF : Fine cl sh bs) {j : Nat} {a : qH} (ha : sh[j]? = some a) : (0 ≤ a.away ∧ a.away ≤ 1000) ∧ (0 ≤ a.climb ∧ a.climb ≤ 1000) := by
 have := hF.shelf ha;unfold shOk btw at this;omega
theorem heavyS_bound (hF : Fine cl sh bs) : ∀ S : List qA, (∀ b ∈ S, b ∈ bs) → 0 ≤ heavyS S ∧ heavyS S ≤ 100 * S.length
 | [], _ => by simp [heavyS]
 | b :: r, h => by
  have h1 := (hF.heavy (h b (by simp))).1
  have h2 := heavyS_bound hF r fun c hc => h c (by simp [hc])
  simp only [heavyS, List.length_cons];omega
theorem awayS_bound (hF : Fine cl sh bs) : ∀ S : List qA, awayS sh S ≤ 1000
 | [] => by simp [awayS]
 | b :: r => by
  have h2 := awayS_bound hF r
  have h1 : awOf sh b ≤ 1000 := by
   unfold awOf;split
   ·rename_i a ha
    have := hF.aw ha;omega
   ·omega
  simp only [awayS];omega
theorem climbK_bound (hF : Fine cl sh bs) (S : List qA) : ∀ k : Nat, 0 ≤ climbK sh S k ∧ climbK sh S k ≤ 1000 * k
 | 0 => by simp [climbK]
 | k + 1 => by
  have h2 := climbK_bound hF S k
  have h1 : 0 ≤ clOf sh k ∧ clOf sh k ≤ 1000 := by
   unfold clOf;split
   ·rename_i a ha
    have := hF.aw ha;omega
   ·omega
  unfold climbK;split <;> omega
theorem wayS_bound (hF : Fine cl sh bs) (S : List qA) : 0 ≤ wayS sh S ∧ wayS sh S ≤ 10000 := by
 have h1 := awayS_bound hF S
 have h2 := climbK_bound hF S sh.length
 have h3 := awayS_nonneg sh S
 have := hF.sh1;unfold wayS;omega
theorem bit_and : ∀ x : Fin 64, ∀ k : Fin 6, andI (shrI (x.val : Int) (k.val : Int)) 1 = if x.val.testBit k.val then 1 else 0 := by decide +kernel
theorem bit_and' {x k : Nat} (hx : x < 64) (hk : k < 6) : andI (shrI (x : Int) (k : Int)) 1 = if x.testBit k then 1 else 0 := bit_and ⟨x, hx⟩ ⟨k, hk⟩
theorem bit_seen : ∀ x : Fin 16, ∀ s : Fin 4, orI (x.val : Int) (shlI 1 (s.val : Int)) = ((x.val ||| 2 ^ s.val : Nat) : Int) ∧ x.val ||| 2 ^ s.val < 16 ∧ I64 (shlI 1 (s.val : Int)) := by decide +kernel
structure Places (bs : List qA) (books : List Int) : Prop where
 len : books.length ≤ 6
 el : ∀ x ∈ books, 0 ≤ x ∧ x < bs.length
open Classical in
theorem s9_trip_eq (hF : Fine cl sh bs) (hP : Places bs books) {N : Nat} (hN : N < 64) : P_s9_trip cl sh bs books (N : Int) = some (wayS sh (selK bs books (fun i => N.testBit i) books.length), heavyS (selK bs books (fun i => N.testBit i) books.length)) := by
 have hsh := hF.sh1
 have h6 := hP.len;generalize hm : (fun i : Nat => N.testBit i) = m;refine Ok.get ?_;unfold P_s9_trip;refine Ok.andx (P := fun r => r.1 = awayS sh (selK bs books m books.length) ∧ r.2.1 = heavyS (selK bs books m books.length) ∧ ∃ q : Nat, r.2.2 = q ∧ q < 16 ∧ ∀ s : Nat, q.testBit s = decide (∃ b ∈ selK bs books m books.length, b.shelf = (s : Int))) ?_ ?_
 ·refine Ok.count (fun s : Int × Int × Int × Int => s.2.2.2) books.length (fun k r => r.1 = awayS sh (selK bs books m k) ∧ r.2.1 = heavyS (selK bs books m k) ∧ ∃ q : Nat, r.2.2.1 = q ∧ q < 16 ∧ ∀ s : Nat, q.testBit s = decide (∃ b ∈ selK bs books m k, b.shelf = (s : Int))) rfl ⟨rfl, rfl, 0, rfl, by decide, fun s => by simp [selK]⟩ ?_ ?_
  ·rintro k ⟨way, heavy, seen, i⟩ hk hx ⟨h1, h2, q, h3, hq, h4⟩;simp only at hx h1 h2 h3;subst hx; subst h1; subst h2; subst h3;obtain ⟨x, hxk⟩ := get_some hk
   have hxr := hP.el x (List.mem_of_getElem? hxk);obtain ⟨b, hb⟩ := at_some hxr
   have hbr := hF.heavy (List.mem_of_getElem? hb)
   have hst := selK_step (m := m) hxk hb
   have hlen := selK_len (bs := bs) (books := books) (m := m) k
   have hhb := heavyS_bound hF (selK bs books m k) fun b h => selK_mem h
   unfold P_s9_trip_L1
   show Ok (if _ then _ else _) _;rw [if_pos (by omega), el_at hxk, chk_pos (by omega), bit_and' hN (by omega)]
   have hmk : N.testBit k = m k := by rw [← hm]
   rw [hmk]
   have hcnt : I64 ((k : Int) + 1) := i64_small (by omega)
   by_cases hbit : m k = true
   ·rw [if_pos hbit] at hst;rw [if_pos hbit, if_neg (by decide), el_int hxr.1 hb, chk_pos (i64_small (by omega))];obtain ⟨a, ha⟩ := get_some (l := sh) (k := b.shelf.toNat) (by omega)
    have hs := bit_seen ⟨q, hq⟩ ⟨b.shelf.toNat, by omega⟩;simp only [show ((b.shelf.toNat : Nat) : Int) = b.shelf by omega] at hs;rw [el_int hbr.2.1 ha, chk_pos ⟨by omega, hs.2.2⟩, hs.1, andx_some'];dsimp only;rw [chk_pos hcnt];refine .some ⟨rfl, ?_, ?_, _, rfl, hs.2.1, fun s => ?_⟩
    ·show max (awayS sh (selK bs books m k)) a.away = _;rw [hst, awayS_append]
     have e : awOf sh b = a.away := by unfold awOf; rw [ha]
     have := (hF.aw ha).1;simp only [awayS, e];omega
    ·show heavyS (selK bs books m k) + b.heavy = _;rw [hst, heavyS_append];simp [heavyS]
    ·show (q ||| 2 ^ b.shelf.toNat).testBit s = _;rw [Nat.testBit_or, h4 s, Nat.testBit_two_pow, hst]
     by_cases g1 : ∃ b ∈ selK bs books m k, b.shelf = (s : Int)
     ·obtain ⟨c, hc, hcs⟩ := g1;rw [decide_eq_true ⟨c, hc, hcs⟩, decide_eq_true (p := ∃ b_1 ∈ selK bs books m k ++ [b], b_1.shelf = (s : Int)) ⟨c, by simp [hc], hcs⟩];rfl
     ·by_cases g2 : b.shelf.toNat = s
      ·rw [decide_eq_true g2, Bool.or_true, decide_eq_true];exact ⟨b, by simp, by omega⟩
      ·rw [decide_eq_false g1, decide_eq_false g2, decide_eq_false]
       ·rfl
       ·rintro ⟨c, hc, hcs⟩
        rcases List.mem_append.1 hc with hc | hc
        ·exact g1 ⟨c, hc, hcs⟩
        ·have := List.mem_singleton.1 hc;subst this;omega
   ·rw [if_neg hbit, List.append_nil] at hst;rw [if_neg hbit, if_pos rfl, andx_some'];dsimp only;rw [chk_pos hcnt];refine .some ⟨rfl, ?_, ?_, q, rfl, hq, fun s => ?_⟩
    ·rw [hst]
    ·rw [hst]
    ·rw [hst]; exact h4 s
  ·rintro ⟨way, heavy, seen, i⟩ hx hI;simp only at hx hI;subst hx;unfold P_s9_trip_L1
   show Ok (if _ then _ else _) _;rw [if_neg (by omega)];exact .some hI
 ·rintro ⟨way, heavy, seen⟩ ⟨h1, h2, q, h3, hq, h4⟩;simp only at h1 h2 h3;subst h1; subst h2; subst h3;generalize selK bs books m books.length = S at h4 ⊢
  have hab := awayS_bound hF S
  have hcb := climbK_bound hF S
  have han := awayS_nonneg sh S;refine Ok.andx (P := fun r => r = awayS sh S + climbK sh S sh.length) ?_ (fun r hr => ?_)
  ·refine Ok.count (fun s : Int × Int => s.2) sh.length (fun k r => r.1 = awayS sh S + climbK sh S k) rfl (by simp [climbK]) ?_ ?_
   ·rintro k ⟨way, i⟩ hk hx h1;simp only at hx h1;subst hx; subst h1;obtain ⟨a, ha⟩ := get_some hk
    have har := hF.aw ha
    have hck := hcb k;unfold P_s9_trip_L2
    show Ok (if _ then _ else _) _;rw [if_pos (by omega), el_at ha, chk_pos (by omega), bit_and' (by omega) (by omega), h4 k]
    have e : clOf sh k = a.climb := by unfold clOf; rw [ha]
    have hb1 : (0 : Int) ≤ (if decide (∃ b ∈ S, b.shelf = (k : Int)) = true then 1 else 0) * a.climb ∧ (if decide (∃ b ∈ S, b.shelf = (k : Int)) = true then (1 : Int) else 0) * a.climb ≤ 1000 := by
     split <;> omega
    rw [chk_pos (i64_small (by omega)), chk_pos (i64_small (by omega)), chk_pos (i64_small (by omega))];refine .some ⟨rfl, ?_⟩
    show awayS sh S + climbK sh S k + (if decide (∃ b ∈ S, b.shelf = (k : Int)) = true then (1 : Int) else 0) * a.climb = awayS sh S + climbK sh S (k + 1);rw [climbK_succ, e]
    by_cases g : ∃ b ∈ S, b.shelf = (k : Int)
    ·rw [if_pos (decide_eq_true g), if_pos g]; omega
    ·rw [if_neg (by rw [decide_eq_false g]; decide), if_neg g]; omega
   ·rintro ⟨way, i⟩ hx h1;simp only at hx h1;subst hx;unfold P_s9_trip_L2
    show Ok (if _ then _ else _) _;rw [if_neg (by omega)];exact .some h1
  ·subst hr
   have := hcb sh.length;rw [chk_pos (i64_small (by omega))];exact .some rfl
end
end Go.Am
end
section
namespace Go.Am
set_option linter.unusedVariables false
set_option linter.unusedSimpArgs false
def onS (s : Int) (S : List qA) : List qA := S.filter fun b => decide (b.shelf = s)
def ltS (s : Int) (S : List qA) : List qA := S.filter fun b => decide (b.shelf < s)
theorem ltS_heavy {s : Int} : ∀ S : List qA, heavyS (ltS (s + 1) S) = heavyS (ltS s S) + heavyS (onS s S)
 | [] => rfl
 | b :: r => by
  have ih := ltS_heavy (s := s) r;unfold ltS onS at ih ⊢;simp only [List.filter_cons]
  by_cases h1 : b.shelf < s
  ·rw [if_pos (decide_eq_true (by omega)), if_pos (decide_eq_true h1), if_neg (by rw [decide_eq_false (by omega)]; decide)];simp only [heavyS, ih]; omega
  ·by_cases h2 : b.shelf = s
   ·rw [if_pos (decide_eq_true (by omega)), if_neg (by rw [decide_eq_false h1]; decide), if_pos (decide_eq_true h2)];simp only [heavyS, ih]; omega
   ·rw [if_neg (by rw [decide_eq_false (by omega)]; decide), if_neg (by rw [decide_eq_false h1]; decide), if_neg (by rw [decide_eq_false h2]; decide)];exact ih
theorem ltS_away {sh : List qH} {s : Int} : ∀ S : List qA, awayS sh (ltS (s + 1) S) = max (awayS sh (ltS s S)) (awayS sh (onS s S))
 | [] => rfl
 | b :: r => by
  have ih := ltS_away (sh := sh) (s := s) r;unfold ltS onS at ih ⊢;simp only [List.filter_cons]
  by_cases h1 : b.shelf < s
  ·rw [if_pos (decide_eq_true (by omega)), if_pos (decide_eq_true h1), if_neg (by rw [decide_eq_false (by omega)]; decide)];simp only [awayS, ih]; omega
  ·by_cases h2 : b.shelf = s
   ·rw [if_pos (decide_eq_true (by omega)), if_neg (by rw [decide_eq_false h1]; decide), if_pos (decide_eq_true h2)];simp only [awayS, ih]; omega
   ·rw [if_neg (by rw [decide_eq_false (by omega)]; decide), if_neg (by rw [decide_eq_false h1]; decide), if_neg (by rw [decide_eq_false h2]; decide)];exact ih
theorem ltS_none {S : List qA} (h : ∀ b ∈ S, 0 ≤ b.shelf) : ltS 0 S = [] := List.filter_eq_nil_iff.2 fun b hb => by have := h b hb; simp; omega
theorem ltS_all {S : List qA} {n : Int} (h : ∀ b ∈ S, b.shelf < n) : ltS n S = S := List.filter_eq_self.2 fun b hb => decide_eq_true (h b hb)
theorem onS_append {s : Int} {x y : List qA} : onS s (x ++ y) = onS s x ++ onS s y := List.filter_append ..
theorem max3 {x z a : Int} (h : 0 ≤ a) : max (max x z) a = max x (max z (max a 0)) := by omega
section
variable {cl : List Str} {sh : List qH} {bs : List qA} {books : List Int}
open Classical in
theorem r9_Trip_eq (hF : Fine cl sh bs) (hP : Places bs books) {t : List Int} (ht : t.length = books.length) {n : Int} : P_r9_Trip cl sh bs books t n = some (wayS sh (selK bs books (fun i => decide (t[i]? = some n)) books.length), heavyS (selK bs books (fun i => decide (t[i]? = some n)) books.length)) := by
 have hsh := hF.sh1
 have h6 := hP.len;generalize hm : (fun i : Nat => decide (t[i]? = some n)) = m
 have hSm : ∀ b ∈ selK bs books m books.length, 0 ≤ b.shelf ∧ b.shelf < sh.length := fun b hb => (hF.heavy (selK_mem hb)).2
 have hlenS := selK_len (bs := bs) (books := books) (m := m) books.length;refine Ok.get ?_;unfold P_r9_Trip;refine Ok.andx (P := fun r => r = (awayS sh (selK bs books m books.length), climbK sh (selK bs books m books.length) sh.length, heavyS (selK bs books m books.length))) ?_ ?_
 ·refine Ok.count (fun s : Int × Int × Int × Int => s.2.2.2) sh.length (fun k r => r.1 = awayS sh (ltS k (selK bs books m books.length)) ∧ r.2.1 = climbK sh (selK bs books m books.length) k ∧ r.2.2.1 = heavyS (ltS k (selK bs books m books.length))) rfl ⟨by show _ = awayS sh (ltS 0 _); rw [ltS_none fun b hb => (hSm b hb).1]; rfl, rfl, by show _ = heavyS (ltS 0 _); rw [ltS_none fun b hb => (hSm b hb).1]; rfl⟩ ?_ ?_
  ·rintro s ⟨away, climb, heavy, s_⟩ hk hx ⟨h1, h2, h3⟩;simp only at hx h1 h2 h3;subst hx;obtain ⟨a, ha⟩ := get_some hk
   have har := hF.aw ha
   have hcb := climbK_bound hF (selK bs books m books.length) s
   have hhb := heavyS_bound hF (ltS s (selK bs books m books.length)) fun b hb => selK_mem ((List.mem_filter.1 hb).1)
   have hll : (ltS s (selK bs books m books.length)).length ≤ (selK bs books m books.length).length := List.length_filter_le _ _;unfold P_r9_Trip_L1
   show Ok (if _ then _ else _) _;rw [if_pos (by omega)];refine Ok.andx (P := fun r => r = (awayS sh (ltS (s + 1 : Nat) (selK bs books m books.length)), climbK sh (selK bs books m books.length) (s + 1), heavyS (ltS (s + 1 : Nat) (selK bs books m books.length)))) ?_ ?_
   ·refine Ok.andx (P := fun r => r = (max away (awayS sh (onS s (selK bs books m books.length))), heavy + heavyS (onS s (selK bs books m books.length)), if ∃ b ∈ selK bs books m books.length, b.shelf = (s : Int) then (1 : Int) else 0)) ?_ ?_
    ·refine Ok.count (fun r : Int × Int × Int × Int => r.2.2.2) books.length (fun k r => r.1 = max away (awayS sh (onS s (selK bs books m k))) ∧ r.2.1 = heavy + heavyS (onS s (selK bs books m k)) ∧ r.2.2.1 = if ∃ b ∈ selK bs books m k, b.shelf = (s : Int) then (1 : Int) else 0) rfl ⟨?_, ?_, ?_⟩ ?_ ?_
     ·have := awayS_nonneg sh (ltS s (selK bs books m books.length))
      show away = max away (awayS sh (onS s []))
      show away = max away 0;omega
     ·show heavy = heavy + 0;omega
     ·show (0 : Int) = _;rw [if_neg (by simp [selK])]
     ·rintro k ⟨aw2, hv2, so, i⟩ hk2 hx ⟨g1, g2, g3⟩;simp only at hx g1 g2 g3;subst hx;obtain ⟨x, hxk⟩ := get_some hk2
      have hxr := hP.el x (List.mem_of_getElem? hxk);obtain ⟨b, hb⟩ := at_some hxr
      have hbr := hF.heavy (List.mem_of_getElem? hb)
      have hst := selK_step (m := m) hxk hb;obtain ⟨u, hu⟩ := get_some (l := t) (k := k) (by omega)
      have hmk : m k = decide (u = n) := by
       rw [← hm];refine decide_eq_decide.2 ⟨fun h => ?_, fun h => ?_⟩
       ·rw [hu] at h; exact Option.some.inj h
       ·rw [hu, h]
      have hcnt : I64 ((k : Int) + 1) := i64_small (by omega)
      have hb2 := heavyS_bound hF (onS s (selK bs books m k)) fun b hb => selK_mem ((List.mem_filter.1 hb).1)
      have hl2 : (onS s (selK bs books m k)).length ≤ (selK bs books m k).length := List.length_filter_le _ _
      have hl3 := selK_len (bs := bs) (books := books) (m := m) k;unfold P_r9_Trip_L2
      show Ok (if _ then _ else _) _;rw [if_pos (by omega), el_at hxk, el_int hxr.1 hb, el_at hu]
      by_cases hsel : u = n ∧ b.shelf = (s : Int)
      ·have hmt : m k = true := by rw [hmk]; exact decide_eq_true hsel.1
       rw [if_pos hmt] at hst
       have hon : onS s (selK bs books m (k + 1)) = onS s (selK bs books m k) ++ [b] := by
        rw [hst, onS_append]
        congr 1
        unfold onS;rw [List.filter_cons, if_pos (decide_eq_true hsel.2)];rfl
       rw [if_pos hsel.1, decide_eq_true hsel.2, andx_some', if_pos rfl, chk_pos (i64_small (by omega)), el_at ha, andx_some'];dsimp only;rw [chk_pos hcnt];refine .some ⟨rfl, ?_, ?_, ?_⟩
       ·show max aw2 a.away = _
        have e : awOf sh b = a.away := by
         unfold awOf;rw [hsel.2, Int.toNat_natCast, ha]
        rw [hon, awayS_append, g1];simp only [awayS, e];exact max3 har.1.1
       ·show hv2 + b.heavy = _;rw [hon, heavyS_append];simp only [heavyS];omega
       ·show (1 : Int) = _;rw [if_pos ⟨b, by rw [hst]; simp, hsel.2⟩]
      ·have hcond : (if u = n then some (decide (b.shelf = (s : Int))) else some false) = some false := by
        by_cases hu1 : u = n
        ·rw [if_pos hu1, decide_eq_false fun h => hsel ⟨hu1, h⟩]
        ·rw [if_neg hu1]
       rw [hcond, andx_some', if_neg (by decide), andx_some'];dsimp only;rw [chk_pos hcnt]
       have hon : onS s (selK bs books m (k + 1)) = onS s (selK bs books m k) := by
        rw [hst, onS_append]
        by_cases hmt : m k = true
        ·rw [if_pos hmt];unfold onS;rw [List.filter_cons, if_neg, List.filter_nil, List.append_nil];rw [decide_eq_false fun h => hsel ⟨by rw [hmk] at hmt; exact of_decide_eq_true hmt, h⟩];decide
        ·rw [if_neg hmt];simp [onS]
       refine .some ⟨rfl, ?_, ?_, ?_⟩
       ·rw [hon]; exact g1
       ·rw [hon]; exact g2
       ·show so = _;rw [g3]
        have hiff : (∃ b ∈ selK bs books m k, b.shelf = (s : Int)) ↔ ∃ b ∈ selK bs books m (k + 1), b.shelf = (s : Int) := ⟨fun ⟨c, hc, hcs⟩ => ⟨c, by rw [hst]; exact List.mem_append_left _ hc, hcs⟩, fun ⟨c, hc, hcs⟩ => ?_⟩
        ·by_cases g : ∃ b ∈ selK bs books m k, b.shelf = (s : Int)
         ·rw [if_pos g, if_pos (hiff.1 g)]
         ·rw [if_neg g, if_neg fun h => g (hiff.2 h)]
        rw [hst] at hc
        rcases List.mem_append.1 hc with hc | hc
        ·exact ⟨c, hc, hcs⟩
        ·split at hc
         ·rename_i hmt
          have := List.mem_singleton.1 hc;subst this;exact absurd ⟨by rw [hmk] at hmt; exact of_decide_eq_true hmt, hcs⟩ hsel
         ·cases hc
     ·rintro ⟨aw2, hv2, so, i⟩ hx ⟨g1, g2, g3⟩;simp only at hx g1 g2 g3;subst hx; subst g1; subst g2; subst g3;unfold P_r9_Trip_L2
      show Ok (if _ then _ else _) _;rw [if_neg (by omega)];exact .some rfl
    ·rintro r rfl;dsimp only
     have e : clOf sh s = a.climb := by unfold clOf; rw [ha]
     have hb1 : (0 : Int) ≤ (if ∃ b ∈ selK bs books m books.length, b.shelf = (s : Int) then (1 : Int) else 0) * a.climb ∧ (if ∃ b ∈ selK bs books m books.length, b.shelf = (s : Int) then (1 : Int) else 0) * a.climb ≤ 1000 := by
      split <;> omega
     rw [el_at ha, chk_pos (i64_small (by omega)), chk_pos (i64_small (by omega))];refine .some ?_;rw [climbK_succ, e, h1, h2, h3, show (((s + 1 : Nat) : Int)) = (s : Int) + 1 by omega, ltS_heavy, ltS_away]
     congr 2
     by_cases g : ∃ b ∈ selK bs books m books.length, b.shelf = (s : Int)
     ·rw [if_pos g, if_pos g]; omega
     ·rw [if_neg g, if_neg g]; omega
   ·rintro r rfl;dsimp only;rw [chk_pos (i64_small (by omega))];exact .some ⟨rfl, rfl, rfl, rfl⟩
  ·rintro ⟨away, climb, heavy, s_⟩ hx ⟨h1, h2, h3⟩;simp only at hx h1 h2 h3;subst hx;unfold P_r9_Trip_L1
   show Ok (if _ then _ else _) _;rw [if_neg (by omega)];rw [ltS_all fun b hb => (hSm b hb).2] at h1 h3;subst h1; subst h2; subst h3;exact .some rfl
 ·rintro r rfl;dsimp only
  have h1 := awayS_bound hF (selK bs books m books.length)
  have h2 := climbK_bound hF (selK bs books m books.length) sh.length
  have h3 := awayS_nonneg sh (selK bs books m books.length);rw [chk_pos (i64_small (by omega)), chk_pos (i64_small (by omega)), chk_pos (i64_small (by omega))];refine .some ?_
  show (_, _) = (2 * (_ + _), _);rw [Int.mul_add]
end
end Go.Am
end
section
namespace Go.Am
set_option linter.unusedVariables false
set_option linter.unusedSimpArgs false
section
variable {cl : List Str} {sh : List qH} {bs : List qA} {books : List Int} {carry : Int}
def tripS (bs : List qA) (books t : List Int) (n : Nat) : List qA := selK bs books (fun i => decide (t[i]? = some (n : Int))) books.length
noncomputable def sumW (sh : List qH) (bs : List qA) (books t : List Int) : Nat → Int
 | 0 => 0
 | k + 1 => sumW sh bs books t k + wayS sh (tripS bs books t k)
theorem sumW_succ (t : List Int) (k : Nat) : sumW sh bs books t (k + 1) = sumW sh bs books t k + wayS sh (tripS bs books t k) := rfl
def lightW (bs : List qA) (books t : List Int) (carry : Int) (k : Nat) : Prop := ∀ n, n < k → heavyS (tripS bs books t n) ≤ carry
theorem sumW_bound (hF : Fine cl sh bs) (t : List Int) : ∀ k : Nat, 0 ≤ sumW sh bs books t k ∧ sumW sh bs books t k ≤ 10000 * k
 | 0 => by simp [sumW]
 | k + 1 => by
  have h1 := sumW_bound hF t k
  have h2 := wayS_bound hF (tripS bs books t k);rw [sumW_succ];omega
open Classical in
theorem r9_Way_eq (hF : Fine cl sh bs) (hP : Places bs books) {t : List Int} (ht : t.length = books.length) : P_r9_Way cl sh bs books t carry = some (if lightW bs books t carry books.length then (sumW sh bs books t books.length, true) else (0, false)) := by
 have h6 := hP.len;refine Ok.get ?_;unfold P_r9_Way;refine Ok.seqx ?_;refine Ok.count (fun s : Int × Int => s.2) books.length (fun k r => r.1 = sumW sh bs books t k ∧ lightW bs books t carry k) rfl ⟨rfl, fun n h => by omega⟩ ?_ ?_
 ·rintro k ⟨sum, i⟩ hk hx ⟨h1, h2⟩;simp only at hx h1;subst hx; subst h1
  have hb := sumW_bound (books := books) hF t k
  have hw := wayS_bound hF (tripS bs books t k);unfold P_r9_Way_L1
  show Ok (if _ then _ else _) _
  have hT : P_r9_Trip cl sh bs books t (k : Int) = some (wayS sh (tripS bs books t k), heavyS (tripS bs books t k)) := r9_Trip_eq hF hP ht;rw [if_pos (by omega), hT, andx_some'];dsimp only
  by_cases g : heavyS (tripS bs books t k) > carry
  ·rw [if_pos g];refine .some ?_
   show (0, false) = _;rw [if_neg fun h => by have := h k hk; omega]
  ·rw [if_neg g]
   show Ok (chk (I64 (sumW sh bs books t k + wayS sh (tripS bs books t k))) _) _;rw [chk_pos (i64_small (by omega)), chk_pos (i64_small (by omega))];refine .some ⟨rfl, rfl, fun n hn => ?_⟩
   by_cases e : n = k
   ·subst e; omega
   ·exact h2 n (by omega)
 ·rintro ⟨sum, i⟩ hx ⟨h1, h2⟩;simp only at hx h1;subst hx; subst h1;unfold P_r9_Way_L1
  show Ok (if _ then _ else _) _;rw [if_neg (by omega)];refine .some ?_
  show Ok (some _) _;exact .some (by rw [if_pos h2])
theorem climbK_nil (sh : List qH) : ∀ k : Nat, climbK sh [] k = 0
 | 0 => rfl
 | k + 1 => by rw [climbK_succ, climbK_nil sh k, if_neg (by simp)]; rfl
theorem wayS_nil (sh : List qH) : wayS sh [] = 0 := by unfold wayS; rw [climbK_nil]; rfl
theorem tripS_none {t : List Int} {n : Nat} (h : ∀ x ∈ t, x < (n : Int)) : tripS bs books t n = [] := by
 unfold tripS selK;refine List.flatMap_eq_nil_iff.2 fun i _ => ?_
 refine if_neg fun hi => ?_
 have := h _ (List.mem_of_getElem? (of_decide_eq_true hi));omega
theorem sumW_rest {t : List Int} {a : Nat} (h : ∀ x ∈ t, x < (a : Int)) : ∀ k : Nat, sumW sh bs books t (a + k) = sumW sh bs books t a
 | 0 => rfl
 | k + 1 => by
  rw [show a + (k + 1) = (a + k) + 1 by omega, sumW_succ, sumW_rest h k, tripS_none (fun x hx => by have := h x hx; omega), wayS_nil];omega
theorem lightW_rest {t : List Int} {a k : Nat} (hc : 0 ≤ carry) (h : ∀ x ∈ t, x < (a : Int)) : lightW bs books t carry (a + k) ↔ lightW bs books t carry a := by
 refine ⟨fun g n hn => g n (by omega), fun g n hn => ?_⟩
 by_cases e : n < a
 ·exact g n e
 ·rw [tripS_none fun x hx => by have := h x hx; omega];exact hc
open Classical in
theorem walk_sum (hF : Fine cl sh bs) (hP : Places bs books) (hc : 0 ≤ carry) {p : List Int × List Int} (hp : PartAt books.length p.1 p.2) : iter (P_s9_Walk_L5 cl sh bs books carry p) (0, true, 0) = some (sumW sh bs books p.1 books.length, decide (lightW bs books p.1 carry books.length)) := by
 have h6 := hP.len
 have hsl := hp.sl;obtain ⟨d, hd⟩ : ∃ d, books.length = p.2.length + d := ⟨books.length - p.2.length, by omega⟩;rw [hd, sumW_rest (fun x hx => (hp.tr x hx).2) d, decide_eq_decide.2 (lightW_rest hc fun x hx => (hp.tr x hx).2)];refine Ok.get ?_;refine Ok.count (fun s : Int × Bool × Int => s.2.2) p.2.length (fun k r => r.1 = sumW sh bs books p.1 k ∧ r.2.1 = decide (lightW bs books p.1 carry k)) rfl ⟨rfl, (decide_eq_true (show lightW bs books p.1 carry 0 from fun n h => by omega)).symm⟩ ?_ ?_
 ·rintro k ⟨sum, light, i⟩ hk hx ⟨h1, h2⟩;simp only at hx h1 h2;subst hx; subst h1;obtain ⟨x, hxk⟩ := get_some hk;obtain ⟨hr, hbit⟩ := hp.el k x hxk
  have h64 : (2 : Int) ^ books.length ≤ 64 := by
   have : (2 : Nat) ^ books.length ≤ 2 ^ 6 := Nat.pow_le_pow_right (by decide) h6
   have h2 : ((2 ^ books.length : Nat) : Int) = (2 : Int) ^ books.length := by exact_mod_cast rfl
   have e : (2 : Nat) ^ 6 = 64 := by decide
   omega
  have hb := sumW_bound (books := books) hF p.1 k
  have hw := wayS_bound hF (tripS bs books p.1 k)
  have htrip := s9_trip_eq hF hP (N := x.toNat) (by omega);rw [show (fun i : Nat => x.toNat.testBit i) = fun i => decide (p.1[i]? = some (k : Int)) from funext hbit, show ((x.toNat : Nat) : Int) = x by omega] at htrip;replace htrip : P_s9_trip cl sh bs books x = some (wayS sh (tripS bs books p.1 k), heavyS (tripS bs books p.1 k)) := htrip;unfold P_s9_Walk_L5
  show Ok (if _ then _ else _) _;rw [if_pos (by omega), el_at hxk, htrip, andx_some'];dsimp only
  show Ok (andx (chk (I64 (sumW sh bs books p.1 k + wayS sh (tripS bs books p.1 k))) _) _) _;rw [chk_pos (i64_small (by omega))]
  have hcnt : I64 ((k : Int) + 1) := i64_small (by omega)
  by_cases g : lightW bs books p.1 carry k
  ·rw [h2, if_pos (decide_eq_true g), andx_some'];dsimp only;rw [chk_pos hcnt];refine .some ⟨rfl, rfl, ?_⟩
   show decide (heavyS (tripS bs books p.1 k) ≤ carry) = _;refine decide_eq_decide.2 ⟨fun h n hn => ?_, fun h => h k (Nat.lt_succ_self k)⟩
   by_cases e : n = k
   ·subst e; exact h
   ·exact g n (by omega)
  ·rw [h2, if_neg (by rw [decide_eq_false g]; decide), andx_some'];dsimp only;rw [chk_pos hcnt];refine .some ⟨rfl, rfl, ?_⟩
   show false = _;rw [decide_eq_false fun h => g fun n hn => h n (by omega)]
 ·rintro ⟨sum, light, i⟩ hx ⟨h1, h2⟩;simp only at hx h1 h2;subst hx; subst h1; subst h2;unfold P_s9_Walk_L5
  show Ok (if _ then _ else _) _;rw [if_neg (by omega)];exact .some rfl
end
end Go.Am
end
section
namespace Go.Am
set_option linter.unusedVariables false
set_option linter.unusedSimpArgs false
section
variable {cl : List Str} {sh : List qH} {bs : List qA} {books : List Int} {carry : Int}
open Classical in
noncomputable def stepF (sh : List qH) (bs : List qA) (books : List Int) (carry : Int) (st : Option (List Int × Int)) (p : List Int × List Int) : Option (List Int × Int) :=
  if lightW bs books p.1 carry books.length then
    (match st with
      | none => some (p.1, sumW sh bs books p.1 books.length)
      | some (t, n) => if sumW sh bs books p.1 books.length < n then some (p.1, sumW sh bs books p.1 books.length) else some (t, n))
  else st
def encF : Option (List Int × Int) → List Int × Bool × Bool × Int
 | none => ([], true, false, 0)
 | some (t, n) => (t, false, true, n)
noncomputable def bestF (sh : List qH) (bs : List qA) (books : List Int) (carry : Int) : Option (List Int × Int) := (walksOf books.length).foldl (stepF sh bs books carry) none
open Classical in
theorem walk_round (hF : Fine cl sh bs) (hP : Places bs books) (hc : 0 ≤ carry) {p : List Int × List Int} (hp : PartAt books.length p.1 p.2) (st : Option (List Int × Int)) :
  P_s9_Walk_L4 cl sh bs books carry (encF st) p = some (.ag (encF (stepF sh bs books carry st p))) := by
 have h6 := hP.len
 have htl := hp.tl
 have hsum := walk_sum hF hP hc hp
 have key : ∀ (trips : List Int) (z found : Bool) (way : Int), P_s9_Walk_L4 cl sh bs books carry (trips, z, found, way) p =
   andx (if decide (lightW bs books p.1 carry books.length) = true then (if found = true then some (decide (sumW sh bs books p.1 books.length < way), true) else some (true, false)) else some (false, found)) fun r => if r.1 = true then chk (p.1.length < 1000) (some (Stp.ag (p.1, false, true, sumW sh bs books p.1 books.length))) else some (Stp.ag (trips, z, r.2, way)) := fun trips z found way => by
  unfold P_s9_Walk_L4;rw [hsum];rfl
 by_cases g : lightW bs books p.1 carry books.length
 ·cases st with
  | none =>
   show P_s9_Walk_L4 cl sh bs books carry ([], true, false, 0) p = _;rw [key, if_pos (decide_eq_true g), if_neg (by decide), andx_some', if_pos rfl, chk_pos (by omega)];unfold stepF;rw [if_pos g];rfl
  | some q =>
   obtain ⟨t, n⟩ := q
   show P_s9_Walk_L4 cl sh bs books carry (t, false, true, n) p = _;rw [key, if_pos (decide_eq_true g), if_pos rfl, andx_some'];unfold stepF;rw [if_pos g];dsimp only
   by_cases hlt : sumW sh bs books p.1 books.length < n
   ·rw [if_pos (decide_eq_true hlt), chk_pos (by omega), if_pos hlt];rfl
   ·rw [if_neg (by rw [decide_eq_false hlt]; decide), if_neg hlt];rfl
 ·have hst : stepF sh bs books carry st p = st := if_neg g;rw [hst];cases st with
  | none =>
   show P_s9_Walk_L4 cl sh bs books carry ([], true, false, 0) p = _;rw [key, if_neg (by rw [decide_eq_false g]; decide), andx_some', if_neg (by decide)];rfl
  | some q =>
   obtain ⟨t, n⟩ := q
   show P_s9_Walk_L4 cl sh bs books carry (t, false, true, n) p = _;rw [key, if_neg (by rw [decide_eq_false g]; decide), andx_some', if_neg (by decide)];rfl
theorem walk_fold (hF : Fine cl sh bs) (hP : Places bs books) (hc : 0 ≤ carry) : ∀ (l : List (List Int × List Int)) (st : Option (List Int × Int)), (∀ p ∈ l, PartAt books.length p.1 p.2) →
  foldx (P_s9_Walk_L4 cl sh bs books carry) l (encF st) = some (.nx (encF (l.foldl (stepF sh bs books carry) st)))
 | [], st, _ => rfl
 | p :: l, st, h => by
  unfold foldx;rw [walk_round hF hP hc (h p (by simp)) st];exact walk_fold hF hP hc l _ fun q hq => h q (by simp [hq])
end
end Go.Am
end
section
namespace Go.Am
set_option linter.unusedVariables false
set_option linter.unusedSimpArgs false
section
variable {cl : List Str} {sh : List qH} {bs : List qA} {books : List Int} {carry : Int}
def onceAt (books : List Int) (i : Nat) : Prop := ∀ x, books[i]? = some x → ¬ x ∈ books.take i
def lightAt (bs : List qA) (books : List Int) (carry : Int) (i : Nat) : Prop := ∀ x b, books[i]? = some x → bs[x.toNat]? = some b → b.heavy ≤ carry
open Classical in
noncomputable def listE (cl : List Str) (sh : List qH) (bs : List qA) (books : List Int) (carry : Int) : Int :=
  if roomN cl sh bs = 0 then
    (if books.length > 6 then 3 else if ∀ j, j < books.length → btwAt 0 ((bs.length : Int) - 1) books j then
      (if ∀ j, j < books.length → onceAt books j then (if 1 ≤ carry ∧ carry ≤ 100 then (if ∀ j, j < books.length → lightAt bs books carry j then 0 else 9) else 7) else 5) else 4)
  else roomN cl sh bs
end
end Go.Am
end
section
namespace Go.Am
set_option linter.unusedVariables false
set_option linter.unusedSimpArgs false
section
variable {cl : List Str} {sh : List qH} {bs : List qA} {books : List Int} {carry : Int}
open Classical in
theorem dup_eq {k : Nat} {x : Int} (hl : books.length ≤ 1000) (hk : k ≤ books.length) : (andx (seqx (iter (P_s9_Walk_L2 books (k : Int) x) 0) fun _ => some (-1)) fun y7 => if y7 ≥ 0 then some (5 : Int) else some 0) = some (if x ∈ books.take k then 5 else 0) := by
 have hle : (books.take k).length ≤ 1000 := by rw [List.length_take]; omega
 rw [iter_scanI (fun j : Nat => if (books.take k)[j]? = some x then some (j : Int) else none) (books.take k).length, seqx_scan]
 ·cases hf : (List.range (books.take k).length).findSome? (fun j : Nat => if (books.take k)[j]? = some x then some (j : Int) else none) with
  | none =>
   have := of_find_none hf
   have hno : ¬ x ∈ books.take k := fun hm => by
    obtain ⟨j, hj⟩ := List.getElem?_of_mem hm
    have h2 := this j (List.getElem?_eq_some_iff.1 hj).1;rw [if_pos hj] at h2;cases h2
   rw [if_neg hno];rfl
  | some b =>
   obtain ⟨j, _, hj⟩ := List.exists_of_findSome?_eq_some hf
   by_cases e : (books.take k)[j]? = some x
   ·rw [if_pos e] at hj;cases hj;rw [if_pos (List.mem_of_getElem? e)]
    show (if (j : Int) ≥ 0 then some (5 : Int) else some 0) = _;rw [if_pos (by omega)]
   ·rw [if_neg e] at hj; cases hj
 ·intro j hj _;obtain ⟨a, ha⟩ := get_some hj;unfold P_s9_Walk_L2;rw [take_sub, if_pos (by omega), el_at ha, chk_pos (i64_small (by omega)), ha]
  by_cases e : x = a
  ·rw [if_pos e, if_pos (by rw [e])]; rfl
  ·rw [if_neg e, if_neg (fun h => e (Option.some.inj h).symm)]; rfl
 ·intro _;unfold P_s9_Walk_L2;rw [take_sub, if_neg (by omega)]
open Classical in
theorem walk_once (hl : books.length ≤ 1000) : iter (P_s9_Walk_L1 books) 0 = some (scanX (fun i => if onceAt books i then none else some ((i : Int), (5 : Int))) books.length) := by
 refine iter_scanI (fun i => if onceAt books i then none else some ((i : Int), (5 : Int))) books.length (fun k hk _ => ?_) (fun _ => ?_)
 ·obtain ⟨x, hx⟩ := get_some hk;unfold P_s9_Walk_L1;rw [if_pos (by omega), el_at hx, chk_pos (by omega), dup_eq hl (by omega), andx_some']
  have hb : onceAt books k ↔ ¬ x ∈ books.take k := ⟨fun g => g x hx, fun g y hy => by rw [hx] at hy; cases hy; exact g⟩
  by_cases g : x ∈ books.take k
  ·rw [if_pos g, if_pos (by decide), if_neg fun h => hb.1 h g]; rfl
  ·rw [if_neg g, if_neg (by decide), if_pos (hb.2 g), chk_pos (i64_small (by omega))]; rfl
 ·unfold P_s9_Walk_L1;rw [if_neg (by omega)]
open Classical in
theorem walk_light (hl : books.length ≤ 1000) (hr : ∀ x ∈ books, 0 ≤ x ∧ x < bs.length) : iter (P_s9_Walk_L3 bs books carry) 0 = some (scanX (fun i => if lightAt bs books carry i then none else some (([] : List Int), true, (0 : Int), (9 : Int))) books.length) := by
 refine iter_scanI (fun i => if lightAt bs books carry i then none else some (([] : List Int), true, (0 : Int), (9 : Int))) books.length (fun k hk _ => ?_) (fun _ => ?_)
 ·obtain ⟨x, hx⟩ := get_some hk
  have hxr := hr x (List.mem_of_getElem? hx);obtain ⟨b, hb⟩ := at_some hxr;unfold P_s9_Walk_L3;rw [if_pos (by omega), el_at hx, el_int hxr.1 hb]
  have hbb : lightAt bs books carry k ↔ b.heavy ≤ carry := ⟨fun g => g x b hx hb, fun g y c hy hc => by rw [hx] at hy; cases hy; rw [hb] at hc; cases hc; exact g⟩
  by_cases g : b.heavy > carry
  ·rw [if_pos g, if_neg fun h => by have := hbb.1 h; omega]; rfl
  ·rw [if_neg g, if_pos (hbb.2 (by omega)), chk_pos (i64_small (by omega))]; rfl
 ·unfold P_s9_Walk_L3;rw [if_neg (by omega)]
theorem places_of (h6 : ¬ books.length > 6) (h : ∀ j, j < books.length → btwAt 0 ((bs.length : Int) - 1) books j) : Places bs books := ⟨by omega, fun x hx => by
  obtain ⟨j, hj⟩ := List.getElem?_of_mem hx
  have := h j (List.getElem?_eq_some_iff.1 hj).1 x hj
  unfold btw at this
  omega⟩
open Classical in
theorem s9_Walk_eq : P_s9_Walk cl sh bs books carry = some (if listE cl sh bs books carry = 0 then ((encF (bestF sh bs books carry)).1, (encF (bestF sh bs books carry)).2.1, (encF (bestF sh bs books carry)).2.2.2, 0) else ([], true, 0, listE cl sh bs books carry)) := by
  unfold P_s9_Walk
  rw [s9_open_eq, andx_some']
  by_cases h0 : roomN cl sh bs = 0
  · rw [if_neg (not_not_intro h0)]
    have hF := roomN_zero.1 h0
    have h10 := hF.bs1
    by_cases h6 : books.length > 6
    · have hE : listE cl sh bs books carry = 3 := by unfold listE; rw [if_pos h0, if_pos h6]
      rw [if_pos (by omega), hE, if_neg (by decide)]
    · rw [if_neg (by omega), chk_pos (i64_small (by omega)), s9_out_eq _ _ _ (by omega), andx_some']
      by_cases g1 : ∀ j, j < books.length → btwAt 0 ((bs.length : Int) - 1) books j
      · have hP := places_of h6 g1
        rw [decide_eq_false (not_not_intro g1), if_neg (by decide), walk_once (by omega), seqx_scan]
        by_cases g2 : ∀ j, j < books.length → onceAt books j
        · have hfn : (List.range books.length).findSome? (fun i => if onceAt books i then none else some ((i : Int), (5 : Int))) = none := find_none fun j hj => if_pos (g2 j hj)
          rw [hfn]
          dsimp only
          rw [andx_some']
          dsimp only
          have hout : P_s9_out 1 100 [carry] = some (decide (¬ (1 ≤ carry ∧ carry ≤ 100))) := by
            rw [s9_out_eq _ _ _ (by simp)]
            refine congrArg some (decide_eq_decide.2 (not_congr ⟨fun h => h 0 (by simp) carry rfl, fun h j hj x hx => ?_⟩))
            have : j = 0 := by simpa using hj
            subst this
            have : carry = x := by simpa using hx
            subst this
            exact h
          rw [if_neg (not_not_intro rfl), hout, andx_some']
          by_cases g3 : 1 ≤ carry ∧ carry ≤ 100
          · rw [decide_eq_false (not_not_intro g3), if_neg (by decide), walk_light (by omega) hP.el, seqx_scan, find_if]
            by_cases g4 : ∀ j, j < books.length → lightAt bs books carry j
            · have hE : listE cl sh bs books carry = 0 := by unfold listE; rw [if_pos h0, if_neg h6, if_pos g1, if_pos g2, if_pos g3, if_pos g4]
              rw [if_pos g4, chk_pos (by omega), hE, if_pos rfl]
              have hw := walk_fold (carry := carry) hF hP (by omega) (walksOf books.length) none fun p hp => walks_part hp
              have hw' : foldx (P_s9_Walk_L4 cl sh bs books carry) (walksOf books.length) ([], true, false, 0) = some (.nx (encF (bestF sh bs books carry))) := hw
              dsimp only
              rw [hw', seqx_nx]
              rfl
            · have hE : listE cl sh bs books carry = 9 := by unfold listE; rw [if_pos h0, if_neg h6, if_pos g1, if_pos g2, if_pos g3, if_neg g4]
              rw [if_neg g4, hE, if_neg (by decide)]
          · have hE : listE cl sh bs books carry = 7 := by unfold listE; rw [if_pos h0, if_neg h6, if_pos g1, if_pos g2, if_neg g3]
            rw [decide_eq_true g3, if_pos rfl, hE, if_neg (by decide)]
        · have hE : listE cl sh bs books carry = 5 := by unfold listE; rw [if_pos h0, if_neg h6, if_pos g1, if_neg g2]
          rw [hE, if_neg (by decide)]
          cases hf : (List.range books.length).findSome? (fun i => if onceAt books i then none else some ((i : Int), (5 : Int))) with
          | none => exact absurd (fun j hj => Classical.byContradiction fun h => by
              have := of_find_none hf j hj
              rw [if_neg h] at this
              cases this) g2
          | some q =>
            obtain ⟨j, _, hj⟩ := List.exists_of_findSome?_eq_some hf
            by_cases e : onceAt books j
            · rw [if_pos e] at hj; cases hj
            · rw [if_neg e] at hj
              cases hj
              dsimp only
              rw [andx_some']
              dsimp only
              rw [if_pos (by decide)]
      · have hE : listE cl sh bs books carry = 4 := by unfold listE; rw [if_pos h0, if_neg h6, if_neg g1]
        rw [decide_eq_true g1, if_pos rfl, hE, if_neg (by decide)]
  · have hE : listE cl sh bs books carry = roomN cl sh bs := by unfold listE; rw [if_neg h0]
    rw [if_pos h0, hE, if_neg h0]
end
end Go.Am
end
section
namespace Go.Am
set_option linter.unusedVariables false
set_option linter.unusedSimpArgs false
def Num (t : List Int) : Prop := ∀ (k : Nat) (x : Int), t[k]? = some x → 0 ≤ x ∧ x ≤ nextI (t.take k)
theorem Num.nil : Num [] := fun k x h => by simp at h
theorem Num.snoc {t : List Int} {n : Int} : Num (t ++ [n]) ↔ Num t ∧ 0 ≤ n ∧ n ≤ nextI t := by
 constructor
 ·intro h;refine ⟨fun k x hx => ?_, ?_⟩
  ·have hk := (List.getElem?_eq_some_iff.1 hx).1
   have := h k x (by rw [List.getElem?_append_left hk]; exact hx)
   rwa [List.take_append_of_le_length (by omega)] at this
  ·have := h t.length n (by simp)
   rwa [List.take_left'] at this
   rfl
 ·rintro ⟨h, h0, h1⟩ k x hx
  by_cases hk : k < t.length
  ·rw [List.getElem?_append_left hk] at hx
   have := h k x hx
   rwa [List.take_append_of_le_length (by omega)]
  ·have hk2 : k = t.length := by
    have := (List.getElem?_eq_some_iff.1 hx).1;simp at this;omega
   subst hk2;simp at hx;subst hx;rw [List.take_left' rfl];exact ⟨h0, h1⟩
theorem Num.take {t : List Int} (h : Num t) (j : Nat) : Num (t.take j) := fun k x hx => by
 have hk := (List.getElem?_eq_some_iff.1 hx).1;rw [List.length_take] at hk;rw [List.getElem?_take_of_lt (by omega)] at hx
 have := h k x hx
 rwa [List.take_take, Nat.min_eq_left (by omega)]
theorem wkSet_next {s t : List Int} {n i : Nat} (hn : n ≤ s.length) (hs : (s.length : Int) = nextI t) : ((wkSet s n i).length : Int) = nextI (t ++ [(n : Int)]) := by
 rw [nextI_snoc, ← hs];unfold wkSet extS;rw [List.length_set];split
 ·rw [List.length_append, List.length_singleton]; omega
 ·omega
theorem wk_num : ∀ (m i : Nat) (t s : List Int), (s.length : Int) = nextI t → Num t → ∀ p ∈ wk m i t s, Num p.1
 | 0, i, t, s, hs, h, p, hp => by
  have := List.mem_singleton.1 hp;subst this;exact h
 | m + 1, i, t, s, hs, h, p, hp => by
  obtain ⟨n, hn, hp⟩ := List.mem_flatMap.1 (show p ∈ (List.range (s.length + 1)).flatMap _ from hp)
  have hn := List.mem_range.1 hn;exact wk_num m (i + 1) _ _ (wkSet_next (by omega) hs) (Num.snoc.2 ⟨h, by omega, by omega⟩) p hp
theorem wk_has : ∀ (m i : Nat) (r t s : List Int), (s.length : Int) = nextI t → r.length = m → Num (t ++ r) → ∃ s', (t ++ r, s') ∈ wk m i t s
 | 0, i, r, t, s, hs, hr, h => by
  have : r = [] := List.eq_nil_of_length_eq_zero hr;subst this;exact ⟨s, by rw [List.append_nil]; exact List.mem_singleton.2 rfl⟩
 | m + 1, i, [], t, s, hs, hr, h => by simp at hr
 | m + 1, i, n :: r, t, s, hs, hr, h => by
  have e : t ++ n :: r = (t ++ [n]) ++ r := by simp
  have hn := h t.length n (by simp);rw [List.take_left' rfl, ← hs] at hn
  have hnn : ((n.toNat : Nat) : Int) = n := by omega
  have hset := wkSet_next (i := i) (s := s) (t := t) (n := n.toNat) (by omega) hs;rw [hnn] at hset;obtain ⟨s', hs'⟩ := wk_has m (i + 1) r (t ++ [n]) (wkSet s n.toNat i) hset (by simpa using hr) (by rw [← e]; exact h);refine ⟨s', ?_⟩;rw [e];refine List.mem_flatMap.2 ⟨n.toNat, List.mem_range.2 (by omega), ?_⟩;rw [hnn];exact hs'
theorem walks_num {many : Nat} {p : List Int × List Int} (h : p ∈ walksOf many) : Num p.1 := wk_num many 0 [] [] rfl Num.nil p h
theorem walks_has {many : Nat} {t : List Int} (hl : t.length = many) (h : Num t) : ∃ s, (t, s) ∈ walksOf many := wk_has many 0 t [] [] rfl hl h
theorem wk_prefix : ∀ (m i : Nat) (t s : List Int), ∀ p ∈ wk m i t s, ∃ r, p.1 = t ++ r
 | 0, i, t, s, p, hp => by
  have := List.mem_singleton.1 hp;subst this;exact ⟨[], by simp⟩
 | m + 1, i, t, s, p, hp => by
  obtain ⟨n, hn, hp⟩ := List.mem_flatMap.1 (show p ∈ (List.range (s.length + 1)).flatMap _ from hp);obtain ⟨r, hr⟩ := wk_prefix m (i + 1) _ _ p hp;exact ⟨(n : Int) :: r, by rw [hr]; simp⟩
theorem wk_order : ∀ (m i : Nat) (t s : List Int), (wk m i t s).Pairwise fun x y => lexB x.1 y.1 = true
 | 0, i, t, s => List.pairwise_singleton _ _
 | m + 1, i, t, s => by
  show ((List.range (s.length + 1)).flatMap _).Pairwise _;rw [List.pairwise_flatMap];refine ⟨fun n _ => wk_order m _ _ _, List.pairwise_lt_range.imp fun {a b} hab x hx y hy => ?_⟩;obtain ⟨r, hr⟩ := wk_prefix _ _ _ _ x hx;obtain ⟨q, hq⟩ := wk_prefix _ _ _ _ y hy;rw [hr, hq, List.append_assoc, List.append_assoc, lexB_append]
  show lexB ((a : Int) :: r) ((b : Int) :: q) = true;rw [lexB, if_neg (by omega), decide_eq_true (by omega)]
end Go.Am
end
section
namespace Go.Am
set_option linter.unusedVariables false
set_option linter.unusedSimpArgs false
section
variable {cl : List Str} {sh : List qH} {bs : List qA} {books : List Int} {carry : Int}
structure BestW (sh : List qH) (bs : List qA) (books : List Int) (carry : Int) (W : List (List Int × List Int)) (t : List Int) (n : Int) : Prop where
 mem : ∃ p ∈ W, p.1 = t
 light : lightW bs books t carry books.length
 sum : n = sumW sh bs books t books.length
 least : ∀ q ∈ W, lightW bs books q.1 carry books.length → n ≤ sumW sh bs books q.1 books.length ∧ (sumW sh bs books q.1 books.length = n → lexB q.1 t = false)
open Classical in
theorem fold_best (W : List (List Int × List Int)) (ho : W.Pairwise fun x y => lexB x.1 y.1 = true) : ∀ k, k ≤ W.length →
  (∀ q ∈ W.take k, ¬ lightW bs books q.1 carry books.length) ∧ (W.take k).foldl (stepF sh bs books carry) none = none ∨ ∃ t n, (W.take k).foldl (stepF sh bs books carry) none = some (t, n) ∧ BestW sh bs books carry (W.take k) t n
 | 0, _ => .inl ⟨fun q h => by simp at h, rfl⟩
 | k + 1, hk => by
  obtain ⟨p, hp⟩ := get_some (l := W) (k := k) (by omega)
  have ht := take_step hp
  have hpre : ∀ q ∈ W.take k, lexB q.1 p.1 = true := fun q hq => by
   rw [show W = W.take k ++ W.drop k from (List.take_append_drop k W).symm] at ho
   have hd : p ∈ W.drop k := by
    rw [List.drop_eq_getElem_cons (show k < W.length by omega)]
    have := (List.getElem?_eq_some_iff.1 hp).2;rw [this];exact List.mem_cons_self
   exact (List.pairwise_append.1 ho).2.2 q hq p hd
  have hst : (W.take (k + 1)).foldl (stepF sh bs books carry) none = stepF sh bs books carry ((W.take k).foldl (stepF sh bs books carry) none) p := by
   rw [ht, List.foldl_append];rfl
  rw [hst, ht]
  by_cases g : lightW bs books p.1 carry books.length
  ·rcases fold_best W ho k (by omega) with ⟨h1, h2⟩ | ⟨t, n, h1, h2⟩
   ·refine .inr ⟨p.1, sumW sh bs books p.1 books.length, by rw [h2]; exact if_pos g, ⟨p, by simp, rfl⟩, g, rfl, fun q hq hl => ?_⟩
    rcases List.mem_append.1 hq with hq | hq
    ·exact absurd hl (h1 q hq)
    ·have := List.mem_singleton.1 hq;subst this;exact ⟨Int.le_refl _, fun _ => lexB_irr _⟩
   ·rw [h1]
    by_cases hlt : sumW sh bs books p.1 books.length < n
    ·refine .inr ⟨p.1, sumW sh bs books p.1 books.length, (if_pos g).trans (if_pos hlt), ⟨p, by simp, rfl⟩, g, rfl, fun q hq hl => ?_⟩
     rcases List.mem_append.1 hq with hq | hq
     ·have := (h2.least q hq hl).1;exact ⟨by omega, fun e => by omega⟩
     ·have := List.mem_singleton.1 hq;subst this;exact ⟨Int.le_refl _, fun _ => lexB_irr _⟩
    ·obtain ⟨p0, hp0, hp1⟩ := h2.mem;refine .inr ⟨t, n, (if_pos g).trans (if_neg hlt), ⟨p0, List.mem_append_left _ hp0, hp1⟩, h2.light, h2.sum, fun q hq hl => ?_⟩
     rcases List.mem_append.1 hq with hq | hq
     ·exact h2.least q hq hl
     ·have := List.mem_singleton.1 hq;subst this;refine ⟨by omega, fun _ => ?_⟩
      have := hpre p0 hp0;rw [hp1] at this;exact lexB_asym _ _ this
  ·have hs : ∀ st, stepF sh bs books carry st p = st := fun st => if_neg g
   rw [hs]
   rcases fold_best W ho k (by omega) with ⟨h1, h2⟩ | ⟨t, n, h1, h2⟩
   ·refine .inl ⟨fun q hq => ?_, h2⟩
    rcases List.mem_append.1 hq with hq | hq
    ·exact h1 q hq
    ·have := List.mem_singleton.1 hq;subst this;exact g
   ·obtain ⟨p0, hp0, hp1⟩ := h2.mem;refine .inr ⟨t, n, h1, ⟨p0, List.mem_append_left _ hp0, hp1⟩, h2.light, h2.sum, fun q hq hl => ?_⟩
    rcases List.mem_append.1 hq with hq | hq
    ·exact h2.least q hq hl
    ·have := List.mem_singleton.1 hq;subst this;exact absurd hl g
theorem upto_next (n : Nat) : nextI (upto 0 n) = n := by
 induction n with
 | zero => rfl
 | succ n ih =>
  have : ((n + 1 : Nat) : Int) = (n : Int) + 1 := by omega
  rw [this, upto_succ (by omega), nextI_snoc, ih];omega
theorem upto_num (n : Nat) : Num (upto 0 n) := by
 induction n with
 | zero => exact Num.nil
 | succ n ih =>
  have : ((n + 1 : Nat) : Int) = (n : Int) + 1 := by omega
  rw [this, upto_succ (by omega)];exact Num.snoc.2 ⟨ih, by omega, by rw [upto_next]; exact Int.le_refl _⟩
theorem single_heavy (hP : Places bs books) (hl : ∀ j, j < books.length → lightAt bs books carry j) (hc : 0 ≤ carry) (n : Nat) : ∀ k, k ≤ books.length → heavyS (selK bs books (fun i => decide ((upto 0 books.length)[i]? = some (n : Int))) k) ≤ carry ∧ (k ≤ n → heavyS (selK bs books (fun i => decide ((upto 0 books.length)[i]? = some (n : Int))) k) = 0)
 | 0, _ => ⟨hc, fun _ => rfl⟩
 | k + 1, hk => by
  have ih := single_heavy hP hl hc n k (by omega);obtain ⟨x, hx⟩ := get_some (l := books) (k := k) (by omega);obtain ⟨b, hb⟩ := at_some (hP.el x (List.mem_of_getElem? hx))
  have hst := selK_step (m := fun i => decide ((upto 0 books.length)[i]? = some (n : Int))) hx hb
  have hat := at_upto (n := books.length) (k := k) (by omega);rw [hst, heavyS_append, hat]
  by_cases e : (k : Int) = n
  ·rw [if_pos (decide_eq_true (by rw [e]))]
   have h1 := ih.2 (by omega)
   have h2 := hl k (by omega) x b hx hb;rw [h1];simp only [heavyS];exact ⟨by omega, fun h => by omega⟩
  ·rw [if_neg (fun h => e (Option.some.inj (of_decide_eq_true h)))];simp only [heavyS, Int.add_zero];exact ⟨ih.1, fun h => ih.2 (by omega)⟩
theorem single_light (hP : Places bs books) (hl : ∀ j, j < books.length → lightAt bs books carry j) (hc : 0 ≤ carry) : lightW bs books (upto 0 books.length) carry books.length := fun n _ => (single_heavy hP hl hc n books.length (Nat.le_refl _)).1
theorem best_some (hP : Places bs books) (hl : ∀ j, j < books.length → lightAt bs books carry j) (hc : 0 ≤ carry) : ∃ t n, bestF sh bs books carry = some (t, n) ∧ BestW sh bs books carry (walksOf books.length) t n := by
 have h := fold_best (sh := sh) (bs := bs) (books := books) (carry := carry) (walksOf books.length) (wk_order _ _ _ _) (walksOf books.length).length (Nat.le_refl _);rw [List.take_length] at h
 rcases h with ⟨h1, _⟩ | h
 ·obtain ⟨s, hs⟩ := walks_has (many := books.length) (t := upto 0 books.length) (by rw [upto_len]; omega) (upto_num _);exact absurd (single_light hP hl hc) (h1 _ hs)
 ·exact h
end
end Go.Am
end
section
namespace Go.Am
set_option linter.unusedVariables false
set_option linter.unusedSimpArgs false
section
variable {cl : List Str} {sh : List qH} {bs : List qA} {books : List Int} {carry : Int}
theorem selK_congr {books' : List Int} {m m' : Nat → Bool} : ∀ k : Nat, (∀ i, i < k → m i = m' i ∧ books[i]? = books'[i]?) → selK bs books m k = selK bs books' m' k
 | 0, _ => rfl
 | k + 1, h => by
  have ih := selK_congr k fun i hi => h i (by omega)
  obtain ⟨h1, h2⟩ := h k (by omega);unfold selK at ih ⊢;rw [List.range_succ, List.flatMap_append, List.flatMap_append, ih, List.flatMap_cons, List.flatMap_cons, List.flatMap_nil, List.flatMap_nil, h1, h2]
theorem climbK_mono (hF : Fine cl sh bs) {S S' : List qA} (h : ∀ b ∈ S, b ∈ S') : ∀ k : Nat, climbK sh S k ≤ climbK sh S' k
 | 0 => Int.le_refl _
 | k + 1 => by
  have ih := climbK_mono hF h k
  have h0 : 0 ≤ clOf sh k := by
   unfold clOf;split
   ·rename_i a ha
    have := hF.aw ha;omega
   ·omega
  rw [climbK_succ, climbK_succ]
  by_cases g : ∃ b ∈ S, b.shelf = (k : Int)
  ·obtain ⟨b, hb, hs⟩ := g;rw [if_pos ⟨b, hb, hs⟩, if_pos ⟨b, h b hb, hs⟩];omega
  ·rw [if_neg g];split <;> omega
theorem wayS_more (hF : Fine cl sh bs) (S e : List qA) : wayS sh S ≤ wayS sh (S ++ e) := by
 have h1 := climbK_mono hF (S := S) (S' := S ++ e) (fun b hb => List.mem_append_left _ hb) sh.length
 have h2 := awayS_append sh S e;unfold wayS;omega
theorem trip_less {t : List Int} {d : Nat} (hb : books.length = d + 1) (ht : t.length = d + 1) (n : Nat) : ∃ e, tripS bs books t n = tripS bs (books.take d) (t.take d) n ++ e ∧ ∀ b ∈ e, b ∈ bs := by
 have h1 : tripS bs (books.take d) (t.take d) n = selK bs books (fun i => decide (t[i]? = some (n : Int))) d := by
  unfold tripS;rw [show (books.take d).length = d by rw [List.length_take]; omega];exact selK_congr d fun i hi => ⟨by rw [List.getElem?_take_of_lt hi], List.getElem?_take_of_lt hi⟩
 rw [h1];unfold tripS;rw [hb];unfold selK;rw [List.range_succ, List.flatMap_append];refine ⟨_, rfl, fun b hb' => ?_⟩;obtain ⟨i, _, hi⟩ := List.mem_flatMap.1 hb';split at hi
 ·split at hi
  ·split at hi
   ·rename_i hb2
    have := List.mem_singleton.1 hi;subst this;exact List.mem_of_getElem? hb2
   ·cases hi
  ·cases hi
 ·cases hi
theorem sum_less (hF : Fine cl sh bs) {t : List Int} {d : Nat} (hb : books.length = d + 1) (ht : t.length = d + 1) : ∀ k : Nat, sumW sh bs (books.take d) (t.take d) k ≤ sumW sh bs books t k
 | 0 => Int.le_refl _
 | k + 1 => by
  have ih := sum_less hF hb ht k;obtain ⟨e, he, _⟩ := trip_less (bs := bs) hb ht k
  have := wayS_more hF (tripS bs (books.take d) (t.take d) k) e;rw [sumW_succ, sumW_succ, he];omega
theorem light_less (hF : Fine cl sh bs) {t : List Int} {d : Nat} (hb : books.length = d + 1) (ht : t.length = d + 1) (h : lightW bs books t carry books.length) : lightW bs (books.take d) (t.take d) carry (books.take d).length := fun n hn => by
 rw [List.length_take] at hn;obtain ⟨e, he, hm⟩ := trip_less (bs := bs) hb ht n
 have h1 := h n (by omega)
 have h2 := (heavyS_bound hF e hm).1;rw [he, heavyS_append] at h1;omega
theorem listE_ok (hF : Fine cl sh bs) (hP : Places bs books) (ho : ∀ j, j < books.length → onceAt books j) (hc : 1 ≤ carry ∧ carry ≤ 100) : listE cl sh bs books carry = 0 ∧ (∀ j, j < books.length → lightAt bs books carry j) ∨ listE cl sh bs books carry = 9 ∧ ¬ ∀ j, j < books.length → lightAt bs books carry j := by
 have h6 := hP.len
 have g1 : ∀ j, j < books.length → btwAt 0 ((bs.length : Int) - 1) books j := fun j hj x hx => by
  have := hP.el x (List.mem_of_getElem? hx);unfold btw;omega
 unfold listE;rw [if_pos (roomN_zero.2 hF), if_neg (by omega), if_pos g1, if_pos ho, if_pos hc]
 by_cases g : ∀ j, j < books.length → lightAt bs books carry j
 ·rw [if_pos g]; exact .inl ⟨rfl, g⟩
 ·rw [if_neg g]; exact .inr ⟨rfl, g⟩
theorem once_of (h : books.Nodup) : ∀ j, j < books.length → onceAt books j := fun j hj x hx hm => by
 obtain ⟨i, hi, hix⟩ := mem_take_at hm;exact pair_at h hi hix hx rfl
theorem List_ok {x : List UInt8} (h10 : bs.length ≤ 10) (hx : x.length ≤ 9223372036854775807) : Ok (P_law9_List cl sh bs x) fun l => l.length ≤ 6 ∧ (∀ y ∈ l, 0 ≤ y ∧ y < bs.length) ∧ l.Nodup := by
 unfold P_law9_List;refine Ok.andx (P := fun l => l.length ≤ 6 ∧ (∀ y ∈ l, 0 ≤ y ∧ y < bs.length) ∧ l.Nodup) ?_ (fun r hr => .some hr);refine Ok.count (fun s : Int × List Int => s.1) x.length (fun k s => s.2.length ≤ 6 ∧ (∀ y ∈ s.2, 0 ≤ y ∧ y < bs.length) ∧ s.2.Nodup) rfl ⟨Nat.zero_le _, fun y h => (by cases h), List.nodup_nil⟩ ?_ ?_
 ·rintro k ⟨i, out⟩ hk hx' ⟨h1, h2, h3⟩;simp only at hx' h1 h2 h3;subst hx';unfold P_law9_List_L1
  show Ok (seqx (andx (if (k : Int) < (x.length : Int) then _ else _) _) _) _;rw [if_pos (by omega)]
  by_cases g : (out.length : Int) < 6
  ·rw [if_pos g]
   by_cases g2 : (bs.length : Int) > 0
   ·obtain ⟨a, ha⟩ := get_some hk
    have hab := a.toNat_lt;rw [decide_eq_true g2, andx_some', if_pos rfl, seqx_nx, el_at ha, chk_pos (by omega), chk_pos (by omega), Int.tmod_eq_emod_of_nonneg (by omega)]
    have m1 := Int.emod_nonneg (a.toNat : Int) (show (bs.length : Int) ≠ 0 by omega)
    have m2 := Int.emod_lt_of_pos (a.toNat : Int) g2;generalize (a.toNat : Int) % (bs.length : Int) = y at m1 m2 ⊢
    have hcnt : I64 ((k : Int) + 1) := by unfold I64; omega
    rw [w1_Has_eq (by omega), andx_some']
    by_cases g3 : y ∈ out
    ·rw [if_pos (decide_eq_true g3), andx_some', chk_pos hcnt];exact .some ⟨rfl, h1, h2, h3⟩
    ·rw [if_neg (by rw [decide_eq_false g3]; decide), chk_pos (by simp; omega), andx_some', chk_pos hcnt];refine .some ⟨rfl, ?_, fun z hz => ?_, ?_⟩
     ·show (out ++ [y]).length ≤ 6;rw [List.length_append, List.length_singleton]; omega
     ·rcases List.mem_append.1 hz with hz | hz
      ·exact h2 z hz
      ·have := List.mem_singleton.1 hz;omega
     ·show (out ++ [y]).Nodup;refine List.nodup_append.2 ⟨h3, by simp, fun a ha b hb => ?_⟩
      have := List.mem_singleton.1 hb;subst this;exact fun e => g3 (e ▸ ha)
   ·rw [decide_eq_false g2, andx_some', if_neg (by decide)];exact .some ⟨h1, h2, h3⟩
  ·rw [if_neg g, andx_some', if_neg (by decide)];exact .some ⟨h1, h2, h3⟩
 ·rintro ⟨i, out⟩ hx' hI;simp only at hx' hI;subst hx';unfold P_law9_List_L1
  show Ok (seqx (andx (if (x.length : Int) < (x.length : Int) then _ else _) _) _) _;rw [if_neg (by omega), andx_some', if_neg (by decide)];exact .some hI
end
end Go.Am
end
section
namespace Go.Am
set_option linter.unusedVariables false
set_option linter.unusedSimpArgs false
section
variable {cl : List Str} {sh : List qH} {bs : List qA} {books : List Int} {carry : Int}
theorem nextI_bound : ∀ (t : List Int) (n : Nat), Num t → t.length = n → 0 ≤ nextI t ∧ nextI t ≤ n := by
 intro t n
 induction n generalizing t with
 | zero =>
  intro _ h
  have : t = [] := List.eq_nil_of_length_eq_zero h;subst this;exact ⟨Int.le_refl _, Int.le_refl _⟩
 | succ n ih =>
  intro hN h
  have e : t = t.take n ++ [t[n]] := by
   have := take_step (l := t) (k := n) (List.getElem?_eq_getElem (by omega));rw [← this, ← h, List.take_length]
  rw [e] at hN ⊢;obtain ⟨h1, h2, h3⟩ := Num.snoc.1 hN
  have := ih (t.take n) h1 (by rw [List.length_take]; omega);rw [nextI_snoc];omega
open Classical in
theorem way_heavy {c8 : UInt8} (hc : carry = 1 + Int.tmod (c8.toNat : Int) 100) (hP : Places bs books) : iter (P_law_ShelfWay_L1 bs c8 books) (false, 0) = some (decide (¬ ∀ j, j < books.length → lightAt bs books carry j)) := by
 have h6 := hP.len;refine Ok.get ?_;refine Ok.count (fun s : Bool × Int => s.2) books.length (fun k s => s.1 = decide (¬ ∀ j, j < k → lightAt bs books carry j)) rfl (decide_eq_false fun h => h fun j hj => by omega).symm ?_ ?_
 ·rintro k ⟨hv, i⟩ hk hx hI;simp only at hx hI;subst hx;obtain ⟨x, hx⟩ := get_some hk
  have hr := hP.el x (List.mem_of_getElem? hx);obtain ⟨b, hb⟩ := at_some hr
  have hcnt : I64 ((k : Int) + 1) := i64_small (by omega)
  have hbb : lightAt bs books carry k ↔ b.heavy ≤ carry := ⟨fun g => g x b hx hb, fun g y c hy hc' => by rw [hx] at hy; cases hy; rw [hb] at hc'; cases hc'; exact g⟩;unfold P_law_ShelfWay_L1
  show Ok (if (k : Int) < (books.length : Int) then _ else _) _;rw [if_pos (by omega), ← hc]
  by_cases g : ∀ j, j < k → lightAt bs books carry j
  ·rw [hI, decide_eq_false (not_not_intro g), if_neg (by decide), el_at hx, el_int hr.1 hb, andx_some', chk_pos hcnt];refine .some ⟨rfl, ?_⟩
   show decide (b.heavy > carry) = _;refine decide_eq_decide.2 ⟨fun h h' => ?_, fun h => Classical.byContradiction fun h' => h fun j hj => ?_⟩
   ·have := hbb.1 (h' k (Nat.lt_succ_self k));omega
   ·by_cases e : j = k
    ·subst e; exact hbb.2 (by omega)
    ·exact g j (by omega)
  ·rw [hI, decide_eq_true g, if_pos rfl, andx_some', chk_pos hcnt];refine .some ⟨rfl, ?_⟩
   have hno : ¬ ∀ j, j < k + 1 → lightAt bs books carry j := fun h => g fun j hj => h j (by omega)
   exact (decide_eq_true hno).symm
 ·rintro ⟨hv, i⟩ hx hI;simp only at hx hI;subst hx; subst hI;unfold P_law_ShelfWay_L1
  show Ok (if (books.length : Int) < (books.length : Int) then _ else _) _;rw [if_neg (by omega)];exact .some rfl
theorem way_num {t : List Int} {z : Bool} (hl : t.length ≤ 6) (h : Num t) : iter (P_law_ShelfWay_L2 t z) (0, 0) = some (.nx ()) := by
 refine Ok.get ?_;refine Ok.count (fun s : Int × Int => s.2) t.length (fun k s => s.1 = nextI (t.take k)) rfl rfl ?_ ?_
 ·rintro k ⟨nx, i⟩ hk hx hI;simp only at hx hI;subst hx;obtain ⟨x, hx⟩ := get_some hk
  have hr := h k x hx
  have hb := nextI_bound (t.take k) k (h.take k) (by rw [List.length_take]; omega);unfold P_law_ShelfWay_L2;rw [show (GSo z encI t).l = t from rfl]
  show Ok (if (k : Int) < (t.length : Int) then _ else _) _;rw [if_pos (by omega), el_at hx, if_neg (by omega), el_at hx, decide_eq_false (by omega), andx_some', if_neg (by decide), seqx_nx, el_at hx, chk_pos (i64_small (by omega)), seqx_nx, chk_pos (i64_small (by omega))];refine .some ⟨rfl, ?_⟩
  show max nx (x + 1) = _;rw [take_step hx, nextI_snoc, hI]
 ·rintro ⟨nx, i⟩ hx hI;simp only at hx hI;subst hx;unfold P_law_ShelfWay_L2;rw [show (GSo z encI t).l = t from rfl]
  show Ok (if (t.length : Int) < (t.length : Int) then _ else _) _;rw [if_neg (by omega)];exact .some rfl
theorem way_other {x : List UInt8} (hl : books.length ≤ 6) : Ok (iter (P_law_ShelfWay_L3 x books) (0, 0, [])) fun t => t.length = books.length ∧ Num t := by
 refine Ok.count (fun s : Int × Int × List Int => s.2.1) books.length (fun k s => s.2.2.length = k ∧ Num s.2.2 ∧ s.1 = nextI s.2.2) rfl ⟨rfl, Num.nil, rfl⟩ ?_ ?_
 ·rintro k ⟨nx, i, out⟩ hk hx ⟨h1, h2, h3⟩;simp only at hx h1 h2 h3;subst hx
  have hb := nextI_bound out k h2 h1;obtain ⟨r, e, hr⟩ := turn_ok (x := x) (n := k);unfold P_law_ShelfWay_L3
  show Ok (if (k : Int) < (books.length : Int) then _ else _) _;rw [if_pos (by omega), e, andx_some', chk_pos (i64_small (by omega)), chk_pos (by omega), Int.tmod_eq_emod_of_nonneg hr.1]
  have m1 := Int.emod_nonneg r (show nx + 1 ≠ 0 by omega)
  have m2 := Int.emod_lt_of_pos r (show 0 < nx + 1 by omega);generalize r % (nx + 1) = q at m1 m2 ⊢;rw [chk_pos (by simp; omega), chk_pos (i64_small (by omega)), chk_pos (i64_small (by omega))];refine .some ⟨rfl, ?_, ?_, ?_⟩
  ·show (out ++ [q]).length = k + 1;rw [List.length_append, List.length_singleton]; omega
  ·exact Num.snoc.2 ⟨h2, m1, by omega⟩
  ·show max nx (q + 1) = nextI (out ++ [q]);rw [nextI_snoc, h3]
 ·rintro ⟨nx, i, out⟩ hx ⟨h1, h2, h3⟩;simp only at hx h1 h2 h3;subst hx;unfold P_law_ShelfWay_L3
  show Ok (if (books.length : Int) < (books.length : Int) then _ else _) _;rw [if_neg (by omega)];exact .some ⟨h1, h2⟩
end
end Go.Am
end
section
namespace Go.Am
set_option linter.unusedVariables false
set_option linter.unusedSimpArgs false
section
variable {cl : List Str} {sh : List qH} {bs : List qA} {books : List Int} {carry : Int}
theorem walk_best (hF : Fine cl sh bs) (hP : Places bs books) (hc : 1 ≤ carry ∧ carry ≤ 100) (ho : ∀ j, j < books.length → onceAt books j) (hl : ∀ j, j < books.length → lightAt bs books carry j) : ∃ t n, P_s9_Walk cl sh bs books carry = some (t, false, n, 0) ∧ BestW sh bs books carry (walksOf books.length) t n := by
 obtain ⟨t, n, h1, h2⟩ := best_some (sh := sh) hP hl (by omega);refine ⟨t, n, ?_, h2⟩
 have hE : listE cl sh bs books carry = 0 := by
  rcases listE_ok hF hP ho hc with ⟨g, _⟩ | ⟨_, g⟩
  ·exact g
  ·exact absurd hl g
 rw [s9_Walk_eq, if_pos hE, h1];rfl
theorem BestW.num {t : List Int} {n : Int} (h : BestW sh bs books carry (walksOf books.length) t n) : Num t ∧ t.length = books.length := by
 obtain ⟨p, hp, rfl⟩ := h.mem;exact ⟨walks_num hp, (walks_part hp).tl⟩
theorem BestW.than {t t' : List Int} {n : Int} (h : BestW sh bs books carry (walksOf books.length) t n) (hN : Num t') (hl : t'.length = books.length) (hw : lightW bs books t' carry books.length) : n ≤ sumW sh bs books t' books.length ∧ (sumW sh bs books t' books.length = n → lexB t' t = false) := by
 obtain ⟨s, hs⟩ := walks_has hl hN;exact h.least _ hs hw
open Classical in
theorem ShelfWay_true (cl : List Str) (sh : List qH) (bs : List qA) (x0 x1 : List UInt8) (c8 : UInt8) (hx0 : x0.length ≤ 9223372036854775807) : P_law_ShelfWay cl sh bs x0 x1 c8 = some true := by
 unfold P_law_ShelfWay;rw [law9_valid_eq, andx_some']
 by_cases hF : Fine cl sh bs
 ·rw [decide_eq_true hF, if_pos rfl]
  have h10 := hF.bs1;refine Ok.get ?_;refine Ok.andx (List_ok h10 hx0) ?_;rintro books ⟨h6, hel, hnd⟩
  have hP : Places bs books := ⟨h6, hel⟩
  have ho := once_of hnd
  have hb := c8.toNat_lt
  have m1 := Int.emod_nonneg (c8.toNat : Int) (show (100 : Int) ≠ 0 by decide)
  have m2 := Int.emod_lt_of_pos (c8.toNat : Int) (show (0 : Int) < 100 by decide)
  have hte : Int.tmod (c8.toNat : Int) 100 = (c8.toNat : Int) % 100 := Int.tmod_eq_emod_of_nonneg (by omega);rw [chk_pos (by omega), chk_pos (by decide), chk_pos (i64_small (by rw [hte]; omega))];obtain ⟨carry, hcd⟩ : ∃ carry : Int, carry = 1 + Int.tmod (c8.toNat : Int) 100 := ⟨_, rfl⟩
  have hcr : 1 ≤ carry ∧ carry ≤ 100 := by rw [hcd, hte]; omega
  have hheavy := way_heavy (bs := bs) (books := books) hcd hP;rw [← hcd]
  have hl100 : ∀ j, j < books.length → lightAt bs books 100 j := fun j hj x b hx hb => ((hF.heavy (List.mem_of_getElem? hb)).1).2
  obtain ⟨t100, n100, e100, b100⟩ := walk_best hF hP (carry := 100) (by decide) ho hl100
  by_cases hl : ∀ j, j < books.length → lightAt bs books carry j
  ·obtain ⟨t, n, e1, hB⟩ := walk_best hF hP hcr ho hl;obtain ⟨hN, htl⟩ := hB.num
   have hle : n100 ≤ n := by
    have := (b100.than hN htl fun k hk => by have := hB.light k hk; omega).1;rw [← hB.sum] at this;exact this
   rw [e1, andx_some'];dsimp only;rw [e100, andx_some'];dsimp only;rw [if_neg (not_not_intro rfl), if_neg (not_not_intro rfl), seqx_nx, show (GSo false encI t).l = t from rfl, if_neg (not_not_intro (by omega)), decide_eq_false (by omega), andx_some', if_neg (by decide), seqx_nx, way_num (by omega) hN, seqx_nx, r9_Way_eq hF hP htl, if_pos hB.light, andx_some'];dsimp only;rw [if_pos rfl, ← hB.sum, decide_eq_false (not_not_intro rfl), andx_some', if_neg (by decide), seqx_nx];refine Ok.andx (way_other h6) ?_;rintro other ⟨hol, hoN⟩;rw [r9_Way_eq hF hP hol]
   have hcond : (andx (some (if lightW bs books other carry books.length then (sumW sh bs books other books.length, true) else (0, false))) fun (p : Int × Bool) => andx (if p.2 = true then (if p.1 < n then some true else if p.1 = n then andx (P_w1_Before other t) fun y202 => some y202 else some false) else some false) fun r => some r) = some false := by
    by_cases g : lightW bs books other carry books.length
    ·have hth := hB.than hoN hol g;rw [if_pos g, andx_some'];dsimp only;rw [if_pos rfl, if_neg (by omega)]
     by_cases e : sumW sh bs books other books.length = n
     ·rw [if_pos e, w1_Before_eq (by omega), hth.2 e];rfl
     ·rw [if_neg e];rfl
    ·rw [if_neg g];rfl
   have hfin : Ok (if (books.length : Int) = 0 then andx (if n = 0 then some true else some false) fun x6 => some x6 else chk (I64 ((books.length : Int) - 1)) (chk (0 ≤ ((books.length : Int) - 1) ∧ ((books.length : Int) - 1) ≤ (books.length : Int) ∧ 0 < books.length) (andx (P_s9_Walk cl sh bs (List.take (((books.length : Int) - 1)).toNat books) carry) fun (y222, y222_2, y222_3, y222_4) => andx (if y222_4 = 0 then if y222_3 ≤ n then some true else some false else some false) fun x6 => some x6))) (fun r => r = true) := by
    by_cases h0 : books.length = 0
    ·have hn : n = 0 := by rw [hB.sum, h0]; rfl
     rw [if_pos (by omega), if_pos hn];exact .some rfl
    ·obtain ⟨d, hd⟩ : ∃ d, books.length = d + 1 := ⟨books.length - 1, by omega⟩;rw [if_neg (by omega), chk_pos (i64_small (by omega)), chk_pos (by omega), show ((books.length : Int) - 1).toNat = d by omega]
     have hP' : Places bs (books.take d) := ⟨by rw [List.length_take]; omega, fun x hx => hel x (List.mem_of_mem_take hx)⟩
     have ho' := once_of (hnd.sublist (List.take_sublist d books))
     have hl' : ∀ j, j < (books.take d).length → lightAt bs (books.take d) carry j := fun j hj x b hx hb => by
      rw [List.length_take] at hj;rw [List.getElem?_take_of_lt (by omega)] at hx;exact hl j (by omega) x b hx hb
     obtain ⟨t', n', e', hB'⟩ := walk_best hF hP' hcr ho' hl';rw [e', andx_some'];dsimp only
     have hdl : (books.take d).length = d := by rw [List.length_take]; omega
     have hth := (hB'.than (hN.take d) (by rw [List.length_take, hdl]; omega) (light_less hF hd (by omega) hB.light)).1
     have hsl := sum_less hF hd (show t.length = d + 1 by omega) d
     have hw := wayS_bound hF (tripS bs books t d)
     have hsum := hB.sum;rw [hd, sumW_succ] at hsum;rw [hdl] at hth;rw [if_pos rfl, if_pos (by omega)];exact .some rfl
   rw [andx_some'] at hcond ⊢;generalize (if lightW bs books other carry books.length then (sumW sh bs books other books.length, true) else ((0 : Int), false)) = q at hcond ⊢;obtain ⟨q1, q2⟩ := q;dsimp only at hcond ⊢
   have hc2 : (if q2 = true then (if q1 < n then some true else if q1 = n then andx (P_w1_Before other t) fun y202 => some y202 else some false) else some false) = some false := by
    generalize (if q2 = true then (if q1 < n then some true else if q1 = n then andx (P_w1_Before other t) fun y202 => some y202 else some false) else some false) = w at hcond ⊢;cases w with
    | none => cases hcond
    | some b => exact hcond
   rw [hc2, andx_some', if_neg (by decide), seqx_nx];exact hfin
  ·have hE : listE cl sh bs books carry = 9 := by
    rcases listE_ok hF hP ho hcr with ⟨_, g⟩ | ⟨g, _⟩
    ·exact absurd g hl
    ·exact g
   have e1 := s9_Walk_eq (cl := cl) (sh := sh) (bs := bs) (books := books) (carry := carry);rw [hE, if_neg (by decide)] at e1;rw [e1, andx_some'];dsimp only;rw [e100, andx_some'];dsimp only;rw [if_neg (not_not_intro rfl), if_pos (by decide), hheavy, andx_some', if_pos rfl, if_pos (decide_eq_true hl)];exact .some rfl
 ·rw [decide_eq_false hF, if_neg (by decide)]
  have hN : roomN cl sh bs ≠ 0 := fun h => hF (roomN_zero.1 h)
  have hE : listE cl sh bs [] 1 = roomN cl sh bs := if_neg hN;rw [s9_Walk_eq, hE, if_neg hN, andx_some'];dsimp only;rw [if_pos hN];rfl
end
end Go.Am
end
