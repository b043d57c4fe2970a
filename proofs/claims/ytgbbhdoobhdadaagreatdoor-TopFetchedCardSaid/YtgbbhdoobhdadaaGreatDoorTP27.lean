/- Part 27. -/
import Derived.Test.YtgbbhdoobhdadaaGreatDoorTP2
import Derived.ChangeArms
import Derived.ChangeSlices
import Derived.OpenShut
import Derived.Test.YtgbbhdoobhdadaaGreatDoorTP23
import Derived.Test.YtgbbhdoobhdadaaGreatDoorRows
import Derived.ProofKit
section
namespace Go.Am
open Go.RowKit
def Lifts (P : Program) (t : TypeId) {α : Type} (e : En α) : Prop :=
 ∀ (H : Type) (enc : TypeId × Value → H) (W : World) (base : Nat) (held : Bool) (fuel : Nat) (cs : List Value) (x : DataW H × List MemPlace),
  DataW.trod enc P W base (fun _ => true) held fuel t cs = some x → ∃ a : α, RelL (snapR W 0) (e.f a) cs
theorem Lifts.int {P : Program} {t : TypeId} (ht : P.underlying t = some (.int .i64)) : Lifts P t encI := by
 intro H enc W base held fuel cs x hx;obtain ⟨n, rfl, _, _⟩ := DataW.trod_int ht hx;exact ⟨n, .cons (.lit _) (.nil _)⟩
theorem snap_cell {W : World} {b off : Nat} {v : Value} (h : W.cell? ⟨b, off, none⟩ = some v) : ∃ c, (snapR W 0).imm b = some c ∧ c[off]? = some v := by
 unfold World.cell? at h;split at h
 ·rename_i c _ _ hb
  simp at h;exact ⟨c, by simp only [snapR, snap, Nat.zero_le, if_true]; simp only [] at hb; rw [hb], h⟩
 ·cases h
theorem list_of {α : Type} {p : Nat → α → Prop} : ∀ n : Nat, (∀ i, i < n → ∃ a, p i a) → ∃ l : List α, l.length = n ∧ ∀ i a, l[i]? = some a → p i a := by
 intro n
 induction n with
 | zero => intro _; exact ⟨[], rfl, fun i a h => by simp at h⟩
 | succ n ih =>
  intro h;obtain ⟨l, h1, h2⟩ := ih fun i hi => h i (by omega)
  obtain ⟨a, ha⟩ := h n (by omega);refine ⟨l ++ [a], by simp [h1], fun i b hb => ?_⟩
  by_cases hi : i < l.length
  ·rw [List.getElem?_append_left hi] at hb; exact h2 i b hb
  ·rw [List.getElem?_append_right (by omega)] at hb
   have : i - l.length = 0 := by
    have := (List.getElem?_eq_some_iff.1 hb).1;simp at this; omega
   rw [this] at hb;simp at hb;subst hb
   have : i = n := by omega
   rw [this]; exact ha
theorem Lifts.slice {P : Program} {t e : TypeId} {α : Type} {en : En α} (ht : P.underlying t = some (.slice e)) (hu : P.cellsOf e = en.u) (h0 : 0 < en.u) (h : Lifts P e en) : Lifts P t (encSl en) := by
 intro H enc W base held fuel cs x hx
 rcases DataW.trod_slice ht hx with ⟨rfl, _⟩ | ⟨a, len, cap, elems, rest, n, _, rfl, _, hb, hl, _, hlen, hel, hsp, _⟩
 ·exact ⟨⟨nilS, [], .inl ⟨rfl, rfl, rfl⟩⟩, .cons (.lit _) (.nil _)⟩
 ·rw [hu] at hel hsp;obtain ⟨hrl, hr⟩ := hsp rfl
  by_cases hc : cap = 0
  ·subst hc
   have : len = 0 := by omega
   subst this;exact ⟨⟨.tree en.u 0 [], [], .inr ⟨rfl, by simp⟩⟩, .cons .tree0 (.nil _)⟩
  ·have hcell : ∀ i, i < len → ∃ (a' : α) (ci : List Value), W.cells? base (a.add (i * en.u)) en.u = some ci ∧ RelL (snapR W 0) (en.f a') ci := by
    intro i hi
    have he := hel i hi;rw [List.getElem?_eq_getElem (by omega)] at he;obtain ⟨ci, h1, h2⟩ := Option.bind_eq_some_iff.1 he;obtain ⟨a', h3⟩ := h _ _ _ _ _ _ _ _ h2;exact ⟨a', ci, h1, h3⟩
   have hspot : a.spot = none := by
    have : ∃ ci, W.cells? base (a.add (0 * en.u)) en.u = some ci := by
     by_cases hl0 : 0 < len
     ·obtain ⟨_, ci, h1, _⟩ := hcell 0 hl0;exact ⟨ci, h1⟩
     ·have hz : len = 0 := by omega
      have he := hr 0 (by omega);rw [List.getElem?_eq_getElem (by omega)] at he;obtain ⟨ci, h1, _⟩ := Option.bind_eq_some_iff.1 he;exact ⟨ci, by simpa [hz] using h1⟩
    obtain ⟨ci, h1⟩ := this;obtain ⟨_, h2, h3⟩ := World.cells?_some h1
    have h4 := h3 0 h0;rw [List.getElem?_eq_getElem (by omega)] at h4
    have := World.cell?_spot h4
    simpa [Addr.add] using this
   obtain ⟨b, off, sp⟩ := a;simp only at hspot;subst hspot;obtain ⟨l, hl1, hl2⟩ := list_of (p := fun i a' => ∃ ci : List Value, W.cells? base ((⟨b, off, none⟩ : Addr).add (i * en.u)) en.u = some ci ∧ RelL (snapR W 0) (en.f a') ci) len hcell
   have hfl : (l.flatMap en.f).length = len * en.u := by rw [flat_len, hl1]
   have each : ∀ j, j < len * en.u → ∃ v y c, (l.flatMap en.f)[j]? = some v ∧ (snapR W 0).imm b = some c ∧ c[off + j]? = some y ∧ RelV (snapR W 0) v y := by
    intro j hj
    have hi : j / en.u < l.length := by rw [hl1]; exact Nat.div_lt_of_lt_mul (by rw [Nat.mul_comm]; exact hj)
    have hk : j % en.u < en.u := Nat.mod_lt _ h0
    have hd : j / en.u * en.u + j % en.u = j := by rw [Nat.mul_comm]; exact Nat.div_add_mod j en.u
    obtain ⟨ci, h1, h2⟩ := hl2 _ _ (List.getElem?_eq_getElem hi);obtain ⟨_, h3, h4⟩ := World.cells?_some h1
    have h5 := h4 _ hk;rw [List.getElem?_eq_getElem (by omega)] at h5
    have h6 : ((⟨b, off, none⟩ : Addr).add (j / en.u * en.u)).add (j % en.u) = ⟨b, off + j, none⟩ := by
     simp only [addr_add]
     congr 1
     omega
    rw [h6] at h5;obtain ⟨c, h7, h8⟩ := snap_cell h5
    have hlen' := en.len l[j / en.u]
    have hv := List.getElem?_eq_getElem (l := en.f l[j / en.u]) (i := j % en.u) (by omega);refine ⟨_, _, c, ?_, h7, h8, h2.2 _ _ _ hv (List.getElem?_eq_getElem _)⟩
    have := flat_get (en := en) (List.getElem?_eq_getElem hi) hk;rw [hd] at this;rw [this, hv]
   refine ⟨⟨.tree en.u l.length (l.flatMap en.f), l, .inr ⟨rfl, by rw [hfl, hl1]⟩⟩, .cons ?_ (.nil _)⟩
   show RelV _ (.tree en.u l.length (l.flatMap en.f)) _;rw [hl1]
   by_cases hz : len * en.u = 0
   ·refine .tree (c := #[]) hfl hl (.inl (List.eq_nil_of_length_eq_zero (by omega))) fun i v x hv hx => by simp at hx
   ·obtain ⟨_, _, c, _, hc1, _, _⟩ := each (len * en.u - 1) (by omega);refine .tree (c := c) hfl hl (.inr ⟨hc1, ?_⟩) fun j v y hv hy => ?_
    ·obtain ⟨_, _, c', _, hc2, hc3, _⟩ := each (len * en.u - 1) (by omega);rw [hc1] at hc2;cases hc2
     have := (Array.getElem?_eq_some_iff.1 hc3).1;omega
    ·have hj := (List.getElem?_eq_some_iff.1 hv).1;obtain ⟨v', y', c', e1, e2, e3, e4⟩ := each j (by omega);rw [hc1] at e2;cases e2;rw [hv] at e1;rw [hy] at e3;cases e1;cases e3;exact e4
end Go.Am
end
section
namespace Go.Am
open Go.RowKit
def enPair {α β : Type} (a : En α) (b : En β) : En (α × β) := ⟨a.u + b.u, fun p => a.f p.1 ++ b.f p.2, fun p => by simp [a.len, b.len]⟩
theorem Lifts.map {P : Program} {t : TypeId} {α β : Type} {a : En α} {b : En β} (h : Lifts P t a) (hf : ∀ x, ∃ y, b.f y = a.f x) : Lifts P t b := by
 intro H enc W base held fuel cs x hx;obtain ⟨v, hv⟩ := h _ _ _ _ _ _ _ _ hx;obtain ⟨y, hy⟩ := hf v;exact ⟨y, by rw [hy]; exact hv⟩
theorem Lifts.arg {P : Program} {t : TypeId} {fs : Array Field} {α : Type} {en : En α} (hl : Lifts P t en) (ht : P.underlying t = some (.struct fs)) {W : World} {r : Reach} {b0 : Nat} {v : Value} (hval : Value.okWide P W r b0 t v)
  {H : Type} {enc : TypeId × Value → H} {base : Nat} {held : Bool} {d : DataW H} {ps : List MemPlace} (h : DataW.Trod enc P W base (fun _ => true) held t v d ps) : ∃ a, RelV (snapR W 0) (.agg (en.f a)) v := by
 simp only [Value.okWide, ht] at hval;obtain ⟨cs, rfl, _, _⟩ := hval;obtain ⟨fuel, hf⟩ := h;obtain ⟨a, ha⟩ := hl _ _ _ _ _ _ _ _ hf;exact ⟨a, by simpa [Value.cells] using RelV.agg ha.1 ha.2⟩
end Go.Am
end
section
namespace Go.Am
open Go.RowKit
set_option linter.unusedVariables false
theorem Lifts.u8 {P : Program} {t : TypeId} (ht : P.underlying t = some (.int .u8)) : Lifts P t encU8 := by
 intro H enc W base held fuel cs x hx;obtain ⟨n, rfl, _, hw⟩ := DataW.trod_int ht hx
 have hw : 0 ≤ n ∧ n ≤ 255 := by
  have := Bool.and_eq_true_iff.1 hw;exact ⟨of_decide_eq_true this.1, of_decide_eq_true this.2⟩
 have e : ((UInt8.ofNat n.toNat).toNat : Int) = n := by rw [UInt8.toNat_ofNat']; omega
 refine ⟨UInt8.ofNat n.toNat, .cons ?_ (.nil _)⟩;rw [e];exact .lit _
theorem Lifts.argI {P : Program} {t : TypeId} {k : IntKind} {α : Type} {en : En α} (hl : Lifts P t en) (ht : P.underlying t = some (.int k)) {W : World} {r : Reach} {b0 : Nat} {v : Value} (hval : Value.okWide P W r b0 t v)
  {H : Type} {enc : TypeId × Value → H} {base : Nat} {held : Bool} {d : DataW H} {ps : List MemPlace} (h : DataW.Trod enc P W base (fun _ => true) held t v d ps) : ∃ a, ∀ w, (en.f a)[0]? = some w → RelV (snapR W 0) w v := by
 obtain ⟨fuel, hf⟩ := h;obtain ⟨a, ha⟩ := hl _ _ _ _ _ _ _ _ hf;refine ⟨a, fun w hw => ?_⟩;cases v with
 | agg cs => simp [Value.okWide, ht, Cell.okWide, Cell.ok] at hval
 | _ => exact ha.2 0 _ _ hw rfl
end Go.Am
end
section
namespace Go.Am
open Go.RowKit
set_option linter.unusedVariables false
theorem Lifts.str {P : Program} {t : TypeId} (ht : P.underlying t = some .string) : Lifts P t encStr := by
 intro H enc W base held fuel cs x hx;obtain ⟨s, rfl, _, _⟩ := DataW.trod_string ht hx;refine ⟨s.data.toList, .cons ?_ (.nil _)⟩;exact .lit _
inductive Flds (P : Program) : List Field → Nat → {α : Type} → En α → Prop
 | one {f : Field} {off : Nat} {α : Type} {a : En α} (ho : f.offset = off) (hc : P.cellsOf f.type = a.u) (l : Lifts P f.type a) : Flds P [f] off a
 | cons {f : Field} {r : List Field} {off : Nat} {α β : Type} {a : En α} {b : En β} (ho : f.offset = off) (hc : P.cellsOf f.type = a.u) (l : Lifts P f.type a) (h : Flds P r (off + a.u) b) : Flds P (f :: r) off (enPair a b)
theorem Flds.run {P : Program} {H : Type} {enc : TypeId × Value → H} {W : World} {base : Nat} {held : Bool} {n : Nat} {cs : List Value} {fs : List Field} {off : Nat} {α : Type} {e : En α} (hf : Flds P fs off e)
  (h : ∀ (i : Nat) (f : Field), fs[i]? = some f → ∃ x, DataW.trod enc P W base (fun _ => true) held n f.type ((cs.drop f.offset).take (P.cellsOf f.type)) = some x) : ∃ x : α, RelL (snapR W 0) (e.f x) ((cs.drop off).take e.u) := by
 induction hf with
 | one ho hc l =>
  obtain ⟨x, hx⟩ := h 0 _ rfl;rw [ho, hc] at hx;exact l _ _ _ _ _ _ _ _ hx
 | @cons f r off α β a b ho hc l _ ih =>
  obtain ⟨x, hx⟩ := h 0 _ rfl;rw [ho, hc] at hx;obtain ⟨x0, r0⟩ := l _ _ _ _ _ _ _ _ hx;obtain ⟨x1, r1⟩ := ih fun i f hf => h (i + 1) f hf
  refine ⟨(x0, x1), ?_⟩
  show RelL _ _ ((cs.drop off).take (a.u + b.u));rw [List.take_add, List.drop_drop]
  have e1 := r0;exact RelL.append r0 r1
theorem Lifts.struct {P : Program} {t : TypeId} {fs : Array Field} {α : Type} {e : En α} (ht : P.underlying t = some (.struct fs)) (ct : P.cellsOf t = e.u) (hf : Flds P fs.toList 0 e) : Lifts P t e := by
 intro H enc W base held fuel cs x hx;obtain ⟨xs, n, _, _, hl, hn, h⟩ := DataW.trod_struct ht hx;obtain ⟨v, hv⟩ := hf.run (H := H) (enc := enc) (W := W) (base := base) (held := held) (n := n) (cs := cs) fun i f hi => by
  have hi' : fs[i]? = some f := by rw [← Array.getElem?_toList]; exact hi
  have hlt : i < xs.length := by rw [hn]; exact (Array.getElem?_eq_some_iff.1 hi').1
  exact ⟨xs[i], by rw [h i f hi', List.getElem?_eq_getElem hlt]⟩
 refine ⟨v, ?_⟩
 rwa [List.drop_zero, List.take_of_length_le (by omega)] at hv
end Go.Am
end
section
namespace Go.Am
open Go.RowKit Go.ChangeShapes
def encBl : En Bool := ⟨1, fun b => [bv b], fun _ => rfl⟩
theorem Lifts.bool {P : Program} {t : TypeId} (ht : P.underlying t = some .bool) : Lifts P t encBl := by
 intro H enc W base held fuel cs x hx;obtain ⟨b, rfl, _⟩ := DataW.trod_bool ht hx;exact ⟨b, .cons (.lit _) (.nil _)⟩
end Go.Am
end
section
namespace Go.Am.YtgbbhdoobhdadaaGreatDoor
open Go.Am Go.RowKit Go.Proofs
theorem li_9 : Lifts Tryz.prog 9 encStr := .str Tryz.underlying9
theorem li_22 : Lifts Tryz.prog 22 (encSl encStr) := .slice Tryz.underlying22 (by kernel_rfl) (by decide) li_9
theorem li_3 : Lifts Tryz.prog 3 encI := .int Tryz.underlying3
theorem li_44 : Lifts Tryz.prog 44 (enPair encI (enPair encI (enPair encI encI))) := .struct Tryz.underlying44 (by kernel_rfl) (.cons rfl (by kernel_rfl) li_3 (.cons rfl (by kernel_rfl) li_3 (.cons rfl (by kernel_rfl) li_3 (.one rfl (by kernel_rfl) li_3))))
theorem lm_44 : Lifts Tryz.prog 44 qZ := (li_44).map fun x => ⟨⟨x.1, x.2.1, x.2.2.1, x.2.2.2⟩, rfl⟩
theorem li_23 : Lifts Tryz.prog 23 (encSl qZ) := .slice Tryz.underlying23 (by kernel_rfl) (by decide) lm_44
theorem li_46 : Lifts Tryz.prog 46 (enPair encI (enPair encI encStr)) := .struct Tryz.underlying46 (by kernel_rfl) (.cons rfl (by kernel_rfl) li_3 (.cons rfl (by kernel_rfl) li_3 (.one rfl (by kernel_rfl) li_9)))
theorem li_48 : Lifts Tryz.prog 48 (enPair (enPair encI (enPair encI encStr)) (enPair encI (enPair encI (enPair encI encI)))) := .struct Tryz.underlying48 (by kernel_rfl) (.cons rfl (by kernel_rfl) li_46 (.cons rfl (by kernel_rfl) li_3 (.cons rfl (by kernel_rfl) li_3 (.cons rfl (by kernel_rfl) li_3 (.one rfl (by kernel_rfl) li_3)))))
theorem lm_48 : Lifts Tryz.prog 48 qS := (li_48).map fun x => ⟨⟨x.1.1, x.1.2.1, x.1.2.2, x.2.1, x.2.2.1, x.2.2.2.1, x.2.2.2.2⟩, rfl⟩
theorem li_24 : Lifts Tryz.prog 24 (encSl qS) := .slice Tryz.underlying24 (by kernel_rfl) (by decide) lm_48
theorem li_26 : Lifts Tryz.prog 26 (enPair (encSl encStr) (enPair (encSl qZ) (encSl qS))) := .struct Tryz.underlying26 (by kernel_rfl) (.cons rfl (by kernel_rfl) li_22 (.cons rfl (by kernel_rfl) li_23 (.one rfl (by kernel_rfl) li_24)))
theorem li_90 : Lifts Tryz.prog 90 (enPair encI encI) := .struct Tryz.underlying90 (by kernel_rfl) (.cons rfl (by kernel_rfl) li_3 (.one rfl (by kernel_rfl) li_3))
theorem li_4 : Lifts Tryz.prog 4 encBl := .bool Tryz.underlying4
theorem li_115 : Lifts Tryz.prog 115 (enPair encStr (enPair encI (enPair (enPair encI encI) encBl))) := .struct Tryz.underlying115 (by kernel_rfl) (.cons rfl (by kernel_rfl) li_9 (.cons rfl (by kernel_rfl) li_3 (.cons rfl (by kernel_rfl) li_90 (.one rfl (by kernel_rfl) li_4))))
theorem lm_115 : Lifts Tryz.prog 115 qJ := (li_115).map fun x => ⟨⟨x.1, x.2.1, x.2.2.1.1, x.2.2.1.2, x.2.2.2⟩, rfl⟩
theorem li_27 : Lifts Tryz.prog 27 (encSl qJ) := .slice Tryz.underlying27 (by kernel_rfl) (by decide) lm_115
theorem li_118 : Lifts Tryz.prog 118 (enPair encStr encI) := .struct Tryz.underlying118 (by kernel_rfl) (.cons rfl (by kernel_rfl) li_9 (.one rfl (by kernel_rfl) li_3))
theorem lm_118 : Lifts Tryz.prog 118 qR := (li_118).map fun x => ⟨⟨x.1, x.2⟩, rfl⟩
theorem li_28 : Lifts Tryz.prog 28 (encSl qR) := .slice Tryz.underlying28 (by kernel_rfl) (by decide) lm_118
theorem li_61 : Lifts Tryz.prog 61 (enPair encI encBl) := .struct Tryz.underlying61 (by kernel_rfl) (.cons rfl (by kernel_rfl) li_3 (.one rfl (by kernel_rfl) li_4))
theorem lm_61 : Lifts Tryz.prog 61 qQ := (li_61).map fun x => ⟨⟨x.1, x.2⟩, rfl⟩
theorem li_29 : Lifts Tryz.prog 29 (encSl qQ) := .slice Tryz.underlying29 (by kernel_rfl) (by decide) lm_61
theorem li_42 : Lifts Tryz.prog 42 (enPair encI (enPair encI (enPair encI encI))) := .struct Tryz.underlying42 (by kernel_rfl) (.cons rfl (by kernel_rfl) li_3 (.cons rfl (by kernel_rfl) li_3 (.cons rfl (by kernel_rfl) li_3 (.one rfl (by kernel_rfl) li_3))))
theorem lm_42 : Lifts Tryz.prog 42 qK := (li_42).map fun x => ⟨⟨x.1, x.2.1, x.2.2.1, x.2.2.2⟩, rfl⟩
theorem li_30 : Lifts Tryz.prog 30 (encSl qK) := .slice Tryz.underlying30 (by kernel_rfl) (by decide) lm_42
theorem li_32 : Lifts Tryz.prog 32 (enPair (encSl qJ) (enPair (encSl qR) (enPair (encSl qQ) (encSl qK)))) := .struct Tryz.underlying32 (by kernel_rfl) (.cons rfl (by kernel_rfl) li_27 (.cons rfl (by kernel_rfl) li_28 (.cons rfl (by kernel_rfl) li_29 (.one rfl (by kernel_rfl) li_30))))
theorem li_5 : Lifts Tryz.prog 5 encU8 := .u8 Tryz.underlying5
end Go.Am.YtgbbhdoobhdadaaGreatDoor
end
