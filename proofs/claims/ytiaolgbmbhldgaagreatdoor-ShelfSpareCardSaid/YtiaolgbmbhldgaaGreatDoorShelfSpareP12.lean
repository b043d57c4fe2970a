/- Part 12. -/
import Derived.Test.YtiaolgbmbhldgaaGreatDoorShelfSpareP2
import Derived.ChangeArms
import Derived.ChangeSlices
import Derived.OpenShut
import Derived.Test.YtiaolgbmbhldgaaGreatDoorShelfSpareP10
import Derived.Test.YtiaolgbmbhldgaaGreatDoorRows
import Derived.ProofKit
section
namespace Go.Am
open Go.RowKit
def Lifts (P : Program) (t : TypeId) {α : Type} (e : En α) : Prop :=
 ∀ (H : Type) (enc : TypeId × Value → H) (W : World) (base : Nat) (held : Bool) (fuel : Nat) (cs : List Value) (x : DataW H × List MemPlace),
  DataW.trod enc P W base (fun _ => true) held fuel t cs = some x → ∃ a : α, RelL (snapR W 0) (e.f a) cs
theorem Lifts.int {P : Program} {t : TypeId} (ht : P.underlying t = some (.int .i64)) : Lifts P t encI := by
 intro H enc W base held fuel cs x hx;obtain ⟨n, rfl, _, _⟩ := DataW.trod_int ht hx;exact ⟨n, .cons (.lit _) (.nil _)⟩
theorem snap_cell {W : World} {b off : Nat} {v : Value} (h : W.cell? ⟨b, off, none⟩ = some v) : ∃ c, (snapR W 0).imm b = some c ∧ c[off]? = some v := by
 unfold World.cell? at h;split at h
 ·rename_i c _ _ hb
  simp at h;exact ⟨c, by simp only [snapR, snap, Nat.zero_le, if_true]; simp only [] at hb; rw [hb], h⟩
 ·cases h
theorem list_of {α : Type} {p : Nat → α → Prop} : ∀ n : Nat, (∀ i, i < n → ∃ a, p i a) → ∃ l : List α, l.length = n ∧ ∀ i a, l[i]? = some a → p i a := by
 intro n
 induction n with
 | zero => intro _; exact ⟨[], rfl, fun i a h => by simp at h⟩
 | succ n ih =>
  intro h;obtain ⟨l, h1, h2⟩ := ih fun i hi => h i (by omega)
  obtain ⟨a, ha⟩ := h n (by omega);refine ⟨l ++ [a], by simp [h1], fun i b hb => ?_⟩
  by_cases hi : i < l.length
  ·rw [List.getElem?_append_left hi] at hb; exact h2 i b hb
  ·rw [List.getElem?_append_right (by omega)] at hb
   have : i - l.length = 0 := by
    have := (List.getElem?_eq_some_iff.1 hb).1;simp at this; omega
   rw [this] at hb;simp at hb;subst hb
   have : i = n := by omega
   rw [this]; exact ha
theorem Lifts.slice {P : Program} {t e : TypeId} {α : Type} {en : En α} (ht : P.underlying t = some (.slice e)) (hu : P.cellsOf e = en.u) (h0 : 0 < en.u) (h : Lifts P e en) : Lifts P t (encSl en) := by
 intro H enc W base held fuel cs x hx
 rcases DataW.trod_slice ht hx with ⟨rfl, _⟩ | ⟨a, len, cap, elems, rest, n, _, rfl, _, hb, hl, _, hlen, hel, hsp, _⟩
 ·exact ⟨⟨nilS, [], .inl ⟨rfl, rfl, rfl⟩⟩, .cons (.lit _) (.nil _)⟩
 ·rw [hu] at hel hsp;obtain ⟨hrl, hr⟩ := hsp rfl
  by_cases hc : cap = 0
  ·subst hc
   have : len = 0 := by omega
   subst this;exact ⟨⟨.tree en.u 0 [], [], .inr ⟨rfl, by simp⟩⟩, .cons .tree0 (.nil _)⟩
  ·have hcell : ∀ i, i < len → ∃ (a' : α) (ci : List Value), W.cells? base (a.add (i * en.u)) en.u = some ci ∧ RelL (snapR W 0) (en.f a') ci := by
    intro i hi
    have he := hel i hi;rw [List.getElem?_eq_getElem (by omega)] at he;obtain ⟨ci, h1, h2⟩ := Option.bind_eq_some_iff.1 he;obtain ⟨a', h3⟩ := h _ _ _ _ _ _ _ _ h2;exact ⟨a', ci, h1, h3⟩
   have hspot : a.spot = none := by
    have : ∃ ci, W.cells? base (a.add (0 * en.u)) en.u = some ci := by
     by_cases hl0 : 0 < len
     ·obtain ⟨_, ci, h1, _⟩ := hcell 0 hl0;exact ⟨ci, h1⟩
     ·have hz : len = 0 := by omega
      have he := hr 0 (by omega);rw [List.getElem?_eq_getElem (by omega)] at he;obtain ⟨ci, h1, _⟩ := Option.bind_eq_some_iff.1 he;exact ⟨ci, by simpa [hz] using h1⟩
    obtain ⟨ci, h1⟩ := this;obtain ⟨_, h2, h3⟩ := World.cells?_some h1
    have h4 := h3 0 h0;rw [List.getElem?_eq_getElem (by omega)] at h4
    have := World.cell?_spot h4
    simpa [Addr.add] using this
   obtain ⟨b, off, sp⟩ := a;simp only at hspot;subst hspot;obtain ⟨l, hl1, hl2⟩ := list_of (p := fun i a' => ∃ ci : List Value, W.cells? base ((⟨b, off, none⟩ : Addr).add (i * en.u)) en.u = some ci ∧ RelL (snapR W 0) (en.f a') ci) len hcell
   have hfl : (l.flatMap en.f).length = len * en.u := by rw [flat_len, hl1]
   have each : ∀ j, j < len * en.u → ∃ v y c, (l.flatMap en.f)[j]? = some v ∧ (snapR W 0).imm b = some c ∧ c[off + j]? = some y ∧ RelV (snapR W 0) v y := by
    intro j hj
    have hi : j / en.u < l.length := by rw [hl1]; exact Nat.div_lt_of_lt_mul (by rw [Nat.mul_comm]; exact hj)
    have hk : j % en.u < en.u := Nat.mod_lt _ h0
    have hd : j / en.u * en.u + j % en.u = j := by rw [Nat.mul_comm]; exact Nat.div_add_mod j en.u
    obtain ⟨ci, h1, h2⟩ := hl2 _ _ (List.getElem?_eq_getElem hi);obtain ⟨_, h3, h4⟩ := World.cells?_some h1
    have h5 := h4 _ hk;rw [List.getElem?_eq_getElem (by omega)] at h5
    have h6 : ((⟨b, off, none⟩ : Addr).add (j / en.u * en.u)).add (j % en.u) = ⟨b, off + j, none⟩ := by
     simp only [addr_add]
     congr 1
     omega
    rw [h6] at h5;obtain ⟨c, h7, h8⟩ := snap_cell h5
    have hlen' := en.len l[j / en.u]
    have hv := List.getElem?_eq_getElem (l := en.f l[j / en.u]) (i := j % en.u) (by omega);refine ⟨_, _, c, ?_, h7, h8, h2.2 _ _ _ hv (List.getElem?_eq_getElem _)⟩
    have := flat_get (en := en) (List.getElem?_eq_getElem hi) hk;rw [hd] at this;rw [this, hv]
   refine ⟨⟨.tree en.u l.length (l.flatMap en.f), l, .inr ⟨rfl, by rw [hfl, hl1]⟩⟩, .cons ?_ (.nil _)⟩
   show RelV _ (.tree en.u l.length (l.flatMap en.f)) _;rw [hl1]
   by_cases hz : len * en.u = 0
   ·refine .tree (c := #[]) hfl hl (.inl (List.eq_nil_of_length_eq_zero (by omega))) fun i v x hv hx => by simp at hx
   ·obtain ⟨_, _, c, _, hc1, _, _⟩ := each (len * en.u - 1) (by omega);refine .tree (c := c) hfl hl (.inr ⟨hc1, ?_⟩) fun j v y hv hy => ?_
    ·obtain ⟨_, _, c', _, hc2, hc3, _⟩ := each (len * en.u - 1) (by omega);rw [hc1] at hc2;cases hc2
     have := (Array.getElem?_eq_some_iff.1 hc3).1;omega
    ·have hj := (List.getElem?_eq_some_iff.1 hv).1;obtain ⟨v', y', c', e1, e2, e3, e4⟩ := each j (by omega);rw [hc1] at e2;cases e2;rw [hv] at e1;rw [hy] at e3;cases e1;cases e3;exact e4
end Go.Am
end
section
namespace Go.Am
open Go.RowKit
def enPair {α β : Type} (a : En α) (b : En β) : En (α × β) := ⟨a.u + b.u, fun p => a.f p.1 ++ b.f p.2, fun p => by simp [a.len, b.len]⟩
theorem Lifts.map {P : Program} {t : TypeId} {α β : Type} {a : En α} {b : En β} (h : Lifts P t a) (hf : ∀ x, ∃ y, b.f y = a.f x) : Lifts P t b := by
 intro H enc W base held fuel cs x hx;obtain ⟨v, hv⟩ := h _ _ _ _ _ _ _ _ hx;obtain ⟨y, hy⟩ := hf v;exact ⟨y, by rw [hy]; exact hv⟩
theorem Lifts.arg {P : Program} {t : TypeId} {fs : Array Field} {α : Type} {en : En α} (hl : Lifts P t en) (ht : P.underlying t = some (.struct fs)) {W : World} {r : Reach} {b0 : Nat} {v : Value} (hval : Value.okWide P W r b0 t v)
  {H : Type} {enc : TypeId × Value → H} {base : Nat} {held : Bool} {d : DataW H} {ps : List MemPlace} (h : DataW.Trod enc P W base (fun _ => true) held t v d ps) : ∃ a, RelV (snapR W 0) (.agg (en.f a)) v := by
 simp only [Value.okWide, ht] at hval;obtain ⟨cs, rfl, _, _⟩ := hval;obtain ⟨fuel, hf⟩ := h;obtain ⟨a, ha⟩ := hl _ _ _ _ _ _ _ _ hf;exact ⟨a, by simpa [Value.cells] using RelV.agg ha.1 ha.2⟩
end Go.Am
end
section
namespace Go.Am
open Go.RowKit
set_option linter.unusedVariables false
def encU16 : En UInt16 := ⟨1, fun b => [ivk .u16 (b.toNat : Int)], fun _ => rfl⟩
theorem Lifts.u8 {P : Program} {t : TypeId} (ht : P.underlying t = some (.int .u8)) : Lifts P t encU8 := by
 intro H enc W base held fuel cs x hx;obtain ⟨n, rfl, _, hw⟩ := DataW.trod_int ht hx
 have hw : 0 ≤ n ∧ n ≤ 255 := by
  have := Bool.and_eq_true_iff.1 hw;exact ⟨of_decide_eq_true this.1, of_decide_eq_true this.2⟩
 have e : ((UInt8.ofNat n.toNat).toNat : Int) = n := by rw [UInt8.toNat_ofNat']; omega
 refine ⟨UInt8.ofNat n.toNat, .cons ?_ (.nil _)⟩;rw [e];exact .lit _
theorem Lifts.u16 {P : Program} {t : TypeId} (ht : P.underlying t = some (.int .u16)) : Lifts P t encU16 := by
 intro H enc W base held fuel cs x hx;obtain ⟨n, rfl, _, hw⟩ := DataW.trod_int ht hx
 have hw : 0 ≤ n ∧ n ≤ 65535 := by
  have := Bool.and_eq_true_iff.1 hw;exact ⟨of_decide_eq_true this.1, of_decide_eq_true this.2⟩
 have e : ((UInt16.ofNat n.toNat).toNat : Int) = n := by rw [UInt16.toNat_ofNat']; omega
 refine ⟨UInt16.ofNat n.toNat, .cons ?_ (.nil _)⟩;rw [e];exact .lit _
end Go.Am
end
section
namespace Go.Am
open Go.RowKit
set_option linter.unusedVariables false
theorem Lifts.str {P : Program} {t : TypeId} (ht : P.underlying t = some .string) : Lifts P t encStr := by
 intro H enc W base held fuel cs x hx;obtain ⟨s, rfl, _, _⟩ := DataW.trod_string ht hx;refine ⟨s.data.toList, .cons ?_ (.nil _)⟩;exact .lit _
inductive Flds (P : Program) : List Field → Nat → {α : Type} → En α → Prop
 | one {f : Field} {off : Nat} {α : Type} {a : En α} (ho : f.offset = off) (hc : P.cellsOf f.type = a.u) (l : Lifts P f.type a) : Flds P [f] off a
 | cons {f : Field} {r : List Field} {off : Nat} {α β : Type} {a : En α} {b : En β} (ho : f.offset = off) (hc : P.cellsOf f.type = a.u) (l : Lifts P f.type a) (h : Flds P r (off + a.u) b) : Flds P (f :: r) off (enPair a b)
theorem Flds.run {P : Program} {H : Type} {enc : TypeId × Value → H} {W : World} {base : Nat} {held : Bool} {n : Nat} {cs : List Value} {fs : List Field} {off : Nat} {α : Type} {e : En α} (hf : Flds P fs off e)
  (h : ∀ (i : Nat) (f : Field), fs[i]? = some f → ∃ x, DataW.trod enc P W base (fun _ => true) held n f.type ((cs.drop f.offset).take (P.cellsOf f.type)) = some x) : ∃ x : α, RelL (snapR W 0) (e.f x) ((cs.drop off).take e.u) := by
 induction hf with
 | one ho hc l =>
  obtain ⟨x, hx⟩ := h 0 _ rfl;rw [ho, hc] at hx;exact l _ _ _ _ _ _ _ _ hx
 | @cons f r off α β a b ho hc l _ ih =>
  obtain ⟨x, hx⟩ := h 0 _ rfl;rw [ho, hc] at hx;obtain ⟨x0, r0⟩ := l _ _ _ _ _ _ _ _ hx;obtain ⟨x1, r1⟩ := ih fun i f hf => h (i + 1) f hf
  refine ⟨(x0, x1), ?_⟩
  show RelL _ _ ((cs.drop off).take (a.u + b.u));rw [List.take_add, List.drop_drop]
  have e1 := r0;exact RelL.append r0 r1
theorem Lifts.struct {P : Program} {t : TypeId} {fs : Array Field} {α : Type} {e : En α} (ht : P.underlying t = some (.struct fs)) (ct : P.cellsOf t = e.u) (hf : Flds P fs.toList 0 e) : Lifts P t e := by
 intro H enc W base held fuel cs x hx;obtain ⟨xs, n, _, _, hl, hn, h⟩ := DataW.trod_struct ht hx;obtain ⟨v, hv⟩ := hf.run (H := H) (enc := enc) (W := W) (base := base) (held := held) (n := n) (cs := cs) fun i f hi => by
  have hi' : fs[i]? = some f := by rw [← Array.getElem?_toList]; exact hi
  have hlt : i < xs.length := by rw [hn]; exact (Array.getElem?_eq_some_iff.1 hi').1
  exact ⟨xs[i], by rw [h i f hi', List.getElem?_eq_getElem hlt]⟩
 refine ⟨v, ?_⟩
 rwa [List.drop_zero, List.take_of_length_le (by omega)] at hv
end Go.Am
end
section
namespace Go.Am.YtiaolgbmbhldgaaGreatDoor
open Go.Am Go.RowKit Go.Proofs
theorem li_9 : Lifts Tryz.prog 9 encStr := .str Tryz.underlying9
theorem li_22 : Lifts Tryz.prog 22 (encSl encStr) := .slice Tryz.underlying22 (by kernel_rfl) (by decide) li_9
theorem li_3 : Lifts Tryz.prog 3 encI := .int Tryz.underlying3
theorem li_86 : Lifts Tryz.prog 86 (enPair encI (enPair encI (enPair encI encI))) := .struct Tryz.underlying86 (by kernel_rfl) (.cons rfl (by kernel_rfl) li_3 (.cons rfl (by kernel_rfl) li_3 (.cons rfl (by kernel_rfl) li_3 (.one rfl (by kernel_rfl) li_3))))
theorem lm_86 : Lifts Tryz.prog 86 enc_api_SfShelf := (li_86).map fun x => ⟨⟨x.1, x.2.1, x.2.2.1, x.2.2.2⟩, rfl⟩
theorem li_23 : Lifts Tryz.prog 23 (encSl enc_api_SfShelf) := .slice Tryz.underlying23 (by kernel_rfl) (by decide) lm_86
theorem li_28 : Lifts Tryz.prog 28 (enPair encI (enPair encI encStr)) := .struct Tryz.underlying28 (by kernel_rfl) (.cons rfl (by kernel_rfl) li_3 (.cons rfl (by kernel_rfl) li_3 (.one rfl (by kernel_rfl) li_9)))
theorem li_42 : Lifts Tryz.prog 42 (enPair (enPair encI (enPair encI encStr)) (enPair encI (enPair encI (enPair encI encI)))) := .struct Tryz.underlying42 (by kernel_rfl) (.cons rfl (by kernel_rfl) li_28 (.cons rfl (by kernel_rfl) li_3 (.cons rfl (by kernel_rfl) li_3 (.cons rfl (by kernel_rfl) li_3 (.one rfl (by kernel_rfl) li_3)))))
theorem lm_42 : Lifts Tryz.prog 42 enc_api_SfBook := (li_42).map fun x => ⟨⟨x.1.1, x.1.2.1, x.1.2.2, x.2.1, x.2.2.1, x.2.2.2.1, x.2.2.2.2⟩, rfl⟩
theorem li_24 : Lifts Tryz.prog 24 (encSl enc_api_SfBook) := .slice Tryz.underlying24 (by kernel_rfl) (by decide) lm_42
theorem li_26 : Lifts Tryz.prog 26 (enPair (encSl encStr) (enPair (encSl enc_api_SfShelf) (encSl enc_api_SfBook))) := .struct Tryz.underlying26 (by kernel_rfl) (.cons rfl (by kernel_rfl) li_22 (.cons rfl (by kernel_rfl) li_23 (.one rfl (by kernel_rfl) li_24)))
end Go.Am.YtiaolgbmbhldgaaGreatDoor
end
section
namespace Go.Am
set_option linter.unusedVariables false
theorem i64_small {x : Int} (h : -4000000000000000000 ≤ x ∧ x ≤ 4000000000000000000) : I64 x := by unfold I64; omega
section
variable {σ ε J A β : Type}
def CountQ (idx : σ → Int) (I : Nat → σ → Prop) (k : Nat) (Q : ε → Prop) : Stp σ ε → Prop
 | .ag s => idx s = k + 1 ∧ I (k + 1) s
 | .dn e => Q e
def FinQ (Q : ε → Prop) : Stp σ ε → Prop
 | .ag _ => False
 | .dn e => Q e
theorem Ok.count (idx : σ → Int) (n : Nat) (I : Nat → σ → Prop) {body : σ → Option (Stp σ ε)} {s0 : σ} {Q : ε → Prop} (h0 : idx s0 = 0) (hI : I 0 s0)
  (step : ∀ k s, k < n → idx s = k → I k s → Ok (body s) (CountQ idx I k Q)) (fin : ∀ s, idx s = n → I n s → Ok (body s) (FinQ Q)) : Ok (Am.iter body s0) Q := by
 refine Ok.iter (fun s => ∃ k : Nat, k ≤ n ∧ idx s = k ∧ I k s) (fun s => n - (idx s).toNat) ⟨0, Nat.zero_le _, h0, hI⟩ ?_;rintro s ⟨k, hk, hx, hi⟩
 by_cases hlt : k < n
 ·refine (step k s hlt hx hi).mono fun x hq => ?_
  cases x with
  | ag s' =>
   have h1 : idx s' = k + 1 := hq.1;exact ⟨⟨k + 1, by omega, by rw [h1]; rfl, hq.2⟩, by show n - (idx s').toNat < n - (idx s).toNat; rw [h1, hx]; omega⟩
  | dn e => exact hq
 ·have : k = n := by omega
  subst this;refine (fin s hx hi).mono fun x hq => ?_
  cases x with
  | ag s' => exact hq.elim
  | dn e => exact hq
end
end Go.Am
end
section
namespace Go.Am
set_option linter.unusedVariables false
set_option linter.unusedSimpArgs false
open Classical in
noncomputable def scanX {A : Type} (f : Nat → Option A) (n : Nat) : Ex Unit A := match (List.range n).findSome? f with | some a => .rt a | none => .nx ()
theorem find_range {A : Type} {f : Nat → Option A} {a : A} : ∀ {n k : Nat}, k < n → (∀ j, j < k → f j = none) → f k = some a → (List.range n).findSome? f = some a := by
 intro n
 induction n with
 | zero => intro k hk; omega
 | succ n ih =>
  intro k hk h0 h1;rw [List.range_succ, List.findSome?_append]
  by_cases hkn : k = n
  ·subst hkn
   have : (List.range k).findSome? f = none := by
    rw [List.findSome?_eq_none_iff];intro x hx;exact h0 x (List.mem_range.1 hx)
   rw [this];simp [h1]
  ·rw [ih (by omega) h0 h1]; rfl
theorem find_none {A : Type} {f : Nat → Option A} {n : Nat} (h : ∀ j, j < n → f j = none) : (List.range n).findSome? f = none := by
 rw [List.findSome?_eq_none_iff];intro x hx;exact h x (List.mem_range.1 hx)
theorem of_find_none {A : Type} {f : Nat → Option A} {n : Nat} (h : (List.range n).findSome? f = none) : ∀ j, j < n → f j = none := by
 rw [List.findSome?_eq_none_iff] at h;exact fun j hj => h j (List.mem_range.2 hj)
def scanS {A : Type} {σ : Type} (s : σ) : Option A → Stp σ (Ex Unit A)
 | none => .ag s
 | some a => .dn (.rt a)
theorem iter_scan {A σ : Type} (idx : Nat → σ) (f : Nat → Option A) (n : Nat) {body : σ → Option (Stp σ (Ex Unit A))} (inj : ∀ k, idx k = idx k)
  (step : ∀ k : Nat, k < n → (∀ j, j < k → f j = none) → body (idx k) = some (scanS (idx (k + 1)) (f k)))
  (fin : (∀ j, j < n → f j = none) → body (idx n) = some (.dn (.nx ()))) : iter body (idx 0) = some (scanX f n) := by
 have key : ∀ m k : Nat, m = n - k → k ≤ n → (∀ j, j < k → f j = none) → iter body (idx k) = some (scanX f n) := by
  intro m
  induction m with
  | zero =>
   intro k hm hk h0
   have : k = n := by omega
   subst this;refine iter_eq.2 (.inr ?_);rw [fin h0];simp [scanX, find_none h0]
  | succ m ih =>
   intro k hm hk h0;cases hf : f k with
   | none =>
    refine iter_eq.2 (.inl ⟨idx (k + 1), ?_, ih (k + 1) (by omega) (by omega) fun j hj => ?_⟩)
    ·rw [step k (by omega) h0, hf]; rfl
    ·by_cases e : j = k
     ·rw [e]; exact hf
     ·exact h0 j (by omega)
   | some a =>
    refine iter_eq.2 (.inr ?_);rw [step k (by omega) h0, hf];simp [scanS, scanX, find_range (show k < n by omega) h0 hf]
 exact key n 0 (by omega) (by omega) (fun j hj => by omega)
theorem iter_scanI {A : Type} (f : Nat → Option A) (n : Nat) {body : Int → Option (Stp Int (Ex Unit A))}
  (step : ∀ k : Nat, k < n → (∀ j, j < k → f j = none) → body (k : Int) = some (scanS ((k : Int) + 1) (f k)))
  (fin : (∀ j, j < n → f j = none) → body (n : Int) = some (.dn (.nx ()))) : iter body 0 = some (scanX f n) :=
 iter_scan (fun k => (k : Int)) f n (fun _ => rfl) (fun k hk h => step k hk h) fin
theorem seqx_scan {A : Type} {f : Nat → Option A} {n : Nat} {k : Unit → Option A} : seqx (some (scanX f n)) k = match (List.range n).findSome? f with | some a => some a | none => k () := by
 unfold scanX;cases (List.range n).findSome? f <;> rfl
theorem el_at {α β : Type} {l : List α} {k : Nat} {a : α} {g : α → Option β} (h : l[k]? = some a) : el l (k : Int) g = g a := by
 unfold el;simp [h]
theorem get!_mk (l : Str) (i : Nat) : (⟨l.toArray⟩ : ByteArray).get! i = l.getD i 0 := by
 show l.toArray[i]! = _;rw [getElem!_def];simp [List.getD];cases l[i]? <;> rfl
theorem rune_ascii {l : Str} {p : Nat} {b : UInt8} (hb : l[p]? = some b) (h : b.toNat < 128) : runeAt l p = b.toNat ∧ runeLen l p = 1 := by
 have e : (⟨l.toArray⟩ : ByteArray).get! (p + 0) = b := by rw [get!_mk]; simp [List.getD, hb]
 unfold runeAt runeLen Utf8.decode;simp only [e];rw [if_pos h];exact ⟨rfl, rfl⟩
theorem rune_high {l : Str} {p : Nat} {b : UInt8} (hb : l[p]? = some b) (h : 128 ≤ b.toNat) : 128 ≤ runeAt l p := by
 have e : (⟨l.toArray⟩ : ByteArray).get! (p + 0) = b := by rw [get!_mk]; simp [List.getD, hb]
 unfold runeAt Utf8.decode;simp only [e, Utf8.runeError];rw [if_neg (by omega)];split
 ·split
  ·rename_i h1 h2; simp only [ge_iff_le] at h2; simp only; omega
  ·simp only; omega
 ·split
  ·split
   ·rename_i h1 h2; simp only [ge_iff_le, Bool.and_eq_true, decide_eq_true_eq] at h2; simp only; omega
   ·simp only; omega
  ·split
   ·split
    ·rename_i h1 h2; simp only [ge_iff_le, Bool.and_eq_true, decide_eq_true_eq] at h2; simp only; omega
    ·simp only; omega
   ·simp only; omega
def lowerN (x : Int) : Prop := 97 ≤ x ∧ x ≤ 122
def nameN (i : Nat) (x : Int) : Prop := lowerN x ∨ (0 < i ∧ ((48 ≤ x ∧ x ≤ 57) ∨ x = 46))
def isName (s : Str) : Prop := 0 < s.length ∧ s.length ≤ 16 ∧ ∀ i, i < s.length → nameN i (byteAt s i)
def isLow (s : Str) : Prop := ∀ i, i < s.length → lowerN (byteAt s i)
theorem byteAt_of {l : Str} {k : Nat} {b : UInt8} (h : l[k]? = some b) : byteAt l (k : Int) = b.toNat := by
 simp [byteAt, List.getD, h]
theorem get_some {α : Type} {l : List α} {k : Nat} (h : k < l.length) : ∃ a, l[k]? = some a := ⟨l[k], List.getElem?_eq_getElem h⟩
theorem byteAt_lt (l : Str) (k : Int) : 0 ≤ byteAt l k ∧ byteAt l k < 256 := by
 have := (l.getD k.toNat 0).toNat_lt;unfold byteAt;omega
theorem rune_low {l : Str} {p : Nat} (hp : p < l.length) : (runeAt l p = byteAt l p ∧ runeLen l p = 1) ∨ (128 ≤ runeAt l p ∧ 128 ≤ byteAt l p) := by
 obtain ⟨b, hb⟩ := get_some hp;rw [byteAt_of hb]
 by_cases h : b.toNat < 128
 ·exact .inl (rune_ascii hb h)
 ·exact .inr ⟨rune_high hb (by omega), by omega⟩
open Classical in
theorem find_if {A : Type} {P : Nat → Prop} {a : A} {n : Nat} : (List.range n).findSome? (fun i => if P i then none else some a) = if ∀ j, j < n → P j then none else some a := by
 by_cases h : ∀ j, j < n → P j
 ·rw [if_pos h, find_none fun j hj => if_pos (h j hj)]
 ·rw [if_neg h];cases hf : (List.range n).findSome? (fun i => if P i then none else some a) with
  | none =>
   refine absurd (fun i hi => ?_) h
   have := of_find_none hf i hi
   by_cases hl : P i
   ·exact hl
   ·rw [if_neg hl] at this; cases this
  | some b =>
   obtain ⟨x, hx, hx'⟩ := List.exists_of_findSome?_eq_some hf;split at hx'
   ·cases hx'
   ·exact hx'.symm
open Classical in
theorem r9_letters_eq (s : Str) (hs : s.length ≤ 1000) : P_r9_letters s = some (decide (isLow s)) := by
 unfold P_r9_letters;rw [iter_scanI (fun i => if lowerN (byteAt s i) then none else some false) s.length, seqx_scan, find_if]
 ·by_cases h : ∀ j, j < s.length → lowerN (byteAt s j)
  ·rw [if_pos h, decide_eq_true (show isLow s from h)]
  ·rw [if_neg h, decide_eq_false (show ¬ isLow s from h)]
 ·intro k hk h0;unfold P_r9_letters_L1;rw [if_pos (by omega), chk_pos (by omega), chk_pos (by omega), chk_pos (i64_small (by omega))];unfold lowerN;generalize byteAt s (k : Int) = x
  by_cases h1 : x < 97
  ·rw [if_pos h1, if_neg (by omega)]; rfl
  ·rw [if_neg h1]
   by_cases h2 : x > 122
   ·rw [if_neg (by omega), decide_eq_true h2]; rfl
   ·rw [if_pos (by omega), decide_eq_false h2]; rfl
 ·intro h0;unfold P_r9_letters_L1;rw [if_neg (by omega)]
theorem andx_some' {α β : Type} {a : α} {k : α → Option β} : andx (some a) k = k a := rfl
open Classical in
theorem r1_Name_eq (s : Str) : P_r1_Name s = some (decide (isName s)) := by
  unfold P_r1_Name
  by_cases h0 : s.length = 0
  · have : ¬ isName s := fun h => by have := h.1; omega
    rw [if_pos (by omega)]; simp [seqx, andx, this]
  by_cases h1 : 16 < s.length
  · have : ¬ isName s := fun h => by have := h.2.1; omega
    rw [if_neg (by omega), decide_eq_true (by omega)]; simp [seqx, andx, this]
  rw [if_neg (by omega), decide_eq_false (by omega)]
  show seqx (iter _ _) _ = _
  rw [iter_scanI (fun i => if nameN i (byteAt s i) then none else some false) s.length, seqx_scan, find_if]
  · by_cases h : ∀ j, j < s.length → nameN j (byteAt s j)
    · rw [if_pos h, decide_eq_true ⟨by omega, by omega, h⟩]
    · rw [if_neg h, decide_eq_false fun k => h k.2.2]
  · intro k hk hj
    unfold P_r1_Name_L1
    rw [if_pos (by omega)]
    simp only [chk_pos (show 0 ≤ (k : Int) ∧ (k : Int) < (s.length : Int) by omega), chk_pos (show I64 ((k : Int) + 1) from i64_small (by omega))]
    unfold nameN lowerN
    generalize byteAt s (k : Int) = x
    by_cases a1 : x ≥ 97 <;> by_cases a2 : x ≤ 122 <;> by_cases a3 : k = 0 <;> by_cases a4 : x ≥ 48 <;> by_cases a5 : x ≤ 57 <;> by_cases a6 : x = 46 <;>
      first
      | (exfalso; omega)
      | (rw [if_pos (show (97 ≤ x ∧ x ≤ 122) ∨ (0 < k ∧ ((48 ≤ x ∧ x ≤ 57) ∨ x = 46)) by omega)]; simp [andx, seqx, scanS, a1, a2, a3, a4, a5, a6]; done)
      | (rw [if_neg (show ¬ ((97 ≤ x ∧ x ≤ 122) ∨ (0 < k ∧ ((48 ≤ x ∧ x ≤ 57) ∨ x = 46))) by omega)]; simp [andx, seqx, scanS, a1, a2, a3, a4, a5, a6]; done)
  · intro hj
    unfold P_r1_Name_L1
    rw [if_neg (by omega)]
open Classical in
theorem q_Name_eq (s : Str) : P_q_Name s = some (decide (isName s)) := by
  unfold P_q_Name
  rw [iter_scan (fun k : Nat => k) (fun i => if nameN i (byteAt s i) then none else some false) s.length (fun _ => rfl), seqx_scan, find_if]
  · by_cases h : ∀ j, j < s.length → nameN j (byteAt s j)
    · rw [if_pos h]
      show andx _ _ = _
      by_cases h0 : s = []
      · subst h0
        have : ¬ isName [] := fun h => absurd h.1 (by simp)
        simp [andx, this]
      · have hpos : 0 < s.length := List.length_pos_iff.2 h0
        rw [if_pos h0]
        show some _ = some _
        congr 1
        by_cases h1 : s.length ≤ 16
        · rw [decide_eq_true (by omega), decide_eq_true ⟨hpos, h1, h⟩]
        · rw [decide_eq_false (by omega), decide_eq_false fun k => h1 k.2.1]
    · rw [if_neg h, decide_eq_false (show ¬ isName s from fun k => h k.2.2)]
  · intro k hk hj
    unfold P_q_Name_L1
    rw [if_pos hk]
    show _ = some (scanS (k + 1) _)
    have hb := byteAt_lt s (k : Int)
    unfold nameN lowerN
    rcases rune_low hk with ⟨h1, h2⟩ | ⟨h1, h2⟩
    · rw [h1, h2]
      generalize byteAt s (k : Int) = x
      by_cases a1 : x ≥ 97 <;> by_cases a2 : x ≤ 122 <;> by_cases a3 : 0 < k <;> by_cases a4 : x ≥ 48 <;> by_cases a5 : x ≤ 57 <;> by_cases a6 : x = 46 <;>
        first
        | (exfalso; omega)
        | (rw [if_pos (show (97 ≤ x ∧ x ≤ 122) ∨ (0 < k ∧ ((48 ≤ x ∧ x ≤ 57) ∨ x = 46)) by omega)]; simp [andx, scanS, a1, a2, a3, a4, a5, a6]; done)
        | (rw [if_neg (show ¬ ((97 ≤ x ∧ x ≤ 122) ∨ (0 < k ∧ ((48 ≤ x ∧ x ≤ 57) ∨ x = 46))) by omega)]; simp [andx, scanS, a1, a2, a3, a4, a5, a6]; done)
    · generalize byteAt s (k : Int) = x at *
      generalize runeAt s k = y at *
      rw [if_neg (show ¬ ((97 ≤ x ∧ x ≤ 122) ∨ (0 < k ∧ ((48 ≤ x ∧ x ≤ 57) ∨ x = 46))) by omega)]
      have a1 : y ≥ 97 := by omega
      have a2 : ¬ y ≤ 122 := by omega
      have a4 : y ≥ 48 := by omega
      have a5 : ¬ y ≤ 57 := by omega
      have a6 : ¬ y = 46 := by omega
      by_cases a3 : 0 < k <;> simp [andx, scanS, a1, a2, a3, a4, a5, a6]
  · intro hj
    unfold P_q_Name_L1
    rw [if_neg (by omega)]
end Go.Am
end
section
namespace Go.Am
set_option linter.unusedVariables false
set_option linter.unusedSimpArgs false
open Classical in
theorem r9_in_eq (n a b : Int) : P_r9_in n a b = some (decide (a ≤ n ∧ n ≤ b)) := by
 unfold P_r9_in
 by_cases h : a ≤ n
 ·rw [if_pos h]
  by_cases h2 : n ≤ b
  ·simp [andx, h, h2]
  ·simp [andx, h2]
 ·rw [if_neg h]; simp [andx, h]
open Classical in
theorem find_idx {P : Nat → Prop} {n : Nat} : ((∀ j, j < n → P j) ∧ (List.range n).findSome? (fun i => if P i then none else some (i : Int)) = none) ∨ ((¬ ∀ j, j < n → P j) ∧ ∃ k : Int, 0 ≤ k ∧ (List.range n).findSome? (fun i => if P i then none else some (i : Int)) = some k) := by
 by_cases h : ∀ j, j < n → P j
 ·exact .inl ⟨h, find_none fun j hj => if_pos (h j hj)⟩
 ·refine .inr ⟨h, ?_⟩;cases hf : (List.range n).findSome? (fun i => if P i then none else some (i : Int)) with
  | none =>
   refine absurd (fun i hi => ?_) h
   have := of_find_none hf i hi
   by_cases hl : P i
   ·exact hl
   ·rw [if_neg hl] at this; cases this
  | some k =>
   obtain ⟨x, hx, hx'⟩ := List.exists_of_findSome?_eq_some hf;split at hx'
   ·cases hx'
   ·cases hx'; exact ⟨_, by omega, rfl⟩
def btw (lo hi x : Int) : Prop := lo ≤ x ∧ x ≤ hi
def btwAt (lo hi : Int) (l : List Int) (i : Nat) : Prop := ∀ x, l[i]? = some x → btw lo hi x
open Classical in
theorem s9_out_eq (lo hi : Int) (l : List Int) (hl : l.length ≤ 1000) : P_s9_out lo hi l = some (decide (¬ ∀ j, j < l.length → btwAt lo hi l j)) := by
 unfold P_s9_out;rw [iter_scanI (fun i => if btwAt lo hi l i then none else some (i : Int)) l.length, seqx_scan]
 ·rcases find_idx (P := btwAt lo hi l) (n := l.length) with ⟨h, e⟩ | ⟨h, k, hk, e⟩
  ·rw [e]
   have : ¬ ¬ ∀ j, j < l.length → btwAt lo hi l j := fun hn => hn h
   simp only [andx];rw [decide_eq_false this]; rfl
  ·rw [e];simp only [andx];rw [decide_eq_true h, decide_eq_true hk]
 ·intro k hk _;unfold P_s9_out_L1;obtain ⟨a, ha⟩ := get_some hk;rw [if_pos (by omega), el_at ha, chk_pos (i64_small (by omega))]
  have e : btwAt lo hi l k ↔ (lo ≤ a ∧ a ≤ hi) := by
   unfold btwAt; rw [ha]; exact ⟨fun h => h a rfl, fun h x hx => by cases hx; exact h⟩
  by_cases h1 : a < lo
  ·rw [if_pos h1, if_neg (fun h => by have := e.1 h; omega)]; rfl
  ·rw [if_neg h1]
   by_cases h2 : a > hi
   ·rw [decide_eq_true h2, if_neg (fun h => by have := e.1 h; omega)]; rfl
   ·rw [decide_eq_false h2, if_pos (e.2 (by omega))]; rfl
 ·intro _;unfold P_s9_out_L1;rw [if_neg (by omega)]
open Classical in
theorem s9_out1 (lo hi a : Int) : P_s9_out lo hi [a] = some (decide (¬ btw lo hi a)) := by
 rw [s9_out_eq _ _ _ (by simp)]
 congr 1
 refine decide_eq_decide.2 ?_;refine not_congr ⟨fun h => h 0 (by simp) a rfl, fun h j hj x hx => ?_⟩
 match j with
 | 0 => cases hx; exact h
open Classical in
theorem s9_out2 (lo hi a b : Int) : P_s9_out lo hi [a, b] = some (decide (¬ (btw lo hi a ∧ btw lo hi b))) := by
 rw [s9_out_eq _ _ _ (by simp)]
 congr 1
 refine decide_eq_decide.2 ?_;refine not_congr ⟨fun h => ⟨h 0 (by simp) a rfl, h 1 (by simp) b rfl⟩, fun h j hj x hx => ?_⟩
 match j with
 | 0 => cases hx; exact h.1
 | 1 => cases hx; exact h.2
theorem r1_Place_ok (l : List Str) (w : Str) (hl : l.length ≤ 1000) : Ok (P_r1_Place l w) fun r => (0 ≤ r ↔ w ∈ l) := by
 unfold P_r1_Place;refine .chk (i64_small (by omega)) ?_;refine Ok.andx (P := fun at_ : Int => (0 ≤ at_ ↔ w ∈ l) ∧ at_ < l.length) ?_ ?_
 ·refine Ok.iter (fun at_ : Int => (-1 ≤ at_ ∧ at_ < l.length) ∧ ∀ j : Nat, at_ < j → l[j]? ≠ some w) (fun at_ : Int => (at_ + 1).toNat) ⟨by omega, fun j hj hj' => ?_⟩ ?_
  ·have := (List.getElem?_eq_some_iff.1 hj').1;omega
  ·rintro at_ ⟨h1, h2⟩;unfold P_r1_Place_L1
   by_cases h3 : at_ ≥ 0
   ·rw [if_pos h3];obtain ⟨k, rfl⟩ := Int.eq_ofNat_of_zero_le h3;obtain ⟨a, ha⟩ := get_some (l := l) (k := k) (by omega);rw [el_at ha]
    by_cases h4 : a = w
    ·simp only [h4, not_true, decide_false, andx, seqx];refine .some ⟨⟨fun _ => h4 ▸ List.mem_of_getElem? ha, fun _ => h3⟩, h1.2⟩
    ·simp only [h4, not_false_iff, decide_true, andx, seqx, if_true];refine .chk (i64_small (by omega)) (.some ⟨⟨by omega, fun j hj => ?_⟩, by show ((k : Int) - 1 + 1).toNat < ((k : Int) + 1).toNat; omega⟩)
     by_cases hjk : j = k
     ·subst hjk; rw [ha]; exact fun e => h4 (by cases e; rfl)
     ·exact h2 j (by omega)
   ·rw [if_neg h3];simp only [andx, seqx];refine .some ⟨⟨fun h => absurd h h3, fun h => ?_⟩, h1.2⟩;obtain ⟨j, hj⟩ := List.getElem?_of_mem h;exact absurd hj (h2 j (by omega))
 ·rintro at_ ⟨h1, h2⟩;refine Ok.seqx ?_
  by_cases h0 : 0 ≤ at_
  ·refine Ok.count id at_.toNat (fun _ _ => True) rfl trivial ?_ ?_
   ·rintro k x hk hx _;simp only [id] at hx;subst hx;unfold P_r1_Place_L2;obtain ⟨a, ha⟩ := get_some (l := l) (k := k) (by omega);rw [if_pos (by omega), el_at ha];refine .ite (fun h => .some ?_) (fun h => .chk (i64_small (by omega)) (.some ⟨rfl, trivial⟩))
    show (0 ≤ (k : Int) ↔ w ∈ l);exact ⟨fun _ => h1.1 h0, fun _ => by omega⟩
   ·rintro x hx _;simp only [id] at hx;unfold P_r1_Place_L2;rw [if_neg (by omega)];exact .some (.some h1)
  ·refine Ok.count id 0 (fun _ _ => True) rfl trivial (fun k x hk => by omega) ?_;rintro x hx _;simp only [id] at hx;unfold P_r1_Place_L2;rw [if_neg (by omega)];exact .some (.some h1)
open Classical in
noncomputable def clErr (cl : List Str) (i : Nat) (a : Str) : Int := if isName a then (if a ∈ cl.take i then 5 else 0) else 6
open Classical in
theorem r1_Fresh_eq (w : Str) (cl : List Str) (i : Nat) (hl : cl.length ≤ 1000) : P_r1_Fresh w (cl.take i) = some (clErr cl i w) := by
 refine Ok.get ?_;unfold P_r1_Fresh;refine Ok.andx (P := fun e => e = if w ∈ cl.take i then 5 else 0) ((r1_Place_ok _ w (by rw [List.length_take]; omega)).andx fun r hr => ?_) ?_
 ·refine .ite (fun h => .some ?_) (fun h => .some ?_)
  ·rw [if_pos (hr.1 h)]
  ·rw [if_neg fun h' => h (hr.2 h')]
 ·rintro e he;rw [r1_Name_eq];unfold clErr;subst he
  by_cases h : isName w
  ·simp only [h, decide_true, andx, if_true]; exact .some rfl
  ·simp only [h, decide_false, andx, if_false, Bool.false_eq_true]; exact .some rfl
end Go.Am
end
section
namespace Go.Am
set_option linter.unusedVariables false
set_option linter.unusedSimpArgs false
def shOk (a : S_api_SfShelf) : Prop := (btw 0 1000 a.away ∧ btw 0 1000 a.climb) ∧ (btw 1 2000 a.wide ∧ btw 1 2000 a.high)
open Classical in
noncomputable def shErr (a : S_api_SfShelf) : Int := if shOk a then 0 else 7
open Classical in
noncomputable def mkErr (ncl : Nat) (c n : Int) (s : Str) : Int :=
 if btw 0 ((ncl : Int) - 1) c then (if btw 1 9999 n then (if s.length ≤ 2 then (if isLow s then 0 else 6) else 6) else 7) else 4
open Classical in
theorem r9_Mark_eq {cl : List Str} {sh : List S_api_SfShelf} {bs : List S_api_SfBook} {c n : Int} {s : Str} (hl : cl.length ≤ 1000) : P_r9_Mark cl sh bs c n s = some (mkErr cl.length c n s) := by
 unfold P_r9_Mark;rw [chk_pos (i64_small (by omega)), r9_in_eq, r9_in_eq, andx_some'];unfold mkErr
 by_cases h1 : btw 0 ((cl.length : Int) - 1) c
 ·rw [if_pos h1, decide_eq_true (show _ ∧ _ from h1), if_pos rfl, andx_some']
  by_cases h2 : btw 1 9999 n
  ·rw [if_pos h2, decide_eq_true (show _ ∧ _ from h2), if_pos rfl]
   by_cases h3 : s.length ≤ 2
   ·rw [if_neg (by omega), r9_letters_eq s (by omega), if_pos h3]
    by_cases h4 : isLow s
    ·rw [if_pos h4, decide_eq_true h4]; rfl
    ·rw [if_neg h4, decide_eq_false h4]; rfl
   ·rw [if_pos (by omega), if_neg h3]; rfl
  ·rw [if_neg h2, decide_eq_false (show ¬ (_ ∧ _) from h2), if_neg (by decide)]
 ·rw [if_neg h1, decide_eq_false (show ¬ (_ ∧ _) from h1), if_neg (by decide)]
open Classical in
theorem s9_mark_eq {cl : List Str} {sh : List S_api_SfShelf} {bs : List S_api_SfBook} {c n : Int} {s : Str} (hl : cl.length ≤ 1000) : P_s9_mark cl sh bs c n s = some (mkErr cl.length c n s) := by
 unfold P_s9_mark;rw [chk_pos (i64_small (by omega)), s9_out1, s9_out1, andx_some'];unfold mkErr
 by_cases h1 : btw 0 ((cl.length : Int) - 1) c
 ·rw [if_pos h1, decide_eq_false (not_not_intro h1), if_neg (by decide), andx_some']
  by_cases h2 : btw 1 9999 n
  ·rw [if_pos h2, decide_eq_false (not_not_intro h2), if_neg (by decide)]
   by_cases h3 : s.length ≤ 2
   ·rw [if_neg (by omega), if_pos h3];rw [iter_scan (fun k : Nat => k) (fun i => if lowerN (byteAt s i) then none else some 6) s.length (fun _ => rfl), seqx_scan, find_if]
    ·by_cases h : ∀ j, j < s.length → lowerN (byteAt s j)
     ·rw [if_pos h, if_pos (show isLow s from h)]
     ·rw [if_neg h, if_neg (show ¬ isLow s from h)]
    ·intro k hk hj;unfold P_s9_mark_L1;rw [if_pos hk]
     show _ = some (scanS (k + 1) _)
     have hb := byteAt_lt s (k : Int);unfold lowerN
     rcases rune_low hk with ⟨h1, h2⟩ | ⟨h1, h2⟩
     ·rw [h1, h2];generalize byteAt s (k : Int) = x
      by_cases a1 : x < 97
      ·rw [if_pos a1, if_neg (show ¬ (97 ≤ x ∧ x ≤ 122) by omega)]; rfl
      ·rw [if_neg a1]
       by_cases a2 : x > 122
       ·rw [if_neg (show ¬ (97 ≤ x ∧ x ≤ 122) by omega), decide_eq_true a2]; rfl
       ·rw [if_pos (show (97 ≤ x ∧ x ≤ 122) by omega), decide_eq_false a2]; rfl
     ·generalize byteAt s (k : Int) = x at *;generalize runeAt s k = y at *;rw [if_neg (show ¬ (97 ≤ x ∧ x ≤ 122) by omega), if_neg (show ¬ y < 97 by omega), decide_eq_true (show y > 122 by omega)]; rfl
    ·intro hj;unfold P_s9_mark_L1;rw [if_neg (by omega)]
   ·rw [if_pos (by omega), if_neg h3]
  ·rw [if_neg h2, decide_eq_true h2, if_pos rfl]
 ·rw [if_neg h1, decide_eq_true h1, if_pos rfl]
def sameMark (a : S_api_SfBook) (c n : Int) (s : Str) : Prop := a.mark_class = c ∧ a.mark_number = n ∧ a.mark_suffix = s
def twice (l : List S_api_SfBook) (c n : Int) (s : Str) : Prop := ∃ j, j < l.length ∧ ∃ a, l[j]? = some a ∧ sameMark a c n s
def bkRange (w h y : Int) : Prop := btw 1 2000 w ∧ btw 1 2000 h ∧ btw 1 100 y
open Classical in
noncomputable def bkErr1 (ncl : Nat) (c n : Int) (s : Str) (w h y : Int) (before : List S_api_SfBook) : Int :=
 if mkErr ncl c n s = 0 then (if bkRange w h y then (if twice before c n s then 5 else 0) else 7) else mkErr ncl c n s
open Classical in
theorem r9_Book_eq {cl : List Str} {sh : List S_api_SfShelf} {bs : List S_api_SfBook} {c n : Int} {s : Str} {w h y p : Int} {before : List S_api_SfBook} (hl : cl.length ≤ 1000) (hb : before.length ≤ 1000) :
  P_r9_Book cl sh bs c n s w h y p before = some (bkErr1 cl.length c n s w h y before) := by
 refine Ok.get ?_;unfold P_r9_Book;rw [r9_Mark_eq hl, andx_some'];simp only [r9_in_eq];generalize he : mkErr cl.length c n s = e0;refine Ok.andx (P := fun e => e = if e0 = 0 then (if bkRange w h y then 0 else 7) else e0) ?_ ?_
 ·by_cases h0 : e0 = 0
  ·simp only [h0, if_true, andx]
   by_cases h1 : btw 1 2000 w
   ·have h1' : 1 ≤ w ∧ w ≤ 2000 := h1;simp only [h1', and_self, decide_true, if_true]
    by_cases h2 : btw 1 2000 h
    ·have h2' : 1 ≤ h ∧ h ≤ 2000 := h2;simp only [h2', and_self, decide_true, if_true]
     by_cases h3 : btw 1 100 y
     ·have h3' : 1 ≤ y ∧ y ≤ 100 := h3;simp only [h3', and_self, decide_true, Bool.not_true, Bool.false_eq_true, if_false];refine .some ?_;rw [if_pos (show bkRange w h y from ⟨h1, h2, h3⟩)]
     ·have h3' : ¬ (1 ≤ y ∧ y ≤ 100) := h3;simp only [h3', decide_false, Bool.not_false, if_true];refine .some ?_;rw [if_neg (show ¬ bkRange w h y from fun k => h3 k.2.2)]
    ·have h2' : ¬ (1 ≤ h ∧ h ≤ 2000) := h2;simp only [h2', decide_false, Bool.false_eq_true, if_false, if_true];refine .some ?_;rw [if_neg (show ¬ bkRange w h y from fun k => h2 k.2.1)]
   ·have h1' : ¬ (1 ≤ w ∧ w ≤ 2000) := h1;simp only [h1', decide_false, Bool.false_eq_true, if_false, if_true];refine .some ?_;rw [if_neg (show ¬ bkRange w h y from fun k => h1 k.1)]
  ·simp only [h0, if_false, andx, Bool.false_eq_true];exact .some rfl
 ·rintro e hee;refine Ok.andx (P := fun r => r = bkErr1 cl.length c n s w h y before) ?_ (fun r hr => .some hr)
  have fin : bkErr1 cl.length c n s w h y before = if e = 0 then (if twice before c n s then 5 else 0) else e := by
   unfold bkErr1;rw [he]
   by_cases h0 : e0 = 0
   ·rw [if_pos h0]
    by_cases h1 : bkRange w h y
    ·rw [if_pos h1, hee, if_pos h0, if_pos h1, if_pos rfl]
    ·rw [if_neg h1, hee, if_pos h0, if_neg h1]; rfl
   ·rw [if_neg h0, hee, if_neg h0, if_neg h0]
  rw [fin];refine Ok.iter (fun (x : Int × Int) => 0 ≤ x.2 ∧ x.2 ≤ before.length ∧ ((x.1 = e ∧ (e ≠ 0 ∨ ∀ j : Nat, j < x.2 → ∀ a, before[j]? = some a → ¬ sameMark a c n s)) ∨ (e = 0 ∧ x.1 = 5 ∧ twice before c n s))) (fun x => (before.length - x.2).toNat) ⟨by simp, by simp, .inl ⟨rfl, .inr fun j hj => by simp at hj; omega⟩⟩ ?_;rintro ⟨e2, i⟩ ⟨h1, h2, h3⟩;obtain ⟨k, hk⟩ := Int.eq_ofNat_of_zero_le h1;simp only at hk h1 h2 h3;subst hk;unfold P_r9_Book_L1
  show Ok (seqx _ _) _;refine Ok.seqx ?_
  by_cases hlt : (k : Int) < before.length
  ·rw [if_pos hlt]
   by_cases he2 : e2 = 0
   ·rw [decide_eq_true he2];refine .some ?_
    show Ok (andx _ _) _;obtain ⟨a, ha⟩ := get_some (l := before) (k := k) (by omega);refine Ok.andx (P := fun e3 => (sameMark a c n s ∧ e3 = 5) ∨ (¬ sameMark a c n s ∧ e3 = e2)) ?_ ?_
    ·rw [el_at ha];exact .ite (fun h => .some (.inl ⟨h, rfl⟩)) (fun h => .some (.inr ⟨h, rfl⟩))
    ·rintro e3 h4;refine .chk (i64_small (by omega)) (.some ⟨⟨by show (0:Int) ≤ (k : Int) + 1; omega, by show (k : Int) + 1 ≤ _; omega, ?_⟩, by show ((before.length : Int) - ((k : Int) + 1)).toNat < ((before.length : Int) - (k : Int)).toNat; omega⟩)
     rcases h3 with ⟨h5, h6⟩ | ⟨h5, h6, h7⟩
     ·have e00 : e = 0 := h5.symm.trans he2
      rcases h4 with ⟨h8, h9⟩ | ⟨h8, h9⟩
      ·exact .inr ⟨e00, h9, k, by omega, a, ha, h8⟩
      ·refine .inl ⟨h9.trans h5, .inr fun j hj a' ha' => ?_⟩
       by_cases hjk : j = k
       ·subst hjk; rw [ha] at ha'; cases ha'; exact h8
       ·rcases h6 with h6 | h6
        ·exact absurd e00 h6
        ·exact h6 j (by simp only at hj; omega) a' ha'
     ·exact absurd (h6.symm.trans he2) (by decide)
   ·rw [decide_eq_false he2];refine .some ?_
    show e2 = _
    rcases h3 with ⟨h5, h6⟩ | ⟨h5, h6, h7⟩
    ·rw [if_neg (fun h => he2 (h5.trans h)), h5]
    ·rw [if_pos h5, if_pos h7, h6]
  ·rw [if_neg hlt];refine .some ?_
   show e2 = _
   rcases h3 with ⟨h5, h6⟩ | ⟨h5, h6, h7⟩
   ·by_cases he0 : e = 0
    ·rw [if_pos he0, if_neg, h5, he0];rintro ⟨j, hj, a, ha, hs⟩
     rcases h6 with h6 | h6
     ·exact h6 he0
     ·exact h6 j (by omega) a ha hs
    ·rw [if_neg he0, h5]
   ·rw [if_pos h5, if_pos h7, h6]
def bookHit (l : List S_api_SfBook) (c n : Int) (s : Str) (i : Nat) : Prop := ∃ a, l[i]? = some a ∧ sameMark a c n s
def bookMiss (l : List S_api_SfBook) (c n : Int) (s : Str) (i : Nat) : Prop := ¬ bookHit l c n s i
open Classical in
theorem s9_book_eq {cl : List Str} {sh : List S_api_SfShelf} {bs : List S_api_SfBook} {c n : Int} {s : Str} {w h y p : Int} {before : List S_api_SfBook} (hl : cl.length ≤ 1000) (hb : before.length ≤ 1000) :
  P_s9_book cl sh bs c n s w h y p before = some (bkErr1 cl.length c n s w h y before) := by
 unfold P_s9_book;rw [s9_mark_eq hl, andx_some'];unfold bkErr1
 by_cases h0 : mkErr cl.length c n s = 0
 ·rw [if_pos h0, if_neg (not_not_intro h0), s9_out2, s9_out1, andx_some', andx_some']
  by_cases h1 : btw 1 2000 w ∧ btw 1 2000 h
  ·rw [decide_eq_false (not_not_intro h1), if_neg (by decide), andx_some']
   by_cases h2 : btw 1 100 y
   ·rw [decide_eq_false (not_not_intro h2), if_neg (by decide), if_pos (show bkRange w h y from ⟨h1.1, h1.2, h2⟩)];rw [iter_scanI (fun i => if bookMiss before c n s i then none else some (i : Int)) before.length, seqx_scan]
    ·rcases find_idx (P := bookMiss before c n s) (n := before.length) with ⟨h, e⟩ | ⟨h, k, hk, e⟩
     ·rw [e, if_neg (show ¬ twice before c n s from fun ⟨j, hj, a, ha, hs⟩ => h j hj ⟨a, ha, hs⟩)];rfl
     ·rw [e, if_pos (show twice before c n s from ?_)]
      ·show seqx (if k ≥ 0 then _ else _) _ = _;rw [if_pos (by omega)]; rfl
      ·refine Classical.byContradiction fun hn => h fun j hj ⟨a, ha, hs⟩ => hn ⟨j, hj, a, ha, hs⟩
    ·intro k hk _;unfold P_s9_book_L1;obtain ⟨a, ha⟩ := get_some hk;rw [if_pos (by omega), el_at ha, chk_pos (i64_small (by omega))]
     by_cases hs : sameMark a c n s
     ·rw [if_pos (show _ ∧ _ from hs), if_neg (show ¬ bookMiss before c n s k from not_not_intro ⟨a, ha, hs⟩)]; rfl
     ·rw [if_neg (show ¬ (_ ∧ _) from hs), if_pos (show bookMiss before c n s k from fun ⟨a', ha', hs'⟩ => by rw [ha] at ha'; cases ha'; exact hs hs')]; rfl
    ·intro _;unfold P_s9_book_L1;rw [if_neg (by omega)]
   ·rw [decide_eq_true h2, if_pos rfl, if_neg (show ¬ bkRange w h y from fun k => h2 k.2.2)]; rfl
  ·rw [decide_eq_true h1, if_pos rfl, andx_some', if_pos rfl, if_neg (show ¬ bkRange w h y from fun k => h1 ⟨k.1, k.2.1⟩)]; rfl
 ·rw [if_neg h0, if_pos h0]
end Go.Am
end
section
namespace Go.Am
set_option linter.unusedVariables false
set_option linter.unusedSimpArgs false
noncomputable def errAt {α : Type} (l : List α) (g : Nat → α → Int) (i : Nat) : Int := match l[i]? with | some a => g i a | none => 0
theorem errAt_of {α : Type} {l : List α} {g : Nat → α → Int} {i : Nat} {a : α} (h : l[i]? = some a) : errAt l g i = g i a := by unfold errAt; rw [h]
noncomputable def errF (f : Nat → Int) (i : Nat) : Option (Int × Int) := if f i = 0 then none else some ((i : Int), f i)
noncomputable def errG (c : Int) (f : Nat → Int) (i : Nat) : Option (Int × Int × Int) := if f i = 0 then none else some (c, (i : Int), f i)
noncomputable def firstE (f : Nat → Int) (n : Nat) : Option (Int × Int) := (List.range n).findSome? (errF f)
theorem first_fail {f : Nat → Int} : ∀ n : Nat, (∀ j, j < n → f j = 0) ∨ ∃ k, k < n ∧ f k ≠ 0 ∧ ∀ j, j < k → f j = 0 := by
 intro n
 induction n with
 | zero => exact .inl fun j hj => by omega
 | succ n ih =>
  rcases ih with h | ⟨k, h1, h2, h3⟩
  ·by_cases hn : f n = 0
   ·exact .inl fun j hj => by
     by_cases e : j = n
     ·rw [e]; exact hn
     ·exact h j (by omega)
   ·exact .inr ⟨n, by omega, hn, h⟩
  ·exact .inr ⟨k, by omega, h2, h3⟩
theorem firstE_cases (f : Nat → Int) (n : Nat) : (firstE f n = none ∧ (∀ c, (List.range n).findSome? (errG c f) = none) ∧ ∀ j, j < n → f j = 0) ∨
  ∃ k, k < n ∧ f k ≠ 0 ∧ firstE f n = some ((k : Int), f k) ∧ (∀ c, (List.range n).findSome? (errG c f) = some (c, (k : Int), f k)) := by
 rcases first_fail (f := f) n with h | ⟨k, h1, h2, h3⟩
 ·exact .inl ⟨find_none fun j hj => if_pos (h j hj), fun c => find_none fun j hj => if_pos (h j hj), h⟩
 ·exact .inr ⟨k, h1, h2, find_range h1 (fun j hj => if_pos (h3 j hj)) (if_neg h2), fun c => find_range h1 (fun j hj => if_pos (h3 j hj)) (if_neg h2)⟩
theorem loopR {c : Int} {f : Nat → Int} {n : Nat} {k : Unit → Option (Int × Int × Int)} : seqx (some (scanX (errG c f) n)) k = match firstE f n with | some p => some (c, p.1, p.2) | none => k () := by
 rw [seqx_scan]
 rcases firstE_cases f n with ⟨h1, h2, h3⟩ | ⟨i, h1, h2, h3, h4⟩
 ·rw [h1, h2 c]
 ·rw [h3, h4 c]
theorem loopS {c : Int} {f : Nat → Int} {n : Nat} {k : Option (Int × Int × Int)} {K : Int × Int → Option (Int × Int × Int)} (hK : ∀ p, K p = if ¬ p.2 = 0 then some (c, p.1, p.2) else k) :
  andx (seqx (some (scanX (errF f) n)) fun _ => some (0, 0)) K = match firstE f n with | some p => some (c, p.1, p.2) | none => k := by
 rw [seqx_scan]
 rcases firstE_cases f n with ⟨h1, h2, h3⟩ | ⟨i, h1, h2, h3, h4⟩
 ·rw [h1, show (List.range n).findSome? (errF f) = none from h1]
  show K (0, 0) = k;rw [hK, if_neg (not_not_intro rfl)]
 ·rw [h3, show (List.range n).findSome? (errF f) = _ from h3]
  show K _ = _;rw [hK, if_pos h2]
theorem body_err {A : Type} {e : Int} {v : A} {k : Nat} (hk : k ≤ 1000) : (if ¬ e = 0 then some (Stp.dn (Ex.rt v)) else chk (I64 ((k : Int) + 1)) (some (Stp.ag ((k : Int) + 1)))) = some (scanS ((k : Int) + 1) (if e = 0 then (none : Option A) else some v)) := by
 rw [chk_pos (i64_small (by omega))]
 by_cases h : e = 0
 ·rw [if_neg (not_not_intro h), if_pos h]; rfl
 ·rw [if_pos h, if_neg h]; rfl
theorem take_sub {α : Type} (l : List α) (k : Nat) : List.take ((k : Int) - (0 : Int)).toNat (List.drop ((0 : Int) : Int).toNat l) = l.take k := by
 simp
theorem r9_L1_eq {cl : List Str} (hl : cl.length ≤ 1000) : iter (P_r9_Check_L1 cl) 0 = some (scanX (errG 1 (errAt cl (clErr cl))) cl.length) := by
 refine iter_scanI _ _ (fun k hk _ => ?_) (fun _ => ?_)
 ·unfold P_r9_Check_L1;obtain ⟨a, ha⟩ := get_some hk;rw [if_pos (by omega), el_at ha, chk_pos (by omega), take_sub, r1_Fresh_eq _ _ _ hl, andx_some', body_err (by omega)];unfold errG;rw [errAt_of ha]
 ·unfold P_r9_Check_L1;rw [if_neg (by omega)]
def clHit (l : List Str) (w : Str) (i : Nat) : Prop := ∃ a, l[i]? = some a ∧ w = a
def clMiss (l : List Str) (w : Str) (i : Nat) : Prop := ¬ clHit l w i
open Classical in
theorem s9_L2_eq {cl : List Str} {k : Nat} {w : Str} (hl : cl.length ≤ 1000) : iter (P_s9_Check_L2 cl (k : Int) w) 0 = some (scanX (fun i => if clMiss (cl.take k) w i then none else some (i : Int)) (cl.take k).length) := by
 have hle : (cl.take k).length ≤ 1000 := by rw [List.length_take]; omega
 refine iter_scanI _ _ (fun j hj _ => ?_) (fun _ => ?_)
 ·unfold P_s9_Check_L2;rw [take_sub];obtain ⟨a, ha⟩ := get_some hj;rw [if_pos (by omega), el_at ha, chk_pos (i64_small (by omega))]
  by_cases h : w = a
  ·rw [if_pos h, if_neg (show ¬ clMiss _ _ _ from not_not_intro ⟨a, ha, h⟩)]; rfl
  ·rw [if_neg h, if_pos (show clMiss _ _ _ from fun ⟨a', ha', hs'⟩ => by rw [ha] at ha'; cases ha'; exact h hs')]; rfl
 ·unfold P_s9_Check_L2;rw [take_sub, if_neg (by omega)]
open Classical in
theorem s9_L1_eq {cl : List Str} (hl : cl.length ≤ 1000) : iter (P_s9_Check_L1 cl) 0 = some (scanX (errF (errAt cl (clErr cl))) cl.length) := by
 refine iter_scanI _ _ (fun k hk _ => ?_) (fun _ => ?_)
 ·unfold P_s9_Check_L1;obtain ⟨a, ha⟩ := get_some hk;rw [if_pos (by omega), el_at ha]
  have e : (andx (P_q_Name a) fun y8 => if y8 = true then chk (0 ≤ (0 : Int) ∧ (0 : Int) ≤ (k : Int) ∧ (k : Int) ≤ (cl.length : Int)) (andx (seqx (iter (P_s9_Check_L2 cl (k : Int) a) 0) fun _ => some (-1)) fun y7 => if y7 ≥ 0 then some 5 else some 0) else some 6) = some (clErr cl k a) := by
   rw [q_Name_eq, andx_some'];unfold clErr
   by_cases hn : isName a
   ·rw [decide_eq_true hn, if_pos rfl, if_pos hn, chk_pos (by omega), s9_L2_eq hl, seqx_scan]
    rcases find_idx (P := clMiss (cl.take k) a) (n := (cl.take k).length) with ⟨h, e⟩ | ⟨h, i, hi, e⟩
    ·rw [e, if_neg]
     ·rfl
     ·intro hm;obtain ⟨j, hj⟩ := List.getElem?_of_mem hm;exact h j (List.getElem?_eq_some_iff.1 hj).1 ⟨a, hj, rfl⟩
    ·rw [e, if_pos]
     ·show (if i ≥ 0 then _ else _) = _;rw [if_pos (by omega)]
     ·refine Classical.byContradiction fun hn => h fun j hj ⟨a', ha', hs⟩ => hn ?_
      rw [hs];exact List.mem_of_getElem? ha'
   ·rw [decide_eq_false hn, if_neg (by decide), if_neg hn]
  rw [e, andx_some', body_err (by omega)];unfold errF;rw [errAt_of ha]
 ·unfold P_s9_Check_L1;rw [if_neg (by omega)]
open Classical in
theorem r9_L2_eq {sh : List S_api_SfShelf} (hl : sh.length ≤ 1000) : iter (P_r9_Check_L2 sh) 0 = some (scanX (errG 2 (errAt sh fun _ => shErr)) sh.length) := by
 refine iter_scanI _ _ (fun k hk _ => ?_) (fun _ => ?_)
 ·unfold P_r9_Check_L2;obtain ⟨a, ha⟩ := get_some hk;rw [if_pos (by omega), el_at ha, chk_pos (i64_small (by omega))];simp only [r9_in_eq];unfold errG;rw [errAt_of ha];unfold shErr
  by_cases h1 : 0 ≤ a.away ∧ a.away ≤ 1000
  ·by_cases h2 : 0 ≤ a.climb ∧ a.climb ≤ 1000
   ·by_cases h3 : 1 ≤ a.wide ∧ a.wide ≤ 2000
    ·by_cases h4 : 1 ≤ a.high ∧ a.high ≤ 2000
     ·rw [if_pos (show shOk a from ⟨⟨h1, h2⟩, h3, h4⟩)];simp [andx, seqx, scanS, h1, h2, h3, h4]
     ·rw [if_neg (show ¬ shOk a from fun h => h4 h.2.2)];simp only [andx, seqx, scanS, decide_eq_true h1, decide_eq_true h2, decide_eq_true h3, decide_eq_false h4]; rfl
    ·rw [if_neg (show ¬ shOk a from fun h => h3 h.2.1)];simp only [andx, seqx, scanS, decide_eq_true h1, decide_eq_true h2, decide_eq_false h3]; rfl
   ·rw [if_neg (show ¬ shOk a from fun h => h2 h.1.2)];simp only [andx, seqx, scanS, decide_eq_true h1, decide_eq_false h2]; rfl
  ·rw [if_neg (show ¬ shOk a from fun h => h1 h.1.1)];simp only [andx, seqx, scanS, decide_eq_false h1]; rfl
 ·unfold P_r9_Check_L2;rw [if_neg (by omega)]
open Classical in
theorem s9_L3_eq {sh : List S_api_SfShelf} (hl : sh.length ≤ 1000) : iter (P_s9_Check_L3 sh) 0 = some (scanX (errF (errAt sh fun _ => shErr)) sh.length) := by
 refine iter_scanI _ _ (fun k hk _ => ?_) (fun _ => ?_)
 ·unfold P_s9_Check_L3;obtain ⟨a, ha⟩ := get_some hk;rw [if_pos (by omega), el_at ha];simp only [s9_out2, andx_some'];rw [show (seqx (andx (if decide (¬ (btw 0 1000 a.away ∧ btw 0 1000 a.climb)) = true then some true else some (decide (¬ (btw 1 2000 a.wide ∧ btw 1 2000 a.high)))) fun x18 => if x18 = true then some (Ex.rt 7) else some (Ex.nx ())) fun _ => some 0) = some (shErr a) from ?_, andx_some', body_err (by omega)]
  ·unfold errF;rw [errAt_of ha]
  ·unfold shErr
   by_cases h1 : btw 0 1000 a.away ∧ btw 0 1000 a.climb
   ·rw [decide_eq_false (not_not_intro h1), if_neg (by decide)]
    by_cases h2 : btw 1 2000 a.wide ∧ btw 1 2000 a.high
    ·rw [decide_eq_false (not_not_intro h2), if_pos (show shOk a from ⟨h1, h2⟩)]; rfl
    ·rw [decide_eq_true h2, if_neg (show ¬ shOk a from fun h => h2 h.2)]; rfl
   ·rw [decide_eq_true h1, if_pos rfl, if_neg (show ¬ shOk a from fun h => h1 h.1)]; rfl
 ·unfold P_s9_Check_L3;rw [if_neg (by omega)]
def below (bs : List S_api_SfBook) (i : Nat) (b : S_api_SfBook) : Prop := 0 < i ∧ ∃ c, bs[i - 1]? = some c ∧ b.shelf < c.shelf
noncomputable def bkE0 (ncl : Nat) (bs : List S_api_SfBook) (i : Nat) (b : S_api_SfBook) : Int := bkErr1 ncl b.mark_class b.mark_number b.mark_suffix b.wide b.high b.heavy (bs.take i)
open Classical in
noncomputable def bkErr (ncl nsh : Nat) (bs : List S_api_SfBook) (i : Nat) (b : S_api_SfBook) : Int :=
 if bkE0 ncl bs i b = 0 then (if btw 0 ((nsh : Int) - 1) b.shelf then (if below bs i b then 2 else 0) else 4) else bkE0 ncl bs i b
open Classical in
theorem below_eq {bs : List S_api_SfBook} {k : Nat} {b : S_api_SfBook} (hl : bs.length ≤ 1000) (hk : k < bs.length) :
  (if (k : Int) > 0 then chk (I64 ((k : Int) - 1)) (el bs ((k : Int) - 1) fun a => some (decide (b.shelf < a.shelf))) else some false) = some (decide (below bs k b)) := by
 by_cases h : (k : Int) > 0
 ·rw [if_pos h, chk_pos (i64_small (by omega))];obtain ⟨a, ha⟩ := get_some (l := bs) (k := k - 1) (by omega)
  have e : (k : Int) - 1 = ((k - 1 : Nat) : Int) := by omega
  rw [e, el_at ha]
  congr 1
  refine decide_eq_decide.2 ⟨fun h' => ⟨by omega, a, ha, h'⟩, fun ⟨_, c, hc, h'⟩ => by rw [ha] at hc; cases hc; exact h'⟩
 ·rw [if_neg h, decide_eq_false];exact fun h' => h (by have := h'.1; omega)
open Classical in
theorem r9_L3_eq {cl : List Str} {sh : List S_api_SfShelf} {bs : List S_api_SfBook} (hc : cl.length ≤ 1000) (hs : sh.length ≤ 1000) (hl : bs.length ≤ 1000) :
  iter (P_r9_Check_L3 cl sh bs) 0 = some (scanX (errG 3 (errAt bs (bkErr cl.length sh.length bs))) bs.length) := by
 refine iter_scanI _ _ (fun k hk _ => ?_) (fun _ => ?_)
 ·unfold P_r9_Check_L3;obtain ⟨b, hb⟩ := get_some hk;rw [if_pos (by omega), el_at hb, chk_pos (by omega), take_sub, r9_Book_eq hc (by rw [List.length_take]; omega), andx_some', chk_pos (show I64 ((sh.length : Int) - 1) from i64_small (by omega)), chk_pos (show I64 ((k : Int) + 1) from i64_small (by omega))];rw [below_eq hl hk];unfold errG;rw [errAt_of hb];unfold bkErr
  change _ = some (scanS _ _)
  rw [show bkErr1 cl.length b.mark_class b.mark_number b.mark_suffix b.wide b.high b.heavy (bs.take k) = bkE0 cl.length bs k b from rfl];simp only [r9_in_eq];generalize bkE0 cl.length bs k b = e0
  by_cases h0 : e0 = 0
  ·subst h0
   by_cases h1 : btw 0 ((sh.length : Int) - 1) b.shelf
   ·have h1' : 0 ≤ b.shelf ∧ b.shelf ≤ (sh.length : Int) - 1 := h1
    by_cases h2 : below bs k b
    ·simp only [h1, h1', h2, if_true, andx, seqx, decide_true, Bool.not_true, Bool.false_eq_true, if_false, scanS, and_self]; rfl
    ·simp only [h1, h1', h2, if_true, andx, seqx, decide_true, decide_false, Bool.not_true, Bool.false_eq_true, if_false, scanS, and_self]; rfl
   ·have h1' : ¬ (0 ≤ b.shelf ∧ b.shelf ≤ (sh.length : Int) - 1) := h1;simp only [h1, h1', if_true, andx, seqx, decide_false, Bool.not_false, Bool.false_eq_true, if_false, scanS]; rfl
  ·simp only [h0, if_false, andx, seqx, Bool.false_eq_true, not_false_iff, if_true, scanS]
 ·unfold P_r9_Check_L3;rw [if_neg (by omega)]
open Classical in
theorem s9_L4_eq {cl : List Str} {sh : List S_api_SfShelf} {bs : List S_api_SfBook} (hc : cl.length ≤ 1000) (hs : sh.length ≤ 1000) (hl : bs.length ≤ 1000) :
  iter (P_s9_Check_L4 cl sh bs) 0 = some (scanX (errF (errAt bs (bkErr cl.length sh.length bs))) bs.length) := by
 refine iter_scanI _ _ (fun k hk _ => ?_) (fun _ => ?_)
 ·unfold P_s9_Check_L4;obtain ⟨b, hb⟩ := get_some hk;rw [if_pos (by omega), el_at hb, chk_pos (by omega), take_sub, s9_book_eq hc (by rw [List.length_take]; omega), andx_some', chk_pos (i64_small (by omega)), s9_out1, andx_some'];rw [below_eq hl hk]
  have e : (seqx (if ¬ bkE0 cl.length bs k b = 0 then some (Ex.rt (bkE0 cl.length bs k b)) else if decide (¬ btw 0 ((sh.length : Int) - 1) b.shelf) = true then some (Ex.rt 4) else andx (some (decide (below bs k b))) fun x28 => if x28 = true then some (Ex.rt 2) else some (Ex.nx ())) fun (_ : Unit) => some 0) = some (bkErr cl.length sh.length bs k b) := by
   unfold bkErr;generalize bkE0 cl.length bs k b = e0
   by_cases h0 : e0 = 0
   ·rw [if_neg (not_not_intro h0), if_pos h0]
    by_cases h1 : btw 0 ((sh.length : Int) - 1) b.shelf
    ·rw [decide_eq_false (not_not_intro h1), if_neg (by decide), if_pos h1]
     by_cases h2 : below bs k b
     ·rw [decide_eq_true h2, if_pos h2]; rfl
     ·rw [decide_eq_false h2, if_neg h2]; rfl
    ·rw [decide_eq_true h1, if_pos rfl, if_neg h1]; rfl
   ·rw [if_pos h0, if_neg h0]; rfl
  refine (congrArg (fun z => andx z _) e).trans ?_;rw [andx_some', body_err (by omega)];unfold errF;rw [errAt_of hb]
 ·unfold P_s9_Check_L4;rw [if_neg (by omega)]
end Go.Am
end
section
namespace Go.Am
set_option linter.unusedVariables false
set_option linter.unusedSimpArgs false
def wideOn (i : Int) : List S_api_SfBook → Int
 | [] => 0
 | b :: r => (if b.shelf = i then b.wide else 0) + wideOn i r
theorem wideOn_append (i : Int) (l r : List S_api_SfBook) : wideOn i (l ++ r) = wideOn i l + wideOn i r := by
 induction l with
 | nil => simp [wideOn]
 | cons b l ih => simp [wideOn, ih]; omega
def Wides (l : List S_api_SfBook) : Prop := ∀ b ∈ l, 1 ≤ b.wide ∧ b.wide ≤ 2000
theorem wideOn_nonneg {i : Int} {l : List S_api_SfBook} (h : Wides l) : 0 ≤ wideOn i l ∧ wideOn i l ≤ 2000 * l.length := by
 induction l with
 | nil => simp [wideOn]
 | cons b l ih =>
  have h1 := ih fun c hc => h c (by simp [hc])
  have h2 := h b (by simp);simp only [wideOn, List.length_cons];split <;> omega
theorem take_step {α : Type} {l : List α} {k : Nat} {a : α} (h : l[k]? = some a) : l.take (k + 1) = l.take k ++ [a] := by rw [List.take_add_one, h]; rfl
theorem wideOn_step {i : Int} {l : List S_api_SfBook} {k : Nat} {b : S_api_SfBook} (h : l[k]? = some b) : wideOn i (l.take (k + 1)) = wideOn i (l.take k) + (if b.shelf = i then b.wide else 0) := by
 rw [take_step h, wideOn_append];simp [wideOn]
theorem wideOn_le {i : Int} {l : List S_api_SfBook} (h : Wides l) (k : Nat) : wideOn i (l.take k) ≤ wideOn i l := by
 have e : wideOn i l = wideOn i (l.take k) + wideOn i (l.drop k) := by rw [← wideOn_append, List.take_append_drop]
 have := (wideOn_nonneg (i := i) (l := l.drop k) fun b hb => h b (List.mem_of_mem_drop hb)).1;omega
theorem wideOn_take {i : Int} {l : List S_api_SfBook} (h : Wides l) (k : Nat) : 0 ≤ wideOn i (l.take k) ∧ wideOn i (l.take k) ≤ 2000 * l.length := by
 have h1 := wideOn_nonneg (i := i) (l := l.take k) fun b hb => h b (List.mem_of_mem_take hb)
 have h2 := wideOn_le (i := i) h k
 have h3 := (wideOn_nonneg (i := i) h).2;omega
def lowOn (i : Int) (high : Int) (l : List S_api_SfBook) : Prop := ∀ b ∈ l, b.shelf = i → b.high ≤ high
def fits (bs : List S_api_SfBook) (i : Nat) (a : S_api_SfShelf) : Prop := lowOn i a.high bs ∧ wideOn i bs ≤ a.wide
open Classical in
noncomputable def fitErr (bs : List S_api_SfBook) (i : Nat) (a : S_api_SfShelf) : Int := if fits bs i a then 0 else 9
theorem lowOn_step {i high : Int} {l : List S_api_SfBook} {k : Nat} {b : S_api_SfBook} (h : l[k]? = some b) (h1 : lowOn i high (l.take k)) (h2 : b.shelf = i → b.high ≤ high) : lowOn i high (l.take (k + 1)) := by
 rw [take_step h];intro c hc hs
 rcases List.mem_append.1 hc with hc | hc
 ·exact h1 c hc hs
 ·rw [List.mem_singleton] at hc; subst hc; exact h2 hs
theorem r9_Own_eq {bs : List S_api_SfBook} (hl : bs.length ≤ 1000) : P_r9_Own bs = some (bs.map (·.shelf)) := by
 refine Ok.get ?_;unfold P_r9_Own;refine Ok.andx (P := fun r => r = bs.map (·.shelf)) ?_ (fun r hr => .some hr);refine Ok.count (fun (x : Int × List Int) => x.1) bs.length (fun k x => x.2 = (bs.take k).map (·.shelf)) rfl rfl ?_ ?_
 ·rintro k ⟨i, out⟩ hk hx hI;simp only at hx hI;subst hx;unfold P_r9_Own_L1;obtain ⟨b, hb⟩ := get_some hk
  show Ok (if _ then _ else _) _;rw [if_pos (by omega), el_at hb];refine .chk ?_ (.chk (i64_small (by omega)) (.some ⟨rfl, ?_⟩))
  ·rw [hI, List.length_map, List.length_take]; simp; omega
  ·show out ++ [b.shelf] = _;rw [take_step hb, List.map_append, hI]; rfl
 ·rintro ⟨i, out⟩ hx hI;simp only at hx hI;subst hx;unfold P_r9_Own_L1
  show Ok (if _ then _ else _) _;rw [if_neg (by omega)];refine .some ?_
  show out = _;rw [hI, List.take_length]
open Classical in
theorem r9_fit_eq {cl : List Str} {sh : List S_api_SfShelf} {bs : List S_api_SfBook} {i : Nat} {a : S_api_SfShelf} (ha : sh[i]? = some a) (hw : 0 ≤ a.wide) (hb : Wides bs) (hl : bs.length ≤ 1000) :
  P_r9_fit cl sh bs bs (bs.map (·.shelf)) (i : Int) = some (decide (fits bs i a)) := by
 refine Ok.get ?_;unfold P_r9_fit;rw [el_at ha];refine Ok.andx (P := fun y => (0 ≤ y ∧ lowOn i a.high bs ∧ y = wideOn i bs) ∨ (y < 0 ∧ ¬ lowOn i a.high bs)) ?_ ?_
 ·unfold P_r9_Filled;refine Ok.seqx ?_;refine Ok.count (fun (x : Int × Int) => x.2) bs.length (fun k x => x.1 = wideOn i (bs.take k) ∧ lowOn i a.high (bs.take k)) rfl ⟨rfl, fun b hb => by simp at hb⟩ ?_ ?_
  ·rintro k ⟨n, j⟩ hk hx ⟨h1, h2⟩;simp only at hx h1 h2;subst hx;obtain ⟨b, hbk⟩ := get_some hk
   have hm : (bs.map (·.shelf))[k]? = some b.shelf := by rw [List.getElem?_map, hbk]; rfl
   unfold P_r9_Filled_L1
   show Ok (if _ then _ else _) _
   have hk1 := wideOn_take (i := i) hb k
   have hk2 := wideOn_take (i := i) hb (k + 1)
   have hst := wideOn_step (i := i) hbk;rw [if_pos (by omega)];refine Ok.seqx ?_;rw [el_at hm]
   by_cases hs : b.shelf = i
   ·rw [if_pos hs] at hst;rw [if_neg (not_not_intro hs), el_at hbk, el_at ha, el_at hbk]
    by_cases hh : b.high > a.high
    ·rw [if_pos hh];refine .some ?_
     show _ ∨ _;refine .inr ⟨by omega, fun h => ?_⟩
     have := h b (List.mem_of_getElem? hbk) hs;omega
    ·rw [if_neg hh];refine .chk (i64_small (by omega)) (.some (.chk (i64_small (by omega)) (.some ⟨rfl, ?_, lowOn_step hbk h2 fun _ => by omega⟩)))
     show n + b.wide = _;omega
   ·rw [if_neg hs] at hst;rw [if_pos hs];refine .some (.chk (i64_small (by omega)) (.some ⟨rfl, ?_, lowOn_step hbk h2 fun h => absurd h hs⟩))
    show n = _;omega
  ·rintro ⟨n, j⟩ hx ⟨h1, h2⟩;simp only at hx h1 h2;subst hx;unfold P_r9_Filled_L1
   show Ok (if _ then _ else _) _;rw [if_neg (by omega)];rw [List.take_length] at h1 h2;refine .some (.some (.inl ⟨?_, h2, h1⟩));rw [h1];exact (wideOn_nonneg hb).1
 ·rintro y hy;rw [r9_in_eq, andx_some'];refine .some ?_;refine decide_eq_decide.2 ?_
  rcases hy with ⟨h0, h1, h2⟩ | ⟨h1, h2⟩
  ·subst h2;exact ⟨fun h => ⟨h1, h.2⟩, fun h => ⟨h0, h.2⟩⟩
  ·exact ⟨fun h => by omega, fun h => absurd h.1 h2⟩
open Classical in
theorem s9_L6_eq {sh : List S_api_SfShelf} {bs : List S_api_SfBook} {i : Nat} {a : S_api_SfShelf} (hw : 0 ≤ a.wide ∧ a.wide ≤ 2000) (hb : Wides bs) (hl : bs.length ≤ 1000) :
  (seqx (iter (P_s9_Check_L6 bs (i : Int) a) (0, a.wide)) fun s_Wide => some 0) = some (fitErr bs i a) := by
 refine Ok.get ?_;refine Ok.seqx ?_;refine Ok.count (fun (x : Int × Int) => x.1) bs.length (fun k x => x.2 = a.wide - wideOn i (bs.take k) ∧ 0 ≤ x.2 ∧ lowOn i a.high (bs.take k)) rfl ⟨?_, hw.1, fun b hb => by simp at hb⟩ ?_ ?_
 ·show a.wide = a.wide - 0; omega
 ·rintro k ⟨j, n⟩ hk hx ⟨h1, h0, h2⟩;simp only at hx h1 h2 h0;subst hx;obtain ⟨b, hbk⟩ := get_some hk;unfold P_s9_Check_L6
  show Ok (if _ then _ else _) _
  have hk1 := wideOn_take (i := i) hb k
  have hk2 := wideOn_take (i := i) hb (k + 1)
  have hle := wideOn_le (i := i) hb (k + 1)
  have hst := wideOn_step (i := i) hbk
  have hbw := hb b (List.mem_of_getElem? hbk);rw [if_pos (by omega)];refine Ok.seqx ?_;rw [el_at hbk]
  by_cases hs : b.shelf = i
  ·rw [if_pos hs] at hst;rw [if_neg (not_not_intro hs), chk_pos (i64_small (by omega))]
   by_cases hn : n - b.wide < 0
   ·rw [if_pos hn, andx_some', if_pos rfl];refine .some ?_
    show 9 = fitErr bs i a;unfold fitErr;rw [if_neg fun h => ?_]
    have := h.2;omega
   ·rw [if_neg hn, andx_some']
    by_cases hh : b.high > a.high
    ·rw [decide_eq_true hh, if_pos rfl];refine .some ?_
     show 9 = fitErr bs i a;unfold fitErr;rw [if_neg fun h => ?_]
     have := h.1 b (List.mem_of_getElem? hbk) hs;omega
    ·rw [decide_eq_false hh, if_neg (by decide)];refine .some (.chk (i64_small (by omega)) (.some ⟨rfl, ?_, ?_, lowOn_step hbk h2 fun _ => by omega⟩))
     ·show n - b.wide = _; omega
     ·show 0 ≤ n - b.wide; omega
  ·rw [if_neg hs] at hst;rw [if_pos hs];refine .some (.chk (i64_small (by omega)) (.some ⟨rfl, ?_, h0, lowOn_step hbk h2 fun h => absurd h hs⟩))
   show n = _;omega
 ·rintro ⟨j, n⟩ hx ⟨h1, h0, h2⟩;simp only at hx h1 h2 h0;subst hx;unfold P_s9_Check_L6
  show Ok (if _ then _ else _) _;rw [if_neg (by omega)];rw [List.take_length] at h1 h2;refine .some (.some ?_)
  show 0 = fitErr bs i a;unfold fitErr;rw [if_pos ⟨h2, by omega⟩]
def ShOk (sh : List S_api_SfShelf) : Prop := ∀ (j : Nat) (a : S_api_SfShelf), sh[j]? = some a → 0 ≤ a.wide ∧ a.wide ≤ 2000
open Classical in
theorem r9_L4_eq {cl : List Str} {sh : List S_api_SfShelf} {bs : List S_api_SfBook} (hs : sh.length ≤ 1000) (hsh : ShOk sh) (hb : Wides bs) (hl : bs.length ≤ 1000) :
  iter (P_r9_Check_L4 cl sh bs) 0 = some (scanX (errG 4 (errAt sh (fitErr bs))) sh.length) := by
 refine iter_scanI _ _ (fun k hk _ => ?_) (fun _ => ?_)
 ·unfold P_r9_Check_L4;obtain ⟨a, ha⟩ := get_some hk
  have hw := hsh k a ha;rw [if_pos (by omega), r9_Own_eq hl, andx_some', r9_fit_eq ha hw.1 hb hl, andx_some', chk_pos (i64_small (by omega))];unfold errG;rw [errAt_of ha];unfold fitErr
  by_cases h : fits bs k a
  ·rw [decide_eq_true h, if_pos h]; rfl
  ·rw [decide_eq_false h, if_neg h]; rfl
 ·unfold P_r9_Check_L4;rw [if_neg (by omega)]
theorem s9_L5_eq {sh : List S_api_SfShelf} {bs : List S_api_SfBook} (hs : sh.length ≤ 1000) (hsh : ShOk sh) (hb : Wides bs) (hl : bs.length ≤ 1000) :
  iter (P_s9_Check_L5 sh bs) 0 = some (scanX (errF (errAt sh (fitErr bs))) sh.length) := by
 refine iter_scanI _ _ (fun k hk _ => ?_) (fun _ => ?_)
 ·unfold P_s9_Check_L5;obtain ⟨a, ha⟩ := get_some hk
  have hw := hsh k a ha;rw [if_pos (by omega), el_at ha, s9_L6_eq (sh := sh) hw hb hl, andx_some', body_err (by omega)];unfold errF;rw [errAt_of ha]
 ·unfold P_s9_Check_L5;rw [if_neg (by omega)]
noncomputable def roomE (cl : List Str) (sh : List S_api_SfShelf) (bs : List S_api_SfBook) : Option (Int × Int × Int) :=
 if 1 ≤ cl.length ∧ cl.length ≤ 6 then
  match firstE (errAt cl (clErr cl)) cl.length with
  | some p => some (1, p.1, p.2)
  | none =>
   if 1 ≤ sh.length ∧ sh.length ≤ 4 then
    match firstE (errAt sh fun _ => shErr) sh.length with
    | some p => some (2, p.1, p.2)
    | none =>
     if bs.length ≤ 10 then
      match firstE (errAt bs (bkErr cl.length sh.length bs)) bs.length with
      | some p => some (3, p.1, p.2)
      | none =>
       match firstE (errAt sh (fitErr bs)) sh.length with
       | some p => some (4, p.1, p.2)
       | none => some (0, 0, 0)
     else some (3, 0, 3)
   else some (2, 0, 3)
 else some (1, 0, 3)
theorem shErr_zero {a : S_api_SfShelf} (h : shErr a = 0) : shOk a := by
 unfold shErr at h;split at h
 ·assumption
 ·cases h
theorem bkErr_zero {ncl nsh : Nat} {bs : List S_api_SfBook} {i : Nat} {b : S_api_SfBook} (h : bkErr ncl nsh bs i b = 0) : bkRange b.wide b.high b.heavy ∧ btw 0 ((nsh : Int) - 1) b.shelf ∧ ¬ below bs i b ∧ ¬ twice (bs.take i) b.mark_class b.mark_number b.mark_suffix ∧ mkErr ncl b.mark_class b.mark_number b.mark_suffix = 0 := by
 unfold bkErr at h;split at h
 ·rename_i h0
  split at h
  ·rename_i h1
   split at h
   ·cases h
   ·rename_i h2
    unfold bkE0 bkErr1 at h0;split at h0
    ·rename_i h3
     split at h0
     ·rename_i h4
      split at h0
      ·cases h0
      ·rename_i h5
       exact ⟨h4, h1, h2, h5, h3⟩
     ·cases h0
    ·rename_i h3; exact absurd h0 h3
  ·cases h
 ·rename_i h0; exact absurd h h0
theorem shOk_all {sh : List S_api_SfShelf} (h : ∀ j, j < sh.length → errAt sh (fun _ => shErr) j = 0) {j : Nat} {a : S_api_SfShelf} (ha : sh[j]? = some a) : shOk a := by
 have := h j (List.getElem?_eq_some_iff.1 ha).1;rw [errAt_of ha] at this;exact shErr_zero this
theorem bk_all {ncl nsh : Nat} {bs : List S_api_SfBook} (h : ∀ j, j < bs.length → errAt bs (bkErr ncl nsh bs) j = 0) {j : Nat} {b : S_api_SfBook} (hb : bs[j]? = some b) : bkErr ncl nsh bs j b = 0 := by
 have := h j (List.getElem?_eq_some_iff.1 hb).1
 rwa [errAt_of hb] at this
theorem wides_all {ncl nsh : Nat} {bs : List S_api_SfBook} (h : ∀ j, j < bs.length → errAt bs (bkErr ncl nsh bs) j = 0) : Wides bs := fun b hb => by
 obtain ⟨j, hj⟩ := List.getElem?_of_mem hb;exact (bkErr_zero (bk_all h hj)).1.1
open Classical in
theorem r9_Check_eq (cl : List Str) (sh : List S_api_SfShelf) (bs : List S_api_SfBook) : P_r9_Check cl sh bs = roomE cl sh bs := by
 unfold P_r9_Check roomE;rw [r9_in_eq, andx_some']
 by_cases h1 : 1 ≤ cl.length ∧ cl.length ≤ 6
 ·rw [if_pos h1, decide_eq_true (by omega), if_pos rfl, r9_L1_eq (by omega), loopR]
  rcases firstE_cases (errAt cl (clErr cl)) cl.length with ⟨e, _, _⟩ | ⟨_, _, _, e, _⟩
  rotate_left
  ·rw [e]
  rw [e]
  show andx _ _ = _;rw [r9_in_eq, andx_some']
  by_cases h2 : 1 ≤ sh.length ∧ sh.length ≤ 4
  ·rw [if_pos h2, decide_eq_true (by omega), if_pos rfl, r9_L2_eq (by omega), loopR]
   rcases firstE_cases (errAt sh fun _ => shErr) sh.length with ⟨e, _, hsh⟩ | ⟨_, _, _, e, _⟩
   rotate_left
   ·rw [e]
   rw [e]
   show (if _ then _ else _) = _
   by_cases h3 : bs.length ≤ 10
   ·rw [if_neg (by omega), r9_L3_eq (by omega) (by omega) (by omega), loopR]
    show _ = if _ then _ else _;rw [if_pos h3]
    rcases firstE_cases (errAt bs (bkErr cl.length sh.length bs)) bs.length with ⟨e, _, hbs⟩ | ⟨_, _, _, e, _⟩
    rotate_left
    ·rw [e]
    rw [e]
    show seqx _ _ = _;rw [r9_L4_eq (by omega) (fun j a ha => by have := (shOk_all hsh ha).2.1; unfold btw at this; omega) (wides_all hbs) (by omega), loopR] <;> rfl
   ·rw [if_pos (by omega)]
    show _ = if _ then _ else _;rw [if_neg h3]
  ·rw [if_neg h2, decide_eq_false (by omega), if_neg (by decide)]
 ·rw [if_neg h1, decide_eq_false (by omega), if_neg (by decide)]
open Classical in
theorem s9_Check_eq (cl : List Str) (sh : List S_api_SfShelf) (bs : List S_api_SfBook) : P_s9_Check cl sh bs = roomE cl sh bs := by
 unfold P_s9_Check roomE;rw [s9_out1, andx_some']
 by_cases h1 : 1 ≤ cl.length ∧ cl.length ≤ 6
 ·rw [if_pos h1, decide_eq_false (not_not_intro (show btw 1 6 (cl.length : Int) from ⟨by omega, by omega⟩)), if_neg (by decide), s9_L1_eq (by omega), loopS (c := 1) (fun _ => rfl)]
  rcases firstE_cases (errAt cl (clErr cl)) cl.length with ⟨e, _, _⟩ | ⟨_, _, _, e, _⟩
  rotate_left
  ·rw [e]
  rw [e]
  show andx _ _ = _;rw [s9_out1, andx_some']
  by_cases h2 : 1 ≤ sh.length ∧ sh.length ≤ 4
  ·rw [if_pos h2, decide_eq_false (not_not_intro (show btw 1 4 (sh.length : Int) from ⟨by omega, by omega⟩)), if_neg (by decide), s9_L3_eq (by omega), loopS (c := 2) (fun _ => rfl)]
   rcases firstE_cases (errAt sh fun _ => shErr) sh.length with ⟨e, _, hsh⟩ | ⟨_, _, _, e, _⟩
   rotate_left
   ·rw [e]
   rw [e]
   show (if _ then _ else _) = _
   by_cases h3 : bs.length ≤ 10
   ·rw [if_neg (by omega), s9_L4_eq (by omega) (by omega) (by omega), loopS (c := 3) (fun _ => rfl)]
    show _ = if _ then _ else _;rw [if_pos h3]
    rcases firstE_cases (errAt bs (bkErr cl.length sh.length bs)) bs.length with ⟨e, _, hbs⟩ | ⟨_, _, _, e, _⟩
    rotate_left
    ·rw [e]
    rw [e]
    show andx _ _ = _;rw [s9_L5_eq (by omega) (fun j a ha => by have := (shOk_all hsh ha).2.1; unfold btw at this; omega) (wides_all hbs) (by omega), loopS (c := 4) (fun _ => rfl)] <;> rfl
   ·rw [if_pos (by omega)]
    show _ = if _ then _ else _;rw [if_neg h3]
  ·rw [if_neg h2, decide_eq_true (show ¬ btw 1 4 (sh.length : Int) from fun h => h2 (by unfold btw at h; omega)), if_pos rfl]
 ·rw [if_neg h1, decide_eq_true (show ¬ btw 1 6 (cl.length : Int) from fun h => h1 (by unfold btw at h; omega)), if_pos rfl]
end Go.Am
end
section
namespace Go.Am
set_option linter.unusedVariables false
set_option linter.unusedSimpArgs false
structure Fine (cl : List Str) (sh : List S_api_SfShelf) (bs : List S_api_SfBook) : Prop where
 cl1 : 1 ≤ cl.length ∧ cl.length ≤ 6
 cl2 : ∀ j, j < cl.length → errAt cl (clErr cl) j = 0
 sh1 : 1 ≤ sh.length ∧ sh.length ≤ 4
 sh2 : ∀ j, j < sh.length → errAt sh (fun _ => shErr) j = 0
 bs1 : bs.length ≤ 10
 bs2 : ∀ j, j < bs.length → errAt bs (bkErr cl.length sh.length bs) j = 0
 fit : ∀ j, j < sh.length → errAt sh (fitErr bs) j = 0
theorem roomE_ok (cl : List Str) (sh : List S_api_SfShelf) (bs : List S_api_SfBook) : ∃ c i e, roomE cl sh bs = some (c, i, e) ∧ (e = 0 ↔ Fine cl sh bs) := by
 unfold roomE
 by_cases h1 : 1 ≤ cl.length ∧ cl.length ≤ 6
 ·rw [if_pos h1]
  rcases firstE_cases (errAt cl (clErr cl)) cl.length with ⟨e, _, h2⟩ | ⟨k, hk, hne, e, _⟩
  rotate_left
  ·rw [e];exact ⟨_, _, _, rfl, fun h => absurd h hne, fun h => absurd (h.cl2 k hk) hne⟩
  rw [e];dsimp only
  by_cases h3 : 1 ≤ sh.length ∧ sh.length ≤ 4
  ·rw [if_pos h3]
   rcases firstE_cases (errAt sh fun _ => shErr) sh.length with ⟨e, _, h4⟩ | ⟨k, hk, hne, e, _⟩
   rotate_left
   ·rw [e];exact ⟨_, _, _, rfl, fun h => absurd h hne, fun h => absurd (h.sh2 k hk) hne⟩
   rw [e];dsimp only
   by_cases h5 : bs.length ≤ 10
   ·rw [if_pos h5]
    rcases firstE_cases (errAt bs (bkErr cl.length sh.length bs)) bs.length with ⟨e, _, h6⟩ | ⟨k, hk, hne, e, _⟩
    rotate_left
    ·rw [e];exact ⟨_, _, _, rfl, fun h => absurd h hne, fun h => absurd (h.bs2 k hk) hne⟩
    rw [e]
    rcases firstE_cases (errAt sh (fitErr bs)) sh.length with ⟨e, _, h7⟩ | ⟨k, hk, hne, e, _⟩
    rotate_left
    ·rw [e];exact ⟨_, _, _, rfl, fun h => absurd h hne, fun h => absurd (h.fit k hk) hne⟩
    rw [e];exact ⟨_, _, _, rfl, fun _ => ⟨h1, h2, h3, h4, h5, h6, h7⟩, fun _ => rfl⟩
   ·rw [if_neg h5];exact ⟨_, _, _, rfl, fun h => absurd h (by decide), fun h => absurd h.bs1 h5⟩
  ·rw [if_neg h3];exact ⟨_, _, _, rfl, fun h => absurd h (by decide), fun h => absurd h.sh1 h3⟩
 ·rw [if_neg h1];exact ⟨_, _, _, rfl, fun h => absurd h (by decide), fun h => absurd h.cl1 h1⟩
section
variable {cl : List Str} {sh : List S_api_SfShelf} {bs : List S_api_SfBook}
theorem Fine.wides (h : Fine cl sh bs) : Wides bs := wides_all h.bs2
theorem Fine.shelf (h : Fine cl sh bs) {j : Nat} {a : S_api_SfShelf} (ha : sh[j]? = some a) : shOk a := shOk_all h.sh2 ha
theorem Fine.book (h : Fine cl sh bs) {j : Nat} {b : S_api_SfBook} (hb : bs[j]? = some b) : 0 ≤ b.shelf ∧ b.shelf < sh.length := by
 have := (bkErr_zero (bk_all h.bs2 hb)).2.1;unfold btw at this; omega
theorem Fine.fits (h : Fine cl sh bs) {j : Nat} {a : S_api_SfShelf} (ha : sh[j]? = some a) : fits bs j a := by
 have := h.fit j (List.getElem?_eq_some_iff.1 ha).1;rw [errAt_of ha] at this;unfold fitErr at this;split at this
 ·assumption
 ·cases this
def Left (sh : List S_api_SfShelf) (bs : List S_api_SfBook) (l : List Int) : Prop := l.length = sh.length ∧ ∀ (j : Nat) (a : S_api_SfShelf), sh[j]? = some a → l[j]? = some (a.wide - wideOn j bs)
theorem s9_Spare_ok (h : Fine cl sh bs) : Ok (P_s9_Spare cl sh bs) fun r => r.2 = 0 ∧ Left sh bs r.1 := by
 obtain ⟨c, i, e, he, hf⟩ := roomE_ok cl sh bs
 have he0 := hf.2 h
 have hb := h.wides;unfold P_s9_Spare P_s9_open;rw [s9_Check_eq, he]
 show Ok (if ¬ e = 0 then _ else _) _
 have hcl := h.cl1
 have hsh := h.sh1
 have hbs := h.bs1;rw [if_neg (not_not_intro he0)];refine Ok.andx (P := fun l => l = sh.map (·.wide)) ?_ ?_
 ·refine Ok.count (fun (x : Int × List Int) => x.1) sh.length (fun k x => x.2 = (sh.take k).map (·.wide)) rfl rfl ?_ ?_
  ·rintro k ⟨i, out⟩ hk hx hI;simp only at hx hI;subst hx;unfold P_s9_Spare_L1;obtain ⟨b, hb⟩ := get_some hk
   show Ok (if _ then _ else _) _;rw [if_pos (by omega), el_at hb];refine .chk ?_ (.chk (i64_small (by omega)) (.some ⟨rfl, ?_⟩))
   ·rw [hI, List.length_map, List.length_take]; simp; omega
   ·show out ++ [b.wide] = _;rw [take_step hb, List.map_append, hI]; rfl
  ·rintro ⟨i, out⟩ hx hI;simp only at hx hI;subst hx;unfold P_s9_Spare_L1
   show Ok (if _ then _ else _) _;rw [if_neg (by omega)];refine .some ?_
   show out = _;rw [hI, List.take_length]
 ·rintro l rfl;refine Ok.andx (P := fun r => Left sh bs r) ?_ (fun r hr => .some ⟨rfl, hr⟩);refine Ok.count (fun (x : Int × List Int) => x.1) bs.length (fun k x => Left sh (bs.take k) x.2) rfl ⟨by simp, fun j a ha => ?_⟩ ?_ ?_
  ·rw [List.getElem?_map, ha];simp [wideOn]
  ·rintro k ⟨i, l⟩ hk hx hI;simp only at hx hI;subst hx;unfold P_s9_Spare_L2;obtain ⟨b, hbk⟩ := get_some hk;obtain ⟨h0, h1⟩ := h.book hbk;obtain ⟨s, hs⟩ := Int.eq_ofNat_of_zero_le h0;obtain ⟨a, ha⟩ := get_some (l := sh) (k := s) (by omega)
   have hl := hI.2 s a ha
   have hw := (h.shelf ha).2.1
   have hbw := hb b (List.mem_of_getElem? hbk)
   have htk := wideOn_take (i := s) hb k;unfold btw at hw
   show Ok (if _ then _ else _) _;rw [if_pos (by omega), el_at hbk, hs, el_at hl];refine .chk (i64_small (by omega)) ?_;rw [el_at hl];refine .chk (i64_small (by omega)) (.some ⟨rfl, ?_, ?_⟩)
   ·show (List.set l _ _).length = _;rw [List.length_set]; exact hI.1
   ·intro j a' ha'
    show (List.set l _ _)[j]? = _;rw [List.getElem?_set, wideOn_step hbk, hs];simp only [Int.toNat_natCast]
    have hjl : j < l.length := by rw [hI.1]; exact (List.getElem?_eq_some_iff.1 ha').1
    by_cases e : s = j
    ·subst e;rw [ha] at ha'; cases ha';rw [if_pos rfl, if_pos hjl, if_pos rfl]
     congr 1; omega
    ·rw [if_neg e, hI.2 j a' ha', if_neg (by omega)]
     congr 1; omega
  ·rintro ⟨i, l⟩ hx hI;simp only at hx hI;subst hx;unfold P_s9_Spare_L2
   show Ok (if _ then _ else _) _;rw [if_neg (by omega)];refine .some ?_;rw [List.take_length] at hI;exact hI
theorem s9_Spare_bad (h : ¬ Fine cl sh bs) : Ok (P_s9_Spare cl sh bs) fun r => r.2 ≠ 0 ∧ r.1 = [] := by
 obtain ⟨c, i, e, he, hf⟩ := roomE_ok cl sh bs;unfold P_s9_Spare P_s9_open;rw [s9_Check_eq, he]
 show Ok (if ¬ e = 0 then _ else _) _;rw [if_pos fun h' => h (hf.1 h')];exact .some ⟨fun h' => h (hf.1 h'), rfl⟩
open Classical in
theorem law9_valid_eq : P_law9_valid cl sh bs = some (decide (Fine cl sh bs)) := by
 obtain ⟨c, i, e, he, hf⟩ := roomE_ok cl sh bs;unfold P_law9_valid;rw [r9_Check_eq, he]
 show some _ = some _
 congr 1
 exact decide_eq_decide.2 hf
end
def sumOn (bs : List S_api_SfBook) : Nat → Int
 | 0 => 0
 | n + 1 => sumOn bs n + wideOn n bs
def total : List S_api_SfBook → Int
 | [] => 0
 | b :: r => b.wide + total r
theorem sumOn_nil (n : Nat) : sumOn [] n = 0 := by
 induction n with
 | zero => rfl
 | succ n ih => simp [sumOn, ih, wideOn]
theorem sumOn_cons (b : S_api_SfBook) (r : List S_api_SfBook) (n : Nat) : sumOn (b :: r) n = sumOn r n + (if 0 ≤ b.shelf ∧ b.shelf < n then b.wide else 0) := by
 induction n with
 | zero => rw [if_neg (by omega)]; rfl
 | succ n ih =>
  simp only [sumOn, ih, wideOn]
  by_cases h : b.shelf = n
  ·rw [if_pos h, if_neg (by omega), if_pos (by omega)]; omega
  ·rw [if_neg h]
   by_cases h' : 0 ≤ b.shelf ∧ b.shelf < n
   ·rw [if_pos h', if_pos (by omega)]; omega
   ·rw [if_neg h', if_neg (by omega)]; omega
theorem sumOn_total {n : Nat} : ∀ {bs : List S_api_SfBook}, (∀ b ∈ bs, 0 ≤ b.shelf ∧ b.shelf < n) → sumOn bs n = total bs := by
 intro bs
 induction bs with
 | nil => intro _; exact sumOn_nil n
 | cons b r ih =>
  intro h;rw [sumOn_cons, ih fun c hc => h c (by simp [hc]), if_pos (h b (by simp))];simp [total]; omega
theorem sumOn_bound {bs : List S_api_SfBook} (h : Wides bs) (n : Nat) : 0 ≤ sumOn bs n ∧ sumOn bs n ≤ 2000 * bs.length * n := by
 induction n with
 | zero => simp [sumOn]
 | succ n ih =>
  have := wideOn_nonneg (i := n) h
  have e : (2000 * (bs.length : Int)) * ((n + 1 : Nat) : Int) = 2000 * bs.length * n + 2000 * bs.length := by rw [Int.natCast_add, Int.mul_add]; simp
  simp only [sumOn];omega
theorem total_append (l r : List S_api_SfBook) : total (l ++ r) = total l + total r := by
 induction l with
 | nil => simp [total]
 | cons b l ih => simp [total, ih]; omega
theorem total_bound {bs : List S_api_SfBook} (h : Wides bs) : 0 ≤ total bs ∧ total bs ≤ 2000 * bs.length := by
 induction bs with
 | nil => simp [total]
 | cons b l ih =>
  have h1 := ih fun c hc => h c (by simp [hc])
  have h2 := h b (by simp);simp only [total, List.length_cons];omega
open Classical in
theorem ShelfSpare_true (cl : List Str) (sh : List S_api_SfShelf) (bs : List S_api_SfBook) : P_law_ShelfSpare cl sh bs = some true := by
 refine Ok.get ?_;unfold P_law_ShelfSpare
 by_cases h : Fine cl sh bs
 ·refine (s9_Spare_ok h).andx ?_;rintro ⟨l, e⟩ ⟨he, hL⟩;simp only at he hL;subst he
  have hsh := h.sh1
  have hbs := h.bs1
  have hb := h.wides
  show Ok (andx _ _) _;rw [law9_valid_eq, andx_some', decide_eq_true h, if_pos rfl, if_neg (not_not_intro rfl), decide_eq_false (not_not_intro (by rw [hL.1])), andx_some', if_neg (by decide)];refine Ok.seqx (.some ?_)
  show Ok (seqx _ _) _;refine Ok.seqx ?_;refine Ok.mono (Q := fun x => x = Ex.nx (- sumOn bs sh.length)) ?_ ?_
  ·refine Ok.count (fun (x : Int × Int) => x.2) sh.length (fun k x => x.1 = - sumOn bs k) rfl rfl ?_ ?_
   ·rintro k ⟨sum, i⟩ hk hx hI;simp only at hx hI;subst hx;obtain ⟨a, ha⟩ := get_some hk
    have hl := hL.2 k a ha
    have hf := (h.fits ha).2
    have hw := (h.shelf ha).2.1;unfold btw at hw
    have hn := wideOn_nonneg (i := k) hb
    have hsum := sumOn_bound hb k
    have hbnd : 2000 * (bs.length : Int) * k ≤ 100000 := by
     have h1 : 2000 * (bs.length : Int) * k ≤ 20000 * 4 := Int.mul_le_mul (by omega) (by omega) (by omega) (by omega);omega
    unfold P_law_ShelfSpare_L1
    show Ok (if _ then _ else _) _;rw [if_pos (by rw [hL.1]; omega), el_at hl, if_neg (by omega), el_at hl];refine .chk (i64_small (by omega)) ?_;rw [el_at ha];refine .chk (i64_small (by omega)) (.chk (i64_small (by omega)) (.some ⟨rfl, ?_⟩))
    show _ = - sumOn bs (k + 1);simp only [sumOn];omega
   ·rintro ⟨sum, i⟩ hx hI;simp only at hx hI;subst hx;unfold P_law_ShelfSpare_L1
    show Ok (if _ then _ else _) _;rw [if_neg (by rw [hL.1]; omega)];refine .some ?_
    show Ex.nx sum = _;rw [hI]
  ·rintro x rfl
   show Ok (andx _ _) _
   have hall : ∀ b ∈ bs, 0 ≤ b.shelf ∧ b.shelf < sh.length := fun b hb => by
    obtain ⟨j, hj⟩ := List.getElem?_of_mem hb;exact h.book hj
   rw [sumOn_total hall];refine Ok.andx (P := fun r => r = 0) ?_ ?_
   ·refine Ok.count (fun (x : Int × Int) => x.2) bs.length (fun k x => x.1 = - total bs + total (bs.take k)) rfl (by show - total bs = - total bs + 0; omega) ?_ ?_
    ·rintro k ⟨sum, i⟩ hk hx hI;simp only at hx hI;subst hx;obtain ⟨b, hbk⟩ := get_some hk
     have hbw := hb b (List.mem_of_getElem? hbk)
     have ht := total_bound hb
     have ht2 := total_bound (bs := bs.take k) fun c hc => hb c (List.mem_of_mem_take hc)
     have hlen : (bs.take k).length ≤ 10 := by rw [List.length_take]; omega
     unfold P_law_ShelfSpare_L2
     show Ok (if _ then _ else _) _;rw [if_pos (by omega), el_at hbk];refine .chk (i64_small (by omega)) (.chk (i64_small (by omega)) (.some ⟨rfl, ?_⟩))
     show sum + b.wide = _;rw [take_step hbk, total_append];simp [total]; omega
    ·rintro ⟨sum, i⟩ hx hI;simp only at hx hI;subst hx;unfold P_law_ShelfSpare_L2
     show Ok (if _ then _ else _) _;rw [if_neg (by omega)];refine .some ?_
     show sum = 0;rw [hI, List.take_length]; omega
   ·rintro r rfl;exact .some rfl
 ·refine (s9_Spare_bad h).andx ?_;rintro ⟨l, e⟩ ⟨he, hL⟩;simp only at he hL;subst hL
  show Ok (andx _ _) _;rw [law9_valid_eq, andx_some', decide_eq_false h, if_neg (by decide), if_pos he];exact .some rfl
end Go.Am
end
