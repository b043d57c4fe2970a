/- Part 15. -/
import Derived.Test.YtiaolgbmbhldgaaGreatDoorMP2
import Derived.ChangeArms
import Derived.ChangeSlices
import Derived.OpenShut
import Derived.Test.YtiaolgbmbhldgaaGreatDoorMP1
import Derived.Test.YtiaolgbmbhldgaaGreatDoorMP12
import Derived.Test.YtiaolgbmbhldgaaGreatDoorRows
import Derived.ProofKit
import Derived.WalkKit
import Derived.LaidMore
import Derived.Lay
import Derived.MakeChecks
section
namespace Go.Am
open Go.RowKit
def Lifts (P : Program) (t : TypeId) {α : Type} (e : En α) : Prop :=
 ∀ (H : Type) (enc : TypeId × Value → H) (W : World) (base : Nat) (held : Bool) (fuel : Nat) (cs : List Value) (x : DataW H × List MemPlace),
  DataW.trod enc P W base (fun _ => true) held fuel t cs = some x → ∃ a : α, RelL (snapR W 0) (e.f a) cs
theorem Lifts.int {P : Program} {t : TypeId} (ht : P.underlying t = some (.int .i64)) : Lifts P t encI := by
 intro H enc W base held fuel cs x hx;obtain ⟨n, rfl, _, _⟩ := DataW.trod_int ht hx;exact ⟨n, .cons (.lit _) (.nil _)⟩
theorem snap_cell {W : World} {b off : Nat} {v : Value} (h : W.cell? ⟨b, off, none⟩ = some v) : ∃ c, (snapR W 0).imm b = some c ∧ c[off]? = some v := by
 unfold World.cell? at h;split at h
 ·rename_i c _ _ hb
  simp at h;exact ⟨c, by simp only [snapR, snap, Nat.zero_le, if_true]; simp only [] at hb; rw [hb], h⟩
 ·cases h
theorem list_of {α : Type} {p : Nat → α → Prop} : ∀ n : Nat, (∀ i, i < n → ∃ a, p i a) → ∃ l : List α, l.length = n ∧ ∀ i a, l[i]? = some a → p i a := by
 intro n
 induction n with
 | zero => intro _; exact ⟨[], rfl, fun i a h => by simp at h⟩
 | succ n ih =>
  intro h;obtain ⟨l, h1, h2⟩ := ih fun i hi => h i (by omega)
  obtain ⟨a, ha⟩ := h n (by omega);refine ⟨l ++ [a], by simp [h1], fun i b hb => ?_⟩
  by_cases hi : i < l.length
  ·rw [List.getElem?_append_left hi] at hb; exact h2 i b hb
  ·rw [List.getElem?_append_right (by omega)] at hb
   have : i - l.length = 0 := by
    have := (List.getElem?_eq_some_iff.1 hb).1;simp at this; omega
   rw [this] at hb;simp at hb;subst hb
   have : i = n := by omega
   rw [this]; exact ha
theorem Lifts.slice {P : Program} {t e : TypeId} {α : Type} {en : En α} (ht : P.underlying t = some (.slice e)) (hu : P.cellsOf e = en.u) (h0 : 0 < en.u) (h : Lifts P e en) : Lifts P t (encSl en) := by
 intro H enc W base held fuel cs x hx
 rcases DataW.trod_slice ht hx with ⟨rfl, _⟩ | ⟨a, len, cap, elems, rest, n, _, rfl, _, hb, hl, _, hlen, hel, hsp, _⟩
 ·exact ⟨⟨nilS, [], .inl ⟨rfl, rfl, rfl⟩⟩, .cons (.lit _) (.nil _)⟩
 ·rw [hu] at hel hsp;obtain ⟨hrl, hr⟩ := hsp rfl
  by_cases hc : cap = 0
  ·subst hc
   have : len = 0 := by omega
   subst this;exact ⟨⟨.tree en.u 0 [], [], .inr ⟨rfl, by simp⟩⟩, .cons .tree0 (.nil _)⟩
  ·have hcell : ∀ i, i < len → ∃ (a' : α) (ci : List Value), W.cells? base (a.add (i * en.u)) en.u = some ci ∧ RelL (snapR W 0) (en.f a') ci := by
    intro i hi
    have he := hel i hi;rw [List.getElem?_eq_getElem (by omega)] at he;obtain ⟨ci, h1, h2⟩ := Option.bind_eq_some_iff.1 he;obtain ⟨a', h3⟩ := h _ _ _ _ _ _ _ _ h2;exact ⟨a', ci, h1, h3⟩
   have hspot : a.spot = none := by
    have : ∃ ci, W.cells? base (a.add (0 * en.u)) en.u = some ci := by
     by_cases hl0 : 0 < len
     ·obtain ⟨_, ci, h1, _⟩ := hcell 0 hl0;exact ⟨ci, h1⟩
     ·have hz : len = 0 := by omega
      have he := hr 0 (by omega);rw [List.getElem?_eq_getElem (by omega)] at he;obtain ⟨ci, h1, _⟩ := Option.bind_eq_some_iff.1 he;exact ⟨ci, by simpa [hz] using h1⟩
    obtain ⟨ci, h1⟩ := this;obtain ⟨_, h2, h3⟩ := World.cells?_some h1
    have h4 := h3 0 h0;rw [List.getElem?_eq_getElem (by omega)] at h4
    have := World.cell?_spot h4
    simpa [Addr.add] using this
   obtain ⟨b, off, sp⟩ := a;simp only at hspot;subst hspot;obtain ⟨l, hl1, hl2⟩ := list_of (p := fun i a' => ∃ ci : List Value, W.cells? base ((⟨b, off, none⟩ : Addr).add (i * en.u)) en.u = some ci ∧ RelL (snapR W 0) (en.f a') ci) len hcell
   have hfl : (l.flatMap en.f).length = len * en.u := by rw [flat_len, hl1]
   have each : ∀ j, j < len * en.u → ∃ v y c, (l.flatMap en.f)[j]? = some v ∧ (snapR W 0).imm b = some c ∧ c[off + j]? = some y ∧ RelV (snapR W 0) v y := by
    intro j hj
    have hi : j / en.u < l.length := by rw [hl1]; exact Nat.div_lt_of_lt_mul (by rw [Nat.mul_comm]; exact hj)
    have hk : j % en.u < en.u := Nat.mod_lt _ h0
    have hd : j / en.u * en.u + j % en.u = j := by rw [Nat.mul_comm]; exact Nat.div_add_mod j en.u
    obtain ⟨ci, h1, h2⟩ := hl2 _ _ (List.getElem?_eq_getElem hi);obtain ⟨_, h3, h4⟩ := World.cells?_some h1
    have h5 := h4 _ hk;rw [List.getElem?_eq_getElem (by omega)] at h5
    have h6 : ((⟨b, off, none⟩ : Addr).add (j / en.u * en.u)).add (j % en.u) = ⟨b, off + j, none⟩ := by
     simp only [addr_add]
     congr 1
     omega
    rw [h6] at h5;obtain ⟨c, h7, h8⟩ := snap_cell h5
    have hlen' := en.len l[j / en.u]
    have hv := List.getElem?_eq_getElem (l := en.f l[j / en.u]) (i := j % en.u) (by omega);refine ⟨_, _, c, ?_, h7, h8, h2.2 _ _ _ hv (List.getElem?_eq_getElem _)⟩
    have := flat_get (en := en) (List.getElem?_eq_getElem hi) hk;rw [hd] at this;rw [this, hv]
   refine ⟨⟨.tree en.u l.length (l.flatMap en.f), l, .inr ⟨rfl, by rw [hfl, hl1]⟩⟩, .cons ?_ (.nil _)⟩
   show RelV _ (.tree en.u l.length (l.flatMap en.f)) _;rw [hl1]
   by_cases hz : len * en.u = 0
   ·refine .tree (c := #[]) hfl hl (.inl (List.eq_nil_of_length_eq_zero (by omega))) fun i v x hv hx => by simp at hx
   ·obtain ⟨_, _, c, _, hc1, _, _⟩ := each (len * en.u - 1) (by omega);refine .tree (c := c) hfl hl (.inr ⟨hc1, ?_⟩) fun j v y hv hy => ?_
    ·obtain ⟨_, _, c', _, hc2, hc3, _⟩ := each (len * en.u - 1) (by omega);rw [hc1] at hc2;cases hc2
     have := (Array.getElem?_eq_some_iff.1 hc3).1;omega
    ·have hj := (List.getElem?_eq_some_iff.1 hv).1;obtain ⟨v', y', c', e1, e2, e3, e4⟩ := each j (by omega);rw [hc1] at e2;cases e2;rw [hv] at e1;rw [hy] at e3;cases e1;cases e3;exact e4
theorem RelL.glue {r : Ren} {a b : List AV} {cs : List Value} {n : Nat} (h1 : RelL r a (cs.take n)) (h2 : RelL r b (cs.drop n)) : RelL r (a ++ b) cs := by
 have := h1.append h2
 rwa [List.take_append_drop] at this
end Go.Am
end
section
namespace Go.Am
open Go.RowKit
def enPair {α β : Type} (a : En α) (b : En β) : En (α × β) := ⟨a.u + b.u, fun p => a.f p.1 ++ b.f p.2, fun p => by simp [a.len, b.len]⟩
theorem Lifts.map {P : Program} {t : TypeId} {α β : Type} {a : En α} {b : En β} (h : Lifts P t a) (hf : ∀ x, ∃ y, b.f y = a.f x) : Lifts P t b := by
 intro H enc W base held fuel cs x hx;obtain ⟨v, hv⟩ := h _ _ _ _ _ _ _ _ hx;obtain ⟨y, hy⟩ := hf v;exact ⟨y, by rw [hy]; exact hv⟩
theorem Lifts.arg {P : Program} {t : TypeId} {fs : Array Field} {α : Type} {en : En α} (hl : Lifts P t en) (ht : P.underlying t = some (.struct fs)) {W : World} {r : Reach} {b0 : Nat} {v : Value} (hval : Value.okWide P W r b0 t v)
  {H : Type} {enc : TypeId × Value → H} {base : Nat} {held : Bool} {d : DataW H} {ps : List MemPlace} (h : DataW.Trod enc P W base (fun _ => true) held t v d ps) : ∃ a, RelV (snapR W 0) (.agg (en.f a)) v := by
 simp only [Value.okWide, ht] at hval;obtain ⟨cs, rfl, _, _⟩ := hval;obtain ⟨fuel, hf⟩ := h;obtain ⟨a, ha⟩ := hl _ _ _ _ _ _ _ _ hf;exact ⟨a, by simpa [Value.cells] using RelV.agg ha.1 ha.2⟩
end Go.Am
end
section
namespace Go.Am
open Go.RowKit
set_option linter.unusedVariables false
theorem Lifts.argA {P : Program} {t e : TypeId} {n : Nat} {α : Type} {en : En α} (hl : Lifts P t en) (ht : P.underlying t = some (.array n e)) {W : World} {r : Reach} {b0 : Nat} {v : Value} (hval : Value.okWide P W r b0 t v)
  {H : Type} {enc : TypeId × Value → H} {base : Nat} {held : Bool} {d : DataW H} {ps : List MemPlace} (h : DataW.Trod enc P W base (fun _ => true) held t v d ps) : ∃ a, RelV (snapR W 0) (.agg (en.f a)) v := by
 simp only [Value.okWide, ht] at hval;obtain ⟨cs, rfl, _, _⟩ := hval;obtain ⟨fuel, hf⟩ := h;obtain ⟨a, ha⟩ := hl _ _ _ _ _ _ _ _ hf;exact ⟨a, by simpa [Value.cells] using RelV.agg ha.1 ha.2⟩
end Go.Am
end
section
namespace Go.Am
open Go.RowKit
set_option linter.unusedVariables false
theorem Lifts.str {P : Program} {t : TypeId} (ht : P.underlying t = some .string) : Lifts P t encStr := by
 intro H enc W base held fuel cs x hx;obtain ⟨s, rfl, _, _⟩ := DataW.trod_string ht hx;refine ⟨s.data.toList, .cons ?_ (.nil _)⟩;exact .lit _
inductive Flds (P : Program) : List Field → Nat → {α : Type} → En α → Prop
 | one {f : Field} {off : Nat} {α : Type} {a : En α} (ho : f.offset = off) (hc : P.cellsOf f.type = a.u) (l : Lifts P f.type a) : Flds P [f] off a
 | cons {f : Field} {r : List Field} {off : Nat} {α β : Type} {a : En α} {b : En β} (ho : f.offset = off) (hc : P.cellsOf f.type = a.u) (l : Lifts P f.type a) (h : Flds P r (off + a.u) b) : Flds P (f :: r) off (enPair a b)
theorem Flds.run {P : Program} {H : Type} {enc : TypeId × Value → H} {W : World} {base : Nat} {held : Bool} {n : Nat} {cs : List Value} {fs : List Field} {off : Nat} {α : Type} {e : En α} (hf : Flds P fs off e)
  (h : ∀ (i : Nat) (f : Field), fs[i]? = some f → ∃ x, DataW.trod enc P W base (fun _ => true) held n f.type ((cs.drop f.offset).take (P.cellsOf f.type)) = some x) : ∃ x : α, RelL (snapR W 0) (e.f x) ((cs.drop off).take e.u) := by
 induction hf with
 | one ho hc l =>
  obtain ⟨x, hx⟩ := h 0 _ rfl;rw [ho, hc] at hx;exact l _ _ _ _ _ _ _ _ hx
 | @cons f r off α β a b ho hc l _ ih =>
  obtain ⟨x, hx⟩ := h 0 _ rfl;rw [ho, hc] at hx;obtain ⟨x0, r0⟩ := l _ _ _ _ _ _ _ _ hx;obtain ⟨x1, r1⟩ := ih fun i f hf => h (i + 1) f hf
  refine ⟨(x0, x1), ?_⟩
  show RelL _ _ ((cs.drop off).take (a.u + b.u));rw [List.take_add, List.drop_drop]
  have e1 := r0;exact RelL.append r0 r1
theorem Lifts.struct {P : Program} {t : TypeId} {fs : Array Field} {α : Type} {e : En α} (ht : P.underlying t = some (.struct fs)) (ct : P.cellsOf t = e.u) (hf : Flds P fs.toList 0 e) : Lifts P t e := by
 intro H enc W base held fuel cs x hx;obtain ⟨xs, n, _, _, hl, hn, h⟩ := DataW.trod_struct ht hx;obtain ⟨v, hv⟩ := hf.run (H := H) (enc := enc) (W := W) (base := base) (held := held) (n := n) (cs := cs) fun i f hi => by
  have hi' : fs[i]? = some f := by rw [← Array.getElem?_toList]; exact hi
  have hlt : i < xs.length := by rw [hn]; exact (Array.getElem?_eq_some_iff.1 hi').1
  exact ⟨xs[i], by rw [h i f hi', List.getElem?_eq_getElem hlt]⟩
 refine ⟨v, ?_⟩
 rwa [List.drop_zero, List.take_of_length_le (by omega)] at hv
theorem Lifts.arr2' {P : Program} {t e : TypeId} {α : Type} {a : En α} (ht : P.underlying t = some (.array 2 e)) (ce : P.cellsOf e = a.u) (ct : P.cellsOf t = a.u + a.u) (l : Lifts P e a) : Lifts P t (enPair a a) := by
 intro H enc W base held fuel cs x hx;obtain ⟨xs, n, _, _, hl, hn, h⟩ := DataW.trod_array ht hx
 have h0 := h 0 (by omega)
 have h1 := h 1 (by omega);rw [List.getElem?_eq_getElem (by omega), ce, Nat.zero_mul, List.drop_zero] at h0;rw [List.getElem?_eq_getElem (by omega), ce, Nat.one_mul, List.take_of_length_le (by simp; omega)] at h1;obtain ⟨x0, r0⟩ := l _ _ _ _ _ _ _ _ h0;obtain ⟨x1, r1⟩ := l _ _ _ _ _ _ _ _ h1;exact ⟨(x0, x1), .glue r0 r1⟩
theorem Lifts.argStr {P : Program} {t : TypeId} (ht : P.underlying t = some .string) {W : World} {r : Reach} {b0 : Nat} {v : Value} (hval : Value.okWide P W r b0 t v)
  {H : Type} {enc : TypeId × Value → H} {base : Nat} {held : Bool} {d : DataW H} {ps : List MemPlace} (h : DataW.Trod enc P W base (fun _ => true) held t v d ps) : ∃ s : Str, RelV (snapR W 0) (sv s) v := by
 obtain ⟨fuel, hf⟩ := h;obtain ⟨a, ha⟩ := Lifts.str ht _ _ _ _ _ _ _ _ hf;refine ⟨a, ?_⟩;cases v with
 | agg cs => simp [Value.okWide, ht, Cell.okWide, Cell.ok] at hval
 | _ => exact ha.2 0 _ _ rfl rfl
end Go.Am
end
section
namespace Go.Am.YtiaolgbmbhldgaaGreatDoor
open Go.Am Go.RowKit Go.Proofs
theorem li_9 : Lifts Tryz.prog 9 encStr := .str Tryz.underlying9
theorem li_22 : Lifts Tryz.prog 22 (encSl encStr) := .slice Tryz.underlying22 (by kernel_rfl) (by decide) li_9
theorem li_3 : Lifts Tryz.prog 3 encI := .int Tryz.underlying3
theorem li_86 : Lifts Tryz.prog 86 (enPair encI (enPair encI (enPair encI encI))) := .struct Tryz.underlying86 (by kernel_rfl) (.cons rfl (by kernel_rfl) li_3 (.cons rfl (by kernel_rfl) li_3 (.cons rfl (by kernel_rfl) li_3 (.one rfl (by kernel_rfl) li_3))))
theorem lm_86 : Lifts Tryz.prog 86 qN := (li_86).map fun x => ⟨⟨x.1, x.2.1, x.2.2.1, x.2.2.2⟩, rfl⟩
theorem li_23 : Lifts Tryz.prog 23 (encSl qN) := .slice Tryz.underlying23 (by kernel_rfl) (by decide) lm_86
theorem li_28 : Lifts Tryz.prog 28 (enPair encI (enPair encI encStr)) := .struct Tryz.underlying28 (by kernel_rfl) (.cons rfl (by kernel_rfl) li_3 (.cons rfl (by kernel_rfl) li_3 (.one rfl (by kernel_rfl) li_9)))
theorem li_42 : Lifts Tryz.prog 42 (enPair (enPair encI (enPair encI encStr)) (enPair encI (enPair encI (enPair encI encI)))) := .struct Tryz.underlying42 (by kernel_rfl) (.cons rfl (by kernel_rfl) li_28 (.cons rfl (by kernel_rfl) li_3 (.cons rfl (by kernel_rfl) li_3 (.cons rfl (by kernel_rfl) li_3 (.one rfl (by kernel_rfl) li_3)))))
theorem lm_42 : Lifts Tryz.prog 42 qL := (li_42).map fun x => ⟨⟨x.1.1, x.1.2.1, x.1.2.2, x.2.1, x.2.2.1, x.2.2.2.1, x.2.2.2.2⟩, rfl⟩
theorem li_24 : Lifts Tryz.prog 24 (encSl qL) := .slice Tryz.underlying24 (by kernel_rfl) (by decide) lm_42
theorem li_26 : Lifts Tryz.prog 26 (enPair (encSl encStr) (enPair (encSl qN) (encSl qL))) := .struct Tryz.underlying26 (by kernel_rfl) (.cons rfl (by kernel_rfl) li_22 (.cons rfl (by kernel_rfl) li_23 (.one rfl (by kernel_rfl) li_24)))
theorem li_29 : Lifts Tryz.prog 29 (enPair (enPair encI (enPair encI encStr)) (enPair encI (enPair encI encStr))) := .arr2' Tryz.underlying29 (by kernel_rfl) (by kernel_rfl) li_28
end Go.Am.YtiaolgbmbhldgaaGreatDoor
end
section
namespace Go.Am
set_option linter.unusedVariables false
theorem i64_small {x : Int} (h : -4000000000000000000 ≤ x ∧ x ≤ 4000000000000000000) : I64 x := by unfold I64; omega
section
variable {σ ε J A β : Type}
def CountQ (idx : σ → Int) (I : Nat → σ → Prop) (k : Nat) (Q : ε → Prop) : Stp σ ε → Prop
 | .ag s => idx s = k + 1 ∧ I (k + 1) s
 | .dn e => Q e
def FinQ (Q : ε → Prop) : Stp σ ε → Prop
 | .ag _ => False
 | .dn e => Q e
theorem Ok.count (idx : σ → Int) (n : Nat) (I : Nat → σ → Prop) {body : σ → Option (Stp σ ε)} {s0 : σ} {Q : ε → Prop} (h0 : idx s0 = 0) (hI : I 0 s0)
  (step : ∀ k s, k < n → idx s = k → I k s → Ok (body s) (CountQ idx I k Q)) (fin : ∀ s, idx s = n → I n s → Ok (body s) (FinQ Q)) : Ok (Am.iter body s0) Q := by
 refine Ok.iter (fun s => ∃ k : Nat, k ≤ n ∧ idx s = k ∧ I k s) (fun s => n - (idx s).toNat) ⟨0, Nat.zero_le _, h0, hI⟩ ?_;rintro s ⟨k, hk, hx, hi⟩
 by_cases hlt : k < n
 ·refine (step k s hlt hx hi).mono fun x hq => ?_
  cases x with
  | ag s' =>
   have h1 : idx s' = k + 1 := hq.1;exact ⟨⟨k + 1, by omega, by rw [h1]; rfl, hq.2⟩, by show n - (idx s').toNat < n - (idx s).toNat; rw [h1, hx]; omega⟩
  | dn e => exact hq
 ·have : k = n := by omega
  subst this;refine (fin s hx hi).mono fun x hq => ?_
  cases x with
  | ag s' => exact hq.elim
  | dn e => exact hq
end
end Go.Am
end
section
namespace Go.Am
set_option linter.unusedVariables false
set_option linter.unusedSimpArgs false
open Classical in
noncomputable def scanX {A : Type} (f : Nat → Option A) (n : Nat) : Ex Unit A := match (List.range n).findSome? f with | some a => .rt a | none => .nx ()
theorem find_range {A : Type} {f : Nat → Option A} {a : A} : ∀ {n k : Nat}, k < n → (∀ j, j < k → f j = none) → f k = some a → (List.range n).findSome? f = some a := by
 intro n
 induction n with
 | zero => intro k hk; omega
 | succ n ih =>
  intro k hk h0 h1;rw [List.range_succ, List.findSome?_append]
  by_cases hkn : k = n
  ·subst hkn
   have : (List.range k).findSome? f = none := by
    rw [List.findSome?_eq_none_iff];intro x hx;exact h0 x (List.mem_range.1 hx)
   rw [this];simp [h1]
  ·rw [ih (by omega) h0 h1]; rfl
theorem find_none {A : Type} {f : Nat → Option A} {n : Nat} (h : ∀ j, j < n → f j = none) : (List.range n).findSome? f = none := by
 rw [List.findSome?_eq_none_iff];intro x hx;exact h x (List.mem_range.1 hx)
theorem of_find_none {A : Type} {f : Nat → Option A} {n : Nat} (h : (List.range n).findSome? f = none) : ∀ j, j < n → f j = none := by
 rw [List.findSome?_eq_none_iff] at h;exact fun j hj => h j (List.mem_range.2 hj)
def scanS {A : Type} {σ : Type} (s : σ) : Option A → Stp σ (Ex Unit A)
 | none => .ag s
 | some a => .dn (.rt a)
theorem iter_scan {A σ : Type} (idx : Nat → σ) (f : Nat → Option A) (n : Nat) {body : σ → Option (Stp σ (Ex Unit A))} (inj : ∀ k, idx k = idx k)
  (step : ∀ k : Nat, k < n → (∀ j, j < k → f j = none) → body (idx k) = some (scanS (idx (k + 1)) (f k)))
  (fin : (∀ j, j < n → f j = none) → body (idx n) = some (.dn (.nx ()))) : iter body (idx 0) = some (scanX f n) := by
 have key : ∀ m k : Nat, m = n - k → k ≤ n → (∀ j, j < k → f j = none) → iter body (idx k) = some (scanX f n) := by
  intro m
  induction m with
  | zero =>
   intro k hm hk h0
   have : k = n := by omega
   subst this;refine iter_eq.2 (.inr ?_);rw [fin h0];simp [scanX, find_none h0]
  | succ m ih =>
   intro k hm hk h0;cases hf : f k with
   | none =>
    refine iter_eq.2 (.inl ⟨idx (k + 1), ?_, ih (k + 1) (by omega) (by omega) fun j hj => ?_⟩)
    ·rw [step k (by omega) h0, hf]; rfl
    ·by_cases e : j = k
     ·rw [e]; exact hf
     ·exact h0 j (by omega)
   | some a =>
    refine iter_eq.2 (.inr ?_);rw [step k (by omega) h0, hf];simp [scanS, scanX, find_range (show k < n by omega) h0 hf]
 exact key n 0 (by omega) (by omega) (fun j hj => by omega)
theorem iter_scanI {A : Type} (f : Nat → Option A) (n : Nat) {body : Int → Option (Stp Int (Ex Unit A))}
  (step : ∀ k : Nat, k < n → (∀ j, j < k → f j = none) → body (k : Int) = some (scanS ((k : Int) + 1) (f k)))
  (fin : (∀ j, j < n → f j = none) → body (n : Int) = some (.dn (.nx ()))) : iter body 0 = some (scanX f n) :=
 iter_scan (fun k => (k : Int)) f n (fun _ => rfl) (fun k hk h => step k hk h) fin
theorem seqx_scan {A : Type} {f : Nat → Option A} {n : Nat} {k : Unit → Option A} : seqx (some (scanX f n)) k = match (List.range n).findSome? f with | some a => some a | none => k () := by
 unfold scanX;cases (List.range n).findSome? f <;> rfl
theorem el_at {α β : Type} {l : List α} {k : Nat} {a : α} {g : α → Option β} (h : l[k]? = some a) : el l (k : Int) g = g a := by
 unfold el;simp [h]
theorem get!_mk (l : Str) (i : Nat) : (⟨l.toArray⟩ : ByteArray).get! i = l.getD i 0 := by
 show l.toArray[i]! = _;rw [getElem!_def];simp [List.getD];cases l[i]? <;> rfl
theorem rune_ascii {l : Str} {p : Nat} {b : UInt8} (hb : l[p]? = some b) (h : b.toNat < 128) : runeAt l p = b.toNat ∧ runeLen l p = 1 := by
 have e : (⟨l.toArray⟩ : ByteArray).get! (p + 0) = b := by rw [get!_mk]; simp [List.getD, hb]
 unfold runeAt runeLen Utf8.decode;simp only [e];rw [if_pos h];exact ⟨rfl, rfl⟩
theorem rune_high {l : Str} {p : Nat} {b : UInt8} (hb : l[p]? = some b) (h : 128 ≤ b.toNat) : 128 ≤ runeAt l p := by
 have e : (⟨l.toArray⟩ : ByteArray).get! (p + 0) = b := by rw [get!_mk]; simp [List.getD, hb]
 unfold runeAt Utf8.decode;simp only [e, Utf8.runeError];rw [if_neg (by omega)];split
 ·split
  ·rename_i h1 h2; simp only [ge_iff_le] at h2; simp only; omega
  ·simp only; omega
 ·split
  ·split
   ·rename_i h1 h2; simp only [ge_iff_le, Bool.and_eq_true, decide_eq_true_eq] at h2; simp only; omega
   ·simp only; omega
  ·split
   ·split
    ·rename_i h1 h2; simp only [ge_iff_le, Bool.and_eq_true, decide_eq_true_eq] at h2; simp only; omega
    ·simp only; omega
   ·simp only; omega
def lowerN (x : Int) : Prop := 97 ≤ x ∧ x ≤ 122
def nameN (i : Nat) (x : Int) : Prop := lowerN x ∨ (0 < i ∧ ((48 ≤ x ∧ x ≤ 57) ∨ x = 46))
def isName (s : Str) : Prop := 0 < s.length ∧ s.length ≤ 16 ∧ ∀ i, i < s.length → nameN i (byteAt s i)
def isLow (s : Str) : Prop := ∀ i, i < s.length → lowerN (byteAt s i)
theorem byteAt_of {l : Str} {k : Nat} {b : UInt8} (h : l[k]? = some b) : byteAt l (k : Int) = b.toNat := by
 simp [byteAt, List.getD, h]
theorem get_some {α : Type} {l : List α} {k : Nat} (h : k < l.length) : ∃ a, l[k]? = some a := ⟨l[k], List.getElem?_eq_getElem h⟩
theorem byteAt_lt (l : Str) (k : Int) : 0 ≤ byteAt l k ∧ byteAt l k < 256 := by
 have := (l.getD k.toNat 0).toNat_lt;unfold byteAt;omega
theorem rune_low {l : Str} {p : Nat} (hp : p < l.length) : (runeAt l p = byteAt l p ∧ runeLen l p = 1) ∨ (128 ≤ runeAt l p ∧ 128 ≤ byteAt l p) := by
 obtain ⟨b, hb⟩ := get_some hp;rw [byteAt_of hb]
 by_cases h : b.toNat < 128
 ·exact .inl (rune_ascii hb h)
 ·exact .inr ⟨rune_high hb (by omega), by omega⟩
open Classical in
theorem find_if {A : Type} {P : Nat → Prop} {a : A} {n : Nat} : (List.range n).findSome? (fun i => if P i then none else some a) = if ∀ j, j < n → P j then none else some a := by
 by_cases h : ∀ j, j < n → P j
 ·rw [if_pos h, find_none fun j hj => if_pos (h j hj)]
 ·rw [if_neg h];cases hf : (List.range n).findSome? (fun i => if P i then none else some a) with
  | none =>
   refine absurd (fun i hi => ?_) h
   have := of_find_none hf i hi
   by_cases hl : P i
   ·exact hl
   ·rw [if_neg hl] at this; cases this
  | some b =>
   obtain ⟨x, hx, hx'⟩ := List.exists_of_findSome?_eq_some hf;split at hx'
   ·cases hx'
   ·exact hx'.symm
open Classical in
theorem r9_letters_eq (s : Str) (hs : s.length ≤ 1000) : P_r9_letters s = some (decide (isLow s)) := by
 unfold P_r9_letters;rw [iter_scanI (fun i => if lowerN (byteAt s i) then none else some false) s.length, seqx_scan, find_if]
 ·by_cases h : ∀ j, j < s.length → lowerN (byteAt s j)
  ·rw [if_pos h, decide_eq_true (show isLow s from h)]
  ·rw [if_neg h, decide_eq_false (show ¬ isLow s from h)]
 ·intro k hk h0;unfold P_r9_letters_L1;rw [if_pos (by omega), chk_pos (by omega), chk_pos (by omega), chk_pos (i64_small (by omega))];unfold lowerN;generalize byteAt s (k : Int) = x
  by_cases h1 : x < 97
  ·rw [if_pos h1, if_neg (by omega)]; rfl
  ·rw [if_neg h1]
   by_cases h2 : x > 122
   ·rw [if_neg (by omega), decide_eq_true h2]; rfl
   ·rw [if_pos (by omega), decide_eq_false h2]; rfl
 ·intro h0;unfold P_r9_letters_L1;rw [if_neg (by omega)]
theorem andx_some' {α β : Type} {a : α} {k : α → Option β} : andx (some a) k = k a := rfl
open Classical in
theorem r1_Name_eq (s : Str) : P_r1_Name s = some (decide (isName s)) := by
  unfold P_r1_Name
  by_cases h0 : s.length = 0
  · have : ¬ isName s := fun h => by have := h.1; omega
    rw [if_pos (by omega)]; simp [seqx, andx, this]
  by_cases h1 : 16 < s.length
  · have : ¬ isName s := fun h => by have := h.2.1; omega
    rw [if_neg (by omega), decide_eq_true (by omega)]; simp [seqx, andx, this]
  rw [if_neg (by omega), decide_eq_false (by omega)]
  show seqx (iter _ _) _ = _
  rw [iter_scanI (fun i => if nameN i (byteAt s i) then none else some false) s.length, seqx_scan, find_if]
  · by_cases h : ∀ j, j < s.length → nameN j (byteAt s j)
    · rw [if_pos h, decide_eq_true ⟨by omega, by omega, h⟩]
    · rw [if_neg h, decide_eq_false fun k => h k.2.2]
  · intro k hk hj
    unfold P_r1_Name_L1
    rw [if_pos (by omega)]
    simp only [chk_pos (show 0 ≤ (k : Int) ∧ (k : Int) < (s.length : Int) by omega), chk_pos (show I64 ((k : Int) + 1) from i64_small (by omega))]
    unfold nameN lowerN
    generalize byteAt s (k : Int) = x
    by_cases a1 : x ≥ 97 <;> by_cases a2 : x ≤ 122 <;> by_cases a3 : k = 0 <;> by_cases a4 : x ≥ 48 <;> by_cases a5 : x ≤ 57 <;> by_cases a6 : x = 46 <;>
      first
      | (exfalso; omega)
      | (rw [if_pos (show (97 ≤ x ∧ x ≤ 122) ∨ (0 < k ∧ ((48 ≤ x ∧ x ≤ 57) ∨ x = 46)) by omega)]; simp [andx, seqx, scanS, a1, a2, a3, a4, a5, a6]; done)
      | (rw [if_neg (show ¬ ((97 ≤ x ∧ x ≤ 122) ∨ (0 < k ∧ ((48 ≤ x ∧ x ≤ 57) ∨ x = 46))) by omega)]; simp [andx, seqx, scanS, a1, a2, a3, a4, a5, a6]; done)
  · intro hj
    unfold P_r1_Name_L1
    rw [if_neg (by omega)]
open Classical in
theorem q_Name_eq (s : Str) : P_q_Name s = some (decide (isName s)) := by
  unfold P_q_Name
  rw [iter_scan (fun k : Nat => k) (fun i => if nameN i (byteAt s i) then none else some false) s.length (fun _ => rfl), seqx_scan, find_if]
  · by_cases h : ∀ j, j < s.length → nameN j (byteAt s j)
    · rw [if_pos h]
      show andx _ _ = _
      by_cases h0 : s = []
      · subst h0
        have : ¬ isName [] := fun h => absurd h.1 (by simp)
        simp [andx, this]
      · have hpos : 0 < s.length := List.length_pos_iff.2 h0
        rw [if_pos h0]
        show some _ = some _
        congr 1
        by_cases h1 : s.length ≤ 16
        · rw [decide_eq_true (by omega), decide_eq_true ⟨hpos, h1, h⟩]
        · rw [decide_eq_false (by omega), decide_eq_false fun k => h1 k.2.1]
    · rw [if_neg h, decide_eq_false (show ¬ isName s from fun k => h k.2.2)]
  · intro k hk hj
    unfold P_q_Name_L1
    rw [if_pos hk]
    show _ = some (scanS (k + 1) _)
    have hb := byteAt_lt s (k : Int)
    unfold nameN lowerN
    rcases rune_low hk with ⟨h1, h2⟩ | ⟨h1, h2⟩
    · rw [h1, h2]
      generalize byteAt s (k : Int) = x
      by_cases a1 : x ≥ 97 <;> by_cases a2 : x ≤ 122 <;> by_cases a3 : 0 < k <;> by_cases a4 : x ≥ 48 <;> by_cases a5 : x ≤ 57 <;> by_cases a6 : x = 46 <;>
        first
        | (exfalso; omega)
        | (rw [if_pos (show (97 ≤ x ∧ x ≤ 122) ∨ (0 < k ∧ ((48 ≤ x ∧ x ≤ 57) ∨ x = 46)) by omega)]; simp [andx, scanS, a1, a2, a3, a4, a5, a6]; done)
        | (rw [if_neg (show ¬ ((97 ≤ x ∧ x ≤ 122) ∨ (0 < k ∧ ((48 ≤ x ∧ x ≤ 57) ∨ x = 46))) by omega)]; simp [andx, scanS, a1, a2, a3, a4, a5, a6]; done)
    · generalize byteAt s (k : Int) = x at *
      generalize runeAt s k = y at *
      rw [if_neg (show ¬ ((97 ≤ x ∧ x ≤ 122) ∨ (0 < k ∧ ((48 ≤ x ∧ x ≤ 57) ∨ x = 46))) by omega)]
      have a1 : y ≥ 97 := by omega
      have a2 : ¬ y ≤ 122 := by omega
      have a4 : y ≥ 48 := by omega
      have a5 : ¬ y ≤ 57 := by omega
      have a6 : ¬ y = 46 := by omega
      by_cases a3 : 0 < k <;> simp [andx, scanS, a1, a2, a3, a4, a5, a6]
  · intro hj
    unfold P_q_Name_L1
    rw [if_neg (by omega)]
end Go.Am
end
section
namespace Go.Am
set_option linter.unusedVariables false
set_option linter.unusedSimpArgs false
open Classical in
theorem r9_in_eq (n a b : Int) : P_r9_in n a b = some (decide (a ≤ n ∧ n ≤ b)) := by
 unfold P_r9_in
 by_cases h : a ≤ n
 ·rw [if_pos h]
  by_cases h2 : n ≤ b
  ·simp [andx, h, h2]
  ·simp [andx, h2]
 ·rw [if_neg h]; simp [andx, h]
open Classical in
theorem find_idx {P : Nat → Prop} {n : Nat} : ((∀ j, j < n → P j) ∧ (List.range n).findSome? (fun i => if P i then none else some (i : Int)) = none) ∨ ((¬ ∀ j, j < n → P j) ∧ ∃ k : Int, 0 ≤ k ∧ (List.range n).findSome? (fun i => if P i then none else some (i : Int)) = some k) := by
 by_cases h : ∀ j, j < n → P j
 ·exact .inl ⟨h, find_none fun j hj => if_pos (h j hj)⟩
 ·refine .inr ⟨h, ?_⟩;cases hf : (List.range n).findSome? (fun i => if P i then none else some (i : Int)) with
  | none =>
   refine absurd (fun i hi => ?_) h
   have := of_find_none hf i hi
   by_cases hl : P i
   ·exact hl
   ·rw [if_neg hl] at this; cases this
  | some k =>
   obtain ⟨x, hx, hx'⟩ := List.exists_of_findSome?_eq_some hf;split at hx'
   ·cases hx'
   ·cases hx'; exact ⟨_, by omega, rfl⟩
def btw (lo hi x : Int) : Prop := lo ≤ x ∧ x ≤ hi
def btwAt (lo hi : Int) (l : List Int) (i : Nat) : Prop := ∀ x, l[i]? = some x → btw lo hi x
open Classical in
theorem s9_out_eq (lo hi : Int) (l : List Int) (hl : l.length ≤ 1000) : P_s9_out lo hi l = some (decide (¬ ∀ j, j < l.length → btwAt lo hi l j)) := by
 unfold P_s9_out;rw [iter_scanI (fun i => if btwAt lo hi l i then none else some (i : Int)) l.length, seqx_scan]
 ·rcases find_idx (P := btwAt lo hi l) (n := l.length) with ⟨h, e⟩ | ⟨h, k, hk, e⟩
  ·rw [e]
   have : ¬ ¬ ∀ j, j < l.length → btwAt lo hi l j := fun hn => hn h
   simp only [andx];rw [decide_eq_false this]; rfl
  ·rw [e];simp only [andx];rw [decide_eq_true h, decide_eq_true hk]
 ·intro k hk _;unfold P_s9_out_L1;obtain ⟨a, ha⟩ := get_some hk;rw [if_pos (by omega), el_at ha, chk_pos (i64_small (by omega))]
  have e : btwAt lo hi l k ↔ (lo ≤ a ∧ a ≤ hi) := by
   unfold btwAt; rw [ha]; exact ⟨fun h => h a rfl, fun h x hx => by cases hx; exact h⟩
  by_cases h1 : a < lo
  ·rw [if_pos h1, if_neg (fun h => by have := e.1 h; omega)]; rfl
  ·rw [if_neg h1]
   by_cases h2 : a > hi
   ·rw [decide_eq_true h2, if_neg (fun h => by have := e.1 h; omega)]; rfl
   ·rw [decide_eq_false h2, if_pos (e.2 (by omega))]; rfl
 ·intro _;unfold P_s9_out_L1;rw [if_neg (by omega)]
open Classical in
theorem s9_out1 (lo hi a : Int) : P_s9_out lo hi [a] = some (decide (¬ btw lo hi a)) := by
 rw [s9_out_eq _ _ _ (by simp)]
 congr 1
 refine decide_eq_decide.2 ?_;refine not_congr ⟨fun h => h 0 (by simp) a rfl, fun h j hj x hx => ?_⟩
 match j with
 | 0 => cases hx; exact h
open Classical in
theorem s9_out2 (lo hi a b : Int) : P_s9_out lo hi [a, b] = some (decide (¬ (btw lo hi a ∧ btw lo hi b))) := by
 rw [s9_out_eq _ _ _ (by simp)]
 congr 1
 refine decide_eq_decide.2 ?_;refine not_congr ⟨fun h => ⟨h 0 (by simp) a rfl, h 1 (by simp) b rfl⟩, fun h j hj x hx => ?_⟩
 match j with
 | 0 => cases hx; exact h.1
 | 1 => cases hx; exact h.2
theorem r1_Place_ok (l : List Str) (w : Str) (hl : l.length ≤ 1000) : Ok (P_r1_Place l w) fun r => (0 ≤ r ↔ w ∈ l) := by
 unfold P_r1_Place;refine .chk (i64_small (by omega)) ?_;refine Ok.andx (P := fun at_ : Int => (0 ≤ at_ ↔ w ∈ l) ∧ at_ < l.length) ?_ ?_
 ·refine Ok.iter (fun at_ : Int => (-1 ≤ at_ ∧ at_ < l.length) ∧ ∀ j : Nat, at_ < j → l[j]? ≠ some w) (fun at_ : Int => (at_ + 1).toNat) ⟨by omega, fun j hj hj' => ?_⟩ ?_
  ·have := (List.getElem?_eq_some_iff.1 hj').1;omega
  ·rintro at_ ⟨h1, h2⟩;unfold P_r1_Place_L1
   by_cases h3 : at_ ≥ 0
   ·rw [if_pos h3];obtain ⟨k, rfl⟩ := Int.eq_ofNat_of_zero_le h3;obtain ⟨a, ha⟩ := get_some (l := l) (k := k) (by omega);rw [el_at ha]
    by_cases h4 : a = w
    ·simp only [h4, not_true, decide_false, andx, seqx];refine .some ⟨⟨fun _ => h4 ▸ List.mem_of_getElem? ha, fun _ => h3⟩, h1.2⟩
    ·simp only [h4, not_false_iff, decide_true, andx, seqx, if_true];refine .chk (i64_small (by omega)) (.some ⟨⟨by omega, fun j hj => ?_⟩, by show ((k : Int) - 1 + 1).toNat < ((k : Int) + 1).toNat; omega⟩)
     by_cases hjk : j = k
     ·subst hjk; rw [ha]; exact fun e => h4 (by cases e; rfl)
     ·exact h2 j (by omega)
   ·rw [if_neg h3];simp only [andx, seqx];refine .some ⟨⟨fun h => absurd h h3, fun h => ?_⟩, h1.2⟩;obtain ⟨j, hj⟩ := List.getElem?_of_mem h;exact absurd hj (h2 j (by omega))
 ·rintro at_ ⟨h1, h2⟩;refine Ok.seqx ?_
  by_cases h0 : 0 ≤ at_
  ·refine Ok.count id at_.toNat (fun _ _ => True) rfl trivial ?_ ?_
   ·rintro k x hk hx _;simp only [id] at hx;subst hx;unfold P_r1_Place_L2;obtain ⟨a, ha⟩ := get_some (l := l) (k := k) (by omega);rw [if_pos (by omega), el_at ha];refine .ite (fun h => .some ?_) (fun h => .chk (i64_small (by omega)) (.some ⟨rfl, trivial⟩))
    show (0 ≤ (k : Int) ↔ w ∈ l);exact ⟨fun _ => h1.1 h0, fun _ => by omega⟩
   ·rintro x hx _;simp only [id] at hx;unfold P_r1_Place_L2;rw [if_neg (by omega)];exact .some (.some h1)
  ·refine Ok.count id 0 (fun _ _ => True) rfl trivial (fun k x hk => by omega) ?_;rintro x hx _;simp only [id] at hx;unfold P_r1_Place_L2;rw [if_neg (by omega)];exact .some (.some h1)
open Classical in
noncomputable def clErr (cl : List Str) (i : Nat) (a : Str) : Int := if isName a then (if a ∈ cl.take i then 5 else 0) else 6
open Classical in
theorem r1_Fresh_eq (w : Str) (cl : List Str) (i : Nat) (hl : cl.length ≤ 1000) : P_r1_Fresh w (cl.take i) = some (clErr cl i w) := by
 refine Ok.get ?_;unfold P_r1_Fresh;refine Ok.andx (P := fun e => e = if w ∈ cl.take i then 5 else 0) ((r1_Place_ok _ w (by rw [List.length_take]; omega)).andx fun r hr => ?_) ?_
 ·refine .ite (fun h => .some ?_) (fun h => .some ?_)
  ·rw [if_pos (hr.1 h)]
  ·rw [if_neg fun h' => h (hr.2 h')]
 ·rintro e he;rw [r1_Name_eq];unfold clErr;subst he
  by_cases h : isName w
  ·simp only [h, decide_true, andx, if_true]; exact .some rfl
  ·simp only [h, decide_false, andx, if_false, Bool.false_eq_true]; exact .some rfl
end Go.Am
end
section
namespace Go.Am
set_option linter.unusedVariables false
set_option linter.unusedSimpArgs false
def shOk (a : qH) : Prop := (btw 0 1000 a.away ∧ btw 0 1000 a.climb) ∧ (btw 1 2000 a.wide ∧ btw 1 2000 a.high)
open Classical in
noncomputable def shErr (a : qH) : Int := if shOk a then 0 else 7
open Classical in
noncomputable def mkErr (ncl : Nat) (c n : Int) (s : Str) : Int :=
 if btw 0 ((ncl : Int) - 1) c then (if btw 1 9999 n then (if s.length ≤ 2 then (if isLow s then 0 else 6) else 6) else 7) else 4
open Classical in
theorem r9_Mark_eq {cl : List Str} {sh : List qH} {bs : List qG} {c n : Int} {s : Str} (hl : cl.length ≤ 1000) : P_r9_Mark cl sh bs c n s = some (mkErr cl.length c n s) := by
 unfold P_r9_Mark;rw [chk_pos (i64_small (by omega)), r9_in_eq, r9_in_eq, andx_some'];unfold mkErr
 by_cases h1 : btw 0 ((cl.length : Int) - 1) c
 ·rw [if_pos h1, decide_eq_true (show _ ∧ _ from h1), if_pos rfl, andx_some']
  by_cases h2 : btw 1 9999 n
  ·rw [if_pos h2, decide_eq_true (show _ ∧ _ from h2), if_pos rfl]
   by_cases h3 : s.length ≤ 2
   ·rw [if_neg (by omega), r9_letters_eq s (by omega), if_pos h3]
    by_cases h4 : isLow s
    ·rw [if_pos h4, decide_eq_true h4]; rfl
    ·rw [if_neg h4, decide_eq_false h4]; rfl
   ·rw [if_pos (by omega), if_neg h3]; rfl
  ·rw [if_neg h2, decide_eq_false (show ¬ (_ ∧ _) from h2), if_neg (by decide)]
 ·rw [if_neg h1, decide_eq_false (show ¬ (_ ∧ _) from h1), if_neg (by decide)]
open Classical in
theorem s9_mark_eq {cl : List Str} {sh : List qH} {bs : List qG} {c n : Int} {s : Str} (hl : cl.length ≤ 1000) : P_s9_mark cl sh bs c n s = some (mkErr cl.length c n s) := by
 unfold P_s9_mark;rw [chk_pos (i64_small (by omega)), s9_out1, s9_out1, andx_some'];unfold mkErr
 by_cases h1 : btw 0 ((cl.length : Int) - 1) c
 ·rw [if_pos h1, decide_eq_false (not_not_intro h1), if_neg (by decide), andx_some']
  by_cases h2 : btw 1 9999 n
  ·rw [if_pos h2, decide_eq_false (not_not_intro h2), if_neg (by decide)]
   by_cases h3 : s.length ≤ 2
   ·rw [if_neg (by omega), if_pos h3];rw [iter_scan (fun k : Nat => k) (fun i => if lowerN (byteAt s i) then none else some 6) s.length (fun _ => rfl), seqx_scan, find_if]
    ·by_cases h : ∀ j, j < s.length → lowerN (byteAt s j)
     ·rw [if_pos h, if_pos (show isLow s from h)]
     ·rw [if_neg h, if_neg (show ¬ isLow s from h)]
    ·intro k hk hj;unfold P_s9_mark_L1;rw [if_pos hk]
     show _ = some (scanS (k + 1) _)
     have hb := byteAt_lt s (k : Int);unfold lowerN
     rcases rune_low hk with ⟨h1, h2⟩ | ⟨h1, h2⟩
     ·rw [h1, h2];generalize byteAt s (k : Int) = x
      by_cases a1 : x < 97
      ·rw [if_pos a1, if_neg (show ¬ (97 ≤ x ∧ x ≤ 122) by omega)]; rfl
      ·rw [if_neg a1]
       by_cases a2 : x > 122
       ·rw [if_neg (show ¬ (97 ≤ x ∧ x ≤ 122) by omega), decide_eq_true a2]; rfl
       ·rw [if_pos (show (97 ≤ x ∧ x ≤ 122) by omega), decide_eq_false a2]; rfl
     ·generalize byteAt s (k : Int) = x at *;generalize runeAt s k = y at *;rw [if_neg (show ¬ (97 ≤ x ∧ x ≤ 122) by omega), if_neg (show ¬ y < 97 by omega), decide_eq_true (show y > 122 by omega)]; rfl
    ·intro hj;unfold P_s9_mark_L1;rw [if_neg (by omega)]
   ·rw [if_pos (by omega), if_neg h3]
  ·rw [if_neg h2, decide_eq_true h2, if_pos rfl]
 ·rw [if_neg h1, decide_eq_true h1, if_pos rfl]
def sameMark (a : qG) (c n : Int) (s : Str) : Prop := a.qU = c ∧ a.qV = n ∧ a.qW = s
def twice (l : List qG) (c n : Int) (s : Str) : Prop := ∃ j, j < l.length ∧ ∃ a, l[j]? = some a ∧ sameMark a c n s
def bkRange (w h y : Int) : Prop := btw 1 2000 w ∧ btw 1 2000 h ∧ btw 1 100 y
open Classical in
noncomputable def bkErr1 (ncl : Nat) (c n : Int) (s : Str) (w h y : Int) (before : List qG) : Int :=
 if mkErr ncl c n s = 0 then (if bkRange w h y then (if twice before c n s then 5 else 0) else 7) else mkErr ncl c n s
open Classical in
theorem r9_Book_eq {cl : List Str} {sh : List qH} {bs : List qG} {c n : Int} {s : Str} {w h y p : Int} {before : List qG} (hl : cl.length ≤ 1000) (hb : before.length ≤ 1000) :
  P_r9_Book cl sh bs c n s w h y p before = some (bkErr1 cl.length c n s w h y before) := by
 refine Ok.get ?_;unfold P_r9_Book;rw [r9_Mark_eq hl, andx_some'];simp only [r9_in_eq];generalize he : mkErr cl.length c n s = e0;refine Ok.andx (P := fun e => e = if e0 = 0 then (if bkRange w h y then 0 else 7) else e0) ?_ ?_
 ·by_cases h0 : e0 = 0
  ·simp only [h0, if_true, andx]
   by_cases h1 : btw 1 2000 w
   ·have h1' : 1 ≤ w ∧ w ≤ 2000 := h1;simp only [h1', and_self, decide_true, if_true]
    by_cases h2 : btw 1 2000 h
    ·have h2' : 1 ≤ h ∧ h ≤ 2000 := h2;simp only [h2', and_self, decide_true, if_true]
     by_cases h3 : btw 1 100 y
     ·have h3' : 1 ≤ y ∧ y ≤ 100 := h3;simp only [h3', and_self, decide_true, Bool.not_true, Bool.false_eq_true, if_false];refine .some ?_;rw [if_pos (show bkRange w h y from ⟨h1, h2, h3⟩)]
     ·have h3' : ¬ (1 ≤ y ∧ y ≤ 100) := h3;simp only [h3', decide_false, Bool.not_false, if_true];refine .some ?_;rw [if_neg (show ¬ bkRange w h y from fun k => h3 k.2.2)]
    ·have h2' : ¬ (1 ≤ h ∧ h ≤ 2000) := h2;simp only [h2', decide_false, Bool.false_eq_true, if_false, if_true];refine .some ?_;rw [if_neg (show ¬ bkRange w h y from fun k => h2 k.2.1)]
   ·have h1' : ¬ (1 ≤ w ∧ w ≤ 2000) := h1;simp only [h1', decide_false, Bool.false_eq_true, if_false, if_true];refine .some ?_;rw [if_neg (show ¬ bkRange w h y from fun k => h1 k.1)]
  ·simp only [h0, if_false, andx, Bool.false_eq_true];exact .some rfl
 ·rintro e hee;refine Ok.andx (P := fun r => r = bkErr1 cl.length c n s w h y before) ?_ (fun r hr => .some hr)
  have fin : bkErr1 cl.length c n s w h y before = if e = 0 then (if twice before c n s then 5 else 0) else e := by
   unfold bkErr1;rw [he]
   by_cases h0 : e0 = 0
   ·rw [if_pos h0]
    by_cases h1 : bkRange w h y
    ·rw [if_pos h1, hee, if_pos h0, if_pos h1, if_pos rfl]
    ·rw [if_neg h1, hee, if_pos h0, if_neg h1]; rfl
   ·rw [if_neg h0, hee, if_neg h0, if_neg h0]
  rw [fin];refine Ok.iter (fun (x : Int × Int) => 0 ≤ x.2 ∧ x.2 ≤ before.length ∧ ((x.1 = e ∧ (e ≠ 0 ∨ ∀ j : Nat, j < x.2 → ∀ a, before[j]? = some a → ¬ sameMark a c n s)) ∨ (e = 0 ∧ x.1 = 5 ∧ twice before c n s))) (fun x => (before.length - x.2).toNat) ⟨by simp, by simp, .inl ⟨rfl, .inr fun j hj => by simp at hj; omega⟩⟩ ?_;rintro ⟨e2, i⟩ ⟨h1, h2, h3⟩;obtain ⟨k, hk⟩ := Int.eq_ofNat_of_zero_le h1;simp only at hk h1 h2 h3;subst hk;unfold P_r9_Book_L1
  show Ok (seqx _ _) _;refine Ok.seqx ?_
  by_cases hlt : (k : Int) < before.length
  ·rw [if_pos hlt]
   by_cases he2 : e2 = 0
   ·rw [decide_eq_true he2];refine .some ?_
    show Ok (andx _ _) _;obtain ⟨a, ha⟩ := get_some (l := before) (k := k) (by omega);refine Ok.andx (P := fun e3 => (sameMark a c n s ∧ e3 = 5) ∨ (¬ sameMark a c n s ∧ e3 = e2)) ?_ ?_
    ·rw [el_at ha];exact .ite (fun h => .some (.inl ⟨h, rfl⟩)) (fun h => .some (.inr ⟨h, rfl⟩))
    ·rintro e3 h4;refine .chk (i64_small (by omega)) (.some ⟨⟨by show (0:Int) ≤ (k : Int) + 1; omega, by show (k : Int) + 1 ≤ _; omega, ?_⟩, by show ((before.length : Int) - ((k : Int) + 1)).toNat < ((before.length : Int) - (k : Int)).toNat; omega⟩)
     rcases h3 with ⟨h5, h6⟩ | ⟨h5, h6, h7⟩
     ·have e00 : e = 0 := h5.symm.trans he2
      rcases h4 with ⟨h8, h9⟩ | ⟨h8, h9⟩
      ·exact .inr ⟨e00, h9, k, by omega, a, ha, h8⟩
      ·refine .inl ⟨h9.trans h5, .inr fun j hj a' ha' => ?_⟩
       by_cases hjk : j = k
       ·subst hjk; rw [ha] at ha'; cases ha'; exact h8
       ·rcases h6 with h6 | h6
        ·exact absurd e00 h6
        ·exact h6 j (by simp only at hj; omega) a' ha'
     ·exact absurd (h6.symm.trans he2) (by decide)
   ·rw [decide_eq_false he2];refine .some ?_
    show e2 = _
    rcases h3 with ⟨h5, h6⟩ | ⟨h5, h6, h7⟩
    ·rw [if_neg (fun h => he2 (h5.trans h)), h5]
    ·rw [if_pos h5, if_pos h7, h6]
  ·rw [if_neg hlt];refine .some ?_
   show e2 = _
   rcases h3 with ⟨h5, h6⟩ | ⟨h5, h6, h7⟩
   ·by_cases he0 : e = 0
    ·rw [if_pos he0, if_neg, h5, he0];rintro ⟨j, hj, a, ha, hs⟩
     rcases h6 with h6 | h6
     ·exact h6 he0
     ·exact h6 j (by omega) a ha hs
    ·rw [if_neg he0, h5]
   ·rw [if_pos h5, if_pos h7, h6]
def bookHit (l : List qG) (c n : Int) (s : Str) (i : Nat) : Prop := ∃ a, l[i]? = some a ∧ sameMark a c n s
def bookMiss (l : List qG) (c n : Int) (s : Str) (i : Nat) : Prop := ¬ bookHit l c n s i
open Classical in
theorem s9_book_eq {cl : List Str} {sh : List qH} {bs : List qG} {c n : Int} {s : Str} {w h y p : Int} {before : List qG} (hl : cl.length ≤ 1000) (hb : before.length ≤ 1000) :
  P_s9_book cl sh bs c n s w h y p before = some (bkErr1 cl.length c n s w h y before) := by
 unfold P_s9_book;rw [s9_mark_eq hl, andx_some'];unfold bkErr1
 by_cases h0 : mkErr cl.length c n s = 0
 ·rw [if_pos h0, if_neg (not_not_intro h0), s9_out2, s9_out1, andx_some', andx_some']
  by_cases h1 : btw 1 2000 w ∧ btw 1 2000 h
  ·rw [decide_eq_false (not_not_intro h1), if_neg (by decide), andx_some']
   by_cases h2 : btw 1 100 y
   ·rw [decide_eq_false (not_not_intro h2), if_neg (by decide), if_pos (show bkRange w h y from ⟨h1.1, h1.2, h2⟩)];rw [iter_scanI (fun i => if bookMiss before c n s i then none else some (i : Int)) before.length, seqx_scan]
    ·rcases find_idx (P := bookMiss before c n s) (n := before.length) with ⟨h, e⟩ | ⟨h, k, hk, e⟩
     ·rw [e, if_neg (show ¬ twice before c n s from fun ⟨j, hj, a, ha, hs⟩ => h j hj ⟨a, ha, hs⟩)];rfl
     ·rw [e, if_pos (show twice before c n s from ?_)]
      ·show seqx (if k ≥ 0 then _ else _) _ = _;rw [if_pos (by omega)]; rfl
      ·refine Classical.byContradiction fun hn => h fun j hj ⟨a, ha, hs⟩ => hn ⟨j, hj, a, ha, hs⟩
    ·intro k hk _;unfold P_s9_book_L1;obtain ⟨a, ha⟩ := get_some hk;rw [if_pos (by omega), el_at ha, chk_pos (i64_small (by omega))]
     by_cases hs : sameMark a c n s
     ·rw [if_pos (show _ ∧ _ from hs), if_neg (show ¬ bookMiss before c n s k from not_not_intro ⟨a, ha, hs⟩)]; rfl
     ·rw [if_neg (show ¬ (_ ∧ _) from hs), if_pos (show bookMiss before c n s k from fun ⟨a', ha', hs'⟩ => by rw [ha] at ha'; cases ha'; exact hs hs')]; rfl
    ·intro _;unfold P_s9_book_L1;rw [if_neg (by omega)]
   ·rw [decide_eq_true h2, if_pos rfl, if_neg (show ¬ bkRange w h y from fun k => h2 k.2.2)]; rfl
  ·rw [decide_eq_true h1, if_pos rfl, andx_some', if_pos rfl, if_neg (show ¬ bkRange w h y from fun k => h1 ⟨k.1, k.2.1⟩)]; rfl
 ·rw [if_neg h0, if_pos h0]
end Go.Am
end
section
namespace Go.Am
set_option linter.unusedVariables false
set_option linter.unusedSimpArgs false
noncomputable def errAt {α : Type} (l : List α) (g : Nat → α → Int) (i : Nat) : Int := match l[i]? with | some a => g i a | none => 0
theorem errAt_of {α : Type} {l : List α} {g : Nat → α → Int} {i : Nat} {a : α} (h : l[i]? = some a) : errAt l g i = g i a := by unfold errAt; rw [h]
noncomputable def errF (f : Nat → Int) (i : Nat) : Option (Int × Int) := if f i = 0 then none else some ((i : Int), f i)
noncomputable def errG (c : Int) (f : Nat → Int) (i : Nat) : Option (Int × Int × Int) := if f i = 0 then none else some (c, (i : Int), f i)
noncomputable def firstE (f : Nat → Int) (n : Nat) : Option (Int × Int) := (List.range n).findSome? (errF f)
theorem first_fail {f : Nat → Int} : ∀ n : Nat, (∀ j, j < n → f j = 0) ∨ ∃ k, k < n ∧ f k ≠ 0 ∧ ∀ j, j < k → f j = 0 := by
 intro n
 induction n with
 | zero => exact .inl fun j hj => by omega
 | succ n ih =>
  rcases ih with h | ⟨k, h1, h2, h3⟩
  ·by_cases hn : f n = 0
   ·exact .inl fun j hj => by
     by_cases e : j = n
     ·rw [e]; exact hn
     ·exact h j (by omega)
   ·exact .inr ⟨n, by omega, hn, h⟩
  ·exact .inr ⟨k, by omega, h2, h3⟩
theorem firstE_cases (f : Nat → Int) (n : Nat) : (firstE f n = none ∧ (∀ c, (List.range n).findSome? (errG c f) = none) ∧ ∀ j, j < n → f j = 0) ∨
  ∃ k, k < n ∧ f k ≠ 0 ∧ firstE f n = some ((k : Int), f k) ∧ (∀ c, (List.range n).findSome? (errG c f) = some (c, (k : Int), f k)) := by
 rcases first_fail (f := f) n with h | ⟨k, h1, h2, h3⟩
 ·exact .inl ⟨find_none fun j hj => if_pos (h j hj), fun c => find_none fun j hj => if_pos (h j hj), h⟩
 ·exact .inr ⟨k, h1, h2, find_range h1 (fun j hj => if_pos (h3 j hj)) (if_neg h2), fun c => find_range h1 (fun j hj => if_pos (h3 j hj)) (if_neg h2)⟩
theorem loopR {c : Int} {f : Nat → Int} {n : Nat} {k : Unit → Option (Int × Int × Int)} : seqx (some (scanX (errG c f) n)) k = match firstE f n with | some p => some (c, p.1, p.2) | none => k () := by
 rw [seqx_scan]
 rcases firstE_cases f n with ⟨h1, h2, h3⟩ | ⟨i, h1, h2, h3, h4⟩
 ·rw [h1, h2 c]
 ·rw [h3, h4 c]
theorem loopS {c : Int} {f : Nat → Int} {n : Nat} {k : Option (Int × Int × Int)} {K : Int × Int → Option (Int × Int × Int)} (hK : ∀ p, K p = if ¬ p.2 = 0 then some (c, p.1, p.2) else k) :
  andx (seqx (some (scanX (errF f) n)) fun _ => some (0, 0)) K = match firstE f n with | some p => some (c, p.1, p.2) | none => k := by
 rw [seqx_scan]
 rcases firstE_cases f n with ⟨h1, h2, h3⟩ | ⟨i, h1, h2, h3, h4⟩
 ·rw [h1, show (List.range n).findSome? (errF f) = none from h1]
  show K (0, 0) = k;rw [hK, if_neg (not_not_intro rfl)]
 ·rw [h3, show (List.range n).findSome? (errF f) = _ from h3]
  show K _ = _;rw [hK, if_pos h2]
theorem body_err {A : Type} {e : Int} {v : A} {k : Nat} (hk : k ≤ 1000) : (if ¬ e = 0 then some (Stp.dn (Ex.rt v)) else chk (I64 ((k : Int) + 1)) (some (Stp.ag ((k : Int) + 1)))) = some (scanS ((k : Int) + 1) (if e = 0 then (none : Option A) else some v)) := by
 rw [chk_pos (i64_small (by omega))]
 by_cases h : e = 0
 ·rw [if_neg (not_not_intro h), if_pos h]; rfl
 ·rw [if_pos h, if_neg h]; rfl
theorem take_sub {α : Type} (l : List α) (k : Nat) : List.take ((k : Int) - (0 : Int)).toNat (List.drop ((0 : Int) : Int).toNat l) = l.take k := by
 simp
theorem r9_L1_eq {cl : List Str} (hl : cl.length ≤ 1000) : iter (P_r9_Check_L1 cl) 0 = some (scanX (errG 1 (errAt cl (clErr cl))) cl.length) := by
 refine iter_scanI _ _ (fun k hk _ => ?_) (fun _ => ?_)
 ·unfold P_r9_Check_L1;obtain ⟨a, ha⟩ := get_some hk;rw [if_pos (by omega), el_at ha, chk_pos (by omega), take_sub, r1_Fresh_eq _ _ _ hl, andx_some', body_err (by omega)];unfold errG;rw [errAt_of ha]
 ·unfold P_r9_Check_L1;rw [if_neg (by omega)]
def clHit (l : List Str) (w : Str) (i : Nat) : Prop := ∃ a, l[i]? = some a ∧ w = a
def clMiss (l : List Str) (w : Str) (i : Nat) : Prop := ¬ clHit l w i
open Classical in
theorem s9_L2_eq {cl : List Str} {k : Nat} {w : Str} (hl : cl.length ≤ 1000) : iter (P_s9_Check_L2 cl (k : Int) w) 0 = some (scanX (fun i => if clMiss (cl.take k) w i then none else some (i : Int)) (cl.take k).length) := by
 have hle : (cl.take k).length ≤ 1000 := by rw [List.length_take]; omega
 refine iter_scanI _ _ (fun j hj _ => ?_) (fun _ => ?_)
 ·unfold P_s9_Check_L2;rw [take_sub];obtain ⟨a, ha⟩ := get_some hj;rw [if_pos (by omega), el_at ha, chk_pos (i64_small (by omega))]
  by_cases h : w = a
  ·rw [if_pos h, if_neg (show ¬ clMiss _ _ _ from not_not_intro ⟨a, ha, h⟩)]; rfl
  ·rw [if_neg h, if_pos (show clMiss _ _ _ from fun ⟨a', ha', hs'⟩ => by rw [ha] at ha'; cases ha'; exact h hs')]; rfl
 ·unfold P_s9_Check_L2;rw [take_sub, if_neg (by omega)]
open Classical in
theorem s9_L1_eq {cl : List Str} (hl : cl.length ≤ 1000) : iter (P_s9_Check_L1 cl) 0 = some (scanX (errF (errAt cl (clErr cl))) cl.length) := by
 refine iter_scanI _ _ (fun k hk _ => ?_) (fun _ => ?_)
 ·unfold P_s9_Check_L1;obtain ⟨a, ha⟩ := get_some hk;rw [if_pos (by omega), el_at ha]
  have e : (andx (P_q_Name a) fun y8 => if y8 = true then chk (0 ≤ (0 : Int) ∧ (0 : Int) ≤ (k : Int) ∧ (k : Int) ≤ (cl.length : Int)) (andx (seqx (iter (P_s9_Check_L2 cl (k : Int) a) 0) fun _ => some (-1)) fun y7 => if y7 ≥ 0 then some 5 else some 0) else some 6) = some (clErr cl k a) := by
   rw [q_Name_eq, andx_some'];unfold clErr
   by_cases hn : isName a
   ·rw [decide_eq_true hn, if_pos rfl, if_pos hn, chk_pos (by omega), s9_L2_eq hl, seqx_scan]
    rcases find_idx (P := clMiss (cl.take k) a) (n := (cl.take k).length) with ⟨h, e⟩ | ⟨h, i, hi, e⟩
    ·rw [e, if_neg]
     ·rfl
     ·intro hm;obtain ⟨j, hj⟩ := List.getElem?_of_mem hm;exact h j (List.getElem?_eq_some_iff.1 hj).1 ⟨a, hj, rfl⟩
    ·rw [e, if_pos]
     ·show (if i ≥ 0 then _ else _) = _;rw [if_pos (by omega)]
     ·refine Classical.byContradiction fun hn => h fun j hj ⟨a', ha', hs⟩ => hn ?_
      rw [hs];exact List.mem_of_getElem? ha'
   ·rw [decide_eq_false hn, if_neg (by decide), if_neg hn]
  rw [e, andx_some', body_err (by omega)];unfold errF;rw [errAt_of ha]
 ·unfold P_s9_Check_L1;rw [if_neg (by omega)]
open Classical in
theorem r9_L2_eq {sh : List qH} (hl : sh.length ≤ 1000) : iter (P_r9_Check_L2 sh) 0 = some (scanX (errG 2 (errAt sh fun _ => shErr)) sh.length) := by
 refine iter_scanI _ _ (fun k hk _ => ?_) (fun _ => ?_)
 ·unfold P_r9_Check_L2;obtain ⟨a, ha⟩ := get_some hk;rw [if_pos (by omega), el_at ha, chk_pos (i64_small (by omega))];simp only [r9_in_eq];unfold errG;rw [errAt_of ha];unfold shErr
  by_cases h1 : 0 ≤ a.away ∧ a.away ≤ 1000
  ·by_cases h2 : 0 ≤ a.climb ∧ a.climb ≤ 1000
   ·by_cases h3 : 1 ≤ a.wide ∧ a.wide ≤ 2000
    ·by_cases h4 : 1 ≤ a.high ∧ a.high ≤ 2000
     ·rw [if_pos (show shOk a from ⟨⟨h1, h2⟩, h3, h4⟩)];simp [andx, seqx, scanS, h1, h2, h3, h4]
     ·rw [if_neg (show ¬ shOk a from fun h => h4 h.2.2)];simp only [andx, seqx, scanS, decide_eq_true h1, decide_eq_true h2, decide_eq_true h3, decide_eq_false h4]; rfl
    ·rw [if_neg (show ¬ shOk a from fun h => h3 h.2.1)];simp only [andx, seqx, scanS, decide_eq_true h1, decide_eq_true h2, decide_eq_false h3]; rfl
   ·rw [if_neg (show ¬ shOk a from fun h => h2 h.1.2)];simp only [andx, seqx, scanS, decide_eq_true h1, decide_eq_false h2]; rfl
  ·rw [if_neg (show ¬ shOk a from fun h => h1 h.1.1)];simp only [andx, seqx, scanS, decide_eq_false h1]; rfl
 ·unfold P_r9_Check_L2;rw [if_neg (by omega)]
open Classical in
theorem s9_L3_eq {sh : List qH} (hl : sh.length ≤ 1000) : iter (P_s9_Check_L3 sh) 0 = some (scanX (errF (errAt sh fun _ => shErr)) sh.length) := by
 refine iter_scanI _ _ (fun k hk _ => ?_) (fun _ => ?_)
 ·unfold P_s9_Check_L3;obtain ⟨a, ha⟩ := get_some hk;rw [if_pos (by omega), el_at ha];simp only [s9_out2, andx_some'];rw [show (seqx (andx (if decide (¬ (btw 0 1000 a.away ∧ btw 0 1000 a.climb)) = true then some true else some (decide (¬ (btw 1 2000 a.wide ∧ btw 1 2000 a.high)))) fun x18 => if x18 = true then some (Ex.rt 7) else some (Ex.nx ())) fun _ => some 0) = some (shErr a) from ?_, andx_some', body_err (by omega)]
  ·unfold errF;rw [errAt_of ha]
  ·unfold shErr
   by_cases h1 : btw 0 1000 a.away ∧ btw 0 1000 a.climb
   ·rw [decide_eq_false (not_not_intro h1), if_neg (by decide)]
    by_cases h2 : btw 1 2000 a.wide ∧ btw 1 2000 a.high
    ·rw [decide_eq_false (not_not_intro h2), if_pos (show shOk a from ⟨h1, h2⟩)]; rfl
    ·rw [decide_eq_true h2, if_neg (show ¬ shOk a from fun h => h2 h.2)]; rfl
   ·rw [decide_eq_true h1, if_pos rfl, if_neg (show ¬ shOk a from fun h => h1 h.1)]; rfl
 ·unfold P_s9_Check_L3;rw [if_neg (by omega)]
def below (bs : List qG) (i : Nat) (b : qG) : Prop := 0 < i ∧ ∃ c, bs[i - 1]? = some c ∧ b.shelf < c.shelf
noncomputable def bkE0 (ncl : Nat) (bs : List qG) (i : Nat) (b : qG) : Int := bkErr1 ncl b.qU b.qV b.qW b.wide b.high b.heavy (bs.take i)
open Classical in
noncomputable def bkErr (ncl nsh : Nat) (bs : List qG) (i : Nat) (b : qG) : Int :=
 if bkE0 ncl bs i b = 0 then (if btw 0 ((nsh : Int) - 1) b.shelf then (if below bs i b then 2 else 0) else 4) else bkE0 ncl bs i b
open Classical in
theorem below_eq {bs : List qG} {k : Nat} {b : qG} (hl : bs.length ≤ 1000) (hk : k < bs.length) :
  (if (k : Int) > 0 then chk (I64 ((k : Int) - 1)) (el bs ((k : Int) - 1) fun a => some (decide (b.shelf < a.shelf))) else some false) = some (decide (below bs k b)) := by
 by_cases h : (k : Int) > 0
 ·rw [if_pos h, chk_pos (i64_small (by omega))];obtain ⟨a, ha⟩ := get_some (l := bs) (k := k - 1) (by omega)
  have e : (k : Int) - 1 = ((k - 1 : Nat) : Int) := by omega
  rw [e, el_at ha]
  congr 1
  refine decide_eq_decide.2 ⟨fun h' => ⟨by omega, a, ha, h'⟩, fun ⟨_, c, hc, h'⟩ => by rw [ha] at hc; cases hc; exact h'⟩
 ·rw [if_neg h, decide_eq_false];exact fun h' => h (by have := h'.1; omega)
open Classical in
theorem r9_L3_eq {cl : List Str} {sh : List qH} {bs : List qG} (hc : cl.length ≤ 1000) (hs : sh.length ≤ 1000) (hl : bs.length ≤ 1000) :
  iter (P_r9_Check_L3 cl sh bs) 0 = some (scanX (errG 3 (errAt bs (bkErr cl.length sh.length bs))) bs.length) := by
 refine iter_scanI _ _ (fun k hk _ => ?_) (fun _ => ?_)
 ·unfold P_r9_Check_L3;obtain ⟨b, hb⟩ := get_some hk;rw [if_pos (by omega), el_at hb, chk_pos (by omega), take_sub, r9_Book_eq hc (by rw [List.length_take]; omega), andx_some', chk_pos (show I64 ((sh.length : Int) - 1) from i64_small (by omega)), chk_pos (show I64 ((k : Int) + 1) from i64_small (by omega))];rw [below_eq hl hk];unfold errG;rw [errAt_of hb];unfold bkErr
  change _ = some (scanS _ _)
  rw [show bkErr1 cl.length b.qU b.qV b.qW b.wide b.high b.heavy (bs.take k) = bkE0 cl.length bs k b from rfl];simp only [r9_in_eq];generalize bkE0 cl.length bs k b = e0
  by_cases h0 : e0 = 0
  ·subst h0
   by_cases h1 : btw 0 ((sh.length : Int) - 1) b.shelf
   ·have h1' : 0 ≤ b.shelf ∧ b.shelf ≤ (sh.length : Int) - 1 := h1
    by_cases h2 : below bs k b
    ·simp only [h1, h1', h2, if_true, andx, seqx, decide_true, Bool.not_true, Bool.false_eq_true, if_false, scanS, and_self]; rfl
    ·simp only [h1, h1', h2, if_true, andx, seqx, decide_true, decide_false, Bool.not_true, Bool.false_eq_true, if_false, scanS, and_self]; rfl
   ·have h1' : ¬ (0 ≤ b.shelf ∧ b.shelf ≤ (sh.length : Int) - 1) := h1;simp only [h1, h1', if_true, andx, seqx, decide_false, Bool.not_false, Bool.false_eq_true, if_false, scanS]; rfl
  ·simp only [h0, if_false, andx, seqx, Bool.false_eq_true, not_false_iff, if_true, scanS]
 ·unfold P_r9_Check_L3;rw [if_neg (by omega)]
open Classical in
theorem s9_L4_eq {cl : List Str} {sh : List qH} {bs : List qG} (hc : cl.length ≤ 1000) (hs : sh.length ≤ 1000) (hl : bs.length ≤ 1000) :
  iter (P_s9_Check_L4 cl sh bs) 0 = some (scanX (errF (errAt bs (bkErr cl.length sh.length bs))) bs.length) := by
 refine iter_scanI _ _ (fun k hk _ => ?_) (fun _ => ?_)
 ·unfold P_s9_Check_L4;obtain ⟨b, hb⟩ := get_some hk;rw [if_pos (by omega), el_at hb, chk_pos (by omega), take_sub, s9_book_eq hc (by rw [List.length_take]; omega), andx_some', chk_pos (i64_small (by omega)), s9_out1, andx_some'];rw [below_eq hl hk]
  have e : (seqx (if ¬ bkE0 cl.length bs k b = 0 then some (Ex.rt (bkE0 cl.length bs k b)) else if decide (¬ btw 0 ((sh.length : Int) - 1) b.shelf) = true then some (Ex.rt 4) else andx (some (decide (below bs k b))) fun x28 => if x28 = true then some (Ex.rt 2) else some (Ex.nx ())) fun (_ : Unit) => some 0) = some (bkErr cl.length sh.length bs k b) := by
   unfold bkErr;generalize bkE0 cl.length bs k b = e0
   by_cases h0 : e0 = 0
   ·rw [if_neg (not_not_intro h0), if_pos h0]
    by_cases h1 : btw 0 ((sh.length : Int) - 1) b.shelf
    ·rw [decide_eq_false (not_not_intro h1), if_neg (by decide), if_pos h1]
     by_cases h2 : below bs k b
     ·rw [decide_eq_true h2, if_pos h2]; rfl
     ·rw [decide_eq_false h2, if_neg h2]; rfl
    ·rw [decide_eq_true h1, if_pos rfl, if_neg h1]; rfl
   ·rw [if_pos h0, if_neg h0]; rfl
  refine (congrArg (fun z => andx z _) e).trans ?_;rw [andx_some', body_err (by omega)];unfold errF;rw [errAt_of hb]
 ·unfold P_s9_Check_L4;rw [if_neg (by omega)]
end Go.Am
end
section
namespace Go.Am
set_option linter.unusedVariables false
set_option linter.unusedSimpArgs false
def wideOn (i : Int) : List qG → Int
 | [] => 0
 | b :: r => (if b.shelf = i then b.wide else 0) + wideOn i r
theorem wideOn_append (i : Int) (l r : List qG) : wideOn i (l ++ r) = wideOn i l + wideOn i r := by
 induction l with
 | nil => simp [wideOn]
 | cons b l ih => simp [wideOn, ih]; omega
def Wides (l : List qG) : Prop := ∀ b ∈ l, 1 ≤ b.wide ∧ b.wide ≤ 2000
theorem wideOn_nonneg {i : Int} {l : List qG} (h : Wides l) : 0 ≤ wideOn i l ∧ wideOn i l ≤ 2000 * l.length := by
 induction l with
 | nil => simp [wideOn]
 | cons b l ih =>
  have h1 := ih fun c hc => h c (by simp [hc])
  have h2 := h b (by simp);simp only [wideOn, List.length_cons];split <;> omega
theorem take_step {α : Type} {l : List α} {k : Nat} {a : α} (h : l[k]? = some a) : l.take (k + 1) = l.take k ++ [a] := by rw [List.take_add_one, h]; rfl
theorem wideOn_step {i : Int} {l : List qG} {k : Nat} {b : qG} (h : l[k]? = some b) : wideOn i (l.take (k + 1)) = wideOn i (l.take k) + (if b.shelf = i then b.wide else 0) := by
 rw [take_step h, wideOn_append];simp [wideOn]
theorem wideOn_le {i : Int} {l : List qG} (h : Wides l) (k : Nat) : wideOn i (l.take k) ≤ wideOn i l := by
 have e : wideOn i l = wideOn i (l.take k) + wideOn i (l.drop k) := by rw [← wideOn_append, List.take_append_drop]
 have := (wideOn_nonneg (i := i) (l := l.drop k) fun b hb => h b (List.mem_of_mem_drop hb)).1;omega
theorem wideOn_take {i : Int} {l : List qG} (h : Wides l) (k : Nat) : 0 ≤ wideOn i (l.take k) ∧ wideOn i (l.take k) ≤ 2000 * l.length := by
 have h1 := wideOn_nonneg (i := i) (l := l.take k) fun b hb => h b (List.mem_of_mem_take hb)
 have h2 := wideOn_le (i := i) h k
 have h3 := (wideOn_nonneg (i := i) h).2;omega
def lowOn (i : Int) (high : Int) (l : List qG) : Prop := ∀ b ∈ l, b.shelf = i → b.high ≤ high
def fits (bs : List qG) (i : Nat) (a : qH) : Prop := lowOn i a.high bs ∧ wideOn i bs ≤ a.wide
open Classical in
noncomputable def fitErr (bs : List qG) (i : Nat) (a : qH) : Int := if fits bs i a then 0 else 9
theorem lowOn_step {i high : Int} {l : List qG} {k : Nat} {b : qG} (h : l[k]? = some b) (h1 : lowOn i high (l.take k)) (h2 : b.shelf = i → b.high ≤ high) : lowOn i high (l.take (k + 1)) := by
 rw [take_step h];intro c hc hs
 rcases List.mem_append.1 hc with hc | hc
 ·exact h1 c hc hs
 ·rw [List.mem_singleton] at hc; subst hc; exact h2 hs
theorem r9_Own_eq {bs : List qG} (hl : bs.length ≤ 1000) : P_r9_Own bs = some (bs.map (·.shelf)) := by
 refine Ok.get ?_;unfold P_r9_Own;refine Ok.andx (P := fun r => r = bs.map (·.shelf)) ?_ (fun r hr => .some hr);refine Ok.count (fun (x : Int × List Int) => x.1) bs.length (fun k x => x.2 = (bs.take k).map (·.shelf)) rfl rfl ?_ ?_
 ·rintro k ⟨i, out⟩ hk hx hI;simp only at hx hI;subst hx;unfold P_r9_Own_L1;obtain ⟨b, hb⟩ := get_some hk
  show Ok (if _ then _ else _) _;rw [if_pos (by omega), el_at hb];refine .chk ?_ (.chk (i64_small (by omega)) (.some ⟨rfl, ?_⟩))
  ·rw [hI, List.length_map, List.length_take]; simp; omega
  ·show out ++ [b.shelf] = _;rw [take_step hb, List.map_append, hI]; rfl
 ·rintro ⟨i, out⟩ hx hI;simp only at hx hI;subst hx;unfold P_r9_Own_L1
  show Ok (if _ then _ else _) _;rw [if_neg (by omega)];refine .some ?_
  show out = _;rw [hI, List.take_length]
open Classical in
theorem r9_fit_eq {cl : List Str} {sh : List qH} {bs : List qG} {i : Nat} {a : qH} (ha : sh[i]? = some a) (hw : 0 ≤ a.wide) (hb : Wides bs) (hl : bs.length ≤ 1000) :
  P_r9_fit cl sh bs bs (bs.map (·.shelf)) (i : Int) = some (decide (fits bs i a)) := by
 refine Ok.get ?_;unfold P_r9_fit;rw [el_at ha];refine Ok.andx (P := fun y => (0 ≤ y ∧ lowOn i a.high bs ∧ y = wideOn i bs) ∨ (y < 0 ∧ ¬ lowOn i a.high bs)) ?_ ?_
 ·unfold P_r9_Filled;refine Ok.seqx ?_;refine Ok.count (fun (x : Int × Int) => x.2) bs.length (fun k x => x.1 = wideOn i (bs.take k) ∧ lowOn i a.high (bs.take k)) rfl ⟨rfl, fun b hb => by simp at hb⟩ ?_ ?_
  ·rintro k ⟨n, j⟩ hk hx ⟨h1, h2⟩;simp only at hx h1 h2;subst hx;obtain ⟨b, hbk⟩ := get_some hk
   have hm : (bs.map (·.shelf))[k]? = some b.shelf := by rw [List.getElem?_map, hbk]; rfl
   unfold P_r9_Filled_L1
   show Ok (if _ then _ else _) _
   have hk1 := wideOn_take (i := i) hb k
   have hk2 := wideOn_take (i := i) hb (k + 1)
   have hst := wideOn_step (i := i) hbk;rw [if_pos (by omega)];refine Ok.seqx ?_;rw [el_at hm]
   by_cases hs : b.shelf = i
   ·rw [if_pos hs] at hst;rw [if_neg (not_not_intro hs), el_at hbk, el_at ha, el_at hbk]
    by_cases hh : b.high > a.high
    ·rw [if_pos hh];refine .some ?_
     show _ ∨ _;refine .inr ⟨by omega, fun h => ?_⟩
     have := h b (List.mem_of_getElem? hbk) hs;omega
    ·rw [if_neg hh];refine .chk (i64_small (by omega)) (.some (.chk (i64_small (by omega)) (.some ⟨rfl, ?_, lowOn_step hbk h2 fun _ => by omega⟩)))
     show n + b.wide = _;omega
   ·rw [if_neg hs] at hst;rw [if_pos hs];refine .some (.chk (i64_small (by omega)) (.some ⟨rfl, ?_, lowOn_step hbk h2 fun h => absurd h hs⟩))
    show n = _;omega
  ·rintro ⟨n, j⟩ hx ⟨h1, h2⟩;simp only at hx h1 h2;subst hx;unfold P_r9_Filled_L1
   show Ok (if _ then _ else _) _;rw [if_neg (by omega)];rw [List.take_length] at h1 h2;refine .some (.some (.inl ⟨?_, h2, h1⟩));rw [h1];exact (wideOn_nonneg hb).1
 ·rintro y hy;rw [r9_in_eq, andx_some'];refine .some ?_;refine decide_eq_decide.2 ?_
  rcases hy with ⟨h0, h1, h2⟩ | ⟨h1, h2⟩
  ·subst h2;exact ⟨fun h => ⟨h1, h.2⟩, fun h => ⟨h0, h.2⟩⟩
  ·exact ⟨fun h => by omega, fun h => absurd h.1 h2⟩
open Classical in
theorem s9_L6_eq {sh : List qH} {bs : List qG} {i : Nat} {a : qH} (hw : 0 ≤ a.wide ∧ a.wide ≤ 2000) (hb : Wides bs) (hl : bs.length ≤ 1000) :
  (seqx (iter (P_s9_Check_L6 bs (i : Int) a) (0, a.wide)) fun s_Wide => some 0) = some (fitErr bs i a) := by
 refine Ok.get ?_;refine Ok.seqx ?_;refine Ok.count (fun (x : Int × Int) => x.1) bs.length (fun k x => x.2 = a.wide - wideOn i (bs.take k) ∧ 0 ≤ x.2 ∧ lowOn i a.high (bs.take k)) rfl ⟨?_, hw.1, fun b hb => by simp at hb⟩ ?_ ?_
 ·show a.wide = a.wide - 0; omega
 ·rintro k ⟨j, n⟩ hk hx ⟨h1, h0, h2⟩;simp only at hx h1 h2 h0;subst hx;obtain ⟨b, hbk⟩ := get_some hk;unfold P_s9_Check_L6
  show Ok (if _ then _ else _) _
  have hk1 := wideOn_take (i := i) hb k
  have hk2 := wideOn_take (i := i) hb (k + 1)
  have hle := wideOn_le (i := i) hb (k + 1)
  have hst := wideOn_step (i := i) hbk
  have hbw := hb b (List.mem_of_getElem? hbk);rw [if_pos (by omega)];refine Ok.seqx ?_;rw [el_at hbk]
  by_cases hs : b.shelf = i
  ·rw [if_pos hs] at hst;rw [if_neg (not_not_intro hs), chk_pos (i64_small (by omega))]
   by_cases hn : n - b.wide < 0
   ·rw [if_pos hn, andx_some', if_pos rfl];refine .some ?_
    show 9 = fitErr bs i a;unfold fitErr;rw [if_neg fun h => ?_]
    have := h.2;omega
   ·rw [if_neg hn, andx_some']
    by_cases hh : b.high > a.high
    ·rw [decide_eq_true hh, if_pos rfl];refine .some ?_
     show 9 = fitErr bs i a;unfold fitErr;rw [if_neg fun h => ?_]
     have := h.1 b (List.mem_of_getElem? hbk) hs;omega
    ·rw [decide_eq_false hh, if_neg (by decide)];refine .some (.chk (i64_small (by omega)) (.some ⟨rfl, ?_, ?_, lowOn_step hbk h2 fun _ => by omega⟩))
     ·show n - b.wide = _; omega
     ·show 0 ≤ n - b.wide; omega
  ·rw [if_neg hs] at hst;rw [if_pos hs];refine .some (.chk (i64_small (by omega)) (.some ⟨rfl, ?_, h0, lowOn_step hbk h2 fun h => absurd h hs⟩))
   show n = _;omega
 ·rintro ⟨j, n⟩ hx ⟨h1, h0, h2⟩;simp only at hx h1 h2 h0;subst hx;unfold P_s9_Check_L6
  show Ok (if _ then _ else _) _;rw [if_neg (by omega)];rw [List.take_length] at h1 h2;refine .some (.some ?_)
  show 0 = fitErr bs i a;unfold fitErr;rw [if_pos ⟨h2, by omega⟩]
def ShOk (sh : List qH) : Prop := ∀ (j : Nat) (a : qH), sh[j]? = some a → 0 ≤ a.wide ∧ a.wide ≤ 2000
open Classical in
theorem r9_L4_eq {cl : List Str} {sh : List qH} {bs : List qG} (hs : sh.length ≤ 1000) (hsh : ShOk sh) (hb : Wides bs) (hl : bs.length ≤ 1000) :
  iter (P_r9_Check_L4 cl sh bs) 0 = some (scanX (errG 4 (errAt sh (fitErr bs))) sh.length) := by
 refine iter_scanI _ _ (fun k hk _ => ?_) (fun _ => ?_)
 ·unfold P_r9_Check_L4;obtain ⟨a, ha⟩ := get_some hk
  have hw := hsh k a ha;rw [if_pos (by omega), r9_Own_eq hl, andx_some', r9_fit_eq ha hw.1 hb hl, andx_some', chk_pos (i64_small (by omega))];unfold errG;rw [errAt_of ha];unfold fitErr
  by_cases h : fits bs k a
  ·rw [decide_eq_true h, if_pos h]; rfl
  ·rw [decide_eq_false h, if_neg h]; rfl
 ·unfold P_r9_Check_L4;rw [if_neg (by omega)]
theorem s9_L5_eq {sh : List qH} {bs : List qG} (hs : sh.length ≤ 1000) (hsh : ShOk sh) (hb : Wides bs) (hl : bs.length ≤ 1000) :
  iter (P_s9_Check_L5 sh bs) 0 = some (scanX (errF (errAt sh (fitErr bs))) sh.length) := by
 refine iter_scanI _ _ (fun k hk _ => ?_) (fun _ => ?_)
 ·unfold P_s9_Check_L5;obtain ⟨a, ha⟩ := get_some hk
  have hw := hsh k a ha;rw [if_pos (by omega), el_at ha, s9_L6_eq (sh := sh) hw hb hl, andx_some', body_err (by omega)];unfold errF;rw [errAt_of ha]
 ·unfold P_s9_Check_L5;rw [if_neg (by omega)]
noncomputable def roomE (cl : List Str) (sh : List qH) (bs : List qG) : Option (Int × Int × Int) :=
 if 1 ≤ cl.length ∧ cl.length ≤ 6 then
  match firstE (errAt cl (clErr cl)) cl.length with
  | some p => some (1, p.1, p.2)
  | none =>
   if 1 ≤ sh.length ∧ sh.length ≤ 4 then
    match firstE (errAt sh fun _ => shErr) sh.length with
    | some p => some (2, p.1, p.2)
    | none =>
     if bs.length ≤ 10 then
      match firstE (errAt bs (bkErr cl.length sh.length bs)) bs.length with
      | some p => some (3, p.1, p.2)
      | none =>
       match firstE (errAt sh (fitErr bs)) sh.length with
       | some p => some (4, p.1, p.2)
       | none => some (0, 0, 0)
     else some (3, 0, 3)
   else some (2, 0, 3)
 else some (1, 0, 3)
theorem shErr_zero {a : qH} (h : shErr a = 0) : shOk a := by
 unfold shErr at h;split at h
 ·assumption
 ·cases h
theorem bkErr_zero {ncl nsh : Nat} {bs : List qG} {i : Nat} {b : qG} (h : bkErr ncl nsh bs i b = 0) : bkRange b.wide b.high b.heavy ∧ btw 0 ((nsh : Int) - 1) b.shelf ∧ ¬ below bs i b ∧ ¬ twice (bs.take i) b.qU b.qV b.qW ∧ mkErr ncl b.qU b.qV b.qW = 0 := by
 unfold bkErr at h;split at h
 ·rename_i h0
  split at h
  ·rename_i h1
   split at h
   ·cases h
   ·rename_i h2
    unfold bkE0 bkErr1 at h0;split at h0
    ·rename_i h3
     split at h0
     ·rename_i h4
      split at h0
      ·cases h0
      ·rename_i h5
       exact ⟨h4, h1, h2, h5, h3⟩
     ·cases h0
    ·rename_i h3; exact absurd h0 h3
  ·cases h
 ·rename_i h0; exact absurd h h0
theorem shOk_all {sh : List qH} (h : ∀ j, j < sh.length → errAt sh (fun _ => shErr) j = 0) {j : Nat} {a : qH} (ha : sh[j]? = some a) : shOk a := by
 have := h j (List.getElem?_eq_some_iff.1 ha).1;rw [errAt_of ha] at this;exact shErr_zero this
theorem bk_all {ncl nsh : Nat} {bs : List qG} (h : ∀ j, j < bs.length → errAt bs (bkErr ncl nsh bs) j = 0) {j : Nat} {b : qG} (hb : bs[j]? = some b) : bkErr ncl nsh bs j b = 0 := by
 have := h j (List.getElem?_eq_some_iff.1 hb).1
 rwa [errAt_of hb] at this
theorem wides_all {ncl nsh : Nat} {bs : List qG} (h : ∀ j, j < bs.length → errAt bs (bkErr ncl nsh bs) j = 0) : Wides bs := fun b hb => by
 obtain ⟨j, hj⟩ := List.getElem?_of_mem hb;exact (bkErr_zero (bk_all h hj)).1.1
open Classical in
theorem r9_Check_eq (cl : List Str) (sh : List qH) (bs : List qG) : P_r9_Check cl sh bs = roomE cl sh bs := by
 unfold P_r9_Check roomE;rw [r9_in_eq, andx_some']
 by_cases h1 : 1 ≤ cl.length ∧ cl.length ≤ 6
 ·rw [if_pos h1, decide_eq_true (by omega), if_pos rfl, r9_L1_eq (by omega), loopR]
  rcases firstE_cases (errAt cl (clErr cl)) cl.length with ⟨e, _, _⟩ | ⟨_, _, _, e, _⟩
  rotate_left
  ·rw [e]
  rw [e]
  show andx _ _ = _;rw [r9_in_eq, andx_some']
  by_cases h2 : 1 ≤ sh.length ∧ sh.length ≤ 4
  ·rw [if_pos h2, decide_eq_true (by omega), if_pos rfl, r9_L2_eq (by omega), loopR]
   rcases firstE_cases (errAt sh fun _ => shErr) sh.length with ⟨e, _, hsh⟩ | ⟨_, _, _, e, _⟩
   rotate_left
   ·rw [e]
   rw [e]
   show (if _ then _ else _) = _
   by_cases h3 : bs.length ≤ 10
   ·rw [if_neg (by omega), r9_L3_eq (by omega) (by omega) (by omega), loopR]
    show _ = if _ then _ else _;rw [if_pos h3]
    rcases firstE_cases (errAt bs (bkErr cl.length sh.length bs)) bs.length with ⟨e, _, hbs⟩ | ⟨_, _, _, e, _⟩
    rotate_left
    ·rw [e]
    rw [e]
    show seqx _ _ = _;rw [r9_L4_eq (by omega) (fun j a ha => by have := (shOk_all hsh ha).2.1; unfold btw at this; omega) (wides_all hbs) (by omega), loopR] <;> rfl
   ·rw [if_pos (by omega)]
    show _ = if _ then _ else _;rw [if_neg h3]
  ·rw [if_neg h2, decide_eq_false (by omega), if_neg (by decide)]
 ·rw [if_neg h1, decide_eq_false (by omega), if_neg (by decide)]
open Classical in
theorem s9_Check_eq (cl : List Str) (sh : List qH) (bs : List qG) : P_s9_Check cl sh bs = roomE cl sh bs := by
 unfold P_s9_Check roomE;rw [s9_out1, andx_some']
 by_cases h1 : 1 ≤ cl.length ∧ cl.length ≤ 6
 ·rw [if_pos h1, decide_eq_false (not_not_intro (show btw 1 6 (cl.length : Int) from ⟨by omega, by omega⟩)), if_neg (by decide), s9_L1_eq (by omega), loopS (c := 1) (fun _ => rfl)]
  rcases firstE_cases (errAt cl (clErr cl)) cl.length with ⟨e, _, _⟩ | ⟨_, _, _, e, _⟩
  rotate_left
  ·rw [e]
  rw [e]
  show andx _ _ = _;rw [s9_out1, andx_some']
  by_cases h2 : 1 ≤ sh.length ∧ sh.length ≤ 4
  ·rw [if_pos h2, decide_eq_false (not_not_intro (show btw 1 4 (sh.length : Int) from ⟨by omega, by omega⟩)), if_neg (by decide), s9_L3_eq (by omega), loopS (c := 2) (fun _ => rfl)]
   rcases firstE_cases (errAt sh fun _ => shErr) sh.length with ⟨e, _, hsh⟩ | ⟨_, _, _, e, _⟩
   rotate_left
   ·rw [e]
   rw [e]
   show (if _ then _ else _) = _
   by_cases h3 : bs.length ≤ 10
   ·rw [if_neg (by omega), s9_L4_eq (by omega) (by omega) (by omega), loopS (c := 3) (fun _ => rfl)]
    show _ = if _ then _ else _;rw [if_pos h3]
    rcases firstE_cases (errAt bs (bkErr cl.length sh.length bs)) bs.length with ⟨e, _, hbs⟩ | ⟨_, _, _, e, _⟩
    rotate_left
    ·rw [e]
    rw [e]
    show andx _ _ = _;rw [s9_L5_eq (by omega) (fun j a ha => by have := (shOk_all hsh ha).2.1; unfold btw at this; omega) (wides_all hbs) (by omega), loopS (c := 4) (fun _ => rfl)] <;> rfl
   ·rw [if_pos (by omega)]
    show _ = if _ then _ else _;rw [if_neg h3]
  ·rw [if_neg h2, decide_eq_true (show ¬ btw 1 4 (sh.length : Int) from fun h => h2 (by unfold btw at h; omega)), if_pos rfl]
 ·rw [if_neg h1, decide_eq_true (show ¬ btw 1 6 (cl.length : Int) from fun h => h1 (by unfold btw at h; omega)), if_pos rfl]
end Go.Am
end
section
namespace Go.Am
set_option linter.unusedVariables false
set_option linter.unusedSimpArgs false
structure Fine (cl : List Str) (sh : List qH) (bs : List qG) : Prop where
 cl1 : 1 ≤ cl.length ∧ cl.length ≤ 6
 cl2 : ∀ j, j < cl.length → errAt cl (clErr cl) j = 0
 sh1 : 1 ≤ sh.length ∧ sh.length ≤ 4
 sh2 : ∀ j, j < sh.length → errAt sh (fun _ => shErr) j = 0
 bs1 : bs.length ≤ 10
 bs2 : ∀ j, j < bs.length → errAt bs (bkErr cl.length sh.length bs) j = 0
 fit : ∀ j, j < sh.length → errAt sh (fitErr bs) j = 0
theorem roomE_ok (cl : List Str) (sh : List qH) (bs : List qG) : ∃ c i e, roomE cl sh bs = some (c, i, e) ∧ (e = 0 ↔ Fine cl sh bs) := by
 unfold roomE
 by_cases h1 : 1 ≤ cl.length ∧ cl.length ≤ 6
 ·rw [if_pos h1]
  rcases firstE_cases (errAt cl (clErr cl)) cl.length with ⟨e, _, h2⟩ | ⟨k, hk, hne, e, _⟩
  rotate_left
  ·rw [e];exact ⟨_, _, _, rfl, fun h => absurd h hne, fun h => absurd (h.cl2 k hk) hne⟩
  rw [e];dsimp only
  by_cases h3 : 1 ≤ sh.length ∧ sh.length ≤ 4
  ·rw [if_pos h3]
   rcases firstE_cases (errAt sh fun _ => shErr) sh.length with ⟨e, _, h4⟩ | ⟨k, hk, hne, e, _⟩
   rotate_left
   ·rw [e];exact ⟨_, _, _, rfl, fun h => absurd h hne, fun h => absurd (h.sh2 k hk) hne⟩
   rw [e];dsimp only
   by_cases h5 : bs.length ≤ 10
   ·rw [if_pos h5]
    rcases firstE_cases (errAt bs (bkErr cl.length sh.length bs)) bs.length with ⟨e, _, h6⟩ | ⟨k, hk, hne, e, _⟩
    rotate_left
    ·rw [e];exact ⟨_, _, _, rfl, fun h => absurd h hne, fun h => absurd (h.bs2 k hk) hne⟩
    rw [e]
    rcases firstE_cases (errAt sh (fitErr bs)) sh.length with ⟨e, _, h7⟩ | ⟨k, hk, hne, e, _⟩
    rotate_left
    ·rw [e];exact ⟨_, _, _, rfl, fun h => absurd h hne, fun h => absurd (h.fit k hk) hne⟩
    rw [e];exact ⟨_, _, _, rfl, fun _ => ⟨h1, h2, h3, h4, h5, h6, h7⟩, fun _ => rfl⟩
   ·rw [if_neg h5];exact ⟨_, _, _, rfl, fun h => absurd h (by decide), fun h => absurd h.bs1 h5⟩
  ·rw [if_neg h3];exact ⟨_, _, _, rfl, fun h => absurd h (by decide), fun h => absurd h.sh1 h3⟩
 ·rw [if_neg h1];exact ⟨_, _, _, rfl, fun h => absurd h (by decide), fun h => absurd h.cl1 h1⟩
section
variable {cl : List Str} {sh : List qH} {bs : List qG}
open Classical in
theorem law9_valid_eq : P_law9_valid cl sh bs = some (decide (Fine cl sh bs)) := by
 obtain ⟨c, i, e, he, hf⟩ := roomE_ok cl sh bs;unfold P_law9_valid;rw [r9_Check_eq, he]
 show some _ = some _
 congr 1
 exact decide_eq_decide.2 hf
end
end Go.Am
end
section
namespace Go.Am
set_option linter.unusedVariables false
set_option linter.unusedSimpArgs false
theorem cmpS_neg : ∀ a b : Str, cmpS b a = - cmpS a b
 | [], [] => by rfl
 | [], _ :: _ => by rfl
 | _ :: _, [] => by rfl
 | a :: la, b :: bs => by
  have := cmpS_neg la bs;simp only [cmpS, Lib.compareBytes, UInt8.lt_iff_toNat_lt] at this ⊢
  by_cases h1 : a.toNat < b.toNat
  ·rw [if_pos h1, if_neg (by omega), if_pos h1]; rfl
  ·by_cases h2 : b.toNat < a.toNat
   ·rw [if_pos h2, if_neg h1, if_pos h2]
   ·rw [if_neg h2, if_neg h1, if_neg h1, if_neg h2]; exact this
theorem cmpS_zero : ∀ a b : Str, cmpS a b = 0 ↔ a = b
 | [], [] => by simp [cmpS, Lib.compareBytes]
 | [], _ :: _ => by simp [cmpS, Lib.compareBytes]
 | _ :: _, [] => by simp [cmpS, Lib.compareBytes]
 | a :: la, b :: bs => by
  have := cmpS_zero la bs;simp only [cmpS, Lib.compareBytes, UInt8.lt_iff_toNat_lt] at this ⊢
  by_cases h1 : a.toNat < b.toNat
  ·rw [if_pos h1];exact ⟨fun h => by omega, fun h => by cases h; omega⟩
  ·by_cases h2 : b.toNat < a.toNat
   ·rw [if_neg h1, if_pos h2];exact ⟨fun h => by omega, fun h => by cases h; omega⟩
   ·rw [if_neg h1, if_neg h2, this]
    have : a = b := UInt8.toNat_inj.1 (by omega);subst this;simp
def fst4 (a b c d : Int) : Int := if ¬ a = 0 then a else if ¬ b = 0 then b else if ¬ c = 0 then c else d
def cmpM (c n : Int) (s : Str) (c' n' : Int) (s' : Str) : Int := fst4 (c - c') (n - n') ((s.length : Int) - s'.length) (cmpS s s')
def sgn (x : Int) : Int := if x < 0 then -1 else if x > 0 then 1 else 0
theorem cmpM_neg {c n : Int} {s : Str} {c' n' : Int} {s' : Str} : cmpM c' n' s' c n s = - cmpM c n s c' n' s' := by
 unfold cmpM fst4;rw [cmpS_neg s s']
 by_cases h1 : c - c' = 0
 ·rw [if_neg (not_not_intro (show c' - c = 0 by omega)), if_neg (not_not_intro h1)]
  by_cases h2 : n - n' = 0
  ·rw [if_neg (not_not_intro (show n' - n = 0 by omega)), if_neg (not_not_intro h2)]
   by_cases h3 : (s.length : Int) - s'.length = 0
   ·rw [if_neg (not_not_intro (show (s'.length : Int) - s.length = 0 by omega)), if_neg (not_not_intro h3)]
   ·rw [if_pos (show ¬ (s'.length : Int) - s.length = 0 by omega), if_pos h3]; omega
  ·rw [if_pos (show ¬ n' - n = 0 by omega), if_pos h2]; omega
 ·rw [if_pos (show ¬ c' - c = 0 by omega), if_pos h1]; omega
theorem cmpM_zero {c n : Int} {s : Str} {c' n' : Int} {s' : Str} : cmpM c n s c' n' s' = 0 ↔ c = c' ∧ n = n' ∧ s = s' := by
 unfold cmpM fst4
 by_cases h1 : c - c' = 0
 ·rw [if_neg (not_not_intro h1)]
  by_cases h2 : n - n' = 0
  ·rw [if_neg (not_not_intro h2)]
   by_cases h3 : (s.length : Int) - s'.length = 0
   ·rw [if_neg (not_not_intro h3), cmpS_zero];exact ⟨fun h => ⟨by omega, by omega, h⟩, fun h => h.2.2⟩
   ·rw [if_pos h3];exact ⟨fun h => absurd h h3, fun h => by rw [h.2.2] at h3; omega⟩
  ·rw [if_pos h2];exact ⟨fun h => absurd h h2, fun h => by omega⟩
 ·rw [if_pos h1];exact ⟨fun h => absurd h h1, fun h => by omega⟩
theorem cmpOr_eq (a b c d : Int) : P_cmpOr [a, b, c, d] = some (fst4 a b c d) := by
 unfold P_cmpOr;rw [iter_scanI (fun i => if ([a, b, c, d] : List Int).getD i 0 = 0 then none else some (([a, b, c, d] : List Int).getD i 0)) 4, seqx_scan]
 ·unfold fst4;rw [show List.range 4 = [0, 1, 2, 3] from rfl]
  by_cases h1 : a = 0 <;> by_cases h2 : b = 0 <;> by_cases h3 : c = 0 <;> by_cases h4 : d = 0 <;> simp [h1, h2, h3, h4]
 ·intro k hk _;unfold P_cmpOr_L1;rw [if_pos (by simp; omega)];obtain ⟨x, hx⟩ := get_some (l := [a, b, c, d]) (k := k) hk;rw [el_at hx, chk_pos (i64_small (by omega))]
  have e : ([a, b, c, d] : List Int).getD k 0 = x := by simp [List.getD, hx]
  simp only [e]
  by_cases h : x = 0
  ·rw [if_neg (not_not_intro h), if_pos h]; rfl
  ·rw [if_pos h, if_neg h]; rfl
 ·intro _;unfold P_cmpOr_L1;rw [if_neg (by simp)]
theorem cmpInt_eq (x : Int) : P_cmpInt x 0 = some (sgn x) := by
 unfold P_cmpInt sgn;rw [if_neg (not_not_intro rfl), if_neg (not_not_intro rfl)]
 by_cases h1 : x < 0
 ·rw [if_pos h1, if_pos h1]
 ·rw [if_neg h1, if_neg h1]
  by_cases h2 : x > 0
  ·rw [if_pos h2, if_pos h2]
  ·rw [if_neg h2, if_neg h2]
theorem markOk_bound {ncl : Nat} {c n : Int} {s : Str} (h : mkErr ncl c n s = 0) : (0 ≤ c ∧ c < ncl) ∧ (1 ≤ n ∧ n ≤ 9999) ∧ s.length ≤ 2 ∧ isLow s := by
 unfold mkErr at h;split at h
 ·rename_i h1
  split at h
  ·rename_i h2
   split at h
   ·rename_i h3
    split at h
    ·rename_i h4
     unfold btw at h1 h2;exact ⟨by omega, by omega, h3, h4⟩
    ·cases h
   ·cases h
  ·cases h
 ·cases h
theorem s9_compare_eq {ncl : Nat} {c n : Int} {s : Str} {c' n' : Int} {s' : Str} (hn : ncl ≤ 1000) (h : mkErr ncl c n s = 0) (h' : mkErr ncl c' n' s' = 0) : P_s9_compare c n s c' n' s' = some (cmpM c n s c' n' s') := by
 have b := markOk_bound h
 have b' := markOk_bound h';unfold P_s9_compare
 by_cases e : c = c' ∧ n = n' ∧ s = s'
 ·rw [if_pos e, cmpM_zero.2 e]
 ·rw [if_neg e, chk_pos (i64_small (by omega)), chk_pos (i64_small (by omega)), chk_pos (i64_small (by omega)), cmpOr_eq];rfl
theorem el_at0 {α β : Type} {l : List α} {a : α} {g : α → Option β} (h : l[0]? = some a) : el l 0 g = g a := el_at (k := 0) h
theorem el_at1 {α β : Type} {l : List α} {a : α} {g : α → Option β} (h : l[1]? = some a) : el l 1 g = g a := el_at (k := 1) h
noncomputable def roomN (cl : List Str) (sh : List qH) (bs : List qG) : Int := match roomE cl sh bs with | some (_, _, e) => e | none => 0
section
variable {cl : List Str} {sh : List qH} {bs : List qG}
theorem roomN_zero : roomN cl sh bs = 0 ↔ Fine cl sh bs := by
 obtain ⟨c, i, e, he, hf⟩ := roomE_ok cl sh bs;unfold roomN;rw [he]; exact hf
theorem s9_open_eq : P_s9_open cl sh bs = some (roomN cl sh bs) := by
 obtain ⟨c, i, e, he, hf⟩ := roomE_ok cl sh bs;unfold P_s9_open roomN;rw [s9_Check_eq, he]; rfl
noncomputable def two (cl : List Str) (sh : List qH) (bs : List qG) (c n : Int) (s : Str) (c' n' : Int) (s' : Str) : Int :=
 if roomN cl sh bs = 0 then (if mkErr cl.length c n s = 0 then mkErr cl.length c' n' s' else mkErr cl.length c n s) else roomN cl sh bs
noncomputable def befR (cl : List Str) (sh : List qH) (bs : List qG) (c n : Int) (s : Str) (c' n' : Int) (s' : Str) : Int × Int :=
 if two cl sh bs c n s c' n' s' = 0 then (sgn (cmpM c n s c' n' s'), 0) else (0, two cl sh bs c n s c' n' s')
theorem two_zero {c n : Int} {s : Str} {c' n' : Int} {s' : Str} : two cl sh bs c n s c' n' s' = 0 ↔ Fine cl sh bs ∧ mkErr cl.length c n s = 0 ∧ mkErr cl.length c' n' s' = 0 := by
 unfold two
 by_cases h : roomN cl sh bs = 0
 ·rw [if_pos h]
  have hf := roomN_zero.1 h
  by_cases h1 : mkErr cl.length c n s = 0
  ·rw [if_pos h1]; exact ⟨fun h2 => ⟨hf, h1, h2⟩, fun h2 => h2.2.2⟩
  ·rw [if_neg h1]; exact ⟨fun h2 => absurd h2 h1, fun h2 => h2.2.1⟩
 ·rw [if_neg h];exact ⟨fun h2 => absurd h2 h, fun h2 => absurd (roomN_zero.2 h2.1) h⟩
theorem s9_Before_eq {c n : Int} {s : Str} {c' n' : Int} {s' : Str} : P_s9_Before cl sh bs c n s c' n' s' = some (befR cl sh bs c n s c' n' s') := by
 unfold P_s9_Before;rw [s9_open_eq, andx_some']
 have hlen : roomN cl sh bs = 0 → cl.length ≤ 1000 := fun h => by have := (roomN_zero.1 h).cl1; omega
 have hit : iter (P_s9_Before_L1 cl sh bs c n s c' n' s') (roomN cl sh bs, 0) = some (two cl sh bs c n s c' n' s') := by
  have b0 : P_s9_Before_L1 cl sh bs c n s c' n' s' (roomN cl sh bs, 0) = some (.ag ((if roomN cl sh bs = 0 then mkErr cl.length c n s else roomN cl sh bs), 1)) := by
   unfold P_s9_Before_L1
   show (if _ then _ else _) = _;rw [if_pos (by simp)];rw [el_at0 rfl]
   by_cases h : roomN cl sh bs = 0
   ·rw [if_pos h, s9_mark_eq (hlen h), if_pos h]; exact chk_pos (i64_small (by omega))
   ·rw [if_neg h, if_neg h]; exact chk_pos (i64_small (by omega))
  have b1 : P_s9_Before_L1 cl sh bs c n s c' n' s' ((if roomN cl sh bs = 0 then mkErr cl.length c n s else roomN cl sh bs), 1) = some (.ag (two cl sh bs c n s c' n' s', 2)) := by
   unfold P_s9_Before_L1 two
   show (if _ then _ else _) = _;rw [if_pos (by simp)];rw [el_at1 rfl]
   by_cases h : roomN cl sh bs = 0
   ·rw [if_pos h, if_pos h]
    by_cases h1 : mkErr cl.length c n s = 0
    ·rw [if_pos h1, if_pos h1, s9_mark_eq (hlen h)]; exact chk_pos (i64_small (by omega))
    ·rw [if_neg h1, if_neg h1]; exact chk_pos (i64_small (by omega))
   ·rw [if_neg h, if_neg h, if_neg h]; exact chk_pos (i64_small (by omega))
  have b2 : P_s9_Before_L1 cl sh bs c n s c' n' s' (two cl sh bs c n s c' n' s', 2) = some (.dn (two cl sh bs c n s c' n' s')) := by
   unfold P_s9_Before_L1
   show (if _ then _ else _) = _;rw [if_neg (by simp)]
  exact iter_eq.2 (.inl ⟨_, b0, iter_eq.2 (.inl ⟨_, b1, iter_eq.2 (.inr b2)⟩)⟩)
 rw [hit, andx_some'];unfold befR
 by_cases h : two cl sh bs c n s c' n' s' = 0
 ·obtain ⟨h1, h2, h3⟩ := two_zero.1 h;rw [if_neg (not_not_intro h), if_pos h, s9_compare_eq (by have := h1.cl1; omega) h2 h3, andx_some', cmpInt_eq]; rfl
 ·rw [if_pos h, if_neg h]
end
end Go.Am
end
section
namespace Go.Am
set_option linter.unusedVariables false
set_option linter.unusedSimpArgs false
def bytesI (s : Str) : List Int := s.map fun b => (b.toNat : Int)
def keyL (c n : Int) (s : Str) : List Int := [c, n, (s.length : Int)] ++ bytesI s
theorem r9_key_eq {c n : Int} {s : Str} (hs : s.length ≤ 1000) : P_r9_key c n s = some (keyL c n s) := by
 refine Ok.get ?_;unfold P_r9_key;refine Ok.andx (P := fun r => r = keyL c n s) ?_ (fun r hr => .some hr);refine Ok.count (fun (x : Int × List Int) => x.1) s.length (fun k x => x.2 = [c, n, (s.length : Int)] ++ bytesI (s.take k)) rfl rfl ?_ ?_
 ·rintro k ⟨i, out⟩ hk hx hI;simp only at hx hI;subst hx;obtain ⟨b, hb⟩ := get_some hk
  have hbb := byteAt_lt s (k : Int)
  have hbe := byteAt_of hb;unfold P_r9_key_L1
  show Ok (if _ then _ else _) _;rw [if_pos (by omega)];refine .chk (by omega) (.chk (by omega) (.chk ?_ (.chk (i64_small (by omega)) (.some ⟨rfl, ?_⟩))))
  ·rw [hI]; simp [bytesI]; omega
  ·show out ++ [byteAt s (k : Int)] = _;rw [hI, take_step hb, hbe];simp [bytesI]
 ·rintro ⟨i, out⟩ hx hI;simp only at hx hI;subst hx;unfold P_r9_key_L1
  show Ok (if _ then _ else _) _;rw [if_neg (by omega)];refine .some ?_
  show out = _;rw [hI, List.take_length]; rfl
def lexB : List Int → List Int → Bool
 | [], [] => false
 | [], _ :: _ => true
 | _ :: _, [] => false
 | a :: l, b :: m => if a = b then lexB l m else decide (a < b)
theorem lexB_nil {l : List Int} : lexB [] l = decide (0 < l.length) := by cases l <;> simp [lexB]
theorem lexB_nil' {l : List Int} : lexB l [] = false := by cases l <;> rfl
theorem w1_Before_eq {a b : List Int} (ha : a.length ≤ 1000) : P_w1_Before a b = some (lexB a b) := by
 refine Ok.get ?_;unfold P_w1_Before;refine Ok.seqx ?_;refine Ok.count id (Nat.min a.length b.length) (fun k _ => lexB (a.drop k) (b.drop k) = lexB a b) rfl rfl ?_ ?_
 ·rintro k x hk hx hI;simp only [id] at hx;subst hx
  have h1 : k < a.length := Nat.lt_of_lt_of_le hk (Nat.min_le_left _ _)
  have h2 : k < b.length := Nat.lt_of_lt_of_le hk (Nat.min_le_right _ _);obtain ⟨x, hx⟩ := get_some h1;obtain ⟨y, hy⟩ := get_some h2
  have ea : a.drop k = x :: a.drop (k + 1) := by rw [← List.getElem_cons_drop h1]; congr 1; exact Option.some.inj ((List.getElem?_eq_getElem h1).symm.trans hx)
  have eb : b.drop k = y :: b.drop (k + 1) := by rw [← List.getElem_cons_drop h2]; congr 1; exact Option.some.inj ((List.getElem?_eq_getElem h2).symm.trans hy)
  rw [ea, eb] at hI;unfold P_w1_Before_L1;refine Ok.seqx ?_;rw [if_pos (by omega), decide_eq_true (by omega), andx_some', if_pos rfl];refine .some ?_
  show Ok (el a (k : Int) _) _;rw [el_at hx, el_at hy]
  by_cases e : x = y
  ·rw [if_neg (not_not_intro e)];refine .chk (i64_small (by omega)) (.some ⟨rfl, ?_⟩);rw [← hI, lexB, if_pos e]
  ·rw [if_pos e, el_at hx, el_at hy];refine .some ?_
   show decide (x < y) = _;rw [← hI, lexB, if_neg e]
 ·rintro x hx hI;simp only [id] at hx;unfold P_w1_Before_L1;refine Ok.seqx ?_
  by_cases h1 : x < (a.length : Int)
  ·have h2 : ¬ x < (b.length : Int) := by
    have : Nat.min a.length b.length = if a.length ≤ b.length then a.length else b.length := Nat.min_def;split at this <;> omega
   rw [if_pos h1, decide_eq_false h2, andx_some', if_neg (by decide)];refine .some (.some ?_)
   have hm : Nat.min a.length b.length = b.length := by
    have : Nat.min a.length b.length = if a.length ≤ b.length then a.length else b.length := Nat.min_def;split at this <;> omega
   rw [hm] at hI hx;rw [List.drop_of_length_le (Nat.le_refl b.length), lexB_nil'] at hI;rw [← hI];exact decide_eq_false (by omega)
  ·rw [if_neg h1, andx_some', if_neg (by decide)];refine .some (.some ?_)
   have hm : Nat.min a.length b.length = a.length := by
    have : Nat.min a.length b.length = if a.length ≤ b.length then a.length else b.length := Nat.min_def;split at this <;> omega
   rw [hm] at hI hx;rw [List.drop_of_length_le (Nat.le_refl a.length), lexB_nil, List.length_drop] at hI;rw [← hI];exact decide_eq_decide.2 (by omega)
theorem lexB_bytes : ∀ s s' : Str, lexB (bytesI s) (bytesI s') = decide (cmpS s s' < 0)
 | [], [] => by simp [lexB, bytesI, cmpS, Lib.compareBytes]
 | [], _ :: _ => by simp [lexB, bytesI, cmpS, Lib.compareBytes]
 | _ :: _, [] => by simp [lexB, bytesI, cmpS, Lib.compareBytes]
 | a :: l, b :: m => by
  have ih := lexB_bytes l m;simp only [bytesI, List.map_cons, lexB, cmpS, Lib.compareBytes, UInt8.lt_iff_toNat_lt] at ih ⊢
  by_cases e : (a.toNat : Int) = (b.toNat : Int)
  ·rw [if_pos e, if_neg (by omega), if_neg (by omega)]; exact ih
  ·rw [if_neg e]
   by_cases h : a.toNat < b.toNat
   ·rw [if_pos h, decide_eq_true (by omega)]; rfl
   ·rw [if_neg h, if_pos (by omega), decide_eq_false (by omega)]; rfl
theorem lexB_key {c n : Int} {s : Str} {c' n' : Int} {s' : Str} : lexB (keyL c n s) (keyL c' n' s') = decide (cmpM c n s c' n' s' < 0) := by
 have h := lexB_bytes s s'
 show lexB (c :: n :: (s.length : Int) :: bytesI s) (c' :: n' :: (s'.length : Int) :: bytesI s') = _;simp only [lexB];unfold cmpM fst4
 by_cases h1 : c = c'
 ·rw [if_pos h1, if_neg (not_not_intro (show c - c' = 0 by omega))]
  by_cases h2 : n = n'
  ·rw [if_pos h2, if_neg (not_not_intro (show n - n' = 0 by omega))]
   by_cases h3 : (s.length : Int) = s'.length
   ·rw [if_pos h3, if_neg (not_not_intro (show (s.length : Int) - s'.length = 0 by omega)), h]
   ·rw [if_neg h3, if_pos (show ¬ (s.length : Int) - s'.length = 0 by omega)];exact decide_eq_decide.2 (by omega)
  ·rw [if_neg h2, if_pos (show ¬ n - n' = 0 by omega)];exact decide_eq_decide.2 (by omega)
 ·rw [if_neg h1, if_pos (show ¬ c - c' = 0 by omega)];exact decide_eq_decide.2 (by omega)
theorem r9_First_eq {c n : Int} {s : Str} {c' n' : Int} {s' : Str} (h : s.length ≤ 900) (h' : s'.length ≤ 900) : P_r9_First c n s c' n' s' = some (decide (cmpM c n s c' n' s' < 0)) := by
 unfold P_r9_First;rw [r9_key_eq (by omega), andx_some', r9_key_eq (by omega), andx_some', w1_Before_eq (by simp [keyL, bytesI]; omega), andx_some', lexB_key]
section
variable {cl : List Str} {sh : List qH} {bs : List qG}
theorem r9_Before_eq {c n : Int} {s : Str} {c' n' : Int} {s' : Str} : P_r9_Before cl sh bs c n s c' n' s' = some (befR cl sh bs c n s c' n' s') := by
 obtain ⟨c0, i, e, he, hf⟩ := roomE_ok cl sh bs
 have hlen : e = 0 → cl.length ≤ 1000 := fun h => by have := (hf.1 h).cl1; omega
 have hN : roomN cl sh bs = e := by unfold roomN; rw [he]
 unfold P_r9_Before;rw [r9_Check_eq, he, andx_some'];dsimp only
 have h2 : (andx (if e = 0 then andx (P_r9_Mark cl sh bs c n s) fun y21 => some y21 else some e) fun e => andx (if e = 0 then andx (P_r9_Mark cl sh bs c' n' s') fun y26 => some y26 else some e) fun e => some e) = some (two cl sh bs c n s c' n' s') := by
  unfold two;rw [hN]
  by_cases h : e = 0
  ·rw [if_pos h, if_pos h, r9_Mark_eq (hlen h), andx_some', andx_some']
   by_cases h1 : mkErr cl.length c n s = 0
   ·rw [if_pos h1, if_pos h1, r9_Mark_eq (hlen h)]; rfl
   ·rw [if_neg h1, if_neg h1]; rfl
  ·rw [if_neg h, if_neg h, andx_some', if_neg h]; rfl
 have fin : ∀ e2, e2 = two cl sh bs c n s c' n' s' → (if ¬ e2 = 0 then some (0, e2) else andx (P_r9_First c n s c' n' s') fun y32 => if y32 = true then some (-1, 0) else andx (P_r9_First c' n' s' c n s) fun y35 => if y35 = true then some (1, 0) else some (0, 0)) = some (befR cl sh bs c n s c' n' s') := by
  rintro e2 rfl;unfold befR
  by_cases h : two cl sh bs c n s c' n' s' = 0
  ·obtain ⟨g1, g2, g3⟩ := two_zero.1 h
   have m1 := (markOk_bound g2).2.2.1
   have m2 := (markOk_bound g3).2.2.1;rw [if_neg (not_not_intro h), if_pos h, r9_First_eq (by omega) (by omega), andx_some', r9_First_eq (by omega) (by omega), andx_some', show cmpM c' n' s' c n s = - cmpM c n s c' n' s' from cmpM_neg];unfold sgn
   by_cases a1 : cmpM c n s c' n' s' < 0
   ·rw [decide_eq_true a1, if_pos rfl, if_pos a1]
   ·rw [decide_eq_false a1, if_neg (by decide), if_neg a1]
    by_cases a2 : cmpM c n s c' n' s' > 0
    ·rw [decide_eq_true (show -cmpM c n s c' n' s' < 0 by omega), if_pos rfl, if_pos a2]
    ·rw [decide_eq_false (show ¬ -cmpM c n s c' n' s' < 0 by omega), if_neg (by decide), if_neg a2]
  ·rw [if_pos h, if_neg h]
 cases hx : (if e = 0 then andx (P_r9_Mark cl sh bs c n s) fun y21 => some y21 else some e) with
 | none => rw [hx] at h2; cases h2
 | some e1 =>
  rw [hx] at h2
  change (andx (if e1 = 0 then andx (P_r9_Mark cl sh bs c' n' s') fun y26 => some y26 else some e1) fun e => some e) = _ at h2
  rw [andx_some'];cases hy : (if e1 = 0 then andx (P_r9_Mark cl sh bs c' n' s') fun y26 => some y26 else some e1) with
  | none => rw [hy] at h2; cases h2
  | some e2 =>
   rw [hy] at h2;rw [andx_some'];exact fin e2 (Option.some.inj h2)
end
end Go.Am
end
section
namespace Go.Am
set_option linter.unusedVariables false
set_option linter.unusedSimpArgs false
def digB (b : UInt8) : Prop := 48 ≤ b.toNat ∧ b.toNat ≤ 57
def dig (n : Nat) : UInt8 := UInt8.ofNat (48 + n)
def decN (n : Nat) : Str := if h : n < 10 then [dig n] else decN (n / 10) ++ [dig (n % 10)]
termination_by n
def valS (s : Str) : Nat := s.foldl (fun a b => a * 10 + (b.toNat - 48)) 0
theorem dig_toNat {n : Nat} (h : n < 10) : (dig n).toNat = 48 + n := by
 unfold dig;rw [UInt8.toNat_ofNat'];omega
theorem dig_ok {n : Nat} (h : n < 10) : digB (dig n) := by unfold digB; rw [dig_toNat h]; omega
theorem decN_small {n : Nat} (h : n < 10) : decN n = [dig n] := by rw [decN]; simp [h]
theorem decN_big {n : Nat} (h : ¬ n < 10) : decN n = decN (n / 10) ++ [dig (n % 10)] := by rw [decN]; simp [h]
theorem valS_append (s : Str) (b : UInt8) : valS (s ++ [b]) = valS s * 10 + (b.toNat - 48) := by simp [valS, List.foldl_append]
theorem valS_decN (n : Nat) : valS (decN n) = n := by
 induction n using Nat.strongRecOn with
 | _ n ih =>
  by_cases h : n < 10
  ·rw [decN_small h]
   show 0 * 10 + ((dig n).toNat - 48) = n;rw [dig_toNat h]; omega
  ·rw [decN_big h, valS_append, ih _ (by omega), dig_toNat (by omega)];omega
theorem decN_digits (n : Nat) : ∀ b ∈ decN n, digB b := by
 induction n using Nat.strongRecOn with
 | _ n ih =>
  by_cases h : n < 10
  ·rw [decN_small h];intro b hb
   rcases List.mem_singleton.1 hb with rfl
   exact dig_ok h
  ·rw [decN_big h];intro b hb
   rcases List.mem_append.1 hb with hb | hb
   ·exact ih _ (by omega) b hb
   ·rcases List.mem_singleton.1 hb with rfl
    exact dig_ok (by omega)
theorem decN_pos (n : Nat) : 0 < (decN n).length := by
 by_cases h : n < 10
 ·rw [decN_small h]; simp
 ·rw [decN_big h]; simp
theorem decN_head {n : Nat} (h0 : 0 < n) : ∃ b, (decN n)[0]? = some b ∧ b.toNat ≠ 48 := by
 induction n using Nat.strongRecOn with
 | _ n ih =>
  by_cases h : n < 10
  ·rw [decN_small h];exact ⟨_, rfl, by rw [dig_toNat h]; omega⟩
  ·obtain ⟨b, h1, h2⟩ := ih (n / 10) (by omega) (by omega);refine ⟨b, ?_, h2⟩;rw [decN_big h, List.getElem?_append_left (decN_pos _)];exact h1
theorem decN_len {n : Nat} : ∀ {k : Nat}, 0 < k → n < 10 ^ k → (decN n).length ≤ k := by
 induction n using Nat.strongRecOn with
 | _ n ih =>
  intro k hk h
  by_cases h9 : n < 10
  ·rw [decN_small h9]; exact hk
  ·rw [decN_big h9, List.length_append];cases k with
   | zero => omega
   | succ k =>
    have hk0 : 0 < k := by
     rcases Nat.eq_zero_or_pos k with rfl | hp
     ·simp at h; omega
     ·exact hp
    have : n / 10 < 10 ^ k := by rw [Nat.pow_succ] at h; omega
    have := ih (n / 10) (by omega) hk0 this;simp only [List.length_singleton]; omega
theorem snoc_ind {P : Str → Prop} (h0 : P []) (h1 : ∀ s b, P s → P (s ++ [b])) (s : Str) : P s := by
 have : ∀ l : Str, P l.reverse := by
  intro l
  induction l with
  | nil => exact h0
  | cons b l ih => rw [List.reverse_cons]; exact h1 _ _ ih
 have h := this s.reverse;rw [List.reverse_reverse] at h;exact h
theorem valS_lt (s : Str) : (∀ b ∈ s, digB b) → valS s < 10 ^ s.length := by
 induction s using snoc_ind with
 | h0 => intro _; simp [valS]
 | h1 s b ih =>
  intro h
  have h1 := ih fun x hx => h x (List.mem_append_left _ hx)
  have h2 := h b (List.mem_append_right _ (List.mem_singleton_self _));unfold digB at h2;rw [valS_append, List.length_append, List.length_singleton, Nat.pow_succ];omega
def noNought (s : Str) : Prop := s ≠ [] ∧ (∀ b ∈ s, digB b) ∧ (s.length = 1 ∨ ∀ b, s[0]? = some b → b.toNat ≠ 48)
theorem valS_pos {s : Str} (h : ∀ b ∈ s, digB b) (h0 : ∀ b, s[0]? = some b → b.toNat ≠ 48) (hs : s ≠ []) : 0 < valS s := by
 induction s using snoc_ind with
 | h0 => exact absurd rfl hs
 | h1 s b ih =>
  rw [valS_append]
  by_cases he : s = []
  ·subst he
   have := h0 b rfl
   have hb := h b (by simp);unfold digB at hb
   have : valS [] = 0 := rfl;omega
  ·have hl : 0 < s.length := List.length_pos_iff.2 he
   have := ih (fun x hx => h x (List.mem_append_left _ hx)) (fun x hx => h0 x (by rw [List.getElem?_append_left hl]; exact hx)) he;omega
theorem decN_valS {s : Str} (h : noNought s) : decN (valS s) = s := by
 induction s using snoc_ind with
 | h0 => exact absurd rfl h.1
 | h1 s b ih =>
  obtain ⟨_, hd, hn⟩ := h
  have hb := hd b (List.mem_append_right _ (List.mem_singleton_self _))
  have hb' := hb;unfold digB at hb'
  have ed : dig (b.toNat - 48) = b := by
   apply UInt8.toNat_inj.1;rw [dig_toNat (by omega)]; omega
  rw [valS_append]
  by_cases he : s = []
  ·subst he
   have e0 : valS [] = 0 := rfl;rw [e0, decN_small (by omega)];simp only [Nat.zero_mul, Nat.zero_add, ed, List.nil_append]
  ·have hl : 0 < s.length := List.length_pos_iff.2 he
   have hds : ∀ x ∈ s, digB x := fun x hx => hd x (List.mem_append_left _ hx)
   have h48 : ∀ x, s[0]? = some x → x.toNat ≠ 48 := by
    rcases hn with hn | hn
    ·rw [List.length_append, List.length_singleton] at hn; omega
    ·exact fun x hx => hn x (by rw [List.getElem?_append_left hl]; exact hx)
   have hp := valS_pos hds h48 he
   have hb2 : (valS s * 10 + (b.toNat - 48)) / 10 = valS s := by omega
   have hb3 : (valS s * 10 + (b.toNat - 48)) % 10 = b.toNat - 48 := by omega
   rw [decN_big (by omega), hb2, hb3, ed, ih ⟨he, hds, .inr h48⟩]
theorem decN_noNought (n : Nat) : noNought (decN n) := by
 refine ⟨fun h => by have := decN_pos n; rw [h] at this; exact absurd this (by simp), decN_digits n, ?_⟩
 by_cases h : n = 0
 ·subst h; exact .inl (by rw [decN_small (by omega)]; rfl)
 ·obtain ⟨b, h1, h2⟩ := decN_head (n := n) (by omega);exact .inr fun x hx => by rw [h1] at hx; cases hx; exact h2
theorem valS_ge {s : Str} (h : ∀ b ∈ s, digB b) (h0 : ∀ b, s[0]? = some b → b.toNat ≠ 48) : ∀ k, s.length = k + 1 → 10 ^ k ≤ valS s := by
 induction s using snoc_ind with
 | h0 => intro k hk; simp at hk
 | h1 s b ih =>
  intro k hk;rw [List.length_append, List.length_singleton] at hk;rw [valS_append];cases k with
  | zero =>
   have := valS_pos h h0 (by simp);rw [valS_append] at this;rw [Nat.pow_zero]; omega
  | succ k =>
   have hl : 0 < s.length := by omega
   have := ih (fun x hx => h x (List.mem_append_left _ hx)) (fun x hx => h0 x (by rw [List.getElem?_append_left hl]; exact hx)) k (by omega);rw [Nat.pow_succ]; omega
theorem u8L_one (x : Nat) : u8L [((48 : Int) + x)] = [dig x] := by
 show [UInt8.ofNat ((48 : Int) + (x : Int)).toNat] = _;rw [show ((48 : Int) + (x : Int)).toNat = 48 + x by omega]; rfl
theorem digits_loop : ∀ (k n : Nat) (out : Str), n < 10 ^ k → n < 1000000000000000000 → out.length + k ≤ 1000 → ∃ (q : Nat) (o : Str), iter P_r1_Digits_L1 ((n : Int), out) = some ((q : Int), o) ∧ q ≤ 9 ∧ dig q :: o = decN n ++ out ∧ o.length ≤ out.length + k := by
 intro k
 induction k with
 | zero =>
  intro n out h _ _
  have : n = 0 := by simp at h; omega
  subst this;refine ⟨0, out, iter_eq.2 (.inr ?_), by omega, by rw [decN_small (by omega)]; rfl, by omega⟩;unfold P_r1_Digits_L1
  show (if _ then _ else _) = _;rw [if_neg (by omega)]
 | succ k ih =>
  intro n out h hb ho
  by_cases h9 : n < 10
  ·refine ⟨n, out, iter_eq.2 (.inr ?_), by omega, by rw [decN_small h9]; rfl, by omega⟩;unfold P_r1_Digits_L1
   show (if _ then _ else _) = _;rw [if_neg (by omega)]
  ·have hk : n / 10 < 10 ^ k := by rw [Nat.pow_succ] at h; omega
   obtain ⟨q, o, h1, h2, h3, h4⟩ := ih (n / 10) (dig (n % 10) :: out) hk (by omega) (by simp; omega);refine ⟨q, o, iter_eq.2 (.inl ⟨_, ?_, h1⟩), h2, ?_, ?_⟩
   ·unfold P_r1_Digits_L1
    show (if _ then _ else _) = _
    have e1 : Int.tmod (n : Int) 10 = ((n % 10 : Nat) : Int) := (Int.ofNat_tmod n 10).symm
    have e2 : Int.tdiv (n : Int) 10 = ((n / 10 : Nat) : Int) := (Int.ofNat_tdiv n 10).symm
    have hl : ((u8L [((48 : Int) + ((n % 10 : Nat) : Int))]).length : Int) + out.length ≤ 9223372036854775807 := by rw [u8L_one]; simp; omega
    rw [if_pos (by omega), chk_pos (by omega), e1, chk_pos (i64_small (by omega)), chk_pos (by omega), chk_pos (by simp), chk_pos hl, chk_pos ⟨by omega, i64_small (by omega)⟩, e2, u8L_one];rfl
   ·rw [h3, decN_big h9, List.append_assoc]; rfl
   ·rw [List.length_cons] at h4; omega
theorem r1_Digits_nat (n : Nat) (h : n < 1000000000000000000) : P_r1_Digits (n : Int) = some (decN n) := by
 obtain ⟨q, o, h1, h2, h3, h4⟩ := digits_loop 18 n [] h h (by simp);unfold P_r1_Digits;rw [if_neg (by omega), andx_some']
 show andx _ _ = _;rw [h1, andx_some']
 have e := u8L_one q
 show chk _ _ = _;rw [chk_pos (i64_small (by omega)), chk_pos (by omega), chk_pos (by simp), e, chk_pos (by simp), chk_pos (by simp at h4 ⊢; omega)];rw [List.append_nil] at h3;rw [← h3]; rfl
theorem r1_Digits_neg (n : Nat) (h0 : 0 < n) (h : n < 1000000000000000000) : P_r1_Digits (-(n : Int)) = some (45 :: decN n) := by
 obtain ⟨q, o, h1, h2, h3, h4⟩ := digits_loop 18 n [] h h (by simp);unfold P_r1_Digits;rw [if_pos (by omega), chk_pos (i64_small (by omega)), andx_some']
 show andx _ _ = _;rw [show - -(n : Int) = (n : Int) by omega, h1, andx_some']
 have e := u8L_one q
 show chk _ _ = _;rw [chk_pos (i64_small (by omega)), chk_pos (by omega), chk_pos (by simp), e, chk_pos (by simp), chk_pos (by simp at h4 ⊢; omega)];rw [List.append_nil] at h3;rw [← h3]; rfl
theorem take_valS (s : Str) {k : Nat} {b : UInt8} (h : s[k]? = some b) : valS (s.take (k + 1)) = valS (s.take k) * 10 + (b.toNat - 48) := by rw [take_step h, valS_append]
def digFrom (s : Str) (a : Nat) : Prop := ∀ i, a ≤ i → i < s.length → 48 ≤ byteAt s i ∧ byteAt s i ≤ 57
open Classical in
theorem signed_loop (s : Str) (a : Nat) (ha1 : a ≤ 1) (ha : a ≤ s.length) (hl : s.length ≤ a + 9) : iter (P_r1_Signed_L1 s) (0, (a : Int)) = some (if digFrom s a then Ex.nx ((valS (s.drop a) : Nat) : Int) else Ex.rt 2000000000) := by
  have key : ∀ m k : Nat, m = s.length - a - k → a + k ≤ s.length → (∀ i, a ≤ i → i < a + k → 48 ≤ byteAt s i ∧ byteAt s i ≤ 57) → ∀ v : Nat, v = valS ((s.drop a).take k) → v < 10 ^ k →
      iter (P_r1_Signed_L1 s) ((v : Int), ((a + k : Nat) : Int)) = some (if digFrom s a then Ex.nx ((valS (s.drop a) : Nat) : Int) else Ex.rt 2000000000) := by
    intro m
    induction m with
    | zero =>
      intro k hm hk hd v hv hlt
      refine iter_eq.2 (.inr ?_)
      unfold P_r1_Signed_L1
      show (if _ then _ else _) = _
      rw [if_neg (by omega), if_pos (show digFrom s a from fun i h1 h2 => hd i h1 (by omega)), hv, List.take_of_length_le (by rw [List.length_drop]; omega)]
    | succ m ih =>
      intro k hm hk hd v hv hlt
      have hlt2 : a + k < s.length := by omega
      obtain ⟨b, hb⟩ := get_some hlt2
      have hbb := byteAt_of hb
      have hp9 : (10 : Nat) ^ k ≤ 10 ^ 9 := Nat.pow_le_pow_right (by omega) (by omega)
      by_cases h : 48 ≤ byteAt s ((a + k : Nat) : Int) ∧ byteAt s ((a + k : Nat) : Int) ≤ 57
      · have hb2 : (s.drop a)[k]? = some b := by rw [List.getElem?_drop]; exact hb
        have hv' : v * 10 + (b.toNat - 48) = valS ((s.drop a).take (k + 1)) := by rw [take_valS _ hb2, hv]
        have h48 : 48 ≤ b.toNat ∧ b.toNat ≤ 57 := by rw [hbb] at h; omega
        refine iter_eq.2 (.inl ⟨(((v * 10 + (b.toNat - 48) : Nat) : Int), ((a + (k + 1) : Nat) : Int)), ?_, ih (k + 1) (by omega) (by omega) (fun i h1 h2 => ?_) _ hv' (by rw [Nat.pow_succ]; omega)⟩)
        · unfold P_r1_Signed_L1
          show (if _ then _ else _) = _
          rw [if_pos (by omega), chk_pos (by omega), if_pos h.1, andx_some', decide_eq_true h.2, if_pos rfl, chk_pos (i64_small (by omega)), chk_pos (by omega), chk_pos (by have := byteAt_lt s ((a + k : Nat) : Int); omega), chk_pos (i64_small (by have := byteAt_lt s ((a + k : Nat) : Int); omega)),
            chk_pos (i64_small (by have := byteAt_lt s ((a + k : Nat) : Int); omega)), chk_pos (i64_small (by omega)), hbb]
          congr 3
          · omega
        · by_cases e : i = a + k
          · subst e; exact h
          · exact hd i h1 (by omega)
      · refine iter_eq.2 (.inr ?_)
        unfold P_r1_Signed_L1
        show (if _ then _ else _) = _
        rw [if_pos (by omega), chk_pos (by omega), if_neg (show ¬ digFrom s a from fun hd' => h (hd' (a + k) (by omega) hlt2))]
        by_cases h1 : byteAt s ((a + k : Nat) : Int) ≥ 48
        · rw [if_pos h1, andx_some', decide_eq_false (fun h2 => h ⟨h1, h2⟩), if_neg (by decide)]
        · rw [if_neg h1, andx_some', if_neg (by decide)]
  have := key (s.length - a) 0 (by omega) (by omega) (fun i h1 h2 => by omega) 0 rfl (by simp)
  simpa using this
theorem digFrom_zero {s : Str} : digFrom s 0 ↔ ∀ b ∈ s, digB b := by
 constructor
 ·intro h b hb;obtain ⟨i, hi⟩ := List.getElem?_of_mem hb
  have := h i (by omega) (List.getElem?_eq_some_iff.1 hi).1;rw [byteAt_of hi] at this;unfold digB; omega
 ·intro h i _ hi;obtain ⟨b, hb⟩ := get_some hi
  have := h b (List.mem_of_getElem? hb);rw [byteAt_of hb];unfold digB at this; omega
def canon (s : Str) : Prop := s.length ≤ 9 ∧ noNought s
open Classical in
theorem r1_Decimal_eq (s : Str) : P_r1_Decimal s = some (if canon s then ((valS s : Nat) : Int) else -1) := by
 unfold P_r1_Decimal
 have hS : ∃ y, P_r1_Signed s = some y ∧ ((canon s ∧ y = ((valS s : Nat) : Int)) ∨ (¬ canon s ∧ (y < 0 ∨ y = 2000000000))) := by
  unfold P_r1_Signed
  by_cases h0 : s.length = 0
  ·have : ¬ canon s := fun h => h.2.1 (List.eq_nil_of_length_eq_zero h0)
   rw [if_neg (by omega), andx_some', if_neg (by decide), andx_some', if_pos (by omega), andx_some', if_pos rfl];exact ⟨_, rfl, .inr ⟨this, .inr rfl⟩⟩
  obtain ⟨b0, hb0⟩ := get_some (l := s) (k := 0) (by omega)
  have hbb : byteAt s 0 = b0.toNat := byteAt_of hb0;rw [if_pos (by omega), chk_pos (by omega), andx_some', hbb]
  by_cases h45 : (b0.toNat : Int) = 45
  ·have hc : ¬ canon s := fun h => by
    have := h.2.2.1 b0 (List.mem_of_getElem? hb0);unfold digB at this; omega
   rw [decide_eq_true h45, if_pos rfl, andx_some']
   by_cases h1 : (s.length : Int) = 1
   ·rw [if_pos h1, andx_some', if_pos rfl]; exact ⟨_, rfl, .inr ⟨hc, .inr rfl⟩⟩
   rw [if_neg h1, chk_pos (i64_small (by omega)), andx_some']
   by_cases h2 : (s.length : Int) > 1 + 9
   ·rw [decide_eq_true h2, if_pos rfl]; exact ⟨_, rfl, .inr ⟨hc, .inr rfl⟩⟩
   rw [decide_eq_false h2, if_neg (by decide)]
   have hl := signed_loop s 1 (by omega) (by omega) (by omega)
   show ∃ y, seqx _ _ = _ ∧ _;rw [show ((1 : Int)) = ((1 : Nat) : Int) from rfl, hl]
   by_cases hd : digFrom s 1
   ·rw [if_pos hd]
    show ∃ y, andx _ _ = _ ∧ _
    have hdd : ∀ b ∈ s.drop 1, digB b := by
     rw [← digFrom_zero];intro i _ hi;rw [List.length_drop] at hi
     have := hd (1 + i) (by omega) (by omega)
     have e : byteAt (s.drop 1) (i : Int) = byteAt s ((1 + i : Nat) : Int) := by
      unfold byteAt;simp only [Int.toNat_natCast, List.getD_eq_getElem?_getD, List.getElem?_drop]
     rw [e]; exact this
    have hlt := valS_lt _ hdd
    have hp9 : (10 : Nat) ^ (s.drop 1).length ≤ 10 ^ 9 := Nat.pow_le_pow_right (by omega) (by rw [List.length_drop]; omega);rw [if_pos rfl, chk_pos (i64_small (by omega)), andx_some']
    rcases Nat.eq_zero_or_pos (valS (s.drop 1)) with hz | hz
    ·rw [hz]
     have e0 : P_r1_Digits (-((0 : Nat) : Int)) = some (decN 0) := r1_Digits_nat 0 (by omega);rw [e0, andx_some', decN_small (by omega)]
     have : ¬ [dig 0] = s := fun h => by
      rw [← h] at hb0
      have : b0 = dig 0 := by simpa using hb0.symm
      rw [this, dig_toNat (by omega)] at h45;omega
     rw [if_pos this];exact ⟨_, rfl, .inr ⟨hc, .inr rfl⟩⟩
    ·rw [r1_Digits_neg _ hz (by omega), andx_some'];split
     ·exact ⟨_, rfl, .inr ⟨hc, .inr rfl⟩⟩
     ·exact ⟨_, rfl, .inr ⟨hc, .inl (by omega)⟩⟩
   ·rw [if_neg hd];exact ⟨_, rfl, .inr ⟨hc, .inr rfl⟩⟩
  ·rw [decide_eq_false h45, if_neg (by decide), andx_some', if_neg (by omega), chk_pos (i64_small (by omega)), andx_some']
   by_cases h2 : (s.length : Int) > 0 + 9
   ·rw [decide_eq_true h2, if_pos rfl];exact ⟨_, rfl, .inr ⟨fun h => by have := h.1; omega, .inr rfl⟩⟩
   rw [decide_eq_false h2, if_neg (by decide)]
   have hl := signed_loop s 0 (by omega) (by omega) (by omega)
   show ∃ y, seqx _ _ = _ ∧ _;rw [show ((0 : Int), (0 : Int)) = ((0 : Int), ((0 : Nat) : Int)) from rfl, hl]
   by_cases hd : digFrom s 0
   ·rw [if_pos hd]
    show ∃ y, andx _ _ = _ ∧ _
    have hdd := digFrom_zero.1 hd
    have hlt := valS_lt _ hdd
    have hp9 : (10 : Nat) ^ s.length ≤ 10 ^ 9 := Nat.pow_le_pow_right (by omega) (by omega);rw [List.drop_zero, r1_Digits_nat _ (by omega), andx_some']
    by_cases hn : noNought s
    ·rw [if_neg (not_not_intro (decN_valS hn))];exact ⟨_, rfl, .inl ⟨⟨by omega, hn⟩, rfl⟩⟩
    ·rw [if_pos (show ¬ decN (valS s) = s from fun h => hn (by rw [← h]; exact decN_noNought _))];exact ⟨_, rfl, .inr ⟨fun h => hn h.2, .inr rfl⟩⟩
   ·rw [if_neg hd];refine ⟨_, rfl, .inr ⟨fun h => hd (digFrom_zero.2 h.2.2.1), .inr rfl⟩⟩
 obtain ⟨y, hy, h⟩ := hS;rw [hy, andx_some']
 rcases h with ⟨hc, rfl⟩ | ⟨hc, h⟩
 ·have hlt := valS_lt _ hc.2.2.1
  have hp9 : (10 : Nat) ^ s.length ≤ 10 ^ 9 := Nat.pow_le_pow_right (by omega) hc.1;rw [if_neg (by omega), andx_some', decide_eq_false (by omega), if_neg (by decide), if_pos hc]; rfl
 ·rw [if_neg hc]
  rcases h with h | h
  ·rw [if_pos h, andx_some', if_pos rfl]; rfl
  ·rw [if_neg (by omega), andx_some', decide_eq_true h, if_pos rfl]; rfl
end Go.Am
end
section
namespace Go.Am
set_option linter.unusedVariables false
set_option linter.unusedSimpArgs false
theorem small_lo : ∀ n : Fin 10, subs ([48, 49, 50, 51, 52, 53, 54, 55, 56, 57, 97, 98, 99, 100, 101, 102, 103, 104, 105, 106, 107, 108, 109, 110, 111, 112, 113, 114, 115, 116, 117, 118, 119, 120, 121, 122] : Str) ((n.1 : Nat) : Int) (((n.1 : Nat) : Int) + 1) = [dig n.1] := by decide +kernel
theorem small_hi : ∀ n : Fin 100, subs smallsS (((n.1 : Nat) : Int) * 2) ((((n.1 : Nat) : Int) * 2) + 2) = [dig (n.1 / 10), dig (n.1 % 10)] := by decide +kernel
theorem small_at : ∀ n : Fin 100, byteAt smallsS (((n.1 : Nat) : Int) * 2) = ((48 + n.1 / 10 : Nat) : Int) ∧ byteAt smallsS ((((n.1 : Nat) : Int) * 2) + 1) = ((48 + n.1 % 10 : Nat) : Int) := by decide +kernel
theorem smalls_len : smallsS.length = 200 := by decide +kernel
theorem decN_two {n : Nat} (h : 10 ≤ n) (h2 : n < 100) : decN n = [dig (n / 10), dig (n % 10)] := by
 rw [decN_big (by omega), decN_small (by omega)]; rfl
theorem i_small_eq (n : Nat) (h : n < 100) : P_i_small (n : Int) = some (decN n) := by
 unfold P_i_small
 by_cases h1 : n < 10
 ·rw [if_pos (by omega), chk_pos (i64_small (by omega)), chk_pos (by simp; omega), small_lo ⟨n, h1⟩, decN_small h1]
 ·rw [if_neg (by omega), chk_pos (i64_small (by omega)), chk_pos (i64_small (by omega)), chk_pos (i64_small (by omega)), chk_pos (by rw [smalls_len]; omega), small_hi ⟨n, h⟩, decN_two (by omega) h]
def bl (x : Nat) : Nat := if x < 1 then 0 else if x < 2 then 1 else if x < 4 then 2 else if x < 8 then 3 else if x < 16 then 4 else if x < 32 then 5 else if x < 64 then 6 else if x < 128 then 7 else 8
theorem len8_at : ∀ x : Fin 256, byteAt len8S ((x.1 : Nat) : Int) = ((bl x.1 : Nat) : Int) := by decide +kernel
theorem len8_len : len8S.length = 256 := by decide +kernel
theorem shr_nat (n k : Nat) : shrI (n : Int) (k : Int) = ((n / 2 ^ k : Nat) : Int) := by
 unfold shrI;rw [Int.fdiv_eq_ediv_of_nonneg _ (Int.pow_nonneg (by omega))];simp
noncomputable def numTail (d x_3 n_3 : Int) : Option Int :=
        chk (0 ≤ x_3 ∧ x_3 < 256) (
          chk (0 ≤ x_3 ∧ x_3 < (len8S.length : Int)) (
            chk (-9223372036854775808 ≤ (byteAt len8S x_3) ∧ (byteAt len8S x_3) < 9223372036854775808) (
              chk (I64 (n_3 + (byteAt len8S x_3))) (
                chk (I64 ((n_3 + (byteAt len8S x_3)) * 78913)) (
                  chk (0 ≤ (18 : Int) ∧ (18 : Int) < 64) (
                    el pow10L (shrI ((n_3 + (byteAt len8S x_3)) * 78913) 18) fun a10 =>
                    andx (
                      if d ≥ a10 then
                        some 1
                      else
                        some 0) fun y13 =>
                      chk (I64 ((shrI ((n_3 + (byteAt len8S x_3)) * 78913) 18) + y13)) (
                        some ((shrI ((n_3 + (byteAt len8S x_3)) * 78913) 18) + y13))))))))
theorem numTail_eq {d : Int} {x n L q : Nat} {a : Int} (hx : x < 256) (hL : n + bl x = L) (hL2 : L ≤ 64) (hq : (L * 78913) / 2 ^ 18 = q) (ha : pow10L[q]? = some a) : numTail d (x : Int) (n : Int) = some (if d ≥ a then ((q + 1 : Nat) : Int) else (q : Int)) := by
 have e0 := len8_at ⟨x, hx⟩;simp only at e0
 have e1 : (n : Int) + ((bl x : Nat) : Int) = (L : Int) := by omega
 have e2 : shrI ((L : Int) * 78913) 18 = (q : Int) := by
  have := shr_nat (L * 78913) 18;rw [hq] at this;rw [← this]; congr 1
 have hb : bl x ≤ 8 := by
  unfold bl
  repeat' split
  all_goals omega
 have hq19 : q ≤ 20 := by omega
 unfold numTail;rw [e0, e1, e2, chk_pos (by omega), chk_pos (by rw [len8_len]; omega), chk_pos (by omega), chk_pos (i64_small (by omega)), chk_pos (i64_small (by omega)), chk_pos (by omega), el_at ha]
 by_cases h : d ≥ a
 ·rw [if_pos h, andx_some', chk_pos (i64_small (by omega)), if_pos h]; simp
 ·rw [if_neg h, andx_some', chk_pos (i64_small (by omega)), if_neg h]; simp
theorem numDigits_eq (n : Nat) (h1 : 100 ≤ n) (h2 : n < 10000) : P_i_numDigits (n : Int) = some (if n < 1000 then 3 else 4) := by
 have e : P_i_numDigits (n : Int) = if n < 256 then numTail (n : Int) (n : Int) ((0 : Nat) : Int) else numTail (n : Int) ((n / 256 : Nat) : Int) ((8 : Nat) : Int) := by
  unfold P_i_numDigits;rw [if_neg (by omega), andx_some']
  show andx _ _ = _;rw [if_neg (by omega), andx_some']
  show andx _ _ = _
  by_cases h : n < 256
  ·rw [if_neg (by omega), andx_some', if_pos h]; rfl
  ·have := shr_nat n 8;rw [if_pos (by omega), chk_pos (by omega), chk_pos (i64_small (by omega)), andx_some', if_neg h]
   show numTail (n : Int) (shrI (n : Int) ((8 : Nat) : Int)) (0 + 8) = _;rw [this]; rfl
 rw [e]
 by_cases h : n < 256
 ·rw [if_pos h, if_pos (by omega)]
  by_cases h7 : n < 128
  ·rw [numTail_eq (L := 7) (q := 2) (a := 100) h (by unfold bl; repeat' (split <;> first | omega | skip)) (by omega) (by decide) rfl, if_pos (by omega)]; rfl
  ·rw [numTail_eq (L := 8) (q := 2) (a := 100) h (by unfold bl; repeat' (split <;> first | omega | skip)) (by omega) (by decide) rfl, if_pos (by omega)]; rfl
 ·rw [if_neg h]
  by_cases a9 : n < 512
  ·rw [numTail_eq (L := 9) (q := 2) (a := 100) (by omega) (by unfold bl; repeat' (split <;> first | omega | skip)) (by omega) (by decide) rfl, if_pos (by omega), if_pos (by omega)]; rfl
  by_cases a10 : n < 1024
  ·rw [numTail_eq (L := 10) (q := 3) (a := 1000) (by omega) (by unfold bl; repeat' (split <;> first | omega | skip)) (by omega) (by decide) rfl]
   by_cases hk : n < 1000
   ·rw [if_neg (by omega), if_pos hk]; rfl
   ·rw [if_pos (by omega), if_neg hk]; rfl
  by_cases a11 : n < 2048
  ·rw [numTail_eq (L := 11) (q := 3) (a := 1000) (by omega) (by unfold bl; repeat' (split <;> first | omega | skip)) (by omega) (by decide) rfl, if_pos (by omega), if_neg (by omega)]; rfl
  by_cases a12 : n < 4096
  ·rw [numTail_eq (L := 12) (q := 3) (a := 1000) (by omega) (by unfold bl; repeat' (split <;> first | omega | skip)) (by omega) (by decide) rfl, if_pos (by omega), if_neg (by omega)]; rfl
  by_cases a13 : n < 8192
  ·rw [numTail_eq (L := 13) (q := 3) (a := 1000) (by omega) (by unfold bl; repeat' (split <;> first | omega | skip)) (by omega) (by decide) rfl, if_pos (by omega), if_neg (by omega)]; rfl
  ·rw [numTail_eq (L := 14) (q := 4) (a := 10000) (by omega) (by unfold bl; repeat' (split <;> first | omega | skip)) (by omega) (by decide) rfl, if_neg (by omega), if_neg (by omega)]; rfl
theorem u8L_dig {l : List Nat} (h : ∀ x ∈ l, x < 10) : u8L (l.map fun x => ((48 + x : Nat) : Int)) = l.map dig := by
 induction l with
 | nil => rfl
 | cons a l ih =>
  have := ih fun x hx => h x (List.mem_cons_of_mem _ hx)
  show UInt8.ofNat _ :: u8L _ = dig a :: l.map dig;rw [this]
  congr 1
theorem decN_three {n : Nat} (h : 100 ≤ n) (h2 : n < 1000) : decN n = [dig (n / 100), dig (n % 100 / 10), dig (n % 100 % 10)] := by
 rw [decN_big (by omega), decN_two (by omega) (by omega)]
 have e1 : n / 10 / 10 = n / 100 := by omega
 have e2 : n / 10 % 10 = n % 100 / 10 := by omega
 have e3 : n % 10 = n % 100 % 10 := by omega
 rw [e1, e2, e3]; rfl
theorem decN_four {n : Nat} (h : 1000 ≤ n) (h2 : n < 10000) : decN n = [dig (n / 100 / 10), dig (n / 100 % 10), dig (n % 100 / 10), dig (n % 100 % 10)] := by
 rw [decN_big (by omega), decN_three (by omega) (by omega)]
 have e1 : n / 10 / 100 = n / 100 / 10 := by omega
 have e2 : n / 10 % 100 / 10 = n / 100 % 10 := by omega
 have e3 : n / 10 % 100 % 10 = n % 100 / 10 := by omega
 have e4 : n % 10 = n % 100 % 10 := by omega
 rw [e1, e2, e3, e4]; rfl
theorem FormatInt_eq (n : Nat) (h : n < 10000) : P_i_FormatInt (n : Int) 10 = some (decN n) := by
  unfold P_i_FormatInt
  rw [if_pos rfl, if_pos (by omega), andx_some']
  by_cases h1 : n < 100
  · rw [decide_eq_true (by omega), if_pos rfl, i_small_eq n h1]; rfl
  rw [decide_eq_false (by omega), if_neg (by decide)]
  show chk _ _ = _
  rw [chk_pos (by omega), if_neg (by omega), andx_some', numDigits_eq n (by omega) h, andx_some']
  have hl := small_at ⟨n % 100, by omega⟩
  simp only at hl
  have et1 : Int.tmod (n : Int) 10000 = (n : Int) := by rw [show (10000 : Int) = ((10000 : Nat) : Int) from rfl, ← Int.ofNat_tmod, Nat.mod_eq_of_lt h]
  have et2 : Int.tdiv (n : Int) 10000 = 0 := by rw [show (10000 : Int) = ((10000 : Nat) : Int) from rfl, ← Int.ofNat_tdiv, Nat.div_eq_of_lt h]; rfl
  have et3 : Int.tmod (n : Int) 100 = ((n % 100 : Nat) : Int) := (Int.ofNat_tmod n 100).symm
  have et4 : Int.tdiv (n : Int) 100 = ((n / 100 : Nat) : Int) := (Int.ofNat_tdiv n 100).symm
  by_cases h2 : n < 1000
  · rw [if_pos h2]
    have hi : iter (P_i_FormatInt_L1 3) ((n : Int), ((Int.toNat (1 + 3) - Int.toNat 1 : Nat) : Int), List.replicate 24 (0 : Int)) = some ((n : Int), 3, List.replicate 24 (0 : Int)) := by
      refine iter_eq.2 (.inr ?_)
      unfold P_i_FormatInt_L1
      show (if _ then _ else _) = _
      rw [if_neg (by decide)]; rfl
    rw [chk_pos (by decide), chk_pos (by decide), chk_pos (by decide), hi, andx_some']
    show andx (chk _ _) _ = _
    rw [chk_pos (by omega), if_neg (by decide), andx_some']
    show andx (andx _ _) _ = _
    rw [if_pos (by decide)]
    simp only [et3, et4]
    rw [hl.1, hl.2]
    rw [chk_pos (by omega), chk_pos (InK.u32 (by omega)), chk_pos ⟨by omega, InK.u32 (by omega)⟩, chk_pos (by decide), chk_pos (by decide), chk_pos (InK.u32 (by omega)), chk_pos (by rw [smalls_len]; omega), chk_pos (by rw [smalls_len]; omega),
      chk_pos (by decide), chk_pos (by simp), chk_pos (by decide), chk_pos (by decide), chk_pos (by simp), chk_pos (by decide), chk_pos (by decide), andx_some']
    dsimp only
    rw [if_pos (by decide), chk_pos (InK.u32 (by omega)), chk_pos (by omega), chk_pos (by decide), chk_pos (by simp), chk_pos (by decide), andx_some', if_neg (by omega), chk_pos (by decide), chk_pos (by simp), chk_pos (by decide), chk_pos (by simp), chk_pos (by decide)]
    rw [decN_three (by omega) h2]
    have := u8L_dig (l := [n / 100, n % 100 / 10, n % 100 % 10]) (by simp; omega)
    simp only [List.map_cons, List.map_nil] at this
    rw [← this]
    rfl
  · rw [if_neg h2]
    have hi : iter (P_i_FormatInt_L1 4) ((n : Int), ((Int.toNat (1 + 4) - Int.toNat 1 : Nat) : Int), List.replicate 24 (0 : Int)) = some ((n : Int), 4, List.replicate 24 (0 : Int)) := by
      refine iter_eq.2 (.inr ?_)
      unfold P_i_FormatInt_L1
      show (if _ then _ else _) = _
      rw [if_neg (by decide)]; rfl
    have hh := small_at ⟨n / 100, by omega⟩
    simp only at hh
    rw [chk_pos (by decide), chk_pos (by decide), chk_pos (by decide), hi, andx_some']
    show andx (chk _ _) _ = _
    rw [chk_pos (by omega), if_pos (by decide)]
    simp only [et1, et2, et3, et4]
    rw [hl.1, hl.2, hh.1, hh.2]
    rw [chk_pos (by omega), chk_pos ⟨by omega, InK.u32 (by omega)⟩, chk_pos ⟨by omega, InK.u32 (by omega)⟩, chk_pos (InK.u32 (by omega)), chk_pos (by omega), chk_pos (InK.u32 (by omega)), chk_pos (by decide), chk_pos (by decide), chk_pos (InK.u32 (by omega)),
      chk_pos (by rw [smalls_len]; omega), chk_pos (by rw [smalls_len]; omega), chk_pos (by decide), chk_pos (by simp), chk_pos (by decide), chk_pos (by decide), chk_pos (by simp), chk_pos (by decide), chk_pos (by decide), chk_pos (by decide), chk_pos (InK.u32 (by omega)),
      chk_pos (by rw [smalls_len]; omega), chk_pos (by rw [smalls_len]; omega), chk_pos (by decide), chk_pos (by simp), chk_pos (by decide), chk_pos (by decide), chk_pos (by simp), chk_pos (by decide), chk_pos (by decide), andx_some']
    dsimp only
    rw [if_neg (by decide), andx_some']
    dsimp only
    rw [if_neg (by decide), andx_some', if_neg (by omega), chk_pos (by decide), chk_pos (by simp), chk_pos (by decide), chk_pos (by simp), chk_pos (by decide)]
    rw [decN_four (by omega) h]
    have := u8L_dig (l := [n / 100 / 10, n / 100 % 10, n % 100 / 10, n % 100 % 10]) (by simp; omega)
    simp only [List.map_cons, List.map_nil] at this
    rw [← this]
    rfl
theorem Itoa_eq (n : Nat) (h : n < 10000) : P_Itoa (n : Int) = some (decN n) := by
 unfold P_Itoa;rw [FormatInt_eq n h]; rfl
theorem Atoi_eq {s : Str} (h0 : 0 < s.length) (h18 : s.length < 19) (hd : ∀ b ∈ s, digB b) : P_Atoi s = some ((valS s : Nat) : Int) := by
 have key : ∀ m k : Nat, m = s.length - k → k ≤ s.length → iter (P_i_Atoi_L1 s) (((valS (s.take k) : Nat) : Int), (k : Int)) = some (Ex.nx ((valS s : Nat) : Int)) := by
  intro m
  induction m with
  | zero =>
   intro k hm hk
   have : k = s.length := by omega
   subst this;refine iter_eq.2 (.inr ?_);unfold P_i_Atoi_L1
   show (if _ then _ else _) = _;rw [if_neg (by omega), List.take_length]
  | succ m ih =>
   intro k hm hk;obtain ⟨b, hb⟩ := get_some (l := s) (k := k) (by omega)
   have hdb := hd b (List.mem_of_getElem? hb);unfold digB at hdb
   have hlt := valS_lt (s.take k) fun x hx => hd x (List.mem_of_mem_take hx)
   have hlt2 := valS_lt (s.take (k + 1)) fun x hx => hd x (List.mem_of_mem_take hx)
   rw [take_valS s hb] at hlt2
   have hp : (10 : Nat) ^ (s.take (k + 1)).length ≤ 10 ^ 18 := Nat.pow_le_pow_right (by omega) (by rw [List.length_take]; omega);refine iter_eq.2 (.inl ⟨_, ?_, ih (k + 1) (by omega) (by omega)⟩);unfold P_i_Atoi_L1
   show (if _ then _ else _) = _;rw [if_pos (by omega), el_at hb, chk_pos (InK.u8 (by omega)), if_neg (by omega), chk_pos (i64_small (by omega)), chk_pos (by omega), chk_pos (i64_small (by omega)), chk_pos (i64_small (by omega)), take_valS s hb]
   congr 3
   omega
 obtain ⟨b0, hb0⟩ := get_some (l := s) (k := 0) h0
 have hd0 := hd b0 (List.mem_of_getElem? hb0);unfold digB at hd0
 have hbb : byteAt s 0 = b0.toNat := byteAt_of hb0;unfold P_Atoi P_i_Atoi
 have := key s.length 0 rfl (by omega);rw [if_pos (by omega), andx_some', decide_eq_true (by omega), if_pos rfl, chk_pos (by omega), hbb, if_neg (by omega), chk_pos (by omega), andx_some', decide_eq_false (by omega), if_neg (by decide)]
 show andx (seqx (seqx (iter (P_i_Atoi_L1 s) (0, 0)) _) _) _ = _;rw [show iter (P_i_Atoi_L1 s) (0, 0) = some (Ex.nx ((valS s : Nat) : Int)) from this]
 show andx (seqx (andx (chk _ _) _) _) _ = _;rw [chk_pos (by omega), if_neg (by omega)];rfl
end Go.Am
end
section
namespace Go.Am
set_option linter.unusedVariables false
set_option linter.unusedSimpArgs false
def FirstAt (l : List Str) (w : Str) (r : Int) : Prop := (r = -1 ∧ ∀ j : Nat, l[j]? ≠ some w) ∨ ∃ k : Nat, r = k ∧ l[k]? = some w ∧ ∀ j, j < k → l[j]? ≠ some w
theorem FirstAt.unique {l : List Str} {w : Str} {r r' : Int} (h : FirstAt l w r) (h' : FirstAt l w r') : r = r' := by
 rcases h with ⟨h1, h2⟩ | ⟨k, h1, h2, h3⟩ <;> rcases h' with ⟨h1', h2'⟩ | ⟨k', h1', h2', h3'⟩
 ·rw [h1, h1']
 ·exact absurd h2' (h2 k')
 ·exact absurd h2 (h2' k)
 ·rcases Nat.lt_trichotomy k k' with h | h | h
  ·exact absurd h2 (h3' k h)
  ·rw [h1, h1', h]
  ·exact absurd h2' (h3 k' h)
theorem r1_Place_first (l : List Str) (w : Str) (hl : l.length ≤ 1000) : Ok (P_r1_Place l w) (FirstAt l w) := by
 unfold P_r1_Place;refine .chk (i64_small (by omega)) ?_;refine Ok.andx (P := fun at_ : Int => (-1 ≤ at_ ∧ at_ < l.length) ∧ (0 ≤ at_ → l[at_.toNat]? = some w) ∧ ∀ j : Nat, at_ < j → l[j]? ≠ some w) ?_ ?_
 ·refine Ok.iter (fun at_ : Int => (-1 ≤ at_ ∧ at_ < l.length) ∧ ∀ j : Nat, at_ < j → l[j]? ≠ some w) (fun at_ : Int => (at_ + 1).toNat) ⟨by omega, fun j hj hj' => ?_⟩ ?_
  ·have := (List.getElem?_eq_some_iff.1 hj').1;omega
  ·rintro at_ ⟨h1, h2⟩;unfold P_r1_Place_L1
   by_cases h3 : at_ ≥ 0
   ·rw [if_pos h3];obtain ⟨k, rfl⟩ := Int.eq_ofNat_of_zero_le h3;obtain ⟨a, ha⟩ := get_some (l := l) (k := k) (by omega);rw [el_at ha]
    by_cases h4 : a = w
    ·simp only [h4, not_true, decide_false, andx, seqx];refine .some ⟨h1, fun _ => ?_, h2⟩;rw [← h4]; simpa using ha
    ·simp only [h4, not_false_iff, decide_true, andx, seqx, if_true];refine .chk (i64_small (by omega)) (.some ⟨⟨by omega, fun j hj => ?_⟩, by show ((k : Int) - 1 + 1).toNat < ((k : Int) + 1).toNat; omega⟩)
     by_cases hjk : j = k
     ·subst hjk; rw [ha]; exact fun e => h4 (by cases e; rfl)
     ·exact h2 j (by omega)
   ·rw [if_neg h3];simp only [andx, seqx];exact .some ⟨h1, fun h => absurd h h3, h2⟩
 ·rintro at_ ⟨h1, h2, h4⟩;refine Ok.seqx ?_
  by_cases h0 : 0 ≤ at_
  ·refine Ok.count id at_.toNat (fun k _ => ∀ j, j < k → l[j]? ≠ some w) rfl (fun j hj => by omega) ?_ ?_
   ·rintro k x hk hx hI;simp only [id] at hx;subst hx;unfold P_r1_Place_L2;obtain ⟨a, ha⟩ := get_some (l := l) (k := k) (by omega);rw [if_pos (by omega), el_at ha];refine .ite (fun h => .some ?_) (fun h => .chk (i64_small (by omega)) (.some ⟨rfl, fun j hj => ?_⟩))
    ·show FirstAt l w (k : Int);exact .inr ⟨k, rfl, by rw [ha, h], hI⟩
    ·by_cases hjk : j = k
     ·subst hjk; rw [ha]; exact fun e => h (by cases e; rfl)
     ·exact hI j (by omega)
   ·rintro x hx hI;simp only [id] at hx;unfold P_r1_Place_L2;rw [if_neg (by omega)];exact .some (.some (.inr ⟨at_.toNat, by omega, h2 h0, hI⟩))
  ·refine Ok.count id 0 (fun _ _ => True) rfl trivial (fun k x hk => by omega) ?_;rintro x hx _;simp only [id] at hx;unfold P_r1_Place_L2;rw [if_neg (by omega)];exact .some (.some (.inl ⟨by omega, fun j => h4 j (by omega)⟩))
theorem idxStr_first (l : List Str) (w : Str) (hl : l.length ≤ 1000) : Ok (P_idxStr l w) (FirstAt l w) := by
 unfold P_idxStr;refine Ok.seqx (Ok.count id l.length (fun k _ => ∀ j, j < k → l[j]? ≠ some w) rfl (fun j hj => by omega) ?_ ?_)
 ·rintro k x hk hx hI;simp only [id] at hx;subst hx;unfold P_idxStr_L1;obtain ⟨a, ha⟩ := get_some (l := l) (k := k) (by omega);rw [if_pos (by omega), el_at ha];refine .ite (fun h => .some ?_) (fun h => .chk (i64_small (by omega)) (.some ⟨rfl, fun j hj => ?_⟩))
  ·show FirstAt l w (k : Int);exact .inr ⟨k, rfl, by rw [ha, h], hI⟩
  ·by_cases hjk : j = k
   ·subst hjk; rw [ha]; exact fun e => h (by cases e; rfl)
   ·exact hI j (by omega)
 ·rintro x hx hI;simp only [id] at hx;unfold P_idxStr_L1;rw [if_neg (by omega)];refine .some (.some (.inl ⟨rfl, fun j hj => ?_⟩));exact hI j (List.getElem?_eq_some_iff.1 hj).1 hj
noncomputable def lastD (s : Str) : Nat → Int
 | 0 => -1
 | k + 1 => if byteAt s (k : Int) = 46 then (k : Int) else lastD s k
theorem lastD_rng (s : Str) : ∀ k, -1 ≤ lastD s k ∧ lastD s k < k
 | 0 => by simp [lastD]
 | k + 1 => by
  have := lastD_rng s k;unfold lastD;split <;> omega
theorem lastD_dot (s : Str) : ∀ k, 0 ≤ lastD s k → byteAt s (lastD s k) = 46
 | 0 => by simp [lastD]
 | k + 1 => by
  unfold lastD;split
  ·intro _; assumption
  ·exact lastD_dot s k
theorem lastD_last (s : Str) : ∀ k (j : Nat), lastD s k < j → j < k → byteAt s (j : Int) ≠ 46
 | 0 => fun j _ h => by omega
 | k + 1 => fun j h1 h2 => by
  unfold lastD at h1;split at h1
  ·omega
  ·rename_i hk
   by_cases e : j = k
   ·rw [e]; exact hk
   ·exact lastD_last s k j h1 (by omega)
noncomputable def lastDot (s : Str) : Int := lastD s s.length
theorem s9_dot (s : Str) (hs : s.length ≤ 9223372036854775807) : (andx (seqx (chk (I64 ((s.length : Int) - 1)) (iter (P_s9_Read_L1 s) ((s.length : Int) - 1))) fun _ => some (-1)) some) = some (lastDot s) := by
 have key : ∀ k : Nat, k ≤ s.length → iter (P_s9_Read_L1 s) ((k : Int) - 1) = some (if lastD s k < 0 then Ex.nx () else Ex.rt (lastD s k)) := by
  intro k
  induction k with
  | zero =>
   intro _;refine iter_eq.2 (.inr ?_);unfold P_s9_Read_L1;rw [if_neg (by omega), if_pos (by simp [lastD])]
  | succ k ih =>
   intro hk
   have e : ((k + 1 : Nat) : Int) - 1 = (k : Int) := by omega
   rw [e]
   by_cases h : byteAt s (k : Int) = 46
   ·refine iter_eq.2 (.inr ?_);unfold P_s9_Read_L1 lastD;rw [if_pos (by omega), chk_pos (by omega), if_pos h, if_pos h, if_neg (by omega)]
   ·have := ih (by omega);refine iter_eq.2 (.inl ⟨(k : Int) - 1, ?_, ?_⟩)
    ·unfold P_s9_Read_L1;rw [if_pos (by omega), chk_pos (by omega), if_neg h, chk_pos (by unfold I64; omega)]
    ·rw [this];unfold lastD;rw [if_neg h];cases k <;> rfl
 rw [chk_pos (by unfold I64; omega), key _ (Nat.le_refl _)]
 have := lastD_rng s s.length;unfold lastDot;split
 ·show some (-1 : Int) = _
  congr 1; omega
 ·rfl
theorem r9_dot (s : Str) (hs : s.length ≤ 9223372036854775807) : iter (P_r9_parted_L1 s) (-1, 0) = some (lastDot s) := by
 have key : ∀ m k : Nat, m = s.length - k → k ≤ s.length → iter (P_r9_parted_L1 s) (lastD s k, (k : Int)) = some (lastDot s) := by
  intro m
  induction m with
  | zero =>
   intro k hm hk
   have : k = s.length := by omega
   subst this;refine iter_eq.2 (.inr ?_);unfold P_r9_parted_L1
   show (if _ then _ else _) = _;rw [if_neg (by omega)]; rfl
  | succ m ih =>
   intro k hm hk;refine iter_eq.2 (.inl ⟨_, ?_, ih (k + 1) (by omega) (by omega)⟩);unfold P_r9_parted_L1
   show (if _ then _ else _) = _;rw [if_pos (by omega), chk_pos (by omega)]
   have e : (if byteAt s (k : Int) = 46 then some (k : Int) else some (lastD s k)) = some (lastD s (k + 1)) := by
    unfold lastD;split
    ·rfl
    ·cases k <;> rfl
   rw [e, andx_some', chk_pos (by unfold I64; omega)];rfl
 exact key s.length 0 (by omega) (by omega)
open Classical in
noncomputable def dcnt : Str → Nat
 | [] => 0
 | b :: s => if digB b then dcnt s + 1 else 0
theorem dcnt_cons (b : UInt8) (s : Str) [Decidable (digB b)] : dcnt (b :: s) = if digB b then dcnt s + 1 else 0 := by
 conv => lhs; unfold dcnt
 split <;> simp [*]
theorem dcnt_le : ∀ s : Str, dcnt s ≤ s.length
 | [] => Nat.le_refl _
 | b :: s => by
  have := dcnt_le s;unfold dcnt;split <;> simp <;> omega
theorem dcnt_dig : ∀ s : Str, ∀ b ∈ s.take (dcnt s), digB b
 | [] => fun b hb => by simp [dcnt] at hb
 | a :: s => by
  unfold dcnt;split
  ·intro b hb;rw [List.take_succ_cons] at hb
   rcases List.mem_cons.1 hb with rfl | hb
   ·assumption
   ·exact dcnt_dig s b hb
  ·intro b hb; simp at hb
theorem dcnt_of : ∀ (k : Nat) (s : Str), (∀ b ∈ s.take k, digB b) → (∀ b, s[k]? = some b → ¬ digB b) → k ≤ s.length → dcnt s = k
 | 0, [], _, _, _ => rfl
 | 0, b :: s, _, h, _ => by unfold dcnt; rw [if_neg (h b rfl)]
 | k + 1, [], _, _, h => by simp at h
 | k + 1, b :: s, h1, h2, h3 => by
  unfold dcnt;rw [if_pos (h1 b (by simp)), dcnt_of k s (fun x hx => h1 x (by rw [List.take_succ_cons]; exact List.mem_cons_of_mem _ hx)) (fun x hx => h2 x (by rw [List.getElem?_cons_succ]; exact hx)) (by simpa using h3)]
theorem subs_drop (s : Str) {a : Int} (ha : 0 ≤ a ∧ a ≤ s.length) : subs s a s.length = s.drop a.toNat := by
 unfold subs;rw [List.take_of_length_le (by rw [List.length_drop]; omega)]
theorem subs_take (s : Str) (b : Int) : subs s 0 b = s.take b.toNat := by simp [subs]
open Classical in
theorem s9_digits (text : Str) (d : Int) (ht : text.length ≤ 9223372036854775807) : iter (P_s9_Read_L2 text d) (0, 0) = some ((dcnt (subs text (d + 1) text.length) : Nat) : Int) := by
  have hr : (subs text (d + 1) text.length).length ≤ text.length := by
    unfold subs
    rw [List.length_take, List.length_drop]; omega
  unfold P_s9_Read_L2
  generalize subs text (d + 1) text.length = r at hr ⊢
  have key : ∀ m k : Nat, m = r.length - k → k ≤ r.length → ∀ n : Nat, n = k + dcnt (r.drop k) → iter (fun (x : Int × Nat) => match x with
      | (digits, pos) => if pos < r.length then
        seqx (andx (if (runeAt r pos) < 48 then some true else some (decide ((runeAt r pos) > 57))) fun x45 => if x45 = true then some (Ex.rt (Stp.dn digits)) else some (Ex.nx ())) fun _ =>
          chk (I64 (digits + 1)) (some (Stp.ag ((digits + 1), (pos + runeLen r pos))))
        else some (Stp.dn digits)) ((k : Int), k) = some ((n : Nat) : Int) := by
    intro m
    induction m with
    | zero =>
      intro k hm hk n hn
      have : k = r.length := by omega
      subst this
      refine iter_eq.2 (.inr ?_)
      show (if _ then _ else _) = _
      rw [if_neg (by omega), hn, List.drop_length]; rfl
    | succ m ih =>
      intro k hm hk n hn
      obtain ⟨b, hb⟩ := get_some (l := r) (k := k) (by omega)
      have hd : r.drop k = b :: r.drop (k + 1) := by
        rw [List.drop_eq_getElem_cons (by omega)]
        congr 1
        exact (List.getElem?_eq_some_iff.1 hb).2
      have hbb := byteAt_of hb
      by_cases h : digB b
      · have e : dcnt (r.drop k) = dcnt (r.drop (k + 1)) + 1 := by rw [hd, dcnt_cons, if_pos h]
        unfold digB at h
        refine iter_eq.2 (.inl ⟨(((k + 1 : Nat) : Int), k + 1), ?_, ih (k + 1) (by omega) (by omega) n (by omega)⟩)
        show (if _ then _ else _) = _
        rw [if_pos (by omega)]
        rcases rune_low (l := r) (p := k) (by omega) with ⟨h1, h2⟩ | ⟨h1, h2⟩
        · rw [h1, h2, hbb, if_neg (by omega), andx_some', decide_eq_false (by omega), if_neg (by decide)]
          show chk _ _ = _
          rw [chk_pos (by unfold I64; omega)]
          rfl
        · omega
      · have e : dcnt (r.drop k) = 0 := by rw [hd, dcnt_cons, if_neg h]
        have hn' : n = k := by omega
        rw [hn']
        refine iter_eq.2 (.inr ?_)
        show (if _ then _ else _) = _
        rw [if_pos (by omega)]
        unfold digB at h
        have h48 : runeAt r k < 48 ∨ 57 < runeAt r k := by
          rcases rune_low (l := r) (p := k) (by omega) with ⟨h1, h2⟩ | ⟨h1, h2⟩
          · rw [h1, hbb]; omega
          · omega
        by_cases h1 : runeAt r k < 48
        · rw [if_pos h1]; rfl
        · rw [if_neg h1, andx_some', decide_eq_true (by omega)]; rfl
  exact key r.length 0 (by omega) (by omega) _ (by rw [List.drop_zero]; omega)
def TailOk (r : Str) : Prop := (1 ≤ dcnt r ∧ dcnt r ≤ 4) ∧ (∀ b, r[0]? = some b → b.toNat ≠ 48) ∧ (r.drop (dcnt r)).length ≤ 2 ∧ isLow (r.drop (dcnt r))
noncomputable def afterDot (t : Str) : Str := t.drop ((lastDot t).toNat + 1)
noncomputable def beforeDot (t : Str) : Str := t.take (lastDot t).toNat
def MarkOk (t : Str) : Prop := 0 ≤ lastDot t ∧ isName (beforeDot t) ∧ TailOk (afterDot t)
noncomputable def numOf (t : Str) : Nat := valS ((afterDot t).take (dcnt (afterDot t)))
noncomputable def sufOf (t : Str) : Str := (afterDot t).drop (dcnt (afterDot t))
theorem tail_num {r : Str} (h : TailOk r) : noNought (r.take (dcnt r)) ∧ 1 ≤ valS (r.take (dcnt r)) ∧ valS (r.take (dcnt r)) ≤ 9999 := by
 obtain ⟨h1, h2, h3, h4⟩ := h
 have hle := dcnt_le r
 have hlen : (r.take (dcnt r)).length = dcnt r := by rw [List.length_take]; omega
 have hne : r.take (dcnt r) ≠ [] := fun h => by rw [h] at hlen; simp at hlen; omega
 have h0 : ∀ b, (r.take (dcnt r))[0]? = some b → b.toNat ≠ 48 := fun b hb => h2 b (by rw [List.getElem?_take, if_pos (by omega)] at hb; exact hb)
 have hp := valS_pos (dcnt_dig r) h0 hne
 have hlt := valS_lt _ (dcnt_dig r)
 have hpw : (10 : Nat) ^ (r.take (dcnt r)).length ≤ 10 ^ 4 := Nat.pow_le_pow_right (by omega) (by omega);exact ⟨⟨hne, dcnt_dig r, .inr h0⟩, hp, by omega⟩
def ReadIs (cl : List Str) (sh : List qH) (bs : List qG) (text : Str) (r : Int × Int × Str × Int) : Prop :=
 (roomN cl sh bs ≠ 0 → r = (0, 0, [], roomN cl sh bs)) ∧ (roomN cl sh bs = 0 → ¬ MarkOk text → r = (0, 0, [], 6)) ∧
  (roomN cl sh bs = 0 → MarkOk text → ∃ i, FirstAt cl (beforeDot text) i ∧ r = (if i < 0 then (0, 0, [], 4) else (i, (numOf text : Int), sufOf text, 0)))
section
variable {cl : List Str} {sh : List qH} {bs : List qG} {text : Str}
theorem ReadIs.bad (h : roomN cl sh bs ≠ 0) : ReadIs cl sh bs text (0, 0, [], roomN cl sh bs) := ⟨fun _ => rfl, fun h0 => absurd h0 h, fun h0 => absurd h0 h⟩
theorem ReadIs.form (h : roomN cl sh bs = 0) (h1 : ¬ MarkOk text) : ReadIs cl sh bs text (0, 0, [], 6) := ⟨fun h0 => absurd h h0, fun _ _ => rfl, fun _ h2 => absurd h2 h1⟩
theorem ReadIs.is (h : roomN cl sh bs = 0) (h1 : MarkOk text) {i : Int} (hi : FirstAt cl (beforeDot text) i) {r : Int × Int × Str × Int} (hr : r = (if i < 0 then (0, 0, [], 4) else (i, (numOf text : Int), sufOf text, 0))) : ReadIs cl sh bs text r :=
 ⟨fun h0 => absurd h h0, fun _ h2 => absurd h1 h2, fun _ _ => ⟨i, hi, hr⟩⟩
theorem ReadIs.unique {r r' : Int × Int × Str × Int} (h : ReadIs cl sh bs text r) (h' : ReadIs cl sh bs text r') : r = r' := by
 by_cases h0 : roomN cl sh bs = 0
 ·by_cases h1 : MarkOk text
  ·obtain ⟨i, hi, e⟩ := h.2.2 h0 h1;obtain ⟨i', hi', e'⟩ := h'.2.2 h0 h1;rw [e, e', hi.unique hi']
  ·rw [h.2.1 h0 h1, h'.2.1 h0 h1]
 ·rw [h.1 h0, h'.1 h0]
end
open Classical in
theorem s9_Read_eq (cl : List Str) (sh : List qH) (bs : List qG) (text : Str) (ht : text.length ≤ 9223372036854775807) : Ok (P_s9_Read cl sh bs text) (ReadIs cl sh bs text) := by
 unfold P_s9_Read;rw [s9_open_eq, andx_some']
 by_cases h0 : roomN cl sh bs = 0
 rotate_left
 ·rw [if_pos h0];exact .some (.bad h0)
 have hcl := (roomN_zero.1 h0).cl1;rw [if_neg (not_not_intro h0)];refine Ok.andx (P := fun d => d = lastDot text) ?_ ?_
 ·have := s9_dot text ht;obtain ⟨d, h1, h2⟩ := andx_some this;rw [h1];exact .some (by cases h2; rfl)
 rintro d rfl
 have hrng := lastD_rng text text.length
 change -1 ≤ lastDot text ∧ lastDot text < text.length at hrng
 by_cases hd : 0 ≤ lastDot text
 rotate_left
 ·have hm : ¬ MarkOk text := fun h => hd h.1
  rw [if_neg (by omega)];exact .some (.form h0 hm)
 rw [if_pos (by omega), chk_pos (by omega), q_Name_eq, andx_some', subs_take]
 by_cases hn : isName (beforeDot text)
 rotate_left
 ·have hm : ¬ MarkOk text := fun h => hn h.2.1
  rw [decide_eq_false (show ¬ isName (text.take (lastDot text).toNat) from hn)];exact .some (.form h0 hm)
 rw [decide_eq_true (show isName (text.take (lastDot text).toNat) from hn)]
 show Ok (andx (chk _ _) _) _;rw [chk_pos (by unfold I64; omega), chk_pos (by omega), s9_digits text _ ht, andx_some']
 have hsub : subs text (lastDot text + 1) text.length = afterDot text := by
  rw [subs_drop _ (by omega)];unfold afterDot
  congr 1; omega
 rw [hsub, s9_out1, andx_some']
 have hle := dcnt_le (afterDot text)
 have hlen : (afterDot text).length = text.length - ((lastDot text).toNat + 1) := by unfold afterDot; rw [List.length_drop]
 by_cases h14 : 1 ≤ dcnt (afterDot text) ∧ dcnt (afterDot text) ≤ 4
 rotate_left
 ·have hm : ¬ MarkOk text := fun h => h14 h.2.2.1
  rw [decide_eq_true (show ¬ btw 1 4 _ from fun h => h14 (by unfold btw at h; omega)), if_pos rfl];exact .some (.form h0 hm)
 rw [decide_eq_false (show ¬ ¬ btw 1 4 _ from not_not_intro (by unfold btw; omega)), if_neg (by decide), chk_pos (by unfold I64; omega), chk_pos (by omega)];obtain ⟨b, hb⟩ := get_some (l := afterDot text) (k := 0) (by omega)
 have hbt : byteAt text (lastDot text + 1) = b.toNat := by
  have e : lastDot text + 1 = (((lastDot text).toNat + 1 : Nat) : Int) := by omega
  rw [e];refine byteAt_of ?_;unfold afterDot at hb;rw [List.getElem?_drop] at hb;exact hb
 by_cases h48 : b.toNat = 48
 ·have hm : ¬ MarkOk text := fun h => h.2.2.2.1 b hb h48
  rw [hbt, decide_eq_false (show ¬ ¬ ((b.toNat : Int) = 48) from not_not_intro (by omega))];exact .some (.form h0 hm)
 rw [hbt, decide_eq_true (show ¬ ((b.toNat : Int) = 48) from by omega)]
 show Ok (chk _ _) _
 have htk : subs text (lastDot text + 1) (lastDot text + 1 + ((dcnt (afterDot text) : Nat) : Int)) = (afterDot text).take (dcnt (afterDot text)) := by
  unfold subs afterDot
  congr 1
  ·omega
  ·congr 1; omega
 have hdr : subs text (lastDot text + 1 + ((dcnt (afterDot text) : Nat) : Int)) text.length = sufOf text := by
  rw [subs_drop _ (by omega)];unfold sufOf afterDot;rw [List.drop_drop]
  have hle' := dcnt_le (afterDot text);unfold afterDot at hle'
  congr 1
  omega
 have hlk : ((afterDot text).take (dcnt (afterDot text))).length = dcnt (afterDot text) := by rw [List.length_take]; omega
 rw [chk_pos (by unfold I64; omega), chk_pos (by unfold I64; omega), chk_pos (by unfold I64; omega), chk_pos (by omega), htk, Atoi_eq (by omega) (by omega) (dcnt_dig _), andx_some', chk_pos (by unfold I64; omega), chk_pos (by unfold I64; omega), chk_pos (by omega), hdr, s9_mark_eq (by simp), andx_some']
 by_cases ht2 : TailOk (afterDot text)
 rotate_left
 ·have hm : ¬ MarkOk text := fun h => ht2 h.2.2
  have hme : mkErr [([] : Str)].length 0 ((valS ((afterDot text).take (dcnt (afterDot text))) : Nat) : Int) (sufOf text) ≠ 0 := fun h => by
   obtain ⟨_, _, h2, h3⟩ := markOk_bound h;exact ht2 ⟨h14, fun x hx => by rw [hb] at hx; cases hx; exact h48, h2, h3⟩
  rw [decide_eq_false hme];exact .some (.form h0 hm)
 have hm : MarkOk text := ⟨hd, hn, ht2⟩;obtain ⟨_, hv1, hv2⟩ := tail_num ht2
 have hme : mkErr [([] : Str)].length 0 ((valS ((afterDot text).take (dcnt (afterDot text))) : Nat) : Int) (sufOf text) = 0 := by
  unfold mkErr;rw [if_pos (by unfold btw; simp), if_pos (by unfold btw; omega), if_pos (show (sufOf text).length ≤ 2 from ht2.2.2.1), if_pos (show isLow (sufOf text) from ht2.2.2.2)]
 rw [decide_eq_true hme]
 show Ok (chk _ _) _;rw [chk_pos (by omega)];refine (idxStr_first cl _ (by omega)).andx fun i hi => ?_
 refine .ite (fun h => .some (.is h0 hm hi ?_)) (fun h => .some (.is h0 hm hi ?_))
 ·rw [if_pos h]
 ·rw [if_neg h]; rfl
theorem good_tail {r : Str} {m : Nat} (hm : m ≤ r.length) (hc : canon (r.take m)) (hlow : isLow (r.drop m)) : m = dcnt r := by
 refine (dcnt_of m r hc.2.2.1 (fun b hb hdb => ?_) hm).symm
 have hlt := (List.getElem?_eq_some_iff.1 hb).1
 have h0 := hlow 0 (by rw [List.length_drop]; omega)
 have : byteAt (r.drop m) ((0 : Nat) : Int) = b.toNat := byteAt_of (by rw [List.getElem?_drop]; exact hb);rw [this] at h0;unfold lowerN at h0;unfold digB at hdb;omega
open Classical in
theorem r9_parted_eq (text : Str) (ht : text.length ≤ 9223372036854775807) : P_r9_parted text = some (if MarkOk text then (beforeDot text, (numOf text : Int), sufOf text, true) else ([], 0, [], false)) := by
 unfold P_r9_parted;rw [r9_dot text (by omega), andx_some']
 have hrng := lastD_rng text text.length
 change -1 ≤ lastDot text ∧ lastDot text < text.length at hrng
 by_cases hd : 0 ≤ lastDot text
 rotate_left
 ·have hm : ¬ MarkOk text := fun h => hd h.1
  rw [if_neg hm, if_pos (by omega)]; rfl
 rw [if_neg (by omega), chk_pos (by omega), r1_Name_eq, subs_take, andx_some', andx_some']
 by_cases hn : isName (beforeDot text)
 rotate_left
 ·have hm : ¬ MarkOk text := fun h => hn h.2.1
  rw [if_neg hm, decide_eq_false (show ¬ isName (text.take (lastDot text).toNat) from hn)]; rfl
 rw [decide_eq_true (show isName (text.take (lastDot text).toNat) from hn)]
 show chk _ _ = _;rw [chk_pos (by unfold I64; omega), chk_pos (by omega)]
 have hsub : subs text (lastDot text + 1) text.length = afterDot text := by
  rw [subs_drop _ (by omega)];unfold afterDot
  congr 1; omega
 have hlen : (afterDot text).length = text.length - ((lastDot text).toNat + 1) := by unfold afterDot; rw [List.length_drop]
 let good (m : Nat) : Prop := canon ((afterDot text).take m) ∧ (1 ≤ valS ((afterDot text).take m) ∧ valS ((afterDot text).take m) ≤ 9999) ∧ ((afterDot text).drop m).length ≤ 2 ∧ isLow ((afterDot text).drop m)
 let f (m : Nat) : Option (Str × Int × Str × Bool) := if good m then some (beforeDot text, ((valS ((afterDot text).take m) : Nat) : Int), (afterDot text).drop m, true) else none
 rw [iter_scanI f ((afterDot text).length + 1), seqx_scan]
 ·by_cases htl : TailOk (afterDot text)
  ·have hm : MarkOk text := ⟨hd, hn, htl⟩;obtain ⟨v0, v1, v2⟩ := tail_num htl
   have hle := dcnt_le (afterDot text)
   have hg : good (dcnt (afterDot text)) := ⟨⟨by rw [List.length_take]; have := htl.1; omega, v0⟩, ⟨v1, v2⟩, htl.2.2.1, htl.2.2.2⟩;rw [if_pos hm, find_range (k := dcnt (afterDot text)) (by omega) (fun j hj => ?_) (if_pos hg)]
   ·rfl
   ·show (if good j then _ else _) = _;rw [if_neg];exact fun hgj => by have := good_tail (by omega) hgj.1 hgj.2.2.2; omega
  ·have hm : ¬ MarkOk text := fun h => htl h.2.2
   rw [if_neg hm, find_none fun j hj => ?_]
   show (if good j then _ else _) = _;rw [if_neg];intro hgj
   have e := good_tail (by omega) hgj.1 hgj.2.2.2;subst e;obtain ⟨⟨g1, g2⟩, ⟨g3, g4⟩, g5, g6⟩ := hgj
   have hle := dcnt_le (afterDot text)
   have hl : ((afterDot text).take (dcnt (afterDot text))).length = dcnt (afterDot text) := by rw [List.length_take]; omega
   have hpos : 1 ≤ dcnt (afterDot text) := by
    rcases Nat.eq_zero_or_pos (dcnt (afterDot text)) with h | h
    ·exact absurd (List.eq_nil_of_length_eq_zero (by omega)) g2.1
    ·exact h
   have h48 : ∀ b, (afterDot text)[0]? = some b → b.toNat ≠ 48 := by
    rcases g2.2.2 with h1 | h1
    ·intro b hb h;rw [hl] at h1;rw [h1] at g3
     have : (afterDot text).take 1 = [b] := by
      rw [List.take_add_one];simp [hb]
     rw [this] at g3
     have : valS [b] = b.toNat - 48 := by simp [valS]
     omega
    ·exact fun b hb => h1 b (by rw [List.getElem?_take, if_pos (by omega)]; exact hb)
   refine htl ⟨⟨hpos, ?_⟩, h48, g5, g6⟩
   have := valS_ge g2.2.1 (fun b hb => h48 b (by rw [List.getElem?_take, if_pos (by omega)] at hb; exact hb)) (dcnt (afterDot text) - 1) (by omega);refine Classical.byContradiction fun hk => ?_
   have h4 : (10 : Nat) ^ 4 ≤ 10 ^ (dcnt (afterDot text) - 1) := Nat.pow_le_pow_right (by omega) (by omega);omega
 ·intro k hk hj;unfold P_r9_parted_L2;rw [hsub, if_pos (by omega), chk_pos (by omega), chk_pos (by omega), subs_take, r1_Decimal_eq, andx_some', r9_in_eq, andx_some', subs_drop _ (by omega)];simp only [Int.toNat_natCast]
  show _ = some (scanS _ (if good k then _ else _))
  by_cases hc : canon ((afterDot text).take k)
  ·rw [if_pos hc]
   by_cases hv : 1 ≤ valS ((afterDot text).take k) ∧ valS ((afterDot text).take k) ≤ 9999
   ·rw [decide_eq_true (by omega), if_pos rfl]
    by_cases h2 : ((afterDot text).drop k).length ≤ 2
    ·rw [if_pos (by omega), r9_letters_eq _ (by omega), andx_some', andx_some']
     by_cases hlo : isLow ((afterDot text).drop k)
     ·rw [decide_eq_true hlo, if_pos rfl, if_pos (show good k from ⟨hc, hv, h2, hlo⟩), chk_pos (by omega)];rfl
     ·rw [decide_eq_false hlo, if_neg (by decide), if_neg (show ¬ good k from fun h => hlo h.2.2.2)]
      show chk _ _ = _;rw [chk_pos (by unfold I64; omega)]; rfl
    ·rw [if_neg (by omega), andx_some', if_neg (by decide), if_neg (show ¬ good k from fun h => h2 h.2.2.1)]
     show chk _ _ = _;rw [chk_pos (by unfold I64; omega)]; rfl
   ·rw [decide_eq_false (by omega), if_neg (by decide), andx_some', if_neg (by decide), if_neg (show ¬ good k from fun h => hv h.2.1)]
    show chk _ _ = _;rw [chk_pos (by unfold I64; omega)]; rfl
  ·rw [if_neg hc, decide_eq_false (by omega), if_neg (by decide), andx_some', if_neg (by decide), if_neg (show ¬ good k from fun h => hc h.1)]
   show chk _ _ = _;rw [chk_pos (by unfold I64; omega)]; rfl
 ·intro hj;unfold P_r9_parted_L2;rw [hsub, if_neg (by omega)]
open Classical in
theorem r9_Read_eq (cl : List Str) (sh : List qH) (bs : List qG) (text : Str) (ht : text.length ≤ 9223372036854775807) : Ok (P_r9_Read cl sh bs text) (ReadIs cl sh bs text) := by
 unfold P_r9_Read;obtain ⟨c, i, e, he, hf⟩ := roomE_ok cl sh bs
 have hr : roomN cl sh bs = e := by unfold roomN; rw [he]
 rw [r9_Check_eq, he, andx_some']
 show Ok (if _ then _ else _) _
 by_cases h0 : e = 0
 rotate_left
 ·rw [if_pos h0, ← hr]; exact .some (.bad (by rw [hr]; exact h0))
 have hcl := (hf.1 h0).cl1
 have h0' : roomN cl sh bs = 0 := by rw [hr]; exact h0
 rw [if_neg (not_not_intro h0), r9_parted_eq text ht, andx_some']
 by_cases hm : MarkOk text
 ·rw [if_pos hm]
  show Ok (if true = true then _ else _) _;rw [if_pos rfl];refine (r1_Place_first cl _ (by omega)).andx fun i hi => ?_
  refine .ite (fun h => .some (.is h0' hm hi ?_)) (fun h => .some (.is h0' hm hi ?_))
  ·rw [if_pos h]
  ·rw [if_neg h]
 ·rw [if_neg hm]
  show Ok (if false = true then _ else _) _;rw [if_neg (by decide)];exact .some (.form h0' hm)
end Go.Am
end
section
namespace Go.Am
set_option linter.unusedVariables false
set_option linter.unusedSimpArgs false
def wrS (a : Str) (n : Int) (s : Str) : Str := ((a ++ [46]) ++ decN n.toNat) ++ s
noncomputable def wrR (cl : List Str) (sh : List qH) (bs : List qG) (c n : Int) (s : Str) : Str × Int :=
 if roomN cl sh bs = 0 then (if mkErr cl.length c n s = 0 then (wrS (cl.getD c.toNat []) n s, 0) else ([], mkErr cl.length c n s)) else ([], roomN cl sh bs)
theorem class_name {cl : List Str} {sh : List qH} {bs : List qG} (h : Fine cl sh bs) {k : Nat} {a : Str} (ha : cl[k]? = some a) : isName a ∧ a ∉ cl.take k := by
 have := h.cl2 k (List.getElem?_eq_some_iff.1 ha).1;rw [errAt_of ha] at this;unfold clErr at this;split at this
 ·split at this
  ·omega
  ·exact ⟨by assumption, by assumption⟩
 ·omega
theorem s9_Write_eq {cl : List Str} {sh : List qH} {bs : List qG} {c n : Int} {s : Str} : P_s9_Write cl sh bs c n s = some (wrR cl sh bs c n s) := by
 unfold P_s9_Write wrR;rw [s9_open_eq, andx_some']
 by_cases h0 : roomN cl sh bs = 0
 ·have hf := roomN_zero.1 h0
  have hcl := hf.cl1;rw [if_pos h0, s9_mark_eq (by omega), andx_some', andx_some', if_pos h0]
  by_cases h1 : mkErr cl.length c n s = 0
  ·obtain ⟨hc, hn, hs, _⟩ := markOk_bound h1;obtain ⟨k, rfl⟩ := Int.eq_ofNat_of_zero_le hc.1;obtain ⟨m, rfl⟩ := Int.eq_ofNat_of_zero_le (show 0 ≤ n by omega);obtain ⟨a, ha⟩ := get_some (l := cl) (k := k) (by omega)
   have hname := (class_name hf ha).1
   have hal := hname.2.1
   have hd := decN_len (n := m) (k := 4) (by omega) (by omega);rw [if_neg (not_not_intro h1), if_pos h1, el_at ha, chk_pos (by simp; omega), Itoa_eq m (by omega), andx_some', chk_pos (by simp; omega), chk_pos (by simp; omega)];simp only [wrS, Int.toNat_natCast, List.getD_eq_getElem?_getD, ha, Option.getD_some]
  ·rw [if_pos h1, if_neg h1]
 ·rw [if_neg h0, andx_some', if_pos h0, if_neg h0]
theorem r9_Write_eq {cl : List Str} {sh : List qH} {bs : List qG} {c n : Int} {s : Str} : P_r9_Write cl sh bs c n s = some (wrR cl sh bs c n s) := by
 obtain ⟨c', i, e, he, hf⟩ := roomE_ok cl sh bs
 have hr : roomN cl sh bs = e := by unfold roomN; rw [he]
 unfold P_r9_Write wrR;rw [r9_Check_eq, he, andx_some', hr]
 show andx (if e = 0 then _ else _) _ = _
 by_cases h0 : e = 0
 ·have hf := hf.1 h0
  have hcl := hf.cl1;rw [if_pos h0, r9_Mark_eq (by omega), andx_some', andx_some', if_pos h0]
  by_cases h1 : mkErr cl.length c n s = 0
  ·obtain ⟨hc, hn, hs, _⟩ := markOk_bound h1;obtain ⟨k, rfl⟩ := Int.eq_ofNat_of_zero_le hc.1;obtain ⟨m, rfl⟩ := Int.eq_ofNat_of_zero_le (show 0 ≤ n by omega);obtain ⟨a, ha⟩ := get_some (l := cl) (k := k) (by omega)
   have hname := (class_name hf ha).1
   have hal := hname.2.1
   have hd := decN_len (n := m) (k := 4) (by omega) (by omega)
   have ht : P_r9_Text cl sh bs (k : Int) (m : Int) s = some (wrS a (m : Int) s) := by
    unfold P_r9_Text;rw [el_at ha, chk_pos (by simp; omega), r1_Digits_nat m (by omega), andx_some', chk_pos (by simp; omega), chk_pos (by simp; omega)];simp only [wrS, Int.toNat_natCast]
   rw [if_neg (not_not_intro h1), if_pos h1, ht, andx_some'];simp only [Int.toNat_natCast, List.getD_eq_getElem?_getD, ha, Option.getD_some]
  ·rw [if_pos h1, if_neg h1]
 ·rw [if_neg h0, andx_some', if_pos h0, if_neg h0]
theorem ShelfMarks_true (cl : List Str) (sh : List qH) (bs : List qG) (c0 n0 : Int) (s0 : Str) (c1 n1 : Int) (s1 : Str) (text : Str) (ht : text.length ≤ 9223372036854775807) :
  P_law_ShelfMarks cl sh bs c0 n0 s0 c1 n1 s1 text = some true := by
 refine Ok.get ?_;unfold P_law_ShelfMarks;obtain ⟨c, i, e, he, hf⟩ := roomE_ok cl sh bs;rw [s9_Check_eq, r9_Check_eq, he, andx_some']
 try dsimp only
 rw [andx_some']
 try dsimp only
 rw [if_neg (not_not_intro rfl), if_neg (not_not_intro rfl), andx_some', decide_eq_false (not_not_intro rfl), if_neg (by decide), seqx_nx, s9_Write_eq, r9_Write_eq, andx_some']
 try dsimp only
 rw [andx_some']
 try dsimp only
 rw [if_neg (not_not_intro rfl), andx_some', decide_eq_false (not_not_intro rfl), if_neg (by decide), seqx_nx];refine (s9_Read_eq cl sh bs text ht).andx fun r hr => ?_
 refine (r9_Read_eq cl sh bs text ht).andx fun r' hr' => ?_
 obtain rfl := hr.unique hr'
 try dsimp only
 rw [if_neg (not_not_intro ⟨rfl, rfl, rfl⟩), andx_some', decide_eq_false (not_not_intro rfl), if_neg (by decide), seqx_nx, s9_Before_eq, r9_Before_eq, andx_some']
 try dsimp only
 rw [andx_some']
 try dsimp only
 rw [if_pos rfl, if_pos rfl, andx_some'];exact .some rfl
end Go.Am
end
section
namespace Go.Am
set_option linter.unusedVariables false
theorem str_bound {P : Program} {t : TypeId} (ht : P.underlying t = some .string) {W : World} {r : Reach} {b0 : Nat} {v : Value} (hv : Value.okWide P W r b0 t v) {ρ : Ren} {x : Str} (h : RelV ρ (sv x) v) : x.length ≤ 9223372036854775807 := by
 have e := h.lit_inv;subst e;simp only [Value.okWide, ht, Cell.okWide, Cell.ok] at hv
 have e : IntKind.i64.max = 9223372036854775807 := rfl;rw [e, size_mk] at hv;omega
end Go.Am
end
section
namespace Go.Proofs.YtiaolgbmbhldgaaGreatDoor
open Go.ChangeShapes Go.WideShapes Go.ChangeAt Go.RowKit Go.Am
theorem pow10_laid {W : World} (h : laidMetH Tryz.prog Rows.shelfMarksRow.laid W) : GlobIn Go.Am.YtiaolgbmbhldgaaGreatDoor.glbS W := by
 rw [MakeChecks.laidMetH_plain _ _ _ (by kernel_rfl)] at h;obtain ⟨ps, ⟨_, _, _, _, _, _, _, _, _, _, ⟨_, _, _, _, _, _, _, _, _, _, ⟨g, t, cs, fuel, p, q, hg, ht, hv, hd, _, _⟩, _⟩, _⟩, _, _⟩ := h;obtain rfl := Option.some.inj ((show Tryz.prog.globalNamed "internal/strconv.uint64pow10" = some 3 by kernel_rfl).symm.trans hg);obtain rfl := Option.some.inj ((show (Tryz.prog.globals[3]?).map (·.type) = some 215 by kernel_rfl).symm.trans ht);obtain ⟨xs, m, _, ex, hlen, hl, hel⟩ := DataW.trod_array Tryz.underlying215 hd
 have c1 : Tryz.prog.cellsOf 196 = 1 := by kernel_rfl
 have c20 : Tryz.prog.cellsOf 215 = 20 := by kernel_rfl
 rw [c20] at hlen
 have e3 : xs.map (·.1) = pow10L.map fun n => (DataW.lit (.int .u64 n) : DataW Unit) := (DataW.agg.inj (Prod.mk.inj ex).1).symm
 have hcs : cs = (pow10L.map (Value.int .u64)).toArray := by
  apply Array.ext'
  show cs.toList = pow10L.map (Value.int .u64);apply List.ext_getElem?;intro r
  by_cases hr : r < 20
  ·have hE := hel r hr;rw [c1, Nat.mul_one, List.getElem?_eq_getElem (by omega)] at hE;obtain ⟨z, a1, a2, _⟩ := DataW.trod_int Tryz.underlying196 hE
   have e4 : (xs.map (·.1))[r]? = (pow10L.map fun n => (DataW.lit (.int .u64 n) : DataW Unit))[r]? := by rw [e3]
   have hpl : pow10L.length = 20 := rfl;rw [List.getElem?_map, List.getElem?_map, List.getElem?_eq_getElem (by omega : r < xs.length), List.getElem?_eq_getElem (by omega : r < pow10L.length), a2] at e4;simp only [Option.map_some, Option.some.injEq, DataW.lit.injEq, Lit.int.injEq, true_and] at e4
   have h0 : ((cs.toList.drop r).take 1)[0]? = some (.int .u64 z) := by rw [a1]; rfl
   have h1 : cs.toList[r]? = some (.int .u64 z) := by simpa using h0
   rw [h1, List.getElem?_map, List.getElem?_eq_getElem (by omega : r < pow10L.length), Option.map_some, e4]
  ·rw [List.getElem?_eq_none (by omega), List.getElem?_eq_none (by rw [List.length_map]; show 20 ≤ r; omega)]
 intro g cs' hlk;unfold Go.Am.YtiaolgbmbhldgaaGreatDoor.glbS lookG at hlk;cases hb : Nat.beq 3 g with
 | false => simp only [hb, cond_false, lookG] at hlk; cases hlk
 | true =>
  simp only [hb, cond_true, Option.some.injEq] at hlk
  have := Nat.eq_of_beq_eq_true hb;subst this;subst hlk;unfold World.var? at hv;rw [hg] at hv;simp only [Option.bind_some] at hv;split at hv
  ·rename_i cs0 e fz hh
   have := Option.some.inj hv;subst this;exact ⟨e, fz, by rw [hh, hcs]⟩
  ·cases hv
end Go.Proofs.YtiaolgbmbhldgaaGreatDoor
end
