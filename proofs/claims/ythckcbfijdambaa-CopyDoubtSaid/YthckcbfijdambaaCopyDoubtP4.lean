/- Part 4. -/
import Derived.Test.YthckcbfijdambaaCopyDoubtP3
import Derived.Test.YthckcbfijdambaaCopyDoubtP2
import Derived.OpenShut
import Derived.Test.YthckcbfijdambaaRows
import Derived.ProofKit
import Derived.WalkKit
import Derived.ChangeOld
import Derived.Below
import Derived.Carry
section
namespace Go.Am
open Go.RowKit
set_option linter.unusedVariables false
def encU16 : En UInt16 := ⟨1, fun b => [ivk .u16 (b.toNat : Int)], fun _ => rfl⟩
theorem Lifts.u8 {P : Program} {t : TypeId} (ht : P.underlying t = some (.int .u8)) : Lifts P t encU8 := by
 intro H enc W base held fuel cs x hx;obtain ⟨n, rfl, _, hw⟩ := DataW.trod_int ht hx
 have hw : 0 ≤ n ∧ n ≤ 255 := by
  have := Bool.and_eq_true_iff.1 hw;exact ⟨of_decide_eq_true this.1, of_decide_eq_true this.2⟩
 have e : ((UInt8.ofNat n.toNat).toNat : Int) = n := by rw [UInt8.toNat_ofNat']; omega
 refine ⟨UInt8.ofNat n.toNat, .cons ?_ (.nil _)⟩;rw [e];exact .lit _
theorem Lifts.u16 {P : Program} {t : TypeId} (ht : P.underlying t = some (.int .u16)) : Lifts P t encU16 := by
 intro H enc W base held fuel cs x hx;obtain ⟨n, rfl, _, hw⟩ := DataW.trod_int ht hx
 have hw : 0 ≤ n ∧ n ≤ 65535 := by
  have := Bool.and_eq_true_iff.1 hw;exact ⟨of_decide_eq_true this.1, of_decide_eq_true this.2⟩
 have e : ((UInt16.ofNat n.toNat).toNat : Int) = n := by rw [UInt16.toNat_ofNat']; omega
 refine ⟨UInt16.ofNat n.toNat, .cons ?_ (.nil _)⟩;rw [e];exact .lit _
theorem Lifts.arr2 {P : Program} {t e : TypeId} {α : Type} {a : En α} (ht : P.underlying t = some (.array 2 e)) (ce : P.cellsOf e = a.u) (ct : P.cellsOf t = a.u + a.u) (hu : a.u = 1) (l : Lifts P e a) : Lifts P t (enPair a a) := by
 intro H enc W base held fuel cs x hx;obtain ⟨xs, n, _, _, hl, hn, h⟩ := DataW.trod_array ht hx
 have h0 := h 0 (by omega)
 have h1 := h 1 (by omega);rw [List.getElem?_eq_getElem (by omega), ce, Nat.zero_mul, List.drop_zero] at h0;rw [List.getElem?_eq_getElem (by omega), ce, Nat.one_mul, List.take_of_length_le (by simp; omega)] at h1;obtain ⟨x0, r0⟩ := l _ _ _ _ _ _ _ _ h0;obtain ⟨x1, r1⟩ := l _ _ _ _ _ _ _ _ h1;exact ⟨(x0, x1), .glue r0 r1⟩
theorem Lifts.argA {P : Program} {t e : TypeId} {n : Nat} {α : Type} {en : En α} (hl : Lifts P t en) (ht : P.underlying t = some (.array n e)) {W : World} {r : Reach} {b0 : Nat} {v : Value} (hval : Value.okWide P W r b0 t v)
  {H : Type} {enc : TypeId × Value → H} {base : Nat} {held : Bool} {d : DataW H} {ps : List MemPlace} (h : DataW.Trod enc P W base (fun _ => true) held t v d ps) : ∃ a, RelV (snapR W 0) (.agg (en.f a)) v := by
 simp only [Value.okWide, ht] at hval;obtain ⟨cs, rfl, _, _⟩ := hval;obtain ⟨fuel, hf⟩ := h;obtain ⟨a, ha⟩ := hl _ _ _ _ _ _ _ _ hf;exact ⟨a, by simpa [Value.cells] using RelV.agg ha.1 ha.2⟩
end Go.Am
end
section
namespace Go.Am.Ythckcbfijdambaa
open Go.Am Go.RowKit Go.Proofs
theorem li_3 : Lifts Try.prog 3 encI := .int Try.underlying3
theorem li_96 : Lifts Try.prog 96 (enPair encI encI) := Lifts.struct2 Try.underlying96 rfl rfl (by kernel_rfl) (by kernel_rfl) (by kernel_rfl) li_3 li_3
theorem li_131 : Lifts Try.prog 131 encC := (Lifts.struct3 Try.underlying131 rfl rfl rfl (by kernel_rfl) (by kernel_rfl) (by kernel_rfl) (by kernel_rfl) li_3 li_3 li_3).map fun x => ⟨⟨x.1, x.2.1, x.2.2⟩, rfl⟩
theorem li_97 : Lifts Try.prog 97 (encSl encC) := .slice Try.underlying97 (by kernel_rfl) (by decide) li_131
theorem li_99 : Lifts Try.prog 99 encG := (Lifts.struct3 Try.underlying99 rfl rfl rfl (by kernel_rfl) (by kernel_rfl) (by kernel_rfl) (by kernel_rfl) li_96 li_3 li_97).map fun x => ⟨⟨x.1.1, x.1.2, x.2.1, x.2.2⟩, rfl⟩
theorem li_22 : Lifts Try.prog 22 (encSl encG) := .slice Try.underlying22 (by kernel_rfl) (by decide) li_99
theorem li_24 : Lifts Try.prog 24 encB := (Lifts.struct2 Try.underlying24 rfl rfl (by kernel_rfl) (by kernel_rfl) (by kernel_rfl) li_3 li_22).map fun x => ⟨⟨x.1, x.2⟩, rfl⟩
theorem li_26 : Lifts Try.prog 26 (encSl encI) := .slice Try.underlying26 (by kernel_rfl) (by decide) li_3
theorem li_53 : Lifts Try.prog 53 encIt := (Lifts.struct1 Try.underlying53 rfl (by kernel_rfl) (by kernel_rfl) li_26).map fun x => ⟨⟨x⟩, rfl⟩
theorem li_25 : Lifts Try.prog 25 (encSl encIt) := .slice Try.underlying25 (by kernel_rfl) (by decide) li_53
theorem li_36 : Lifts Try.prog 36 encCa := (Lifts.struct2 Try.underlying36 rfl rfl (by kernel_rfl) (by kernel_rfl) (by kernel_rfl) li_24 li_25).map fun x => ⟨⟨x.1, x.2⟩, rfl⟩
theorem li_44 : Lifts Try.prog 44 encU16 := .u16 Try.underlying44
theorem li_62 : Lifts Try.prog 62 (enPair encU16 encU16) := .arr2 Try.underlying62 (by kernel_rfl) (by kernel_rfl) rfl li_44
theorem li_74 : Lifts Try.prog 74 (enPair (encSl encIt) (encSl encIt)) := Lifts.struct2 Try.underlying74 rfl rfl (by kernel_rfl) (by kernel_rfl) (by kernel_rfl) li_25 li_25
theorem li_5 : Lifts Try.prog 5 encU8 := .u8 Try.underlying5
theorem li_75 : Lifts Try.prog 75 (encSl encU8) := .slice Try.underlying75 (by kernel_rfl) (by decide) li_5
end Go.Am.Ythckcbfijdambaa
end
section
namespace Go.Am
set_option linter.unusedVariables false
theorem i64_small {x : Int} (h : -4000000000000000000 ≤ x ∧ x ≤ 4000000000000000000) : I64 x := by unfold I64; omega
section
variable {σ ε J A β : Type}
theorem Ok.ifp {p : Prop} [Decidable p] {x y : Option β} {Q : β → Prop} (h : p) (hx : Ok x Q) : Ok (if p then x else y) Q := by rw [if_pos h]; exact hx
theorem Ok.ifn {p : Prop} [Decidable p] {x y : Option β} {Q : β → Prop} (h : ¬ p) (hy : Ok y Q) : Ok (if p then x else y) Q := by rw [if_neg h]; exact hy
theorem Ok.andx' {x : Option J} {k : J → Option β} {a : J} {Q : β → Prop} (h : x = Option.some a) (hk : Ok (k a) Q) : Ok (Am.andx x k) Q := by subst h; exact hk
def CountQ (idx : σ → Int) (I : Nat → σ → Prop) (k : Nat) (Q : ε → Prop) : Stp σ ε → Prop
 | .ag s => idx s = k + 1 ∧ I (k + 1) s
 | .dn e => Q e
def FinQ (Q : ε → Prop) : Stp σ ε → Prop
 | .ag _ => False
 | .dn e => Q e
theorem Ok.count (idx : σ → Int) (n : Nat) (I : Nat → σ → Prop) {body : σ → Option (Stp σ ε)} {s0 : σ} {Q : ε → Prop} (h0 : idx s0 = 0) (hI : I 0 s0)
  (step : ∀ k s, k < n → idx s = k → I k s → Ok (body s) (CountQ idx I k Q)) (fin : ∀ s, idx s = n → I n s → Ok (body s) (FinQ Q)) : Ok (Am.iter body s0) Q := by
 refine Ok.iter (fun s => ∃ k : Nat, k ≤ n ∧ idx s = k ∧ I k s) (fun s => n - (idx s).toNat) ⟨0, Nat.zero_le _, h0, hI⟩ ?_;rintro s ⟨k, hk, hx, hi⟩
 by_cases hlt : k < n
 ·refine (step k s hlt hx hi).mono fun x hq => ?_
  cases x with
  | ag s' =>
   have h1 : idx s' = k + 1 := hq.1;exact ⟨⟨k + 1, by omega, by rw [h1]; rfl, hq.2⟩, by show n - (idx s').toNat < n - (idx s).toNat; rw [h1, hx]; omega⟩
  | dn e => exact hq
 ·have : k = n := by omega
  subst this;refine (fin s hx hi).mono fun x hq => ?_
  cases x with
  | ag s' => exact hq.elim
  | dn e => exact hq
end
theorem get_of {α : Type} {l : List α} {k : Nat} {i : Int} {a : α} (h : l[i.toNat]? = some a) (hi : i = k) : l[k]? = some a := by rw [hi] at h; simpa using h
end Go.Am
end
section
namespace Go.Am
def cntOf (t : List Int) : Int → Int := fun x => ((t.countP fun y => decide (y = x) : Nat) : Int)
theorem cntOf_snoc (t : List Int) (n : Int) : cntOf (t ++ [n]) = putI (cntOf t) n (cntOf t n + 1) := by
 funext x
 unfold cntOf putI;rw [List.countP_append]
 by_cases h : x = n
 ·subst h; simp
 ·have : ¬ n = x := fun e => h e.symm
  simp [h, this]
theorem cntOf_le (t : List Int) (x : Int) : 0 ≤ cntOf t x ∧ cntOf t x ≤ t.length := by
 unfold cntOf
 have := List.countP_le_length (p := fun y => decide (y = x)) (l := t);omega
theorem cntOf_pos (t : List Int) (x : Int) : 0 < cntOf t x ↔ x ∈ t := by
 unfold cntOf;rw [show (0 < ((t.countP fun y => decide (y = x) : Nat) : Int)) ↔ 0 < t.countP fun y => decide (y = x) by omega, List.countP_pos_iff];simp
theorem cntOf_zero (t : List Int) (x : Int) : cntOf t x = 0 ↔ x ∉ t := by
 have := cntOf_pos t x
 have := (cntOf_le t x).1
 constructor
 ·intro h hx; have := (cntOf_pos t x).2 hx; omega
 ·intro h; have : ¬ 0 < cntOf t x := fun k => h ((cntOf_pos t x).1 k); omega
theorem there_ok {s : Int} {g : List Gat} {its : List Item} {lv : List Leaf} {mt t : List Int} (ht : t.length ≤ 1000000) : P_c_there s g its lv mt t = some (cntOf t) := by
 refine Ok.get ?_;unfold P_c_there;refine Ok.andx (P := fun f => f = cntOf t) (Ok.count Prod.fst t.length (fun k s => s.2 = cntOf (t.take k)) rfl rfl ?_ ?_) fun _ h => .some h
 ·rintro k ⟨x, f⟩ hk hx hf;simp only at hx hf;subst hf;unfold P_c_there_L1;refine .ifp (by omega) (.el (by omega) fun a ha => ?_)
  have ha := get_of ha hx
  have := cntOf_le (t.take k) a
  have : (t.take k).length ≤ t.length := by rw [List.length_take]; omega
  refine .chk (i64_small (by omega)) (.chk (i64_small (by omega)) (.some ⟨by simp only; omega, ?_⟩))
  show _ = cntOf (t.take (k + 1));rw [take_snoc ha, cntOf_snoc]
 ·rintro ⟨x, f⟩ hx hf;simp only at hx hf;unfold P_c_there_L1;refine .ifn (by omega) (.some ?_)
  show _ = _;rw [hf, List.take_length]
def lostOf (n : Nat) (t : List Int) : List Int := ((List.range n).map fun i : Nat => (i : Int)).filter fun x => decide (x ∉ t)
theorem lostOf_succ (n : Nat) (t : List Int) : lostOf (n + 1) t = if (n : Int) ∉ t then lostOf n t ++ [(n : Int)] else lostOf n t := by
 unfold lostOf;rw [List.range_succ, List.map_append, List.filter_append]
 by_cases h : (n : Int) ∈ t <;> simp [h]
theorem lostOf_len (n : Nat) (t : List Int) : (lostOf n t).length ≤ n := by
 unfold lostOf;exact Nat.le_trans (List.length_filter_le _ _) (by simp)
theorem lost_ok {s : Int} {g : List Gat} {its : List Item} {lv : List Leaf} {mt t : List Int} (ht : t.length ≤ 1000000) (hl : lv.length ≤ 1000000) : P_c_lost s g its lv mt t = some (lostOf lv.length t) := by
 refine Ok.get ?_;unfold P_c_lost;refine .andx' (there_ok ht) ?_;refine Ok.andx (P := fun l => l = lostOf lv.length t) (Ok.count Prod.fst lv.length (fun k s => s.2 = lostOf k t) rfl rfl ?_ ?_) fun _ h => .some h
 ·rintro k ⟨x, l⟩ hk hx hl';simp only at hx hl';subst hl'
  have hlen := lostOf_len k t;unfold P_c_lost_L1;refine .ifp (by omega) (Ok.andx (P := fun l => l = lostOf (k + 1) t) ?_ ?_)
  ·refine .ite (fun hc => ?_) (fun hc => ?_)
   ·refine .chk (by simp; omega) (.some ?_)
    show _ = _;rw [lostOf_succ, if_pos (by rw [← hx]; exact (cntOf_zero t x).1 hc), hx]
   ·refine .some ?_
    show _ = _;rw [lostOf_succ, if_neg (by rw [← hx]; exact fun h => hc ((cntOf_zero t x).2 h))]
  ·rintro l' rfl;exact .chk (i64_small (by omega)) (.some ⟨by simp only; omega, rfl⟩)
 ·rintro ⟨x, l⟩ hx hl';simp only at hx hl';unfold P_c_lost_L1;exact .ifn (by omega) (.some hl')
end Go.Am
end
section
namespace Go.Am
set_option linter.unusedVariables false
def idxTo (p : Nat → Int → Bool) (t : List Int) : Nat → List Int
 | 0 => []
 | k + 1 => idxTo p t k ++ (match t[k]? with | some n => if p k n = true then [(k : Int)] else [] | none => [])
theorem idxTo_succ {p : Nat → Int → Bool} {t : List Int} {k : Nat} {n : Int} (h : t[k]? = some n) : idxTo p t (k + 1) = if p k n = true then idxTo p t k ++ [(k : Int)] else idxTo p t k := by
 rw [idxTo, h];simp only;split <;> simp
theorem idxTo_len (p : Nat → Int → Bool) (t : List Int) : ∀ k, (idxTo p t k).length ≤ k := by
 intro k
 induction k with
 | zero => simp [idxTo]
 | succ k ih =>
  rw [idxTo, List.length_append];split
  ·split <;> simp <;> omega
  ·simp; omega
def isPlain (t : List Int) (k : Nat) (n : Int) : Bool := decide (0 ≤ n ∧ n ∉ t.take k)
def isStrange (k : Nat) (n : Int) : Bool := decide (n < 0)
def isTwice (t : List Int) (k : Nat) (n : Int) : Bool := decide (0 ≤ n ∧ n ∈ t.take k)
def strangeOf (t : List Int) : List Int := idxTo isStrange t t.length
def twiceOf (t : List Int) : List Int := idxTo (isTwice t) t t.length
def gathOf (lv : List Leaf) (x : Int) : Int := match lv[x.toNat]? with | some a => a.g | none => 0
def rnStep (g : Int → Int) (l : List S_copy_run) (i n : Int) : List S_copy_run :=
 match l[l.length - 1]? with
 | some r => if r.last < n ∧ g r.last = g n then l.set (l.length - 1) ⟨r.item, r.first, n⟩ else l ++ [⟨i, n, n⟩]
 | none => l ++ [⟨i, n, n⟩]
def runsTo (g : Int → Int) (t : List Int) : Nat → List S_copy_run
 | 0 => []
 | k + 1 => match t[k]? with | some n => if isPlain t k n = true then rnStep g (runsTo g t k) k n else runsTo g t k | none => runsTo g t k
def runsOf (g : Int → Int) (t : List Int) : List S_copy_run := runsTo g t t.length
def RunOk (n : Nat) (r : S_copy_run) : Prop := 0 ≤ r.first ∧ r.first < n ∧ 0 ≤ r.last ∧ r.last < n
theorem rnStep_ok {g : Int → Int} {l : List S_copy_run} {i n : Int} {N : Nat} (h : ∀ r ∈ l, RunOk N r) (hn : 0 ≤ n ∧ n < N) : ∀ r ∈ rnStep g l i n, RunOk N r := by
 unfold rnStep
 have happ : ∀ r ∈ l ++ [(⟨i, n, n⟩ : S_copy_run)], RunOk N r := fun r hr => by
  rcases List.mem_append.1 hr with hr | hr
  ·exact h r hr
  ·rw [List.mem_singleton] at hr;subst hr;exact ⟨hn.1, hn.2, hn.1, hn.2⟩
 split
 ·rename_i r hr
  split
  ·intro x hx
   rcases List.mem_or_eq_of_mem_set hx with hx | rfl
   ·exact h x hx
   ·have := h r (List.mem_of_getElem? hr);exact ⟨this.1, this.2.1, hn.1, hn.2⟩
  ·exact happ
 ·exact happ
theorem rnStep_len {g : Int → Int} {l : List S_copy_run} {i n : Int} : (rnStep g l i n).length ≤ l.length + 1 := by
 unfold rnStep;split
 ·split <;> simp
 ·simp
theorem runsTo_ok {g : Int → Int} {t : List Int} {N : Nat} (ht : ∀ x ∈ t, x < N) : ∀ k, (∀ r ∈ runsTo g t k, RunOk N r) ∧ (runsTo g t k).length ≤ k := by
 intro k
 induction k with
 | zero => simp [runsTo]
 | succ k ih =>
  rw [runsTo];split
  ·rename_i n hn
   split
   ·rename_i hp
    have h0 : 0 ≤ n := (of_decide_eq_true hp).1;refine ⟨rnStep_ok ih.1 ⟨h0, ht _ (List.mem_of_getElem? hn)⟩, ?_⟩
    have := rnStep_len (g := g) (l := runsTo g t k) (i := k) (n := n);omega
   ·exact ⟨ih.1, by omega⟩
  ·exact ⟨ih.1, by omega⟩
theorem runsTo_succ {g : Int → Int} {t : List Int} {k : Nat} {n : Int} (h : t[k]? = some n) : runsTo g t (k + 1) = if isPlain t k n = true then rnStep g (runsTo g t k) k n else runsTo g t k := by rw [runsTo, h]
def follow (last : Int) (ps : List (S_copy_run × Int)) (a : Int) : Int := ps.foldl (fun a p => if p.1.first > last then max a p.2 else a) a
def chains : List S_copy_run → List Int
 | [] => []
 | r :: l => (follow r.last (l.zip (chains l)) 0 + 1) :: chains l
theorem chains_len : ∀ l, (chains l).length = l.length := by
 intro l
 induction l with
 | nil => rfl
 | cons r l ih => simp [chains, ih]
theorem follow_bounds {last : Int} {M : Int} : ∀ (ps : List (S_copy_run × Int)) (a : Int), (∀ p ∈ ps, p.2 ≤ M) → a ≤ M → a ≤ follow last ps a ∧ follow last ps a ≤ M := by
 intro ps
 induction ps with
 | nil => intro a _ h; exact ⟨Int.le_refl _, h⟩
 | cons p ps ih =>
  intro a h ha
  have hp := h p List.mem_cons_self
  have ht : ∀ p ∈ ps, p.2 ≤ M := fun q hq => h q (List.mem_cons_of_mem _ hq)
  show a ≤ follow last ps (if p.1.first > last then max a p.2 else a) ∧ _;split
  ·have := ih (max a p.2) ht (by omega);exact ⟨by omega, by rw [follow, List.foldl_cons]; rename_i hc; rw [if_pos hc]; exact this.2⟩
  ·have := ih a ht ha;exact ⟨this.1, by rw [follow, List.foldl_cons]; rename_i hc; rw [if_neg hc]; exact this.2⟩
theorem chains_bounds : ∀ (l : List S_copy_run), ∀ m ∈ chains l, 1 ≤ m ∧ m ≤ l.length := by
 intro l
 induction l with
 | nil => intro m h; cases h
 | cons r l ih =>
  intro m h;rw [chains] at h
  rcases List.mem_cons.1 h with rfl | h
  ·have := follow_bounds (last := r.last) (M := l.length) (l.zip (chains l)) 0 (fun p hp => (ih p.2 (List.of_mem_zip hp).2).2) (by omega);rw [List.length_cons];omega
  ·have := ih m h;rw [List.length_cons];omega
def top : List Int → Int
 | [] => 0
 | m :: ms => max (top ms) m
theorem top_bounds {M : Int} (hM : 0 ≤ M) : ∀ l : List Int, (∀ m ∈ l, m ≤ M) → 0 ≤ top l ∧ top l ≤ M := by
 intro l
 induction l with
 | nil => intro _; exact ⟨Int.le_refl _, hM⟩
 | cons a l ih =>
  intro h
  have := ih fun m hm => h m (List.mem_cons_of_mem _ hm)
  have := h a List.mem_cons_self;rw [top];omega
def movedFrom : List (S_copy_run × Int) → Int → Int → List Int
 | [], _, _ => []
 | p :: ps, b, last => if p.2 = b ∧ p.1.first > last then movedFrom ps (b - 1) p.1.last else p.1.item :: movedFrom ps b last
def movedOf (l : List S_copy_run) : List Int := movedFrom (l.zip (chains l)) (top (chains l)) (-1)
theorem movedFrom_len : ∀ (ps : List (S_copy_run × Int)) (b last : Int), (movedFrom ps b last).length ≤ ps.length := by
 intro ps
 induction ps with
 | nil => intro b last; exact Nat.le_refl _
 | cons p ps ih =>
  intro b last;rw [movedFrom];split
  ·have := ih (b - 1) p.1.last;rw [List.length_cons]; omega
  ·have := ih b last;rw [List.length_cons, List.length_cons]; omega
theorem movedOf_len (l : List S_copy_run) : (movedOf l).length ≤ l.length := by
 have := movedFrom_len (l.zip (chains l)) (top (chains l)) (-1);unfold movedOf;rw [List.length_zip, chains_len] at this;omega
def row (l : List S_copy_run) (i : Nat) : List Int := List.replicate i 0 ++ (chains (l.drop i) ++ List.replicate (120 - l.length) 0)
theorem row_len {l : List S_copy_run} {i : Nat} (h : l.length ≤ 120) (hi : i ≤ l.length) : (row l i).length = 120 := by
 unfold row;rw [List.length_append, List.length_append, List.length_replicate, List.length_replicate, chains_len, List.length_drop];omega
theorem row_get {l : List S_copy_run} {i k : Nat} (hk : i ≤ k) (hl : k < l.length) : (row l i)[k]? = (chains (l.drop i))[k - i]? := by
 unfold row;rw [List.getElem?_append_right (by rw [List.length_replicate]; exact hk), List.length_replicate, List.getElem?_append_left (by rw [chains_len, List.length_drop]; omega)]
theorem inner_ok {l : List S_copy_run} {i : Nat} {r : S_copy_run} (hl : l.length ≤ 120) (hr : l[i]? = some r) :
  iter (P_c_moved_L2 l i) (((i : Int) + 1), row l (i + 1)) = some ((row l (i + 1)).set i (follow r.last ((l.drop (i + 1)).zip (chains (l.drop (i + 1)))) 0)) := by
 have hi : i < l.length := (List.getElem?_eq_some_iff.1 hr).1;refine Ok.get ?_
 have hz : (row l (i + 1))[i]? = some 0 := by
  unfold row;rw [List.getElem?_append_left (by rw [List.length_replicate]; omega)];simp
 have hset0 : (row l (i + 1)).set i 0 = row l (i + 1) := by
  obtain ⟨h1, h2⟩ := List.getElem?_eq_some_iff.1 hz;rw [← h2, List.set_getElem_self]
 have hrl := row_len hl (show i + 1 ≤ l.length by omega);refine Ok.count (fun s => s.1 - ((i : Int) + 1)) (l.length - (i + 1)) (fun k s => s.2 = (row l (i + 1)).set i (follow r.last (((l.drop (i + 1)).zip (chains (l.drop (i + 1)))).take k) 0)) (by simp only; omega) (by simp only [List.take_zero]; exact hset0.symm) ?_ ?_
 ·rintro k ⟨kk, many⟩ hk hx hm;simp only at hx hm
  have hkk : kk = ((i + 1 + k : Nat) : Int) := by omega
  subst hkk;subst hm
  have hlen : ((row l (i + 1)).set i (follow r.last (((l.drop (i + 1)).zip (chains (l.drop (i + 1)))).take k) 0)).length = 120 := by rw [List.length_set, hrl]
  have hd : (l.drop (i + 1))[k]? = l[i + 1 + k]? := by rw [List.getElem?_drop]
  have hck : k < (chains (l.drop (i + 1))).length := by rw [chains_len, List.length_drop]; omega
  have hdk : k < (l.drop (i + 1)).length := by rw [List.length_drop]; omega
  have hzip : ((l.drop (i + 1)).zip (chains (l.drop (i + 1))))[k]? = some ((l.drop (i + 1))[k], (chains (l.drop (i + 1)))[k]) := by
   rw [List.getElem?_zip_eq_some];exact ⟨List.getElem?_eq_getElem hdk, List.getElem?_eq_getElem hck⟩
  have hf : follow r.last (((l.drop (i + 1)).zip (chains (l.drop (i + 1)))).take (k + 1)) 0 = (if (l.drop (i + 1))[k].first > r.last then max (follow r.last (((l.drop (i + 1)).zip (chains (l.drop (i + 1)))).take k) 0) (chains (l.drop (i + 1)))[k] else follow r.last (((l.drop (i + 1)).zip (chains (l.drop (i + 1)))).take k) 0) := by
   rw [take_snoc hzip, follow, List.foldl_append];rfl
  have hri : (row l (i + 1))[i + 1 + k]? = some (chains (l.drop (i + 1)))[k] := by
   rw [row_get (by omega) (by omega), show i + 1 + k - (i + 1) = k by omega, List.getElem?_eq_getElem hck]
  have hA : l[i + 1 + k]? = some (l.drop (i + 1))[k] := by rw [← hd, List.getElem?_eq_getElem hdk]
  generalize hF : follow r.last (((l.drop (i + 1)).zip (chains (l.drop (i + 1)))).take k) 0 = F at *;unfold P_c_moved_L2;refine .ifp (by omega) (Ok.andx (P := fun m => m = (row l (i + 1)).set i (follow r.last (((l.drop (i + 1)).zip (chains (l.drop (i + 1)))).take (k + 1)) 0)) ?_ ?_)
  ·refine .el (by omega) fun a ha => ?_
   have ha := get_of ha rfl;rw [hA] at ha;cases ha;refine .el (by omega) fun b hb => ?_
   have hb := get_of hb rfl;rw [hr] at hb;cases hb;refine .ite (fun hc => ?_) (fun hc => ?_)
   ·refine .chk (by rw [hlen]; rfl) (.el (by rw [hlen]; omega) fun x hx1 => ?_)
    have hx1 := get_of hx1 rfl;rw [List.getElem?_set_self (by rw [hrl]; omega)] at hx1;cases hx1;refine .chk (by rw [hlen]; rfl) (.el (by rw [hlen]; omega) fun y hy1 => ?_)
    have hy1 := get_of hy1 rfl;rw [List.getElem?_set_ne (by omega), hri] at hy1;cases hy1;refine .chk (by rw [hlen]; rfl) (.el (by rw [hlen]; omega) fun w hw1 => .some ?_)
    show _ = _;rw [hf, if_pos hc, Int.toNat_natCast, List.set_set]
   ·refine .some ?_
    show _ = _;rw [hf, if_neg hc]
  ·rintro m rfl;exact .chk (i64_small (by omega)) (.some ⟨by simp only; omega, rfl⟩)
 ·rintro ⟨kk, many⟩ hx hm;simp only at hx hm;unfold P_c_moved_L2;refine .ifn (by omega) (.some ?_)
  show many = _;rw [hm, List.take_of_length_le (by rw [List.length_zip, chains_len, List.length_drop]; omega)]
theorem row_step {l : List S_copy_run} {i : Nat} {r : S_copy_run} (hr : l[i]? = some r) : (row l (i + 1)).set i (follow r.last ((l.drop (i + 1)).zip (chains (l.drop (i + 1)))) 0 + 1) = row l i := by
 have e : List.replicate (i + 1) (0 : Int) = List.replicate i 0 ++ [0] := List.replicate_succ';unfold row;rw [e, List.append_assoc, List.set_append_right _ _ (by rw [List.length_replicate]; omega), List.length_replicate, Nat.sub_self, drop_cons hr, chains];rfl
theorem moved_ok {l : List S_copy_run} {N : Nat} (hl : l.length ≤ 120) (hr : ∀ r ∈ l, RunOk N r) : P_c_moved l = some (movedOf l) := by
 refine Ok.get ?_;unfold P_c_moved
 have hcb := chains_bounds;refine Ok.andx (P := fun s => s = (top (chains l), row l 0)) (.chk (i64_small (by omega)) ?_) ?_
 ·refine Ok.count (fun s => ((l.length : Int) - 1) - s.2.1) l.length (fun k s => s.1 = top (chains (l.drop (l.length - k))) ∧ s.2.2 = row l (l.length - k)) (by simp only; omega) ⟨by simp [chains, top], ?_⟩ ?_ ?_
  ·simp only [Nat.sub_zero, row, List.drop_length, chains, List.nil_append];rw [List.replicate_append_replicate, show l.length + (120 - l.length) = 120 by omega]
  ·rintro k ⟨best, i, many⟩ hk hx ⟨hb, hm⟩;simp only at hx hb hm;obtain ⟨j, hj⟩ : ∃ j : Nat, j = l.length - 1 - k := ⟨_, rfl⟩
   have hi : i = (j : Int) := by omega
   subst hi
   have hjl : j < l.length := by omega
   obtain ⟨r, hrj⟩ : ∃ r, l[j]? = some r := ⟨_, List.getElem?_eq_getElem hjl⟩
   have e1 : l.length - k = j + 1 := by omega
   have e2 : l.length - (k + 1) = j := by omega
   rw [e1] at hb hm;subst hb hm
   have hset : ∀ x, (((row l (j + 1)).set j x).length : Int) * 1 = 120 := fun x => by rw [List.length_set, row_len hl (by omega)]; rfl
   have hch : chains (l.drop j) = (follow r.last ((l.drop (j + 1)).zip (chains (l.drop (j + 1)))) 0 + 1) :: chains (l.drop (j + 1)) := by rw [drop_cons hrj, chains]
   have hbd := hcb (l.drop j) (follow r.last ((l.drop (j + 1)).zip (chains (l.drop (j + 1)))) 0 + 1) (by rw [hch]; exact List.mem_cons_self)
   have hld : (l.drop j).length ≤ 120 := by rw [List.length_drop]; omega
   generalize hF : follow r.last ((l.drop (j + 1)).zip (chains (l.drop (j + 1)))) 0 = F at *;unfold P_c_moved_L1;refine .ifp (by omega) (Ok.andx (P := fun s => s = (top (chains (l.drop j)), row l j)) ?_ ?_)
   ·refine Ok.andx' (a := (row l (j + 1)).set j F) ?_ ?_
    ·have := inner_ok hl hrj;rw [hF] at this;rw [chk_pos (i64_small (by omega))];exact this
    ·refine .chk (hset _) (.el (by rw [List.length_set, row_len hl (by omega)]; omega) fun a ha => ?_)
     have ha := get_of ha rfl;rw [List.getElem?_set_self (by rw [row_len hl (by omega)]; omega)] at ha;cases ha;refine .chk (i64_small (by omega)) (.chk (hset _) (.el (by rw [List.length_set, row_len hl (by omega)]; omega) fun b hb => ?_));rw [Int.toNat_natCast, List.set_set];refine .chk (hset _) (.el (by rw [List.length_set, row_len hl (by omega)]; omega) fun c hc => .some ?_)
     have hc := get_of hc rfl;rw [List.getElem?_set_self (by rw [row_len hl (by omega)]; omega)] at hc;cases hc
     show _ = _
     have := row_step hrj;rw [hF] at this;rw [hch, top, this]
   ·rintro s rfl;refine .chk (i64_small (by omega)) (.some ⟨by simp only; omega, ?_, ?_⟩)
    ·simp only [e2]
    ·simp only [e2]
  ·rintro ⟨best, i, many⟩ hx ⟨hb, hm⟩;simp only at hx hb hm;unfold P_c_moved_L1;refine .ifn (by omega) (.some ?_)
   show _ = _;rw [hb, hm, Nat.sub_self, List.drop_zero]
 ·rintro s rfl
  have hrow : ∀ k (hk : k < l.length), (row l 0)[k]? = some ((chains l)[k]'(by rw [chains_len]; exact hk)) := fun k hk => by
   rw [row_get (Nat.zero_le _) hk, List.drop_zero, Nat.sub_zero, List.getElem?_eq_getElem (by rw [chains_len]; exact hk)]
  have hl120 := row_len hl (Nat.zero_le _)
  have htop := top_bounds (M := 120) (by omega) (chains l) fun m hm => by have := hcb l m hm; omega
  refine Ok.andx (P := fun s : Int × Int × Int × List Int => s.2.2.2 = movedOf l) (Ok.count (fun s : Int × Int × List Int × Int × Int × Int => s.2.1) l.length (fun k s => movedOf l = s.2.2.1 ++ movedFrom ((l.zip (chains l)).drop k) s.1 s.2.2.2.2.2 ∧ s.2.2.1.length ≤ k ∧ -200 - (k : Int) ≤ s.1 ∧ s.1 ≤ 120 ∧ (s.2.2.2 = (-1, -1, -1) ∨ 0 ≤ s.2.2.2.2.1 ∧ 0 ≤ s.2.2.2.2.2)) rfl ⟨by simp only [List.nil_append, List.drop_zero]; rfl, Nat.le_refl _, by simp only; omega, by simp only; omega, .inl rfl⟩ ?_ ?_) ?_
  ·rintro k ⟨best, x, items, li, lf, ll⟩ hk hx ⟨h1, h2, h3, h4, h5⟩;simp only at hx h1 h2 h3 h4 h5;subst hx
   have hck : k < (chains l).length := by rw [chains_len]; exact hk
   have hzip : (l.zip (chains l))[k]? = some (l[k], (chains l)[k]) := by
    rw [List.getElem?_zip_eq_some];exact ⟨List.getElem?_eq_getElem hk, List.getElem?_eq_getElem hck⟩
   have hrk := hr l[k] (List.getElem_mem hk);rw [drop_cons hzip, movedFrom] at h1;simp only at h1;unfold P_c_moved_L3;refine .ifp (by omega) (Ok.andx (P := fun s : Int × List Int × Int × Int × Int => movedOf l = s.2.1 ++ movedFrom ((l.zip (chains l)).drop (k + 1)) s.1 s.2.2.2.2 ∧ s.2.1.length ≤ k + 1 ∧ -200 - ((k : Int) + 1) ≤ s.1 ∧ s.1 ≤ 120 ∧ (s.2.2 = (-1, -1, -1) ∨ 0 ≤ s.2.2.2.1 ∧ 0 ≤ s.2.2.2.2)) ?_ ?_)
   ·refine .el (by omega) fun a ha => ?_
    have ha := get_of ha rfl;rw [List.getElem?_eq_getElem hk] at ha;cases ha;refine Ok.andx (P := fun b : Bool => b = true ↔ ((chains l)[k] = best ∧ l[k].first > ll)) ?_ ?_
    ·refine .chk (by rw [hl120]; rfl) (.el (by rw [hl120]; omega) fun m hm => ?_)
     have hm := get_of hm rfl;rw [hrow k hk] at hm;cases hm;refine .ite (fun hc => ?_) (fun hc => ?_)
     ·refine .ite (fun hd => ?_) (fun hd => ?_)
      ·exact .some (by simp only [true_iff]; exact ⟨hc, by rw [hd.2.2]; have := hrk.1; omega⟩)
      ·exact .some (by rw [decide_eq_true_iff]; exact ⟨fun h => ⟨hc, h⟩, fun h => h.2⟩)
     ·exact .some (by simp only [Bool.false_eq_true, false_iff]; exact fun h => hc h.1)
    ·rintro b hb;refine .ite (fun hc => ?_) (fun hc => ?_)
     ·rw [if_pos (hb.1 hc)] at h1;exact .chk (i64_small (by omega)) (.some ⟨h1, by simp only; omega, by simp only; omega, by simp only; omega, .inr ⟨hrk.1, hrk.2.2.1⟩⟩)
     ·rw [if_neg (fun h => hc (hb.2 h))] at h1;refine .chk (by simp; omega) (.some ⟨?_, by simp; omega, by simp only; omega, by simp only; omega, h5⟩);simp only;rw [h1, List.append_assoc];rfl
   ·rintro ⟨b', it', li', lf', ll'⟩ ⟨q1, q2, q3, q4, q5⟩;exact .chk (i64_small (by omega)) (.some ⟨rfl, q1, q2, by simp only at q3 ⊢; omega, q4, q5⟩)
  ·rintro ⟨best, x, items, li, lf, ll⟩ hx ⟨h1, h2, h3, h4, h5⟩;simp only at hx h1;unfold P_c_moved_L3;refine .ifn (by omega) (.some ?_)
   show items = _;rw [h1, List.drop_eq_nil_of_le (by rw [List.length_zip, chains_len]; omega), movedFrom, List.append_nil]
  ·rintro ⟨a, b, c, d⟩ h;exact .some h
end Go.Am
end
section
namespace Go.Am
set_option linter.unusedVariables false
def mateF (mt : List Int) (x : Int) : Int := match mt[x.toNat]? with | some m => m | none => -1
def isPiece (mt gone : List Int) (x : Int) : Bool := decide (mateF mt x < 0 ∨ mateF mt x > x ∨ mateF mt x ∉ gone)
def piecesOf (mt gone : List Int) : Int := (gone.countP (isPiece mt gone) : Nat)
theorem piecesOf_le (mt gone : List Int) : 0 ≤ piecesOf mt gone ∧ piecesOf mt gone ≤ gone.length := by
 unfold piecesOf
 have := List.countP_le_length (p := isPiece mt gone) (l := gone);omega
theorem mem_lostOf {n : Nat} {t : List Int} {x : Int} : x ∈ lostOf n t ↔ 0 ≤ x ∧ x < n ∧ x ∉ t := by
 unfold lostOf;simp only [List.mem_filter, List.mem_map, List.mem_range, decide_eq_true_eq]
 constructor
 ·rintro ⟨⟨i, hi, rfl⟩, h⟩; exact ⟨by omega, by omega, h⟩
 ·rintro ⟨h0, h1, h2⟩; exact ⟨⟨x.toNat, by omega, by omega⟩, h2⟩
theorem lostOf_sorted (n : Nat) (t : List Int) : (lostOf n t).Pairwise (· < ·) := by
 induction n with
 | zero => exact .nil
 | succ n ih =>
  rw [lostOf_succ];split
  ·rw [List.pairwise_append];refine ⟨ih, List.pairwise_singleton _ _, fun a ha b hb => ?_⟩;rw [List.mem_singleton] at hb;subst hb;exact (mem_lostOf.1 ha).2.1
  ·exact ih
theorem sorted_take {l : List Int} (hs : l.Pairwise (· < ·)) {k : Nat} {a x : Int} (ha : l[k]? = some a) : x ∈ l.take (k + 1) ↔ x ∈ l ∧ x ≤ a := by
 obtain ⟨hk, rfl⟩ := List.getElem?_eq_some_iff.1 ha;rw [List.pairwise_iff_getElem] at hs
 constructor
 ·intro h;refine ⟨List.mem_of_mem_take h, ?_⟩;obtain ⟨j, hj, rfl⟩ := List.mem_iff_getElem.1 h;rw [List.getElem_take];rw [List.length_take] at hj
  by_cases e : j = k
  ·subst e; exact Int.le_refl _
  ·exact Int.le_of_lt (hs j k (by omega) hk (by omega))
 ·rintro ⟨h, hle⟩;obtain ⟨j, hj, rfl⟩ := List.mem_iff_getElem.1 h
  have hjk : j ≤ k := by
   by_cases e : j ≤ k
   ·exact e
   ·have := hs k j hk hj (by omega); omega
  exact List.mem_iff_getElem.2 ⟨j, by rw [List.length_take]; omega, by rw [List.getElem_take]⟩
theorem pieces_ok {mt gone : List Int} (hs : gone.Pairwise (· < ·)) (hr : ∀ x ∈ gone, 0 ≤ x ∧ x < mt.length) (hl : gone.length ≤ 1000000) :
  ∃ m, iter (P_c_faults_L1 mt gone) (0, (fun _ => 0), 0) = some (m, piecesOf mt gone) := by
 suffices h : Ok (iter (P_c_faults_L1 mt gone) (0, (fun _ => 0), 0)) (fun s => s.2 = piecesOf mt gone) by
  obtain ⟨⟨m, p⟩, h1, h2⟩ := h;exact ⟨m, by rw [h1, ← h2]⟩
 refine Ok.count (fun s => s.1) gone.length (fun k (s : Int × (Int → Int) × Int) => s.2.1 = cntOf (gone.take k) ∧ s.2.2 = (((gone.take k).countP (isPiece mt gone) : Nat) : Int)) rfl ⟨rfl, rfl⟩ ?_ ?_
 ·rintro k ⟨x, m, fp⟩ hk hx ⟨hm, hp⟩;simp only at hx hm hp;subst hx hm hp;unfold P_c_faults_L1
  have hcl := List.countP_le_length (p := isPiece mt gone) (l := gone.take k)
  have htl : (gone.take k).length ≤ 1000000 := by rw [List.length_take]; omega
  refine .ifp (by omega) (Ok.andx (P := fun s : (Int → Int) × Int => s.1 = cntOf (gone.take (k + 1)) ∧ s.2 = (((gone.take (k + 1)).countP (isPiece mt gone) : Nat) : Int)) ?_ ?_)
  ·refine .el (by omega) fun a ha => ?_
   have ha := get_of ha rfl
   have har := hr a (List.mem_of_getElem? ha);refine .el har fun b hb => ?_
   have hmf : mateF mt a = b := by unfold mateF; rw [hb]
   have hc := cntOf_le (gone.take k) a
   have hsn : putI (cntOf (gone.take k)) a (cntOf (gone.take k) a + 1) = cntOf (gone.take (k + 1)) := by rw [take_snoc ha, cntOf_snoc]
   have hcp : (gone.take (k + 1)).countP (isPiece mt gone) = (gone.take k).countP (isPiece mt gone) + (if isPiece mt gone a = true then 1 else 0) := by
    rw [take_snoc ha, List.countP_append, List.countP_singleton]
   refine .chk (i64_small (by omega)) (Ok.andx (P := fun c : Bool => c = true ↔ isPiece mt gone a = true) ?_ ?_)
   ·rw [hsn];unfold isPiece;rw [hmf, decide_eq_true_iff];refine .ite (fun h => .some ?_) (fun h => .some ?_)
    ·simp only [true_iff]; exact .inl h
    ·rw [decide_eq_true_iff, cntOf_zero, sorted_take hs ha]
     constructor
     ·intro h2
      by_cases hb2 : b ∈ gone
      ·exact .inr (.inl (by have : ¬ b ≤ a := fun h3 => h2 ⟨hb2, h3⟩; omega))
      ·exact .inr (.inr hb2)
     ·rintro (h2 | h2 | h2) ⟨h3, h4⟩
      ·exact h h2
      ·omega
      ·exact h2 h3
   ·rintro c hcc;rw [hsn];refine .ite (fun h => ?_) (fun h => ?_)
    ·refine .chk (i64_small (by omega)) (.some ⟨rfl, ?_⟩);simp only;rw [hcp, if_pos (hcc.1 h)];rfl
    ·refine .some ⟨rfl, ?_⟩;simp only;rw [hcp, if_neg (fun e => h (hcc.2 e))];rfl
  ·rintro ⟨m', p'⟩ ⟨h1, h2⟩;exact .chk (i64_small (by omega)) (.some ⟨rfl, h1, h2⟩)
 ·rintro ⟨x, m, fp⟩ hx ⟨hm, hp⟩;simp only at hx hm hp;unfold P_c_faults_L1;refine .ifn (by omega) (.some ?_)
  show fp = _;rw [hp, List.take_length]; rfl
def TruthIn (n : Nat) (t : List Int) : Prop := ∀ x ∈ t, x < n
theorem runs_loop {lv : List Leaf} {t : List Int} (ht : t.length ≤ 120) (hin : TruthIn lv.length t) :
  ∃ m, iter (P_c_faults_L2 lv t) (0, [], [], [], (fun _ => 0)) = some (m, runsOf (gathOf lv) t, strangeOf t, twiceOf t) := by
 suffices h : Ok (iter (P_c_faults_L2 lv t) (0, [], [], [], (fun _ => 0))) (fun s => s.2 = (runsOf (gathOf lv) t, strangeOf t, twiceOf t)) by
  obtain ⟨⟨m, p⟩, h1, h2⟩ := h;exact ⟨m, by rw [h1, ← h2]⟩
 refine Ok.count (fun s => s.1) t.length (fun k s => s.2.1 = runsTo (gathOf lv) t k ∧ s.2.2.1 = idxTo isStrange t k ∧ s.2.2.2.1 = idxTo (isTwice t) t k ∧ ∀ a, 0 ≤ a → s.2.2.2.2 a = cntOf (t.take k) a) rfl ⟨rfl, rfl, rfl, fun a _ => by simp [cntOf]⟩ ?_ ?_
 ·rintro k ⟨x, l, st, tw, m⟩ hk hx ⟨hl, hst, htw, hm⟩;simp only at hx hl hst htw hm;subst hx hl hst htw
  have hro := runsTo_ok (g := gathOf lv) hin k
  have hs1 := idxTo_len isStrange t k
  have hs2 := idxTo_len (isTwice t) t k;unfold P_c_faults_L2;refine .ifp (by omega) (Ok.andx (P := fun s : List S_copy_run × List Int × List Int × (Int → Int) => s.1 = runsTo (gathOf lv) t (k + 1) ∧ s.2.1 = idxTo isStrange t (k + 1) ∧ s.2.2.1 = idxTo (isTwice t) t (k + 1) ∧ ∀ a, 0 ≤ a → s.2.2.2 a = cntOf (t.take (k + 1)) a) ?_ ?_)
  ·refine .el (by omega) fun n hn => ?_
   have hn := get_of hn rfl
   have hnl := hin n (List.mem_of_getElem? hn);rw [runsTo_succ hn, idxTo_succ hn, idxTo_succ hn];refine .ite (fun h0 => ?_) (fun h0 => ?_)
   ·have e1 : isPlain t k n = false := decide_eq_false (by omega)
    have e2 : isStrange k n = true := decide_eq_true h0
    have e3 : isTwice t k n = false := decide_eq_false (by omega);rw [e1, e2, e3];refine .chk (by simp; omega) (.some ⟨rfl, rfl, rfl, fun a ha => ?_⟩);simp only;rw [hm a ha, take_snoc hn, cntOf_snoc, putI_ne (by omega)]
   ·have hc := cntOf_le (t.take k) n
    have htl : (t.take k).length ≤ 120 := by rw [List.length_take]; omega
    have hmn := hm n (by omega)
    have e2 : isStrange k n = false := decide_eq_false h0;rw [e2]
    have hm' : ∀ a, 0 ≤ a → putI m n (m n + 1) a = cntOf (t.take (k + 1)) a := fun a ha => by
     rw [take_snoc hn, cntOf_snoc]
     by_cases e : a = n
     ·subst e; rw [putI_same, putI_same, hmn]
     ·rw [putI_ne e, putI_ne e, hm a ha]
    refine .chk (i64_small (by omega)) (.ite (fun h1 => ?_) (fun h1 => ?_))
    ·rw [putI_same, hmn] at h1
     have hin' := (cntOf_pos (t.take k) n).1 (by omega)
     have e1 : isPlain t k n = false := decide_eq_false (fun h => h.2 hin')
     have e3 : isTwice t k n = true := decide_eq_true ⟨by omega, hin'⟩;rw [e1, e3];exact .chk (by simp; omega) (.some ⟨rfl, rfl, rfl, hm'⟩)
    ·rw [putI_same, hmn] at h1
     have hin' : n ∉ t.take k := fun h => h1 (by have := (cntOf_pos (t.take k) n).2 h; omega)
     have e1 : isPlain t k n = true := decide_eq_true ⟨by omega, hin'⟩
     have e3 : isTwice t k n = false := decide_eq_false (fun h => hin' h.2);rw [e1, e3];generalize hL : runsTo (gathOf lv) t k = L at *;refine Ok.seqx ?_;refine .chk (i64_small (by omega)) (Ok.andx (P := fun b : Bool => (b = true ∧ ∃ r, L[L.length - 1]? = some r ∧ r.last < n ∧ gathOf lv r.last = gathOf lv n) ∨ (b = false ∧ rnStep (gathOf lv) L k n = L ++ [⟨k, n, n⟩])) ?_ ?_)
     ·refine .ite (fun h2 => ?_) (fun h2 => ?_)
      ·refine .el (by omega) fun r hr => ?_
       have hr : L[L.length - 1]? = some r := get_of hr (by omega)
       have hrk := hro.1 r (List.mem_of_getElem? hr);refine .ite (fun h3 => ?_) (fun h3 => ?_)
       ·refine .el (by omega) fun r' hr' => ?_
        have hr' : L[L.length - 1]? = some r' := get_of hr' (by omega);rw [hr] at hr';cases hr';refine .el ⟨hrk.2.2.1, hrk.2.2.2⟩ fun a ha => .el ⟨by omega, hnl⟩ fun b hb => .some ?_
        have ga : gathOf lv r.last = a.g := by unfold gathOf; rw [ha]
        have gb : gathOf lv n = b.g := by unfold gathOf; rw [hb]
        by_cases e : a.g = b.g
        ·exact .inl ⟨decide_eq_true e, r, hr, h3, by rw [ga, gb, e]⟩
        ·refine .inr ⟨decide_eq_false e, ?_⟩;unfold rnStep;rw [hr];simp only;rw [if_neg (fun h => e (by rw [← ga, ← gb]; exact h.2))]
       ·refine .some (.inr ⟨rfl, ?_⟩);unfold rnStep;rw [hr];simp only;rw [if_neg (fun h => h3 h.1)]
      ·refine .some (.inr ⟨rfl, ?_⟩)
       have : L = [] := List.eq_nil_of_length_eq_zero (by omega);subst this;rfl
     ·rintro b (⟨rfl, r, hr, h3, h4⟩ | ⟨rfl, h3⟩)
      ·have hlt := (List.getElem?_eq_some_iff.1 hr).1;refine .ifp rfl (.el (by omega) fun r' hr' => ?_)
       have hr' : L[L.length - 1]? = some r' := get_of hr' (by omega);rw [hr] at hr';cases hr';refine .some ⟨?_, rfl, rfl, hm'⟩;simp only;unfold rnStep;rw [hr];simp only;rw [if_pos (c := r.last < n ∧ gathOf lv r.last = gathOf lv n) ⟨h3, h4⟩, show ((L.length : Int) - 1).toNat = L.length - 1 by omega];simp only [if_true]
      ·refine .ifn (by simp) (.some ?_)
       show Ok _ _;refine .chk (by simp; omega) (.some ⟨?_, rfl, rfl, hm'⟩);simp only;rw [if_pos trivial, h3]
  ·rintro ⟨l', st', tw', m'⟩ ⟨q1, q2, q3, q4⟩;exact .chk (i64_small (by omega)) (.some ⟨rfl, q1, q2, q3, q4⟩)
 ·rintro ⟨x, l, st, tw, m⟩ hx ⟨hl, hst, htw, hm⟩;simp only at hx hl hst htw;unfold P_c_faults_L2;refine .ifn (by omega) (.some ?_)
  show (l, st, tw) = _;rw [hl, hst, htw];rfl
def allOf (n : Nat) (mt : List Int) (g : Int → Int) (t : List Int) : Int := piecesOf mt (lostOf n t) + (strangeOf t).length + (twiceOf t).length + (movedOf (runsOf g t)).length
theorem faults_ok {s : Int} {g : List Gat} {its : List Item} {lv : List Leaf} {mt t : List Int} (hlv : lv.length ≤ 120) (hmt : mt.length = lv.length) (ht : t.length ≤ 120) (hin : TruthIn lv.length t) :
  P_c_faults s g its lv mt t = some ([], lostOf lv.length t, piecesOf mt (lostOf lv.length t), strangeOf t, twiceOf t, movedOf (runsOf (gathOf lv) t), allOf lv.length mt (gathOf lv) t) := by
 refine Ok.get ?_;unfold P_c_faults
 have hl := lostOf_len lv.length t
 have hp := piecesOf_le mt (lostOf lv.length t)
 have h1 : (strangeOf t).length ≤ 120 := Nat.le_trans (idxTo_len _ _ _) ht
 have h2 : (twiceOf t).length ≤ 120 := Nat.le_trans (idxTo_len _ _ _) ht
 have hr := runsTo_ok (g := gathOf lv) hin t.length
 have hm := movedOf_len (runsOf (gathOf lv) t)
 have hrl : (runsOf (gathOf lv) t).length ≤ t.length := hr.2;refine .andx' (lost_ok (by omega) (by omega)) ?_;obtain ⟨m1, e1⟩ := pieces_ok (mt := mt) (lostOf_sorted lv.length t) (fun x hx => by have := mem_lostOf.1 hx; rw [hmt]; omega) (by omega);refine .andx' e1 ?_;obtain ⟨m2, e2⟩ := runs_loop ht hin;refine .andx' e2 ?_;refine .andx' (moved_ok (by omega) hr.1) ?_;refine .chk (i64_small (by omega)) (.chk (i64_small (by omega)) (.chk (i64_small (by omega)) (.some rfl)))
end Go.Am
end
section
namespace Go.Am
def BadOrder (l : List Int) : Prop := ∃ (i : Nat) (a b : Int), l[i]? = some a ∧ l[i + 1]? = some b ∧ b ≤ a
open Classical in
noncomputable def itemErr (l : List Int) (n : Int) : Int := if 4 < l.length then 3 else if ∃ x ∈ l, x < 0 ∨ n - 1 < x then 4 else if BadOrder l then 2 else 0
noncomputable def itemsErr (n : Int) : Nat → List Item → Option (Nat × Int)
 | _, [] => none
 | i, x :: l => if itemErr x.could.l n = 0 then itemsErr n (i + 1) l else some (i, itemErr x.could.l n)
def doubtsErr : Nat → Nat → List Item → Option Nat
 | _, _, [] => none
 | d, i, x :: l => if 3 < (if 1 < x.could.l.length then d + 1 else d) then some i else doubtsErr (if 1 < x.could.l.length then d + 1 else d) (i + 1) l
noncomputable def caseErr (s : Int) (g : List Gat) (its : List Item) : Int × Int × Int :=
 if (bookErr (bk s g)).2.2 = 0 then
  if 120 < (leavesOf (bk s g)).length then (1, 0, 3)
  else if 120 < its.length then (2, 0, 3)
  else match itemsErr (leavesOf (bk s g)).length 0 its with
   | some (i, e) => (2, (i : Int), e)
   | none => match doubtsErr 0 0 its with
    | some i => (3, (i : Int), 3)
    | none => (0, 0, 0)
 else (1, 0, (bookErr (bk s g)).2.2)
theorem in_ok {n lo hi : Int} : P_r4_in n lo hi = some (decide (lo ≤ n ∧ n ≤ hi)) := by
 unfold P_r4_in
 by_cases h : n ≥ lo
 ·rw [if_pos h]; simp [andx, show lo ≤ n from h]
 ·rw [if_neg h]; simp [andx, show ¬ lo ≤ n from h]
theorem item_ok {l : List Int} {n : Int} (hn : 0 ≤ n ∧ n ≤ 1000000) : P_r4_item l n = some (itemErr l n) := by
 refine Ok.get ?_;unfold P_r4_item itemErr;refine .ite (fun h => ?_) (fun h => ?_)
 ·rw [if_pos (by omega)]; exact .some rfl
 ·rw [if_neg (by omega)];refine Ok.seqx (Ok.count id l.length (fun k s => ∀ x ∈ l.take k, ¬ (x < 0 ∨ n - 1 < x)) rfl (by simp) ?_ ?_)
  ·rintro k x hk hx hi;simp only [id] at hx;unfold P_r4_item_L1;refine .ifp (by omega) (.el (by omega) fun a ha => .chk (i64_small (by omega)) (.andx' in_ok ?_))
   have ha := get_of ha hx;refine .ite (fun hc => ?_) (fun hc => ?_)
   ·refine .chk (i64_small (by omega)) (.some ⟨by simp only [id]; omega, ?_⟩)
    show ∀ y ∈ l.take (k + 1), _;rw [take_snoc ha];intro y hy
    rcases List.mem_append.1 hy with hy | hy
    ·exact hi y hy
    ·simp at hy; subst hy; simp at hc; omega
   ·refine .some ?_
    show 4 = _;rw [if_pos ⟨a, List.mem_of_getElem? ha, by simp at hc; omega⟩]
  ·rintro x hx hi;simp only [id] at hx;unfold P_r4_item_L1;rw [List.take_length] at hi;refine .ifn (by omega) (.some ?_)
   show Ok _ _;rw [if_neg (fun ⟨y, h1, h2⟩ => hi y h1 h2)];refine Ok.seqx (Ok.iter (fun i => 1 ≤ i ∧ ∀ (k : Nat) (a b : Int), (k : Int) + 1 < i → l[k]? = some a → l[k + 1]? = some b → a < b) (fun i => l.length - i.toNat) ⟨by omega, fun k a b h => by omega⟩ ?_);rintro i ⟨h1, h2⟩;unfold P_r4_item_L2;refine .ite (fun hc => ?_) (fun hc => ?_)
   ·refine .el (by omega) fun b hb => .chk (i64_small (by omega)) (.el (by omega) fun a ha => ?_)
    have e : i.toNat = (i - 1).toNat + 1 := by omega
    rw [e] at hb;refine .ite (fun hd => .some ?_) (fun hd => .chk (i64_small (by omega)) (.some ⟨⟨by omega, ?_⟩, by simp only; omega⟩))
    ·show 2 = _;rw [if_pos ⟨_, a, b, ha, hb, hd⟩]
    ·intro k a' b' hk ha' hb'
     by_cases hk' : (k : Int) + 1 < i
     ·exact h2 k a' b' hk' ha' hb'
     ·have : k = (i - 1).toNat := by omega
      subst this;rw [ha] at ha'; rw [hb] at hb';cases ha'; cases hb';omega
   ·refine .some ?_
    show Ok _ _;refine .some ?_;rw [if_neg];rintro ⟨k, a, b, ha, hb, hd⟩
    have := (List.getElem?_eq_some_iff.1 hb).1
    have := h2 k a b (by omega) ha hb;omega
theorem itemsErr_drop {n : Int} {l : List Item} {k : Nat} {x : Item} (h : l[k]? = some x) : itemsErr n k (l.drop k) = if itemErr x.could.l n = 0 then itemsErr n (k + 1) (l.drop (k + 1)) else some (k, itemErr x.could.l n) := by
 rw [drop_cons h]; rfl
theorem doubtsErr_drop {d : Nat} {l : List Item} {k : Nat} {x : Item} (h : l[k]? = some x) : doubtsErr d k (l.drop k) = if 3 < (if 1 < x.could.l.length then d + 1 else d) then some k else doubtsErr (if 1 < x.could.l.length then d + 1 else d) (k + 1) (l.drop (k + 1)) := by
 rw [drop_cons h]; rfl
theorem r4_Check_ok {s : Int} {g : List Gat} {its : List Item} : P_r4_Check s g its = some (caseErr s g its) := by
 refine Ok.get ?_;unfold P_r4_Check caseErr;refine .andx' (x := P_r1_Check s g) rfl ?_;dsimp only
 by_cases h0 : (bookErr (bk s g)).2.2 = 0
 ·have hf := book_fits h0
  have hall : P_r1_All s g = some (leavesOf (bk s g)) := by unfold P_r1_All; rw [chk_pos hf]
  have hlen := leaves_len hf;rw [if_pos h0, if_pos h0, hall];simp only [andx];generalize hL : leavesOf (bk s g) = lv at hlen
  by_cases h1 : 120 < lv.length
  ·rw [if_pos (show decide ((lv.length : Int) > 120) = true by simp; omega), if_pos h1];simp only;refine .ifp (by omega) (.some rfl)
  ·rw [if_neg (show ¬ decide ((lv.length : Int) > 120) = true by simp; omega), if_neg h1];simp only [h0];refine .ifn (by simp) ?_
   by_cases h2 : 120 < its.length
   ·rw [if_pos h2]; refine .ifp (by omega) (.some rfl)
   ·rw [if_neg h2];refine .ifn (by omega) (Ok.seqx (Ok.count id its.length (fun k _ => itemsErr lv.length 0 its = itemsErr lv.length k (its.drop k)) rfl rfl ?_ ?_))
    ·rintro k i hk hi hI;simp only [id] at hi;subst hi;unfold P_r4_Check_L1;refine .ifp (by omega) (.el (by omega) fun x hx => .andx' (item_ok (by omega)) ?_)
     have hx := get_of hx rfl;rw [itemsErr_drop hx] at hI;refine .ite (fun hc => ?_) (fun hc => ?_)
     ·rw [if_neg hc] at hI;refine .some ?_
      show _ = _;rw [hI]
     ·rw [if_pos (by omega)] at hI;exact .chk (i64_small (by omega)) (.some ⟨rfl, hI⟩)
    ·rintro i hi hI;simp only [id] at hi;subst hi;unfold P_r4_Check_L1;rw [List.drop_length] at hI;refine .ifn (by omega) (.some ?_)
     show Ok _ _;rw [hI];simp only [itemsErr];refine Ok.seqx (Ok.count (σ := Int × Int) Prod.snd its.length (fun k s => ∃ d : Nat, s.1 = d ∧ d ≤ 3 ∧ doubtsErr 0 0 its = doubtsErr d k (its.drop k)) rfl ⟨0, rfl, by omega, rfl⟩ ?_ ?_)
     ·rintro k ⟨dd, i⟩ hk hi ⟨d, hd, hd3, hI⟩;simp only at hi hd;subst hi hd;unfold P_r4_Check_L2;refine .ifp (by omega) (Ok.seqx ?_);refine Ok.andx (P := fun j => ∃ x, its[k]? = some x ∧ j = ((if 1 < x.could.l.length then d + 1 else d : Nat) : Int)) (.el (by omega) fun x hx => ?_) ?_
      ·have hx := get_of hx rfl;refine .ite (fun hc => .chk (i64_small (by omega)) (.some ⟨x, hx, ?_⟩)) (fun hc => .some ⟨x, hx, ?_⟩)
       ·rw [if_pos (by omega)]; rfl
       ·rw [if_neg (by omega)]
      ·rintro j ⟨x, hx, rfl⟩;rw [doubtsErr_drop hx] at hI;generalize (if 1 < x.could.l.length then d + 1 else d) = e at hI;refine .ite (fun hc => ?_) (fun hc => ?_)
       ·rw [if_pos (by omega)] at hI;refine .some ?_
        show _ = _;rw [hI]
       ·rw [if_neg (by omega)] at hI;refine .some ?_
        show Ok _ _;exact .chk (i64_small (by omega)) (.some ⟨rfl, e, rfl, by omega, hI⟩)
     ·rintro ⟨dd, i⟩ hi ⟨d, hd, hd3, hI⟩;simp only at hi hd;subst hi hd;unfold P_r4_Check_L2;rw [List.drop_length] at hI;refine .ifn (by omega) (.some ?_)
      show Ok _ _;rw [hI];exact .some rfl
 ·rw [if_neg h0, if_neg h0];simp only [andx];rw [if_neg (by simp)];simp only;exact .ifp h0 (.some rfl)
end Go.Am
end
section
namespace Go.Am
noncomputable def lvs (s : Int) (g : List Gat) : List Leaf := leavesOf (bk s g)
noncomputable def matesTo (s : Int) (g : List Gat) (n : Nat) : List Int := (List.range n).map fun n => pairNo (bk s g) n
noncomputable def matesOf (s : Int) (g : List Gat) : List Int := matesTo s g (lvs s g).length
theorem matesTo_len (s : Int) (g : List Gat) (n : Nat) : (matesTo s g n).length = n := by simp [matesTo]
theorem matesTo_succ (s : Int) (g : List Gat) (n : Nat) : matesTo s g (n + 1) = matesTo s g n ++ [pairNo (bk s g) n] := by
 unfold matesTo; rw [List.range_succ, List.map_append]; rfl
theorem itemsErr_pos : ∀ (l : List Item) (i : Nat) (n : Int), ∀ x, itemsErr n i l = some x → x.2 ≠ 0 := by
 intro l
 induction l with
 | nil => intro i n x h; cases h
 | cons a l ih =>
  intro i n x h;unfold itemsErr at h;split at h
  ·exact ih _ _ _ h
  ·cases h; assumption
noncomputable def openRes (s : Int) (g : List Gat) (its : List Item) : Sum (Int × Int × Int) (Int × (GS encL) × (List Int) × Int × Int × Int) :=
 if (caseErr s g its).2.2 = 0 then .inr (s, GSo true encL (lvs s g), matesOf s g, 0, 0, 0) else .inl (caseErr s g its)
theorem outside_ok {lo hi : Int} {x : List Int} (h : x.length ≤ 1000000) : P_c_outside lo hi x = some (decide (∃ n ∈ x, n < lo ∨ hi < n)) := by
 unfold P_c_outside;rw [chk_pos (by omega)]
theorem order_ok {x44 : Int} {it : Item} (hl : it.could.l.length ≤ 4) {Q : Ex Unit (Stp Int (Ex Unit (Sum (Int × Int × Int) (Int × (GS encL) × (List Int) × Int × Int × Int)))) → Prop}
  (h1 : BadOrder it.could.l → Q (.rt (.dn (.rt (.inl (2, x44, 2)))))) (h2 : ¬ BadOrder it.could.l → Q (.nx ())) : Ok (iter (P_c_open_L2 x44 it) 0) Q := by
 refine Ok.iter (fun i => 0 ≤ i ∧ ∀ (k : Nat) (a b : Int), (k : Int) + 1 < i → it.could.l[k]? = some a → it.could.l[k + 1]? = some b → a < b) (fun i => it.could.l.length - i.toNat) ⟨by omega, fun k a b h => by omega⟩ ?_;rintro i ⟨h0, hI⟩;unfold P_c_open_L2;refine .ite (fun hc => ?_) (fun hc => ?_)
 ·refine Ok.seqx (.el (by omega) fun b hb => ?_)
  by_cases hi : i > 0
  ·rw [if_pos hi];refine Ok.andx (P := fun c => ∃ a, it.could.l[(i - 1).toNat]? = some a ∧ c = decide (b ≤ a)) (.chk (i64_small (by omega)) (.el (by omega) fun a ha => .some ⟨a, ha, rfl⟩)) ?_;rintro c ⟨a, ha, rfl⟩
   have e : i.toNat = (i - 1).toNat + 1 := by omega
   rw [e] at hb;refine .ite (fun hd => .some ?_) (fun hd => .some ?_)
   ·exact h1 ⟨_, a, b, ha, hb, by simpa using hd⟩
   ·refine .chk (i64_small (by omega)) (.some ⟨⟨by omega, ?_⟩, by simp only; omega⟩);intro k a' b' hk ha' hb'
    by_cases hk' : (k : Int) + 1 < i
    ·exact hI k a' b' hk' ha' hb'
    ·have : k = (i - 1).toNat := by omega
     subst this;rw [ha] at ha'; rw [hb] at hb';cases ha'; cases hb'
     have : ¬ b ≤ a := by simpa using hd
     omega
  ·rw [if_neg hi];simp only [andx];rw [if_neg (by simp)];refine .some ?_
   show Ok _ _;exact .chk (i64_small (by omega)) (.some ⟨⟨by omega, fun k a b hk => by omega⟩, by simp only; omega⟩)
 ·refine .some ?_;refine h2 ?_;rintro ⟨k, a, b, ha, hb, hd⟩
  have := (List.getElem?_eq_some_iff.1 hb).1
  have := hI k a b (by omega) ha hb;omega
theorem mate_ok {s : Int} {g : List Gat} {n : Nat} (h0 : (bookErr (bk s g)).2.2 = 0) (hn : n < (lvs s g).length) : (if ¬ (mateOf (bk s g) n).2 = 0 then (-1 : Int) else (mateOf (bk s g) n).1) = pairNo (bk s g) n := by
 rcases mate_cases h0 hn with h | ⟨h, h'⟩
 ·rw [h]; simp
 ·rw [h, h']; simp
theorem mates_ok {s : Int} {g : List Gat} (h0 : (bookErr (bk s g)).2.2 = 0) (hl : (lvs s g).length ≤ 120) : iter (P_c_open_L4 s g (lvs s g)) (0, []) = some (matesOf s g) := by
 refine Ok.get (Ok.count (σ := Int × List Int) Prod.fst (lvs s g).length (fun k x => x.2 = matesTo s g k) rfl rfl ?_ ?_)
 ·rintro k ⟨i, l⟩ hk hi hl';simp only at hi hl';subst hi hl';unfold P_c_open_L4;refine .ifp (by omega) (Ok.andx (P := fun l => l = matesTo s g (k + 1)) ?_ ?_)
  ·refine .andx' (x := P_q_Mate s g k) (a := mateOf (bk s g) k) rfl ?_
   have hme := mate_ok h0 hk;generalize mateOf (bk s g) (k : Int) = me at hme;obtain ⟨m, e⟩ := me;dsimp only at hme ⊢;refine Ok.andx (P := fun m => m = pairNo (bk s g) k) ?_ ?_
   ·refine .ite (fun hc => .some ?_) (fun hc => .some ?_)
    ·rw [if_pos hc] at hme; exact hme
    ·rw [if_neg hc] at hme; exact hme
   ·rintro m rfl
    have := matesTo_len s g k;exact .chk (by simp; omega) (.some (matesTo_succ s g k).symm)
  ·rintro l rfl;exact .chk (i64_small (by omega)) (.some ⟨rfl, rfl⟩)
 ·rintro ⟨i, l⟩ hi hl';simp only at hi hl';subst hi hl';unfold P_c_open_L4;exact .ifn (by omega) (.some rfl)
theorem open_ok {s : Int} {g : List Gat} {its : List Item} : P_c_open s g its = some (openRes s g its) := by
 refine Ok.get ?_;unfold P_c_open openRes caseErr;refine .andx' (x := P_q_Check s g) rfl ?_;dsimp only
 by_cases h0 : (bookErr (bk s g)).2.2 = 0
 ·rw [if_pos h0];refine .ifn (fun h => h h0) (.andx' (x := P_q_Leaves s g) (a := (leavesOf (bk s g), 0)) (by unfold P_q_Leaves; rw [if_pos h0, h0]) ?_);dsimp only
  have hlen := leaves_len (book_fits h0)
  have hmt := mates_ok (s := s) (g := g) h0;unfold lvs at hmt ⊢;generalize leavesOf (bk s g) = lv at hlen hmt
  by_cases h1 : 120 < lv.length
  ·rw [if_pos h1];exact .ifp (by omega) (.some (by simp))
  ·rw [if_neg h1];refine .ifn (by omega) ?_
   by_cases h2 : 120 < its.length
   ·rw [if_pos h2];exact .ifp (by omega) (.some (by simp))
   ·rw [if_neg h2];refine .ifn (by omega) (Ok.seqx (Ok.count id its.length (fun k _ => itemsErr lv.length 0 its = itemsErr lv.length k (its.drop k)) rfl rfl ?_ ?_))
    ·rintro k i hk hi hI;simp only [id] at hi;subst hi;unfold P_c_open_L1;refine .ifp (by omega) (Ok.seqx (.el (by omega) fun x hx => ?_))
     have hx := get_of hx rfl;rw [itemsErr_drop hx] at hI
     have key : ∀ e : Int, itemErr x.could.l lv.length = e → e ≠ 0 → (Sum.inl (2, (k : Int), e) : Sum (Int × Int × Int) (Int × (GS encL) × (List Int) × Int × Int × Int)) = (if (match itemsErr lv.length 0 its with | some (i, e) => ((2 : Int), (i : Int), e) | none => match doubtsErr 0 0 its with | some i => (3, (i : Int), 3) | none => (0, 0, 0)).2.2 = 0 then .inr (s, GSo true encL lv, matesOf s g, 0, 0, 0) else .inl (match itemsErr lv.length 0 its with | some (i, e) => ((2 : Int), (i : Int), e) | none => match doubtsErr 0 0 its with | some i => (3, (i : Int), 3) | none => (0, 0, 0))) := by
      intro e he h;rw [he, if_neg h] at hI;rw [hI];simp [h]
     unfold itemErr at hI key;refine .ite (fun hc => ?_) (fun hc => ?_)
     ·exact .some (key 3 (by rw [if_pos (by omega)]) (by omega))
     ·rw [if_neg (by omega : ¬ 4 < x.could.l.length)] at hI key;refine .chk (i64_small (by omega)) (.andx' (outside_ok (by omega)) ?_);refine .ite (fun hd => ?_) (fun hd => ?_)
      ·exact .some (key 4 (by rw [if_pos (by simpa using hd)]) (by omega))
      ·have hd' : ¬ ∃ n ∈ x.could.l, n < 0 ∨ (lv.length : Int) - 1 < n := by simpa using hd
       rw [if_neg hd'] at hI key;refine order_ok (by omega) (fun hb => ?_) (fun hb => ?_)
       ·exact key 2 (by rw [if_pos hb]) (by omega)
       ·rw [if_neg hb, if_pos rfl] at hI
        show Ok _ _;exact .chk (i64_small (by omega)) (.some ⟨rfl, hI⟩)
    ·rintro i hi hI;simp only [id] at hi;subst hi;unfold P_c_open_L1;rw [List.drop_length] at hI;refine .ifn (by omega) (.some ?_)
     show Ok _ _;rw [hI];simp only [itemsErr];refine Ok.seqx (Ok.count (σ := Int × Int) Prod.snd its.length (fun k s => ∃ d : Nat, s.1 = d ∧ d ≤ 3 ∧ doubtsErr 0 0 its = doubtsErr d k (its.drop k)) rfl ⟨0, rfl, by omega, rfl⟩ ?_ ?_)
     ·rintro k ⟨dd, i⟩ hk hi ⟨d, hd, hd3, hI⟩;simp only at hi hd;subst hi hd;unfold P_c_open_L3;refine .ifp (by omega) (Ok.seqx (.el (by omega) fun x hx => ?_))
      have hx := get_of hx rfl;rw [doubtsErr_drop hx] at hI;refine Ok.andx (P := fun j => j = ((if 1 < x.could.l.length then d + 1 else d : Nat) : Int)) ?_ ?_
      ·refine .ite (fun hc => .chk (i64_small (by omega)) (.some ?_)) (fun hc => .some ?_)
       ·rw [if_pos (by omega)]; rfl
       ·rw [if_neg (by omega)]
      ·rintro j rfl;generalize (if 1 < x.could.l.length then d + 1 else d) = e at hI;refine .ite (fun hc => ?_) (fun hc => ?_)
       ·rw [if_pos (by omega)] at hI;refine .some ?_
        show _ = _;rw [hI];simp
       ·rw [if_neg (by omega)] at hI;refine .some ?_
        show Ok _ _;exact .chk (i64_small (by omega)) (.some ⟨rfl, e, rfl, by omega, hI⟩)
     ·rintro ⟨dd, i⟩ hi ⟨d, hd, hd3, hI⟩;simp only at hi hd;subst hi hd;unfold P_c_open_L3;rw [List.drop_length] at hI;refine .ifn (by omega) (.some ?_)
      show Ok _ _;rw [hI];refine .andx' (hmt (by omega)) (.some ?_);simp [doubtsErr]
 ·rw [if_neg h0];exact .ifp h0 (.some (by rw [if_neg h0]))
end Go.Am
end
section
namespace Go.Am
theorem doubts_le : ∀ (l : List Item) (d i : Nat), d ≤ 3 → doubtsErr d i l = none → d + l.countP (fun x => decide (1 < x.could.l.length)) ≤ 3 := by
 intro l
 induction l with
 | nil => intro d i hd _; simpa using hd
 | cons x l ih =>
  intro d i hd h;unfold doubtsErr at h;rw [List.countP_cons]
  by_cases hx : 1 < x.could.l.length
  ·simp only [hx, if_true, decide_true] at h ⊢;split at h
   ·cases h
   ·have := ih _ _ (by omega) h;omega
  ·simp only [hx, if_false, decide_false] at h ⊢;split at h
   ·cases h
   ·have := ih _ _ (by omega) h
    simpa using this
theorem items_ok {n : Int} : ∀ (l : List Item) (i : Nat), itemsErr n i l = none → ∀ x ∈ l, itemErr x.could.l n = 0 := by
 intro l
 induction l with
 | nil => intro i _ x hx; simp at hx
 | cons a l ih =>
  intro i h x hx;unfold itemsErr at h;split at h
  ·rename_i h0
   rcases List.mem_cons.1 hx with rfl | hx
   ·exact h0
   ·exact ih _ h x hx
  ·cases h
theorem item_facts {l : List Int} {n : Int} (h : itemErr l n = 0) : l.length ≤ 4 ∧ (∀ x ∈ l, 0 ≤ x ∧ x ≤ n - 1) ∧ ¬ BadOrder l := by
 unfold itemErr at h;split at h
 ·omega
 ·split at h
  ·omega
  ·rename_i h1 h2
   split at h
   ·omega
   ·rename_i h3
    refine ⟨by omega, fun x hx => ?_, h3⟩
    have : ¬ (x < 0 ∨ n - 1 < x) := fun k => h2 ⟨x, hx, k⟩
    omega
def wid : List Item → Nat
 | [] => 1
 | x :: l => (chs x).length * wid l
theorem comps_len : ∀ (l : List Item) (p : List Int), (comps p l).length = wid l := by
 intro l
 induction l with
 | nil => intro p; rfl
 | cons x l ih =>
  intro p;unfold comps wid;rw [List.length_flatMap]
  have : ((chs x).map fun c => (comps (p ++ [c]) l).length) = (chs x).map fun _ => wid l := by simp [ih]
  rw [this];simp [List.map_const', List.sum_replicate_nat]
theorem chs_len (x : Item) (h : x.could.l.length ≤ 4) : 1 ≤ (chs x).length ∧ (chs x).length ≤ 4 ∧ (1 < (chs x).length ↔ 1 < x.could.l.length) := by
 unfold chs
 by_cases h0 : x.could.l = []
 ·rw [if_pos h0]; simp [h0]
 ·rw [if_neg h0]
  have : x.could.l.length ≠ 0 := fun e => h0 (List.eq_nil_of_length_eq_zero e)
  omega
theorem wid_le : ∀ (l : List Item), (∀ x ∈ l, x.could.l.length ≤ 4) → 1 ≤ wid l ∧ wid l ≤ 4 ^ l.countP (fun x => decide (1 < x.could.l.length)) := by
 intro l
 induction l with
 | nil => intro _; simp [wid]
 | cons x l ih =>
  intro h
  have hx := chs_len x (h x (by simp));obtain ⟨h1, h2⟩ := ih fun y hy => h y (by simp [hy])
  unfold wid;rw [List.countP_cons];refine ⟨Nat.mul_pos hx.1 h1, ?_⟩
  by_cases hc : 1 < x.could.l.length
  ·simp only [hc, decide_true, if_true, Nat.pow_succ];rw [Nat.mul_comm];exact Nat.mul_le_mul h2 hx.2.1
  ·have : (chs x).length = 1 := by have := hx.2.2; omega
   simp only [hc, decide_false, this]
   simpa using h2
def lev : List (List Int) → List Item → List (List Int)
 | out, [] => out
 | out, x :: l => lev (out.flatMap fun o => (chs x).map fun c => o ++ [c]) l
end Go.Am
end
section
namespace Go.Am
set_option linter.unusedVariables false
structure GoodCase (s : Int) (g : List Gat) (its : List Item) : Prop where
 b0 : (bookErr (bk s g)).2.2 = 0
 nl : (lvs s g).length ≤ 120
 il : its.length ≤ 120
 few : ∀ x ∈ its, x.could.l.length ≤ 4
 rng : ∀ x ∈ its, ∀ n ∈ x.could.l, 0 ≤ n ∧ n ≤ ((lvs s g).length : Int) - 1
 dbt : its.countP (fun x => decide (1 < x.could.l.length)) ≤ 3
theorem case_good {s : Int} {g : List Gat} {its : List Item} (h : (caseErr s g its).2.2 = 0) : GoodCase s g its := by
 unfold caseErr at h
 by_cases hb : (bookErr (bk s g)).2.2 = 0
 ·rw [if_pos hb] at h
  by_cases h1 : 120 < (leavesOf (bk s g)).length
  ·rw [if_pos h1] at h; simp at h
  ·rw [if_neg h1] at h
   by_cases h2 : 120 < its.length
   ·rw [if_pos h2] at h; simp at h
   ·rw [if_neg h2] at h;split at h
    ·rename_i i e he
     exact absurd h (itemsErr_pos _ _ _ _ he)
    ·rename_i he
     split at h
     ·simp at h
     ·rename_i hd
      have hi := fun x hx => item_facts (items_ok _ _ he x hx)
      exact ⟨hb, by unfold lvs; omega, by omega, fun x hx => (hi x hx).1, fun x hx => (hi x hx).2.1, by simpa using doubts_le _ _ _ (by omega) hd⟩
 ·rw [if_neg hb] at h; exact absurd h hb
theorem GoodCase.wid {s : Int} {g : List Gat} {its : List Item} (h : GoodCase s g its) : Go.Am.wid its ≤ 64 :=
 Nat.le_trans (wid_le _ h.few).2 (Nat.le_trans (Nat.pow_le_pow_right (by omega) h.dbt) (by decide))
theorem GoodCase.take {s : Int} {g : List Gat} {its : List Item} (h : GoodCase s g its) (k : Nat) : GoodCase s g (its.take k) :=
  ⟨h.b0, h.nl, Nat.le_trans (by rw [List.length_take]; omega) h.il, fun x hx => h.few x (List.mem_of_mem_take hx), fun x hx => h.rng x (List.mem_of_mem_take hx),
    Nat.le_trans ((List.take_sublist k its).countP_le) h.dbt⟩
end Go.Am
end
section
namespace Go.Am
set_option linter.unusedVariables false
structure GoodBook (s : Int) (g : List Gat) : Prop where
 b0 : (bookErr (bk s g)).2.2 = 0
 nl : (lvs s g).length ≤ 120
theorem GoodCase.book {s : Int} {g : List Gat} {its : List Item} (h : GoodCase s g its) : GoodBook s g := ⟨h.b0, h.nl⟩
theorem All1_ok {s : Int} {g : List Gat} (h : GoodBook s g) : P_r1_All s g = some (lvs s g) := by unfold P_r1_All; rw [chk_pos (book_fits h.b0)]; rfl
theorem has_ok {l : List Int} {n : Int} (h : l.length ≤ 1000000) : P_r1_Has l n = some (decide (n ∈ l)) := by unfold P_r1_Has; rw [chk_pos (by omega)]
theorem mates_len (s : Int) (g : List Gat) : (matesOf s g).length = (lvs s g).length := matesTo_len _ _ _
end Go.Am
end
section
namespace Go.Am
set_option linter.unusedVariables false
def behind (l : List S_copy_run) (i : Nat) : List (S_copy_run × Int) := (l.drop (i + 1)).zip (chains (l.drop (i + 1)))
end Go.Am
end
section
namespace Go.Am
set_option linter.unusedVariables false
theorem truths_in {s : Int} {g : List Gat} {its : List Item} (h : GoodCase s g its) : ∀ t ∈ truthsOf its, t.length = its.length ∧ ∀ x ∈ t, x = -1 ∨ 0 ≤ x ∧ x < (lvs s g).length := by
  suffices k : ∀ (l : List Item) (p t : List Int), (∀ x ∈ l, ∀ n ∈ x.could.l, 0 ≤ n ∧ n ≤ ((lvs s g).length : Int) - 1) → (∀ x ∈ p, x = -1 ∨ 0 ≤ x ∧ x < (lvs s g).length) → t ∈ comps p l → t.length = p.length + l.length ∧ ∀ x ∈ t, x = -1 ∨ 0 ≤ x ∧ x < (lvs s g).length by
    intro t ht
    have := k its [] t h.rng (by simp) ht
    exact ⟨by simpa using this.1, this.2⟩
  intro l
  induction l with
  | nil =>
    intro p t _ hp ht
    rw [comps, List.mem_singleton] at ht
    subst ht
    exact ⟨rfl, hp⟩
  | cons x l ih =>
    intro p t hl hp ht
    rw [comps, List.mem_flatMap] at ht
    obtain ⟨c, hc, ht⟩ := ht
    have hcr : c = -1 ∨ 0 ≤ c ∧ c < (lvs s g).length := by
      unfold chs at hc
      split at hc
      · rw [List.mem_singleton] at hc; exact .inl hc
      · have := hl x List.mem_cons_self c hc; exact .inr ⟨this.1, by omega⟩
    have := ih (p ++ [c]) t (fun y hy => hl y (List.mem_cons_of_mem _ hy)) (fun y hy => by
      rcases List.mem_append.1 hy with hy | hy
      · exact hp y hy
      · rw [List.mem_singleton] at hy; subst hy; exact hcr) ht
    refine ⟨?_, this.2⟩
    rw [this.1]
    simp
    omega
noncomputable def manyOf (s : Int) (g : List Gat) (t : List Int) : Int := allOf (lvs s g).length (matesOf s g) (gathOf (lvs s g)) t
noncomputable def wideOf (s : Int) (g : List Gat) (its : List Item) : Int × Int :=
 match truthsOf its with
 | [] => (0, 0)
 | t :: l => l.foldl (fun x t => (min x.1 (manyOf s g t), max x.2 (manyOf s g t))) (manyOf s g t, manyOf s g t)
end Go.Am
end
section
namespace Go.Am
set_option linter.unusedVariables false
theorem openRes_err {s : Int} {g : List Gat} {its : List Item} (h : ¬ (caseErr s g its).2.2 = 0) : openRes s g its = .inl (caseErr s g its) := by unfold openRes; rw [if_neg h]
theorem openRes_ok {s : Int} {g : List Gat} {its : List Item} (h : (caseErr s g its).2.2 = 0) : openRes s g its = .inr (s, GSo true encL (lvs s g), matesOf s g, 0, 0, 0) := by unfold openRes; rw [if_pos h]
end Go.Am
end
section
namespace Go.Am
set_option linter.unusedVariables false
theorem foldx_fold {σ β A : Type} {body : σ → β → Option (Stp σ A)} {f : σ → β → σ} : ∀ (l : List β) (s : σ), (∀ s, ∀ x ∈ l, body s x = some (.ag (f s x))) → foldx body l s = some (.nx (l.foldl f s)) := by
 intro l
 induction l with
 | nil => intro s _; rfl
 | cons a l ih =>
  intro s h;unfold foldx;rw [h s a List.mem_cons_self];exact ih _ fun s x hx => h s x (List.mem_cons_of_mem _ hx)
theorem count_le (g : Int → Int) (t : List Int) : ∀ k, (idxTo isStrange t k).length + (idxTo (isTwice t) t k).length + (runsTo g t k).length ≤ k := by
 intro k
 induction k with
 | zero => simp [idxTo, runsTo]
 | succ k ih =>
  cases h : t[k]? with
  | none =>
   rw [idxTo, idxTo, runsTo, h];simp only [List.append_nil];omega
  | some n =>
   rw [idxTo_succ h, idxTo_succ h, runsTo_succ h]
   by_cases h0 : n < 0
   ·have e1 : isPlain t k n = false := decide_eq_false (by omega)
    have e2 : isStrange k n = true := decide_eq_true h0
    have e3 : isTwice t k n = false := decide_eq_false (by omega);rw [e1, e2, e3];simp;omega
   ·have e2 : isStrange k n = false := decide_eq_false h0
    by_cases hm : n ∈ t.take k
    ·have e1 : isPlain t k n = false := decide_eq_false (fun h => h.2 hm)
     have e3 : isTwice t k n = true := decide_eq_true ⟨by omega, hm⟩;rw [e1, e2, e3];simp;omega
    ·have e1 : isPlain t k n = true := decide_eq_true ⟨by omega, hm⟩
     have e3 : isTwice t k n = false := decide_eq_false (fun h => hm h.2)
     have := rnStep_len (g := g) (l := runsTo g t k) (i := k) (n := n);rw [e1, e2, e3];simp;omega
theorem many_bounds (s : Int) (g : List Gat) (t : List Int) : 0 ≤ manyOf s g t ∧ manyOf s g t ≤ (lvs s g).length + t.length := by
 unfold manyOf allOf
 have h1 := piecesOf_le (matesOf s g) (lostOf (lvs s g).length t)
 have h2 := lostOf_len (lvs s g).length t
 have h3 := count_le (gathOf (lvs s g)) t t.length
 have h4 := movedOf_len (runsOf (gathOf (lvs s g)) t);unfold strangeOf twiceOf
 have h5 : (runsOf (gathOf (lvs s g)) t).length = (runsTo (gathOf (lvs s g)) t t.length).length := rfl;omega
theorem cfaults_ok {s : Int} {g : List Gat} {its : List Item} (h : GoodCase s g its) {its' : List Item} {s' : Int} {t : List Int} (ht : t ∈ truthsOf its) :
  P_c_faults s' g its' (lvs s g) (matesOf s g) t = some ([], lostOf (lvs s g).length t, piecesOf (matesOf s g) (lostOf (lvs s g).length t), strangeOf t, twiceOf t, movedOf (runsOf (gathOf (lvs s g)) t), manyOf s g t) := by
 have ht' := truths_in h t ht
 have := h.il;exact faults_ok h.nl (mates_len s g) (by omega) (fun x hx => by rcases ht'.2 x hx with h | h <;> omega)
theorem truths_pos {its : List Item} (hf : ∀ x ∈ its, x.could.l.length ≤ 4) : ∃ t l, truthsOf its = t :: l := by
 have h1 := (wid_le its hf).1
 have h2 := comps_len its [];cases h : truthsOf its with
 | nil => unfold truthsOf at h; rw [h] at h2; simp at h2; omega
 | cons t l => exact ⟨t, l, rfl⟩
theorem wide_ok {s : Int} {g : List Gat} {its : List Item} (h : GoodCase s g its) {s' : Int} : P_c_wide s' g its (lvs s g) (matesOf s g) = some (wideOf s g its) := by
 refine Ok.get ?_
 have hil := h.il
 have hnl := h.nl;obtain ⟨t, l, htl⟩ := truths_pos h.few;unfold P_c_wide;refine .chk (i64_small (by omega)) (.chk (i64_small (by omega)) (Ok.andx (P := fun x => x = wideOf s g its) (.chk ⟨hil, h.few⟩ ?_) ?_))
 ·have hb : ∀ (x : Int × Int), ∀ t ∈ truthsOf its, P_c_wide_L1 s' g its (lvs s g) (matesOf s g) x t = some (.ag (min x.1 (manyOf s g t), max x.2 (manyOf s g t))) := fun x t ht => by
   unfold P_c_wide_L1;obtain ⟨a, b⟩ := x;simp only;rw [cfaults_ok h ht];rfl
  rw [foldx_fold (f := fun (x : Int × Int) t => (min x.1 (manyOf s g t), max x.2 (manyOf s g t))) _ _ hb];refine .some ?_
  show (_, _) = _;unfold wideOf;rw [htl, List.foldl_cons]
  have h1 := many_bounds s g t
  have h2 := (truths_in h t (by rw [htl]; exact List.mem_cons_self)).1
  have e1 : min (((lvs s g).length : Int) + 2 * (its.length : Int)) (manyOf s g t) = manyOf s g t := by omega
  have e2 : max (0 : Int) (manyOf s g t) = manyOf s g t := by omega
  simp only [e1, e2]
 ·rintro ⟨a, b⟩ hab;exact .some hab
noncomputable def rangeSaid (s : Int) (g : List Gat) (its : List Item) : Int × Int × Int := if (caseErr s g its).2.2 = 0 then ((wideOf s g its).1, (wideOf s g its).2, 0) else (0, 0, (caseErr s g its).2.2)
theorem c_Range_ok {s : Int} {g : List Gat} {its : List Item} : P_c_Range s g its = some (rangeSaid s g its) := by
 unfold P_c_Range rangeSaid;rw [open_ok]
 by_cases e : (caseErr s g its).2.2 = 0
 ·rw [openRes_ok e, if_pos e];simp only [andx]
  have hg : (GSo true encL (lvs s g)).l = lvs s g := rfl;rw [chk_pos trivial, hg, wide_ok (case_good e)]
 ·rw [openRes_err e, if_neg e];simp only [andx];rw [chk_pos e]
theorem wide_fold (f : List Int → Int) : ∀ (l : List (List Int)) (a b : Int), (l.foldl (fun x t => (min x.1 (f t), max x.2 (f t))) (a, b)).1 ≤ a ∧ b ≤ (l.foldl (fun x t => (min x.1 (f t), max x.2 (f t))) (a, b)).2 ∧ ∀ t ∈ l, (l.foldl (fun x t => (min x.1 (f t), max x.2 (f t))) (a, b)).1 ≤ f t ∧ f t ≤ (l.foldl (fun x t => (min x.1 (f t), max x.2 (f t))) (a, b)).2 := by
 intro l
 induction l with
 | nil => intro a b; exact ⟨Int.le_refl _, Int.le_refl _, fun t h => by cases h⟩
 | cons u l ih =>
  intro a b;rw [List.foldl_cons];obtain ⟨h1, h2, h3⟩ := ih (min a (f u)) (max b (f u));refine ⟨by simp only at h1 ⊢; omega, by simp only at h2 ⊢; omega, fun t ht => ?_⟩
  rcases List.mem_cons.1 ht with rfl | ht
  ·simp only at h1 h2 ⊢; omega
  ·exact h3 t ht
theorem wide_has {s : Int} {g : List Gat} {its : List Item} {t : List Int} (ht : t ∈ truthsOf its) : (wideOf s g its).1 ≤ manyOf s g t ∧ manyOf s g t ≤ (wideOf s g its).2 := by
 unfold wideOf;cases h : truthsOf its with
 | nil => rw [h] at ht; cases ht
 | cons u l =>
  simp only;obtain ⟨h1, h2, h3⟩ := wide_fold (manyOf s g) l (manyOf s g u) (manyOf s g u);rw [h] at ht
  rcases List.mem_cons.1 ht with rfl | ht
  ·exact ⟨h1, h2⟩
  ·exact h3 t ht
end Go.Am
end
section
namespace Go.Am
set_option linter.unusedVariables false
def cntIn (ls : List (List Int)) (x : Int) : Nat := ls.countP fun l => decide (x ∈ l)
theorem cntIn_snoc (ls : List (List Int)) (l : List Int) (x : Int) : cntIn (ls ++ [l]) x = cntIn ls x + if x ∈ l then 1 else 0 := by
 unfold cntIn;rw [List.countP_append, List.countP_singleton]
 by_cases h : x ∈ l <;> simp [h]
theorem cntIn_le (ls : List (List Int)) (x : Int) : cntIn ls x ≤ ls.length := List.countP_le_length
def sureTo (ls : List (List Int)) : Nat → List Int
 | 0 => []
 | k + 1 => if cntIn ls k = ls.length then sureTo ls k ++ [(k : Int)] else sureTo ls k
def mayTo (ls : List (List Int)) : Nat → List Int
 | 0 => []
 | k + 1 => if 0 < cntIn ls k then mayTo ls k ++ [(k : Int)] else mayTo ls k
theorem sureTo_len (ls : List (List Int)) : ∀ k, (sureTo ls k).length ≤ k := by
 intro k
 induction k with
 | zero => exact Nat.le_refl _
 | succ k ih => rw [sureTo]; split <;> (try rw [List.length_append, List.length_singleton]) <;> omega
theorem mayTo_len (ls : List (List Int)) : ∀ k, (mayTo ls k).length ≤ k := by
 intro k
 induction k with
 | zero => exact Nat.le_refl _
 | succ k ih => rw [mayTo]; split <;> (try rw [List.length_append, List.length_singleton]) <;> omega
theorem mem_sureTo {ls : List (List Int)} {x : Int} : ∀ k, x ∈ sureTo ls k ↔ 0 ≤ x ∧ x < k ∧ ∀ l ∈ ls, x ∈ l := by
 have hc : ∀ k : Nat, cntIn ls k = ls.length ↔ ∀ l ∈ ls, (k : Int) ∈ l := fun k => by
  unfold cntIn;rw [List.countP_eq_length];simp
 intro k
 induction k with
 | zero => simp only [sureTo, List.not_mem_nil, false_iff]; omega
 | succ k ih =>
  rw [sureTo];split <;> rename_i h
  ·rw [List.mem_append, List.mem_singleton, ih]
   constructor
   ·rintro (⟨h1, h2, h3⟩ | rfl)
    ·exact ⟨h1, by omega, h3⟩
    ·exact ⟨by omega, by omega, (hc k).1 h⟩
   ·rintro ⟨h1, h2, h3⟩
    by_cases e : x = k
    ·exact .inr e
    ·exact .inl ⟨h1, by omega, h3⟩
  ·rw [ih]
   constructor
   ·rintro ⟨h1, h2, h3⟩; exact ⟨h1, by omega, h3⟩
   ·rintro ⟨h1, h2, h3⟩;refine ⟨h1, ?_, h3⟩
    by_cases e : x = k
    ·subst e; exact absurd ((hc k).2 h3) h
    ·omega
theorem mem_mayTo {ls : List (List Int)} {x : Int} : ∀ k, x ∈ mayTo ls k ↔ 0 ≤ x ∧ x < k ∧ ∃ l ∈ ls, x ∈ l := by
 have hc : ∀ k : Nat, 0 < cntIn ls k ↔ ∃ l ∈ ls, (k : Int) ∈ l := fun k => by
  unfold cntIn;rw [List.countP_pos_iff];simp
 intro k
 induction k with
 | zero => simp only [mayTo, List.not_mem_nil, false_iff]; omega
 | succ k ih =>
  rw [mayTo];split <;> rename_i h
  ·rw [List.mem_append, List.mem_singleton, ih]
   constructor
   ·rintro (⟨h1, h2, h3⟩ | rfl)
    ·exact ⟨h1, by omega, h3⟩
    ·exact ⟨by omega, by omega, (hc k).1 h⟩
   ·rintro ⟨h1, h2, h3⟩
    by_cases e : x = k
    ·exact .inr e
    ·exact .inl ⟨h1, by omega, h3⟩
  ·rw [ih]
   constructor
   ·rintro ⟨h1, h2, h3⟩; exact ⟨h1, by omega, h3⟩
   ·rintro ⟨h1, h2, h3⟩;refine ⟨h1, ?_, h3⟩
    by_cases e : x = k
    ·subst e; exact absurd ((hc k).2 h3) h
    ·omega
def marr (N : Nat) (f : Nat → Int) : List Int := (List.range N).map f
theorem marr_get {N : Nat} {f : Nat → Int} {k : Nat} (h : k < N) : (marr N f)[k]? = some (f k) := by
 unfold marr; rw [List.getElem?_map, List.getElem?_range h]; rfl
theorem marr_len {N : Nat} {f : Nat → Int} : (marr N f).length = N := by unfold marr; simp
theorem marr_set {N : Nat} {f : Nat → Int} {k : Nat} {v : Int} : (marr N f).set k v = marr N fun n => if n = k then v else f n := by
 apply List.ext_getElem?;intro i;rw [List.getElem?_set, marr_len]
 by_cases hi : i < N
 ·rw [marr_get hi]
  by_cases e : k = i
  ·subst e;simp [hi, marr_get hi]
  ·rw [if_neg e, marr_get hi, if_neg (fun h => e h.symm)]
 ·rw [List.getElem?_eq_none (l := marr N f) (by rw [marr_len]; omega), List.getElem?_eq_none (l := marr N fun n => if n = k then v else f n) (by rw [marr_len]; omega)];split
  ·rw [if_neg (by omega)]
  ·rfl
theorem marr_congr {N : Nat} {f g : Nat → Int} (h : ∀ n, n < N → f n = g n) : marr N f = marr N g := by
 unfold marr;exact List.map_congr_left fun n hn => h n (List.mem_range.1 hn)
theorem add_ok {N : Nat} {ls : List (List Int)} {l : List Int} {times : Int} (hs : l.Pairwise (· < ·)) (hr : ∀ x ∈ l, 0 ≤ x ∧ x < N) (hN : N ≤ 1000000) (hl : l.length ≤ 1000000) (hls : ls.length ≤ 1000000) :
  iter (P_c_Lost_L3 times l) (0, marr N fun n => cntIn ls n) = some (Stp.ag (times + 1, marr N fun n => cntIn (ls ++ [l]) n)) := by
 refine Ok.get ?_;refine Ok.count (fun s => s.1) l.length (fun k (s : Int × List Int) => s.2 = marr N fun n => cntIn ls n + if (n : Int) ∈ l.take k then 1 else 0) rfl ?_ ?_ ?_
 ·exact marr_congr fun n hn => by simp
 ·rintro k ⟨x, many⟩ hk hx hm;simp only at hx hm;subst hx hm;unfold P_c_Lost_L3
  have ha : l[k]? = some l[k] := List.getElem?_eq_getElem hk
  have har := hr l[k] (List.getElem_mem hk)
  have hnot : l[k] ∉ l.take k := fun hm => by
   obtain ⟨j, hj, e⟩ := List.mem_iff_getElem.1 hm;rw [List.length_take] at hj;rw [List.getElem_take] at e
   have := (List.pairwise_iff_getElem.1 hs) j k (by omega) hk (by omega);omega
  generalize l[k] = a at ha har hnot
  have hcl := cntIn_le ls a
  have hget : (marr N fun n => ((cntIn ls n : Nat) : Int) + if (n : Int) ∈ l.take k then 1 else 0)[a.toNat]? = some (cntIn ls a : Int) := by
   rw [marr_get (by omega)];rw [Int.toNat_of_nonneg har.1, if_neg hnot, Int.add_zero]
  refine .ifp (by omega) (.el (by omega) fun a' ha' => ?_)
  have ha' := get_of ha' rfl;rw [ha] at ha';cases ha';refine .el (by rw [marr_len]; omega) fun m hm => ?_
  rw [hget] at hm;cases hm;refine .chk (i64_small (by omega)) (.el (by rw [marr_len]; omega) fun m hm => .chk (i64_small (by omega)) (.some ⟨rfl, ?_⟩))
  show List.set _ _ _ = _;rw [marr_set];refine marr_congr fun n hn => ?_
  rw [take_snoc ha]
  by_cases e : n = a.toNat
  ·subst e;rw [if_pos rfl, if_pos (List.mem_append.2 (.inr (by rw [Int.toNat_of_nonneg har.1]; exact List.mem_singleton_self _))), Int.toNat_of_nonneg har.1]
  ·rw [if_neg e]
   have hne : (n : Int) ≠ a := fun h => e (by omega)
   by_cases hm : (n : Int) ∈ l.take k
   ·rw [if_pos hm, if_pos (List.mem_append.2 (.inl hm))]
   ·rw [if_neg hm, if_neg (fun h => (List.mem_append.1 h).elim hm (fun h => hne (List.mem_singleton.1 h)))]
 ·rintro ⟨x, many⟩ hx hm;simp only at hx hm;unfold P_c_Lost_L3;refine .ifn (by omega) (.some ?_)
  show Stp.ag _ = _;rw [hm, List.take_length]
  congr 2
  refine marr_congr fun n hn => ?_
  rw [cntIn_snoc];split <;> rfl
theorem tell_ok {N : Nat} {ls : List (List Int)} (hN : N ≤ 1000000) : iter (P_c_Lost_L4 ls.length (marr N fun n => cntIn ls n)) (0, [], []) = some (sureTo ls N, mayTo ls N) := by
 refine Ok.get ?_;refine Ok.count (fun s => s.1) N (fun k (s : Int × List Int × List Int) => s.2 = (sureTo ls k, mayTo ls k)) rfl rfl ?_ ?_
 ·rintro k ⟨x, su, ma⟩ hk hx hq;simp only at hx hq;subst hx;cases hq
  have h1 := sureTo_len ls k
  have h2 := mayTo_len ls k;unfold P_c_Lost_L4;refine .ifp (by rw [marr_len]; omega) (Ok.andx (P := fun x => x = (sureTo ls (k + 1), mayTo ls (k + 1))) ?_ ?_)
  ·refine .el (by rw [marr_len]; omega) fun a ha => ?_
   have ha := get_of ha rfl;rw [marr_get hk] at ha;cases ha;refine Ok.andx (P := fun x => x = sureTo ls (k + 1)) ?_ ?_
   ·rw [sureTo];refine .ite (fun h => .chk (by simp; omega) (.some ?_)) (fun h => .some ?_)
    ·show _ = _; rw [if_pos (by omega)]
    ·show _ = _; rw [if_neg (by omega)]
   ·rintro x rfl;rw [mayTo];refine .ite (fun h => .chk (by simp; omega) (.some ?_)) (fun h => .some ?_)
    ·show _ = _; rw [if_pos (by omega)]
    ·show _ = _; rw [if_neg (by omega)]
  ·rintro x rfl;exact .chk (i64_small (by omega)) (.some ⟨rfl, rfl⟩)
 ·rintro ⟨x, su, ma⟩ hx hq;simp only at hx hq;unfold P_c_Lost_L4;exact .ifn (by rw [marr_len]; omega) (.some hq)
noncomputable def toldSaid (ask : List Int → List Int) (s : Int) (g : List Gat) (its : List Item) : List Int × List Int × Int :=
 if (caseErr s g its).2.2 = 0 then (sureTo ((truthsOf its).map ask) (lvs s g).length, mayTo ((truthsOf its).map ask) (lvs s g).length, 0) else ([], [], (caseErr s g its).2.2)
theorem truths_le {s : Int} {g : List Gat} {its : List Item} (h : GoodCase s g its) : (truthsOf its).length ≤ 64 := by
 have := h.wid;rw [← comps_len its []] at this;exact this
theorem told_fold {N : Nat} {ask : List Int → List Int} {body : Int × List Int → List Int → Option (Stp (Int × List Int) (Int × List Int))} {ts : List (List Int)} (hN : N ≤ 1000000) (hts : ts.length ≤ 1000)
  (hs : ∀ t ∈ ts, (ask t).Pairwise (· < ·) ∧ (∀ x ∈ ask t, 0 ≤ x ∧ x < N) ∧ (ask t).length ≤ 1000000)
  (hb : ∀ times many t, t ∈ ts → 0 ≤ times ∧ times ≤ 1000000 → body (times, many) t = iter (P_c_Lost_L3 times (ask t)) (0, many)) :
  foldx body ts (0, marr N fun _ => 0) = some (.nx ((ts.length : Int), marr N fun n => cntIn (ts.map ask) n)) := by
 refine Ok.get ?_;refine Ok.foldx (fun vis (s : Int × List Int) => vis.length ≤ 1000 ∧ s = ((vis.length : Int), marr N fun n => cntIn (vis.map ask) n)) (vis := []) ⟨by simp, rfl⟩ ?_ ?_
 ·rintro vis t ⟨times, many⟩ ht ⟨hv, hq⟩ hpre;cases hq
  have hvl : (vis ++ [t]).length ≤ ts.length := by have := hpre.length_le; simpa using this
  obtain ⟨h1, h2, h3⟩ := hs t ht;rw [hb _ _ t ht (by omega), add_ok h1 h2 hN h3 (by rw [List.length_map]; omega)];refine .some ⟨by omega, ?_⟩;rw [List.map_append, List.length_append];rfl
 ·rintro s ⟨hv, hq⟩;rw [hq];rfl
theorem lost_sorted' {n : Nat} {t : List Int} : (lostOf n t).Pairwise (· < ·) ∧ (∀ x ∈ lostOf n t, 0 ≤ x ∧ x < n) := ⟨lostOf_sorted n t, fun x hx => by have := mem_lostOf.1 hx; omega⟩
theorem c_Lost_ok {s : Int} {g : List Gat} {its : List Item} : P_c_Lost s g its = some (toldSaid (lostOf (lvs s g).length) s g its) := by
 unfold P_c_Lost toldSaid;rw [open_ok]
 by_cases e : (caseErr s g its).2.2 = 0
 ·rw [openRes_ok e, if_pos e]
  have h := case_good e
  have hnl := h.nl
  have hil := h.il
  have hg : (GSo true encL (lvs s g)).l = lvs s g := rfl;simp only [andx, hg];rw [chk_pos trivial, chk_pos (by omega), chk_pos ⟨hil, h.few⟩]
  have hz : List.replicate ((lvs s g).length : Int).toNat (0 : Int) = marr (lvs s g).length fun _ => 0 := by
   unfold marr; rw [Int.toNat_natCast, List.map_const', List.length_range]
  rw [hz, told_fold (ask := lostOf (lvs s g).length) (by omega) (by have := truths_le h; omega) (fun t ht => ⟨lostOf_sorted _ _, lost_sorted'.2, by have := lostOf_len (lvs s g).length t; omega⟩) (fun times many t ht hti => ?_)]
  ·simp only [seqx]
   have := tell_ok (N := (lvs s g).length) (ls := (truthsOf its).map (lostOf (lvs s g).length)) (by omega);rw [List.length_map] at this;rw [this]
  ·unfold P_c_Lost_L1;simp only;rw [chk_pos (i64_small (by omega))]
   have := lost_ok (s := s) (g := g) (its := its) (lv := lvs s g) (mt := matesOf s g) (t := t) (by have := (truths_in h t ht).1; omega) (by omega);unfold P_c_lost at this
   have h2 : (andx (P_c_there s g its (GSo true encL (lvs s g)).l (matesOf s g) t) fun y9 => andx (iter (P_c_Lost_L2 (GSo true encL (lvs s g)) y9) (0, [])) fun l => some l) = some (lostOf (lvs s g).length t) := this;rw [h2];rfl
 ·rw [openRes_err e, if_neg e];simp only [andx];rw [chk_pos e]
end Go.Am
end
section
namespace Go.Am
set_option linter.unusedVariables false
abbrev okCase (s : Int) (g : List Gat) (its : List Item) : Prop := (caseErr s g its).2.2 = 0
theorem valid_ok {s : Int} {g : List Gat} {its : List Item} : P_l_valid s g its = some (decide (okCase s g its)) := by
 unfold P_l_valid;rw [r4_Check_ok];rfl
theorem part_ok {a b : List Int} (ha : a.length ≤ 1000000) (hb : b.length ≤ 1000000) (h : ∀ x ∈ a, x ∈ b) : P_l_part a b = some true := by
 refine Ok.get ?_;unfold P_l_part;refine Ok.seqx (Ok.count (fun s => s) a.length (fun k s => True) rfl trivial ?_ ?_)
 ·rintro k i hk hx _;subst hx;unfold P_l_part_L1;refine .ifp (by omega) (.el (by omega) fun x hx => ?_)
  have hx := get_of hx rfl;refine .andx' (has_ok hb) (.ifp (decide_eq_true (h x (List.mem_of_getElem? hx))) (.chk (i64_small (by omega)) (.some ⟨rfl, trivial⟩)))
 ·rintro i hx _;unfold P_l_part_L1;exact .ifn (by omega) (.some (Ok.some rfl))
end Go.Am
end
section
namespace Go.Am
set_option linter.unusedVariables false
theorem mem_comps : ∀ (l : List Item) (p t : List Int), t ∈ comps p l ↔ ∃ u, t = p ++ u ∧ u.length = l.length ∧ ∀ (i : Nat) (x : Item), l[i]? = some x → ∃ c ∈ chs x, u[i]? = some c := by
 intro l
 induction l with
 | nil =>
  intro p t;rw [comps, List.mem_singleton]
  constructor
  ·rintro rfl; exact ⟨[], by simp, rfl, fun i x h => by cases h⟩
  ·rintro ⟨u, rfl, hu, _⟩;rw [List.eq_nil_of_length_eq_zero hu, List.append_nil]
 | cons x l ih =>
  intro p t;rw [comps, List.mem_flatMap]
  constructor
  ·rintro ⟨c, hc, ht⟩;obtain ⟨u, rfl, hu, h⟩ := (ih _ _).1 ht;refine ⟨c :: u, by simp, by simp [hu], fun i y hy => ?_⟩;cases i with
   | zero => cases hy; exact ⟨c, hc, rfl⟩
   | succ i => exact h i y hy
  ·rintro ⟨u, rfl, hu, h⟩;cases u with
   | nil => cases hu
   | cons c u =>
    obtain ⟨c', hc', e⟩ := h 0 x rfl;cases e;exact ⟨c, hc', (ih _ _).2 ⟨u, by simp, by simpa using hu, fun i y hy => h (i + 1) y hy⟩⟩
theorem mem_truths {l : List Item} {t : List Int} : t ∈ truthsOf l ↔ t.length = l.length ∧ ∀ (i : Nat) (x : Item), l[i]? = some x → ∃ c ∈ chs x, t[i]? = some c := by
 unfold truthsOf;rw [mem_comps]
 constructor
 ·rintro ⟨u, rfl, h1, h2⟩; exact ⟨h1, h2⟩
 ·rintro ⟨h1, h2⟩; exact ⟨t, rfl, h1, h2⟩
theorem truths_sub {l l' : List Item} (hl : l.length = l'.length) (h : ∀ (i : Nat) (x y : Item), l[i]? = some x → l'[i]? = some y → ∀ c ∈ chs x, c ∈ chs y) : ∀ t ∈ truthsOf l, t ∈ truthsOf l' := by
 intro t ht;obtain ⟨h1, h2⟩ := mem_truths.1 ht;refine mem_truths.2 ⟨by omega, fun i y hy => ?_⟩
 have hlt := (List.getElem?_eq_some_iff.1 hy).1;obtain ⟨x, hx⟩ : ∃ x, l[i]? = some x := ⟨_, List.getElem?_eq_getElem (by omega)⟩;obtain ⟨c, hc, e⟩ := h2 i x hx;exact ⟨c, h i x y hx hy c hc, e⟩
theorem fold_in (f : List Int → Int) : ∀ (l : List (List Int)) (a b : Int), ((l.foldl (fun x t => (min x.1 (f t), max x.2 (f t))) (a, b)).1 = a ∨ ∃ t ∈ l, (l.foldl (fun x t => (min x.1 (f t), max x.2 (f t))) (a, b)).1 = f t) ∧ ((l.foldl (fun x t => (min x.1 (f t), max x.2 (f t))) (a, b)).2 = b ∨ ∃ t ∈ l, (l.foldl (fun x t => (min x.1 (f t), max x.2 (f t))) (a, b)).2 = f t) := by
 intro l
 induction l with
 | nil => intro a b; exact ⟨.inl rfl, .inl rfl⟩
 | cons u l ih =>
  intro a b;rw [List.foldl_cons];obtain ⟨h1, h2⟩ := ih (min a (f u)) (max b (f u))
  constructor
  ·rcases h1 with h1 | ⟨t, ht, h1⟩
   ·by_cases hc : a ≤ f u
    ·exact .inl (h1.trans (by omega))
    ·exact .inr ⟨u, List.mem_cons_self, h1.trans (by omega)⟩
   ·exact .inr ⟨t, List.mem_cons_of_mem _ ht, h1⟩
  ·rcases h2 with h2 | ⟨t, ht, h2⟩
   ·by_cases hc : f u ≤ b
    ·exact .inl (h2.trans (by omega))
    ·exact .inr ⟨u, List.mem_cons_self, h2.trans (by omega)⟩
   ·exact .inr ⟨t, List.mem_cons_of_mem _ ht, h2⟩
theorem wide_at {s : Int} {g : List Gat} {its : List Item} (hf : ∀ x ∈ its, x.could.l.length ≤ 4) : (∃ t ∈ truthsOf its, (wideOf s g its).1 = manyOf s g t) ∧ ∃ t ∈ truthsOf its, (wideOf s g its).2 = manyOf s g t := by
 obtain ⟨u, l, h⟩ := truths_pos hf
 have e : wideOf s g its = l.foldl (fun x t => (min x.1 (manyOf s g t), max x.2 (manyOf s g t))) (manyOf s g u, manyOf s g u) := by unfold wideOf; rw [h]
 rw [e, h];obtain ⟨h1, h2⟩ := fold_in (manyOf s g) l (manyOf s g u) (manyOf s g u)
 constructor
 ·rcases h1 with h1 | ⟨t, ht, h1⟩
  ·exact ⟨u, List.mem_cons_self, h1⟩
  ·exact ⟨t, List.mem_cons_of_mem _ ht, h1⟩
 ·rcases h2 with h2 | ⟨t, ht, h2⟩
  ·exact ⟨u, List.mem_cons_self, h2⟩
  ·exact ⟨t, List.mem_cons_of_mem _ ht, h2⟩
theorem wide_sub {s : Int} {g : List Gat} {l l' : List Item} (hf : ∀ x ∈ l, x.could.l.length ≤ 4) (h : ∀ t ∈ truthsOf l, t ∈ truthsOf l') : (wideOf s g l').1 ≤ (wideOf s g l).1 ∧ (wideOf s g l).2 ≤ (wideOf s g l').2 := by
 obtain ⟨⟨t, ht, e1⟩, u, hu, e2⟩ := wide_at (s := s) (g := g) hf
 have h1 := wide_has (s := s) (g := g) (h t ht)
 have h2 := wide_has (s := s) (g := g) (h u hu);omega
end Go.Am
end
section
namespace Go.Am
set_option linter.unusedVariables false
def couldTo (l : List Int) (n : Int) : Nat → List Int
 | 0 => []
 | k + 1 => if (k : Int) = n ∨ (k : Int) ∈ l then couldTo l n k ++ [(k : Int)] else couldTo l n k
theorem couldTo_len (l : List Int) (n : Int) : ∀ k, (couldTo l n k).length ≤ k := by
 intro k
 induction k with
 | zero => exact Nat.le_refl _
 | succ k ih =>
  rw [couldTo];split
  ·simp; omega
  ·omega
theorem mem_couldTo {l : List Int} {n : Int} : ∀ k x, x ∈ couldTo l n k ↔ ∃ j : Nat, x = j ∧ j < k ∧ (x = n ∨ x ∈ l) := by
 intro k
 induction k with
 | zero =>
  intro x
  constructor
  ·intro h; cases h
  ·rintro ⟨j, _, h, _⟩; omega
 | succ k ih =>
  intro x;rw [couldTo]
  by_cases hc : (k : Int) = n ∨ (k : Int) ∈ l
  ·rw [if_pos hc, List.mem_append, List.mem_singleton, ih]
   constructor
   ·rintro (⟨j, h1, h2, h3⟩ | rfl)
    ·exact ⟨j, h1, by omega, h3⟩
    ·exact ⟨k, rfl, by omega, hc⟩
   ·rintro ⟨j, h1, h2, h3⟩
    by_cases e : j = k
    ·subst e; exact .inr h1
    ·exact .inl ⟨j, h1, by omega, h3⟩
  ·rw [if_neg hc, ih]
   constructor
   ·rintro ⟨j, h1, h2, h3⟩;exact ⟨j, h1, by omega, h3⟩
   ·rintro ⟨j, h1, h2, h3⟩
    by_cases e : j = k
    ·subst e; subst h1; exact absurd h3 hc
    ·exact ⟨j, h1, by omega, h3⟩
theorem could_ok {s : Int} {g : List Gat} {its : List Item} {x0 x1 : UInt16} {i n : Nat} {it : Item} (hb : GoodBook s g) (hit : its[i]? = some it) (hl : it.could.l.length ≤ 4)
  (h0 : Int.tmod (x0.toNat : Int) (its.length : Int) = i) (h1 : Int.tmod (x1.toNat : Int) ((lvs s g).length : Int) = n) :
  iter (P_law_CopyDoubt_L1 s g its x0 x1 (lvs s g)) (0, []) = some (couldTo it.could.l n (lvs s g).length) := by
 have hlt := (List.getElem?_eq_some_iff.1 hit).1
 have hnl := hb.nl;refine Ok.get (Ok.count (fun s => s.1) (lvs s g).length (fun k (x : Int × List Int) => x.2 = couldTo it.could.l n k) rfl rfl ?_ ?_)
 ·rintro k ⟨j, l⟩ hk hx hq;simp only at hx hq;subst hx hq
  have hcl := couldTo_len it.could.l n k;unfold P_law_CopyDoubt_L1;refine .andx' (All1_ok hb) (.ifp (by omega) (Ok.andx (P := fun x => x = couldTo it.could.l n (k + 1)) ?_ ?_))
  ·refine Ok.andx (P := fun b : Bool => b = true ↔ ((k : Int) = n ∨ (k : Int) ∈ it.could.l)) ?_ ?_
   ·rw [h0, h1];refine .ite (fun h => .some (by simp [h])) (fun h => .el (by omega) fun a ha => ?_)
    have ha := get_of ha rfl;rw [hit] at ha;cases ha;exact .andx' (has_ok (by omega)) (.some (by simp [h]))
   ·rintro b hbi;rw [couldTo];refine .ite (fun h => .chk (by simp; omega) (.some ?_)) (fun h => .some ?_)
    ·rw [if_pos (hbi.1 h)]
    ·rw [if_neg (fun k => h (hbi.2 k))]
  ·rintro x rfl;exact .chk (i64_small (by omega)) (.some ⟨rfl, rfl⟩)
 ·rintro ⟨j, l⟩ hx hq;simp only at hx hq;unfold P_law_CopyDoubt_L1;exact .andx' (All1_ok hb) (.ifn (by omega) (.some hq))
theorem CopyDoubt_true (s : Int) (g : List Gat) (its : List Item) (x0 x1 : UInt16) : P_law_CopyDoubt s g its x0 x1 = some true := by
 refine Ok.get ?_;unfold P_law_CopyDoubt
 by_cases e : okCase s g its ∧ its.length ≠ 0 ∧ (lvs s g).length ≠ 0
 ·obtain ⟨e, e1, e2⟩ := e
  have h := case_good e
  have hb := h.book
  have hil := h.il
  have hnl := h.nl;refine Ok.seqx (.andx' (a := false) (Ok.get (.andx' valid_ok (.ifp (decide_eq_true e) (.ifn (by omega) (.andx' (All1_ok hb) (.some (decide_eq_false (by omega)))))))) (.ifn (by simp) (.some ?_)))
  show Ok _ _
  have hx0 : (x0.toNat : Int) < 65536 := by have := x0.toNat_lt; omega
  have hx1 : (x1.toNat : Int) < 65536 := by have := x1.toNat_lt; omega
  refine .chk (by omega) (.chk (by omega) (.chk (by omega) (.andx' (All1_ok hb) (.chk (by omega) ?_))))
  have hm0 : Int.tmod (x0.toNat : Int) (its.length : Int) = ((x0.toNat % its.length : Nat) : Int) := Int.ofNat_tmod _ _ |>.symm
  have hm1 : Int.tmod (x1.toNat : Int) ((lvs s g).length : Int) = ((x1.toNat % (lvs s g).length : Nat) : Int) := Int.ofNat_tmod _ _ |>.symm
  have hi : x0.toNat % its.length < its.length := Nat.mod_lt _ (by omega)
  have hn : x1.toNat % (lvs s g).length < (lvs s g).length := Nat.mod_lt _ (by omega);generalize x0.toNat % its.length = i at *;generalize x1.toNat % (lvs s g).length = n at *;obtain ⟨it, hit⟩ : ∃ it, its[i]? = some it := ⟨_, List.getElem?_eq_getElem hi⟩
  have hfew := h.few it (List.mem_of_getElem? hit)
  have hrng := h.rng it (List.mem_of_getElem? hit)
  have hel : ∀ {β : Type} {k : Item → Option β} {Q : β → Prop}, Ok (k it) Q → Ok (el its (Int.tmod (x0.toNat : Int) (its.length : Int)) k) Q := fun hk => .el (by rw [hm0]; omega) fun a ha => by
   have ha := get_of ha hm0;rw [hit] at ha;cases ha;exact hk
  refine Ok.seqx ?_
  by_cases hc : it.could.l.length = 0 ∨ (n : Int) ∈ it.could.l
  ·refine .andx' (a := true) (Ok.get (hel ?_)) (.ifp rfl (.some ?_))
   ·by_cases h0 : it.could.l.length = 0
    ·exact .ifp (by omega) (.some rfl)
    ·refine .ifn (by omega) (hel (.andx' (has_ok (by omega)) (.some ?_)));rw [hm1];exact decide_eq_true (hc.resolve_left h0)
   ·rfl
  ·have h0 : it.could.l.length ≠ 0 := fun h => hc (.inl h)
   have h1 : (n : Int) ∉ it.could.l := fun h => hc (.inr h)
   refine .andx' (a := false) (Ok.get (hel (.ifn (by omega) (hel (.andx' (has_ok (by omega)) (.some ?_)))))) (.ifn (by simp) (.some ?_))
   ·rw [hm1]; exact decide_eq_false h1
   show Ok _ _;refine .andx' (could_ok hb hit hfew hm0 hm1) ?_;generalize hcl : couldTo it.could.l n (lvs s g).length = cl;refine .chk (by simp; omega) (.el (by rw [hm0]; simp; omega) fun a ha => ?_);rw [hm0, List.nil_append, Int.toNat_natCast];generalize hd : its.set i (⟨GSo true encI cl⟩ : Item) = d;refine .andx' valid_ok (.ite (fun hv => ?_) (fun hv => .some rfl))
   have hv : okCase s g d := of_decide_eq_true hv
   have hgd := case_good hv
   have hr : rangeSaid s g its = ((wideOf s g its).1, (wideOf s g its).2, 0) := if_pos e
   have hr' : rangeSaid s g d = ((wideOf s g d).1, (wideOf s g d).2, 0) := if_pos hv
   have hL : toldSaid (lostOf (lvs s g).length) s g its = (sureTo ((truthsOf its).map (lostOf (lvs s g).length)) (lvs s g).length, mayTo ((truthsOf its).map (lostOf (lvs s g).length)) (lvs s g).length, 0) := if_pos e
   have hL' : toldSaid (lostOf (lvs s g).length) s g d = (sureTo ((truthsOf d).map (lostOf (lvs s g).length)) (lvs s g).length, mayTo ((truthsOf d).map (lostOf (lvs s g).length)) (lvs s g).length, 0) := if_pos hv
   have hS : ∀ ls, (sureTo ls (lvs s g).length).length ≤ 1000000 := fun ls => by have := sureTo_len ls (lvs s g).length; omega
   have hM : ∀ ls, (mayTo ls (lvs s g).length).length ≤ 1000000 := fun ls => by have := mayTo_len ls (lvs s g).length; omega
   have hsub : ∀ t ∈ truthsOf its, t ∈ truthsOf d := by
    refine truths_sub (by rw [← hd, List.length_set]) fun j x y hx hy c hcx => ?_
    rw [← hd, List.getElem?_set] at hy
    by_cases ej : i = j
    ·subst ej;rw [if_pos rfl, if_pos hi] at hy;cases hy;rw [hit] at hx;cases hx
     have hcm : c ∈ it.could.l := by
      unfold chs at hcx;rw [if_neg (fun z => h0 (by rw [z]; rfl))] at hcx;exact hcx
     have hcc : c ∈ cl := by
      rw [← hcl]
      have := hrng c hcm;exact (mem_couldTo _ _).2 ⟨c.toNat, by omega, by omega, .inr hcm⟩
     unfold chs
     have hne : (⟨GSo true encI cl⟩ : Item).could.l ≠ [] := fun z => by have z : cl = [] := z; rw [z] at hcc; cases hcc
     rw [if_neg hne];exact hcc
    ·rw [if_neg ej] at hy;rw [hx] at hy;cases hy;exact hcx
   have hw := wide_sub (s := s) (g := g) h.few hsub;refine .andx' (c_Range_ok.trans (congrArg some hr)) (.andx' (c_Range_ok.trans (congrArg some hr')) (.andx' (c_Lost_ok.trans (congrArg some hL)) (.andx' (c_Lost_ok.trans (congrArg some hL')) ?_)));refine .andx' (a := true) (Ok.get ?_) (.some rfl);refine .ifp rfl (.ifp rfl (.ifp rfl (.ifp rfl (.ifp hw.1 (.ifp hw.2 (.andx' (part_ok (hS _) (hS _) fun x hx => ?_) (.ifp rfl (.andx' (part_ok (hM _) (hM _) fun x hx => ?_) (.ifp rfl (.some rfl))))))))))
   ·obtain ⟨q1, q2, q3⟩ := (mem_sureTo _).1 hx;refine (mem_sureTo _).2 ⟨q1, q2, fun l hl => ?_⟩;obtain ⟨t, ht, rfl⟩ := List.mem_map.1 hl;exact q3 _ (List.mem_map_of_mem (hsub t ht))
   ·obtain ⟨q1, q2, l, hl, q3⟩ := (mem_mayTo _).1 hx;obtain ⟨t, ht, rfl⟩ := List.mem_map.1 hl;exact (mem_mayTo _).2 ⟨q1, q2, _, List.mem_map_of_mem (hsub t ht), q3⟩
 ·refine Ok.seqx (.andx' (a := true) (Ok.get (.andx' valid_ok ?_)) (.ifp rfl (.some ?_)))
  ·by_cases e0 : okCase s g its
   ·have h := case_good e0;refine .ifp (decide_eq_true e0) (.ite (fun h0 => .some rfl) (fun h0 => .andx' (All1_ok h.book) (.some (decide_eq_true ?_))))
    have : ¬ (lvs s g).length ≠ 0 := fun h1 => e ⟨e0, by omega, h1⟩
    omega
   ·exact .ifn (by simp [e0]) (.some rfl)
  ·rfl
end Go.Am
end
section

end
section
namespace Go.Am.Ythckcbfijdambaa
open Go.Am Go.RowKit
theorem copyDoubt_calls (w : World) (c_Book_Signed : Int) (c_Book_Gatherings : GS encG) (c_Items : GS encIt) (x_0 : UInt16) (x_1 : UInt16) (xs : List Value) (h : RelL (snapR w 0) [.agg [iv (c_Book_Signed), c_Book_Gatherings.v, c_Items.v], .agg [ivk .u16 ((x_0.toNat : Int)), ivk .u16 ((x_1.toNat : Int))]] xs) :
  Calls Go.Proofs.Try.prog 8 xs.toArray w fun e w' => e = .returned (.bool true) ∧ Below w.heap.size w w' :=
 ((w_law_CopyDoubt c_Book_Signed c_Book_Gatherings c_Items x_0 x_1 true (CopyDoubt_true _ _ _ _ _)).runsTo.calls (EL_good 6) w xs h).mono fun e w' ⟨x, he, hr, hb⟩ => ⟨by rw [he]; cases hr; rfl, hb⟩
end Go.Am.Ythckcbfijdambaa
namespace Go.Proofs.Ythckcbfijdambaa.copyDoubt
open Go.ChangeShapes Go.WideShapes Go.ChangeAt Go.RowKit
set_option linter.unusedVariables false
theorem own : ownKnob Try.prog.godebug = none := by kernel_rfl
theorem laid : laidOutB Try.prog = true := by kernel_rfl
set_option maxRecDepth 100000 in
theorem lifted (os : Os) (started : os.Started) (H : Type) (enc : TypeId × Value → H) :
  ReturnsInHanded {} Try.checked os 8 .any (Rows.copyDoubtSpec.pre6 enc Try.prog Try.f8 Rows.copyDoubtRow.domain false) (Rows.copyDoubtSpec.post enc Try.prog Try.f8 false true false false) := by
 refine returnsInHanded_of_change (C := Try.checked) own started (by kernel_rfl) Try.func8
  (ChangeSpec.witness6 (enc := enc) (C := Try.checked) false ⟨#[], #[.agg #[.int .i64 0, .slice none 0 0, .slice none 0 0], .agg #[.int .u16 0, .int .u16 0]], []⟩ 8 (by kernel_rfl) (by kernel_rfl) (by kernel_rfl) (by kernel_rfl)) ?_
 intro W base args ds gs before hval0 hW hcnd _
 have hW' := hW;obtain ⟨p, q, hA0, hV, rfl, hfz, hnd⟩ := hW
 have hA : DataW.TrodAll enc Try.prog W 0 (fun _ => true) true Try.f8.params.toList args.toList ds p := hA0
 have hval : ∀ (j : Nat) t v, Try.f8.params[j]? = some t → args[j]? = some v → Value.okWide Try.prog W .any base t v := hval0;rw [Try.params8] at hA hval;obtain ⟨v0, v1, d0, d1, p0, p1, rfl, rfl, rfl, h0, h1⟩ := trodAll_two hA;obtain ⟨rfl, rfl⟩ := trodVars_none hV;obtain ⟨x0, r0⟩ := Go.Am.Ythckcbfijdambaa.li_36.arg Try.underlying36 (hval 0 36 v0 rfl rfl) h0;obtain ⟨x1, r1⟩ := Go.Am.Ythckcbfijdambaa.li_62.argA Try.underlying62 (hval 1 62 v1 rfl rfl) h1
 clear hA0 hval0
 refine (Go.Am.Ythckcbfijdambaa.copyDoubt_calls W x0.book.signed x0.book.gs x0.items x1.1 x1.2 [v0, v1] (.cons r0 (.cons r1 (.nil _)))).mono fun e W' ⟨he, bel⟩ => ?_
 subst he
 have hlt : ∀ x ∈ p0 ++ p1, x.block < W.heap.size := fun x hx => hW'.lt x (by simpa using hx)
 have k0 := Below.trod laid (by kernel_rfl) (of_decide_eq_true (by kernel_rfl)) h0 bel fun x hx => hlt x (by simp [hx])
 have k1 := Below.trod laid (by kernel_rfl) (of_decide_eq_true (by kernel_rfl)) h1 bel fun x hx => hlt x (by simp [hx])
 exact ⟨_, rfl, _, _, _, [], _, [], hW', trodAll_mk1 (shut_bool Try.underlying4 _), trodAll_mk2 k0 k1, rfl, bel.frame _, fun h => by cases h⟩
theorem over : Rows.copyDoubtRow.holds Try.pinned (OpenSpec.ofChange Rows.copyDoubtSpec) :=
 OpenClaim.holds_of_wide 8 Try.f8 rfl rfl rfl rfl rfl rfl rfl ⟨rfl, rfl, rfl, rfl, rfl⟩ rfl rfl rfl rfl rfl (by kernel_rfl) Try.func8 (by kernel_rfl)
  (of_decide_eq_true (by kernel_rfl)) (by unfold Func.isWrapper; first | (rw [if_pos (by decide +kernel)]; kernel_rfl) | (rw [if_neg (by decide +kernel)]; exact ⟨rfl, rfl⟩))
  (fun os started H enc _ => lifted os started H enc)
theorem proved : Rows.CopyDoubtSaid := over
#print axioms proved
end Go.Proofs.Ythckcbfijdambaa.copyDoubt
end
