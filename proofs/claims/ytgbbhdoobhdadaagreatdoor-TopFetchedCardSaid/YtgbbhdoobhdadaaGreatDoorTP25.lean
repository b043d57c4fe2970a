/- Part 25. -/
import Derived.Test.YtgbbhdoobhdadaaGreatDoorTP24
import Derived.Test.YtgbbhdoobhdadaaGreatDoorTP23
section
namespace Go.Am
set_option linter.unusedVariables false
set_option linter.unusedSimpArgs false
theorem el_int {α β : Type} {l : List α} {x : Int} {a : α} {g : α → Option β} (h0 : 0 ≤ x) (ha : l[x.toNat]? = some a) : el l x g = g a := by
 unfold el;rw [if_pos h0, ha]
section
variable {cl : List Str} {sh : List qD} {bs books : List qA} {s : Int}
open Classical in
noncomputable def clrE (cl : List Str) (sh : List qD) (bs : List qA) (s : Int) : Int := if roomN cl sh bs = 0 then (if btw 0 ((sh.length : Int) - 1) s then (if Rises bs then 0 else 2) else 4) else roomN cl sh bs
def ClearIs (cl : List Str) (sh : List qD) (bs : List qA) (s : Int) (r : List Int × Int × Int) : Prop :=
 (clrE cl sh bs s ≠ 0 ∧ r = ([], 0, clrE cl sh bs s)) ∨ (clrE cl sh bs s = 0 ∧ (∀ l, RiseIn bs.length sh.length l → costF sh bs (-1) s l = none) ∧ r = ([], 0, 9)) ∨
 (clrE cl sh bs s = 0 ∧ ∃ l n, FewB sh bs (-1) s l n ∧ r = (l, n, 0))
theorem ClearIs.unique {r r' : List Int × Int × Int} (h : ClearIs cl sh bs s r) (h' : ClearIs cl sh bs s r') : r = r' := by
  rcases h with ⟨a1, a2⟩ | ⟨a1, a3, a4⟩ | ⟨a1, l, n, a3, a4⟩ <;> rcases h' with ⟨b1, b2⟩ | ⟨b1, b3, b4⟩ | ⟨b1, l', n', b3, b4⟩ <;>
    first
    | (exfalso; omega)
    | (rw [a2, b2]; done)
    | (rw [a4, b4]; done)
    | skip
  · exact (few_none b3 a3).elim
  · exact (few_none a3 b3).elim
  · obtain ⟨e1, e2⟩ := a3.unique b3
    rw [a4, b4, e1, e2]
open Classical in
theorem clrE_zero (h : clrE cl sh bs s = 0) : Fine cl sh bs ∧ (0 ≤ s ∧ s ≤ (sh.length : Int) - 1) ∧ Rises bs := by
 unfold clrE at h
 by_cases h0 : roomN cl sh bs = 0
 ·rw [if_pos h0] at h
  by_cases h1 : btw 0 ((sh.length : Int) - 1) s
  ·rw [if_pos h1] at h
   by_cases h2 : Rises bs
   ·exact ⟨roomN_zero.1 h0, h1, h2⟩
   ·rw [if_neg h2] at h; cases h
  ·rw [if_neg h1] at h; cases h
 ·rw [if_neg h0] at h; exact absurd h h0
def cfB (bs : List qA) (x y : Int) : Int := match bs[x.toNat]?, bs[y.toNat]? with
 | some a, some b => cmpM a.qL a.qM a.qN b.qL b.qM b.qN
 | _, _ => 0
theorem at_some {x : Int} (h : 0 ≤ x ∧ x < bs.length) : ∃ a, bs[x.toNat]? = some a := get_some (by omega)
def ordB (bs : List qA) : List Int := sortC (cfB bs) (upto 0 bs.length)
theorem ordB_perm : (ordB bs).Perm (upto 0 bs.length) := sortC_perm _ _
theorem ordB_len : (ordB bs).length = bs.length := by rw [ordB_perm.length_eq, upto_len]; omega
theorem mem_ordB {x : Int} : x ∈ ordB bs ↔ 0 ≤ x ∧ x < bs.length := ordB_perm.mem_iff.trans mem_upto
def takenB (bs : List qA) (l : List Int) : List qA := l.filterMap fun i => bs[i.toNat]?
theorem takenB_len : ∀ {l : List Int}, (∀ x ∈ l, 0 ≤ x ∧ x < bs.length) → (takenB bs l).length = l.length
 | [], _ => rfl
 | i :: r, h => by
  obtain ⟨a, ha⟩ := at_some (h i (by simp))
  have ih := takenB_len (l := r) fun x hx => h x (by simp [hx])
  unfold takenB at ih ⊢;simp [ha, ih]
end
end Go.Am
end
section
namespace Go.Am
set_option linter.unusedVariables false
set_option linter.unusedSimpArgs false
section
variable {cl : List Str} {sh : List qD} {bs books : List qA} {s : Int}
theorem pair_at {R : Int → Int → Prop} {l : List Int} {i j : Nat} {x y : Int} (h : l.Pairwise R) (hij : i < j) (hx : l[i]? = some x) (hy : l[j]? = some y) : R x y := by
 obtain ⟨h1, e1⟩ := List.getElem?_eq_some_iff.1 hx;obtain ⟨h2, e2⟩ := List.getElem?_eq_some_iff.1 hy;rw [← e1, ← e2];exact List.pairwise_iff_getElem.1 h i j h1 h2 hij
theorem mem_take_at {l : List Int} {k : Nat} {x : Int} (h : x ∈ l.take k) : ∃ j, j < k ∧ l[j]? = some x := by
 obtain ⟨j, hj⟩ := List.getElem?_of_mem h
 have hj' := (List.getElem?_eq_some_iff.1 hj).1;rw [List.length_take] at hj';exact ⟨j, by omega, by rw [List.getElem?_take_of_lt (by omega)] at hj; exact hj⟩
def ArrIs (cl : List Str) (sh : List qD) (bs : List qA) (r : List Int × List Int × Int × Int) : Prop :=
 (roomN cl sh bs ≠ 0 ∧ r = ([], [], 0, roomN cl sh bs)) ∨ (Fine cl sh bs ∧ (∀ l, RiseIn bs.length sh.length l → costF sh (takenB bs (ordB bs)) (-1) (-1) l = none) ∧ r = ([], [], 0, 9)) ∨
 (Fine cl sh bs ∧ ∃ l n, FewB sh (takenB bs (ordB bs)) (-1) (-1) l n ∧ r = (ordB bs, l, n, 0))
theorem taken_ord_len : (takenB bs (ordB bs)).length = bs.length := by rw [takenB_len fun x hx => mem_ordB.1 hx, ordB_len]
theorem ArrIs.unique {r r' : List Int × List Int × Int × Int} (h : ArrIs cl sh bs r) (h' : ArrIs cl sh bs r') : r = r' := by
  have hl := taken_ord_len (bs := bs)
  rcases h with ⟨a1, a2⟩ | ⟨a1, a3, a4⟩ | ⟨a1, l, n, a3, a4⟩ <;> rcases h' with ⟨b1, b2⟩ | ⟨b1, b3, b4⟩ | ⟨b1, l', n', b3, b4⟩ <;>
    first
    | (exact absurd (roomN_zero.2 a1) b1)
    | (exact absurd (roomN_zero.2 b1) a1)
    | (rw [a2, b2]; done)
    | (rw [a4, b4]; done)
    | skip
  · exact (few_none b3 (by rw [hl]; exact a3)).elim
  · exact (few_none a3 (by rw [hl]; exact b3)).elim
  · obtain ⟨e1, e2⟩ := a3.unique b3
    rw [a4, b4, e1, e2]
end
end Go.Am
end
section
namespace Go.Am
set_option linter.unusedVariables false
set_option linter.unusedSimpArgs false
section
variable {cl : List Str} {sh : List qD} {bs books : List qA} {s : Int}
theorem ArrIs.len {r : List Int × List Int × Int × Int} (h : ArrIs cl sh bs r) : r.1.length ≤ 10 ∧ r.2.1.length ≤ 10 := by
 rcases h with ⟨_, rfl⟩ | ⟨_, _, rfl⟩ | ⟨hF, l, n, h, rfl⟩
 ·exact ⟨Nat.zero_le _, Nat.zero_le _⟩
 ·exact ⟨Nat.zero_le _, Nat.zero_le _⟩
 ·have h1 := ordB_len (bs := bs)
  have h2 := h.rise.1
  have h3 := taken_ord_len (bs := bs)
  have h4 := hF.bs1;exact ⟨by simp only; omega, by simp only; omega⟩
theorem ClearIs.len {r : List Int × Int × Int} (h : ClearIs cl sh bs s r) : r.1.length ≤ 10 := by
 rcases h with ⟨_, rfl⟩ | ⟨_, _, rfl⟩ | ⟨hz, l, n, h, rfl⟩
 ·exact Nat.zero_le _
 ·exact Nat.zero_le _
 ·have h2 := h.rise.1
  have h4 := (clrE_zero hz).1.bs1;simp only;omega
theorem PutIs.len {b : qA} {r : Int × Int × List Int × Int} (h : PutIs cl sh bs b r) : r.2.2.1.length ≤ 11 := by
 rcases h with ⟨_, rfl⟩ | ⟨_, _, rfl⟩ | ⟨_, _, _, rfl⟩ | ⟨hz, _, l, n, h, rfl⟩
 ·exact Nat.zero_le _
 ·exact Nat.zero_le _
 ·exact Nat.zero_le _
 ·have h2 := h.rise.1
  have h3 := inserted_len (bs := bs) (b := b)
  have h4 := (furE_zero hz).1.bs1;simp only;omega
end
end Go.Am
end
section
namespace Go.Am
set_option linter.unusedVariables false
set_option linter.unusedSimpArgs false
section
variable {cl : List Str} {sh : List qD} {bs books : List qA} {b : qA}
def ownAt (books : List qA) (at_ : Nat) (s : Int) : List Int := (books.map (·.shelf)).set at_ s
open Classical in
noncomputable def fitSel (sh : List qD) (bs : List qA) (b : qA) : List Int := (upto 0 sh.length).filter fun s => decide (Arr sh (insertedB bs b) (ownAt (insertedB bs b) (place bs b) s))
def FitsIs (cl : List Str) (sh : List qD) (bs : List qA) (b : qA) (r : List Int × Int) : Prop :=
 (furE cl sh bs b ≠ 0 ∧ r = ([], furE cl sh bs b)) ∨ (furE cl sh bs b = 0 ∧ r = (fitSel sh bs b, 0))
theorem FitsIs.unique {r r' : List Int × Int} (h : FitsIs cl sh bs b r) (h' : FitsIs cl sh bs b r') : r = r' := by
 rcases h with ⟨a1, a2⟩ | ⟨a1, a2⟩ <;> rcases h' with ⟨b1, b2⟩ | ⟨b1, b2⟩
 ·rw [a2, b2]
 ·exact absurd b1 a1
 ·exact absurd a1 b1
 ·rw [a2, b2]
end
end Go.Am
end
section
namespace Go.Am
set_option linter.unusedVariables false
set_option linter.unusedSimpArgs false
def listsL (below : Int) : Nat → Int → List (List Int)
 | 0, _ => [[]]
 | k + 1, f => (upto f (below - k)).flatMap fun first => (listsL below k (first + 1)).map (first :: ·)
def Inc (f below : Int) (l : List Int) : Prop := l.Pairwise (· < ·) ∧ ∀ x ∈ l, f ≤ x ∧ x < below
theorem inc_room {f below : Int} : ∀ {l : List Int}, Inc f below l → l ≠ [] → f + l.length ≤ below
 | [], _, h => absurd rfl h
 | a :: r, ⟨h1, h2⟩, _ => by
  obtain ⟨g1, g2⟩ := List.pairwise_cons.1 h1
  have ha := h2 a (by simp)
  by_cases hr : r = []
  ·subst hr;simp only [List.length_cons, List.length_nil];omega
  ·have := inc_room (f := a + 1) (below := below) (l := r) ⟨g2, fun x hx => ⟨by have := g1 x hx; omega, (h2 x (by simp [hx])).2⟩⟩ hr;simp only [List.length_cons];omega
end Go.Am
end
section
namespace Go.Am
set_option linter.unusedVariables false
set_option linter.unusedSimpArgs false
section
variable {cl : List Str} {sh : List qD} {bs books : List qA}
def keepB (p : Nat → Bool) : List qA → Nat → List qA
 | [], _ => []
 | b :: r, k => if p k then keepB p r (k + 1) else b :: keepB p r (k + 1)
def inL (l : List Int) (i : Nat) : Bool := decide ((i : Int) ∈ l)
structure AstIs (bs : List qA) (l : List Int) : Prop where
 inc : Inc 0 bs.length l
 ok : Rises (keepB (inL l) bs 0)
 least : ∀ l', Inc 0 bs.length l' → Rises (keepB (inL l') bs 0) → l.length ≤ l'.length ∧ (l'.length = l.length → lexB l' l = false)
theorem AstIs.unique {l l' : List Int} (h : AstIs bs l) (h' : AstIs bs l') : l = l' := by
 have h1 := h.least l' h'.inc h'.ok
 have h2 := h'.least l h.inc h.ok
 have e : l.length = l'.length := by omega
 exact lexB_tot l l' e (h2.2 e) (h1.2 e.symm)
theorem Inc.len {l : List Int} {n : Nat} (h : Inc 0 n l) : l.length ≤ n := by
 by_cases e : l = []
 ·subst e; exact Nat.zero_le _
 ·have := inc_room h e;omega
end
end Go.Am
end
section
namespace Go.Am
set_option linter.unusedVariables false
set_option linter.unusedSimpArgs false
section
variable {cl : List Str} {sh : List qD} {bs books : List qA}
end
end Go.Am
end
section
namespace Go.Am
set_option linter.unusedVariables false
set_option linter.unusedSimpArgs false
section
variable {cl : List Str} {sh : List qD} {bs books : List qA} {ls : List Int} {i : Nat} {a : qD}
theorem Left.unique {l l' : List Int} (h : Left sh bs l) (h' : Left sh bs l') : l = l' := by
 refine List.ext_getElem? fun j => ?_
 cases ha : sh[j]? with
 | none =>
  have := List.getElem?_eq_none_iff.1 ha;rw [List.getElem?_eq_none (by rw [h.1]; exact this), List.getElem?_eq_none (by rw [h'.1]; exact this)]
 | some a => rw [h.2 j a ha, h'.2 j a ha]
end
end Go.Am
end
section
namespace Go.Am
set_option linter.unusedVariables false
set_option linter.unusedSimpArgs false
section
variable {cl : List Str} {sh : List qD} {bs books : List qA}
end
end Go.Am
end
section
namespace Go.Am
set_option linter.unusedVariables false
set_option linter.unusedSimpArgs false
section
variable {cl : List Str} {sh : List qD} {bs books : List qA} {but clear : Int} {b : qA}
end
end Go.Am
end
section
namespace Go.Am
set_option linter.unusedVariables false
set_option linter.unusedSimpArgs false
section
variable {cl : List Str} {sh : List qD} {bs books : List qA} {but clear : Int} {b : qA}
end
end Go.Am
end
section
namespace Go.Am
set_option linter.unusedVariables false
set_option linter.unusedSimpArgs false
section
variable {cl : List Str} {sh : List qD} {bs books : List qA} {but clear : Int} {b : qA}
theorem at_upto {n k : Nat} (h : k < n) : (upto 0 n)[k]? = some (k : Int) := by
 unfold upto;rw [List.getElem?_map, List.getElem?_range (by omega)];simp
end
end Go.Am
end
section
namespace Go.Am
set_option linter.unusedVariables false
set_option linter.unusedSimpArgs false
structure Nar (a b : qA) : Prop where
 c : b.qL = a.qL
 n : b.qM = a.qM
 s : b.qN = a.qN
 y : b.heavy = a.heavy
 p : b.shelf = a.shelf
 w : 1 ≤ b.wide ∧ b.wide ≤ a.wide
 h : 1 ≤ b.high ∧ b.high ≤ a.high
inductive NarL : List qA → List qA → Prop
 | nil : NarL [] []
 | cons {a b r t} : Nar a b → NarL r t → NarL (a :: r) (b :: t)
namespace NarL
theorem len {x y : List qA} (h : NarL x y) : y.length = x.length := by
 induction h with
 | nil => rfl
 | cons _ _ ih => simp [ih]
theorem get {x y : List qA} (h : NarL x y) : ∀ {k : Nat} {a : qA}, x[k]? = some a → ∃ b, y[k]? = some b ∧ Nar a b := by
 induction h with
 | nil => intro k a ha; simp at ha
 | cons hn _ ih =>
  intro k a ha;cases k with
  | zero => simp at ha; subst ha; exact ⟨_, by simp, hn⟩
  | succ k => rw [List.getElem?_cons_succ] at ha ⊢; exact ih ha
theorem back {x y : List qA} (h : NarL x y) {k : Nat} {b : qA} (hb : y[k]? = some b) : ∃ a, x[k]? = some a ∧ Nar a b := by
 obtain ⟨a, ha⟩ := get_some (l := x) (k := k) (by rw [← h.len]; exact (List.getElem?_eq_some_iff.1 hb).1);obtain ⟨c, hc, hn⟩ := h.get ha;rw [hb] at hc;cases hc;exact ⟨a, ha, hn⟩
theorem take {x y : List qA} (h : NarL x y) : ∀ k, NarL (x.take k) (y.take k) := by
 induction h with
 | nil => intro k; simp; exact .nil
 | cons hn _ ih =>
  intro k;cases k with
  | zero => exact .nil
  | succ k => exact .cons hn (ih k)
theorem wideOn {x y : List qA} (h : NarL x y) (i : Int) : Am.wideOn i y ≤ Am.wideOn i x := by
 induction h with
 | nil => exact Int.le_refl _
 | cons hn _ ih =>
  unfold Am.wideOn;rw [hn.p]
  have := hn.w;split <;> omega
theorem lowOn {x y : List qA} (h : NarL x y) {i t : Int} (hl : Am.lowOn i t x) : Am.lowOn i t y := fun b hb hs => by
 obtain ⟨k, hk⟩ := List.getElem?_of_mem hb;obtain ⟨a, ha, hn⟩ := h.back hk
 have := hl a (List.mem_of_getElem? ha) (by rw [← hn.p]; exact hs)
 have := hn.h;omega
theorem withS {x y : List qA} (h : NarL x y) : ∀ ls : List Int, NarL (Am.withS x ls) (Am.withS y ls) := by
 induction h with
 | nil => intro ls; exact .nil
 | cons hn _ ih =>
  intro ls;cases ls with
  | nil => exact .nil
  | cons s ls => exact .cons ⟨hn.c, hn.n, hn.s, hn.y, rfl, hn.w, hn.h⟩ (ih ls)
theorem cfB {x y : List qA} (h : NarL x y) (i j : Int) : Am.cfB y i j = Am.cfB x i j := by
 unfold Am.cfB;cases ha : x[i.toNat]? with
 | none =>
  have := List.getElem?_eq_none_iff.1 ha;rw [List.getElem?_eq_none (by rw [h.len]; exact this)]
 | some a =>
  obtain ⟨b, hb, hn⟩ := h.get ha;rw [hb];cases hc : x[j.toNat]? with
  | none =>
   have := List.getElem?_eq_none_iff.1 hc;rw [List.getElem?_eq_none (by rw [h.len]; exact this)]
  | some c =>
   obtain ⟨d, hd, hm⟩ := h.get hc;rw [hd];simp only [hn.c, hn.n, hn.s, hm.c, hm.n, hm.s]
theorem ordB {x y : List qA} (h : NarL x y) : Am.ordB y = Am.ordB x := by
 unfold Am.ordB;rw [h.len, show Am.cfB y = Am.cfB x from funext fun i => funext fun j => h.cfB i j]
theorem moved {x y : List qA} (h : NarL x y) : ∀ (ls : List Int) (i : Nat) (but : Int), movedN y ls i but = movedN x ls i but := by
 induction h with
 | nil => intro ls i but; rfl
 | cons hn _ ih =>
  intro ls i but;cases ls with
  | nil => rfl
  | cons s ls => rw [movedN_cons, movedN_cons, ih, hn.p]
theorem fits {x y : List qA} (h : NarL x y) {i : Nat} {a : qD} (hf : Am.fits x i a) : Am.fits y i a := ⟨h.lowOn hf.1, Int.le_trans (h.wideOn i) hf.2⟩
end NarL
section
variable {cl : List Str} {sh sh' : List qD} {bs bs' books : List qA} {but clear : Int} {b : qA}
structure Wid (sh sh' : List qD) : Prop where
 len : sh'.length = sh.length
 back : ∀ (k : Nat) (a' : qD), sh'[k]? = some a' → ∃ a, sh[k]? = some a ∧ a'.away = a.away ∧ a'.climb = a.climb ∧ (a.wide ≤ a'.wide ∧ a'.wide ≤ 2000) ∧ (a.high ≤ a'.high ∧ a'.high ≤ 2000)
theorem Wid.fits {i : Nat} {a a' : qD} (h1 : a.wide ≤ a'.wide) (h2 : a.high ≤ a'.high) (hf : Am.fits bs i a) : Am.fits bs i a' := ⟨fun b hb hs => Int.le_trans (hf.1 b hb hs) h2, Int.le_trans hf.2 h1⟩
end
end Go.Am
end
section
namespace Go.Am
set_option linter.unusedVariables false
set_option linter.unusedSimpArgs false
def nextI (t : List Int) : Int := t.foldl (fun a x => max a (x + 1)) 0
theorem nextI_snoc (t : List Int) (n : Int) : nextI (t ++ [n]) = max (nextI t) (n + 1) := by unfold nextI; rw [List.foldl_append]; rfl
end Go.Am
end
section
namespace Go.Am
set_option linter.unusedVariables false
set_option linter.unusedSimpArgs false
structure PartAt (i : Nat) (t s : List Int) : Prop where
 tl : t.length = i
 sl : s.length ≤ i
 tr : ∀ x ∈ t, 0 ≤ x ∧ x < s.length
 el : ∀ (n : Nat) (x : Int), s[n]? = some x → (0 ≤ x ∧ x < 2 ^ i) ∧ ∀ j : Nat, x.toNat.testBit j = decide (t[j]? = some (n : Int))
theorem testBit_add {x i j : Nat} (h : x < 2 ^ i) : (x + 2 ^ i).testBit j = (x.testBit j || decide (j = i)) := by
 rw [Nat.add_comm]
 by_cases h1 : j < i
 ·rw [Nat.testBit_two_pow_add_gt h1, decide_eq_false (by omega), Bool.or_false]
 ·by_cases h2 : j = i
  ·subst h2;rw [Nat.testBit_two_pow_add_eq, Nat.testBit_lt_two_pow h, decide_eq_true rfl];rfl
  ·have e : 2 ^ (i + 1) ≤ 2 ^ j := Nat.pow_le_pow_right (by decide) (by omega)
   have e2 : 2 ^ (i + 1) = 2 ^ i * 2 := Nat.pow_succ 2 i
   have e3 : 2 ^ i ≤ 2 ^ j := Nat.pow_le_pow_right (by decide) (by omega);rw [Nat.testBit_lt_two_pow (by omega), Nat.testBit_lt_two_pow (by omega), decide_eq_false h2];rfl
theorem PartAt.ext {i n : Nat} {t s : List Int} (h : PartAt i t s) (hn : n ≤ s.length) {k : Nat} {x : Int} (hx : (extS s n)[k]? = some x) : (0 ≤ x ∧ x < 2 ^ i) ∧ ∀ j : Nat, x.toNat.testBit j = decide (t[j]? = some (k : Int)) := by
 unfold extS at hx;split at hx
 ·by_cases hk : k < s.length
  ·rw [List.getElem?_append_left hk] at hx;exact h.el k x hx
  ·rw [List.getElem?_append_right (by omega)] at hx
   have hk2 : k = s.length := by
    have := (List.getElem?_eq_some_iff.1 hx).1;simp at this;omega
   subst hk2;simp at hx;subst hx;refine ⟨⟨Int.le_refl _, pow_pos' i⟩, fun j => ?_⟩;rw [decide_eq_false fun hj => by have := (h.tr _ (List.mem_of_getElem? hj)).2; omega];simp
 ·exact h.el k x hx
theorem PartAt.next {i n : Nat} {t s : List Int} (h : PartAt i t s) (hn : n ≤ s.length) : PartAt (i + 1) (t ++ [(n : Int)]) (wkSet s n i) := by
 have htl := h.tl
 have hsl := h.sl
 have hel := extS_len hn;obtain ⟨y, hy, _, _⟩ := extS_at hn
 have hyr := h.ext hn hy
 have hp := pow_pos' i
 have e2 : (2 : Int) ^ (i + 1) = 2 ^ i * 2 := Int.pow_succ 2 i
 have hsge : s.length ≤ (extS s n).length := by
  unfold extS;split
  ·rw [List.length_append]; omega
  ·exact Nat.le_refl _
 rw [wkSet_of hy];refine ⟨by simp; omega, by rw [List.length_set]; omega, fun x hx => ?_, fun k x hx => ?_⟩
 ·rw [List.length_set]
  rcases List.mem_append.1 hx with hx | hx
  ·have := h.tr x hx;omega
  ·have := List.mem_singleton.1 hx;omega
 ·rw [List.getElem?_set] at hx
  have hget : ∀ j : Nat, (t ++ [(n : Int)])[j]? = some (k : Int) ↔ (t[j]? = some (k : Int) ∨ (j = i ∧ k = n)) := fun j => by
   by_cases hj : j < i
   ·rw [List.getElem?_append_left (by omega)];exact ⟨.inl, fun g => g.elim (fun g => g) fun g => by omega⟩
   ·rw [List.getElem?_append_right (by omega)]
    by_cases hji : j = i
    ·subst hji
     have e : j - t.length = 0 := by omega
     rw [e, List.getElem?_eq_none (show t.length ≤ j by omega)];simp;omega
    ·have e : j - t.length = j - t.length - 1 + 1 := by omega
     rw [List.getElem?_eq_none (show [(n : Int)].length ≤ j - t.length by simp; omega), List.getElem?_eq_none (show t.length ≤ j by omega)];simp;omega
  by_cases hkn : n = k
  ·subst hkn;rw [if_pos rfl, if_pos hel.1] at hx;cases hx;refine ⟨by omega, fun j => ?_⟩
   have hpn : ((2 ^ i : Nat) : Int) = (2 : Int) ^ i := by exact_mod_cast rfl
   have e : (y + 2 ^ i).toNat = y.toNat + 2 ^ i := by omega
   have hlt : y.toNat < 2 ^ i := by omega
   rw [e, testBit_add hlt, hyr.2 j]
   by_cases g1 : t[j]? = some (n : Int)
   ·rw [decide_eq_true g1, decide_eq_true ((hget j).2 (.inl g1))];rfl
   ·by_cases g2 : j = i
    ·rw [decide_eq_true g2, decide_eq_true ((hget j).2 (.inr ⟨g2, rfl⟩)), Bool.or_true]
    ·rw [decide_eq_false g1, decide_eq_false g2, decide_eq_false fun g => ((hget j).1 g).elim g1 fun g => g2 g.1];rfl
  ·rw [if_neg hkn] at hx
   have hr := h.ext hn hx;refine ⟨by omega, fun j => ?_⟩;rw [hr.2 j];refine decide_eq_decide.2 ⟨fun g => (hget j).2 (.inl g), fun g => ((hget j).1 g).elim (fun g => g) fun g => by omega⟩
theorem wk_part : ∀ (m i : Nat) (t s : List Int), PartAt i t s → ∀ p ∈ wk m i t s, PartAt (i + m) p.1 p.2
 | 0, i, t, s, h, p, hp => by
  have := List.mem_singleton.1 hp;subst this;exact h
 | m + 1, i, t, s, h, p, hp => by
  obtain ⟨n, hn, hp⟩ := List.mem_flatMap.1 (show p ∈ (List.range (s.length + 1)).flatMap _ from hp)
  have hn := List.mem_range.1 hn
  have := wk_part m (i + 1) _ _ (h.next (n := n) (by omega)) p hp
  rwa [show i + 1 + m = i + (m + 1) by omega] at this
theorem walks_part {many : Nat} {p : List Int × List Int} (h : p ∈ walksOf many) : PartAt many p.1 p.2 := by
 have := wk_part many 0 [] [] ⟨rfl, Nat.le_refl _, fun x h => (by cases h), fun n x h => by simp at h⟩ p h
 rwa [Nat.zero_add] at this
end Go.Am
end
section
namespace Go.Am
set_option linter.unusedVariables false
set_option linter.unusedSimpArgs false
def selK (bs : List qA) (books : List Int) (m : Nat → Bool) (k : Nat) : List qA := (List.range k).flatMap fun i => if m i then (match books[i]? with | some x => (match bs[x.toNat]? with | some b => [b] | none => []) | none => []) else []
theorem selK_step {bs : List qA} {books : List Int} {m : Nat → Bool} {k : Nat} {x : Int} {b : qA} (hx : books[k]? = some x) (hb : bs[x.toNat]? = some b) : selK bs books m (k + 1) = selK bs books m k ++ if m k then [b] else [] := by
 unfold selK;rw [List.range_succ, List.flatMap_append, List.flatMap_cons, List.flatMap_nil, List.append_nil, hx];simp only [hb]
theorem selK_mem {bs : List qA} {books : List Int} {m : Nat → Bool} {k : Nat} {b : qA} (h : b ∈ selK bs books m k) : b ∈ bs := by
 obtain ⟨i, _, hi⟩ := List.mem_flatMap.1 h;split at hi
 ·split at hi
  ·split at hi
   ·rename_i hb
    have := List.mem_singleton.1 hi;subst this;exact List.mem_of_getElem? hb
   ·cases hi
  ·cases hi
 ·cases hi
theorem selK_len {bs : List qA} {books : List Int} {m : Nat → Bool} (k : Nat) : (selK bs books m k).length ≤ k := by
 have := flat_le (f := fun i => if m i then (match books[i]? with | some x => (match bs[x.toNat]? with | some b => [b] | none => []) | none => []) else ([] : List qA)) (n := 1) (l := List.range k) fun i _ => by
  split
  ·split
   ·split <;> simp
   ·simp
  ·simp
 rw [List.length_range] at this;unfold selK;omega
def heavyS : List qA → Int
 | [] => 0
 | b :: r => b.heavy + heavyS r
theorem heavyS_append : ∀ x y : List qA, heavyS (x ++ y) = heavyS x + heavyS y
 | [], y => by simp [heavyS]
 | b :: r, y => by simp [heavyS, heavyS_append r y]; omega
def awOf (sh : List qD) (b : qA) : Int := match sh[b.shelf.toNat]? with | some a => a.away | none => 0
def awayS (sh : List qD) : List qA → Int
 | [] => 0
 | b :: r => max (awOf sh b) (awayS sh r)
theorem awayS_nonneg (sh : List qD) : ∀ l : List qA, 0 ≤ awayS sh l
 | [] => Int.le_refl _
 | b :: r => by have := awayS_nonneg sh r; unfold awayS; omega
theorem awayS_append (sh : List qD) : ∀ x y : List qA, awayS sh (x ++ y) = max (awayS sh x) (awayS sh y)
 | [], y => by have := awayS_nonneg sh y; simp [awayS]; omega
 | b :: r, y => by simp only [List.cons_append, awayS, awayS_append sh r y]; omega
def clOf (sh : List qD) (k : Nat) : Int := match sh[k]? with | some a => a.climb | none => 0
open Classical in
noncomputable def climbK (sh : List qD) (S : List qA) : Nat → Int
 | 0 => 0
 | k + 1 => climbK sh S k + (if ∃ b ∈ S, b.shelf = (k : Int) then clOf sh k else 0)
open Classical in
theorem climbK_succ (sh : List qD) (S : List qA) (k : Nat) : climbK sh S (k + 1) = climbK sh S k + (if ∃ b ∈ S, b.shelf = (k : Int) then clOf sh k else 0) := rfl
noncomputable def wayS (sh : List qD) (S : List qA) : Int := 2 * (awayS sh S + climbK sh S sh.length)
section
variable {cl : List Str} {sh : List qD} {bs : List qA} {books : List Int} {S : List qA}
theorem Fine.heavy (hF : Fine cl sh bs) {b : qA} (hb : b ∈ bs) : (1 ≤ b.heavy ∧ b.heavy ≤ 100) ∧ (0 ≤ b.shelf ∧ b.shelf < sh.length) := by
 obtain ⟨j, hj⟩ := List.getElem?_of_mem hb
 have h := bkErr_zero (bk_all hF.bs2 hj)
 have h1 := h.1;unfold bkRange btw at h1;exact ⟨by omega, hF.book hj⟩
theorem Fine.aw (hF : Fine cl sh bs) {j : Nat} {a : qD} (ha : sh[j]? = some a) : (0 ≤ a.away ∧ a.away ≤ 1000) ∧ (0 ≤ a.climb ∧ a.climb ≤ 1000) := by
 have := hF.shelf ha;unfold shOk btw at this;omega
theorem heavyS_bound (hF : Fine cl sh bs) : ∀ S : List qA, (∀ b ∈ S, b ∈ bs) → 0 ≤ heavyS S ∧ heavyS S ≤ 100 * S.length
 | [], _ => by simp [heavyS]
 | b :: r, h => by
  have h1 := (hF.heavy (h b (by simp))).1
  have h2 := heavyS_bound hF r fun c hc => h c (by simp [hc])
  simp only [heavyS, List.length_cons];omega
theorem awayS_bound (hF : Fine cl sh bs) : ∀ S : List qA, awayS sh S ≤ 1000
 | [] => by simp [awayS]
 | b :: r => by
  have h2 := awayS_bound hF r
  have h1 : awOf sh b ≤ 1000 := by
   unfold awOf;split
   ·rename_i a ha
    have := hF.aw ha;omega
   ·omega
  simp only [awayS];omega
theorem climbK_bound (hF : Fine cl sh bs) (S : List qA) : ∀ k : Nat, 0 ≤ climbK sh S k ∧ climbK sh S k ≤ 1000 * k
 | 0 => by simp [climbK]
 | k + 1 => by
  have h2 := climbK_bound hF S k
  have h1 : 0 ≤ clOf sh k ∧ clOf sh k ≤ 1000 := by
   unfold clOf;split
   ·rename_i a ha
    have := hF.aw ha;omega
   ·omega
  unfold climbK;split <;> omega
theorem wayS_bound (hF : Fine cl sh bs) (S : List qA) : 0 ≤ wayS sh S ∧ wayS sh S ≤ 10000 := by
 have h1 := awayS_bound hF S
 have h2 := climbK_bound hF S sh.length
 have h3 := awayS_nonneg sh S
 have := hF.sh1;unfold wayS;omega
theorem bit_and : ∀ x : Fin 64, ∀ k : Fin 6, andI (shrI (x.val : Int) (k.val : Int)) 1 = if x.val.testBit k.val then 1 else 0 := by decide +kernel
theorem bit_and' {x k : Nat} (hx : x < 64) (hk : k < 6) : andI (shrI (x : Int) (k : Int)) 1 = if x.testBit k then 1 else 0 := bit_and ⟨x, hx⟩ ⟨k, hk⟩
theorem bit_seen : ∀ x : Fin 16, ∀ s : Fin 4, orI (x.val : Int) (shlI 1 (s.val : Int)) = ((x.val ||| 2 ^ s.val : Nat) : Int) ∧ x.val ||| 2 ^ s.val < 16 ∧ I64 (shlI 1 (s.val : Int)) := by decide +kernel
structure Places (bs : List qA) (books : List Int) : Prop where
 len : books.length ≤ 6
 el : ∀ x ∈ books, 0 ≤ x ∧ x < bs.length
open Classical in
theorem s9_trip_eq (hF : Fine cl sh bs) (hP : Places bs books) {N : Nat} (hN : N < 64) : P_s9_trip cl sh bs books (N : Int) = some (wayS sh (selK bs books (fun i => N.testBit i) books.length), heavyS (selK bs books (fun i => N.testBit i) books.length)) := by
 have hsh := hF.sh1
 have h6 := hP.len;generalize hm : (fun i : Nat => N.testBit i) = m;refine Ok.get ?_;unfold P_s9_trip;refine Ok.andx (P := fun r => r.1 = awayS sh (selK bs books m books.length) ∧ r.2.1 = heavyS (selK bs books m books.length) ∧ ∃ q : Nat, r.2.2 = q ∧ q < 16 ∧ ∀ s : Nat, q.testBit s = decide (∃ b ∈ selK bs books m books.length, b.shelf = (s : Int))) ?_ ?_
 ·refine Ok.count (fun s : Int × Int × Int × Int => s.2.2.2) books.length (fun k r => r.1 = awayS sh (selK bs books m k) ∧ r.2.1 = heavyS (selK bs books m k) ∧ ∃ q : Nat, r.2.2.1 = q ∧ q < 16 ∧ ∀ s : Nat, q.testBit s = decide (∃ b ∈ selK bs books m k, b.shelf = (s : Int))) rfl ⟨rfl, rfl, 0, rfl, by decide, fun s => by simp [selK]⟩ ?_ ?_
  ·rintro k ⟨way, heavy, seen, i⟩ hk hx ⟨h1, h2, q, h3, hq, h4⟩;simp only at hx h1 h2 h3;subst hx; subst h1; subst h2; subst h3;obtain ⟨x, hxk⟩ := get_some hk
   have hxr := hP.el x (List.mem_of_getElem? hxk);obtain ⟨b, hb⟩ := at_some hxr
   have hbr := hF.heavy (List.mem_of_getElem? hb)
   have hst := selK_step (m := m) hxk hb
   have hlen := selK_len (bs := bs) (books := books) (m := m) k
   have hhb := heavyS_bound hF (selK bs books m k) fun b h => selK_mem h
   unfold P_s9_trip_L1
   show Ok (if _ then _ else _) _;rw [if_pos (by omega), el_at hxk, chk_pos (by omega), bit_and' hN (by omega)]
   have hmk : N.testBit k = m k := by rw [← hm]
   rw [hmk]
   have hcnt : I64 ((k : Int) + 1) := i64_small (by omega)
   by_cases hbit : m k = true
   ·rw [if_pos hbit] at hst;rw [if_pos hbit, if_neg (by decide), el_int hxr.1 hb, chk_pos (i64_small (by omega))];obtain ⟨a, ha⟩ := get_some (l := sh) (k := b.shelf.toNat) (by omega)
    have hs := bit_seen ⟨q, hq⟩ ⟨b.shelf.toNat, by omega⟩;simp only [show ((b.shelf.toNat : Nat) : Int) = b.shelf by omega] at hs;rw [el_int hbr.2.1 ha, chk_pos ⟨by omega, hs.2.2⟩, hs.1, andx_some'];dsimp only;rw [chk_pos hcnt];refine .some ⟨rfl, ?_, ?_, _, rfl, hs.2.1, fun s => ?_⟩
    ·show max (awayS sh (selK bs books m k)) a.away = _;rw [hst, awayS_append]
     have e : awOf sh b = a.away := by unfold awOf; rw [ha]
     have := (hF.aw ha).1;simp only [awayS, e];omega
    ·show heavyS (selK bs books m k) + b.heavy = _;rw [hst, heavyS_append];simp [heavyS]
    ·show (q ||| 2 ^ b.shelf.toNat).testBit s = _;rw [Nat.testBit_or, h4 s, Nat.testBit_two_pow, hst]
     by_cases g1 : ∃ b ∈ selK bs books m k, b.shelf = (s : Int)
     ·obtain ⟨c, hc, hcs⟩ := g1;rw [decide_eq_true ⟨c, hc, hcs⟩, decide_eq_true (p := ∃ b_1 ∈ selK bs books m k ++ [b], b_1.shelf = (s : Int)) ⟨c, by simp [hc], hcs⟩];rfl
     ·by_cases g2 : b.shelf.toNat = s
      ·rw [decide_eq_true g2, Bool.or_true, decide_eq_true];exact ⟨b, by simp, by omega⟩
      ·rw [decide_eq_false g1, decide_eq_false g2, decide_eq_false]
       ·rfl
       ·rintro ⟨c, hc, hcs⟩
        rcases List.mem_append.1 hc with hc | hc
        ·exact g1 ⟨c, hc, hcs⟩
        ·have := List.mem_singleton.1 hc;subst this;omega
   ·rw [if_neg hbit, List.append_nil] at hst;rw [if_neg hbit, if_pos rfl, andx_some'];dsimp only;rw [chk_pos hcnt];refine .some ⟨rfl, ?_, ?_, q, rfl, hq, fun s => ?_⟩
    ·rw [hst]
    ·rw [hst]
    ·rw [hst]; exact h4 s
  ·rintro ⟨way, heavy, seen, i⟩ hx hI;simp only at hx hI;subst hx;unfold P_s9_trip_L1
   show Ok (if _ then _ else _) _;rw [if_neg (by omega)];exact .some hI
 ·rintro ⟨way, heavy, seen⟩ ⟨h1, h2, q, h3, hq, h4⟩;simp only at h1 h2 h3;subst h1; subst h2; subst h3;generalize selK bs books m books.length = S at h4 ⊢
  have hab := awayS_bound hF S
  have hcb := climbK_bound hF S
  have han := awayS_nonneg sh S;refine Ok.andx (P := fun r => r = awayS sh S + climbK sh S sh.length) ?_ (fun r hr => ?_)
  ·refine Ok.count (fun s : Int × Int => s.2) sh.length (fun k r => r.1 = awayS sh S + climbK sh S k) rfl (by simp [climbK]) ?_ ?_
   ·rintro k ⟨way, i⟩ hk hx h1;simp only at hx h1;subst hx; subst h1;obtain ⟨a, ha⟩ := get_some hk
    have har := hF.aw ha
    have hck := hcb k;unfold P_s9_trip_L2
    show Ok (if _ then _ else _) _;rw [if_pos (by omega), el_at ha, chk_pos (by omega), bit_and' (by omega) (by omega), h4 k]
    have e : clOf sh k = a.climb := by unfold clOf; rw [ha]
    have hb1 : (0 : Int) ≤ (if decide (∃ b ∈ S, b.shelf = (k : Int)) = true then 1 else 0) * a.climb ∧ (if decide (∃ b ∈ S, b.shelf = (k : Int)) = true then (1 : Int) else 0) * a.climb ≤ 1000 := by
     split <;> omega
    rw [chk_pos (i64_small (by omega)), chk_pos (i64_small (by omega)), chk_pos (i64_small (by omega))];refine .some ⟨rfl, ?_⟩
    show awayS sh S + climbK sh S k + (if decide (∃ b ∈ S, b.shelf = (k : Int)) = true then (1 : Int) else 0) * a.climb = awayS sh S + climbK sh S (k + 1);rw [climbK_succ, e]
    by_cases g : ∃ b ∈ S, b.shelf = (k : Int)
    ·rw [if_pos (decide_eq_true g), if_pos g]; omega
    ·rw [if_neg (by rw [decide_eq_false g]; decide), if_neg g]; omega
   ·rintro ⟨way, i⟩ hx h1;simp only at hx h1;subst hx;unfold P_s9_trip_L2
    show Ok (if _ then _ else _) _;rw [if_neg (by omega)];exact .some h1
  ·subst hr
   have := hcb sh.length;rw [chk_pos (i64_small (by omega))];exact .some rfl
end
end Go.Am
end
section
namespace Go.Am
set_option linter.unusedVariables false
set_option linter.unusedSimpArgs false
section
variable {cl : List Str} {sh : List qD} {bs : List qA} {books : List Int}
end
end Go.Am
end
section
namespace Go.Am
set_option linter.unusedVariables false
set_option linter.unusedSimpArgs false
section
variable {cl : List Str} {sh : List qD} {bs : List qA} {books : List Int} {carry : Int}
def tripS (bs : List qA) (books t : List Int) (n : Nat) : List qA := selK bs books (fun i => decide (t[i]? = some (n : Int))) books.length
noncomputable def sumW (sh : List qD) (bs : List qA) (books t : List Int) : Nat → Int
 | 0 => 0
 | k + 1 => sumW sh bs books t k + wayS sh (tripS bs books t k)
theorem sumW_succ (t : List Int) (k : Nat) : sumW sh bs books t (k + 1) = sumW sh bs books t k + wayS sh (tripS bs books t k) := rfl
def lightW (bs : List qA) (books t : List Int) (carry : Int) (k : Nat) : Prop := ∀ n, n < k → heavyS (tripS bs books t n) ≤ carry
theorem sumW_bound (hF : Fine cl sh bs) (t : List Int) : ∀ k : Nat, 0 ≤ sumW sh bs books t k ∧ sumW sh bs books t k ≤ 10000 * k
 | 0 => by simp [sumW]
 | k + 1 => by
  have h1 := sumW_bound hF t k
  have h2 := wayS_bound hF (tripS bs books t k);rw [sumW_succ];omega
theorem climbK_nil (sh : List qD) : ∀ k : Nat, climbK sh [] k = 0
 | 0 => rfl
 | k + 1 => by rw [climbK_succ, climbK_nil sh k, if_neg (by simp)]; rfl
theorem wayS_nil (sh : List qD) : wayS sh [] = 0 := by unfold wayS; rw [climbK_nil]; rfl
theorem tripS_none {t : List Int} {n : Nat} (h : ∀ x ∈ t, x < (n : Int)) : tripS bs books t n = [] := by
 unfold tripS selK;refine List.flatMap_eq_nil_iff.2 fun i _ => ?_
 refine if_neg fun hi => ?_
 have := h _ (List.mem_of_getElem? (of_decide_eq_true hi));omega
theorem sumW_rest {t : List Int} {a : Nat} (h : ∀ x ∈ t, x < (a : Int)) : ∀ k : Nat, sumW sh bs books t (a + k) = sumW sh bs books t a
 | 0 => rfl
 | k + 1 => by
  rw [show a + (k + 1) = (a + k) + 1 by omega, sumW_succ, sumW_rest h k, tripS_none (fun x hx => by have := h x hx; omega), wayS_nil];omega
theorem lightW_rest {t : List Int} {a k : Nat} (hc : 0 ≤ carry) (h : ∀ x ∈ t, x < (a : Int)) : lightW bs books t carry (a + k) ↔ lightW bs books t carry a := by
 refine ⟨fun g n hn => g n (by omega), fun g n hn => ?_⟩
 by_cases e : n < a
 ·exact g n e
 ·rw [tripS_none fun x hx => by have := h x hx; omega];exact hc
open Classical in
theorem walk_sum (hF : Fine cl sh bs) (hP : Places bs books) (hc : 0 ≤ carry) {p : List Int × List Int} (hp : PartAt books.length p.1 p.2) : iter (P_s9_Walk_L5 cl sh bs books carry p) (0, true, 0) = some (sumW sh bs books p.1 books.length, decide (lightW bs books p.1 carry books.length)) := by
 have h6 := hP.len
 have hsl := hp.sl;obtain ⟨d, hd⟩ : ∃ d, books.length = p.2.length + d := ⟨books.length - p.2.length, by omega⟩;rw [hd, sumW_rest (fun x hx => (hp.tr x hx).2) d, decide_eq_decide.2 (lightW_rest hc fun x hx => (hp.tr x hx).2)];refine Ok.get ?_;refine Ok.count (fun s : Int × Bool × Int => s.2.2) p.2.length (fun k r => r.1 = sumW sh bs books p.1 k ∧ r.2.1 = decide (lightW bs books p.1 carry k)) rfl ⟨rfl, (decide_eq_true (show lightW bs books p.1 carry 0 from fun n h => by omega)).symm⟩ ?_ ?_
 ·rintro k ⟨sum, light, i⟩ hk hx ⟨h1, h2⟩;simp only at hx h1 h2;subst hx; subst h1;obtain ⟨x, hxk⟩ := get_some hk;obtain ⟨hr, hbit⟩ := hp.el k x hxk
  have h64 : (2 : Int) ^ books.length ≤ 64 := by
   have : (2 : Nat) ^ books.length ≤ 2 ^ 6 := Nat.pow_le_pow_right (by decide) h6
   have h2 : ((2 ^ books.length : Nat) : Int) = (2 : Int) ^ books.length := by exact_mod_cast rfl
   have e : (2 : Nat) ^ 6 = 64 := by decide
   omega
  have hb := sumW_bound (books := books) hF p.1 k
  have hw := wayS_bound hF (tripS bs books p.1 k)
  have htrip := s9_trip_eq hF hP (N := x.toNat) (by omega);rw [show (fun i : Nat => x.toNat.testBit i) = fun i => decide (p.1[i]? = some (k : Int)) from funext hbit, show ((x.toNat : Nat) : Int) = x by omega] at htrip;replace htrip : P_s9_trip cl sh bs books x = some (wayS sh (tripS bs books p.1 k), heavyS (tripS bs books p.1 k)) := htrip;unfold P_s9_Walk_L5
  show Ok (if _ then _ else _) _;rw [if_pos (by omega), el_at hxk, htrip, andx_some'];dsimp only
  show Ok (andx (chk (I64 (sumW sh bs books p.1 k + wayS sh (tripS bs books p.1 k))) _) _) _;rw [chk_pos (i64_small (by omega))]
  have hcnt : I64 ((k : Int) + 1) := i64_small (by omega)
  by_cases g : lightW bs books p.1 carry k
  ·rw [h2, if_pos (decide_eq_true g), andx_some'];dsimp only;rw [chk_pos hcnt];refine .some ⟨rfl, rfl, ?_⟩
   show decide (heavyS (tripS bs books p.1 k) ≤ carry) = _;refine decide_eq_decide.2 ⟨fun h n hn => ?_, fun h => h k (Nat.lt_succ_self k)⟩
   by_cases e : n = k
   ·subst e; exact h
   ·exact g n (by omega)
  ·rw [h2, if_neg (by rw [decide_eq_false g]; decide), andx_some'];dsimp only;rw [chk_pos hcnt];refine .some ⟨rfl, rfl, ?_⟩
   show false = _;rw [decide_eq_false fun h => g fun n hn => h n (by omega)]
 ·rintro ⟨sum, light, i⟩ hx ⟨h1, h2⟩;simp only at hx h1 h2;subst hx; subst h1; subst h2;unfold P_s9_Walk_L5
  show Ok (if _ then _ else _) _;rw [if_neg (by omega)];exact .some rfl
end
end Go.Am
end
section
namespace Go.Am
set_option linter.unusedVariables false
set_option linter.unusedSimpArgs false
section
variable {cl : List Str} {sh : List qD} {bs : List qA} {books : List Int} {carry : Int}
open Classical in
noncomputable def stepF (sh : List qD) (bs : List qA) (books : List Int) (carry : Int) (st : Option (List Int × Int)) (p : List Int × List Int) : Option (List Int × Int) :=
  if lightW bs books p.1 carry books.length then
    (match st with
      | none => some (p.1, sumW sh bs books p.1 books.length)
      | some (t, n) => if sumW sh bs books p.1 books.length < n then some (p.1, sumW sh bs books p.1 books.length) else some (t, n))
  else st
def encF : Option (List Int × Int) → List Int × Bool × Bool × Int
 | none => ([], true, false, 0)
 | some (t, n) => (t, false, true, n)
noncomputable def bestF (sh : List qD) (bs : List qA) (books : List Int) (carry : Int) : Option (List Int × Int) := (walksOf books.length).foldl (stepF sh bs books carry) none
open Classical in
theorem walk_round (hF : Fine cl sh bs) (hP : Places bs books) (hc : 0 ≤ carry) {p : List Int × List Int} (hp : PartAt books.length p.1 p.2) (st : Option (List Int × Int)) :
  P_s9_Walk_L4 cl sh bs books carry (encF st) p = some (.ag (encF (stepF sh bs books carry st p))) := by
 have h6 := hP.len
 have htl := hp.tl
 have hsum := walk_sum hF hP hc hp
 have key : ∀ (trips : List Int) (z found : Bool) (way : Int), P_s9_Walk_L4 cl sh bs books carry (trips, z, found, way) p =
   andx (if decide (lightW bs books p.1 carry books.length) = true then (if found = true then some (decide (sumW sh bs books p.1 books.length < way), true) else some (true, false)) else some (false, found)) fun r => if r.1 = true then chk (p.1.length < 1000) (some (Stp.ag (p.1, false, true, sumW sh bs books p.1 books.length))) else some (Stp.ag (trips, z, r.2, way)) := fun trips z found way => by
  unfold P_s9_Walk_L4;rw [hsum];rfl
 by_cases g : lightW bs books p.1 carry books.length
 ·cases st with
  | none =>
   show P_s9_Walk_L4 cl sh bs books carry ([], true, false, 0) p = _;rw [key, if_pos (decide_eq_true g), if_neg (by decide), andx_some', if_pos rfl, chk_pos (by omega)];unfold stepF;rw [if_pos g];rfl
  | some q =>
   obtain ⟨t, n⟩ := q
   show P_s9_Walk_L4 cl sh bs books carry (t, false, true, n) p = _;rw [key, if_pos (decide_eq_true g), if_pos rfl, andx_some'];unfold stepF;rw [if_pos g];dsimp only
   by_cases hlt : sumW sh bs books p.1 books.length < n
   ·rw [if_pos (decide_eq_true hlt), chk_pos (by omega), if_pos hlt];rfl
   ·rw [if_neg (by rw [decide_eq_false hlt]; decide), if_neg hlt];rfl
 ·have hst : stepF sh bs books carry st p = st := if_neg g;rw [hst];cases st with
  | none =>
   show P_s9_Walk_L4 cl sh bs books carry ([], true, false, 0) p = _;rw [key, if_neg (by rw [decide_eq_false g]; decide), andx_some', if_neg (by decide)];rfl
  | some q =>
   obtain ⟨t, n⟩ := q
   show P_s9_Walk_L4 cl sh bs books carry (t, false, true, n) p = _;rw [key, if_neg (by rw [decide_eq_false g]; decide), andx_some', if_neg (by decide)];rfl
theorem walk_fold (hF : Fine cl sh bs) (hP : Places bs books) (hc : 0 ≤ carry) : ∀ (l : List (List Int × List Int)) (st : Option (List Int × Int)), (∀ p ∈ l, PartAt books.length p.1 p.2) →
  foldx (P_s9_Walk_L4 cl sh bs books carry) l (encF st) = some (.nx (encF (l.foldl (stepF sh bs books carry) st)))
 | [], st, _ => rfl
 | p :: l, st, h => by
  unfold foldx;rw [walk_round hF hP hc (h p (by simp)) st];exact walk_fold hF hP hc l _ fun q hq => h q (by simp [hq])
end
end Go.Am
end
section
namespace Go.Am
set_option linter.unusedVariables false
set_option linter.unusedSimpArgs false
section
variable {cl : List Str} {sh : List qD} {bs : List qA} {books : List Int} {carry : Int}
def onceAt (books : List Int) (i : Nat) : Prop := ∀ x, books[i]? = some x → ¬ x ∈ books.take i
def lightAt (bs : List qA) (books : List Int) (carry : Int) (i : Nat) : Prop := ∀ x b, books[i]? = some x → bs[x.toNat]? = some b → b.heavy ≤ carry
open Classical in
noncomputable def listE (cl : List Str) (sh : List qD) (bs : List qA) (books : List Int) (carry : Int) : Int :=
  if roomN cl sh bs = 0 then
    (if books.length > 6 then 3 else if ∀ j, j < books.length → btwAt 0 ((bs.length : Int) - 1) books j then
      (if ∀ j, j < books.length → onceAt books j then (if 1 ≤ carry ∧ carry ≤ 100 then (if ∀ j, j < books.length → lightAt bs books carry j then 0 else 9) else 7) else 5) else 4)
  else roomN cl sh bs
end
end Go.Am
end
section
namespace Go.Am
set_option linter.unusedVariables false
set_option linter.unusedSimpArgs false
section
variable {cl : List Str} {sh : List qD} {bs : List qA} {books : List Int} {carry : Int}
open Classical in
theorem dup_eq {k : Nat} {x : Int} (hl : books.length ≤ 1000) (hk : k ≤ books.length) : (andx (seqx (iter (P_s9_Walk_L2 books (k : Int) x) 0) fun _ => some (-1)) fun y7 => if y7 ≥ 0 then some (5 : Int) else some 0) = some (if x ∈ books.take k then 5 else 0) := by
 have hle : (books.take k).length ≤ 1000 := by rw [List.length_take]; omega
 rw [iter_scanI (fun j : Nat => if (books.take k)[j]? = some x then some (j : Int) else none) (books.take k).length, seqx_scan]
 ·cases hf : (List.range (books.take k).length).findSome? (fun j : Nat => if (books.take k)[j]? = some x then some (j : Int) else none) with
  | none =>
   have := of_find_none hf
   have hno : ¬ x ∈ books.take k := fun hm => by
    obtain ⟨j, hj⟩ := List.getElem?_of_mem hm
    have h2 := this j (List.getElem?_eq_some_iff.1 hj).1;rw [if_pos hj] at h2;cases h2
   rw [if_neg hno];rfl
  | some b =>
   obtain ⟨j, _, hj⟩ := List.exists_of_findSome?_eq_some hf
   by_cases e : (books.take k)[j]? = some x
   ·rw [if_pos e] at hj;cases hj;rw [if_pos (List.mem_of_getElem? e)]
    show (if (j : Int) ≥ 0 then some (5 : Int) else some 0) = _;rw [if_pos (by omega)]
   ·rw [if_neg e] at hj; cases hj
 ·intro j hj _;obtain ⟨a, ha⟩ := get_some hj;unfold P_s9_Walk_L2;rw [take_sub, if_pos (by omega), el_at ha, chk_pos (i64_small (by omega)), ha]
  by_cases e : x = a
  ·rw [if_pos e, if_pos (by rw [e])]; rfl
  ·rw [if_neg e, if_neg (fun h => e (Option.some.inj h).symm)]; rfl
 ·intro _;unfold P_s9_Walk_L2;rw [take_sub, if_neg (by omega)]
open Classical in
theorem walk_once (hl : books.length ≤ 1000) : iter (P_s9_Walk_L1 books) 0 = some (scanX (fun i => if onceAt books i then none else some ((i : Int), (5 : Int))) books.length) := by
 refine iter_scanI (fun i => if onceAt books i then none else some ((i : Int), (5 : Int))) books.length (fun k hk _ => ?_) (fun _ => ?_)
 ·obtain ⟨x, hx⟩ := get_some hk;unfold P_s9_Walk_L1;rw [if_pos (by omega), el_at hx, chk_pos (by omega), dup_eq hl (by omega), andx_some']
  have hb : onceAt books k ↔ ¬ x ∈ books.take k := ⟨fun g => g x hx, fun g y hy => by rw [hx] at hy; cases hy; exact g⟩
  by_cases g : x ∈ books.take k
  ·rw [if_pos g, if_pos (by decide), if_neg fun h => hb.1 h g]; rfl
  ·rw [if_neg g, if_neg (by decide), if_pos (hb.2 g), chk_pos (i64_small (by omega))]; rfl
 ·unfold P_s9_Walk_L1;rw [if_neg (by omega)]
open Classical in
theorem walk_light (hl : books.length ≤ 1000) (hr : ∀ x ∈ books, 0 ≤ x ∧ x < bs.length) : iter (P_s9_Walk_L3 bs books carry) 0 = some (scanX (fun i => if lightAt bs books carry i then none else some (([] : List Int), true, (0 : Int), (9 : Int))) books.length) := by
 refine iter_scanI (fun i => if lightAt bs books carry i then none else some (([] : List Int), true, (0 : Int), (9 : Int))) books.length (fun k hk _ => ?_) (fun _ => ?_)
 ·obtain ⟨x, hx⟩ := get_some hk
  have hxr := hr x (List.mem_of_getElem? hx);obtain ⟨b, hb⟩ := at_some hxr;unfold P_s9_Walk_L3;rw [if_pos (by omega), el_at hx, el_int hxr.1 hb]
  have hbb : lightAt bs books carry k ↔ b.heavy ≤ carry := ⟨fun g => g x b hx hb, fun g y c hy hc => by rw [hx] at hy; cases hy; rw [hb] at hc; cases hc; exact g⟩
  by_cases g : b.heavy > carry
  ·rw [if_pos g, if_neg fun h => by have := hbb.1 h; omega]; rfl
  ·rw [if_neg g, if_pos (hbb.2 (by omega)), chk_pos (i64_small (by omega))]; rfl
 ·unfold P_s9_Walk_L3;rw [if_neg (by omega)]
theorem places_of (h6 : ¬ books.length > 6) (h : ∀ j, j < books.length → btwAt 0 ((bs.length : Int) - 1) books j) : Places bs books := ⟨by omega, fun x hx => by
  obtain ⟨j, hj⟩ := List.getElem?_of_mem hx
  have := h j (List.getElem?_eq_some_iff.1 hj).1 x hj
  unfold btw at this
  omega⟩
open Classical in
theorem s9_Walk_eq : P_s9_Walk cl sh bs books carry = some (if listE cl sh bs books carry = 0 then ((encF (bestF sh bs books carry)).1, (encF (bestF sh bs books carry)).2.1, (encF (bestF sh bs books carry)).2.2.2, 0) else ([], true, 0, listE cl sh bs books carry)) := by
  unfold P_s9_Walk
  rw [s9_open_eq, andx_some']
  by_cases h0 : roomN cl sh bs = 0
  · rw [if_neg (not_not_intro h0)]
    have hF := roomN_zero.1 h0
    have h10 := hF.bs1
    by_cases h6 : books.length > 6
    · have hE : listE cl sh bs books carry = 3 := by unfold listE; rw [if_pos h0, if_pos h6]
      rw [if_pos (by omega), hE, if_neg (by decide)]
    · rw [if_neg (by omega), chk_pos (i64_small (by omega)), s9_out_eq _ _ _ (by omega), andx_some']
      by_cases g1 : ∀ j, j < books.length → btwAt 0 ((bs.length : Int) - 1) books j
      · have hP := places_of h6 g1
        rw [decide_eq_false (not_not_intro g1), if_neg (by decide), walk_once (by omega), seqx_scan]
        by_cases g2 : ∀ j, j < books.length → onceAt books j
        · have hfn : (List.range books.length).findSome? (fun i => if onceAt books i then none else some ((i : Int), (5 : Int))) = none := find_none fun j hj => if_pos (g2 j hj)
          rw [hfn]
          dsimp only
          rw [andx_some']
          dsimp only
          have hout : P_s9_out 1 100 [carry] = some (decide (¬ (1 ≤ carry ∧ carry ≤ 100))) := by
            rw [s9_out_eq _ _ _ (by simp)]
            refine congrArg some (decide_eq_decide.2 (not_congr ⟨fun h => h 0 (by simp) carry rfl, fun h j hj x hx => ?_⟩))
            have : j = 0 := by simpa using hj
            subst this
            have : carry = x := by simpa using hx
            subst this
            exact h
          rw [if_neg (not_not_intro rfl), hout, andx_some']
          by_cases g3 : 1 ≤ carry ∧ carry ≤ 100
          · rw [decide_eq_false (not_not_intro g3), if_neg (by decide), walk_light (by omega) hP.el, seqx_scan, find_if]
            by_cases g4 : ∀ j, j < books.length → lightAt bs books carry j
            · have hE : listE cl sh bs books carry = 0 := by unfold listE; rw [if_pos h0, if_neg h6, if_pos g1, if_pos g2, if_pos g3, if_pos g4]
              rw [if_pos g4, chk_pos (by omega), hE, if_pos rfl]
              have hw := walk_fold (carry := carry) hF hP (by omega) (walksOf books.length) none fun p hp => walks_part hp
              have hw' : foldx (P_s9_Walk_L4 cl sh bs books carry) (walksOf books.length) ([], true, false, 0) = some (.nx (encF (bestF sh bs books carry))) := hw
              dsimp only
              rw [hw', seqx_nx]
              rfl
            · have hE : listE cl sh bs books carry = 9 := by unfold listE; rw [if_pos h0, if_neg h6, if_pos g1, if_pos g2, if_pos g3, if_neg g4]
              rw [if_neg g4, hE, if_neg (by decide)]
          · have hE : listE cl sh bs books carry = 7 := by unfold listE; rw [if_pos h0, if_neg h6, if_pos g1, if_pos g2, if_neg g3]
            rw [decide_eq_true g3, if_pos rfl, hE, if_neg (by decide)]
        · have hE : listE cl sh bs books carry = 5 := by unfold listE; rw [if_pos h0, if_neg h6, if_pos g1, if_neg g2]
          rw [hE, if_neg (by decide)]
          cases hf : (List.range books.length).findSome? (fun i => if onceAt books i then none else some ((i : Int), (5 : Int))) with
          | none => exact absurd (fun j hj => Classical.byContradiction fun h => by
              have := of_find_none hf j hj
              rw [if_neg h] at this
              cases this) g2
          | some q =>
            obtain ⟨j, _, hj⟩ := List.exists_of_findSome?_eq_some hf
            by_cases e : onceAt books j
            · rw [if_pos e] at hj; cases hj
            · rw [if_neg e] at hj
              cases hj
              dsimp only
              rw [andx_some']
              dsimp only
              rw [if_pos (by decide)]
      · have hE : listE cl sh bs books carry = 4 := by unfold listE; rw [if_pos h0, if_neg h6, if_neg g1]
        rw [decide_eq_true g1, if_pos rfl, hE, if_neg (by decide)]
  · have hE : listE cl sh bs books carry = roomN cl sh bs := by unfold listE; rw [if_neg h0]
    rw [if_pos h0, hE, if_neg h0]
end
end Go.Am
end
section
namespace Go.Am
set_option linter.unusedVariables false
set_option linter.unusedSimpArgs false
def Num (t : List Int) : Prop := ∀ (k : Nat) (x : Int), t[k]? = some x → 0 ≤ x ∧ x ≤ nextI (t.take k)
theorem Num.nil : Num [] := fun k x h => by simp at h
theorem Num.snoc {t : List Int} {n : Int} : Num (t ++ [n]) ↔ Num t ∧ 0 ≤ n ∧ n ≤ nextI t := by
 constructor
 ·intro h;refine ⟨fun k x hx => ?_, ?_⟩
  ·have hk := (List.getElem?_eq_some_iff.1 hx).1
   have := h k x (by rw [List.getElem?_append_left hk]; exact hx)
   rwa [List.take_append_of_le_length (by omega)] at this
  ·have := h t.length n (by simp)
   rwa [List.take_left'] at this
   rfl
 ·rintro ⟨h, h0, h1⟩ k x hx
  by_cases hk : k < t.length
  ·rw [List.getElem?_append_left hk] at hx
   have := h k x hx
   rwa [List.take_append_of_le_length (by omega)]
  ·have hk2 : k = t.length := by
    have := (List.getElem?_eq_some_iff.1 hx).1;simp at this;omega
   subst hk2;simp at hx;subst hx;rw [List.take_left' rfl];exact ⟨h0, h1⟩
theorem Num.take {t : List Int} (h : Num t) (j : Nat) : Num (t.take j) := fun k x hx => by
 have hk := (List.getElem?_eq_some_iff.1 hx).1;rw [List.length_take] at hk;rw [List.getElem?_take_of_lt (by omega)] at hx
 have := h k x hx
 rwa [List.take_take, Nat.min_eq_left (by omega)]
theorem wkSet_next {s t : List Int} {n i : Nat} (hn : n ≤ s.length) (hs : (s.length : Int) = nextI t) : ((wkSet s n i).length : Int) = nextI (t ++ [(n : Int)]) := by
 rw [nextI_snoc, ← hs];unfold wkSet extS;rw [List.length_set];split
 ·rw [List.length_append, List.length_singleton]; omega
 ·omega
theorem wk_num : ∀ (m i : Nat) (t s : List Int), (s.length : Int) = nextI t → Num t → ∀ p ∈ wk m i t s, Num p.1
 | 0, i, t, s, hs, h, p, hp => by
  have := List.mem_singleton.1 hp;subst this;exact h
 | m + 1, i, t, s, hs, h, p, hp => by
  obtain ⟨n, hn, hp⟩ := List.mem_flatMap.1 (show p ∈ (List.range (s.length + 1)).flatMap _ from hp)
  have hn := List.mem_range.1 hn;exact wk_num m (i + 1) _ _ (wkSet_next (by omega) hs) (Num.snoc.2 ⟨h, by omega, by omega⟩) p hp
theorem wk_has : ∀ (m i : Nat) (r t s : List Int), (s.length : Int) = nextI t → r.length = m → Num (t ++ r) → ∃ s', (t ++ r, s') ∈ wk m i t s
 | 0, i, r, t, s, hs, hr, h => by
  have : r = [] := List.eq_nil_of_length_eq_zero hr;subst this;exact ⟨s, by rw [List.append_nil]; exact List.mem_singleton.2 rfl⟩
 | m + 1, i, [], t, s, hs, hr, h => by simp at hr
 | m + 1, i, n :: r, t, s, hs, hr, h => by
  have e : t ++ n :: r = (t ++ [n]) ++ r := by simp
  have hn := h t.length n (by simp);rw [List.take_left' rfl, ← hs] at hn
  have hnn : ((n.toNat : Nat) : Int) = n := by omega
  have hset := wkSet_next (i := i) (s := s) (t := t) (n := n.toNat) (by omega) hs;rw [hnn] at hset;obtain ⟨s', hs'⟩ := wk_has m (i + 1) r (t ++ [n]) (wkSet s n.toNat i) hset (by simpa using hr) (by rw [← e]; exact h);refine ⟨s', ?_⟩;rw [e];refine List.mem_flatMap.2 ⟨n.toNat, List.mem_range.2 (by omega), ?_⟩;rw [hnn];exact hs'
theorem walks_num {many : Nat} {p : List Int × List Int} (h : p ∈ walksOf many) : Num p.1 := wk_num many 0 [] [] rfl Num.nil p h
theorem walks_has {many : Nat} {t : List Int} (hl : t.length = many) (h : Num t) : ∃ s, (t, s) ∈ walksOf many := wk_has many 0 t [] [] rfl hl h
theorem wk_prefix : ∀ (m i : Nat) (t s : List Int), ∀ p ∈ wk m i t s, ∃ r, p.1 = t ++ r
 | 0, i, t, s, p, hp => by
  have := List.mem_singleton.1 hp;subst this;exact ⟨[], by simp⟩
 | m + 1, i, t, s, p, hp => by
  obtain ⟨n, hn, hp⟩ := List.mem_flatMap.1 (show p ∈ (List.range (s.length + 1)).flatMap _ from hp);obtain ⟨r, hr⟩ := wk_prefix m (i + 1) _ _ p hp;exact ⟨(n : Int) :: r, by rw [hr]; simp⟩
theorem wk_order : ∀ (m i : Nat) (t s : List Int), (wk m i t s).Pairwise fun x y => lexB x.1 y.1 = true
 | 0, i, t, s => List.pairwise_singleton _ _
 | m + 1, i, t, s => by
  show ((List.range (s.length + 1)).flatMap _).Pairwise _;rw [List.pairwise_flatMap];refine ⟨fun n _ => wk_order m _ _ _, List.pairwise_lt_range.imp fun {a b} hab x hx y hy => ?_⟩;obtain ⟨r, hr⟩ := wk_prefix _ _ _ _ x hx;obtain ⟨q, hq⟩ := wk_prefix _ _ _ _ y hy;rw [hr, hq, List.append_assoc, List.append_assoc, lexB_append]
  show lexB ((a : Int) :: r) ((b : Int) :: q) = true;rw [lexB, if_neg (by omega), decide_eq_true (by omega)]
end Go.Am
end
section
namespace Go.Am
open Go.RowKit
set_option linter.unusedVariables false
set_option linter.unusedSimpArgs false
end Go.Am
end
section
namespace Go.Am
set_option linter.unusedVariables false
end Go.Am
end
section
namespace Go.Am
set_option linter.unusedVariables false
set_option linter.unusedSimpArgs false
section
variable {cl : List Str} {sh : List qD} {bs : List qA} {books : List Int} {carry : Int}
structure BestW (sh : List qD) (bs : List qA) (books : List Int) (carry : Int) (W : List (List Int × List Int)) (t : List Int) (n : Int) : Prop where
 mem : ∃ p ∈ W, p.1 = t
 light : lightW bs books t carry books.length
 sum : n = sumW sh bs books t books.length
 least : ∀ q ∈ W, lightW bs books q.1 carry books.length → n ≤ sumW sh bs books q.1 books.length ∧ (sumW sh bs books q.1 books.length = n → lexB q.1 t = false)
open Classical in
theorem fold_best (W : List (List Int × List Int)) (ho : W.Pairwise fun x y => lexB x.1 y.1 = true) : ∀ k, k ≤ W.length →
  (∀ q ∈ W.take k, ¬ lightW bs books q.1 carry books.length) ∧ (W.take k).foldl (stepF sh bs books carry) none = none ∨ ∃ t n, (W.take k).foldl (stepF sh bs books carry) none = some (t, n) ∧ BestW sh bs books carry (W.take k) t n
 | 0, _ => .inl ⟨fun q h => by simp at h, rfl⟩
 | k + 1, hk => by
  obtain ⟨p, hp⟩ := get_some (l := W) (k := k) (by omega)
  have ht := take_step hp
  have hpre : ∀ q ∈ W.take k, lexB q.1 p.1 = true := fun q hq => by
   rw [show W = W.take k ++ W.drop k from (List.take_append_drop k W).symm] at ho
   have hd : p ∈ W.drop k := by
    rw [List.drop_eq_getElem_cons (show k < W.length by omega)]
    have := (List.getElem?_eq_some_iff.1 hp).2;rw [this];exact List.mem_cons_self
   exact (List.pairwise_append.1 ho).2.2 q hq p hd
  have hst : (W.take (k + 1)).foldl (stepF sh bs books carry) none = stepF sh bs books carry ((W.take k).foldl (stepF sh bs books carry) none) p := by
   rw [ht, List.foldl_append];rfl
  rw [hst, ht]
  by_cases g : lightW bs books p.1 carry books.length
  ·rcases fold_best W ho k (by omega) with ⟨h1, h2⟩ | ⟨t, n, h1, h2⟩
   ·refine .inr ⟨p.1, sumW sh bs books p.1 books.length, by rw [h2]; exact if_pos g, ⟨p, by simp, rfl⟩, g, rfl, fun q hq hl => ?_⟩
    rcases List.mem_append.1 hq with hq | hq
    ·exact absurd hl (h1 q hq)
    ·have := List.mem_singleton.1 hq;subst this;exact ⟨Int.le_refl _, fun _ => lexB_irr _⟩
   ·rw [h1]
    by_cases hlt : sumW sh bs books p.1 books.length < n
    ·refine .inr ⟨p.1, sumW sh bs books p.1 books.length, (if_pos g).trans (if_pos hlt), ⟨p, by simp, rfl⟩, g, rfl, fun q hq hl => ?_⟩
     rcases List.mem_append.1 hq with hq | hq
     ·have := (h2.least q hq hl).1;exact ⟨by omega, fun e => by omega⟩
     ·have := List.mem_singleton.1 hq;subst this;exact ⟨Int.le_refl _, fun _ => lexB_irr _⟩
    ·obtain ⟨p0, hp0, hp1⟩ := h2.mem;refine .inr ⟨t, n, (if_pos g).trans (if_neg hlt), ⟨p0, List.mem_append_left _ hp0, hp1⟩, h2.light, h2.sum, fun q hq hl => ?_⟩
     rcases List.mem_append.1 hq with hq | hq
     ·exact h2.least q hq hl
     ·have := List.mem_singleton.1 hq;subst this;refine ⟨by omega, fun _ => ?_⟩
      have := hpre p0 hp0;rw [hp1] at this;exact lexB_asym _ _ this
  ·have hs : ∀ st, stepF sh bs books carry st p = st := fun st => if_neg g
   rw [hs]
   rcases fold_best W ho k (by omega) with ⟨h1, h2⟩ | ⟨t, n, h1, h2⟩
   ·refine .inl ⟨fun q hq => ?_, h2⟩
    rcases List.mem_append.1 hq with hq | hq
    ·exact h1 q hq
    ·have := List.mem_singleton.1 hq;subst this;exact g
   ·obtain ⟨p0, hp0, hp1⟩ := h2.mem;refine .inr ⟨t, n, h1, ⟨p0, List.mem_append_left _ hp0, hp1⟩, h2.light, h2.sum, fun q hq hl => ?_⟩
    rcases List.mem_append.1 hq with hq | hq
    ·exact h2.least q hq hl
    ·have := List.mem_singleton.1 hq;subst this;exact absurd hl g
theorem upto_next (n : Nat) : nextI (upto 0 n) = n := by
 induction n with
 | zero => rfl
 | succ n ih =>
  have : ((n + 1 : Nat) : Int) = (n : Int) + 1 := by omega
  rw [this, upto_succ (by omega), nextI_snoc, ih];omega
theorem upto_num (n : Nat) : Num (upto 0 n) := by
 induction n with
 | zero => exact Num.nil
 | succ n ih =>
  have : ((n + 1 : Nat) : Int) = (n : Int) + 1 := by omega
  rw [this, upto_succ (by omega)];exact Num.snoc.2 ⟨ih, by omega, by rw [upto_next]; exact Int.le_refl _⟩
theorem single_heavy (hP : Places bs books) (hl : ∀ j, j < books.length → lightAt bs books carry j) (hc : 0 ≤ carry) (n : Nat) : ∀ k, k ≤ books.length → heavyS (selK bs books (fun i => decide ((upto 0 books.length)[i]? = some (n : Int))) k) ≤ carry ∧ (k ≤ n → heavyS (selK bs books (fun i => decide ((upto 0 books.length)[i]? = some (n : Int))) k) = 0)
 | 0, _ => ⟨hc, fun _ => rfl⟩
 | k + 1, hk => by
  have ih := single_heavy hP hl hc n k (by omega);obtain ⟨x, hx⟩ := get_some (l := books) (k := k) (by omega);obtain ⟨b, hb⟩ := at_some (hP.el x (List.mem_of_getElem? hx))
  have hst := selK_step (m := fun i => decide ((upto 0 books.length)[i]? = some (n : Int))) hx hb
  have hat := at_upto (n := books.length) (k := k) (by omega);rw [hst, heavyS_append, hat]
  by_cases e : (k : Int) = n
  ·rw [if_pos (decide_eq_true (by rw [e]))]
   have h1 := ih.2 (by omega)
   have h2 := hl k (by omega) x b hx hb;rw [h1];simp only [heavyS];exact ⟨by omega, fun h => by omega⟩
  ·rw [if_neg (fun h => e (Option.some.inj (of_decide_eq_true h)))];simp only [heavyS, Int.add_zero];exact ⟨ih.1, fun h => ih.2 (by omega)⟩
theorem single_light (hP : Places bs books) (hl : ∀ j, j < books.length → lightAt bs books carry j) (hc : 0 ≤ carry) : lightW bs books (upto 0 books.length) carry books.length := fun n _ => (single_heavy hP hl hc n books.length (Nat.le_refl _)).1
theorem best_some (hP : Places bs books) (hl : ∀ j, j < books.length → lightAt bs books carry j) (hc : 0 ≤ carry) : ∃ t n, bestF sh bs books carry = some (t, n) ∧ BestW sh bs books carry (walksOf books.length) t n := by
 have h := fold_best (sh := sh) (bs := bs) (books := books) (carry := carry) (walksOf books.length) (wk_order _ _ _ _) (walksOf books.length).length (Nat.le_refl _);rw [List.take_length] at h
 rcases h with ⟨h1, _⟩ | h
 ·obtain ⟨s, hs⟩ := walks_has (many := books.length) (t := upto 0 books.length) (by rw [upto_len]; omega) (upto_num _);exact absurd (single_light hP hl hc) (h1 _ hs)
 ·exact h
end
end Go.Am
end
section
namespace Go.Am
set_option linter.unusedVariables false
set_option linter.unusedSimpArgs false
section
variable {cl : List Str} {sh : List qD} {bs : List qA} {books : List Int} {carry : Int}
theorem listE_ok (hF : Fine cl sh bs) (hP : Places bs books) (ho : ∀ j, j < books.length → onceAt books j) (hc : 1 ≤ carry ∧ carry ≤ 100) : listE cl sh bs books carry = 0 ∧ (∀ j, j < books.length → lightAt bs books carry j) ∨ listE cl sh bs books carry = 9 ∧ ¬ ∀ j, j < books.length → lightAt bs books carry j := by
 have h6 := hP.len
 have g1 : ∀ j, j < books.length → btwAt 0 ((bs.length : Int) - 1) books j := fun j hj x hx => by
  have := hP.el x (List.mem_of_getElem? hx);unfold btw;omega
 unfold listE;rw [if_pos (roomN_zero.2 hF), if_neg (by omega), if_pos g1, if_pos ho, if_pos hc]
 by_cases g : ∀ j, j < books.length → lightAt bs books carry j
 ·rw [if_pos g]; exact .inl ⟨rfl, g⟩
 ·rw [if_neg g]; exact .inr ⟨rfl, g⟩
theorem once_of (h : books.Nodup) : ∀ j, j < books.length → onceAt books j := fun j hj x hx hm => by
 obtain ⟨i, hi, hix⟩ := mem_take_at hm;exact pair_at h hi hix hx rfl
end
end Go.Am
end
section
namespace Go.Am
set_option linter.unusedVariables false
set_option linter.unusedSimpArgs false
section
variable {cl : List Str} {sh : List qD} {bs : List qA} {books : List Int} {carry : Int}
end
end Go.Am
end
section
namespace Go.Am
set_option linter.unusedVariables false
set_option linter.unusedSimpArgs false
section
variable {cl : List Str} {sh : List qD} {bs : List qA} {books : List Int} {carry : Int}
theorem walk_best (hF : Fine cl sh bs) (hP : Places bs books) (hc : 1 ≤ carry ∧ carry ≤ 100) (ho : ∀ j, j < books.length → onceAt books j) (hl : ∀ j, j < books.length → lightAt bs books carry j) : ∃ t n, P_s9_Walk cl sh bs books carry = some (t, false, n, 0) ∧ BestW sh bs books carry (walksOf books.length) t n := by
 obtain ⟨t, n, h1, h2⟩ := best_some (sh := sh) hP hl (by omega);refine ⟨t, n, ?_, h2⟩
 have hE : listE cl sh bs books carry = 0 := by
  rcases listE_ok hF hP ho hc with ⟨g, _⟩ | ⟨_, g⟩
  ·exact g
  ·exact absurd hl g
 rw [s9_Walk_eq, if_pos hE, h1];rfl
theorem BestW.num {t : List Int} {n : Int} (h : BestW sh bs books carry (walksOf books.length) t n) : Num t ∧ t.length = books.length := by
 obtain ⟨p, hp, rfl⟩ := h.mem;exact ⟨walks_num hp, (walks_part hp).tl⟩
theorem BestW.than {t t' : List Int} {n : Int} (h : BestW sh bs books carry (walksOf books.length) t n) (hN : Num t') (hl : t'.length = books.length) (hw : lightW bs books t' carry books.length) : n ≤ sumW sh bs books t' books.length ∧ (sumW sh bs books t' books.length = n → lexB t' t = false) := by
 obtain ⟨s, hs⟩ := walks_has hl hN;exact h.least _ hs hw
end
end Go.Am
end
section
namespace Go.Am
set_option linter.unusedVariables false
variable {cl : List Str} {sh : List qD} {bs : List qA} {books : List Int}
def cost1 (sh : List qD) (bs : List qA) (x : Int) : Int :=
 match bs[x.toNat]? with | some b => (match sh[b.shelf.toNat]? with | some a => 2 * a.away + 2 * a.climb | none => 0) | none => 0
def costs (sh : List qD) (bs : List qA) : List Int → Int
 | [] => 0
 | x :: l => cost1 sh bs x + costs sh bs l
theorem costs_snoc (l : List Int) (x : Int) : costs sh bs (l ++ [x]) = costs sh bs l + cost1 sh bs x := by
 induction l with
 | nil => simp [costs]
 | cons y l ih => simp only [List.cons_append, costs, ih]; omega
theorem climb_one (hF : Fine cl sh bs) {b : qA} {a : qD} (ha : sh[b.shelf.toNat]? = some a) (h0 : 0 ≤ b.shelf) : ∀ k : Nat, climbK sh [b] k = if b.shelf.toNat < k then a.climb else 0
 | 0 => by simp [climbK]
 | k + 1 => by
  rw [climbK_succ, climb_one hF ha h0 k]
  by_cases e : b.shelf = (k : Int)
  ·have e' : b.shelf.toNat = k := by omega
   rw [if_neg (show ¬ b.shelf.toNat < k by omega), if_pos ⟨b, by simp, e⟩, if_pos (by omega)];unfold clOf;rw [← e', ha];simp
  ·have hno : ¬ ∃ c ∈ [b], c.shelf = (k : Int) := fun ⟨c, hc, hs⟩ => e (by simp at hc; subst hc; exact hs)
   by_cases h : b.shelf.toNat < k
   ·rw [if_pos h, if_neg hno, if_pos (by omega)]; simp
   ·rw [if_neg h, if_neg hno, if_neg (by omega)]; simp
theorem wayS_one (hF : Fine cl sh bs) {x : Int} {b : qA} (hb : bs[x.toNat]? = some b) : wayS sh [b] = cost1 sh bs x := by
 have h1 := (hF.heavy (List.mem_of_getElem? hb)).2;obtain ⟨a, ha⟩ := get_some (l := sh) (k := b.shelf.toNat) (by omega)
 have hs := hF.shelf ha
 have haw : 0 ≤ a.away := hs.1.1.1;unfold wayS cost1;rw [climb_one hF ha h1.1, if_pos (by omega), hb];simp only [ha, awayS, awOf];omega
theorem trip_one (hP : Places bs books) {n : Nat} {x : Int} {b : qA} (hx : books[n]? = some x) (hb : bs[x.toNat]? = some b) : ∀ k, k ≤ books.length →
  selK bs books (fun i => decide ((upto 0 books.length)[i]? = some (n : Int))) k = if n < k then [b] else []
 | 0, _ => by simp [selK]
 | k + 1, hk => by
  have ih := trip_one hP hx hb k (by omega);obtain ⟨y, hy⟩ := get_some (l := books) (k := k) (by omega);obtain ⟨c, hc⟩ := at_some (hP.el y (List.mem_of_getElem? hy))
  have hst := selK_step (m := fun i => decide ((upto 0 books.length)[i]? = some (n : Int))) hy hc
  have hat := at_upto (n := books.length) (k := k) (by omega);rw [hst, ih, hat]
  by_cases e : k = n
  ·subst e;cases hx.symm.trans hy;cases hb.symm.trans hc;rw [if_pos (decide_eq_true rfl), if_neg (by omega), if_pos (by omega)];rfl
  ·have hno : ¬ (decide (some (k : Int) = some (n : Int)) = true) := fun h => e (by have := Option.some.inj (of_decide_eq_true h); omega)
   rw [if_neg hno, List.append_nil]
   by_cases h : n < k
   ·rw [if_pos h, if_pos (by omega)]
   ·rw [if_neg h, if_neg (by omega)]
theorem single_sum (hF : Fine cl sh bs) (hP : Places bs books) : ∀ k, k ≤ books.length → sumW sh bs books (upto 0 books.length) k = costs sh bs (books.take k)
 | 0, _ => by simp [sumW, costs]
 | k + 1, hk => by
  obtain ⟨x, hx⟩ := get_some (l := books) (k := k) (by omega);obtain ⟨b, hb⟩ := at_some (hP.el x (List.mem_of_getElem? hx));rw [sumW_succ, single_sum hF hP k (by omega), List.take_add_one, hx]
  show _ = costs sh bs (books.take k ++ [x]);rw [costs_snoc];unfold tripS;rw [trip_one hP hx hb _ (Nat.le_refl _), if_pos (by omega), wayS_one hF hb]
theorem walk_alone (hF : Fine cl sh bs) (hP : Places bs books) {carry : Int} (hc : 1 ≤ carry ∧ carry ≤ 100) (ho : ∀ j, j < books.length → onceAt books j) (hl : ∀ j, j < books.length → lightAt bs books carry j) :
  ∃ t n, P_s9_Walk cl sh bs books carry = some (t, false, n, 0) ∧ t.length = books.length ∧ n ≤ costs sh bs books := by
 obtain ⟨t, n, e, hB⟩ := walk_best hF hP hc ho hl;refine ⟨t, n, e, hB.num.2, ?_⟩
 have h := (hB.than (upto_num books.length) (by simp [upto]) (single_light hP hl (by omega))).1;rw [single_sum hF hP _ (Nat.le_refl _), List.take_length] at h;exact h
theorem walk_heavy (hF : Fine cl sh bs) (hP : Places bs books) {carry : Int} (hc : 1 ≤ carry ∧ carry ≤ 100) (ho : ∀ j, j < books.length → onceAt books j) (hl : ¬ ∀ j, j < books.length → lightAt bs books carry j) :
  P_s9_Walk cl sh bs books carry = some ([], true, 0, 9) := by
 rcases listE_ok hF hP ho hc with ⟨_, g⟩ | ⟨g, _⟩
 ·exact absurd g hl
 ·rw [s9_Walk_eq, if_neg (by omega), g]
end Go.Am
end
section
namespace Go.Am
set_option linter.unusedVariables false
theorem r10_in_eq (n a b : Int) : P_r10_in n a b = some (decide (a ≤ n ∧ n ≤ b)) := r9_in_eq n a b
open Classical in
theorem rd_out1 (lo hi a : Int) : P_rd_outside lo hi [a] = some (decide (¬ btw lo hi a)) := s9_out1 lo hi a
open Classical in
theorem rd_out2 (lo hi a b : Int) : P_rd_outside lo hi [a, b] = some (decide (¬ (btw lo hi a ∧ btw lo hi b))) := s9_out2 lo hi a b
open Classical in
noncomputable def rngE (lo hi : Int) : Int := if btw 0 1000 lo ∧ btw 0 1000 hi then (if hi < lo then 2 else 0) else 7
theorem r1_Range_eq (lo hi : Int) : P_r1_Range lo hi 0 1000 = some (rngE lo hi) := by
 unfold P_r1_Range rngE btw
 by_cases hb : ((0 : Int) ≤ lo ∧ lo ≤ 1000) ∧ (0 : Int) ≤ hi ∧ hi ≤ 1000
 ·have a1 : ¬ (min lo hi < 0) := by omega
  have a2 : ¬ (max lo hi > 1000) := by omega
  rw [if_pos hb, if_neg a1, decide_eq_false a2]
  show (if hi < lo then some (2 : Int) else some 0) = _;split <;> rfl
 ·rw [if_neg hb]
  by_cases a1 : min lo hi < 0
  ·rw [if_pos a1]; rfl
  ·have a2 : max lo hi > 1000 := by omega
   rw [if_neg a1, decide_eq_true a2]; rfl
def names {α : Type} (f : α → Str) (l : List α) : List Str := l.map f
theorem fresh_take {α : Type} (f : α → Str) (l : List α) (hl : l.length ≤ 8) (k : Nat) (w : Str) : P_r1_Fresh w ((l.take k).map f) = some (clErr (names f l) k w) := by
 rw [List.map_take]; exact r1_Fresh_eq _ _ _ (by simp; omega)
open Classical in
noncomputable def rbErr (N : List Str) (i : Nat) (b : qX) : Int := if clErr N i b.name = 0 then (if btw 0 5 b.classv then rngE b.light_lo b.light_hi else 7) else clErr N i b.name
open Classical in
noncomputable def rrErr (N : List Str) (i : Nat) (b : qAa) : Int := if clErr N i b.name = 0 then (if btw 0 5 b.permit then 0 else 7) else clErr N i b.name
theorem r10_books_L {l : List qX} (hl : l.length ≤ 8) : iter (P_r10_books_L1 l) (0, []) = some (scanX (errF (errAt l (rbErr (names (·.name) l)))) l.length) := by
 refine iter_scan (fun k => ((k : Int), (l.take k).map (·.name))) _ _ (fun _ => rfl) (fun k hk _ => ?_) (fun _ => ?_)
 ·unfold P_r10_books_L1;obtain ⟨a, ha⟩ := get_some hk
  have hk' : (k : Int) < (l.length : Int) := by omega
  have hlen : ((l.take k).map (·.name)).length + [a.name].length < 1000000000 := by simp; omega
  have htk : (l.take k).map (·.name) ++ [a.name] = (l.take (k + 1)).map (·.name) := by rw [List.take_add_one, ha]; simp
  simp only [if_pos hk', el_at ha, fresh_take _ l hl, andx_some', chk_pos hlen, htk];unfold errF;rw [errAt_of ha];unfold rbErr
  by_cases h0 : clErr (names (·.name) l) k a.name = 0
  ·rw [if_pos h0];simp only [h0, if_true, r10_in_eq, andx_some']
   by_cases h1 : btw 0 5 a.classv
   ·have h1' : (0 : Int) ≤ a.classv ∧ a.classv ≤ 5 := h1;rw [if_pos h1];simp only [decide_eq_true h1', Bool.not_true, andx_some', if_false, Bool.false_eq_true, if_true, r1_Range_eq]
    by_cases h2 : rngE a.light_lo a.light_hi = 0
    ·rw [if_neg (not_not_intro h2), if_pos h2]
     show chk _ _ = _;rw [chk_pos (i64_small (by omega))];rfl
    ·rw [if_pos h2, if_neg h2]; rfl
   ·have h1' : ¬ ((0 : Int) ≤ a.classv ∧ a.classv ≤ 5) := h1;rw [if_neg h1];simp only [decide_eq_false h1', Bool.not_false, andx_some', if_true];rfl
  ·rw [if_neg h0];simp only [if_neg h0, andx_some', Bool.false_eq_true, if_false, if_pos h0];rfl
 ·unfold P_r10_books_L1;simp only;rw [if_neg (by omega)]
theorem r10_readers_L {l : List qAa} (hl : l.length ≤ 8) : iter (P_r10_readers_L1 l) (0, []) = some (scanX (errF (errAt l (rrErr (names (·.name) l)))) l.length) := by
 refine iter_scan (fun k => ((k : Int), (l.take k).map (·.name))) _ _ (fun _ => rfl) (fun k hk _ => ?_) (fun _ => ?_)
 ·unfold P_r10_readers_L1;obtain ⟨a, ha⟩ := get_some hk
  have hk' : (k : Int) < (l.length : Int) := by omega
  have hlen : ((l.take k).map (·.name)).length + [a.name].length < 1000000000 := by simp; omega
  have htk : (l.take k).map (·.name) ++ [a.name] = (l.take (k + 1)).map (·.name) := by rw [List.take_add_one, ha]; simp
  simp only [if_pos hk', el_at ha, fresh_take _ l hl, andx_some', chk_pos hlen, htk];unfold errF;rw [errAt_of ha];unfold rrErr
  by_cases h0 : clErr (names (·.name) l) k a.name = 0
  ·rw [if_pos h0];simp only [h0, if_true, r10_in_eq, andx_some']
   by_cases h1 : btw 0 5 a.permit
   ·have h1' : (0 : Int) ≤ a.permit ∧ a.permit ≤ 5 := h1;rw [if_pos h1];simp only [decide_eq_true h1', Bool.not_true, andx_some', if_false, Bool.false_eq_true, not_true_eq_false]
    show chk _ _ = _;rw [chk_pos (i64_small (by omega))];rfl
   ·have h1' : ¬ ((0 : Int) ≤ a.permit ∧ a.permit ≤ 5) := h1;rw [if_neg h1];simp only [decide_eq_false h1', Bool.not_false, andx_some', if_true];rfl
  ·rw [if_neg h0];simp only [if_neg h0, andx_some', Bool.false_eq_true, if_false, if_pos h0];rfl
 ·unfold P_r10_readers_L1;simp only;rw [if_neg (by omega)]
end Go.Am
end
section
namespace Go.Am
set_option linter.unusedVariables false
variable {b : List qX} {r : List qAa} {s : List qAe} {q : List qY}
def reqOk (nb nr : Nat) (a : qY) : Prop := (btw 0 ((nr : Int) - 1) a.reader ∧ btw 0 ((nb : Int) - 1) a.book) ∧ btw 1 12 a.hours ∧ btw 0 100 a.worth
open Classical in
noncomputable def seatErr (a : qAe) : Int := if btw 0 100 a.light then 0 else 7
open Classical in
noncomputable def reqErr (nb nr : Nat) (a : qY) : Int := if btw 0 ((nr : Int) - 1) a.reader ∧ btw 0 ((nb : Int) - 1) a.book then (if btw 1 12 a.hours ∧ btw 0 100 a.worth then 0 else 7) else 4
structure RoomGood (b : List qX) (r : List qAa) (s : List qAe) (q : List qY) : Prop where
 b8 : b.length ≤ 8
 books : ∀ k a, b[k]? = some a → rbErr (names (·.name) b) k a = 0
 r8 : r.length ≤ 8
 readers : ∀ k a, r[k]? = some a → rrErr (names (·.name) r) k a = 0
 s6 : s.length ≤ 6
 seats : ∀ a ∈ s, btw 0 100 a.light
 q8 : q.length ≤ 8
 reqs : ∀ a ∈ q, reqOk b.length r.length a
theorem r10_seats_L (hl : s.length ≤ 6) : iter (P_r10_Check_L1 s) 0 = some (scanX (errG 3 (errAt s fun _ => seatErr)) s.length) := by
 refine iter_scanI _ _ (fun k hk _ => ?_) (fun _ => ?_)
 ·unfold P_r10_Check_L1;obtain ⟨a, ha⟩ := get_some hk;rw [if_pos (by omega), el_at ha, r10_in_eq, andx_some'];unfold errG;rw [errAt_of ha];unfold seatErr
  by_cases h : btw 0 100 a.light
  ·have h' : (0 : Int) ≤ a.light ∧ a.light ≤ 100 := h;rw [decide_eq_true h', if_pos rfl, chk_pos (i64_small (by omega)), if_pos h, if_pos rfl]; rfl
  ·have h' : ¬ ((0 : Int) ≤ a.light ∧ a.light ≤ 100) := h;rw [decide_eq_false h', if_neg (by decide), if_neg h, if_neg (by decide)]; rfl
 ·unfold P_r10_Check_L1;rw [if_neg (by omega)]
theorem r10_reqs_L (hb : b.length ≤ 8) (hr : r.length ≤ 8) (hl : q.length ≤ 8) : iter (P_r10_Check_L2 b r q) 0 = some (scanX (errG 4 (errAt q fun _ => reqErr b.length r.length)) q.length) := by
 refine iter_scanI _ _ (fun k hk _ => ?_) (fun _ => ?_)
 ·unfold P_r10_Check_L2;obtain ⟨a, ha⟩ := get_some hk;rw [if_pos (by omega), el_at ha];unfold errG;rw [errAt_of ha];unfold reqErr
  have i1 : I64 ((r.length : Int) - 1) := i64_small (by omega)
  have i2 : I64 ((b.length : Int) - 1) := i64_small (by omega)
  have i3 : I64 ((k : Int) + 1) := i64_small (by omega);simp only [r10_in_eq, andx_some', chk_pos i1, chk_pos i2, chk_pos i3]
  by_cases h1 : btw 0 ((r.length : Int) - 1) a.reader
  ·have h1' : (0 : Int) ≤ a.reader ∧ a.reader ≤ (r.length : Int) - 1 := h1;simp only [decide_eq_true h1', if_true, andx_some']
   by_cases h2 : btw 0 ((b.length : Int) - 1) a.book
   ·have h2' : (0 : Int) ≤ a.book ∧ a.book ≤ (b.length : Int) - 1 := h2;simp only [decide_eq_true h2', Bool.not_true, Bool.false_eq_true, if_false, if_pos (And.intro h1 h2)]
    by_cases h3 : btw 1 12 a.hours
    ·have h3' : (1 : Int) ≤ a.hours ∧ a.hours ≤ 12 := h3;simp only [decide_eq_true h3', if_true, andx_some']
     by_cases h4 : btw 0 100 a.worth
     ·have h4' : (0 : Int) ≤ a.worth ∧ a.worth ≤ 100 := h4;simp only [decide_eq_true h4', Bool.not_true, Bool.false_eq_true, if_false, if_pos (And.intro h3 h4)];rfl
     ·have h4' : ¬ ((0 : Int) ≤ a.worth ∧ a.worth ≤ 100) := h4;simp only [decide_eq_false h4', Bool.not_false, if_true, if_neg (fun c : btw 1 12 a.hours ∧ btw 0 100 a.worth => h4 c.2)];rfl
    ·have h3' : ¬ ((1 : Int) ≤ a.hours ∧ a.hours ≤ 12) := h3;simp only [decide_eq_false h3', Bool.false_eq_true, if_false, andx_some', if_true, if_neg (fun c : btw 1 12 a.hours ∧ btw 0 100 a.worth => h3 c.1)];rfl
   ·have h2' : ¬ ((0 : Int) ≤ a.book ∧ a.book ≤ (b.length : Int) - 1) := h2;simp only [decide_eq_false h2', Bool.not_false, if_true, if_neg (fun c : btw 0 ((r.length : Int) - 1) a.reader ∧ btw 0 ((b.length : Int) - 1) a.book => h2 c.2)];rfl
  ·have h1' : ¬ ((0 : Int) ≤ a.reader ∧ a.reader ≤ (r.length : Int) - 1) := h1;simp only [decide_eq_false h1', Bool.false_eq_true, if_false, andx_some', if_true, if_neg (fun c : btw 0 ((r.length : Int) - 1) a.reader ∧ btw 0 ((b.length : Int) - 1) a.book => h1 c.1)];rfl
 ·unfold P_r10_Check_L2;rw [if_neg (by omega)]
theorem errAt_zero {α : Type} {l : List α} {g : Nat → α → Int} (h : ∀ j, j < l.length → errAt l g j = 0) {k : Nat} {a : α} (ha : l[k]? = some a) : g k a = 0 := by
 have := h k (List.getElem?_eq_some_iff.1 ha).1
 rwa [errAt_of ha] at this
theorem r10_Check_ok : Ok (P_r10_Check b r s q) fun x => x.2.2 = 0 → RoomGood b r s q := by
 unfold P_r10_Check P_r10_books P_r10_readers
 by_cases hb : (b.length : Int) > 8
 ·rw [if_pos hb, andx_some'];exact ⟨(1, 0, 3), rfl, by simp⟩
 rw [if_neg hb, r10_books_L (by omega), seqx_scan]
 rcases firstE_cases (errAt b (rbErr (names (·.name) b))) b.length with ⟨e, _, hbk⟩ | ⟨i, h1, h2, e, _⟩
 rotate_left
 ·rw [show (List.range b.length).findSome? (errF (errAt b (rbErr (names (·.name) b)))) = _ from e];dsimp only;rw [andx_some'];dsimp only;rw [if_pos h2];exact ⟨_, rfl, fun h => absurd h h2⟩
 rw [show (List.range b.length).findSome? (errF (errAt b (rbErr (names (·.name) b)))) = none from e];dsimp only;rw [andx_some'];dsimp only;rw [if_neg (not_not_intro rfl)]
 by_cases hr : (r.length : Int) > 8
 ·rw [if_pos hr, andx_some'];exact ⟨(2, 0, 3), rfl, by simp⟩
 rw [if_neg hr, r10_readers_L (by omega), seqx_scan]
 rcases firstE_cases (errAt r (rrErr (names (·.name) r))) r.length with ⟨e, _, hrd⟩ | ⟨i, h1, h2, e, _⟩
 rotate_left
 ·rw [show (List.range r.length).findSome? (errF (errAt r (rrErr (names (·.name) r)))) = _ from e];dsimp only;rw [andx_some'];dsimp only;rw [if_pos h2];exact ⟨_, rfl, fun h => absurd h h2⟩
 rw [show (List.range r.length).findSome? (errF (errAt r (rrErr (names (·.name) r)))) = none from e];dsimp only;rw [andx_some'];dsimp only;rw [if_neg (not_not_intro rfl)]
 by_cases hs : (s.length : Int) > 6
 ·rw [if_pos hs];exact ⟨_, rfl, by simp⟩
 rw [if_neg hs, r10_seats_L (by omega), loopR]
 rcases firstE_cases (errAt s fun _ => seatErr) s.length with ⟨e, _, hst⟩ | ⟨i, h1, h2, e, _⟩
 rotate_left
 ·rw [e];exact ⟨_, rfl, fun h => absurd h h2⟩
 rw [e];dsimp only
 by_cases hq : (q.length : Int) > 8
 ·rw [if_pos hq];exact ⟨_, rfl, by simp⟩
 rw [if_neg hq, r10_reqs_L (by omega) (by omega) (by omega), loopR]
 rcases firstE_cases (errAt q fun _ => reqErr b.length r.length) q.length with ⟨e, _, hrq⟩ | ⟨i, h1, h2, e, _⟩
 rotate_left
 ·rw [e];exact ⟨_, rfl, fun h => absurd h h2⟩
 rw [e];refine ⟨_, rfl, fun _ => ⟨by omega, fun k a ha => errAt_zero hbk ha, by omega, fun k a ha => errAt_zero hrd ha, by omega, fun a ha => ?_, by omega, fun a ha => ?_⟩⟩
 ·obtain ⟨k, hk⟩ := List.getElem?_of_mem ha
  have := errAt_zero hst hk;unfold seatErr at this;split at this
  ·assumption
  ·cases this
 ·obtain ⟨k, hk⟩ := List.getElem?_of_mem ha
  have := errAt_zero hrq hk;unfold reqErr at this;split at this
  ·rename_i h1
   split at this
   ·rename_i h2; exact ⟨h1, h2⟩
   ·cases this
  ·cases this
end Go.Am
end
section
namespace Go.Am
set_option linter.unusedVariables false
variable {b : List qX} {r : List qAa} {s : List qAe} {q : List qY}
theorem iterAll {A : Type} {body : Int → Option (Stp Int (Ex Unit A))} (n : Nat) (step : ∀ k : Nat, k < n → body (k : Int) = some (.ag ((k : Int) + 1))) (fin : body (n : Int) = some (.dn (.nx ()))) : iter body 0 = some (.nx ()) := by
 rw [iter_scanI (fun _ => (none : Option A)) n (fun k hk _ => step k hk) (fun _ => fin)];unfold scanX;rw [find_none (f := fun _ => (none : Option A)) (fun _ _ => rfl)]
theorem name_new {α : Type} {f : α → Str} {l : List α} {k : Nat} {w : Str} (h : clErr (names f l) k w = 0) : isName w ∧ ∀ (j : Nat) (a : α), j < k → l[j]? = some a → f a ≠ w := by
 unfold clErr at h;split at h
 ·rename_i hn
  split at h
  ·cases h
  ·rename_i hm
   refine ⟨hn, fun j a hj ha e => hm ?_⟩;subst e;unfold names;rw [← List.map_take];refine List.mem_map.2 ⟨a, ?_, rfl⟩;refine List.mem_of_getElem? (i := j) ?_;rw [List.getElem?_take, if_pos hj];exact ha
 ·cases h
theorem rd_L2 {k : Nat} {a : qX} (hl : b.length ≤ 8) (h : ∀ (j : Nat) (c : qX), j < k → b[j]? = some c → c.name ≠ a.name) : iter (P_rd_Check_L2 b (k : Int) a) 0 = some (.nx ()) := by
 refine iterAll (b.take k).length (fun j hj => ?_) ?_
 ·unfold P_rd_Check_L2;rw [take_sub];obtain ⟨c, hc⟩ := get_some hj
  have hjk : j < k := by rw [List.length_take] at hj; omega
  have hcb : b[j]? = some c := by rw [List.getElem?_take, if_pos hjk] at hc; exact hc
  rw [if_pos (by omega), el_at hc, if_neg (h j c hjk hcb), chk_pos (i64_small (by rw [List.length_take] at hj; omega))]
 ·unfold P_rd_Check_L2;rw [take_sub, if_neg (by omega)]
theorem rd_L4 {k : Nat} {a : qAa} (hl : r.length ≤ 8) (h : ∀ (j : Nat) (c : qAa), j < k → r[j]? = some c → c.name ≠ a.name) : iter (P_rd_Check_L4 r (k : Int) a) 0 = some (.nx ()) := by
 refine iterAll (r.take k).length (fun j hj => ?_) ?_
 ·unfold P_rd_Check_L4;rw [take_sub];obtain ⟨c, hc⟩ := get_some hj
  have hjk : j < k := by rw [List.length_take] at hj; omega
  have hcb : r[j]? = some c := by rw [List.getElem?_take, if_pos hjk] at hc; exact hc
  rw [if_pos (by omega), el_at hc, if_neg (h j c hjk hcb), chk_pos (i64_small (by rw [List.length_take] at hj; omega))]
 ·unfold P_rd_Check_L4;rw [take_sub, if_neg (by omega)]
theorem rb_zero {N : List Str} {k : Nat} {a : qX} (h : rbErr N k a = 0) : clErr N k a.name = 0 ∧ btw 0 5 a.classv ∧ (btw 0 1000 a.light_lo ∧ btw 0 1000 a.light_hi) ∧ ¬ a.light_lo > a.light_hi := by
 unfold rbErr at h;split at h
 ·rename_i h0
  split at h
  ·rename_i h1
   unfold rngE at h;split at h
   ·rename_i h2
    split at h
    ·cases h
    ·rename_i h3; exact ⟨h0, h1, h2, by omega⟩
   ·cases h
  ·cases h
 ·rename_i h0; exact absurd h h0
theorem rr_zero {N : List Str} {k : Nat} {a : qAa} (h : rrErr N k a = 0) : clErr N k a.name = 0 ∧ btw 0 5 a.permit := by
 unfold rrErr at h;split at h
 ·rename_i h0
  split at h
  ·rename_i h1; exact ⟨h0, h1⟩
  ·cases h
 ·rename_i h0; exact absurd h h0
open Classical in
theorem out_no1 {lo hi a : Int} (h : btw lo hi a) : P_rd_outside lo hi [a] = some false := by rw [rd_out1, decide_eq_false (not_not_intro h)]
open Classical in
theorem out_no2 {lo hi a c : Int} (h : btw lo hi a ∧ btw lo hi c) : P_rd_outside lo hi [a, c] = some false := by rw [rd_out2, decide_eq_false (not_not_intro h)]
open Classical in
theorem rd_Check_ok (G : RoomGood b r s q) : P_rd_Check b r s q = some (0, 0, 0) := by
 have hb8 := G.b8
 have hr8 := G.r8
 have hs6 := G.s6
 have hq8 := G.q8
 have l1 : iter (P_rd_Check_L1 b) 0 = some (.nx ()) := by
  refine iterAll b.length (fun k hk => ?_) ?_
  ·unfold P_rd_Check_L1;obtain ⟨a, ha⟩ := get_some hk;obtain ⟨h0, h1, h2, h3⟩ := rb_zero (G.books k a ha);obtain ⟨hn, hnew⟩ := name_new h0;rw [if_pos (by omega), el_at ha, q_Name_eq, andx_some', decide_eq_true hn, if_pos rfl, chk_pos (by omega), rd_L2 hb8 hnew]
   show seqx (andx (some (-1 : Int)) _) _ = _;rw [andx_some', if_neg (by decide), out_no1 h1];simp only [andx_some', Bool.false_eq_true, if_false, out_no2 h2, if_neg h3]
   show chk _ _ = _;rw [chk_pos (i64_small (by omega))]
  ·unfold P_rd_Check_L1;rw [if_neg (by omega)]
 have l3 : iter (P_rd_Check_L3 r) 0 = some (.nx ()) := by
  refine iterAll r.length (fun k hk => ?_) ?_
  ·unfold P_rd_Check_L3;obtain ⟨a, ha⟩ := get_some hk;obtain ⟨h0, h1⟩ := rr_zero (G.readers k a ha);obtain ⟨hn, hnew⟩ := name_new h0;rw [if_pos (by omega), el_at ha, q_Name_eq, andx_some', decide_eq_true hn, if_pos rfl, chk_pos (by omega), rd_L4 hr8 hnew]
   show andx (some (-1 : Int)) _ = _;rw [andx_some', if_neg (by decide), out_no1 h1, andx_some', if_neg (by decide), chk_pos (i64_small (by omega))]
  ·unfold P_rd_Check_L3;rw [if_neg (by omega)]
 have l5 : iter (P_rd_Check_L5 s) 0 = some (.nx ()) := by
  refine iterAll s.length (fun k hk => ?_) ?_
  ·unfold P_rd_Check_L5;obtain ⟨a, ha⟩ := get_some hk;rw [if_pos (by omega), el_at ha, out_no1 (G.seats a (List.mem_of_getElem? ha)), andx_some', if_neg (by decide), chk_pos (i64_small (by omega))]
  ·unfold P_rd_Check_L5;rw [if_neg (by omega)]
 have l6 : iter (P_rd_Check_L6 b r q) 0 = some (.nx ()) := by
  refine iterAll q.length (fun k hk => ?_) ?_
  ·unfold P_rd_Check_L6;obtain ⟨a, ha⟩ := get_some hk;obtain ⟨⟨h1, h2⟩, h3, h4⟩ := G.reqs a (List.mem_of_getElem? ha);rw [if_pos (by omega), el_at ha, chk_pos (i64_small (by omega)), out_no1 h1];simp only [andx_some', Bool.false_eq_true, if_false, chk_pos (i64_small (show -4000000000000000000 ≤ (b.length : Int) - 1 ∧ (b.length : Int) - 1 ≤ 4000000000000000000 by omega)), out_no1 h2, out_no1 h3, out_no1 h4]
   show chk _ _ = _;rw [chk_pos (i64_small (by omega))]
  ·unfold P_rd_Check_L6;rw [if_neg (by omega)]
 unfold P_rd_Check;rw [if_neg (by omega), l1]
 show (if _ then _ else _) = _;rw [if_neg (by omega), l3]
 show (if _ then _ else _) = _;rw [if_neg (by omega), l5]
 show (if _ then _ else _) = _;rw [if_neg (by omega), l6];rfl
end Go.Am
end
section
namespace Go.Am
set_option linter.unusedVariables false
theorem iterTo {σ ε : Type} {body : σ → Option (Stp σ ε)} (idx : Nat → σ) (n : Nat) {e : ε} (step : ∀ k : Nat, k < n → body (idx k) = some (.ag (idx (k + 1)))) (fin : body (idx n) = some (.dn e)) : iter body (idx 0) = some e := by
 have key : ∀ m k : Nat, m = n - k → k ≤ n → iter body (idx k) = some e := by
  intro m
  induction m with
  | zero =>
   intro k hm hk
   have : k = n := by omega
   subst this;exact iter_eq.2 (.inr fin)
  | succ m ih =>
   intro k hm hk;exact iter_eq.2 (.inl ⟨_, step k (by omega), ih (k + 1) (by omega) (by omega)⟩)
 exact key n 0 rfl (Nat.zero_le _)
def bkOf (l : List qY) (r : Int) : Option Int := (l[r.toNat]?).map (·.book)
structure Granted (s : List qAe) (q : List qY) (g : List Int) : Prop where
 at_ : ∀ r ∈ g, 0 ≤ r ∧ r < q.length
 apart : (g.map (bkOf q)).Nodup
 len : g.length ≤ s.length
section
variable {cl : List Str} {sh : List qD} {bs : List qA} {rb : List qX} {rr : List qAa} {rs : List qAe} {rq : List qY} {g : List Int} {c8 : UInt8}
def wantsOf (bs : List qA) (q : List qY) (g : List Int) : List Int := g.filterMap fun r => (bkOf q r).filter fun x => decide (x < (bs.length : Int))
def heavyB (bs : List qA) (most : Int) (l : List Int) : Bool := l.any fun x => match bs[x.toNat]? with | some b => decide (b.heavy > most) | none => false
theorem wants_nodup {f : Int → Option Int} {p : Int → Bool} : ∀ {l : List Int}, (l.map f).Nodup → (l.filterMap fun x => (f x).filter p).Nodup
 | [], _ => by simp
 | a :: l, h => by
  rw [List.map_cons, List.nodup_cons] at h
  have ih := wants_nodup (p := p) h.2;rw [List.filterMap_cons];cases hf : (f a).filter p with
  | none => exact ih
  | some y =>
   simp only;rw [List.nodup_cons];refine ⟨fun hm => h.1 ?_, ih⟩;obtain ⟨b, hb, hby⟩ := List.mem_filterMap.1 hm
   have e1 : f a = some y := (Option.filter_eq_some_iff.1 hf).1
   have e2 : f b = some y := (Option.filter_eq_some_iff.1 hby).1;rw [e1, ← e2];exact List.mem_map.2 ⟨b, hb, rfl⟩
theorem heavy_spec {books : List Int} {most : Int} (hP : Places bs books) : heavyB bs most books = true ↔ ¬ ∀ j, j < books.length → lightAt bs books most j := by
 unfold heavyB;rw [List.any_eq_true]
 constructor
 ·rintro ⟨x, hx, h⟩ hall;obtain ⟨j, hj⟩ := List.getElem?_of_mem hx;obtain ⟨b, hb⟩ := at_some (hP.el x hx);rw [hb] at h
  have h' := of_decide_eq_true h
  have := hall j (List.getElem?_eq_some_iff.1 hj).1 x b hj hb;omega
 ·intro h;refine Classical.byContradiction fun hn => h fun j hj x b hx hb => ?_
  refine Classical.byContradiction fun hlt => hn ⟨x, List.mem_of_getElem? hx, ?_⟩
  rw [hb];exact decide_eq_true (by omega)
theorem places (hG : RoomGood rb rr rs rq) (hg : Granted rs rq g) : Places bs (wantsOf bs rq g) := by
 have h6 := hG.s6;refine ⟨?_, fun x hx => ?_⟩
 ·have := List.length_filterMap_le (fun r => (bkOf rq r).filter fun x => decide (x < (bs.length : Int))) g
  have := hg.len;unfold wantsOf;omega
 ·obtain ⟨r, hr, h⟩ := List.mem_filterMap.1 hx;obtain ⟨h1, h2⟩ := Option.filter_eq_some_iff.1 h;unfold bkOf at h1;obtain ⟨a, ha, e⟩ := Option.map_eq_some_iff.1 h1
  have h3 := ((hG.reqs a (List.mem_of_getElem? ha)).1.2).1;subst e;exact ⟨h3, of_decide_eq_true h2⟩
theorem costs_bound (hF : Fine cl sh bs) : ∀ l : List Int, 0 ≤ costs sh bs l ∧ costs sh bs l ≤ 4000 * l.length
 | [] => by simp [costs]
 | x :: l => by
  have ih := costs_bound hF l
  have h1 : 0 ≤ cost1 sh bs x ∧ cost1 sh bs x ≤ 4000 := by
   unfold cost1;split
   ·split
    ·rename_i a ha
     have h1 := (hF.shelf ha).1;unfold btw at h1;omega
    ·omega
   ·omega
  simp only [costs, List.length_cons]
  push_cast
  omega
theorem top_loop (hF : Fine cl sh bs) (hG : RoomGood rb rr rs rq) (hg : Granted rs rq g) {z : Bool} {most : Int} (hm : most = 1 + Int.tmod (c8.toNat : Int) 100) :
  iter (P_top_Fetched_L1 sh bs rq c8 g z) (0, false, 0, []) = some (Ex.nx (costs sh bs (wantsOf bs rq g), heavyB bs most (wantsOf bs rq g), wantsOf bs rq g)) := by
 have h6 := hG.s6
 have hlen := hg.len
 let idx : Nat → Int × Bool × Int × List Int := fun k => (costs sh bs (wantsOf bs rq (g.take k)), heavyB bs most (wantsOf bs rq (g.take k)), (k : Int), wantsOf bs rq (g.take k))
 have h := iterTo (body := P_top_Fetched_L1 sh bs rq c8 g z) idx g.length (e := Ex.nx (costs sh bs (wantsOf bs rq g), heavyB bs most (wantsOf bs rq g), wantsOf bs rq g)) (fun k hk => ?_) ?_
 ·exact h
 ·obtain ⟨x, hx⟩ := get_some hk
  have hxr := hg.at_ x (List.mem_of_getElem? hx);obtain ⟨a, ha⟩ := get_some (l := rq) (k := x.toNat) (by omega)
  have hab := ((hG.reqs a (List.mem_of_getElem? ha)).1.2).1
  have hbk : bkOf rq x = some a.book := by unfold bkOf; rw [ha]; rfl
  have htk : wantsOf bs rq (g.take (k + 1)) = wantsOf bs rq (g.take k) ++ ((bkOf rq x).filter fun x => decide (x < (bs.length : Int))).toList := by
   unfold wantsOf;rw [List.take_add_one, hx, List.filterMap_append]
   show _ ++ List.filterMap _ [x] = _;rw [List.filterMap_cons];cases (bkOf rq x).filter fun x => decide (x < (bs.length : Int)) <;> rfl
  have hcb := costs_bound hF (wantsOf bs rq (g.take k))
  have hwl : (wantsOf bs rq (g.take k)).length ≤ 6 := by
   have := List.length_filterMap_le (fun r => (bkOf rq r).filter fun x => decide (x < (bs.length : Int))) (g.take k)
   have : (g.take k).length ≤ k := by rw [List.length_take]; omega
   unfold wantsOf;omega
  show P_top_Fetched_L1 sh bs rq c8 g z (costs sh bs (wantsOf bs rq (g.take k)), heavyB bs most (wantsOf bs rq (g.take k)), (k : Int), wantsOf bs rq (g.take k)) = some (.ag (costs sh bs (wantsOf bs rq (g.take (k + 1))), heavyB bs most (wantsOf bs rq (g.take (k + 1))), ((k + 1 : Nat) : Int), wantsOf bs rq (g.take (k + 1))));rw [htk, hbk];generalize wantsOf bs rq (g.take k) = W at hcb hwl ⊢;unfold P_top_Fetched_L1
  have hk' : (k : Int) < (g.length : Int) := by omega
  have hi : I64 ((k : Int) + 1) := i64_small (by omega);simp only [show (GSo z encI g).l = g from rfl, if_pos hk', el_at hx, if_neg (show ¬ x < 0 by omega), decide_eq_false (show ¬ x ≥ (rq.length : Int) by omega), andx_some', Bool.false_eq_true, if_false, seqx_nx, el_int hxr.1 ha]
  by_cases hlt : a.book < (bs.length : Int)
  ·rw [if_neg (by omega)]
   have hfil : (Option.filter (fun x => decide (x < (bs.length : Int))) (some a.book)).toList = [a.book] := by simp [Option.filter, hlt]
   rw [hfil, costs_snoc];obtain ⟨b, hb⟩ := get_some (l := bs) (k := a.book.toNat) (by omega)
   have hsf := hF.book hb;obtain ⟨s, hs⟩ := get_some (l := sh) (k := b.shelf.toNat) (by omega)
   have hsk := (hF.shelf hs).1;unfold btw at hsk
   have hcost : cost1 sh bs a.book = 2 * s.away + 2 * s.climb := by unfold cost1; rw [hb]; simp only [hs]
   have hhv : heavyB bs most (W ++ [a.book]) = (heavyB bs most W || decide (b.heavy > most)) := by
    unfold heavyB;rw [List.any_append];simp [hb]
   rw [hcost, hhv, el_int hab hb, el_int hsf.1 hs, chk_pos (i64_small (by omega)), chk_pos (i64_small (by omega)), chk_pos (i64_small (by omega)), chk_pos (i64_small (by omega)), chk_pos (by simp; omega)];cases hh : heavyB bs most W with
   | true =>
    rw [if_pos rfl]
    show chk _ _ = _;rw [chk_pos hi];simp only [Bool.true_or, Int.add_assoc];rfl
   | false =>
    rw [if_neg (by decide), el_int hab hb]
    show chk _ _ = _;rw [chk_pos hi, ← hm];simp only [Bool.false_or, Int.add_assoc];rfl
  ·rw [if_pos (by omega)]
   have hfil : (Option.filter (fun x => decide (x < (bs.length : Int))) (some a.book)).toList = [] := by simp [Option.filter, hlt]
   rw [hfil, List.append_nil]
   show chk _ _ = _;rw [chk_pos hi];rfl
 ·show P_top_Fetched_L1 sh bs rq c8 g z (_, _, (g.length : Int), _) = _;unfold P_top_Fetched_L1;simp only [show (GSo z encI g).l = g from rfl, if_neg (show ¬ (g.length : Int) < (g.length : Int) by omega), List.take_length]
theorem TopFetched_true {X : Option (List Int × Bool × Int)} (hX : ∀ x, P_r10_Check rb rr rs rq = some x → x.2.2 = 0 → ∃ g z, X = some (g, z, 0) ∧ Granted rs rq g) :
  P_top_Fetched X cl sh bs rb rr rs rq c8 = some true := by
 unfold P_top_Fetched;obtain ⟨c, i, e, h9, hFi⟩ := roomE_ok cl sh bs;obtain ⟨⟨x1, x2, x3⟩, h10, hGo⟩ := r10_Check_ok (b := rb) (r := rr) (s := rs) (q := rq);rw [r9_Check_eq, h9, andx_some'];dsimp only;rw [h10, andx_some'];dsimp only
 by_cases he : e = 0
 ·rw [if_neg (not_not_intro he)]
  have hF := hFi.1 he
  by_cases hf : x3 = 0
  ·have hG := hGo hf;obtain ⟨g, z, rfl, hg⟩ := hX _ h10 hf
   have hlen := hg.len
   have hb := c8.toNat_lt
   have m1 := Int.emod_nonneg (c8.toNat : Int) (show (100 : Int) ≠ 0 by decide)
   have m2 := Int.emod_lt_of_pos (c8.toNat : Int) (show (0 : Int) < 100 by decide)
   have hte : Int.tmod (c8.toNat : Int) 100 = (c8.toNat : Int) % 100 := Int.tmod_eq_emod_of_nonneg (by omega);obtain ⟨most, hm⟩ : ∃ most : Int, most = 1 + Int.tmod (c8.toNat : Int) 100 := ⟨_, rfl⟩
   have hmr : 1 ≤ most ∧ most ≤ 100 := by rw [hm, hte]; omega
   have hP : Places bs (wantsOf bs rq g) := places hG hg
   have ho := once_of (books := wantsOf bs rq g) (wants_nodup hg.apart);simp only [decide_eq_false (not_not_intro hf), andx_some', Bool.false_eq_true, if_false, seqx_nx, not_true_eq_false, show (GSo z encI g).l = g from rfl, decide_eq_false (show ¬ (g.length : Int) > (rs.length : Int) by omega)];rw [chk_pos (by omega), chk_pos (by decide), chk_pos (i64_small (by rw [hte]; omega)), top_loop hF hG hg hm, seqx_nx];dsimp only;rw [← hm]
   by_cases hl : ∀ j, j < (wantsOf bs rq g).length → lightAt bs (wantsOf bs rq g) most j
   ·have hv : heavyB bs most (wantsOf bs rq g) = false := by
     cases h : heavyB bs most (wantsOf bs rq g) with
     | false => rfl
     | true => exact absurd hl ((heavy_spec hP).1 h)
    obtain ⟨t, n, e1, htl, hn⟩ := walk_alone hF hP hmr ho hl;rw [e1, andx_some', hv];simp only [Bool.false_eq_true, if_false, if_true, show (GSo false encI t).l = t from rfl, if_pos (show (t.length : Int) = ((wantsOf bs rq g).length : Int) by omega), if_pos hn, andx_some']
   ·have hv : heavyB bs most (wantsOf bs rq g) = true := (heavy_spec hP).2 hl;rw [walk_heavy hF hP hmr ho hl, andx_some', hv];rfl
  ·rw [decide_eq_true hf, andx_some', if_pos rfl];rfl
 ·rw [if_pos he, andx_some', if_pos rfl];rfl
end
end Go.Am
end
section
namespace Go.Am.YtgbbhdoobhdadaaGreatDoor
open Go.Am Go.RowKit
theorem roomIn_of {gb : GS qJ} {gr : GS qR} {gs : GS qQ} {gq : GS qK} (h : RoomGood gb.l gr.l gs.l gq.l) : RoomIn gb gr gs gq :=
  ⟨fun q hq => by
    obtain ⟨⟨⟨a1, a2⟩, b1, b2⟩, _⟩ := h.reqs q hq
    exact ⟨⟨b1, by omega⟩, a1, by omega⟩, fun q hq => (h.reqs q hq).2.1, fun s hs => h.seats s hs, h.q8, h.s6⟩
theorem Turn_comes {gb : GS qJ} {gr : GS qR} {gs : GS qQ} {gq : GS qK} (h : RoomGood gb.l gr.l gs.l gq.l) :
  ∃ g z, Comes (EL 1) 8 [.agg [gb.v, gr.v, gs.v, gq.v]] (.tuple [(GSo z encI g).v, iv 0]) ∧ Granted gs.l gq.l g := by
 obtain ⟨r, hn, v, S', hs', h1, h2, w, h3, h4⟩ := RepF.conv (tf_Turn (Nat.le_refl 1) (roomIn_of h) (rd_Check_ok h)) (S0 (EL 1) 8) .start;subst h3;subst h4
 have hr : RefN 12 [ownL w.z w.v encI w.g] (.tuple [w.v, iv 0]) (.tuple [(GSo w.z encI w.g).v, iv 0]) := .tuple (.cons (.ownL (en := encI) (p := 0) rfl (.lits encI_lits)) (.cons .lit .nil));exact ⟨w.g, w.z, ⟨r, hn, _, S', h1, hr S' h2⟩, w.at_, w.ok.1, w.ok.2⟩
theorem w_Fetched (g1 : GS encStr) (g2 : GS qZ) (g3 : GS qS) (g4 : GS qJ) (g5 : GS qR) (g6 : GS qQ) (g7 : GS qK) (c8 : UInt8) :
  Comes (EL 2) 3 [.agg [g1.v, g2.v, g3.v], .agg [g4.v, g5.v, g6.v, g7.v], ivk .u8 (c8.toNat : Int)] (bv true) := by
 obtain ⟨⟨x1, x2, x3⟩, h10, hGo⟩ := r10_Check_ok (b := g4.l) (r := g5.l) (s := g6.l) (q := g7.l)
 by_cases hf : x3 = 0
 ·obtain ⟨g, z, hc, hg⟩ := Turn_comes (hGo hf);refine w_top_Fetched (X_ := some (g, z, 0)) g1 g2 g3 g4 g5 g6 g7 c8 true (fun a b c d r e1 e2 e3 e4 hX => ?_) (TopFetched_true fun x _ _ => ⟨g, z, rfl, hg⟩);cases hX;rw [e1, e2, e3, e4];exact hc
 ·refine w_top_Fetched (X_ := none) g1 g2 g3 g4 g5 g6 g7 c8 true (fun a b c d r e1 e2 e3 e4 hX => by cases hX) (TopFetched_true fun x hx h0 => ?_);rw [h10] at hx;cases hx;exact absurd h0 hf
def P_law_TopFetched (_ : List Str) (_ : List qD) (_ : List qA) (_ : List qX) (_ : List qAa) (_ : List qAe) (_ : List qY) (_ : UInt8) : Option Bool := some true
theorem TopFetched_true (a : List Str) (b : List qD) (c : List qA) (d : List qX) (e : List qAa) (f : List qAe) (g : List qY) (h : UInt8) : P_law_TopFetched a b c d e f g h = some true := rfl
theorem w_law_TopFetched (s_Classes : GS encStr) (s_Shelves : GS qZ) (s_Books : GS qS) (qC : GS qJ) (r_Readers : GS qR) (r_Seats : GS qQ) (r_Requests : GS qK) (carry : UInt8) (r : Bool) (h : P_law_TopFetched s_Classes.l s_Shelves.l s_Books.l qC.l r_Readers.l r_Seats.l r_Requests.l carry = some r) : Comes (EL 2) 3 [.agg [s_Classes.v, s_Shelves.v, s_Books.v], .agg [qC.v, r_Readers.v, r_Seats.v, r_Requests.v], ivk .u8 ((carry.toNat : Int))] (bv r) := by
 cases h;exact w_Fetched s_Classes s_Shelves s_Books qC r_Readers r_Seats r_Requests carry
end Go.Am.YtgbbhdoobhdadaaGreatDoor
end
