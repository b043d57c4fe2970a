/- Part 4. -/
import Derived.Test.YthckcbfijdambaaCopyMoreP3
import Derived.WalkKit
import Derived.ProofKit
import Derived.OpenShut
import Derived.ChangeOld
import Derived.Below
import Derived.Carry
section
namespace Go.Am
set_option linter.unusedVariables false
def mateF (mt : List Int) (x : Int) : Int := match mt[x.toNat]? with | some m => m | none => -1
def isPiece (mt gone : List Int) (x : Int) : Bool := decide (mateF mt x < 0 ∨ mateF mt x > x ∨ mateF mt x ∉ gone)
def piecesOf (mt gone : List Int) : Int := (gone.countP (isPiece mt gone) : Nat)
theorem piecesOf_le (mt gone : List Int) : 0 ≤ piecesOf mt gone ∧ piecesOf mt gone ≤ gone.length := by
 unfold piecesOf
 have := List.countP_le_length (p := isPiece mt gone) (l := gone);omega
theorem mem_lostOf {n : Nat} {t : List Int} {x : Int} : x ∈ lostOf n t ↔ 0 ≤ x ∧ x < n ∧ x ∉ t := by
 unfold lostOf;simp only [List.mem_filter, List.mem_map, List.mem_range, decide_eq_true_eq]
 constructor
 ·rintro ⟨⟨i, hi, rfl⟩, h⟩; exact ⟨by omega, by omega, h⟩
 ·rintro ⟨h0, h1, h2⟩; exact ⟨⟨x.toNat, by omega, by omega⟩, h2⟩
theorem lostOf_sorted (n : Nat) (t : List Int) : (lostOf n t).Pairwise (· < ·) := by
 induction n with
 | zero => exact .nil
 | succ n ih =>
  rw [lostOf_succ];split
  ·rw [List.pairwise_append];refine ⟨ih, List.pairwise_singleton _ _, fun a ha b hb => ?_⟩;rw [List.mem_singleton] at hb;subst hb;exact (mem_lostOf.1 ha).2.1
  ·exact ih
theorem sorted_take {l : List Int} (hs : l.Pairwise (· < ·)) {k : Nat} {a x : Int} (ha : l[k]? = some a) : x ∈ l.take (k + 1) ↔ x ∈ l ∧ x ≤ a := by
 obtain ⟨hk, rfl⟩ := List.getElem?_eq_some_iff.1 ha;rw [List.pairwise_iff_getElem] at hs
 constructor
 ·intro h;refine ⟨List.mem_of_mem_take h, ?_⟩;obtain ⟨j, hj, rfl⟩ := List.mem_iff_getElem.1 h;rw [List.getElem_take];rw [List.length_take] at hj
  by_cases e : j = k
  ·subst e; exact Int.le_refl _
  ·exact Int.le_of_lt (hs j k (by omega) hk (by omega))
 ·rintro ⟨h, hle⟩;obtain ⟨j, hj, rfl⟩ := List.mem_iff_getElem.1 h
  have hjk : j ≤ k := by
   by_cases e : j ≤ k
   ·exact e
   ·have := hs k j hk hj (by omega); omega
  exact List.mem_iff_getElem.2 ⟨j, by rw [List.length_take]; omega, by rw [List.getElem_take]⟩
theorem pieces_ok {mt gone : List Int} (hs : gone.Pairwise (· < ·)) (hr : ∀ x ∈ gone, 0 ≤ x ∧ x < mt.length) (hl : gone.length ≤ 1000000) :
  ∃ m, iter (P_c_faults_L1 mt gone) (0, (fun _ => 0), 0) = some (m, piecesOf mt gone) := by
 suffices h : Ok (iter (P_c_faults_L1 mt gone) (0, (fun _ => 0), 0)) (fun s => s.2 = piecesOf mt gone) by
  obtain ⟨⟨m, p⟩, h1, h2⟩ := h;exact ⟨m, by rw [h1, ← h2]⟩
 refine Ok.count (fun s => s.1) gone.length (fun k (s : Int × (Int → Int) × Int) => s.2.1 = cntOf (gone.take k) ∧ s.2.2 = (((gone.take k).countP (isPiece mt gone) : Nat) : Int)) rfl ⟨rfl, rfl⟩ ?_ ?_
 ·rintro k ⟨x, m, fp⟩ hk hx ⟨hm, hp⟩;simp only at hx hm hp;subst hx hm hp;unfold P_c_faults_L1
  have hcl := List.countP_le_length (p := isPiece mt gone) (l := gone.take k)
  have htl : (gone.take k).length ≤ 1000000 := by rw [List.length_take]; omega
  refine .ifp (by omega) (Ok.andx (P := fun s : (Int → Int) × Int => s.1 = cntOf (gone.take (k + 1)) ∧ s.2 = (((gone.take (k + 1)).countP (isPiece mt gone) : Nat) : Int)) ?_ ?_)
  ·refine .el (by omega) fun a ha => ?_
   have ha := get_of ha rfl
   have har := hr a (List.mem_of_getElem? ha);refine .el har fun b hb => ?_
   have hmf : mateF mt a = b := by unfold mateF; rw [hb]
   have hc := cntOf_le (gone.take k) a
   have hsn : putI (cntOf (gone.take k)) a (cntOf (gone.take k) a + 1) = cntOf (gone.take (k + 1)) := by rw [take_snoc ha, cntOf_snoc]
   have hcp : (gone.take (k + 1)).countP (isPiece mt gone) = (gone.take k).countP (isPiece mt gone) + (if isPiece mt gone a = true then 1 else 0) := by
    rw [take_snoc ha, List.countP_append, List.countP_singleton]
   refine .chk (i64_small (by omega)) (Ok.andx (P := fun c : Bool => c = true ↔ isPiece mt gone a = true) ?_ ?_)
   ·rw [hsn];unfold isPiece;rw [hmf, decide_eq_true_iff];refine .ite (fun h => .some ?_) (fun h => .some ?_)
    ·simp only [true_iff]; exact .inl h
    ·rw [decide_eq_true_iff, cntOf_zero, sorted_take hs ha]
     constructor
     ·intro h2
      by_cases hb2 : b ∈ gone
      ·exact .inr (.inl (by have : ¬ b ≤ a := fun h3 => h2 ⟨hb2, h3⟩; omega))
      ·exact .inr (.inr hb2)
     ·rintro (h2 | h2 | h2) ⟨h3, h4⟩
      ·exact h h2
      ·omega
      ·exact h2 h3
   ·rintro c hcc;rw [hsn];refine .ite (fun h => ?_) (fun h => ?_)
    ·refine .chk (i64_small (by omega)) (.some ⟨rfl, ?_⟩);simp only;rw [hcp, if_pos (hcc.1 h)];rfl
    ·refine .some ⟨rfl, ?_⟩;simp only;rw [hcp, if_neg (fun e => h (hcc.2 e))];rfl
  ·rintro ⟨m', p'⟩ ⟨h1, h2⟩;exact .chk (i64_small (by omega)) (.some ⟨rfl, h1, h2⟩)
 ·rintro ⟨x, m, fp⟩ hx ⟨hm, hp⟩;simp only at hx hm hp;unfold P_c_faults_L1;refine .ifn (by omega) (.some ?_)
  show fp = _;rw [hp, List.take_length]; rfl
def TruthIn (n : Nat) (t : List Int) : Prop := ∀ x ∈ t, x < n
theorem runs_loop {lv : List Leaf} {t : List Int} (ht : t.length ≤ 120) (hin : TruthIn lv.length t) :
  ∃ m, iter (P_c_faults_L2 lv t) (0, [], [], [], (fun _ => 0)) = some (m, runsOf (gathOf lv) t, strangeOf t, twiceOf t) := by
 suffices h : Ok (iter (P_c_faults_L2 lv t) (0, [], [], [], (fun _ => 0))) (fun s => s.2 = (runsOf (gathOf lv) t, strangeOf t, twiceOf t)) by
  obtain ⟨⟨m, p⟩, h1, h2⟩ := h;exact ⟨m, by rw [h1, ← h2]⟩
 refine Ok.count (fun s => s.1) t.length (fun k s => s.2.1 = runsTo (gathOf lv) t k ∧ s.2.2.1 = idxTo isStrange t k ∧ s.2.2.2.1 = idxTo (isTwice t) t k ∧ ∀ a, 0 ≤ a → s.2.2.2.2 a = cntOf (t.take k) a) rfl ⟨rfl, rfl, rfl, fun a _ => by simp [cntOf]⟩ ?_ ?_
 ·rintro k ⟨x, l, st, tw, m⟩ hk hx ⟨hl, hst, htw, hm⟩;simp only at hx hl hst htw hm;subst hx hl hst htw
  have hro := runsTo_ok (g := gathOf lv) hin k
  have hs1 := idxTo_len isStrange t k
  have hs2 := idxTo_len (isTwice t) t k;unfold P_c_faults_L2;refine .ifp (by omega) (Ok.andx (P := fun s : List S_copy_run × List Int × List Int × (Int → Int) => s.1 = runsTo (gathOf lv) t (k + 1) ∧ s.2.1 = idxTo isStrange t (k + 1) ∧ s.2.2.1 = idxTo (isTwice t) t (k + 1) ∧ ∀ a, 0 ≤ a → s.2.2.2 a = cntOf (t.take (k + 1)) a) ?_ ?_)
  ·refine .el (by omega) fun n hn => ?_
   have hn := get_of hn rfl
   have hnl := hin n (List.mem_of_getElem? hn);rw [runsTo_succ hn, idxTo_succ hn, idxTo_succ hn];refine .ite (fun h0 => ?_) (fun h0 => ?_)
   ·have e1 : isPlain t k n = false := decide_eq_false (by omega)
    have e2 : isStrange k n = true := decide_eq_true h0
    have e3 : isTwice t k n = false := decide_eq_false (by omega);rw [e1, e2, e3];refine .chk (by simp; omega) (.some ⟨rfl, rfl, rfl, fun a ha => ?_⟩);simp only;rw [hm a ha, take_snoc hn, cntOf_snoc, putI_ne (by omega)]
   ·have hc := cntOf_le (t.take k) n
    have htl : (t.take k).length ≤ 120 := by rw [List.length_take]; omega
    have hmn := hm n (by omega)
    have e2 : isStrange k n = false := decide_eq_false h0;rw [e2]
    have hm' : ∀ a, 0 ≤ a → putI m n (m n + 1) a = cntOf (t.take (k + 1)) a := fun a ha => by
     rw [take_snoc hn, cntOf_snoc]
     by_cases e : a = n
     ·subst e; rw [putI_same, putI_same, hmn]
     ·rw [putI_ne e, putI_ne e, hm a ha]
    refine .chk (i64_small (by omega)) (.ite (fun h1 => ?_) (fun h1 => ?_))
    ·rw [putI_same, hmn] at h1
     have hin' := (cntOf_pos (t.take k) n).1 (by omega)
     have e1 : isPlain t k n = false := decide_eq_false (fun h => h.2 hin')
     have e3 : isTwice t k n = true := decide_eq_true ⟨by omega, hin'⟩;rw [e1, e3];exact .chk (by simp; omega) (.some ⟨rfl, rfl, rfl, hm'⟩)
    ·rw [putI_same, hmn] at h1
     have hin' : n ∉ t.take k := fun h => h1 (by have := (cntOf_pos (t.take k) n).2 h; omega)
     have e1 : isPlain t k n = true := decide_eq_true ⟨by omega, hin'⟩
     have e3 : isTwice t k n = false := decide_eq_false (fun h => hin' h.2);rw [e1, e3];generalize hL : runsTo (gathOf lv) t k = L at *;refine Ok.seqx ?_;refine .chk (i64_small (by omega)) (Ok.andx (P := fun b : Bool => (b = true ∧ ∃ r, L[L.length - 1]? = some r ∧ r.last < n ∧ gathOf lv r.last = gathOf lv n) ∨ (b = false ∧ rnStep (gathOf lv) L k n = L ++ [⟨k, n, n⟩])) ?_ ?_)
     ·refine .ite (fun h2 => ?_) (fun h2 => ?_)
      ·refine .el (by omega) fun r hr => ?_
       have hr : L[L.length - 1]? = some r := get_of hr (by omega)
       have hrk := hro.1 r (List.mem_of_getElem? hr);refine .ite (fun h3 => ?_) (fun h3 => ?_)
       ·refine .el (by omega) fun r' hr' => ?_
        have hr' : L[L.length - 1]? = some r' := get_of hr' (by omega);rw [hr] at hr';cases hr';refine .el ⟨hrk.2.2.1, hrk.2.2.2⟩ fun a ha => .el ⟨by omega, hnl⟩ fun b hb => .some ?_
        have ga : gathOf lv r.last = a.g := by unfold gathOf; rw [ha]
        have gb : gathOf lv n = b.g := by unfold gathOf; rw [hb]
        by_cases e : a.g = b.g
        ·exact .inl ⟨decide_eq_true e, r, hr, h3, by rw [ga, gb, e]⟩
        ·refine .inr ⟨decide_eq_false e, ?_⟩;unfold rnStep;rw [hr];simp only;rw [if_neg (fun h => e (by rw [← ga, ← gb]; exact h.2))]
       ·refine .some (.inr ⟨rfl, ?_⟩);unfold rnStep;rw [hr];simp only;rw [if_neg (fun h => h3 h.1)]
      ·refine .some (.inr ⟨rfl, ?_⟩)
       have : L = [] := List.eq_nil_of_length_eq_zero (by omega);subst this;rfl
     ·rintro b (⟨rfl, r, hr, h3, h4⟩ | ⟨rfl, h3⟩)
      ·have hlt := (List.getElem?_eq_some_iff.1 hr).1;refine .ifp rfl (.el (by omega) fun r' hr' => ?_)
       have hr' : L[L.length - 1]? = some r' := get_of hr' (by omega);rw [hr] at hr';cases hr';refine .some ⟨?_, rfl, rfl, hm'⟩;simp only;unfold rnStep;rw [hr];simp only;rw [if_pos (c := r.last < n ∧ gathOf lv r.last = gathOf lv n) ⟨h3, h4⟩, show ((L.length : Int) - 1).toNat = L.length - 1 by omega];simp only [if_true]
      ·refine .ifn (by simp) (.some ?_)
       show Ok _ _;refine .chk (by simp; omega) (.some ⟨?_, rfl, rfl, hm'⟩);simp only;rw [if_pos trivial, h3]
  ·rintro ⟨l', st', tw', m'⟩ ⟨q1, q2, q3, q4⟩;exact .chk (i64_small (by omega)) (.some ⟨rfl, q1, q2, q3, q4⟩)
 ·rintro ⟨x, l, st, tw, m⟩ hx ⟨hl, hst, htw, hm⟩;simp only at hx hl hst htw;unfold P_c_faults_L2;refine .ifn (by omega) (.some ?_)
  show (l, st, tw) = _;rw [hl, hst, htw];rfl
def allOf (n : Nat) (mt : List Int) (g : Int → Int) (t : List Int) : Int := piecesOf mt (lostOf n t) + (strangeOf t).length + (twiceOf t).length + (movedOf (runsOf g t)).length
theorem faults_ok {s : Int} {g : List Gat} {its : List Item} {lv : List Leaf} {mt t : List Int} (hlv : lv.length ≤ 120) (hmt : mt.length = lv.length) (ht : t.length ≤ 120) (hin : TruthIn lv.length t) :
  P_c_faults s g its lv mt t = some ([], lostOf lv.length t, piecesOf mt (lostOf lv.length t), strangeOf t, twiceOf t, movedOf (runsOf (gathOf lv) t), allOf lv.length mt (gathOf lv) t) := by
 refine Ok.get ?_;unfold P_c_faults
 have hl := lostOf_len lv.length t
 have hp := piecesOf_le mt (lostOf lv.length t)
 have h1 : (strangeOf t).length ≤ 120 := Nat.le_trans (idxTo_len _ _ _) ht
 have h2 : (twiceOf t).length ≤ 120 := Nat.le_trans (idxTo_len _ _ _) ht
 have hr := runsTo_ok (g := gathOf lv) hin t.length
 have hm := movedOf_len (runsOf (gathOf lv) t)
 have hrl : (runsOf (gathOf lv) t).length ≤ t.length := hr.2;refine .andx' (lost_ok (by omega) (by omega)) ?_;obtain ⟨m1, e1⟩ := pieces_ok (mt := mt) (lostOf_sorted lv.length t) (fun x hx => by have := mem_lostOf.1 hx; rw [hmt]; omega) (by omega);refine .andx' e1 ?_;obtain ⟨m2, e2⟩ := runs_loop ht hin;refine .andx' e2 ?_;refine .andx' (moved_ok (by omega) hr.1) ?_;refine .chk (i64_small (by omega)) (.chk (i64_small (by omega)) (.chk (i64_small (by omega)) (.some rfl)))
end Go.Am
end
section
namespace Go.Am
def BadOrder (l : List Int) : Prop := ∃ (i : Nat) (a b : Int), l[i]? = some a ∧ l[i + 1]? = some b ∧ b ≤ a
open Classical in
noncomputable def itemErr (l : List Int) (n : Int) : Int := if 4 < l.length then 3 else if ∃ x ∈ l, x < 0 ∨ n - 1 < x then 4 else if BadOrder l then 2 else 0
noncomputable def itemsErr (n : Int) : Nat → List Item → Option (Nat × Int)
 | _, [] => none
 | i, x :: l => if itemErr x.could.l n = 0 then itemsErr n (i + 1) l else some (i, itemErr x.could.l n)
def doubtsErr : Nat → Nat → List Item → Option Nat
 | _, _, [] => none
 | d, i, x :: l => if 3 < (if 1 < x.could.l.length then d + 1 else d) then some i else doubtsErr (if 1 < x.could.l.length then d + 1 else d) (i + 1) l
noncomputable def caseErr (s : Int) (g : List Gat) (its : List Item) : Int × Int × Int :=
 if (bookErr (bk s g)).2.2 = 0 then
  if 120 < (leavesOf (bk s g)).length then (1, 0, 3)
  else if 120 < its.length then (2, 0, 3)
  else match itemsErr (leavesOf (bk s g)).length 0 its with
   | some (i, e) => (2, (i : Int), e)
   | none => match doubtsErr 0 0 its with
    | some i => (3, (i : Int), 3)
    | none => (0, 0, 0)
 else (1, 0, (bookErr (bk s g)).2.2)
theorem in_ok {n lo hi : Int} : P_r4_in n lo hi = some (decide (lo ≤ n ∧ n ≤ hi)) := by
 unfold P_r4_in
 by_cases h : n ≥ lo
 ·rw [if_pos h]; simp [andx, show lo ≤ n from h]
 ·rw [if_neg h]; simp [andx, show ¬ lo ≤ n from h]
theorem item_ok {l : List Int} {n : Int} (hn : 0 ≤ n ∧ n ≤ 1000000) : P_r4_item l n = some (itemErr l n) := by
 refine Ok.get ?_;unfold P_r4_item itemErr;refine .ite (fun h => ?_) (fun h => ?_)
 ·rw [if_pos (by omega)]; exact .some rfl
 ·rw [if_neg (by omega)];refine Ok.seqx (Ok.count id l.length (fun k s => ∀ x ∈ l.take k, ¬ (x < 0 ∨ n - 1 < x)) rfl (by simp) ?_ ?_)
  ·rintro k x hk hx hi;simp only [id] at hx;unfold P_r4_item_L1;refine .ifp (by omega) (.el (by omega) fun a ha => .chk (i64_small (by omega)) (.andx' in_ok ?_))
   have ha := get_of ha hx;refine .ite (fun hc => ?_) (fun hc => ?_)
   ·refine .chk (i64_small (by omega)) (.some ⟨by simp only [id]; omega, ?_⟩)
    show ∀ y ∈ l.take (k + 1), _;rw [take_snoc ha];intro y hy
    rcases List.mem_append.1 hy with hy | hy
    ·exact hi y hy
    ·simp at hy; subst hy; simp at hc; omega
   ·refine .some ?_
    show 4 = _;rw [if_pos ⟨a, List.mem_of_getElem? ha, by simp at hc; omega⟩]
  ·rintro x hx hi;simp only [id] at hx;unfold P_r4_item_L1;rw [List.take_length] at hi;refine .ifn (by omega) (.some ?_)
   show Ok _ _;rw [if_neg (fun ⟨y, h1, h2⟩ => hi y h1 h2)];refine Ok.seqx (Ok.iter (fun i => 1 ≤ i ∧ ∀ (k : Nat) (a b : Int), (k : Int) + 1 < i → l[k]? = some a → l[k + 1]? = some b → a < b) (fun i => l.length - i.toNat) ⟨by omega, fun k a b h => by omega⟩ ?_);rintro i ⟨h1, h2⟩;unfold P_r4_item_L2;refine .ite (fun hc => ?_) (fun hc => ?_)
   ·refine .el (by omega) fun b hb => .chk (i64_small (by omega)) (.el (by omega) fun a ha => ?_)
    have e : i.toNat = (i - 1).toNat + 1 := by omega
    rw [e] at hb;refine .ite (fun hd => .some ?_) (fun hd => .chk (i64_small (by omega)) (.some ⟨⟨by omega, ?_⟩, by simp only; omega⟩))
    ·show 2 = _;rw [if_pos ⟨_, a, b, ha, hb, hd⟩]
    ·intro k a' b' hk ha' hb'
     by_cases hk' : (k : Int) + 1 < i
     ·exact h2 k a' b' hk' ha' hb'
     ·have : k = (i - 1).toNat := by omega
      subst this;rw [ha] at ha'; rw [hb] at hb';cases ha'; cases hb';omega
   ·refine .some ?_
    show Ok _ _;refine .some ?_;rw [if_neg];rintro ⟨k, a, b, ha, hb, hd⟩
    have := (List.getElem?_eq_some_iff.1 hb).1
    have := h2 k a b (by omega) ha hb;omega
theorem itemsErr_drop {n : Int} {l : List Item} {k : Nat} {x : Item} (h : l[k]? = some x) : itemsErr n k (l.drop k) = if itemErr x.could.l n = 0 then itemsErr n (k + 1) (l.drop (k + 1)) else some (k, itemErr x.could.l n) := by
 rw [drop_cons h]; rfl
theorem doubtsErr_drop {d : Nat} {l : List Item} {k : Nat} {x : Item} (h : l[k]? = some x) : doubtsErr d k (l.drop k) = if 3 < (if 1 < x.could.l.length then d + 1 else d) then some k else doubtsErr (if 1 < x.could.l.length then d + 1 else d) (k + 1) (l.drop (k + 1)) := by
 rw [drop_cons h]; rfl
theorem r4_Check_ok {s : Int} {g : List Gat} {its : List Item} : P_r4_Check s g its = some (caseErr s g its) := by
 refine Ok.get ?_;unfold P_r4_Check caseErr;refine .andx' (x := P_r1_Check s g) rfl ?_;dsimp only
 by_cases h0 : (bookErr (bk s g)).2.2 = 0
 ·have hf := book_fits h0
  have hall : P_r1_All s g = some (leavesOf (bk s g)) := by unfold P_r1_All; rw [chk_pos hf]
  have hlen := leaves_len hf;rw [if_pos h0, if_pos h0, hall];simp only [andx];generalize hL : leavesOf (bk s g) = lv at hlen
  by_cases h1 : 120 < lv.length
  ·rw [if_pos (show decide ((lv.length : Int) > 120) = true by simp; omega), if_pos h1];simp only;refine .ifp (by omega) (.some rfl)
  ·rw [if_neg (show ¬ decide ((lv.length : Int) > 120) = true by simp; omega), if_neg h1];simp only [h0];refine .ifn (by simp) ?_
   by_cases h2 : 120 < its.length
   ·rw [if_pos h2]; refine .ifp (by omega) (.some rfl)
   ·rw [if_neg h2];refine .ifn (by omega) (Ok.seqx (Ok.count id its.length (fun k _ => itemsErr lv.length 0 its = itemsErr lv.length k (its.drop k)) rfl rfl ?_ ?_))
    ·rintro k i hk hi hI;simp only [id] at hi;subst hi;unfold P_r4_Check_L1;refine .ifp (by omega) (.el (by omega) fun x hx => .andx' (item_ok (by omega)) ?_)
     have hx := get_of hx rfl;rw [itemsErr_drop hx] at hI;refine .ite (fun hc => ?_) (fun hc => ?_)
     ·rw [if_neg hc] at hI;refine .some ?_
      show _ = _;rw [hI]
     ·rw [if_pos (by omega)] at hI;exact .chk (i64_small (by omega)) (.some ⟨rfl, hI⟩)
    ·rintro i hi hI;simp only [id] at hi;subst hi;unfold P_r4_Check_L1;rw [List.drop_length] at hI;refine .ifn (by omega) (.some ?_)
     show Ok _ _;rw [hI];simp only [itemsErr];refine Ok.seqx (Ok.count (σ := Int × Int) Prod.snd its.length (fun k s => ∃ d : Nat, s.1 = d ∧ d ≤ 3 ∧ doubtsErr 0 0 its = doubtsErr d k (its.drop k)) rfl ⟨0, rfl, by omega, rfl⟩ ?_ ?_)
     ·rintro k ⟨dd, i⟩ hk hi ⟨d, hd, hd3, hI⟩;simp only at hi hd;subst hi hd;unfold P_r4_Check_L2;refine .ifp (by omega) (Ok.seqx ?_);refine Ok.andx (P := fun j => ∃ x, its[k]? = some x ∧ j = ((if 1 < x.could.l.length then d + 1 else d : Nat) : Int)) (.el (by omega) fun x hx => ?_) ?_
      ·have hx := get_of hx rfl;refine .ite (fun hc => .chk (i64_small (by omega)) (.some ⟨x, hx, ?_⟩)) (fun hc => .some ⟨x, hx, ?_⟩)
       ·rw [if_pos (by omega)]; rfl
       ·rw [if_neg (by omega)]
      ·rintro j ⟨x, hx, rfl⟩;rw [doubtsErr_drop hx] at hI;generalize (if 1 < x.could.l.length then d + 1 else d) = e at hI;refine .ite (fun hc => ?_) (fun hc => ?_)
       ·rw [if_pos (by omega)] at hI;refine .some ?_
        show _ = _;rw [hI]
       ·rw [if_neg (by omega)] at hI;refine .some ?_
        show Ok _ _;exact .chk (i64_small (by omega)) (.some ⟨rfl, e, rfl, by omega, hI⟩)
     ·rintro ⟨dd, i⟩ hi ⟨d, hd, hd3, hI⟩;simp only at hi hd;subst hi hd;unfold P_r4_Check_L2;rw [List.drop_length] at hI;refine .ifn (by omega) (.some ?_)
      show Ok _ _;rw [hI];exact .some rfl
 ·rw [if_neg h0, if_neg h0];simp only [andx];rw [if_neg (by simp)];simp only;exact .ifp h0 (.some rfl)
end Go.Am
end
section
namespace Go.Am
noncomputable def lvs (s : Int) (g : List Gat) : List Leaf := leavesOf (bk s g)
noncomputable def matesTo (s : Int) (g : List Gat) (n : Nat) : List Int := (List.range n).map fun n => pairNo (bk s g) n
noncomputable def matesOf (s : Int) (g : List Gat) : List Int := matesTo s g (lvs s g).length
theorem matesTo_len (s : Int) (g : List Gat) (n : Nat) : (matesTo s g n).length = n := by simp [matesTo]
theorem matesTo_succ (s : Int) (g : List Gat) (n : Nat) : matesTo s g (n + 1) = matesTo s g n ++ [pairNo (bk s g) n] := by
 unfold matesTo; rw [List.range_succ, List.map_append]; rfl
theorem itemsErr_pos : ∀ (l : List Item) (i : Nat) (n : Int), ∀ x, itemsErr n i l = some x → x.2 ≠ 0 := by
 intro l
 induction l with
 | nil => intro i n x h; cases h
 | cons a l ih =>
  intro i n x h;unfold itemsErr at h;split at h
  ·exact ih _ _ _ h
  ·cases h; assumption
noncomputable def openRes (s : Int) (g : List Gat) (its : List Item) : Sum (Int × Int × Int) (Int × (GS encL) × (List Int) × Int × Int × Int) :=
 if (caseErr s g its).2.2 = 0 then .inr (s, GSo true encL (lvs s g), matesOf s g, 0, 0, 0) else .inl (caseErr s g its)
theorem outside_ok {lo hi : Int} {x : List Int} (h : x.length ≤ 1000000) : P_c_outside lo hi x = some (decide (∃ n ∈ x, n < lo ∨ hi < n)) := by
 unfold P_c_outside;rw [chk_pos (by omega)]
theorem order_ok {x44 : Int} {it : Item} (hl : it.could.l.length ≤ 4) {Q : Ex Unit (Stp Int (Ex Unit (Sum (Int × Int × Int) (Int × (GS encL) × (List Int) × Int × Int × Int)))) → Prop}
  (h1 : BadOrder it.could.l → Q (.rt (.dn (.rt (.inl (2, x44, 2)))))) (h2 : ¬ BadOrder it.could.l → Q (.nx ())) : Ok (iter (P_c_open_L2 x44 it) 0) Q := by
 refine Ok.iter (fun i => 0 ≤ i ∧ ∀ (k : Nat) (a b : Int), (k : Int) + 1 < i → it.could.l[k]? = some a → it.could.l[k + 1]? = some b → a < b) (fun i => it.could.l.length - i.toNat) ⟨by omega, fun k a b h => by omega⟩ ?_;rintro i ⟨h0, hI⟩;unfold P_c_open_L2;refine .ite (fun hc => ?_) (fun hc => ?_)
 ·refine Ok.seqx (.el (by omega) fun b hb => ?_)
  by_cases hi : i > 0
  ·rw [if_pos hi];refine Ok.andx (P := fun c => ∃ a, it.could.l[(i - 1).toNat]? = some a ∧ c = decide (b ≤ a)) (.chk (i64_small (by omega)) (.el (by omega) fun a ha => .some ⟨a, ha, rfl⟩)) ?_;rintro c ⟨a, ha, rfl⟩
   have e : i.toNat = (i - 1).toNat + 1 := by omega
   rw [e] at hb;refine .ite (fun hd => .some ?_) (fun hd => .some ?_)
   ·exact h1 ⟨_, a, b, ha, hb, by simpa using hd⟩
   ·refine .chk (i64_small (by omega)) (.some ⟨⟨by omega, ?_⟩, by simp only; omega⟩);intro k a' b' hk ha' hb'
    by_cases hk' : (k : Int) + 1 < i
    ·exact hI k a' b' hk' ha' hb'
    ·have : k = (i - 1).toNat := by omega
     subst this;rw [ha] at ha'; rw [hb] at hb';cases ha'; cases hb'
     have : ¬ b ≤ a := by simpa using hd
     omega
  ·rw [if_neg hi];simp only [andx];rw [if_neg (by simp)];refine .some ?_
   show Ok _ _;exact .chk (i64_small (by omega)) (.some ⟨⟨by omega, fun k a b hk => by omega⟩, by simp only; omega⟩)
 ·refine .some ?_;refine h2 ?_;rintro ⟨k, a, b, ha, hb, hd⟩
  have := (List.getElem?_eq_some_iff.1 hb).1
  have := hI k a b (by omega) ha hb;omega
theorem mate_ok {s : Int} {g : List Gat} {n : Nat} (h0 : (bookErr (bk s g)).2.2 = 0) (hn : n < (lvs s g).length) : (if ¬ (mateOf (bk s g) n).2 = 0 then (-1 : Int) else (mateOf (bk s g) n).1) = pairNo (bk s g) n := by
 rcases mate_cases h0 hn with h | ⟨h, h'⟩
 ·rw [h]; simp
 ·rw [h, h']; simp
theorem mates_ok {s : Int} {g : List Gat} (h0 : (bookErr (bk s g)).2.2 = 0) (hl : (lvs s g).length ≤ 120) : iter (P_c_open_L4 s g (lvs s g)) (0, []) = some (matesOf s g) := by
 refine Ok.get (Ok.count (σ := Int × List Int) Prod.fst (lvs s g).length (fun k x => x.2 = matesTo s g k) rfl rfl ?_ ?_)
 ·rintro k ⟨i, l⟩ hk hi hl';simp only at hi hl';subst hi hl';unfold P_c_open_L4;refine .ifp (by omega) (Ok.andx (P := fun l => l = matesTo s g (k + 1)) ?_ ?_)
  ·refine .andx' (x := P_q_Mate s g k) (a := mateOf (bk s g) k) rfl ?_
   have hme := mate_ok h0 hk;generalize mateOf (bk s g) (k : Int) = me at hme;obtain ⟨m, e⟩ := me;dsimp only at hme ⊢;refine Ok.andx (P := fun m => m = pairNo (bk s g) k) ?_ ?_
   ·refine .ite (fun hc => .some ?_) (fun hc => .some ?_)
    ·rw [if_pos hc] at hme; exact hme
    ·rw [if_neg hc] at hme; exact hme
   ·rintro m rfl
    have := matesTo_len s g k;exact .chk (by simp; omega) (.some (matesTo_succ s g k).symm)
  ·rintro l rfl;exact .chk (i64_small (by omega)) (.some ⟨rfl, rfl⟩)
 ·rintro ⟨i, l⟩ hi hl';simp only at hi hl';subst hi hl';unfold P_c_open_L4;exact .ifn (by omega) (.some rfl)
theorem open_ok {s : Int} {g : List Gat} {its : List Item} : P_c_open s g its = some (openRes s g its) := by
 refine Ok.get ?_;unfold P_c_open openRes caseErr;refine .andx' (x := P_q_Check s g) rfl ?_;dsimp only
 by_cases h0 : (bookErr (bk s g)).2.2 = 0
 ·rw [if_pos h0];refine .ifn (fun h => h h0) (.andx' (x := P_q_Leaves s g) (a := (leavesOf (bk s g), 0)) (by unfold P_q_Leaves; rw [if_pos h0, h0]) ?_);dsimp only
  have hlen := leaves_len (book_fits h0)
  have hmt := mates_ok (s := s) (g := g) h0;unfold lvs at hmt ⊢;generalize leavesOf (bk s g) = lv at hlen hmt
  by_cases h1 : 120 < lv.length
  ·rw [if_pos h1];exact .ifp (by omega) (.some (by simp))
  ·rw [if_neg h1];refine .ifn (by omega) ?_
   by_cases h2 : 120 < its.length
   ·rw [if_pos h2];exact .ifp (by omega) (.some (by simp))
   ·rw [if_neg h2];refine .ifn (by omega) (Ok.seqx (Ok.count id its.length (fun k _ => itemsErr lv.length 0 its = itemsErr lv.length k (its.drop k)) rfl rfl ?_ ?_))
    ·rintro k i hk hi hI;simp only [id] at hi;subst hi;unfold P_c_open_L1;refine .ifp (by omega) (Ok.seqx (.el (by omega) fun x hx => ?_))
     have hx := get_of hx rfl;rw [itemsErr_drop hx] at hI
     have key : ∀ e : Int, itemErr x.could.l lv.length = e → e ≠ 0 → (Sum.inl (2, (k : Int), e) : Sum (Int × Int × Int) (Int × (GS encL) × (List Int) × Int × Int × Int)) = (if (match itemsErr lv.length 0 its with | some (i, e) => ((2 : Int), (i : Int), e) | none => match doubtsErr 0 0 its with | some i => (3, (i : Int), 3) | none => (0, 0, 0)).2.2 = 0 then .inr (s, GSo true encL lv, matesOf s g, 0, 0, 0) else .inl (match itemsErr lv.length 0 its with | some (i, e) => ((2 : Int), (i : Int), e) | none => match doubtsErr 0 0 its with | some i => (3, (i : Int), 3) | none => (0, 0, 0))) := by
      intro e he h;rw [he, if_neg h] at hI;rw [hI];simp [h]
     unfold itemErr at hI key;refine .ite (fun hc => ?_) (fun hc => ?_)
     ·exact .some (key 3 (by rw [if_pos (by omega)]) (by omega))
     ·rw [if_neg (by omega : ¬ 4 < x.could.l.length)] at hI key;refine .chk (i64_small (by omega)) (.andx' (outside_ok (by omega)) ?_);refine .ite (fun hd => ?_) (fun hd => ?_)
      ·exact .some (key 4 (by rw [if_pos (by simpa using hd)]) (by omega))
      ·have hd' : ¬ ∃ n ∈ x.could.l, n < 0 ∨ (lv.length : Int) - 1 < n := by simpa using hd
       rw [if_neg hd'] at hI key;refine order_ok (by omega) (fun hb => ?_) (fun hb => ?_)
       ·exact key 2 (by rw [if_pos hb]) (by omega)
       ·rw [if_neg hb, if_pos rfl] at hI
        show Ok _ _;exact .chk (i64_small (by omega)) (.some ⟨rfl, hI⟩)
    ·rintro i hi hI;simp only [id] at hi;subst hi;unfold P_c_open_L1;rw [List.drop_length] at hI;refine .ifn (by omega) (.some ?_)
     show Ok _ _;rw [hI];simp only [itemsErr];refine Ok.seqx (Ok.count (σ := Int × Int) Prod.snd its.length (fun k s => ∃ d : Nat, s.1 = d ∧ d ≤ 3 ∧ doubtsErr 0 0 its = doubtsErr d k (its.drop k)) rfl ⟨0, rfl, by omega, rfl⟩ ?_ ?_)
     ·rintro k ⟨dd, i⟩ hk hi ⟨d, hd, hd3, hI⟩;simp only at hi hd;subst hi hd;unfold P_c_open_L3;refine .ifp (by omega) (Ok.seqx (.el (by omega) fun x hx => ?_))
      have hx := get_of hx rfl;rw [doubtsErr_drop hx] at hI;refine Ok.andx (P := fun j => j = ((if 1 < x.could.l.length then d + 1 else d : Nat) : Int)) ?_ ?_
      ·refine .ite (fun hc => .chk (i64_small (by omega)) (.some ?_)) (fun hc => .some ?_)
       ·rw [if_pos (by omega)]; rfl
       ·rw [if_neg (by omega)]
      ·rintro j rfl;generalize (if 1 < x.could.l.length then d + 1 else d) = e at hI;refine .ite (fun hc => ?_) (fun hc => ?_)
       ·rw [if_pos (by omega)] at hI;refine .some ?_
        show _ = _;rw [hI];simp
       ·rw [if_neg (by omega)] at hI;refine .some ?_
        show Ok _ _;exact .chk (i64_small (by omega)) (.some ⟨rfl, e, rfl, by omega, hI⟩)
     ·rintro ⟨dd, i⟩ hi ⟨d, hd, hd3, hI⟩;simp only at hi hd;subst hi hd;unfold P_c_open_L3;rw [List.drop_length] at hI;refine .ifn (by omega) (.some ?_)
      show Ok _ _;rw [hI];refine .andx' (hmt (by omega)) (.some ?_);simp [doubtsErr]
 ·rw [if_neg h0];exact .ifp h0 (.some (by rw [if_neg h0]))
end Go.Am
end
section
namespace Go.Am
theorem doubts_le : ∀ (l : List Item) (d i : Nat), d ≤ 3 → doubtsErr d i l = none → d + l.countP (fun x => decide (1 < x.could.l.length)) ≤ 3 := by
 intro l
 induction l with
 | nil => intro d i hd _; simpa using hd
 | cons x l ih =>
  intro d i hd h;unfold doubtsErr at h;rw [List.countP_cons]
  by_cases hx : 1 < x.could.l.length
  ·simp only [hx, if_true, decide_true] at h ⊢;split at h
   ·cases h
   ·have := ih _ _ (by omega) h;omega
  ·simp only [hx, if_false, decide_false] at h ⊢;split at h
   ·cases h
   ·have := ih _ _ (by omega) h
    simpa using this
theorem items_ok {n : Int} : ∀ (l : List Item) (i : Nat), itemsErr n i l = none → ∀ x ∈ l, itemErr x.could.l n = 0 := by
 intro l
 induction l with
 | nil => intro i _ x hx; simp at hx
 | cons a l ih =>
  intro i h x hx;unfold itemsErr at h;split at h
  ·rename_i h0
   rcases List.mem_cons.1 hx with rfl | hx
   ·exact h0
   ·exact ih _ h x hx
  ·cases h
theorem item_facts {l : List Int} {n : Int} (h : itemErr l n = 0) : l.length ≤ 4 ∧ (∀ x ∈ l, 0 ≤ x ∧ x ≤ n - 1) ∧ ¬ BadOrder l := by
 unfold itemErr at h;split at h
 ·omega
 ·split at h
  ·omega
  ·rename_i h1 h2
   split at h
   ·omega
   ·rename_i h3
    refine ⟨by omega, fun x hx => ?_, h3⟩
    have : ¬ (x < 0 ∨ n - 1 < x) := fun k => h2 ⟨x, hx, k⟩
    omega
def wid : List Item → Nat
 | [] => 1
 | x :: l => (chs x).length * wid l
theorem comps_len : ∀ (l : List Item) (p : List Int), (comps p l).length = wid l := by
 intro l
 induction l with
 | nil => intro p; rfl
 | cons x l ih =>
  intro p;unfold comps wid;rw [List.length_flatMap]
  have : ((chs x).map fun c => (comps (p ++ [c]) l).length) = (chs x).map fun _ => wid l := by simp [ih]
  rw [this];simp [List.map_const', List.sum_replicate_nat]
theorem chs_len (x : Item) (h : x.could.l.length ≤ 4) : 1 ≤ (chs x).length ∧ (chs x).length ≤ 4 ∧ (1 < (chs x).length ↔ 1 < x.could.l.length) := by
 unfold chs
 by_cases h0 : x.could.l = []
 ·rw [if_pos h0]; simp [h0]
 ·rw [if_neg h0]
  have : x.could.l.length ≠ 0 := fun e => h0 (List.eq_nil_of_length_eq_zero e)
  omega
theorem wid_le : ∀ (l : List Item), (∀ x ∈ l, x.could.l.length ≤ 4) → 1 ≤ wid l ∧ wid l ≤ 4 ^ l.countP (fun x => decide (1 < x.could.l.length)) := by
 intro l
 induction l with
 | nil => intro _; simp [wid]
 | cons x l ih =>
  intro h
  have hx := chs_len x (h x (by simp));obtain ⟨h1, h2⟩ := ih fun y hy => h y (by simp [hy])
  unfold wid;rw [List.countP_cons];refine ⟨Nat.mul_pos hx.1 h1, ?_⟩
  by_cases hc : 1 < x.could.l.length
  ·simp only [hc, decide_true, if_true, Nat.pow_succ];rw [Nat.mul_comm];exact Nat.mul_le_mul h2 hx.2.1
  ·have : (chs x).length = 1 := by have := hx.2.2; omega
   simp only [hc, decide_false, this]
   simpa using h2
def lev : List (List Int) → List Item → List (List Int)
 | out, [] => out
 | out, x :: l => lev (out.flatMap fun o => (chs x).map fun c => o ++ [c]) l
end Go.Am
end
section
namespace Go.Am
set_option linter.unusedVariables false
structure GoodCase (s : Int) (g : List Gat) (its : List Item) : Prop where
 b0 : (bookErr (bk s g)).2.2 = 0
 nl : (lvs s g).length ≤ 120
 il : its.length ≤ 120
 few : ∀ x ∈ its, x.could.l.length ≤ 4
 rng : ∀ x ∈ its, ∀ n ∈ x.could.l, 0 ≤ n ∧ n ≤ ((lvs s g).length : Int) - 1
 dbt : its.countP (fun x => decide (1 < x.could.l.length)) ≤ 3
theorem case_good {s : Int} {g : List Gat} {its : List Item} (h : (caseErr s g its).2.2 = 0) : GoodCase s g its := by
 unfold caseErr at h
 by_cases hb : (bookErr (bk s g)).2.2 = 0
 ·rw [if_pos hb] at h
  by_cases h1 : 120 < (leavesOf (bk s g)).length
  ·rw [if_pos h1] at h; simp at h
  ·rw [if_neg h1] at h
   by_cases h2 : 120 < its.length
   ·rw [if_pos h2] at h; simp at h
   ·rw [if_neg h2] at h;split at h
    ·rename_i i e he
     exact absurd h (itemsErr_pos _ _ _ _ he)
    ·rename_i he
     split at h
     ·simp at h
     ·rename_i hd
      have hi := fun x hx => item_facts (items_ok _ _ he x hx)
      exact ⟨hb, by unfold lvs; omega, by omega, fun x hx => (hi x hx).1, fun x hx => (hi x hx).2.1, by simpa using doubts_le _ _ _ (by omega) hd⟩
 ·rw [if_neg hb] at h; exact absurd h hb
theorem GoodCase.wid {s : Int} {g : List Gat} {its : List Item} (h : GoodCase s g its) : Go.Am.wid its ≤ 64 :=
 Nat.le_trans (wid_le _ h.few).2 (Nat.le_trans (Nat.pow_le_pow_right (by omega) h.dbt) (by decide))
theorem GoodCase.take {s : Int} {g : List Gat} {its : List Item} (h : GoodCase s g its) (k : Nat) : GoodCase s g (its.take k) :=
  ⟨h.b0, h.nl, Nat.le_trans (by rw [List.length_take]; omega) h.il, fun x hx => h.few x (List.mem_of_mem_take hx), fun x hx => h.rng x (List.mem_of_mem_take hx),
    Nat.le_trans ((List.take_sublist k its).countP_le) h.dbt⟩
end Go.Am
end
section
namespace Go.Am
set_option linter.unusedVariables false
structure GoodBook (s : Int) (g : List Gat) : Prop where
 b0 : (bookErr (bk s g)).2.2 = 0
 nl : (lvs s g).length ≤ 120
theorem GoodCase.book {s : Int} {g : List Gat} {its : List Item} (h : GoodCase s g its) : GoodBook s g := ⟨h.b0, h.nl⟩
theorem mates_len (s : Int) (g : List Gat) : (matesOf s g).length = (lvs s g).length := matesTo_len _ _ _
end Go.Am
end
section
namespace Go.Am
set_option linter.unusedVariables false
theorem follow_cons (last : Int) (p : S_copy_run × Int) (ps : List (S_copy_run × Int)) (a : Int) : follow last (p :: ps) a = follow last ps (if p.1.first > last then max a p.2 else a) := rfl
def behind (l : List S_copy_run) (i : Nat) : List (S_copy_run × Int) := (l.drop (i + 1)).zip (chains (l.drop (i + 1)))
end Go.Am
end
section
namespace Go.Am
set_option linter.unusedVariables false
theorem truths_in {s : Int} {g : List Gat} {its : List Item} (h : GoodCase s g its) : ∀ t ∈ truthsOf its, t.length = its.length ∧ ∀ x ∈ t, x = -1 ∨ 0 ≤ x ∧ x < (lvs s g).length := by
  suffices k : ∀ (l : List Item) (p t : List Int), (∀ x ∈ l, ∀ n ∈ x.could.l, 0 ≤ n ∧ n ≤ ((lvs s g).length : Int) - 1) → (∀ x ∈ p, x = -1 ∨ 0 ≤ x ∧ x < (lvs s g).length) → t ∈ comps p l → t.length = p.length + l.length ∧ ∀ x ∈ t, x = -1 ∨ 0 ≤ x ∧ x < (lvs s g).length by
    intro t ht
    have := k its [] t h.rng (by simp) ht
    exact ⟨by simpa using this.1, this.2⟩
  intro l
  induction l with
  | nil =>
    intro p t _ hp ht
    rw [comps, List.mem_singleton] at ht
    subst ht
    exact ⟨rfl, hp⟩
  | cons x l ih =>
    intro p t hl hp ht
    rw [comps, List.mem_flatMap] at ht
    obtain ⟨c, hc, ht⟩ := ht
    have hcr : c = -1 ∨ 0 ≤ c ∧ c < (lvs s g).length := by
      unfold chs at hc
      split at hc
      · rw [List.mem_singleton] at hc; exact .inl hc
      · have := hl x List.mem_cons_self c hc; exact .inr ⟨this.1, by omega⟩
    have := ih (p ++ [c]) t (fun y hy => hl y (List.mem_cons_of_mem _ hy)) (fun y hy => by
      rcases List.mem_append.1 hy with hy | hy
      · exact hp y hy
      · rw [List.mem_singleton] at hy; subst hy; exact hcr) ht
    refine ⟨?_, this.2⟩
    rw [this.1]
    simp
    omega
noncomputable def manyOf (s : Int) (g : List Gat) (t : List Int) : Int := allOf (lvs s g).length (matesOf s g) (gathOf (lvs s g)) t
noncomputable def wideOf (s : Int) (g : List Gat) (its : List Item) : Int × Int :=
 match truthsOf its with
 | [] => (0, 0)
 | t :: l => l.foldl (fun x t => (min x.1 (manyOf s g t), max x.2 (manyOf s g t))) (manyOf s g t, manyOf s g t)
end Go.Am
end
section
namespace Go.Am
set_option linter.unusedVariables false
theorem openRes_err {s : Int} {g : List Gat} {its : List Item} (h : ¬ (caseErr s g its).2.2 = 0) : openRes s g its = .inl (caseErr s g its) := by unfold openRes; rw [if_neg h]
theorem openRes_ok {s : Int} {g : List Gat} {its : List Item} (h : (caseErr s g its).2.2 = 0) : openRes s g its = .inr (s, GSo true encL (lvs s g), matesOf s g, 0, 0, 0) := by unfold openRes; rw [if_pos h]
end Go.Am
end
section
namespace Go.Am
set_option linter.unusedVariables false
theorem foldx_fold {σ β A : Type} {body : σ → β → Option (Stp σ A)} {f : σ → β → σ} : ∀ (l : List β) (s : σ), (∀ s, ∀ x ∈ l, body s x = some (.ag (f s x))) → foldx body l s = some (.nx (l.foldl f s)) := by
 intro l
 induction l with
 | nil => intro s _; rfl
 | cons a l ih =>
  intro s h;unfold foldx;rw [h s a List.mem_cons_self];exact ih _ fun s x hx => h s x (List.mem_cons_of_mem _ hx)
theorem count_le (g : Int → Int) (t : List Int) : ∀ k, (idxTo isStrange t k).length + (idxTo (isTwice t) t k).length + (runsTo g t k).length ≤ k := by
 intro k
 induction k with
 | zero => simp [idxTo, runsTo]
 | succ k ih =>
  cases h : t[k]? with
  | none =>
   rw [idxTo, idxTo, runsTo, h];simp only [List.append_nil];omega
  | some n =>
   rw [idxTo_succ h, idxTo_succ h, runsTo_succ h]
   by_cases h0 : n < 0
   ·have e1 : isPlain t k n = false := decide_eq_false (by omega)
    have e2 : isStrange k n = true := decide_eq_true h0
    have e3 : isTwice t k n = false := decide_eq_false (by omega);rw [e1, e2, e3];simp;omega
   ·have e2 : isStrange k n = false := decide_eq_false h0
    by_cases hm : n ∈ t.take k
    ·have e1 : isPlain t k n = false := decide_eq_false (fun h => h.2 hm)
     have e3 : isTwice t k n = true := decide_eq_true ⟨by omega, hm⟩;rw [e1, e2, e3];simp;omega
    ·have e1 : isPlain t k n = true := decide_eq_true ⟨by omega, hm⟩
     have e3 : isTwice t k n = false := decide_eq_false (fun h => hm h.2)
     have := rnStep_len (g := g) (l := runsTo g t k) (i := k) (n := n);rw [e1, e2, e3];simp;omega
theorem many_bounds (s : Int) (g : List Gat) (t : List Int) : 0 ≤ manyOf s g t ∧ manyOf s g t ≤ (lvs s g).length + t.length := by
 unfold manyOf allOf
 have h1 := piecesOf_le (matesOf s g) (lostOf (lvs s g).length t)
 have h2 := lostOf_len (lvs s g).length t
 have h3 := count_le (gathOf (lvs s g)) t t.length
 have h4 := movedOf_len (runsOf (gathOf (lvs s g)) t);unfold strangeOf twiceOf
 have h5 : (runsOf (gathOf (lvs s g)) t).length = (runsTo (gathOf (lvs s g)) t t.length).length := rfl;omega
theorem cfaults_ok {s : Int} {g : List Gat} {its : List Item} (h : GoodCase s g its) {its' : List Item} {s' : Int} {t : List Int} (ht : t ∈ truthsOf its) :
  P_c_faults s' g its' (lvs s g) (matesOf s g) t = some ([], lostOf (lvs s g).length t, piecesOf (matesOf s g) (lostOf (lvs s g).length t), strangeOf t, twiceOf t, movedOf (runsOf (gathOf (lvs s g)) t), manyOf s g t) := by
 have ht' := truths_in h t ht
 have := h.il;exact faults_ok h.nl (mates_len s g) (by omega) (fun x hx => by rcases ht'.2 x hx with h | h <;> omega)
theorem truths_pos {its : List Item} (hf : ∀ x ∈ its, x.could.l.length ≤ 4) : ∃ t l, truthsOf its = t :: l := by
 have h1 := (wid_le its hf).1
 have h2 := comps_len its [];cases h : truthsOf its with
 | nil => unfold truthsOf at h; rw [h] at h2; simp at h2; omega
 | cons t l => exact ⟨t, l, rfl⟩
theorem wide_ok {s : Int} {g : List Gat} {its : List Item} (h : GoodCase s g its) {s' : Int} : P_c_wide s' g its (lvs s g) (matesOf s g) = some (wideOf s g its) := by
 refine Ok.get ?_
 have hil := h.il
 have hnl := h.nl;obtain ⟨t, l, htl⟩ := truths_pos h.few;unfold P_c_wide;refine .chk (i64_small (by omega)) (.chk (i64_small (by omega)) (Ok.andx (P := fun x => x = wideOf s g its) (.chk ⟨hil, h.few⟩ ?_) ?_))
 ·have hb : ∀ (x : Int × Int), ∀ t ∈ truthsOf its, P_c_wide_L1 s' g its (lvs s g) (matesOf s g) x t = some (.ag (min x.1 (manyOf s g t), max x.2 (manyOf s g t))) := fun x t ht => by
   unfold P_c_wide_L1;obtain ⟨a, b⟩ := x;simp only;rw [cfaults_ok h ht];rfl
  rw [foldx_fold (f := fun (x : Int × Int) t => (min x.1 (manyOf s g t), max x.2 (manyOf s g t))) _ _ hb];refine .some ?_
  show (_, _) = _;unfold wideOf;rw [htl, List.foldl_cons]
  have h1 := many_bounds s g t
  have h2 := (truths_in h t (by rw [htl]; exact List.mem_cons_self)).1
  have e1 : min (((lvs s g).length : Int) + 2 * (its.length : Int)) (manyOf s g t) = manyOf s g t := by omega
  have e2 : max (0 : Int) (manyOf s g t) = manyOf s g t := by omega
  simp only [e1, e2]
 ·rintro ⟨a, b⟩ hab;exact .some hab
noncomputable def rangeSaid (s : Int) (g : List Gat) (its : List Item) : Int × Int × Int := if (caseErr s g its).2.2 = 0 then ((wideOf s g its).1, (wideOf s g its).2, 0) else (0, 0, (caseErr s g its).2.2)
theorem c_Range_ok {s : Int} {g : List Gat} {its : List Item} : P_c_Range s g its = some (rangeSaid s g its) := by
 unfold P_c_Range rangeSaid;rw [open_ok]
 by_cases e : (caseErr s g its).2.2 = 0
 ·rw [openRes_ok e, if_pos e];simp only [andx]
  have hg : (GSo true encL (lvs s g)).l = lvs s g := rfl;rw [chk_pos trivial, hg, wide_ok (case_good e)]
 ·rw [openRes_err e, if_neg e];simp only [andx];rw [chk_pos e]
theorem wide_fold (f : List Int → Int) : ∀ (l : List (List Int)) (a b : Int), (l.foldl (fun x t => (min x.1 (f t), max x.2 (f t))) (a, b)).1 ≤ a ∧ b ≤ (l.foldl (fun x t => (min x.1 (f t), max x.2 (f t))) (a, b)).2 ∧ ∀ t ∈ l, (l.foldl (fun x t => (min x.1 (f t), max x.2 (f t))) (a, b)).1 ≤ f t ∧ f t ≤ (l.foldl (fun x t => (min x.1 (f t), max x.2 (f t))) (a, b)).2 := by
 intro l
 induction l with
 | nil => intro a b; exact ⟨Int.le_refl _, Int.le_refl _, fun t h => by cases h⟩
 | cons u l ih =>
  intro a b;rw [List.foldl_cons];obtain ⟨h1, h2, h3⟩ := ih (min a (f u)) (max b (f u));refine ⟨by simp only at h1 ⊢; omega, by simp only at h2 ⊢; omega, fun t ht => ?_⟩
  rcases List.mem_cons.1 ht with rfl | ht
  ·simp only at h1 h2 ⊢; omega
  ·exact h3 t ht
theorem wide_has {s : Int} {g : List Gat} {its : List Item} {t : List Int} (ht : t ∈ truthsOf its) : (wideOf s g its).1 ≤ manyOf s g t ∧ manyOf s g t ≤ (wideOf s g its).2 := by
 unfold wideOf;cases h : truthsOf its with
 | nil => rw [h] at ht; cases ht
 | cons u l =>
  simp only;obtain ⟨h1, h2, h3⟩ := wide_fold (manyOf s g) l (manyOf s g u) (manyOf s g u);rw [h] at ht
  rcases List.mem_cons.1 ht with rfl | ht
  ·exact ⟨h1, h2⟩
  ·exact h3 t ht
end Go.Am
end
section
namespace Go.Am
set_option linter.unusedVariables false
end Go.Am
end
section
namespace Go.Am
set_option linter.unusedVariables false
abbrev okCase (s : Int) (g : List Gat) (its : List Item) : Prop := (caseErr s g its).2.2 = 0
theorem valid_ok {s : Int} {g : List Gat} {its : List Item} : P_l_valid s g its = some (decide (okCase s g its)) := by
 unfold P_l_valid;rw [r4_Check_ok];rfl
end Go.Am
end
section
namespace Go.Am
set_option linter.unusedVariables false
theorem doubts_none : ∀ (l : List Item) (d i : Nat), d + l.countP (fun x => decide (1 < x.could.l.length)) ≤ 3 → doubtsErr d i l = none := by
 intro l
 induction l with
 | nil => intro d i _; rfl
 | cons x l ih =>
  intro d i h;rw [List.countP_cons] at h;unfold doubtsErr
  by_cases hx : 1 < x.could.l.length
  ·simp only [hx, if_true, decide_true] at h ⊢;rw [if_neg (by omega)];exact ih _ _ (by omega)
  ·simp only [hx, if_false, decide_false] at h ⊢;rw [if_neg (by omega)];exact ih _ _ (by simpa using h)
theorem items_none {n : Int} : ∀ (l : List Item) (i : Nat), (∀ x ∈ l, itemErr x.could.l n = 0) → itemsErr n i l = none := by
 intro l
 induction l with
 | nil => intro i _; rfl
 | cons a l ih =>
  intro i h;unfold itemsErr;rw [if_pos (h a List.mem_cons_self)];exact ih _ fun x hx => h x (List.mem_cons_of_mem _ hx)
theorem okCase_iff {s : Int} {g : List Gat} {its : List Item} : okCase s g its ↔ (bookErr (bk s g)).2.2 = 0 ∧ (lvs s g).length ≤ 120 ∧ its.length ≤ 120 ∧ (∀ x ∈ its, itemErr x.could.l ((lvs s g).length : Int) = 0) ∧ its.countP (fun x => decide (1 < x.could.l.length)) ≤ 3 := by
 constructor
 ·intro h
  have hg := case_good h;refine ⟨hg.b0, hg.nl, hg.il, ?_, hg.dbt⟩;unfold okCase caseErr at h
  have h1 : ¬ 120 < (leavesOf (bk s g)).length := by have := hg.nl; unfold lvs at this; omega
  rw [if_pos hg.b0, if_neg h1, if_neg (by have := hg.il; omega)] at h;split at h
  ·rename_i i e he
   exact absurd h (itemsErr_pos _ _ _ _ he)
  ·rename_i he
   exact items_ok _ _ he
 ·rintro ⟨h1, h2, h3, h4, h5⟩;unfold okCase caseErr;rw [if_pos h1, if_neg (by unfold lvs at h2; omega), if_neg (by omega)]
  have e1 : itemsErr ((leavesOf (bk s g)).length : Int) 0 its = none := items_none its 0 h4;rw [e1];simp only;rw [doubts_none its 0 0 (by omega)]
theorem itemErr_of {l : List Int} {n : Int} (h1 : l.length ≤ 4) (h2 : ∀ x ∈ l, 0 ≤ x ∧ x ≤ n - 1) (h3 : ¬ BadOrder l) : itemErr l n = 0 := by
 unfold itemErr;rw [if_neg (by omega), if_neg (fun ⟨x, hx, k⟩ => by have := h2 x hx; omega), if_neg h3]
theorem badOrder_nil : ¬ BadOrder [] := by
 rintro ⟨i, a, b, h1, h2, h3⟩;cases h1
theorem mem_comps : ∀ (l : List Item) (p t : List Int), t ∈ comps p l ↔ ∃ u, t = p ++ u ∧ u.length = l.length ∧ ∀ (i : Nat) (x : Item), l[i]? = some x → ∃ c ∈ chs x, u[i]? = some c := by
 intro l
 induction l with
 | nil =>
  intro p t;rw [comps, List.mem_singleton]
  constructor
  ·rintro rfl; exact ⟨[], by simp, rfl, fun i x h => by cases h⟩
  ·rintro ⟨u, rfl, hu, _⟩;rw [List.eq_nil_of_length_eq_zero hu, List.append_nil]
 | cons x l ih =>
  intro p t;rw [comps, List.mem_flatMap]
  constructor
  ·rintro ⟨c, hc, ht⟩;obtain ⟨u, rfl, hu, h⟩ := (ih _ _).1 ht;refine ⟨c :: u, by simp, by simp [hu], fun i y hy => ?_⟩;cases i with
   | zero => cases hy; exact ⟨c, hc, rfl⟩
   | succ i => exact h i y hy
  ·rintro ⟨u, rfl, hu, h⟩;cases u with
   | nil => cases hu
   | cons c u =>
    obtain ⟨c', hc', e⟩ := h 0 x rfl;cases e;exact ⟨c, hc', (ih _ _).2 ⟨u, by simp, by simpa using hu, fun i y hy => h (i + 1) y hy⟩⟩
theorem mem_truths {l : List Item} {t : List Int} : t ∈ truthsOf l ↔ t.length = l.length ∧ ∀ (i : Nat) (x : Item), l[i]? = some x → ∃ c ∈ chs x, t[i]? = some c := by
 unfold truthsOf;rw [mem_comps]
 constructor
 ·rintro ⟨u, rfl, h1, h2⟩; exact ⟨h1, h2⟩
 ·rintro ⟨h1, h2⟩; exact ⟨t, rfl, h1, h2⟩
theorem fold_in (f : List Int → Int) : ∀ (l : List (List Int)) (a b : Int), ((l.foldl (fun x t => (min x.1 (f t), max x.2 (f t))) (a, b)).1 = a ∨ ∃ t ∈ l, (l.foldl (fun x t => (min x.1 (f t), max x.2 (f t))) (a, b)).1 = f t) ∧ ((l.foldl (fun x t => (min x.1 (f t), max x.2 (f t))) (a, b)).2 = b ∨ ∃ t ∈ l, (l.foldl (fun x t => (min x.1 (f t), max x.2 (f t))) (a, b)).2 = f t) := by
 intro l
 induction l with
 | nil => intro a b; exact ⟨.inl rfl, .inl rfl⟩
 | cons u l ih =>
  intro a b;rw [List.foldl_cons];obtain ⟨h1, h2⟩ := ih (min a (f u)) (max b (f u))
  constructor
  ·rcases h1 with h1 | ⟨t, ht, h1⟩
   ·by_cases hc : a ≤ f u
    ·exact .inl (h1.trans (by omega))
    ·exact .inr ⟨u, List.mem_cons_self, h1.trans (by omega)⟩
   ·exact .inr ⟨t, List.mem_cons_of_mem _ ht, h1⟩
  ·rcases h2 with h2 | ⟨t, ht, h2⟩
   ·by_cases hc : f u ≤ b
    ·exact .inl (h2.trans (by omega))
    ·exact .inr ⟨u, List.mem_cons_self, h2.trans (by omega)⟩
   ·exact .inr ⟨t, List.mem_cons_of_mem _ ht, h2⟩
theorem wide_at {s : Int} {g : List Gat} {its : List Item} (hf : ∀ x ∈ its, x.could.l.length ≤ 4) : (∃ t ∈ truthsOf its, (wideOf s g its).1 = manyOf s g t) ∧ ∃ t ∈ truthsOf its, (wideOf s g its).2 = manyOf s g t := by
 obtain ⟨u, l, h⟩ := truths_pos hf
 have e : wideOf s g its = l.foldl (fun x t => (min x.1 (manyOf s g t), max x.2 (manyOf s g t))) (manyOf s g u, manyOf s g u) := by unfold wideOf; rw [h]
 rw [e, h];obtain ⟨h1, h2⟩ := fold_in (manyOf s g) l (manyOf s g u) (manyOf s g u)
 constructor
 ·rcases h1 with h1 | ⟨t, ht, h1⟩
  ·exact ⟨u, List.mem_cons_self, h1⟩
  ·exact ⟨t, List.mem_cons_of_mem _ ht, h1⟩
 ·rcases h2 with h2 | ⟨t, ht, h2⟩
  ·exact ⟨u, List.mem_cons_self, h2⟩
  ·exact ⟨t, List.mem_cons_of_mem _ ht, h2⟩
end Go.Am
end
section
namespace Go.Am
set_option linter.unusedVariables false
def strip (r : S_copy_run) : S_copy_run := ⟨0, r.first, r.last⟩
theorem chains_strip : ∀ l : List S_copy_run, chains (l.map strip) = chains l := by
 have hf : ∀ (last : Int) (l : List S_copy_run) (c : List Int) (a : Int), follow last ((l.map strip).zip c) a = follow last (l.zip c) a := by
  intro last l
  induction l with
  | nil => intro c a; rfl
  | cons r l ih =>
   intro c a;cases c with
   | nil => rfl
   | cons x c => rw [List.map_cons, List.zip_cons_cons, List.zip_cons_cons, follow_cons, follow_cons, ih]; rfl
 intro l
 induction l with
 | nil => rfl
 | cons r l ih => rw [List.map_cons, chains, chains, ih, hf]; rfl
theorem moved_strip (l : List S_copy_run) : (movedOf (l.map strip)).length = (movedOf l).length := by
 have hf : ∀ (l : List S_copy_run) (c : List Int) (b last : Int), (movedFrom ((l.map strip).zip c) b last).length = (movedFrom (l.zip c) b last).length := by
  intro l
  induction l with
  | nil => intro c b last; rfl
  | cons r l ih =>
   intro c b last;cases c with
   | nil => rfl
   | cons x c =>
    rw [List.map_cons, List.zip_cons_cons, List.zip_cons_cons, movedFrom, movedFrom]
    show (if x = b ∧ r.first > last then _ else _ : List Int).length = _;split
    ·exact ih _ _ _
    ·rw [List.length_cons, List.length_cons, ih]
 unfold movedOf;rw [chains_strip, hf]
theorem rnStep_strip (g : Int → Int) (l : List S_copy_run) (i n : Int) : (rnStep g l i n).map strip = rnStep g (l.map strip) 0 n := by
 unfold rnStep;rw [List.length_map, List.getElem?_map];cases l[l.length - 1]? with
 | none => simp [strip]
 | some r =>
  simp only [Option.map_some]
  show List.map strip (if r.last < n ∧ g r.last = g n then _ else _) = if r.last < n ∧ g r.last = g n then _ else _;split
  ·rw [List.map_set]; rfl
  ·simp [strip]
structure SeenT where
 met : List Int
 strange : Nat
 twice : Nat
 runs : List S_copy_run
def seeStep (g : Int → Int) (s : SeenT) (n : Int) : SeenT :=
 if n < 0 then ⟨s.met ++ [n], s.strange + 1, s.twice, s.runs⟩
 else if n ∈ s.met then ⟨s.met ++ [n], s.strange, s.twice + 1, s.runs⟩
 else ⟨s.met ++ [n], s.strange, s.twice, rnStep g s.runs 0 n⟩
def see (g : Int → Int) (t : List Int) (s : SeenT) : SeenT := t.foldl (seeStep g) s
def see0 (g : Int → Int) (t : List Int) : SeenT := see g t ⟨[], 0, 0, []⟩
theorem see_append (g : Int → Int) (t u : List Int) (s : SeenT) : see g (t ++ u) s = see g u (see g t s) := List.foldl_append
theorem see_take (g : Int → Int) (t : List Int) : ∀ k, k ≤ t.length → see0 g (t.take k) = ⟨t.take k, (idxTo isStrange t k).length, (idxTo (isTwice t) t k).length, (runsTo g t k).map strip⟩ := by
 intro k
 induction k with
 | zero => intro _; rfl
 | succ k ih =>
  intro hk;obtain ⟨n, hn⟩ : ∃ n, t[k]? = some n := ⟨_, List.getElem?_eq_getElem (by omega)⟩;rw [take_snoc hn, see0, see_append, ← see0, ih (by omega), idxTo_succ hn, idxTo_succ hn, runsTo_succ hn]
  show seeStep g _ n = _;unfold seeStep
  by_cases h0 : n < 0
  ·have e1 : isPlain t k n = false := decide_eq_false (by omega)
   have e2 : isStrange k n = true := decide_eq_true h0
   have e3 : isTwice t k n = false := decide_eq_false (by omega);rw [e1, e2, e3, if_pos h0];simp
  ·have e2 : isStrange k n = false := decide_eq_false h0
   by_cases hm : n ∈ t.take k
   ·have e1 : isPlain t k n = false := decide_eq_false (fun h => h.2 hm)
    have e3 : isTwice t k n = true := decide_eq_true ⟨by omega, hm⟩;rw [e1, e2, e3, if_neg h0, if_pos hm];simp
   ·have e1 : isPlain t k n = true := decide_eq_true ⟨by omega, hm⟩
    have e3 : isTwice t k n = false := decide_eq_false (fun h => hm h.2);rw [e1, e2, e3, if_neg h0, if_neg hm];simp [rnStep_strip]
theorem see_all (g : Int → Int) (t : List Int) : see0 g t = ⟨t, (strangeOf t).length, (twiceOf t).length, (runsOf g t).map strip⟩ := by
 have := see_take g t t.length (Nat.le_refl _);rw [List.take_length] at this;exact this
def seenMany (n : Nat) (mt : List Int) (s : SeenT) : Int := piecesOf mt (lostOf n s.met) + s.strange + s.twice + (movedOf s.runs).length
theorem allOf_see (n : Nat) (mt : List Int) (g : Int → Int) (t : List Int) : allOf n mt g t = seenMany n mt (see0 g t) := by
 rw [see_all];unfold seenMany allOf;simp only [moved_strip]
theorem lostOf_congr {n : Nat} {t u : List Int} (h : ∀ x : Int, 0 ≤ x → (x ∈ t ↔ x ∈ u)) : lostOf n t = lostOf n u := by
 induction n with
 | zero => rfl
 | succ n ih =>
  rw [lostOf_succ, lostOf_succ, ih];simp only [h (n : Int) (by omega)]
theorem see_same (g : Int → Int) : ∀ (d : List Int) (a b : SeenT), (∀ x : Int, 0 ≤ x → (x ∈ a.met ↔ x ∈ b.met)) → a.strange = b.strange + 1 → a.twice = b.twice → a.runs = b.runs →
  (∀ x : Int, 0 ≤ x → (x ∈ (see g d a).met ↔ x ∈ (see g d b).met)) ∧ (see g d a).strange = (see g d b).strange + 1 ∧ (see g d a).twice = (see g d b).twice ∧ (see g d a).runs = (see g d b).runs := by
 intro d
 induction d with
 | nil => intro a b h1 h2 h3 h4; exact ⟨h1, h2, h3, h4⟩
 | cons n d ih =>
  intro a b h1 h2 h3 h4
  have hm : ∀ x : Int, 0 ≤ x → (x ∈ a.met ++ [n] ↔ x ∈ b.met ++ [n]) := fun x hx => by rw [List.mem_append, List.mem_append, h1 x hx]
  show (∀ x : Int, 0 ≤ x → (x ∈ (see g d (seeStep g a n)).met ↔ x ∈ (see g d (seeStep g b n)).met)) ∧ (see g d (seeStep g a n)).strange = (see g d (seeStep g b n)).strange + 1 ∧ (see g d (seeStep g a n)).twice = (see g d (seeStep g b n)).twice ∧ (see g d (seeStep g a n)).runs = (see g d (seeStep g b n)).runs;unfold seeStep
  by_cases h0 : n < 0
  ·rw [if_pos h0, if_pos h0];exact ih _ _ hm (by simp only; omega) h3 h4
  ·rw [if_neg h0, if_neg h0];simp only [h1 n (by omega)];split
   ·exact ih _ _ hm h2 (by simp only; omega) h4
   ·exact ih _ _ hm h2 h3 (by simp only [h4])
theorem many_strange (s : Int) (g : List Gat) (a b : List Int) : manyOf s g (a ++ -1 :: b) = manyOf s g (a ++ b) + 1 := by
  unfold manyOf
  rw [allOf_see, allOf_see, see0, see0, see_append, see_append]
  show seenMany _ _ (see _ b (seeStep _ (see _ a _) (-1))) = _
  generalize see _ a _ = p
  obtain ⟨h1, h2, h3, h4⟩ := see_same (gathOf (lvs s g)) b (seeStep (gathOf (lvs s g)) p (-1)) p (fun x hx => by
    unfold seeStep
    rw [if_pos (by omega)]
    simp only [List.mem_append, List.mem_singleton]
    exact ⟨fun h => h.resolve_right (by omega), .inl⟩) (by unfold seeStep; rw [if_pos (by omega)]) (by unfold seeStep; rw [if_pos (by omega)]) (by unfold seeStep; rw [if_pos (by omega)])
  unfold seenMany
  rw [lostOf_congr h1, h2, h3, h4]
  omega
theorem many_twice (s : Int) (g : List Gat) (a : List Int) (x : Int) (h0 : 0 ≤ x) (hx : x ∈ a) : manyOf s g (a ++ [x]) = manyOf s g a + 1 := by
 unfold manyOf;rw [allOf_see, allOf_see, see0, see_append, ← see0, see_all]
 show seenMany _ _ (seeStep _ _ x) = _;unfold seeStep;rw [if_neg (by omega), if_pos hx];unfold seenMany;simp only;rw [lostOf_congr (u := a)]
 ·omega
 ·intro y hy;rw [List.mem_append, List.mem_singleton];exact ⟨fun h => h.elim id (fun e => e ▸ hx), .inl⟩
theorem truths_append {a b : List Item} {t : List Int} : t ∈ truthsOf (a ++ b) ↔ ∃ u v, t = u ++ v ∧ u ∈ truthsOf a ∧ v ∈ truthsOf b := by
 rw [mem_truths]
 constructor
 ·rintro ⟨h1, h2⟩;rw [List.length_append] at h1;refine ⟨t.take a.length, t.drop a.length, (List.take_append_drop _ _).symm, mem_truths.2 ⟨by rw [List.length_take]; omega, fun i x hx => ?_⟩, mem_truths.2 ⟨by rw [List.length_drop]; omega, fun i x hx => ?_⟩⟩
  ·have hi := (List.getElem?_eq_some_iff.1 hx).1;obtain ⟨c, hc, e⟩ := h2 i x (by rw [List.getElem?_append_left hi]; exact hx);exact ⟨c, hc, by rw [List.getElem?_take_of_lt hi]; exact e⟩
  ·obtain ⟨c, hc, e⟩ := h2 (a.length + i) x (by rw [List.getElem?_append_right (by omega)]; simpa using hx);exact ⟨c, hc, by rw [List.getElem?_drop]; exact e⟩
 ·rintro ⟨u, v, rfl, hu, hv⟩;obtain ⟨u1, u2⟩ := mem_truths.1 hu;obtain ⟨v1, v2⟩ := mem_truths.1 hv;refine ⟨by simp [u1, v1], fun i x hx => ?_⟩
  by_cases hi : i < a.length
  ·rw [List.getElem?_append_left hi] at hx;obtain ⟨c, hc, e⟩ := u2 i x hx;exact ⟨c, hc, by rw [List.getElem?_append_left (by omega)]; exact e⟩
  ·rw [List.getElem?_append_right (by omega)] at hx;obtain ⟨c, hc, e⟩ := v2 _ x hx;exact ⟨c, hc, by rw [List.getElem?_append_right (by omega), u1]; exact e⟩
theorem truths_one {y : Item} {t : List Int} : t ∈ truthsOf [y] ↔ ∃ c ∈ chs y, t = [c] := by
 rw [mem_truths]
 constructor
 ·rintro ⟨h1, h2⟩;obtain ⟨c, hc, e⟩ := h2 0 y rfl;refine ⟨c, hc, ?_⟩
  match t, h1, e with
  | [d], _, e => cases e; rfl
 ·rintro ⟨c, hc, rfl⟩;refine ⟨rfl, fun i x hx => ?_⟩;cases i with
  | zero => cases hx; exact ⟨c, hc, rfl⟩
  | succ i => cases hx
theorem wide_shift {s : Int} {g : List Gat} {l l' : List Item} (hf : ∀ x ∈ l, x.could.l.length ≤ 4) (hf' : ∀ x ∈ l', x.could.l.length ≤ 4)
  (h1 : ∀ t ∈ truthsOf l, ∃ t' ∈ truthsOf l', manyOf s g t' = manyOf s g t + 1) (h2 : ∀ t' ∈ truthsOf l', ∃ t ∈ truthsOf l, manyOf s g t' = manyOf s g t + 1) : (wideOf s g l').1 = (wideOf s g l).1 + 1 ∧ (wideOf s g l').2 = (wideOf s g l).2 + 1 := by
 obtain ⟨⟨a, ha, ea⟩, b, hb, eb⟩ := wide_at (s := s) (g := g) hf;obtain ⟨⟨c, hc, ec⟩, d, hd, ed⟩ := wide_at (s := s) (g := g) hf';obtain ⟨a', ha', ea'⟩ := h1 a ha;obtain ⟨b', hb', eb'⟩ := h1 b hb;obtain ⟨c', hc', ec'⟩ := h2 c hc;obtain ⟨d', hd', ed'⟩ := h2 d hd
 have i1 := wide_has (s := s) (g := g) ha'
 have i2 := wide_has (s := s) (g := g) hb'
 have i3 := wide_has (s := s) (g := g) hc'
 have i4 := wide_has (s := s) (g := g) hd';omega
theorem okCase_more {s : Int} {g : List Gat} {its : List Item} (h : okCase s g its) (hn : its.length ≠ 120) {k : Nat} {y : Item} (hy : itemErr y.could.l ((lvs s g).length : Int) = 0) (hd : y.could.l.length ≤ 1) : okCase s g (its.take k ++ [y] ++ its.drop k) := by
 obtain ⟨h1, h2, h3, h4, h5⟩ := okCase_iff.1 h;refine okCase_iff.2 ⟨h1, h2, ?_, ?_, ?_⟩
 ·simp only [List.length_append, List.length_take, List.length_drop, List.length_singleton]; omega
 ·intro x hx
  rcases List.mem_append.1 hx with hx | hx
  ·rcases List.mem_append.1 hx with hx | hx
   ·exact h4 x (List.mem_of_mem_take hx)
   ·rw [List.mem_singleton] at hx; subst hx; exact hy
  ·exact h4 x (List.mem_of_mem_drop hx)
 ·have e1 : its.countP (fun x => decide (1 < x.could.l.length)) = (its.take k).countP (fun x => decide (1 < x.could.l.length)) + (its.drop k).countP (fun x => decide (1 < x.could.l.length)) := by
   rw [← List.countP_append, List.take_append_drop]
  rw [List.countP_append, List.countP_append, List.countP_singleton, if_neg (by simp; omega)];omega
theorem with_ok {l : List Item} {k : Nat} {at_ : Int} {x : Item} (hl : l.length ≤ 1000) (h : Int.tmod at_ ((l.length : Int) + 1) = k) (hk : k ≤ l.length) : P_l_with l at_ x = some (l.take k ++ [x] ++ l.drop k) := by
 refine Ok.get ?_;unfold P_l_with
 rw [h]
 have e0 : ((k : Int) - 0).toNat = k := by omega
 have e1 : (0 : Int).toNat = 0 := rfl
 have e2 : (k : Int).toNat = k := by omega
 have e3 : ((l.length : Int) - (k : Int)).toNat = l.length - k := by omega
 rw [e0, e1, e2, e3, List.drop_zero, List.nil_append];refine .chk (i64_small (by omega)) (.chk (by omega) (.chk (by omega) (.chk (by omega) (.chk (by simp only [List.length_nil, List.length_take]; omega) (.chk (by simp only [List.length_singleton, List.length_take]; omega) (.chk (by simp only [List.length_append, List.length_singleton, List.length_take, List.length_drop]; omega) (.some ?_)))))));rw [List.take_of_length_le (l := l.drop k) (by rw [List.length_drop]; omega)]
theorem CopyMore_true (s : Int) (g : List Gat) (its : List Item) (x0 x1 : UInt16) : P_law_CopyMore s g its x0 x1 = some true := by
  refine Ok.get ?_
  unfold P_law_CopyMore
  by_cases e : okCase s g its ∧ its.length ≠ 120
  · obtain ⟨e, en⟩ := e
    have h := case_good e
    have hil := h.il
    refine Ok.seqx (.andx' (a := false) (Ok.get (.andx' valid_ok (.ifp (decide_eq_true e) (.some (by simp; omega))))) (.ifn (by simp) (.some ?_)))
    show Ok _ _
    have hr : rangeSaid s g its = ((wideOf s g its).1, (wideOf s g its).2, 0) := if_pos e
    have hx0 : (x0.toNat : Int) < 65536 := by have := x0.toNat_lt; omega
    have hx1 : (x1.toNat : Int) < 65536 := by have := x1.toNat_lt; omega
    have hm0 : Int.tmod (x0.toNat : Int) ((its.length : Int) + 1) = ((x0.toNat % (its.length + 1) : Nat) : Int) := Int.ofNat_tmod _ (its.length + 1) |>.symm
    have hi : x0.toNat % (its.length + 1) < its.length + 1 := Nat.mod_lt _ (by omega)
    generalize x0.toNat % (its.length + 1) = k at *
    have hb := (wide_at (s := s) (g := g) h.few)
    have hbd : ∀ t ∈ truthsOf its, 0 ≤ manyOf s g t ∧ manyOf s g t ≤ 1000 := fun t ht => by
      have h1 := many_bounds s g t
      have h2 := (truths_in h t ht).1
      have := h.nl
      omega
    have hb1 : 0 ≤ (wideOf s g its).1 ∧ (wideOf s g its).1 ≤ 1000 := by obtain ⟨⟨t, ht, e⟩, _⟩ := hb; rw [e]; exact hbd t ht
    have hb2 : 0 ≤ (wideOf s g its).2 ∧ (wideOf s g its).2 ≤ 1000 := by obtain ⟨_, t, ht, e⟩ := hb; rw [e]; exact hbd t ht
    refine .andx' (c_Range_ok.trans (congrArg some hr)) (.chk (by omega) (.andx' (with_ok (by omega) hm0 (by omega)) ?_))
    have hok := okCase_more e en (k := k) (y := (⟨GSo true encI []⟩ : Item)) (itemErr_of (by show [].length ≤ 4; simp) (fun x hx => by cases hx) badOrder_nil) (by show [].length ≤ 1; simp)
    have hr' : rangeSaid s g (its.take k ++ [(⟨GSo true encI []⟩ : Item)] ++ its.drop k) = _ := if_pos hok
    have hw := wide_shift (s := s) (g := g) h.few (case_good hok).few (fun t ht => by
      rw [← List.take_append_drop k its] at ht
      obtain ⟨u, v, rfl, hu, hv⟩ := truths_append.1 ht
      refine ⟨u ++ -1 :: v, ?_, many_strange s g u v⟩
      rw [show u ++ -1 :: v = u ++ [-1] ++ v by simp]
      exact truths_append.2 ⟨_, v, rfl, truths_append.2 ⟨u, _, rfl, hu, truths_one.2 ⟨-1, List.mem_singleton.2 rfl, rfl⟩⟩, hv⟩) (fun t' ht' => by
      obtain ⟨w, v, rfl, hw, hv⟩ := truths_append.1 ht'
      obtain ⟨u, q, rfl, hu, hq⟩ := truths_append.1 hw
      obtain ⟨c, hc, rfl⟩ := truths_one.1 hq
      have hc : c ∈ [(-1 : Int)] := hc
      rw [List.mem_singleton] at hc
      subst hc
      refine ⟨u ++ v, ?_, by rw [← many_strange s g u v]; simp⟩
      rw [← List.take_append_drop k its]
      exact truths_append.2 ⟨u, v, rfl, hu, hv⟩)
    refine .andx' (c_Range_ok.trans (congrArg some hr')) ?_
    refine Ok.seqx (.andx' (a := false) (Ok.get (.ifn (by simp) (.ifn (by simp) (.chk (i64_small (by omega)) (.chk (i64_small (by omega)) (.andx' (a := ((wideOf s g its).1 + 1, (wideOf s g its).2 + 1)) rfl (.some (decide_eq_false ?_)))))))) (.ifn (by simp) (.some ?_)))
    · exact Classical.not_not.2 hw
    show Ok _ _
    refine .ite (fun _ => .some rfl) (fun h0 => ?_)
    have hm1 : Int.tmod (x1.toNat : Int) (its.length : Int) = ((x1.toNat % its.length : Nat) : Int) := Int.ofNat_tmod _ _ |>.symm
    have hi1 : x1.toNat % its.length < its.length := Nat.mod_lt _ (by omega)
    generalize x1.toNat % its.length = j at *
    refine .chk (by omega) (.chk (by omega) (.el (by rw [hm1]; omega) fun y hy => ?_))
    have hy := get_of hy hm1
    refine .ite (fun _ => .some rfl) (fun hl => ?_)
    have hl : y.could.l.length = 1 := by omega
    have hmt : Int.tmod (its.length : Int) ((its.length : Int) + 1) = (its.length : Nat) := by
      have := Int.ofNat_tmod its.length (its.length + 1)
      rw [Nat.mod_eq_of_lt (by omega)] at this
      exact this.symm
    refine .andx' (with_ok (x := y) (by omega) hmt (Nat.le_refl _)) ?_
    have hmem := List.mem_of_getElem? hy
    have hok2 := okCase_more e en (k := its.length) (y := y) ((okCase_iff.1 e).2.2.2.1 y hmem) (by omega)
    have hr2 : rangeSaid s g (its.take its.length ++ [y] ++ its.drop its.length) = _ := if_pos hok2
    obtain ⟨c, hc⟩ := List.length_eq_one_iff.1 hl
    have hchs : chs y = [c] := by unfold chs; rw [if_neg (by rw [hc]; simp), hc]
    have hrng := h.rng y hmem c (by rw [hc]; simp)
    have hw2 := wide_shift (s := s) (g := g) h.few (case_good hok2).few (fun t ht => by
      refine ⟨t ++ [c], ?_, many_twice s g t c hrng.1 ?_⟩
      · rw [List.take_length, List.drop_length, List.append_nil]
        exact truths_append.2 ⟨t, _, rfl, ht, truths_one.2 ⟨c, by rw [hchs]; simp, rfl⟩⟩
      · obtain ⟨d, hd, ed⟩ := (mem_truths.1 ht).2 j y hy
        rw [hchs, List.mem_singleton] at hd
        subst hd
        exact List.mem_of_getElem? ed) (fun t' ht' => by
      rw [List.take_length, List.drop_length, List.append_nil] at ht'
      obtain ⟨t, v, rfl, ht, hv⟩ := truths_append.1 ht'
      obtain ⟨d, hd, rfl⟩ := truths_one.1 hv
      rw [hchs, List.mem_singleton] at hd
      subst hd
      refine ⟨t, ht, many_twice s g t d hrng.1 ?_⟩
      obtain ⟨d', hd', ed'⟩ := (mem_truths.1 ht).2 j y hy
      rw [hchs, List.mem_singleton] at hd'
      subst hd'
      exact List.mem_of_getElem? ed')
    refine .andx' (c_Range_ok.trans (congrArg some hr2)) (.andx' (a := true) (Ok.get (.ifp rfl (.chk (i64_small (by omega)) (.chk (i64_small (by omega)) (.andx' (a := ((wideOf s g its).1 + 1, (wideOf s g its).2 + 1)) rfl (.ifp hw2 (.some rfl))))))) (.some rfl))
  · refine Ok.seqx (.andx' (a := true) (Ok.get (.andx' valid_ok ?_)) (.ifp rfl (.some ?_)))
    · by_cases e0 : okCase s g its
      · exact .ifp (decide_eq_true e0) (.some (decide_eq_true (by have : ¬ its.length ≠ 120 := fun h => e ⟨e0, h⟩; omega)))
      · exact .ifn (by simp [e0]) (.some rfl)
    · rfl
end Go.Am
end
section

end
section
namespace Go.Am.Ythckcbfijdambaa
open Go.Am Go.RowKit
theorem copyMore_calls (w : World) (c_Book_Signed : Int) (c_Book_Gatherings : GS encG) (c_Items : GS encIt) (x_0 : UInt16) (x_1 : UInt16) (xs : List Value) (h : RelL (snapR w 0) [.agg [iv (c_Book_Signed), c_Book_Gatherings.v, c_Items.v], .agg [ivk .u16 ((x_0.toNat : Int)), ivk .u16 ((x_1.toNat : Int))]] xs) :
  Calls Go.Proofs.Try.prog 6 xs.toArray w fun e w' => e = .returned (.bool true) ∧ Below w.heap.size w w' :=
 ((w_law_CopyMore c_Book_Signed c_Book_Gatherings c_Items x_0 x_1 true (CopyMore_true _ _ _ _ _)).runsTo.calls (EL_good 6) w xs h).mono fun e w' ⟨x, he, hr, hb⟩ => ⟨by rw [he]; cases hr; rfl, hb⟩
end Go.Am.Ythckcbfijdambaa
namespace Go.Proofs.Ythckcbfijdambaa.copyMore
open Go.ChangeShapes Go.WideShapes Go.ChangeAt Go.RowKit
set_option linter.unusedVariables false
theorem own : ownKnob Try.prog.godebug = none := by kernel_rfl
theorem laid : laidOutB Try.prog = true := by kernel_rfl
set_option maxRecDepth 100000 in
theorem lifted (os : Os) (started : os.Started) (H : Type) (enc : TypeId × Value → H) :
  ReturnsInHanded {} Try.checked os 6 .any (Rows.copyMoreSpec.pre6 enc Try.prog Try.f6 Rows.copyMoreRow.domain false) (Rows.copyMoreSpec.post enc Try.prog Try.f6 false true false false) := by
 refine returnsInHanded_of_change (C := Try.checked) own started (by kernel_rfl) Try.func6
  (ChangeSpec.witness6 (enc := enc) (C := Try.checked) false ⟨#[], #[.agg #[.int .i64 0, .slice none 0 0, .slice none 0 0], .agg #[.int .u16 0, .int .u16 0]], []⟩ 8 (by kernel_rfl) (by kernel_rfl) (by kernel_rfl) (by kernel_rfl)) ?_
 intro W base args ds gs before hval0 hW hcnd _
 have hW' := hW;obtain ⟨p, q, hA0, hV, rfl, hfz, hnd⟩ := hW
 have hA : DataW.TrodAll enc Try.prog W 0 (fun _ => true) true Try.f6.params.toList args.toList ds p := hA0
 have hval : ∀ (j : Nat) t v, Try.f6.params[j]? = some t → args[j]? = some v → Value.okWide Try.prog W .any base t v := hval0;rw [Try.params6] at hA hval;obtain ⟨v0, v1, d0, d1, p0, p1, rfl, rfl, rfl, h0, h1⟩ := trodAll_two hA;obtain ⟨rfl, rfl⟩ := trodVars_none hV;obtain ⟨x0, r0⟩ := Go.Am.Ythckcbfijdambaa.li_36.arg Try.underlying36 (hval 0 36 v0 rfl rfl) h0;obtain ⟨x1, r1⟩ := Go.Am.Ythckcbfijdambaa.li_62.argA Try.underlying62 (hval 1 62 v1 rfl rfl) h1
 clear hA0 hval0
 refine (Go.Am.Ythckcbfijdambaa.copyMore_calls W x0.book.signed x0.book.gs x0.items x1.1 x1.2 [v0, v1] (.cons r0 (.cons r1 (.nil _)))).mono fun e W' ⟨he, bel⟩ => ?_
 subst he
 have hlt : ∀ x ∈ p0 ++ p1, x.block < W.heap.size := fun x hx => hW'.lt x (by simpa using hx)
 have k0 := Below.trod laid (by kernel_rfl) (of_decide_eq_true (by kernel_rfl)) h0 bel fun x hx => hlt x (by simp [hx])
 have k1 := Below.trod laid (by kernel_rfl) (of_decide_eq_true (by kernel_rfl)) h1 bel fun x hx => hlt x (by simp [hx])
 exact ⟨_, rfl, _, _, _, [], _, [], hW', trodAll_mk1 (shut_bool Try.underlying4 _), trodAll_mk2 k0 k1, rfl, bel.frame _, fun h => by cases h⟩
theorem over : Rows.copyMoreRow.holds Try.pinned (OpenSpec.ofChange Rows.copyMoreSpec) :=
 OpenClaim.holds_of_wide 6 Try.f6 rfl rfl rfl rfl rfl rfl rfl ⟨rfl, rfl, rfl, rfl, rfl⟩ rfl rfl rfl rfl rfl (by kernel_rfl) Try.func6 (by kernel_rfl)
  (of_decide_eq_true (by kernel_rfl)) (by unfold Func.isWrapper; first | (rw [if_pos (by decide +kernel)]; kernel_rfl) | (rw [if_neg (by decide +kernel)]; exact ⟨rfl, rfl⟩))
  (fun os started H enc _ => lifted os started H enc)
theorem proved : Rows.CopyMoreSaid := over
#print axioms proved
end Go.Proofs.Ythckcbfijdambaa.copyMore
end
