/- Part 4. -/
import Derived.Test.YthckcbfijdambaaCopyDividedP3
import Derived.WalkKit
import Derived.ProofKit
import Derived.OpenShut
import Derived.ChangeOld
import Derived.Below
import Derived.Carry
section
namespace Go.Am
def BadOrder (l : List Int) : Prop := ∃ (i : Nat) (a b : Int), l[i]? = some a ∧ l[i + 1]? = some b ∧ b ≤ a
open Classical in
noncomputable def itemErr (l : List Int) (n : Int) : Int := if 4 < l.length then 3 else if ∃ x ∈ l, x < 0 ∨ n - 1 < x then 4 else if BadOrder l then 2 else 0
noncomputable def itemsErr (n : Int) : Nat → List Item → Option (Nat × Int)
 | _, [] => none
 | i, x :: l => if itemErr x.could.l n = 0 then itemsErr n (i + 1) l else some (i, itemErr x.could.l n)
def doubtsErr : Nat → Nat → List Item → Option Nat
 | _, _, [] => none
 | d, i, x :: l => if 3 < (if 1 < x.could.l.length then d + 1 else d) then some i else doubtsErr (if 1 < x.could.l.length then d + 1 else d) (i + 1) l
noncomputable def caseErr (s : Int) (g : List Gat) (its : List Item) : Int × Int × Int :=
 if (bookErr (bk s g)).2.2 = 0 then
  if 120 < (leavesOf (bk s g)).length then (1, 0, 3)
  else if 120 < its.length then (2, 0, 3)
  else match itemsErr (leavesOf (bk s g)).length 0 its with
   | some (i, e) => (2, (i : Int), e)
   | none => match doubtsErr 0 0 its with
    | some i => (3, (i : Int), 3)
    | none => (0, 0, 0)
 else (1, 0, (bookErr (bk s g)).2.2)
theorem in_ok {n lo hi : Int} : P_r4_in n lo hi = some (decide (lo ≤ n ∧ n ≤ hi)) := by
 unfold P_r4_in
 by_cases h : n ≥ lo
 ·rw [if_pos h]; simp [andx, show lo ≤ n from h]
 ·rw [if_neg h]; simp [andx, show ¬ lo ≤ n from h]
theorem item_ok {l : List Int} {n : Int} (hn : 0 ≤ n ∧ n ≤ 1000000) : P_r4_item l n = some (itemErr l n) := by
 refine Ok.get ?_;unfold P_r4_item itemErr;refine .ite (fun h => ?_) (fun h => ?_)
 ·rw [if_pos (by omega)]; exact .some rfl
 ·rw [if_neg (by omega)];refine Ok.seqx (Ok.count id l.length (fun k s => ∀ x ∈ l.take k, ¬ (x < 0 ∨ n - 1 < x)) rfl (by simp) ?_ ?_)
  ·rintro k x hk hx hi;simp only [id] at hx;unfold P_r4_item_L1;refine .ifp (by omega) (.el (by omega) fun a ha => .chk (i64_small (by omega)) (.andx' in_ok ?_))
   have ha := get_of ha hx;refine .ite (fun hc => ?_) (fun hc => ?_)
   ·refine .chk (i64_small (by omega)) (.some ⟨by simp only [id]; omega, ?_⟩)
    show ∀ y ∈ l.take (k + 1), _;rw [take_snoc ha];intro y hy
    rcases List.mem_append.1 hy with hy | hy
    ·exact hi y hy
    ·simp at hy; subst hy; simp at hc; omega
   ·refine .some ?_
    show 4 = _;rw [if_pos ⟨a, List.mem_of_getElem? ha, by simp at hc; omega⟩]
  ·rintro x hx hi;simp only [id] at hx;unfold P_r4_item_L1;rw [List.take_length] at hi;refine .ifn (by omega) (.some ?_)
   show Ok _ _;rw [if_neg (fun ⟨y, h1, h2⟩ => hi y h1 h2)];refine Ok.seqx (Ok.iter (fun i => 1 ≤ i ∧ ∀ (k : Nat) (a b : Int), (k : Int) + 1 < i → l[k]? = some a → l[k + 1]? = some b → a < b) (fun i => l.length - i.toNat) ⟨by omega, fun k a b h => by omega⟩ ?_);rintro i ⟨h1, h2⟩;unfold P_r4_item_L2;refine .ite (fun hc => ?_) (fun hc => ?_)
   ·refine .el (by omega) fun b hb => .chk (i64_small (by omega)) (.el (by omega) fun a ha => ?_)
    have e : i.toNat = (i - 1).toNat + 1 := by omega
    rw [e] at hb;refine .ite (fun hd => .some ?_) (fun hd => .chk (i64_small (by omega)) (.some ⟨⟨by omega, ?_⟩, by simp only; omega⟩))
    ·show 2 = _;rw [if_pos ⟨_, a, b, ha, hb, hd⟩]
    ·intro k a' b' hk ha' hb'
     by_cases hk' : (k : Int) + 1 < i
     ·exact h2 k a' b' hk' ha' hb'
     ·have : k = (i - 1).toNat := by omega
      subst this;rw [ha] at ha'; rw [hb] at hb';cases ha'; cases hb';omega
   ·refine .some ?_
    show Ok _ _;refine .some ?_;rw [if_neg];rintro ⟨k, a, b, ha, hb, hd⟩
    have := (List.getElem?_eq_some_iff.1 hb).1
    have := h2 k a b (by omega) ha hb;omega
theorem itemsErr_drop {n : Int} {l : List Item} {k : Nat} {x : Item} (h : l[k]? = some x) : itemsErr n k (l.drop k) = if itemErr x.could.l n = 0 then itemsErr n (k + 1) (l.drop (k + 1)) else some (k, itemErr x.could.l n) := by
 rw [drop_cons h]; rfl
theorem doubtsErr_drop {d : Nat} {l : List Item} {k : Nat} {x : Item} (h : l[k]? = some x) : doubtsErr d k (l.drop k) = if 3 < (if 1 < x.could.l.length then d + 1 else d) then some k else doubtsErr (if 1 < x.could.l.length then d + 1 else d) (k + 1) (l.drop (k + 1)) := by
 rw [drop_cons h]; rfl
theorem r4_Check_ok {s : Int} {g : List Gat} {its : List Item} : P_r4_Check s g its = some (caseErr s g its) := by
 refine Ok.get ?_;unfold P_r4_Check caseErr;refine .andx' (x := P_r1_Check s g) rfl ?_;dsimp only
 by_cases h0 : (bookErr (bk s g)).2.2 = 0
 ·have hf := book_fits h0
  have hall : P_r1_All s g = some (leavesOf (bk s g)) := by unfold P_r1_All; rw [chk_pos hf]
  have hlen := leaves_len hf;rw [if_pos h0, if_pos h0, hall];simp only [andx];generalize hL : leavesOf (bk s g) = lv at hlen
  by_cases h1 : 120 < lv.length
  ·rw [if_pos (show decide ((lv.length : Int) > 120) = true by simp; omega), if_pos h1];simp only;refine .ifp (by omega) (.some rfl)
  ·rw [if_neg (show ¬ decide ((lv.length : Int) > 120) = true by simp; omega), if_neg h1];simp only [h0];refine .ifn (by simp) ?_
   by_cases h2 : 120 < its.length
   ·rw [if_pos h2]; refine .ifp (by omega) (.some rfl)
   ·rw [if_neg h2];refine .ifn (by omega) (Ok.seqx (Ok.count id its.length (fun k _ => itemsErr lv.length 0 its = itemsErr lv.length k (its.drop k)) rfl rfl ?_ ?_))
    ·rintro k i hk hi hI;simp only [id] at hi;subst hi;unfold P_r4_Check_L1;refine .ifp (by omega) (.el (by omega) fun x hx => .andx' (item_ok (by omega)) ?_)
     have hx := get_of hx rfl;rw [itemsErr_drop hx] at hI;refine .ite (fun hc => ?_) (fun hc => ?_)
     ·rw [if_neg hc] at hI;refine .some ?_
      show _ = _;rw [hI]
     ·rw [if_pos (by omega)] at hI;exact .chk (i64_small (by omega)) (.some ⟨rfl, hI⟩)
    ·rintro i hi hI;simp only [id] at hi;subst hi;unfold P_r4_Check_L1;rw [List.drop_length] at hI;refine .ifn (by omega) (.some ?_)
     show Ok _ _;rw [hI];simp only [itemsErr];refine Ok.seqx (Ok.count (σ := Int × Int) Prod.snd its.length (fun k s => ∃ d : Nat, s.1 = d ∧ d ≤ 3 ∧ doubtsErr 0 0 its = doubtsErr d k (its.drop k)) rfl ⟨0, rfl, by omega, rfl⟩ ?_ ?_)
     ·rintro k ⟨dd, i⟩ hk hi ⟨d, hd, hd3, hI⟩;simp only at hi hd;subst hi hd;unfold P_r4_Check_L2;refine .ifp (by omega) (Ok.seqx ?_);refine Ok.andx (P := fun j => ∃ x, its[k]? = some x ∧ j = ((if 1 < x.could.l.length then d + 1 else d : Nat) : Int)) (.el (by omega) fun x hx => ?_) ?_
      ·have hx := get_of hx rfl;refine .ite (fun hc => .chk (i64_small (by omega)) (.some ⟨x, hx, ?_⟩)) (fun hc => .some ⟨x, hx, ?_⟩)
       ·rw [if_pos (by omega)]; rfl
       ·rw [if_neg (by omega)]
      ·rintro j ⟨x, hx, rfl⟩;rw [doubtsErr_drop hx] at hI;generalize (if 1 < x.could.l.length then d + 1 else d) = e at hI;refine .ite (fun hc => ?_) (fun hc => ?_)
       ·rw [if_pos (by omega)] at hI;refine .some ?_
        show _ = _;rw [hI]
       ·rw [if_neg (by omega)] at hI;refine .some ?_
        show Ok _ _;exact .chk (i64_small (by omega)) (.some ⟨rfl, e, rfl, by omega, hI⟩)
     ·rintro ⟨dd, i⟩ hi ⟨d, hd, hd3, hI⟩;simp only at hi hd;subst hi hd;unfold P_r4_Check_L2;rw [List.drop_length] at hI;refine .ifn (by omega) (.some ?_)
      show Ok _ _;rw [hI];exact .some rfl
 ·rw [if_neg h0, if_neg h0];simp only [andx];rw [if_neg (by simp)];simp only;exact .ifp h0 (.some rfl)
end Go.Am
end
section
namespace Go.Am
noncomputable def lvs (s : Int) (g : List Gat) : List Leaf := leavesOf (bk s g)
noncomputable def matesTo (s : Int) (g : List Gat) (n : Nat) : List Int := (List.range n).map fun n => pairNo (bk s g) n
noncomputable def matesOf (s : Int) (g : List Gat) : List Int := matesTo s g (lvs s g).length
theorem matesTo_len (s : Int) (g : List Gat) (n : Nat) : (matesTo s g n).length = n := by simp [matesTo]
theorem matesTo_succ (s : Int) (g : List Gat) (n : Nat) : matesTo s g (n + 1) = matesTo s g n ++ [pairNo (bk s g) n] := by
 unfold matesTo; rw [List.range_succ, List.map_append]; rfl
theorem itemsErr_pos : ∀ (l : List Item) (i : Nat) (n : Int), ∀ x, itemsErr n i l = some x → x.2 ≠ 0 := by
 intro l
 induction l with
 | nil => intro i n x h; cases h
 | cons a l ih =>
  intro i n x h;unfold itemsErr at h;split at h
  ·exact ih _ _ _ h
  ·cases h; assumption
noncomputable def openRes (s : Int) (g : List Gat) (its : List Item) : Sum (Int × Int × Int) (Int × (GS encL) × (List Int) × Int × Int × Int) :=
 if (caseErr s g its).2.2 = 0 then .inr (s, GSo true encL (lvs s g), matesOf s g, 0, 0, 0) else .inl (caseErr s g its)
theorem outside_ok {lo hi : Int} {x : List Int} (h : x.length ≤ 1000000) : P_c_outside lo hi x = some (decide (∃ n ∈ x, n < lo ∨ hi < n)) := by
 unfold P_c_outside;rw [chk_pos (by omega)]
theorem order_ok {x44 : Int} {it : Item} (hl : it.could.l.length ≤ 4) {Q : Ex Unit (Stp Int (Ex Unit (Sum (Int × Int × Int) (Int × (GS encL) × (List Int) × Int × Int × Int)))) → Prop}
  (h1 : BadOrder it.could.l → Q (.rt (.dn (.rt (.inl (2, x44, 2)))))) (h2 : ¬ BadOrder it.could.l → Q (.nx ())) : Ok (iter (P_c_open_L2 x44 it) 0) Q := by
 refine Ok.iter (fun i => 0 ≤ i ∧ ∀ (k : Nat) (a b : Int), (k : Int) + 1 < i → it.could.l[k]? = some a → it.could.l[k + 1]? = some b → a < b) (fun i => it.could.l.length - i.toNat) ⟨by omega, fun k a b h => by omega⟩ ?_;rintro i ⟨h0, hI⟩;unfold P_c_open_L2;refine .ite (fun hc => ?_) (fun hc => ?_)
 ·refine Ok.seqx (.el (by omega) fun b hb => ?_)
  by_cases hi : i > 0
  ·rw [if_pos hi];refine Ok.andx (P := fun c => ∃ a, it.could.l[(i - 1).toNat]? = some a ∧ c = decide (b ≤ a)) (.chk (i64_small (by omega)) (.el (by omega) fun a ha => .some ⟨a, ha, rfl⟩)) ?_;rintro c ⟨a, ha, rfl⟩
   have e : i.toNat = (i - 1).toNat + 1 := by omega
   rw [e] at hb;refine .ite (fun hd => .some ?_) (fun hd => .some ?_)
   ·exact h1 ⟨_, a, b, ha, hb, by simpa using hd⟩
   ·refine .chk (i64_small (by omega)) (.some ⟨⟨by omega, ?_⟩, by simp only; omega⟩);intro k a' b' hk ha' hb'
    by_cases hk' : (k : Int) + 1 < i
    ·exact hI k a' b' hk' ha' hb'
    ·have : k = (i - 1).toNat := by omega
     subst this;rw [ha] at ha'; rw [hb] at hb';cases ha'; cases hb'
     have : ¬ b ≤ a := by simpa using hd
     omega
  ·rw [if_neg hi];simp only [andx];rw [if_neg (by simp)];refine .some ?_
   show Ok _ _;exact .chk (i64_small (by omega)) (.some ⟨⟨by omega, fun k a b hk => by omega⟩, by simp only; omega⟩)
 ·refine .some ?_;refine h2 ?_;rintro ⟨k, a, b, ha, hb, hd⟩
  have := (List.getElem?_eq_some_iff.1 hb).1
  have := hI k a b (by omega) ha hb;omega
theorem mate_ok {s : Int} {g : List Gat} {n : Nat} (h0 : (bookErr (bk s g)).2.2 = 0) (hn : n < (lvs s g).length) : (if ¬ (mateOf (bk s g) n).2 = 0 then (-1 : Int) else (mateOf (bk s g) n).1) = pairNo (bk s g) n := by
 rcases mate_cases h0 hn with h | ⟨h, h'⟩
 ·rw [h]; simp
 ·rw [h, h']; simp
theorem mates_ok {s : Int} {g : List Gat} (h0 : (bookErr (bk s g)).2.2 = 0) (hl : (lvs s g).length ≤ 120) : iter (P_c_open_L4 s g (lvs s g)) (0, []) = some (matesOf s g) := by
 refine Ok.get (Ok.count (σ := Int × List Int) Prod.fst (lvs s g).length (fun k x => x.2 = matesTo s g k) rfl rfl ?_ ?_)
 ·rintro k ⟨i, l⟩ hk hi hl';simp only at hi hl';subst hi hl';unfold P_c_open_L4;refine .ifp (by omega) (Ok.andx (P := fun l => l = matesTo s g (k + 1)) ?_ ?_)
  ·refine .andx' (x := P_q_Mate s g k) (a := mateOf (bk s g) k) rfl ?_
   have hme := mate_ok h0 hk;generalize mateOf (bk s g) (k : Int) = me at hme;obtain ⟨m, e⟩ := me;dsimp only at hme ⊢;refine Ok.andx (P := fun m => m = pairNo (bk s g) k) ?_ ?_
   ·refine .ite (fun hc => .some ?_) (fun hc => .some ?_)
    ·rw [if_pos hc] at hme; exact hme
    ·rw [if_neg hc] at hme; exact hme
   ·rintro m rfl
    have := matesTo_len s g k;exact .chk (by simp; omega) (.some (matesTo_succ s g k).symm)
  ·rintro l rfl;exact .chk (i64_small (by omega)) (.some ⟨rfl, rfl⟩)
 ·rintro ⟨i, l⟩ hi hl';simp only at hi hl';subst hi hl';unfold P_c_open_L4;exact .ifn (by omega) (.some rfl)
theorem open_ok {s : Int} {g : List Gat} {its : List Item} : P_c_open s g its = some (openRes s g its) := by
 refine Ok.get ?_;unfold P_c_open openRes caseErr;refine .andx' (x := P_q_Check s g) rfl ?_;dsimp only
 by_cases h0 : (bookErr (bk s g)).2.2 = 0
 ·rw [if_pos h0];refine .ifn (fun h => h h0) (.andx' (x := P_q_Leaves s g) (a := (leavesOf (bk s g), 0)) (by unfold P_q_Leaves; rw [if_pos h0, h0]) ?_);dsimp only
  have hlen := leaves_len (book_fits h0)
  have hmt := mates_ok (s := s) (g := g) h0;unfold lvs at hmt ⊢;generalize leavesOf (bk s g) = lv at hlen hmt
  by_cases h1 : 120 < lv.length
  ·rw [if_pos h1];exact .ifp (by omega) (.some (by simp))
  ·rw [if_neg h1];refine .ifn (by omega) ?_
   by_cases h2 : 120 < its.length
   ·rw [if_pos h2];exact .ifp (by omega) (.some (by simp))
   ·rw [if_neg h2];refine .ifn (by omega) (Ok.seqx (Ok.count id its.length (fun k _ => itemsErr lv.length 0 its = itemsErr lv.length k (its.drop k)) rfl rfl ?_ ?_))
    ·rintro k i hk hi hI;simp only [id] at hi;subst hi;unfold P_c_open_L1;refine .ifp (by omega) (Ok.seqx (.el (by omega) fun x hx => ?_))
     have hx := get_of hx rfl;rw [itemsErr_drop hx] at hI
     have key : ∀ e : Int, itemErr x.could.l lv.length = e → e ≠ 0 → (Sum.inl (2, (k : Int), e) : Sum (Int × Int × Int) (Int × (GS encL) × (List Int) × Int × Int × Int)) = (if (match itemsErr lv.length 0 its with | some (i, e) => ((2 : Int), (i : Int), e) | none => match doubtsErr 0 0 its with | some i => (3, (i : Int), 3) | none => (0, 0, 0)).2.2 = 0 then .inr (s, GSo true encL lv, matesOf s g, 0, 0, 0) else .inl (match itemsErr lv.length 0 its with | some (i, e) => ((2 : Int), (i : Int), e) | none => match doubtsErr 0 0 its with | some i => (3, (i : Int), 3) | none => (0, 0, 0))) := by
      intro e he h;rw [he, if_neg h] at hI;rw [hI];simp [h]
     unfold itemErr at hI key;refine .ite (fun hc => ?_) (fun hc => ?_)
     ·exact .some (key 3 (by rw [if_pos (by omega)]) (by omega))
     ·rw [if_neg (by omega : ¬ 4 < x.could.l.length)] at hI key;refine .chk (i64_small (by omega)) (.andx' (outside_ok (by omega)) ?_);refine .ite (fun hd => ?_) (fun hd => ?_)
      ·exact .some (key 4 (by rw [if_pos (by simpa using hd)]) (by omega))
      ·have hd' : ¬ ∃ n ∈ x.could.l, n < 0 ∨ (lv.length : Int) - 1 < n := by simpa using hd
       rw [if_neg hd'] at hI key;refine order_ok (by omega) (fun hb => ?_) (fun hb => ?_)
       ·exact key 2 (by rw [if_pos hb]) (by omega)
       ·rw [if_neg hb, if_pos rfl] at hI
        show Ok _ _;exact .chk (i64_small (by omega)) (.some ⟨rfl, hI⟩)
    ·rintro i hi hI;simp only [id] at hi;subst hi;unfold P_c_open_L1;rw [List.drop_length] at hI;refine .ifn (by omega) (.some ?_)
     show Ok _ _;rw [hI];simp only [itemsErr];refine Ok.seqx (Ok.count (σ := Int × Int) Prod.snd its.length (fun k s => ∃ d : Nat, s.1 = d ∧ d ≤ 3 ∧ doubtsErr 0 0 its = doubtsErr d k (its.drop k)) rfl ⟨0, rfl, by omega, rfl⟩ ?_ ?_)
     ·rintro k ⟨dd, i⟩ hk hi ⟨d, hd, hd3, hI⟩;simp only at hi hd;subst hi hd;unfold P_c_open_L3;refine .ifp (by omega) (Ok.seqx (.el (by omega) fun x hx => ?_))
      have hx := get_of hx rfl;rw [doubtsErr_drop hx] at hI;refine Ok.andx (P := fun j => j = ((if 1 < x.could.l.length then d + 1 else d : Nat) : Int)) ?_ ?_
      ·refine .ite (fun hc => .chk (i64_small (by omega)) (.some ?_)) (fun hc => .some ?_)
       ·rw [if_pos (by omega)]; rfl
       ·rw [if_neg (by omega)]
      ·rintro j rfl;generalize (if 1 < x.could.l.length then d + 1 else d) = e at hI;refine .ite (fun hc => ?_) (fun hc => ?_)
       ·rw [if_pos (by omega)] at hI;refine .some ?_
        show _ = _;rw [hI];simp
       ·rw [if_neg (by omega)] at hI;refine .some ?_
        show Ok _ _;exact .chk (i64_small (by omega)) (.some ⟨rfl, e, rfl, by omega, hI⟩)
     ·rintro ⟨dd, i⟩ hi ⟨d, hd, hd3, hI⟩;simp only at hi hd;subst hi hd;unfold P_c_open_L3;rw [List.drop_length] at hI;refine .ifn (by omega) (.some ?_)
      show Ok _ _;rw [hI];refine .andx' (hmt (by omega)) (.some ?_);simp [doubtsErr]
 ·rw [if_neg h0];exact .ifp h0 (.some (by rw [if_neg h0]))
end Go.Am
end
section
namespace Go.Am
theorem doubts_le : ∀ (l : List Item) (d i : Nat), d ≤ 3 → doubtsErr d i l = none → d + l.countP (fun x => decide (1 < x.could.l.length)) ≤ 3 := by
 intro l
 induction l with
 | nil => intro d i hd _; simpa using hd
 | cons x l ih =>
  intro d i hd h;unfold doubtsErr at h;rw [List.countP_cons]
  by_cases hx : 1 < x.could.l.length
  ·simp only [hx, if_true, decide_true] at h ⊢;split at h
   ·cases h
   ·have := ih _ _ (by omega) h;omega
  ·simp only [hx, if_false, decide_false] at h ⊢;split at h
   ·cases h
   ·have := ih _ _ (by omega) h
    simpa using this
theorem items_ok {n : Int} : ∀ (l : List Item) (i : Nat), itemsErr n i l = none → ∀ x ∈ l, itemErr x.could.l n = 0 := by
 intro l
 induction l with
 | nil => intro i _ x hx; simp at hx
 | cons a l ih =>
  intro i h x hx;unfold itemsErr at h;split at h
  ·rename_i h0
   rcases List.mem_cons.1 hx with rfl | hx
   ·exact h0
   ·exact ih _ h x hx
  ·cases h
theorem item_facts {l : List Int} {n : Int} (h : itemErr l n = 0) : l.length ≤ 4 ∧ (∀ x ∈ l, 0 ≤ x ∧ x ≤ n - 1) ∧ ¬ BadOrder l := by
 unfold itemErr at h;split at h
 ·omega
 ·split at h
  ·omega
  ·rename_i h1 h2
   split at h
   ·omega
   ·rename_i h3
    refine ⟨by omega, fun x hx => ?_, h3⟩
    have : ¬ (x < 0 ∨ n - 1 < x) := fun k => h2 ⟨x, hx, k⟩
    omega
def wid : List Item → Nat
 | [] => 1
 | x :: l => (chs x).length * wid l
theorem comps_len : ∀ (l : List Item) (p : List Int), (comps p l).length = wid l := by
 intro l
 induction l with
 | nil => intro p; rfl
 | cons x l ih =>
  intro p;unfold comps wid;rw [List.length_flatMap]
  have : ((chs x).map fun c => (comps (p ++ [c]) l).length) = (chs x).map fun _ => wid l := by simp [ih]
  rw [this];simp [List.map_const', List.sum_replicate_nat]
theorem chs_len (x : Item) (h : x.could.l.length ≤ 4) : 1 ≤ (chs x).length ∧ (chs x).length ≤ 4 ∧ (1 < (chs x).length ↔ 1 < x.could.l.length) := by
 unfold chs
 by_cases h0 : x.could.l = []
 ·rw [if_pos h0]; simp [h0]
 ·rw [if_neg h0]
  have : x.could.l.length ≠ 0 := fun e => h0 (List.eq_nil_of_length_eq_zero e)
  omega
theorem wid_le : ∀ (l : List Item), (∀ x ∈ l, x.could.l.length ≤ 4) → 1 ≤ wid l ∧ wid l ≤ 4 ^ l.countP (fun x => decide (1 < x.could.l.length)) := by
 intro l
 induction l with
 | nil => intro _; simp [wid]
 | cons x l ih =>
  intro h
  have hx := chs_len x (h x (by simp));obtain ⟨h1, h2⟩ := ih fun y hy => h y (by simp [hy])
  unfold wid;rw [List.countP_cons];refine ⟨Nat.mul_pos hx.1 h1, ?_⟩
  by_cases hc : 1 < x.could.l.length
  ·simp only [hc, decide_true, if_true, Nat.pow_succ];rw [Nat.mul_comm];exact Nat.mul_le_mul h2 hx.2.1
  ·have : (chs x).length = 1 := by have := hx.2.2; omega
   simp only [hc, decide_false, this]
   simpa using h2
theorem wid_one : ∀ (l : List Item), (∀ x ∈ l, x.could.l.length ≤ 4) → (1 < wid l ↔ ∃ x ∈ l, 1 < x.could.l.length) := by
 intro l
 induction l with
 | nil => intro _; simp [wid]
 | cons x l ih =>
  intro h
  have hx := chs_len x (h x (by simp))
  have h1 := (wid_le l fun y hy => h y (by simp [hy])).1
  have ih := ih fun y hy => h y (by simp [hy])
  unfold wid
  constructor
  ·intro hw
   by_cases hc : 1 < x.could.l.length
   ·exact ⟨x, by simp, hc⟩
   ·have : (chs x).length = 1 := by have := hx.2.2; omega
    rw [this, Nat.one_mul] at hw;obtain ⟨y, hy, hy'⟩ := ih.1 hw;exact ⟨y, by simp [hy], hy'⟩
  ·rintro ⟨y, hy, hc⟩
   rcases List.mem_cons.1 hy with rfl | hy
   ·have := hx.2.2.2 hc
    calc 1 < (chs y).length := this
     _ = (chs y).length * 1 := (Nat.mul_one _).symm
     _ ≤ (chs y).length * wid l := Nat.mul_le_mul_left _ h1
   ·have := ih.2 ⟨y, hy, hc⟩
    calc 1 < wid l := this
     _ = 1 * wid l := (Nat.one_mul _).symm
     _ ≤ (chs x).length * wid l := Nat.mul_le_mul_right _ hx.1
def lev : List (List Int) → List Item → List (List Int)
 | out, [] => out
 | out, x :: l => lev (out.flatMap fun o => (chs x).map fun c => o ++ [c]) l
theorem lev_comps : ∀ (l : List Item) (out : List (List Int)), lev out l = out.flatMap fun o => comps o l := by
 intro l
 induction l with
 | nil => intro out; simp [lev, comps]
 | cons x l ih =>
  intro out;unfold lev;rw [ih, List.flatMap_assoc]
  congr 1
  funext o
  rw [List.flatMap_map];rfl
theorem truths_lev (l : List Item) : lev [[]] l = truthsOf l := by rw [lev_comps]; simp [truthsOf]
theorem comps_each : ∀ (l : List Item) (p t : List Int), t ∈ comps p l → t.length = p.length + l.length := by
 intro l
 induction l with
 | nil => intro p t h; simp [comps] at h; simp [h]
 | cons x l ih =>
  intro p t h;unfold comps at h;obtain ⟨c, _, hc⟩ := List.mem_flatMap.1 h
  have := ih _ _ hc;simp at this ⊢;omega
theorem lev_each {l : List Item} {t : List Int} (h : t ∈ lev [[]] l) : t.length = l.length := by
 rw [truths_lev] at h
 simpa using comps_each l [] t h
end Go.Am
end
section
namespace Go.Am
set_option linter.unusedVariables false
structure GoodCase (s : Int) (g : List Gat) (its : List Item) : Prop where
 b0 : (bookErr (bk s g)).2.2 = 0
 nl : (lvs s g).length ≤ 120
 il : its.length ≤ 120
 few : ∀ x ∈ its, x.could.l.length ≤ 4
 rng : ∀ x ∈ its, ∀ n ∈ x.could.l, 0 ≤ n ∧ n ≤ ((lvs s g).length : Int) - 1
 dbt : its.countP (fun x => decide (1 < x.could.l.length)) ≤ 3
theorem case_good {s : Int} {g : List Gat} {its : List Item} (h : (caseErr s g its).2.2 = 0) : GoodCase s g its := by
 unfold caseErr at h
 by_cases hb : (bookErr (bk s g)).2.2 = 0
 ·rw [if_pos hb] at h
  by_cases h1 : 120 < (leavesOf (bk s g)).length
  ·rw [if_pos h1] at h; simp at h
  ·rw [if_neg h1] at h
   by_cases h2 : 120 < its.length
   ·rw [if_pos h2] at h; simp at h
   ·rw [if_neg h2] at h;split at h
    ·rename_i i e he
     exact absurd h (itemsErr_pos _ _ _ _ he)
    ·rename_i he
     split at h
     ·simp at h
     ·rename_i hd
      have hi := fun x hx => item_facts (items_ok _ _ he x hx)
      exact ⟨hb, by unfold lvs; omega, by omega, fun x hx => (hi x hx).1, fun x hx => (hi x hx).2.1, by simpa using doubts_le _ _ _ (by omega) hd⟩
 ·rw [if_neg hb] at h; exact absurd h hb
theorem GoodCase.wid {s : Int} {g : List Gat} {its : List Item} (h : GoodCase s g its) : Go.Am.wid its ≤ 64 :=
 Nat.le_trans (wid_le _ h.few).2 (Nat.le_trans (Nat.pow_le_pow_right (by omega) h.dbt) (by decide))
theorem GoodCase.take {s : Int} {g : List Gat} {its : List Item} (h : GoodCase s g its) (k : Nat) : GoodCase s g (its.take k) :=
  ⟨h.b0, h.nl, Nat.le_trans (by rw [List.length_take]; omega) h.il, fun x hx => h.few x (List.mem_of_mem_take hx), fun x hx => h.rng x (List.mem_of_mem_take hx),
    Nat.le_trans ((List.take_sublist k its).countP_le) h.dbt⟩
theorem el_eq {α β : Type} {l : List α} {k : Nat} {a : α} {c : α → Option β} (h : l[k]? = some a) : el l (k : Int) c = c a := by
 unfold el; rw [if_pos (by omega)]; simp only [Int.toNat_natCast, h]
end Go.Am
end
section
namespace Go.Am
set_option linter.unusedVariables false
structure GoodBook (s : Int) (g : List Gat) : Prop where
 b0 : (bookErr (bk s g)).2.2 = 0
 nl : (lvs s g).length ≤ 120
theorem GoodCase.book {s : Int} {g : List Gat} {its : List Item} (h : GoodCase s g its) : GoodBook s g := ⟨h.b0, h.nl⟩
theorem All1_ok {s : Int} {g : List Gat} (h : GoodBook s g) : P_r1_All s g = some (lvs s g) := by unfold P_r1_All; rw [chk_pos (book_fits h.b0)]; rfl
theorem has_ok {l : List Int} {n : Int} (h : l.length ≤ 1000000) : P_r1_Has l n = some (decide (n ∈ l)) := by unfold P_r1_Has; rw [chk_pos (by omega)]
theorem mates_len (s : Int) (g : List Gat) : (matesOf s g).length = (lvs s g).length := matesTo_len _ _ _
end Go.Am
end
section
namespace Go.Am
set_option linter.unusedVariables false
def behind (l : List S_copy_run) (i : Nat) : List (S_copy_run × Int) := (l.drop (i + 1)).zip (chains (l.drop (i + 1)))
end Go.Am
end
section
namespace Go.Am
set_option linter.unusedVariables false
end Go.Am
end
section
namespace Go.Am
set_option linter.unusedVariables false
def divFrom (t u : List Int) : Nat → List Int → List Int → List Int × Int
 | _, cut, [] => (cut, 0)
 | i, cut, a :: l => if (i : Int) ∈ t ∧ (i : Int) ∈ u then ([], 5) else divFrom t u (i + 1) (if (i : Int) ∈ t ∧ 0 ≤ a ∧ a ∈ u then cut ++ [(i : Int)] else cut) l
def Doubtful (l : List Item) : Prop := ∃ x ∈ l, 1 < x.could.l.length
open Classical in
noncomputable def divSaid (s : Int) (g : List Gat) (one other : List Item) : List Int × Int :=
 if ¬ (caseErr s g one).2.2 = 0 then ([], (caseErr s g one).2.2)
 else if ¬ (caseErr s g other).2.2 = 0 then ([], (caseErr s g other).2.2)
 else if Doubtful one ∨ Doubtful other then ([], 2)
 else divFrom ((truthsOf one).headD []) ((truthsOf other).headD []) 0 [] (matesOf s g)
theorem divFrom_drop {t u : List Int} {k : Nat} {cut l : List Int} {a : Int} (h : l[k]? = some a) : divFrom t u k cut (l.drop k) = if (k : Int) ∈ t ∧ (k : Int) ∈ u then ([], 5) else divFrom t u (k + 1) (if (k : Int) ∈ t ∧ 0 ≤ a ∧ a ∈ u then cut ++ [(k : Int)] else cut) (l.drop (k + 1)) := by
 rw [drop_cons h]; rfl
theorem sure_truth {l : List Item} (hf : ∀ x ∈ l, x.could.l.length ≤ 4) (h : ¬ Doubtful l) : truthsOf l = [(truthsOf l).headD []] := by
 have h1 : ¬ 1 < wid l := fun k => h ((wid_one l hf).1 k)
 have h2 := (wid_le l hf).1
 have h3 : (truthsOf l).length = 1 := by rw [truthsOf, comps_len]; omega
 match e : truthsOf l, h3 with
 | [t], _ => rfl
def divStep (t u : List Int) (k : Nat) (a : Int) (out : List Int) {A : Type} (r : List Int × Int → A) : Stp (Int × List Int) A :=
 if (k : Int) ∈ t ∧ (k : Int) ∈ u then .dn (r ([], 5)) else .ag ((k : Int) + 1, if (k : Int) ∈ t ∧ 0 ≤ a ∧ a ∈ u then out ++ [(k : Int)] else out)
theorem c_step {t u mt : List Int} {k : Nat} {a : Int} {out : List Int} (hk : mt[k]? = some a) (hm : mt.length ≤ 1000000) (ho : out.length ≤ 1000000) :
  P_c_Divided_L5 mt (cntOf t) (cntOf u) (k, out) = some (divStep t u k a out fun r => Stp.dn (Stp.dn (Ex.rt r))) := by
 have hlt := (List.getElem?_eq_some_iff.1 hk).1;unfold P_c_Divided_L5;dsimp only;rw [if_pos (by omega)];simp only [el_eq hk, gt_iff_lt, cntOf_pos]
 have c3 : I64 ((k : Int) + 1) := i64_small (by omega)
 have c4 : out.length + 1 < 1000000000 := by omega
 unfold divStep
 by_cases a1 : (k : Int) ∈ t
 ·by_cases a2 : (k : Int) ∈ u
  ·simp [andx, seqx, chk, a1, a2]
  ·by_cases a3 : 0 ≤ a
   ·by_cases a4 : a ∈ u
    ·simp [andx, seqx, chk, a1, a2, a3, a4, c3, c4]
    ·simp [andx, seqx, chk, a1, a2, a3, a4, c3, c4]
   ·simp [andx, seqx, chk, a1, a2, a3, c3, c4]
 ·simp [andx, seqx, chk, a1, c3, c4]
theorem div_loop {A : Type} {t u mt : List Int} {body : Int × List Int → Option (Stp (Int × List Int) A)} {r : List Int × Int → A} {n : List Int → A} (hm : mt.length ≤ 1000000)
  (hs : ∀ (k : Nat) (a : Int) (out : List Int), mt[k]? = some a → out.length ≤ 1000000 → body (k, out) = some (divStep t u k a out r)) (hn : ∀ out, body (mt.length, out) = some (.dn (n out))) :
  Ok (iter body (0, [])) fun e => (∃ x, e = r x ∧ divFrom t u 0 [] mt = x) ∨ ∃ out, e = n out ∧ divFrom t u 0 [] mt = (out, 0) := by
 refine Ok.count (σ := Int × List Int) Prod.fst mt.length (fun k x => x.2.length ≤ k ∧ divFrom t u 0 [] mt = divFrom t u k x.2 (mt.drop k)) rfl ⟨by simp, by simp⟩ ?_ ?_
 ·rintro k ⟨i, out⟩ hk hi ⟨hx, hd⟩;simp only at hi hx hd;subst hi
  have e := List.getElem?_eq_getElem hk;refine .eq (hs k _ out e (by omega)) ?_;rw [divFrom_drop e] at hd;unfold divStep
  by_cases c : (k : Int) ∈ t ∧ (k : Int) ∈ u
  ·rw [if_pos c] at hd ⊢;exact .inl ⟨_, rfl, hd⟩
  ·rw [if_neg c] at hd ⊢;refine ⟨rfl, ?_, hd⟩
   show (if _ then _ else _ : List Int).length ≤ _;split
   ·simp; omega
   ·omega
 ·rintro ⟨i, out⟩ hi ⟨hx, hd⟩;simp only at hi hx hd;subst hi;refine .eq (hn out) (.inr ⟨out, rfl, ?_⟩);rw [hd, List.drop_length];rfl
theorem openRes_err {s : Int} {g : List Gat} {its : List Item} (h : ¬ (caseErr s g its).2.2 = 0) : openRes s g its = .inl (caseErr s g its) := by unfold openRes; rw [if_neg h]
theorem openRes_ok {s : Int} {g : List Gat} {its : List Item} (h : (caseErr s g its).2.2 = 0) : openRes s g its = .inr (s, GSo true encL (lvs s g), matesOf s g, 0, 0, 0) := by unfold openRes; rw [if_pos h]
theorem truth_len {its : List Item} {t : List Int} (h : t ∈ truthsOf its) : t.length = its.length := by rw [← truths_lev] at h; exact lev_each h
theorem sure_len {its : List Item} (hf : ∀ x ∈ its, x.could.l.length ≤ 4) (h : ¬ Doubtful its) : ((truthsOf its).headD []).length = its.length := by
 have := sure_truth hf h;exact truth_len (by rw [this]; simp)
theorem wide_c {l : List Item} (hl : l.length ≤ 120) : ∃ r : Int, (seqx (iter (P_c_Divided_L1 l) 0) fun _ => some (-1)) = some r ∧ (0 ≤ r ↔ Doubtful l) := by
 refine Ok.seqx (Ok.count (σ := Int) (fun i => i) l.length (fun k _ => ∀ x ∈ l.take k, ¬ 1 < x.could.l.length) rfl (by simp) ?_ ?_)
 ·intro k i hk hi hx;subst hi
  have e := List.getElem?_eq_getElem hk;unfold P_c_Divided_L1;refine .ifp (by omega) ?_;rw [el_eq e];refine .ite (fun h => .some ?_) (fun h => .chk (i64_small (by omega)) (.some ⟨rfl, ?_⟩))
  ·show (0 ≤ (k : Int) ↔ _);exact ⟨fun _ => ⟨_, List.getElem_mem hk, by omega⟩, fun _ => by omega⟩
  ·intro x hm;rw [take_snoc e] at hm
   rcases List.mem_append.1 hm with hm | hm
   ·exact hx x hm
   ·rw [List.mem_singleton.1 hm]; omega
 ·intro i hi hx;subst hi;unfold P_c_Divided_L1;refine .ifn (by omega) (.some ?_)
  show Ok (some (-1)) _;refine .some ⟨fun h => absurd h (by omega), fun ⟨x, hm, h⟩ => ?_⟩;rw [List.take_length] at hx;exact absurd h (hx x hm)
def exOf {σ A : Type} : Stp σ A → Ex σ A
 | .ag s => .nx s
 | .dn r => .rt r
theorem foldx_one {σ β A : Type} {body : σ → β → Option (Stp σ A)} {a : β} {s : σ} {x : Stp σ A} (h : body s a = some x) : foldx body [a] s = some (exOf x) := by
 unfold foldx; rw [h]; cases x <;> rfl
theorem c_Divided_ok {s : Int} {g : List Gat} {one other : List Item} : P_c_Divided s g one other = some (divSaid s g one other) := by
 unfold P_c_Divided divSaid;rw [open_ok, open_ok]
 by_cases e1 : (caseErr s g one).2.2 = 0
 ·rw [openRes_ok e1];simp only [e1, not_true_eq_false, if_false]
  by_cases e2 : (caseErr s g other).2.2 = 0
  ·rw [openRes_ok e2];simp only [e2, not_true_eq_false, if_false]
   have g1 := case_good e1
   have g2 := case_good e2;obtain ⟨r1, w1, i1⟩ := wide_c (l := one) g1.il;obtain ⟨r2, w2, i2⟩ := wide_c (l := other) g2.il
   have w2' : (seqx (iter (P_c_Divided_L2 other) 0) fun _ => some (-1)) = some r2 := w2;rw [w1, w2'];simp only [andx];rw [chk_pos trivial, chk_pos trivial]
   by_cases hd : Doubtful one ∨ Doubtful other
   ·rw [if_pos hd]
    by_cases c : 0 ≤ r1
    ·rw [if_pos c];rfl
    ·rw [if_neg c]
     have : decide (r2 ≥ 0) = true := decide_eq_true (i2.2 (hd.resolve_left fun h => c (i1.2 h)));rw [this];rfl
   ·rw [if_neg hd]
    have c : ¬ 0 ≤ r1 := fun h => hd (.inl (i1.1 h))
    have c2 : decide (r2 ≥ 0) = false := decide_eq_false fun h => hd (.inr (i2.1 h))
    have s1 := sure_truth g1.few fun h => hd (.inl h)
    have s2 := sure_truth g2.few fun h => hd (.inr h)
    have k1 := sure_len g1.few fun h => hd (.inl h)
    have k2 := sure_len g2.few fun h => hd (.inr h)
    have j1 := g1.il
    have j2 := g2.il;rw [if_neg c, c2]
    have hm : (matesOf s g).length ≤ 1000000 := by unfold matesOf; rw [matesTo_len]; have := g1.nl; omega
    obtain ⟨e, he, hq⟩ := div_loop (t := (truthsOf one).headD []) (u := (truthsOf other).headD []) (r := fun r => Stp.dn (Stp.dn (Ex.rt r))) (n := Stp.ag) hm (body := P_c_Divided_L5 (matesOf s g) (cntOf ((truthsOf one).headD [])) (cntOf ((truthsOf other).headD [])))
     (fun k a out hk ho => c_step hk hm ho) (fun out => by unfold P_c_Divided_L5; dsimp only; rw [if_neg (by omega)])
    have q4 : P_c_Divided_L4 g one other s (GSo true encL (lvs s g)) (matesOf s g) s (GSo true encL (lvs s g)) (matesOf s g) ((truthsOf one).headD []) [] ((truthsOf other).headD []) = some e := by
     unfold P_c_Divided_L4;rw [there_ok (by omega), there_ok (by omega)];exact he
    have q3 : P_c_Divided_L3 g one other s (GSo true encL (lvs s g)) (matesOf s g) s (GSo true encL (lvs s g)) (matesOf s g) [] ((truthsOf one).headD []) = seqx (some (exOf e)) fun cut_2 => some (Stp.ag cut_2) := by
     unfold P_c_Divided_L3;rw [chk_pos ⟨g2.il, g2.few⟩, s2, foldx_one q4]
    rw [chk_pos ⟨g1.il, g1.few⟩, s1]
    rcases hq with ⟨x, rfl, hx⟩ | ⟨out, rfl, hx⟩
    ·have := foldx_one (q3.trans rfl);simp only [seqx, List.headD_cons] at this ⊢;rw [this, hx];rfl
    ·have := foldx_one (q3.trans rfl);simp only [seqx, List.headD_cons] at this ⊢;rw [this, hx];rfl
  ·rw [openRes_err e2];simp only [e2, not_false_eq_true, if_true];simp only [andx];rw [chk_pos trivial, chk_pos e2]
 ·rw [openRes_err e1];simp only [e1, not_false_eq_true, if_true];simp only [andx];rw [chk_pos e1]
end Go.Am
end
section
namespace Go.Am
set_option linter.unusedVariables false
end Go.Am
end
section
namespace Go.Am
set_option linter.unusedVariables false
def marr (N : Nat) (f : Nat → Int) : List Int := (List.range N).map f
theorem marr_get {N : Nat} {f : Nat → Int} {k : Nat} (h : k < N) : (marr N f)[k]? = some (f k) := by
 unfold marr; rw [List.getElem?_map, List.getElem?_range h]; rfl
theorem marr_len {N : Nat} {f : Nat → Int} : (marr N f).length = N := by unfold marr; simp
theorem marr_set {N : Nat} {f : Nat → Int} {k : Nat} {v : Int} : (marr N f).set k v = marr N fun n => if n = k then v else f n := by
 apply List.ext_getElem?;intro i;rw [List.getElem?_set, marr_len]
 by_cases hi : i < N
 ·rw [marr_get hi]
  by_cases e : k = i
  ·subst e;simp [hi, marr_get hi]
  ·rw [if_neg e, marr_get hi, if_neg (fun h => e h.symm)]
 ·rw [List.getElem?_eq_none (l := marr N f) (by rw [marr_len]; omega), List.getElem?_eq_none (l := marr N fun n => if n = k then v else f n) (by rw [marr_len]; omega)];split
  ·rw [if_neg (by omega)]
  ·rfl
theorem marr_congr {N : Nat} {f g : Nat → Int} (h : ∀ n, n < N → f n = g n) : marr N f = marr N g := by
 unfold marr;exact List.map_congr_left fun n hn => h n (List.mem_range.1 hn)
end Go.Am
end
section
namespace Go.Am
set_option linter.unusedVariables false
abbrev okCase (s : Int) (g : List Gat) (its : List Item) : Prop := (caseErr s g its).2.2 = 0
theorem valid_ok {s : Int} {g : List Gat} {its : List Item} : P_l_valid s g its = some (decide (okCase s g its)) := by
 unfold P_l_valid;rw [r4_Check_ok];rfl
end Go.Am
end
section
namespace Go.Am
set_option linter.unusedVariables false
theorem doubts_none : ∀ (l : List Item) (d i : Nat), d + l.countP (fun x => decide (1 < x.could.l.length)) ≤ 3 → doubtsErr d i l = none := by
 intro l
 induction l with
 | nil => intro d i _; rfl
 | cons x l ih =>
  intro d i h;rw [List.countP_cons] at h;unfold doubtsErr
  by_cases hx : 1 < x.could.l.length
  ·simp only [hx, if_true, decide_true] at h ⊢;rw [if_neg (by omega)];exact ih _ _ (by omega)
  ·simp only [hx, if_false, decide_false] at h ⊢;rw [if_neg (by omega)];exact ih _ _ (by simpa using h)
theorem items_none {n : Int} : ∀ (l : List Item) (i : Nat), (∀ x ∈ l, itemErr x.could.l n = 0) → itemsErr n i l = none := by
 intro l
 induction l with
 | nil => intro i _; rfl
 | cons a l ih =>
  intro i h;unfold itemsErr;rw [if_pos (h a List.mem_cons_self)];exact ih _ fun x hx => h x (List.mem_cons_of_mem _ hx)
theorem okCase_iff {s : Int} {g : List Gat} {its : List Item} : okCase s g its ↔ (bookErr (bk s g)).2.2 = 0 ∧ (lvs s g).length ≤ 120 ∧ its.length ≤ 120 ∧ (∀ x ∈ its, itemErr x.could.l ((lvs s g).length : Int) = 0) ∧ its.countP (fun x => decide (1 < x.could.l.length)) ≤ 3 := by
 constructor
 ·intro h
  have hg := case_good h;refine ⟨hg.b0, hg.nl, hg.il, ?_, hg.dbt⟩;unfold okCase caseErr at h
  have h1 : ¬ 120 < (leavesOf (bk s g)).length := by have := hg.nl; unfold lvs at this; omega
  rw [if_pos hg.b0, if_neg h1, if_neg (by have := hg.il; omega)] at h;split at h
  ·rename_i i e he
   exact absurd h (itemsErr_pos _ _ _ _ he)
  ·rename_i he
   exact items_ok _ _ he
 ·rintro ⟨h1, h2, h3, h4, h5⟩;unfold okCase caseErr;rw [if_pos h1, if_neg (by unfold lvs at h2; omega), if_neg (by omega)]
  have e1 : itemsErr ((leavesOf (bk s g)).length : Int) 0 its = none := items_none its 0 h4;rw [e1];simp only;rw [doubts_none its 0 0 (by omega)]
theorem itemErr_of {l : List Int} {n : Int} (h1 : l.length ≤ 4) (h2 : ∀ x ∈ l, 0 ≤ x ∧ x ≤ n - 1) (h3 : ¬ BadOrder l) : itemErr l n = 0 := by
 unfold itemErr;rw [if_neg (by omega), if_neg (fun ⟨x, hx, k⟩ => by have := h2 x hx; omega), if_neg h3]
theorem badOrder_one (x : Int) : ¬ BadOrder [x] := by
 rintro ⟨i, a, b, h1, h2, h3⟩
 have := (List.getElem?_eq_some_iff.1 h2).1;simp at this
end Go.Am
end
section
namespace Go.Am
set_option linter.unusedVariables false
def isMate (lv : Int) (x : Leaf) (n i : Nat) (y : Leaf) : Prop := i ≠ n ∧ y.g = x.g ∧ y.kind = 0 ∧ y.num + x.num = lv + 1
theorem pairFrom_spec {lv : Int} {x : Leaf} {n : Nat} : ∀ (l : List Leaf) (i : Nat),
  (pairFrom lv x n i l = -1 ∧ ∀ k y, l[k]? = some y → ¬ isMate lv x n (i + k) y) ∨ ∃ k y, pairFrom lv x n i l = ((i + k : Nat) : Int) ∧ l[k]? = some y ∧ isMate lv x n (i + k) y := by
 intro l
 induction l with
 | nil => intro i; exact .inl ⟨rfl, fun k y h => by cases h⟩
 | cons y l ih =>
  intro i;unfold pairFrom
  by_cases hc : i ≠ n ∧ y.g = x.g ∧ y.kind = 0 ∧ y.num + x.num = lv + 1
  ·rw [if_pos hc];exact .inr ⟨0, y, rfl, rfl, hc⟩
  ·rw [if_neg hc]
   rcases ih (i + 1) with ⟨h1, h2⟩ | ⟨k, z, h1, h2, h3⟩
   ·refine .inl ⟨h1, fun k z hz => ?_⟩;cases k with
    | zero => cases hz; exact hc
    | succ k =>
     have := h2 k z hz;rw [show i + 1 + k = i + (k + 1) by omega] at this;exact this
   ·exact .inr ⟨k + 1, z, by rw [h1]; congr 1; omega, h2, by rw [show i + (k + 1) = i + 1 + k by omega]; exact h3⟩
theorem pair_at {b : Book} {n : Nat} {x : Leaf} (hx : (leavesOf b)[n]? = some x) (hm : pairNo b n ≠ -1) :
  ∃ (m : Nat) (y : Leaf) (g : Gat), pairNo b n = m ∧ (leavesOf b)[m]? = some y ∧ b.gs.l[x.g.toNat]? = some g ∧ x.kind = 0 ∧ isMate g.leaves x n m y := by
 obtain ⟨g, hg, _⟩ := mem_leaves (List.mem_of_getElem? hx);unfold pairNo at hm ⊢;rw [hx] at hm ⊢;simp only [hg] at hm ⊢
 by_cases hk : x.kind ≠ 0
 ·rw [if_pos hk] at hm; exact absurd rfl hm
 ·rw [if_neg hk] at hm ⊢
  rcases pairFrom_spec (lv := g.leaves) (x := x) (n := n) (leavesOf b) 0 with ⟨h, _⟩ | ⟨k, y, h1, h2, h3⟩
  ·exact absurd h hm
  ·rw [Nat.zero_add] at h1 h3;exact ⟨k, y, g, h1, h2, rfl, Classical.not_not.1 hk, h3⟩
theorem pair_sym {b : Book} {n : Nat} (h : 0 ≤ pairNo b n) : ∃ m : Nat, pairNo b n = m ∧ m < (leavesOf b).length ∧ m ≠ n ∧ pairNo b m = n := by
 have hne : pairNo b n ≠ -1 := by omega
 cases hx : (leavesOf b)[n]? with
 | none => unfold pairNo at hne; rw [hx] at hne; exact absurd rfl hne
 | some x =>
  obtain ⟨m, y, g, e, hy, hg, hk, hc⟩ := pair_at hx hne
  have hml := (List.getElem?_eq_some_iff.1 hy).1;obtain ⟨c1, c2, c3, c4⟩ := hc;refine ⟨m, e, hml, c1, ?_⟩
  have hback : isMate g.leaves y m n x := ⟨fun k => c1 k.symm, c2.symm, hk, by omega⟩
  have hgy : b.gs.l[y.g.toNat]? = some g := by rw [c2]; exact hg
  unfold pairNo;rw [hy];simp only [hgy];rw [if_neg (Classical.not_not.2 c3)]
  rcases pairFrom_spec (lv := g.leaves) (x := y) (n := m) (leavesOf b) 0 with ⟨h1, h2⟩ | ⟨k, z, h1, h2, h3⟩
  ·exact absurd (by rw [Nat.zero_add]; exact hback) (h2 n x hx)
  ·rw [Nat.zero_add] at h1 h3;obtain ⟨d1, d2, d3, d4⟩ := h3
   have px := leaf_plus (List.mem_of_getElem? hx) hk
   have pz := leaf_plus (List.mem_of_getElem? h2) d3
   have ezx : z = x := leaf_ext.1 ⟨by omega, by omega, by omega, by omega⟩
   have hkl := (List.getElem?_eq_some_iff.1 h2).1
   have hnl := (List.getElem?_eq_some_iff.1 hx).1
   have : k = n := by
    have hnd := leaves_nodup b
    have e1 := (List.getElem?_eq_some_iff.1 h2).2
    have e2 := (List.getElem?_eq_some_iff.1 hx).2;exact (List.getElem_inj hnd).1 (by rw [e1, e2, ezx])
   rw [h1, this]
theorem mates_at {s : Int} {g : List Gat} {n : Nat} (h : n < (lvs s g).length) : (matesOf s g)[n]? = some (pairNo (bk s g) n) := by
 unfold matesOf matesTo;rw [List.getElem?_map, List.getElem?_range h];rfl
theorem pair_ok {s : Int} {g : List Gat} {n : Nat} (h : GoodBook s g) (hn : n < (lvs s g).length) : P_r1_Pair s g n = some (pairNo (bk s g) n) := by
 unfold P_r1_Pair;rw [chk_pos ⟨book_fits h.b0, by omega, by unfold lvs at hn; simpa using hn⟩, Int.toNat_natCast]
def cutFrom (t u : List Int) : Nat → List Int → List Int
 | _, [] => []
 | k, a :: l => if (k : Int) ∈ t ∧ 0 ≤ a ∧ a ∈ u then (k : Int) :: cutFrom t u (k + 1) l else cutFrom t u (k + 1) l
def Common (t u : List Int) (k n : Nat) : Prop := ∃ j, k ≤ j ∧ j < n ∧ (j : Int) ∈ t ∧ (j : Int) ∈ u
theorem divFrom_ok {t u : List Int} : ∀ (l : List Int) (k : Nat) (cut : List Int), (Common t u k (k + l.length) → divFrom t u k cut l = ([], 5)) ∧ (¬ Common t u k (k + l.length) → divFrom t u k cut l = (cut ++ cutFrom t u k l, 0)) := by
 intro l
 induction l with
 | nil => intro k cut; exact ⟨fun ⟨j, h1, h2, _⟩ => by simp at h2; omega, fun _ => by simp [divFrom, cutFrom]⟩
 | cons a l ih =>
  intro k cut;rw [divFrom]
  by_cases hc : (k : Int) ∈ t ∧ (k : Int) ∈ u
  ·rw [if_pos hc];exact ⟨fun _ => rfl, fun h => absurd ⟨k, Nat.le_refl _, by simp, hc⟩ h⟩
  ·rw [if_neg hc]
   have e : Common t u k (k + (a :: l).length) ↔ Common t u (k + 1) (k + 1 + l.length) := by
    constructor
    ·rintro ⟨j, h1, h2, h3⟩;refine ⟨j, ?_, by simp at h2; omega, h3⟩
     rcases Nat.lt_or_ge k j with h | h
     ·exact h
     ·have : j = k := by omega
      subst this;exact absurd h3 hc
    ·rintro ⟨j, h1, h2, h3⟩;exact ⟨j, by omega, by simp; omega, h3⟩
   rw [e];obtain ⟨i1, i2⟩ := ih (k + 1) (if (k : Int) ∈ t ∧ 0 ≤ a ∧ a ∈ u then cut ++ [(k : Int)] else cut);refine ⟨i1, fun h => (i2 h).trans ?_⟩;rw [cutFrom];split <;> simp
theorem mem_cutFrom {t u : List Int} {x : Int} : ∀ (l : List Int) (k : Nat), x ∈ cutFrom t u k l ↔ ∃ (j : Nat) (a : Int), l[j]? = some a ∧ x = ((k + j : Nat) : Int) ∧ x ∈ t ∧ 0 ≤ a ∧ a ∈ u := by
 intro l
 induction l with
 | nil => intro k; simp [cutFrom]
 | cons b l ih =>
  intro k
  have hs : x ∈ cutFrom t u (k + 1) l ↔ ∃ (j : Nat) (a : Int), (b :: l)[j + 1]? = some a ∧ x = ((k + (j + 1) : Nat) : Int) ∧ x ∈ t ∧ 0 ≤ a ∧ a ∈ u := by
   rw [ih (k + 1)]
   constructor
   ·rintro ⟨j, a, h1, h2, h3⟩; exact ⟨j, a, h1, by rw [h2]; congr 1; omega, h3⟩
   ·rintro ⟨j, a, h1, h2, h3⟩; exact ⟨j, a, h1, by rw [h2]; congr 1; omega, h3⟩
  rw [cutFrom]
  by_cases hc : (k : Int) ∈ t ∧ 0 ≤ b ∧ b ∈ u
  ·rw [if_pos hc, List.mem_cons, hs]
   constructor
   ·rintro (rfl | ⟨j, h⟩)
    ·exact ⟨0, b, rfl, rfl, hc⟩
    ·exact ⟨j + 1, h⟩
   ·rintro ⟨j, a, h1, h2, h3⟩;cases j with
    | zero => exact .inl h2
    | succ j => exact .inr ⟨j, a, h1, h2, h3⟩
  ·rw [if_neg hc, hs]
   constructor
   ·rintro ⟨j, h⟩; exact ⟨j + 1, h⟩
   ·rintro ⟨j, a, h1, h2, h3⟩;cases j with
    | zero => cases h1; rw [Nat.add_zero] at h2; subst h2; exact absurd h3 hc
    | succ j => exact ⟨j, a, h1, h2, h3⟩
theorem cut_sorted {t u : List Int} : ∀ (l : List Int) (k : Nat), (cutFrom t u k l).Pairwise (· < ·) := by
 intro l
 induction l with
 | nil => intro k; exact List.Pairwise.nil
 | cons b l ih =>
  intro k;rw [cutFrom];split
  ·refine List.pairwise_cons.2 ⟨fun x hx => ?_, ih _⟩;obtain ⟨j, a, _, h2, _⟩ := (mem_cutFrom _ _).1 hx;omega
  ·exact ih _
theorem nodup_le {α : Type} [DecidableEq α] : ∀ (a b : List α), a.Nodup → (∀ x ∈ a, x ∈ b) → a.length ≤ b.length := by
 intro a
 induction a with
 | nil => intro b _ _; exact Nat.zero_le _
 | cons x a ih =>
  intro b hn h
  have hn' := List.nodup_cons.1 hn
  have hxb := h x List.mem_cons_self
  have := ih (b.erase x) hn'.2 fun y hy => by
   have hne : y ≠ x := fun e => hn'.1 (e ▸ hy)
   exact (List.mem_erase_of_ne hne).2 (h y (List.mem_cons_of_mem _ hy))
  rw [List.length_erase_of_mem hxb] at this
  have := List.length_pos_of_mem hxb;rw [List.length_cons];omega
theorem mem_cut {s : Int} {g : List Gat} {t u : List Int} {x : Int} : x ∈ cutFrom t u 0 (matesOf s g) ↔ ∃ i : Nat, x = i ∧ i < (lvs s g).length ∧ x ∈ t ∧ 0 ≤ pairNo (bk s g) i ∧ pairNo (bk s g) i ∈ u := by
 rw [mem_cutFrom]
 constructor
 ·rintro ⟨j, a, h1, h2, h3, h4⟩
  have hj := (List.getElem?_eq_some_iff.1 h1).1;rw [mates_len] at hj;rw [mates_at hj] at h1;cases h1;exact ⟨j, by rw [h2, Nat.zero_add], hj, h3, h4⟩
 ·rintro ⟨i, h1, h2, h3, h4⟩;exact ⟨i, _, mates_at h2, by rw [h1, Nat.zero_add], h3, h4⟩
theorem cut_mate {s : Int} {g : List Gat} {t u : List Int} {i : Nat} (h : (i : Int) ∈ cutFrom t u 0 (matesOf s g)) : pairNo (bk s g) i ∈ cutFrom u t 0 (matesOf s g) := by
 obtain ⟨j, e, h2, h3, h4, h5⟩ := mem_cut.1 h
 have : i = j := by omega
 subst this;obtain ⟨m, e, hm, _, hb⟩ := pair_sym h4;rw [e] at h5 ⊢;exact mem_cut.2 ⟨m, rfl, hm, h5, by omega, by rw [hb]; exact h3⟩
theorem cut_len {s : Int} {g : List Gat} {t u : List Int} : (cutFrom t u 0 (matesOf s g)).length ≤ (cutFrom u t 0 (matesOf s g)).length := by
 have h : ((cutFrom t u 0 (matesOf s g)).map fun x => pairNo (bk s g) x.toNat).length ≤ (cutFrom u t 0 (matesOf s g)).length := by
  refine nodup_le _ _ ?_ fun x hx => ?_
  ·rw [List.Nodup, List.pairwise_map];refine (cut_sorted (t := t) (u := u) (matesOf s g) 0).imp_of_mem fun {a b} ha hb hlt e => ?_
   obtain ⟨i, rfl, _, _, h4, _⟩ := mem_cut.1 ha;obtain ⟨j, rfl, _, _, h4', _⟩ := mem_cut.1 hb;rw [Int.toNat_natCast, Int.toNat_natCast] at e;obtain ⟨m, e1, _, _, b1⟩ := pair_sym h4;obtain ⟨m', e1', _, _, b1'⟩ := pair_sym h4'
   have : m = m' := by omega
   subst this;omega
  ·obtain ⟨y, hy, rfl⟩ := List.mem_map.1 hx;obtain ⟨i, rfl, _⟩ := mem_cut.1 hy;rw [Int.toNat_natCast];exact cut_mate hy
 rw [List.length_map] at h;exact h
def tr1 (l : List Item) : List Int := (truthsOf l).headD []
def DivOk (s : Int) (g : List Gat) (one other : List Item) : Prop := okCase s g one ∧ okCase s g other ∧ ¬ Doubtful one ∧ ¬ Doubtful other ∧ ¬ Common (tr1 one) (tr1 other) 0 (lvs s g).length
theorem div_yes {s : Int} {g : List Gat} {one other : List Item} (h : DivOk s g one other) : divSaid s g one other = (cutFrom (tr1 one) (tr1 other) 0 (matesOf s g), 0) := by
 obtain ⟨h1, h2, h3, h4, h5⟩ := h;unfold divSaid;rw [if_neg (Classical.not_not.2 h1), if_neg (Classical.not_not.2 h2), if_neg (fun k => k.elim h3 h4)]
 have := (divFrom_ok (t := tr1 one) (u := tr1 other) (matesOf s g) 0 []).2 (by rw [mates_len, Nat.zero_add]; exact h5);rw [List.nil_append] at this;exact this
theorem div_no {s : Int} {g : List Gat} {one other : List Item} (h : ¬ DivOk s g one other) : (divSaid s g one other).1 = [] ∧ (divSaid s g one other).2 ≠ 0 := by
 unfold divSaid
 by_cases h1 : okCase s g one
 ·rw [if_neg (Classical.not_not.2 h1)]
  by_cases h2 : okCase s g other
  ·rw [if_neg (Classical.not_not.2 h2)]
   by_cases h3 : Doubtful one ∨ Doubtful other
   ·rw [if_pos h3]; exact ⟨rfl, by decide⟩
   ·rw [if_neg h3]
    have : Common (tr1 one) (tr1 other) 0 (lvs s g).length := Classical.not_not.1 fun k => h ⟨h1, h2, fun a => h3 (.inl a), fun a => h3 (.inr a), k⟩
    have := (divFrom_ok (t := tr1 one) (u := tr1 other) (matesOf s g) 0 []).1 (by rw [mates_len, Nat.zero_add]; exact this);rw [show divFrom ((truthsOf one).headD []) ((truthsOf other).headD []) 0 [] (matesOf s g) = ([], 5) from this];exact ⟨rfl, by decide⟩
  ·rw [if_pos h2]; exact ⟨rfl, h2⟩
 ·rw [if_pos h1]; exact ⟨rfl, h1⟩
theorem DivOk.swap {s : Int} {g : List Gat} {one other : List Item} (h : DivOk s g one other) : DivOk s g other one := by
 obtain ⟨h1, h2, h3, h4, h5⟩ := h;exact ⟨h2, h1, h4, h3, fun ⟨j, a, b, c, d⟩ => h5 ⟨j, a, b, d, c⟩⟩
def itemOf (x : Int) : Item := ⟨GSo true encI [x]⟩
theorem truths_items : ∀ l : List Int, truthsOf (l.map itemOf) = [l] := by
 have : ∀ (l p : List Int), comps p (l.map itemOf) = [p ++ l] := by
  intro l
  induction l with
  | nil => intro p; simp [comps]
  | cons x l ih =>
   intro p;rw [List.map_cons, comps]
   have e : chs (itemOf x) = [x] := rfl;rw [e];simp [ih]
 intro l
 have := this l [];rw [List.nil_append] at this;exact this
theorem items_sure (l : List Int) : ¬ Doubtful (l.map itemOf) := by
 rintro ⟨x, hx, h⟩;obtain ⟨y, _, rfl⟩ := List.mem_map.1 hx
 have h : 1 < [y].length := h;simp at h
theorem okCase_items {s : Int} {g : List Gat} (h : GoodBook s g) {l : List Int} (hl : l.length ≤ 120) (hr : ∀ x ∈ l, 0 ≤ x ∧ x < (lvs s g).length) : okCase s g (l.map itemOf) := by
 refine okCase_iff.2 ⟨h.b0, h.nl, by rw [List.length_map]; exact hl, fun x hx => ?_, ?_⟩
 ·obtain ⟨y, hy, rfl⟩ := List.mem_map.1 hx
  have := hr y hy;refine itemErr_of (by show [y].length ≤ 4; simp) (fun z hz => ?_) (badOrder_one y)
  have hz : z ∈ [y] := hz;rw [List.mem_singleton] at hz;subst hz;omega
 ·rw [List.countP_eq_zero.2]
  ·omega
  ·intro x hx;obtain ⟨y, hy, rfl⟩ := List.mem_map.1 hx
   have : ¬ 1 < (itemOf y).could.l.length := fun h => by have h : 1 < [y].length := h; simp at h
   rw [decide_eq_true_eq]; exact this
theorem okCase_nil {s : Int} {g : List Gat} : okCase s g [] ↔ GoodBook s g :=
 ⟨fun h => (case_good h).book, fun h => by have := okCase_items h (l := []) (by simp) (by simp); exact this⟩
open Classical in
theorem whole_ok {s : Int} {g : List Gat} : P_l_whole s g = some (decide (GoodBook s g)) := by
 unfold P_l_whole;rw [valid_ok];simp only [andx, okCase_nil]
def rng (n : Nat) : List Int := (List.range n).map fun i : Nat => (i : Int)
theorem rng_succ (n : Nat) : rng (n + 1) = rng n ++ [(n : Int)] := by simp [rng, List.range_succ]
theorem rng_len (n : Nat) : (rng n).length = n := by simp [rng]
theorem mem_rng {n : Nat} {x : Int} : x ∈ rng n ↔ 0 ≤ x ∧ x < n := by
 unfold rng;rw [List.mem_map]
 constructor
 ·rintro ⟨i, hi, rfl⟩; have := List.mem_range.1 hi; omega
 ·rintro ⟨h1, h2⟩; exact ⟨x.toNat, List.mem_range.2 (by omega), by omega⟩
theorem rng_get {n k : Nat} (h : k < n) : (rng n)[k]? = some (k : Int) := by
 unfold rng; rw [List.getElem?_map, List.getElem?_range h]; rfl
theorem full_ok {s : Int} {g : List Gat} (h : GoodBook s g) : P_l_full s g = some ((rng (lvs s g).length).map fun x => [x]) := by
 refine Ok.get ?_
 have hnl := h.nl;unfold P_l_full;refine .andx' (All1_ok h) (Ok.andx (P := fun x => x = (rng (lvs s g).length).map fun x => [x]) (Ok.count (fun s => s.1) (lvs s g).length (fun k (x : Int × List (List Int)) => x.2 = (rng k).map fun x => [x]) rfl rfl ?_ ?_) fun _ h => .some h)
 ·rintro k ⟨i, out⟩ hk hx hq;simp only at hx hq;subst hx hq;unfold P_l_full_L1;refine .ifp (by omega) (.chk (by rw [List.length_map, rng_len]; simp; omega) (.chk (i64_small (by omega)) (.some ⟨rfl, ?_⟩)))
  show _ = _;rw [rng_succ];simp
 ·rintro ⟨i, out⟩ hx hq;simp only at hx hq;unfold P_l_full_L1;exact .ifn (by omega) (.some hq)
def partTo (p : Nat → Bool) (k : Nat) : List Int := (rng k).filter fun x => p x.toNat
theorem partTo_succ (p : Nat → Bool) (k : Nat) : partTo p (k + 1) = if p k = true then partTo p k ++ [(k : Int)] else partTo p k := by
 unfold partTo;rw [rng_succ, List.filter_append]
 by_cases h : p k = true
 ·rw [if_pos h]; simp [h]
 ·rw [if_neg h]; simp [h]
theorem partTo_len (p : Nat → Bool) (k : Nat) : (partTo p k).length ≤ k := by
 have := List.length_filter_le (fun x : Int => p x.toNat) (rng k);rw [rng_len] at this;exact this
theorem mem_partTo {p : Nat → Bool} {k : Nat} {x : Int} : x ∈ partTo p k ↔ 0 ≤ x ∧ x < k ∧ p x.toNat = true := by
 unfold partTo;rw [List.mem_filter, mem_rng];exact ⟨fun ⟨⟨a, b⟩, c⟩ => ⟨a, b, c⟩, fun ⟨a, b, c⟩ => ⟨⟨a, b⟩, c⟩⟩
def herTo (p : Nat → Bool) (N k : Nat) : List Int := marr N fun n => if n < k ∧ p n = true then 1 else 0
theorem herTo_succ (p : Nat → Bool) (N k : Nat) : herTo p N (k + 1) = if p k = true then (herTo p N k).set k 1 else herTo p N k := by
 unfold herTo
 by_cases h : p k = true
 ·rw [if_pos h, marr_set];refine marr_congr fun n hn => ?_
  by_cases e : n = k
  ·subst e; simp [h]
  ·rw [if_neg e]
   by_cases h1 : n < k
   ·simp [h1, show n < k + 1 by omega]
   ·simp [h1, show ¬ n < k + 1 by omega]
 ·rw [if_neg h];refine marr_congr fun n hn => ?_
  by_cases e : n = k
  ·subst e; simp [h]
  ·by_cases h1 : n < k
   ·simp [h1, show n < k + 1 by omega]
   ·simp [h1, show ¬ n < k + 1 by omega]
def bitSel (bits : List UInt8) (k : Nat) : Bool := decide (0 < bits.length) && (match bits[k % bits.length]? with | some b => decide (Int.tmod (b.toNat : Int) 2 = 1) | none => false)
theorem parts_ok {bits : List UInt8} {N : Nat} (hN : N ≤ 120) :
  iter (P_law_CopyDivided_L1 bits ((rng N).map fun x => [x])) (0, [], [], List.replicate N (0 : Int)) = some (herTo (bitSel bits) N N, (partTo (bitSel bits) N).map itemOf, (partTo (fun k => !bitSel bits k) N).map itemOf) := by
 have hmm : List.map (fun x => (⟨GSo true encI x⟩ : Item)) ((rng N).map fun x => [x]) = (rng N).map itemOf := by rw [List.map_map]; rfl
 refine Ok.get (Ok.count (fun s => s.1) N (fun k (x : Int × List Item × List Item × List Int) => x.2 = ((partTo (bitSel bits) k).map itemOf, (partTo (fun k => !bitSel bits k) k).map itemOf, herTo (bitSel bits) N k)) rfl ?_ ?_ ?_)
 ·show (_, _, _) = (_, _, _)
  congr 2
  unfold herTo marr
  ·refine List.ext_getElem? fun i => ?_
   simp [List.getElem?_replicate, List.getElem?_map]
   by_cases h : i < N
   ·simp [h]
   ·simp [h]
 ·rintro k ⟨i, one, other, here⟩ hk hx hq;simp only at hx;cases hq;subst hx
  have hl1 := partTo_len (bitSel bits) k
  have hl2 := partTo_len (fun k => !bitSel bits k) k
  have hhl : (herTo (bitSel bits) N k).length = N := marr_len
  have hel : ∀ {β : Type} {k' : Item → Option β} {Q : β → Prop}, Ok (k' (itemOf k)) Q → Ok (el ((rng N).map itemOf) (k : Int) k') Q := fun hk' => .el (by rw [List.length_map, rng_len]; omega) fun a ha => by
   have ha := get_of ha rfl;rw [List.getElem?_map, rng_get hk] at ha;cases ha;exact hk'
  unfold P_law_CopyDivided_L1;rw [hmm];refine .ifp (by rw [List.length_map, rng_len]; omega) (Ok.andx (P := fun x : List Item × List Item × List Int => x = ((partTo (bitSel bits) (k + 1)).map itemOf, (partTo (fun k => !bitSel bits k) (k + 1)).map itemOf, herTo (bitSel bits) N (k + 1))) (.andx' (a := bitSel bits k) (Ok.get ?_) ?_) ?_)
  ·unfold bitSel
   by_cases h0 : 0 < bits.length
   ·have hmod : Int.tmod (k : Int) (bits.length : Int) = ((k % bits.length : Nat) : Int) := Int.ofNat_tmod _ _ |>.symm;refine .ifp (by omega) (.chk (by omega) (.el (by rw [hmod]; have := Nat.mod_lt k h0; omega) fun a ha => .chk (by omega) (.some ?_)))
    have ha := get_of ha hmod;rw [ha, decide_eq_true h0];simp
   ·refine .ifn (by omega) (.some ?_);rw [decide_eq_false h0];rfl
  ·rw [partTo_succ, partTo_succ, herTo_succ];cases bitSel bits k with
   | true =>
    refine .ifp rfl (hel (.chk (by rw [List.length_map]; simp; omega) (.el (by rw [hhl]; omega) fun a ha => .some ?_)));simp
   | false =>
    refine .ifn (by simp) (hel (.chk (by rw [List.length_map]; simp; omega) (.some ?_)));simp
  ·rintro x rfl;exact .chk (i64_small (by omega)) (.some ⟨rfl, rfl⟩)
 ·rintro ⟨i, one, other, here⟩ hx hq;simp only at hx;cases hq;unfold P_law_CopyDivided_L1;rw [hmm];exact .ifn (by rw [List.length_map, rng_len]; omega) (.some rfl)
theorem check_ok {s : Int} {g : List Gat} {bits : List UInt8} (h : GoodBook s g) :
  iter (P_law_CopyDivided_L2 s g ((rng (lvs s g).length).map fun x => [x]) (herTo (bitSel bits) (lvs s g).length (lvs s g).length) (cutFrom (partTo (bitSel bits) (lvs s g).length) (partTo (fun k => !bitSel bits k) (lvs s g).length) 0 (matesOf s g))) 0 = some (.nx ()) := by
 have hnl := h.nl
 have hcl : ∀ t u : List Int, (cutFrom t u 0 (matesOf s g)).length ≤ 1000000 := fun t u => by
  have := nodup_le (cutFrom t u 0 (matesOf s g)) (rng (lvs s g).length) ((cut_sorted (t := t) (u := u) (matesOf s g) 0).imp fun h e => by omega) fun x hx => by
   obtain ⟨i, rfl, h2, _⟩ := mem_cut.1 hx;exact mem_rng.2 (by omega)
  rw [rng_len] at this;omega
 generalize hN : (lvs s g).length = N at *
 have hmm : List.map (fun x => (⟨GSo true encI x⟩ : Item)) ((rng N).map fun x => [x]) = (rng N).map itemOf := by rw [List.map_map]; rfl
 refine Ok.get (Ok.count (fun s => s) N (fun k x => True) rfl trivial ?_ ?_)
 ·rintro k i hk hx _;subst hx;unfold P_law_CopyDivided_L2;rw [hmm]
  have hher : ∀ {β : Type} {j : Nat} {k' : Int → Option β} {Q : β → Prop}, j < N → Ok (k' (if bitSel bits j = true then 1 else 0)) Q → Ok (el (herTo (bitSel bits) N N) (j : Int) k') Q := fun hj hk' => .el (by unfold herTo; rw [marr_len]; omega) fun a ha => by
   have ha := get_of ha rfl;unfold herTo at ha;rw [marr_get hj] at ha;cases ha;simp only [hj, true_and];exact hk'
  refine .ifp (by rw [List.length_map, rng_len]; omega) (Ok.seqx (.andx' (pair_ok h (by omega)) (.andx' (a := false) (Ok.get (hher hk (.andx' (has_ok (hcl _ _)) ?_))) (.ifn (by simp) (.some ?_)))))
  ·have hiff : (k : Int) ∈ cutFrom (partTo (bitSel bits) N) (partTo (fun k => !bitSel bits k) N) 0 (matesOf s g) ↔ bitSel bits k = true ∧ 0 ≤ pairNo (bk s g) k ∧ bitSel bits (pairNo (bk s g) k).toNat = false := by
    rw [mem_cut, hN]
    constructor
    ·rintro ⟨i, e, h2, h3, h4, h5⟩
     have : k = i := by omega
     subst this;rw [mem_partTo] at h3 h5;exact ⟨by simpa using h3.2.2, h4, by simpa using h5.2.2⟩
    ·rintro ⟨h1, h2, h3⟩;obtain ⟨m, e, hm, _, _⟩ := pair_sym h2
     have hm : m < N := by unfold lvs at hN; omega
     refine ⟨k, rfl, hk, mem_partTo.2 ⟨by omega, by omega, by simpa using h1⟩, h2, mem_partTo.2 ⟨by omega, by omega, by simpa using h3⟩⟩
   cases hb : bitSel bits k with
   | true =>
    rw [hb] at hiff;refine .ifp (by simp) (.ite (fun h0 => ?_) (fun h0 => .some (decide_eq_false ?_)))
    ·obtain ⟨m, e, hm, _, _⟩ := pair_sym (show 0 ≤ pairNo (bk s g) k from h0)
     have hm : m < N := by unfold lvs at hN; omega
     rw [e] at hiff ⊢;rw [Int.toNat_natCast] at hiff;refine hher hm (.some (decide_eq_false (Classical.not_not.2 ?_)));cases hbm : bitSel bits m with
     | true => rw [hbm] at hiff; rw [decide_eq_false (fun k => by simpa using (hiff.1 k).2.2)]; simp
     | false => rw [hbm] at hiff; rw [decide_eq_true (hiff.2 ⟨rfl, by omega, rfl⟩)]; simp
    ·exact Classical.not_not.2 (decide_eq_false (fun k => h0 (hiff.1 k).2.1))
   | false =>
    rw [hb] at hiff;refine .ifn (by simp) (.some (decide_eq_false (Classical.not_not.2 (decide_eq_false (fun k => by simpa using (hiff.1 k).1)))))
  ·show Ok _ _;exact .chk (i64_small (by omega)) (.some ⟨rfl, trivial⟩)
 ·rintro i hx _;unfold P_law_CopyDivided_L2;rw [hmm];exact .ifn (by rw [List.length_map, rng_len]; omega) (.some rfl)
theorem CopyDivided_true (s : Int) (g : List Gat) (one other : List Item) (bits : List UInt8) : P_law_CopyDivided s g one other bits = some true := by
 classical
 refine Ok.get ?_;unfold P_law_CopyDivided;refine .andx' whole_ok ?_
 by_cases h : GoodBook s g
 ·have hnl := h.nl;refine .ifp (decide_eq_true h) (.andx' (full_ok h) ?_)
  have hmm : List.map (fun x => (⟨GSo true encI x⟩ : Item)) ((rng (lvs s g).length).map fun x => [x]) = (rng (lvs s g).length).map itemOf := by rw [List.map_map]; rfl
  simp only [hmm, List.length_map, rng_len, Int.toNat_natCast];refine .chk (by omega) (.andx' (parts_ok hnl) ?_)
  have hp1 : ∀ p, okCase s g ((partTo p (lvs s g).length).map itemOf) := fun p => okCase_items h (Nat.le_trans (partTo_len _ _) hnl) fun x hx => by
   have := mem_partTo.1 hx;omega
  have ht1 : ∀ p, tr1 ((partTo p (lvs s g).length).map itemOf) = partTo p (lvs s g).length := fun p => by unfold tr1; rw [truths_items]; rfl
  have hd : DivOk s g ((partTo (bitSel bits) (lvs s g).length).map itemOf) ((partTo (fun k => !bitSel bits k) (lvs s g).length).map itemOf) := by
   refine ⟨hp1 _, hp1 _, items_sure _, items_sure _, ?_⟩;rw [ht1, ht1];rintro ⟨j, _, _, h3, h4⟩
   have h3 := (mem_partTo.1 h3).2.2
   have h4 := (mem_partTo.1 h4).2.2;rw [Int.toNat_natCast] at h3 h4;rw [h3] at h4;cases h4
  have hds := div_yes hd;rw [ht1, ht1] at hds;refine .andx' (c_Divided_ok.trans (congrArg some hds)) (.ifn (by simp) (Ok.seqx (.eq (check_ok h) ?_)))
  show Ok _ _;refine .andx' c_Divided_ok (.andx' c_Divided_ok ?_)
  by_cases he : DivOk s g one other
  ·have e1 := div_yes he
   have e2 := div_yes he.swap;rw [e1, e2];generalize ht : tr1 one = t;generalize hu : tr1 other = u
   have hcl : ∀ t u : List Int, (cutFrom t u 0 (matesOf s g)).length ≤ 1000000 := fun t u => by
    have := nodup_le (cutFrom t u 0 (matesOf s g)) (rng (lvs s g).length) ((cut_sorted (t := t) (u := u) (matesOf s g) 0).imp fun h e => by omega) fun x hx => by
     obtain ⟨i, rfl, h2, _⟩ := mem_cut.1 hx;exact mem_rng.2 (by omega)
    rw [rng_len] at this;omega
   have hl1 := cut_len (s := s) (g := g) (t := t) (u := u)
   have hl2 := cut_len (s := s) (g := g) (t := u) (u := t);refine .ifn (by simp) (Ok.seqx (.andx' (a := false) (Ok.get (.ifn (by simp) (.some (decide_eq_false (by simp only; omega))))) (.ifn (by simp) (.some ?_))))
   show Ok _ _;refine Ok.seqx (.eq (a := Ex.nx ()) (Ok.get (Ok.count (fun s => s) (cutFrom t u 0 (matesOf s g)).length (fun k x => True) rfl trivial ?_ ?_)) (show Ok (some true) (fun r => r = true) from .some rfl))
   ·rintro k i hk hx _;subst hx;obtain ⟨x, hx⟩ : ∃ x, (cutFrom t u 0 (matesOf s g))[k]? = some x := ⟨_, List.getElem?_eq_getElem hk⟩
    have hmem := List.mem_of_getElem? hx;obtain ⟨j, rfl, hj, _⟩ := mem_cut.1 hmem
    have hel : ∀ {β : Type} {k' : Int → Option β} {Q : β → Prop}, Ok (k' (j : Int)) Q → Ok (el (cutFrom t u 0 (matesOf s g)) (k : Int) k') Q := fun hk' => .el (by omega) fun a ha => by
     have ha := get_of ha rfl;rw [hx] at ha;cases ha;exact hk'
    have hcut := cut_mate hmem;unfold P_law_CopyDivided_L3;simp only [hmm, List.length_map, rng_len]
    have hcl1 := hcl t u
    have hcl2 := hcl u t;refine .ifp (by omega) (Ok.seqx (.andx' (a := false) (Ok.get (hel (.ifn (by omega) (hel (.ifn (by omega) (hel (.andx' (pair_ok h hj) (.andx' (has_ok hcl2) (.some ?_))))))))) (.ifn (by simp) (.some ?_))))
    ·simp [hcut]
    ·show Ok _ _;exact .chk (i64_small (by omega)) (.some ⟨rfl, trivial⟩)
   ·rintro i hx _;unfold P_law_CopyDivided_L3;dsimp only;exact .ifn (by omega) (.some rfl)
  ·obtain ⟨n1, n2⟩ := div_no he;obtain ⟨n3, n4⟩ := div_no (fun k => he k.swap : ¬ DivOk s g other one);refine .ifp n2 (.andx' (a := true) (Ok.get (.ifp (by rw [n1]; rfl) (.ifp n4 (.some rfl)))) (.some rfl))
 ·refine .ifn (by simp [h]) (.andx' c_Divided_ok (.andx' (a := true) (Ok.get (.ifp ?_ (.some rfl))) (.some rfl)));exact (div_no (fun k => h (okCase_nil.1 k.1))).2
end Go.Am
end
section

end
section
namespace Go.Am.Ythckcbfijdambaa
open Go.Am Go.RowKit
theorem copyDivided_calls (w : World) (b_Signed : Int) (b_Gatherings : GS encG) (x_One : GS encIt) (x_Other : GS encIt) (bits : GS encU8) (xs : List Value) (h : RelL (snapR w 0) [.agg [iv (b_Signed), b_Gatherings.v], .agg [x_One.v, x_Other.v], bits.v] xs) :
  Calls Go.Proofs.Try.prog 10 xs.toArray w fun e w' => e = .returned (.bool true) ∧ Below w.heap.size w w' :=
 ((w_law_CopyDivided b_Signed b_Gatherings x_One x_Other bits true (CopyDivided_true _ _ _ _ _)).runsTo.calls (EL_good 7) w xs h).mono fun e w' ⟨x, he, hr, hb⟩ => ⟨by rw [he]; cases hr; rfl, hb⟩
end Go.Am.Ythckcbfijdambaa
namespace Go.Proofs.Ythckcbfijdambaa.copyDivided
open Go.ChangeShapes Go.WideShapes Go.ChangeAt Go.RowKit
set_option linter.unusedVariables false
theorem own : ownKnob Try.prog.godebug = none := by kernel_rfl
theorem laid : laidOutB Try.prog = true := by kernel_rfl
set_option maxRecDepth 100000 in
theorem lifted (os : Os) (started : os.Started) (H : Type) (enc : TypeId × Value → H) :
  ReturnsInHanded {} Try.checked os 10 .any (Rows.copyDividedSpec.pre6 enc Try.prog Try.f10 Rows.copyDividedRow.domain false) (Rows.copyDividedSpec.post enc Try.prog Try.f10 false true false false) := by
 refine returnsInHanded_of_change (C := Try.checked) own started (by kernel_rfl) Try.func10
  (ChangeSpec.witness6 (enc := enc) (C := Try.checked) false ⟨#[], #[.agg #[.int .i64 0, .slice none 0 0], .agg #[.slice none 0 0, .slice none 0 0], .slice none 0 0], []⟩ 8 (by kernel_rfl) (by kernel_rfl) (by kernel_rfl) (by kernel_rfl)) ?_
 intro W base args ds gs before hval0 hW hcnd _
 have hW' := hW;obtain ⟨p, q, hA0, hV, rfl, hfz, hnd⟩ := hW
 have hA : DataW.TrodAll enc Try.prog W 0 (fun _ => true) true Try.f10.params.toList args.toList ds p := hA0
 have hval : ∀ (j : Nat) t v, Try.f10.params[j]? = some t → args[j]? = some v → Value.okWide Try.prog W .any base t v := hval0;rw [Try.params10] at hA hval;obtain ⟨v0, v1, v2, d0, d1, d2, p0, p1, p2, rfl, rfl, rfl, h0, h1, h2⟩ := trodAll_three hA;obtain ⟨rfl, rfl⟩ := trodVars_none hV;obtain ⟨x0, r0⟩ := Go.Am.Ythckcbfijdambaa.li_24.arg Try.underlying24 (hval 0 24 v0 rfl rfl) h0;obtain ⟨x1, r1⟩ := Go.Am.Ythckcbfijdambaa.li_74.arg Try.underlying74 (hval 1 74 v1 rfl rfl) h1;obtain ⟨x2, r2⟩ := Go.Am.Ythckcbfijdambaa.li_75.argS Try.underlying75 (hval 2 75 v2 rfl rfl) h2
 clear hA0 hval0
 refine (Go.Am.Ythckcbfijdambaa.copyDivided_calls W x0.signed x0.gs x1.1 x1.2 x2 [v0, v1, v2] (.cons r0 (.cons r1 (.cons r2 (.nil _))))).mono fun e W' ⟨he, bel⟩ => ?_
 subst he
 have hlt : ∀ x ∈ p0 ++ p1 ++ p2, x.block < W.heap.size := fun x hx => hW'.lt x (by simpa using hx)
 have k0 := Below.trod laid (by kernel_rfl) (of_decide_eq_true (by kernel_rfl)) h0 bel fun x hx => hlt x (by simp [hx])
 have k1 := Below.trod laid (by kernel_rfl) (of_decide_eq_true (by kernel_rfl)) h1 bel fun x hx => hlt x (by simp [hx])
 have k2 := Below.trod laid (by kernel_rfl) (of_decide_eq_true (by kernel_rfl)) h2 bel fun x hx => hlt x (by simp [hx])
 exact ⟨_, rfl, _, _, _, [], _, [], hW', trodAll_mk1 (shut_bool Try.underlying4 _), trodAll_mk3 k0 k1 k2, rfl, bel.frame _, fun h => by cases h⟩
theorem over : Rows.copyDividedRow.holds Try.pinned (OpenSpec.ofChange Rows.copyDividedSpec) :=
 OpenClaim.holds_of_wide 10 Try.f10 rfl rfl rfl rfl rfl rfl rfl ⟨rfl, rfl, rfl, rfl, rfl⟩ rfl rfl rfl rfl rfl (by kernel_rfl) Try.func10 (by kernel_rfl)
  (of_decide_eq_true (by kernel_rfl)) (by unfold Func.isWrapper; first | (rw [if_pos (by decide +kernel)]; kernel_rfl) | (rw [if_neg (by decide +kernel)]; exact ⟨rfl, rfl⟩))
  (fun os started H enc _ => lifted os started H enc)
theorem proved : Rows.CopyDividedSaid := over
#print axioms proved
end Go.Proofs.Ythckcbfijdambaa.copyDivided
end
