/- CopyLost is proved: Lost, Loose and Ask return what the document says, for any case. Conditions: none. -/
import Derived.Test.YthckcbfijdambaaGreatP4
import Derived.WalkKit
import Derived.ProofKit
import Derived.OpenShut
import Derived.ChangeOld
import Derived.Below
import Derived.Carry
section
namespace Go.Am
noncomputable def lvs (s : Int) (g : List Gat) : List Leaf := leavesOf (bk s g)
noncomputable def matesTo (s : Int) (g : List Gat) (n : Nat) : List Int := (List.range n).map fun n => pairNo (bk s g) n
noncomputable def matesOf (s : Int) (g : List Gat) : List Int := matesTo s g (lvs s g).length
theorem matesTo_len (s : Int) (g : List Gat) (n : Nat) : (matesTo s g n).length = n := by simp [matesTo]
theorem matesTo_succ (s : Int) (g : List Gat) (n : Nat) : matesTo s g (n + 1) = matesTo s g n ++ [pairNo (bk s g) n] := by
 unfold matesTo; rw [List.range_succ, List.map_append]; rfl
theorem itemsErr_pos : ∀ (l : List Item) (i : Nat) (n : Int), ∀ x, itemsErr n i l = some x → x.2 ≠ 0 := by
 intro l
 induction l with
 | nil => intro i n x h; cases h
 | cons a l ih =>
  intro i n x h;unfold itemsErr at h;split at h
  ·exact ih _ _ _ h
  ·cases h; assumption
noncomputable def openRes (s : Int) (g : List Gat) (its : List Item) : Sum (Int × Int × Int) (Int × (GS encL) × (List Int) × Int × Int × Int) :=
 if (caseErr s g its).2.2 = 0 then .inr (s, GSo true encL (lvs s g), matesOf s g, 0, 0, 0) else .inl (caseErr s g its)
theorem outside_ok {lo hi : Int} {x : List Int} (h : x.length ≤ 1000000) : P_c_outside lo hi x = some (decide (∃ n ∈ x, n < lo ∨ hi < n)) := by
 unfold P_c_outside;rw [chk_pos (by omega)]
theorem order_ok {x44 : Int} {it : Item} (hl : it.could.l.length ≤ 4) {Q : Ex Unit (Stp Int (Ex Unit (Sum (Int × Int × Int) (Int × (GS encL) × (List Int) × Int × Int × Int)))) → Prop}
  (h1 : BadOrder it.could.l → Q (.rt (.dn (.rt (.inl (2, x44, 2)))))) (h2 : ¬ BadOrder it.could.l → Q (.nx ())) : Ok (iter (P_c_open_L2 x44 it) 0) Q := by
 refine Ok.iter (fun i => 0 ≤ i ∧ ∀ (k : Nat) (a b : Int), (k : Int) + 1 < i → it.could.l[k]? = some a → it.could.l[k + 1]? = some b → a < b) (fun i => it.could.l.length - i.toNat) ⟨by omega, fun k a b h => by omega⟩ ?_;rintro i ⟨h0, hI⟩;unfold P_c_open_L2;refine .ite (fun hc => ?_) (fun hc => ?_)
 ·refine Ok.seqx (.el (by omega) fun b hb => ?_)
  by_cases hi : i > 0
  ·rw [if_pos hi];refine Ok.andx (P := fun c => ∃ a, it.could.l[(i - 1).toNat]? = some a ∧ c = decide (b ≤ a)) (.chk (i64_small (by omega)) (.el (by omega) fun a ha => .some ⟨a, ha, rfl⟩)) ?_;rintro c ⟨a, ha, rfl⟩
   have e : i.toNat = (i - 1).toNat + 1 := by omega
   rw [e] at hb;refine .ite (fun hd => .some ?_) (fun hd => .some ?_)
   ·exact h1 ⟨_, a, b, ha, hb, by simpa using hd⟩
   ·refine .chk (i64_small (by omega)) (.some ⟨⟨by omega, ?_⟩, by simp only; omega⟩);intro k a' b' hk ha' hb'
    by_cases hk' : (k : Int) + 1 < i
    ·exact hI k a' b' hk' ha' hb'
    ·have : k = (i - 1).toNat := by omega
     subst this;rw [ha] at ha'; rw [hb] at hb';cases ha'; cases hb'
     have : ¬ b ≤ a := by simpa using hd
     omega
  ·rw [if_neg hi];simp only [andx];rw [if_neg (by simp)];refine .some ?_
   show Ok _ _;exact .chk (i64_small (by omega)) (.some ⟨⟨by omega, fun k a b hk => by omega⟩, by simp only; omega⟩)
 ·refine .some ?_;refine h2 ?_;rintro ⟨k, a, b, ha, hb, hd⟩
  have := (List.getElem?_eq_some_iff.1 hb).1
  have := hI k a b (by omega) ha hb;omega
theorem mate_ok {s : Int} {g : List Gat} {n : Nat} (h0 : (bookErr (bk s g)).2.2 = 0) (hn : n < (lvs s g).length) : (if ¬ (mateOf (bk s g) n).2 = 0 then (-1 : Int) else (mateOf (bk s g) n).1) = pairNo (bk s g) n := by
 rcases mate_cases h0 hn with h | ⟨h, h'⟩
 ·rw [h]; simp
 ·rw [h, h']; simp
theorem mates_ok {s : Int} {g : List Gat} (h0 : (bookErr (bk s g)).2.2 = 0) (hl : (lvs s g).length ≤ 120) : iter (P_c_open_L4 s g (lvs s g)) (0, []) = some (matesOf s g) := by
 refine Ok.get (Ok.count (σ := Int × List Int) Prod.fst (lvs s g).length (fun k x => x.2 = matesTo s g k) rfl rfl ?_ ?_)
 ·rintro k ⟨i, l⟩ hk hi hl';simp only at hi hl';subst hi hl';unfold P_c_open_L4;refine .ifp (by omega) (Ok.andx (P := fun l => l = matesTo s g (k + 1)) ?_ ?_)
  ·refine .andx' (x := P_q_Mate s g k) (a := mateOf (bk s g) k) rfl ?_
   have hme := mate_ok h0 hk;generalize mateOf (bk s g) (k : Int) = me at hme;obtain ⟨m, e⟩ := me;dsimp only at hme ⊢;refine Ok.andx (P := fun m => m = pairNo (bk s g) k) ?_ ?_
   ·refine .ite (fun hc => .some ?_) (fun hc => .some ?_)
    ·rw [if_pos hc] at hme; exact hme
    ·rw [if_neg hc] at hme; exact hme
   ·rintro m rfl
    have := matesTo_len s g k;exact .chk (by simp; omega) (.some (matesTo_succ s g k).symm)
  ·rintro l rfl;exact .chk (i64_small (by omega)) (.some ⟨rfl, rfl⟩)
 ·rintro ⟨i, l⟩ hi hl';simp only at hi hl';subst hi hl';unfold P_c_open_L4;exact .ifn (by omega) (.some rfl)
theorem open_ok {s : Int} {g : List Gat} {its : List Item} : P_c_open s g its = some (openRes s g its) := by
 refine Ok.get ?_;unfold P_c_open openRes caseErr;refine .andx' (x := P_q_Check s g) rfl ?_;dsimp only
 by_cases h0 : (bookErr (bk s g)).2.2 = 0
 ·rw [if_pos h0];refine .ifn (fun h => h h0) (.andx' (x := P_q_Leaves s g) (a := (leavesOf (bk s g), 0)) (by unfold P_q_Leaves; rw [if_pos h0, h0]) ?_);dsimp only
  have hlen := leaves_len (book_fits h0)
  have hmt := mates_ok (s := s) (g := g) h0;unfold lvs at hmt ⊢;generalize leavesOf (bk s g) = lv at hlen hmt
  by_cases h1 : 120 < lv.length
  ·rw [if_pos h1];exact .ifp (by omega) (.some (by simp))
  ·rw [if_neg h1];refine .ifn (by omega) ?_
   by_cases h2 : 120 < its.length
   ·rw [if_pos h2];exact .ifp (by omega) (.some (by simp))
   ·rw [if_neg h2];refine .ifn (by omega) (Ok.seqx (Ok.count id its.length (fun k _ => itemsErr lv.length 0 its = itemsErr lv.length k (its.drop k)) rfl rfl ?_ ?_))
    ·rintro k i hk hi hI;simp only [id] at hi;subst hi;unfold P_c_open_L1;refine .ifp (by omega) (Ok.seqx (.el (by omega) fun x hx => ?_))
     have hx := get_of hx rfl;rw [itemsErr_drop hx] at hI
     have key : ∀ e : Int, itemErr x.could.l lv.length = e → e ≠ 0 → (Sum.inl (2, (k : Int), e) : Sum (Int × Int × Int) (Int × (GS encL) × (List Int) × Int × Int × Int)) = (if (match itemsErr lv.length 0 its with | some (i, e) => ((2 : Int), (i : Int), e) | none => match doubtsErr 0 0 its with | some i => (3, (i : Int), 3) | none => (0, 0, 0)).2.2 = 0 then .inr (s, GSo true encL lv, matesOf s g, 0, 0, 0) else .inl (match itemsErr lv.length 0 its with | some (i, e) => ((2 : Int), (i : Int), e) | none => match doubtsErr 0 0 its with | some i => (3, (i : Int), 3) | none => (0, 0, 0))) := by
      intro e he h;rw [he, if_neg h] at hI;rw [hI];simp [h]
     unfold itemErr at hI key;refine .ite (fun hc => ?_) (fun hc => ?_)
     ·exact .some (key 3 (by rw [if_pos (by omega)]) (by omega))
     ·rw [if_neg (by omega : ¬ 4 < x.could.l.length)] at hI key;refine .chk (i64_small (by omega)) (.andx' (outside_ok (by omega)) ?_);refine .ite (fun hd => ?_) (fun hd => ?_)
      ·exact .some (key 4 (by rw [if_pos (by simpa using hd)]) (by omega))
      ·have hd' : ¬ ∃ n ∈ x.could.l, n < 0 ∨ (lv.length : Int) - 1 < n := by simpa using hd
       rw [if_neg hd'] at hI key;refine order_ok (by omega) (fun hb => ?_) (fun hb => ?_)
       ·exact key 2 (by rw [if_pos hb]) (by omega)
       ·rw [if_neg hb, if_pos rfl] at hI
        show Ok _ _;exact .chk (i64_small (by omega)) (.some ⟨rfl, hI⟩)
    ·rintro i hi hI;simp only [id] at hi;subst hi;unfold P_c_open_L1;rw [List.drop_length] at hI;refine .ifn (by omega) (.some ?_)
     show Ok _ _;rw [hI];simp only [itemsErr];refine Ok.seqx (Ok.count (σ := Int × Int) Prod.snd its.length (fun k s => ∃ d : Nat, s.1 = d ∧ d ≤ 3 ∧ doubtsErr 0 0 its = doubtsErr d k (its.drop k)) rfl ⟨0, rfl, by omega, rfl⟩ ?_ ?_)
     ·rintro k ⟨dd, i⟩ hk hi ⟨d, hd, hd3, hI⟩;simp only at hi hd;subst hi hd;unfold P_c_open_L3;refine .ifp (by omega) (Ok.seqx (.el (by omega) fun x hx => ?_))
      have hx := get_of hx rfl;rw [doubtsErr_drop hx] at hI;refine Ok.andx (P := fun j => j = ((if 1 < x.could.l.length then d + 1 else d : Nat) : Int)) ?_ ?_
      ·refine .ite (fun hc => .chk (i64_small (by omega)) (.some ?_)) (fun hc => .some ?_)
       ·rw [if_pos (by omega)]; rfl
       ·rw [if_neg (by omega)]
      ·rintro j rfl;generalize (if 1 < x.could.l.length then d + 1 else d) = e at hI;refine .ite (fun hc => ?_) (fun hc => ?_)
       ·rw [if_pos (by omega)] at hI;refine .some ?_
        show _ = _;rw [hI];simp
       ·rw [if_neg (by omega)] at hI;refine .some ?_
        show Ok _ _;exact .chk (i64_small (by omega)) (.some ⟨rfl, e, rfl, by omega, hI⟩)
     ·rintro ⟨dd, i⟩ hi ⟨d, hd, hd3, hI⟩;simp only at hi hd;subst hi hd;unfold P_c_open_L3;rw [List.drop_length] at hI;refine .ifn (by omega) (.some ?_)
      show Ok _ _;rw [hI];refine .andx' (hmt (by omega)) (.some ?_);simp [doubtsErr]
 ·rw [if_neg h0];exact .ifp h0 (.some (by rw [if_neg h0]))
end Go.Am
end
section
namespace Go.Am
theorem doubts_le : ∀ (l : List Item) (d i : Nat), d ≤ 3 → doubtsErr d i l = none → d + l.countP (fun x => decide (1 < x.could.l.length)) ≤ 3 := by
 intro l
 induction l with
 | nil => intro d i hd _; simpa using hd
 | cons x l ih =>
  intro d i hd h;unfold doubtsErr at h;rw [List.countP_cons]
  by_cases hx : 1 < x.could.l.length
  ·simp only [hx, if_true, decide_true] at h ⊢;split at h
   ·cases h
   ·have := ih _ _ (by omega) h;omega
  ·simp only [hx, if_false, decide_false] at h ⊢;split at h
   ·cases h
   ·have := ih _ _ (by omega) h
    simpa using this
theorem items_ok {n : Int} : ∀ (l : List Item) (i : Nat), itemsErr n i l = none → ∀ x ∈ l, itemErr x.could.l n = 0 := by
 intro l
 induction l with
 | nil => intro i _ x hx; simp at hx
 | cons a l ih =>
  intro i h x hx;unfold itemsErr at h;split at h
  ·rename_i h0
   rcases List.mem_cons.1 hx with rfl | hx
   ·exact h0
   ·exact ih _ h x hx
  ·cases h
theorem item_facts {l : List Int} {n : Int} (h : itemErr l n = 0) : l.length ≤ 4 ∧ (∀ x ∈ l, 0 ≤ x ∧ x ≤ n - 1) ∧ ¬ BadOrder l := by
 unfold itemErr at h;split at h
 ·omega
 ·split at h
  ·omega
  ·rename_i h1 h2
   split at h
   ·omega
   ·rename_i h3
    refine ⟨by omega, fun x hx => ?_, h3⟩
    have : ¬ (x < 0 ∨ n - 1 < x) := fun k => h2 ⟨x, hx, k⟩
    omega
def wid : List Item → Nat
 | [] => 1
 | x :: l => (chs x).length * wid l
theorem comps_len : ∀ (l : List Item) (p : List Int), (comps p l).length = wid l := by
 intro l
 induction l with
 | nil => intro p; rfl
 | cons x l ih =>
  intro p;unfold comps wid;rw [List.length_flatMap]
  have : ((chs x).map fun c => (comps (p ++ [c]) l).length) = (chs x).map fun _ => wid l := by simp [ih]
  rw [this];simp [List.map_const', List.sum_replicate_nat]
theorem chs_len (x : Item) (h : x.could.l.length ≤ 4) : 1 ≤ (chs x).length ∧ (chs x).length ≤ 4 ∧ (1 < (chs x).length ↔ 1 < x.could.l.length) := by
 unfold chs
 by_cases h0 : x.could.l = []
 ·rw [if_pos h0]; simp [h0]
 ·rw [if_neg h0]
  have : x.could.l.length ≠ 0 := fun e => h0 (List.eq_nil_of_length_eq_zero e)
  omega
theorem wid_le : ∀ (l : List Item), (∀ x ∈ l, x.could.l.length ≤ 4) → 1 ≤ wid l ∧ wid l ≤ 4 ^ l.countP (fun x => decide (1 < x.could.l.length)) := by
 intro l
 induction l with
 | nil => intro _; simp [wid]
 | cons x l ih =>
  intro h
  have hx := chs_len x (h x (by simp));obtain ⟨h1, h2⟩ := ih fun y hy => h y (by simp [hy])
  unfold wid;rw [List.countP_cons];refine ⟨Nat.mul_pos hx.1 h1, ?_⟩
  by_cases hc : 1 < x.could.l.length
  ·simp only [hc, decide_true, if_true, Nat.pow_succ];rw [Nat.mul_comm];exact Nat.mul_le_mul h2 hx.2.1
  ·have : (chs x).length = 1 := by have := hx.2.2; omega
   simp only [hc, decide_false, this]
   simpa using h2
def lev : List (List Int) → List Item → List (List Int)
 | out, [] => out
 | out, x :: l => lev (out.flatMap fun o => (chs x).map fun c => o ++ [c]) l
theorem lev_comps : ∀ (l : List Item) (out : List (List Int)), lev out l = out.flatMap fun o => comps o l := by
 intro l
 induction l with
 | nil => intro out; simp [lev, comps]
 | cons x l ih =>
  intro out;unfold lev;rw [ih, List.flatMap_assoc]
  congr 1
  funext o
  rw [List.flatMap_map];rfl
theorem lev_snoc : ∀ (l : List Item) (out : List (List Int)) (x : Item), lev out (l ++ [x]) = (lev out l).flatMap fun o => (chs x).map fun c => o ++ [c] := by
 intro l
 induction l with
 | nil => intro out x; rfl
 | cons y l ih => intro out x; exact ih _ x
theorem truths_lev (l : List Item) : lev [[]] l = truthsOf l := by rw [lev_comps]; simp [truthsOf]
theorem comps_each : ∀ (l : List Item) (p t : List Int), t ∈ comps p l → t.length = p.length + l.length := by
 intro l
 induction l with
 | nil => intro p t h; simp [comps] at h; simp [h]
 | cons x l ih =>
  intro p t h;unfold comps at h;obtain ⟨c, _, hc⟩ := List.mem_flatMap.1 h
  have := ih _ _ hc;simp at this ⊢;omega
theorem lev_each {l : List Item} {t : List Int} (h : t ∈ lev [[]] l) : t.length = l.length := by
 rw [truths_lev] at h
 simpa using comps_each l [] t h
theorem one_row {could : List Int} {o : List Int} {body : Int × List (List Int) → Option (Stp (Int × List (List Int)) (List (List Int)))} (hb : ∀ (n : Nat) (next : List (List Int)), next.length ≤ 1000000 → (∀ a, could[n]? = some a → body (n, next) = some (.ag ((n : Int) + 1, next ++ [o ++ [a]]))) ∧ (could[n]? = none → body (n, next) = some (.dn next)))
  {next : List (List Int)} (hn : next.length + could.length ≤ 1000000) : iter body (0, next) = some (next ++ could.map fun c => o ++ [c]) := by
 refine Ok.get (Ok.count (σ := Int × List (List Int)) Prod.fst could.length (fun k s => s.2 = next ++ (could.take k).map fun c => o ++ [c]) rfl (by simp) ?_ ?_)
 ·rintro k ⟨i, nx⟩ hk hi hx;simp only at hi hx;subst hi hx
  have e := List.getElem?_eq_getElem hk;refine .eq ((hb k _ (by simp; omega)).1 _ e) ⟨rfl, ?_⟩
  show _ = next ++ (could.take (k + 1)).map fun c => o ++ [c]
  rw [take_snoc e, List.map_append, ← List.append_assoc];rfl
 ·rintro ⟨i, nx⟩ hi hx;simp only at hi hx;subst hi hx;refine .eq ((hb could.length _ (by simp; omega)).2 (List.getElem?_eq_none (Nat.le_refl _))) ?_
  show _ = _;rw [List.take_length]
theorem all_rows {could : List Int} {out : List (List Int)} {body : Int × List (List Int) → Option (Stp (Int × List (List Int)) (List (List Int)))} (hb : ∀ (k : Nat) (next : List (List Int)), next.length + could.length ≤ 1000000 → (∀ o, out[k]? = some o → body (k, next) = some (.ag ((k : Int) + 1, next ++ could.map fun c => o ++ [c]))) ∧ (out[k]? = none → body (k, next) = some (.dn next)))
  (hn : (out.length + 1) * could.length ≤ 1000000) : iter body (0, []) = some (out.flatMap fun o => could.map fun c => o ++ [c]) := by
 have hlen : ∀ k, k ≤ out.length → ((out.take k).flatMap fun o => could.map fun c => o ++ [c]).length = k * could.length := by
  intro k hk;rw [List.length_flatMap]
  have : ((out.take k).map fun o => (could.map fun c => o ++ [c]).length) = (out.take k).map fun _ => could.length := by simp
  rw [this];simp [List.map_const', List.sum_replicate_nat, Nat.min_eq_left hk]
 refine Ok.get (Ok.count (σ := Int × List (List Int)) Prod.fst out.length (fun k s => s.2 = (out.take k).flatMap fun o => could.map fun c => o ++ [c]) rfl (by simp) ?_ ?_)
 ·rintro k ⟨i, nx⟩ hk hi hx;simp only at hi hx;subst hi hx
  have e := List.getElem?_eq_getElem hk
  have hb1 : k * could.length + could.length ≤ (out.length + 1) * could.length := by
   rw [← Nat.succ_mul]; exact Nat.mul_le_mul_right _ (by omega)
  refine .eq ((hb k _ (by rw [hlen k (by omega)]; omega)).1 _ e) ⟨rfl, ?_⟩
  show _ = (out.take (k + 1)).flatMap _;rw [take_snoc e, List.flatMap_append];simp
 ·rintro ⟨i, nx⟩ hi hx;simp only at hi hx;subst hi hx
  have hb1 : out.length * could.length + could.length = (out.length + 1) * could.length := (Nat.succ_mul _ _).symm;refine .eq ((hb out.length _ (by rw [hlen _ (Nat.le_refl _)]; omega)).2 (List.getElem?_eq_none (Nat.le_refl _))) ?_
  show _ = _;rw [List.take_length]
end Go.Am
end
section
namespace Go.Am
set_option linter.unusedVariables false
structure GoodCase (s : Int) (g : List Gat) (its : List Item) : Prop where
 b0 : (bookErr (bk s g)).2.2 = 0
 nl : (lvs s g).length ≤ 120
 il : its.length ≤ 120
 few : ∀ x ∈ its, x.could.l.length ≤ 4
 rng : ∀ x ∈ its, ∀ n ∈ x.could.l, 0 ≤ n ∧ n ≤ ((lvs s g).length : Int) - 1
 dbt : its.countP (fun x => decide (1 < x.could.l.length)) ≤ 3
theorem case_good {s : Int} {g : List Gat} {its : List Item} (h : (caseErr s g its).2.2 = 0) : GoodCase s g its := by
 unfold caseErr at h
 by_cases hb : (bookErr (bk s g)).2.2 = 0
 ·rw [if_pos hb] at h
  by_cases h1 : 120 < (leavesOf (bk s g)).length
  ·rw [if_pos h1] at h; simp at h
  ·rw [if_neg h1] at h
   by_cases h2 : 120 < its.length
   ·rw [if_pos h2] at h; simp at h
   ·rw [if_neg h2] at h;split at h
    ·rename_i i e he
     exact absurd h (itemsErr_pos _ _ _ _ he)
    ·rename_i he
     split at h
     ·simp at h
     ·rename_i hd
      have hi := fun x hx => item_facts (items_ok _ _ he x hx)
      exact ⟨hb, by unfold lvs; omega, by omega, fun x hx => (hi x hx).1, fun x hx => (hi x hx).2.1, by simpa using doubts_le _ _ _ (by omega) hd⟩
 ·rw [if_neg hb] at h; exact absurd h hb
theorem GoodCase.wid {s : Int} {g : List Gat} {its : List Item} (h : GoodCase s g its) : Go.Am.wid its ≤ 64 :=
 Nat.le_trans (wid_le _ h.few).2 (Nat.le_trans (Nat.pow_le_pow_right (by omega) h.dbt) (by decide))
theorem GoodCase.take {s : Int} {g : List Gat} {its : List Item} (h : GoodCase s g its) (k : Nat) : GoodCase s g (its.take k) :=
  ⟨h.b0, h.nl, Nat.le_trans (by rw [List.length_take]; omega) h.il, fun x hx => h.few x (List.mem_of_mem_take hx), fun x hx => h.rng x (List.mem_of_mem_take hx),
    Nat.le_trans ((List.take_sublist k its).countP_le) h.dbt⟩
theorem lev_len (l : List Item) : (lev [[]] l).length = Go.Am.wid l := by rw [truths_lev]; exact comps_len l []
theorem el_eq {α β : Type} {l : List α} {k : Nat} {a : α} {c : α → Option β} (h : l[k]? = some a) : el l (k : Int) c = c a := by
 unfold el; rw [if_pos (by omega)]; simp only [Int.toNat_natCast, h]
theorem row3 {l9 : List (List Int)} {k : Nat} {o : List Int} (ho : l9[k]? = some o) (hl : o.length ≤ 1000000) (n : Nat) (next : List (List Int)) (hn : next.length ≤ 1000000) :
  (∀ a, [(-1 : Int)][n]? = some a → P_r4_All_L3 l9 k (n, next) = some (.ag ((n : Int) + 1, next ++ [o ++ [a]]))) ∧ ([(-1 : Int)][n]? = none → P_r4_All_L3 l9 k (n, next) = some (.dn next)) := by
 constructor
 ·intro a ha
  have hlt := (List.getElem?_eq_some_iff.1 ha).1
  have h1 : n < 1 := hlt;unfold P_r4_All_L3;dsimp only;rw [if_pos (by omega), el_eq ho, el_eq ha, chk_pos (by simp; omega), chk_pos (by simp; omega), chk_pos (by simp; omega), chk_pos (i64_small (by omega))];rfl
 ·intro hnone
  have := List.getElem?_eq_none_iff.1 hnone;unfold P_r4_All_L3;dsimp only;rw [if_neg (by omega)]
theorem row5 {l9 : List (List Int)} {it : Item} {k : Nat} {o : List Int} (ho : l9[k]? = some o) (hl : o.length ≤ 1000000) (hc : it.could.l.length ≤ 4) (n : Nat) (next : List (List Int)) (hn : next.length ≤ 1000000) :
  (∀ a, it.could.l[n]? = some a → P_r4_All_L5 l9 it k (n, next) = some (.ag ((n : Int) + 1, next ++ [o ++ [a]]))) ∧ (it.could.l[n]? = none → P_r4_All_L5 l9 it k (n, next) = some (.dn next)) := by
 constructor
 ·intro a ha
  have hlt := (List.getElem?_eq_some_iff.1 ha).1;unfold P_r4_All_L5;dsimp only;rw [if_pos (by omega), el_eq ho, el_eq ha, chk_pos (by simp; omega), chk_pos (by simp; omega), chk_pos (by simp; omega), chk_pos (i64_small (by omega))];rfl
 ·intro hnone
  have := List.getElem?_eq_none_iff.1 hnone;unfold P_r4_All_L5;dsimp only;rw [if_neg (by omega)]
theorem lvl2 {l9 : List (List Int)} (hl : l9.length ≤ 64) (ho : ∀ o ∈ l9, o.length ≤ 1000000) : iter (P_r4_All_L2 l9) (0, []) = some (l9.flatMap fun o => [(-1 : Int)].map fun c => o ++ [c]) := by
 refine all_rows (fun k next hn => ⟨fun o hk => ?_, fun hk => ?_⟩) (by simp; omega)
 ·have hlt := (List.getElem?_eq_some_iff.1 hk).1;unfold P_r4_All_L2;dsimp only;rw [if_pos (by omega), one_row (row3 hk (ho o (List.mem_of_getElem? hk))) hn];simp only [andx];rw [chk_pos (i64_small (by omega))]
 ·have := List.getElem?_eq_none_iff.1 hk;unfold P_r4_All_L2;dsimp only;rw [if_neg (by omega)]
theorem lvl4 {l9 : List (List Int)} {it : Item} (hl : l9.length ≤ 64) (ho : ∀ o ∈ l9, o.length ≤ 1000000) (hc : it.could.l.length ≤ 4) : iter (P_r4_All_L4 l9 it) (0, []) = some (l9.flatMap fun o => it.could.l.map fun c => o ++ [c]) := by
 have h65 : (l9.length + 1) * it.could.l.length ≤ 1000000 := Nat.le_trans (Nat.mul_le_mul (show l9.length + 1 ≤ 65 by omega) hc) (by decide);refine all_rows (fun k next hn => ⟨fun o hk => ?_, fun hk => ?_⟩) h65
 ·have hlt := (List.getElem?_eq_some_iff.1 hk).1;unfold P_r4_All_L4;dsimp only;rw [if_pos (by omega), one_row (row5 hk (ho o (List.mem_of_getElem? hk)) hc) hn];simp only [andx];rw [chk_pos (i64_small (by omega))]
 ·have := List.getElem?_eq_none_iff.1 hk;unfold P_r4_All_L4;dsimp only;rw [if_neg (by omega)]
theorem All_ok {s : Int} {g : List Gat} {its : List Item} (h : GoodCase s g its) : ∃ z, P_r4_All s g its = some (truthsOf its, z) := by
 have : Ok (iter (P_r4_All_L1 its) (0, [([] : List Int)], false)) fun r => r.1 = truthsOf its := by
  refine Ok.count (σ := Int × List (List Int) × Bool) Prod.fst its.length (fun k x => x.2.1 = lev [[]] (its.take k)) rfl (by simp [lev]) ?_ ?_
  ·rintro k ⟨i, l9, z⟩ hk hi hx;simp only at hi hx;subst hi hx
   have e := List.getElem?_eq_getElem hk
   have hm : its[k] ∈ its := List.getElem_mem hk
   have hL : (lev [[]] (its.take k)).length ≤ 64 := by rw [lev_len]; exact (h.take k).wid
   have hO : ∀ o ∈ lev [[]] (its.take k), o.length ≤ 1000000 := by
    intro o ho
    have h1 := lev_each ho
    have h2 : (its.take k).length ≤ 120 := (h.take k).il;omega
   unfold P_r4_All_L1;refine .ifp (by omega) ?_;rw [el_eq e]
   have hs : lev [[]] (its.take (k + 1)) = (lev [[]] (its.take k)).flatMap fun o => (chs its[k]).map fun c => o ++ [c] := by rw [take_snoc e, lev_snoc]
   refine Ok.andx' (a := lev [[]] (its.take (k + 1))) ?_ ?_
   ·by_cases hc : its[k].could.l = []
    ·rw [if_pos (by simp [hc]), lvl2 hL hO, hs];simp [andx, chs, hc]
    ·have : its[k].could.l.length ≠ 0 := fun e => hc (List.eq_nil_of_length_eq_zero e)
     rw [if_neg (by omega), lvl4 hL hO (h.few _ hm), hs];simp [andx, chs, hc]
   ·exact .chk (i64_small (by have := h.il; omega)) (.some ⟨rfl, rfl⟩)
  ·rintro ⟨i, l9, z⟩ hi hx;simp only at hi hx;subst hi hx;unfold P_r4_All_L1;refine .ifn (by omega) (.some ?_)
   show lev [[]] (its.take its.length) = _;rw [List.take_length, truths_lev]
 obtain ⟨⟨l, z⟩, h1, h2⟩ := this;refine ⟨z, ?_⟩;unfold P_r4_All;rw [h1];simp only [andx];rw [← h2]
theorem Mates_ok {s : Int} {g : List Gat} (h0 : (bookErr (bk s g)).2.2 = 0) (hl : (lvs s g).length ≤ 120) : P_r4_Mates s g = some (matesOf s g) := by
 have hf := book_fits h0;unfold P_r4_Mates P_r1_All;rw [chk_pos hf]
 show andx _ _ = _;simp only [andx]
 have : iter (P_r4_Mates_L1 s g (leavesOf (bk s g))) (0, []) = some (matesOf s g) := by
  refine Ok.get (Ok.count (σ := Int × List Int) Prod.fst (lvs s g).length (fun k x => x.2 = matesTo s g k) rfl rfl ?_ ?_)
  ·rintro k ⟨i, l⟩ hk hi hx;simp only at hi hx;subst hi hx;unfold P_r4_Mates_L1;refine .ifp (by unfold lvs at hk; omega) ?_;unfold P_r1_Pair;rw [chk_pos ⟨hf, by omega, by unfold lvs at hk; simpa using hk⟩];simp only [andx, Int.toNat_natCast];refine .chk (by rw [matesTo_len]; simp; omega) (.chk (i64_small (by omega)) (.some ⟨rfl, (matesTo_succ s g k).symm⟩))
  ·rintro ⟨i, l⟩ hi hx;simp only at hi hx;subst hi hx;unfold P_r4_Mates_L1;exact .ifn (by unfold lvs; omega) (.some rfl)
 rw [this]
end Go.Am
end
section
namespace Go.Am
set_option linter.unusedVariables false
structure GoodBook (s : Int) (g : List Gat) : Prop where
 b0 : (bookErr (bk s g)).2.2 = 0
 nl : (lvs s g).length ≤ 120
theorem GoodCase.book {s : Int} {g : List Gat} {its : List Item} (h : GoodCase s g its) : GoodBook s g := ⟨h.b0, h.nl⟩
theorem All1_ok {s : Int} {g : List Gat} (h : GoodBook s g) : P_r1_All s g = some (lvs s g) := by unfold P_r1_All; rw [chk_pos (book_fits h.b0)]; rfl
theorem has_ok {l : List Int} {n : Int} (h : l.length ≤ 1000000) : P_r1_Has l n = some (decide (n ∈ l)) := by unfold P_r1_Has; rw [chk_pos (by omega)]
theorem Gone_ok {s : Int} {g : List Gat} {t : List Int} (h : GoodBook s g) (ht : t.length ≤ 1000000) : P_r4_Gone s g t = some (lostOf (lvs s g).length t) := by
 refine Ok.get ?_;unfold P_r4_Gone;refine .andx' (All1_ok h) ?_
 have hl := h.nl;refine Ok.andx (P := fun l => l = lostOf (lvs s g).length t) (Ok.count Prod.fst (lvs s g).length (fun k s => s.2 = lostOf k t) rfl rfl ?_ ?_) fun _ h => .some h
 ·rintro k ⟨x, l⟩ hk hx hl';simp only at hx hl';subst hx hl'
  have hlen := lostOf_len k t;unfold P_r4_Gone_L1;refine .ifp (by omega) (Ok.andx (P := fun l => l = lostOf (k + 1) t) ?_ ?_)
  ·refine .andx' (has_ok ht) ?_;refine .ite (fun hc => ?_) (fun hc => ?_)
   ·refine .some ?_
    show _ = _;rw [lostOf_succ, if_neg (fun h => h (of_decide_eq_true hc))]
   ·refine .chk (by simp; omega) (.some ?_)
    show _ = _;rw [lostOf_succ, if_pos (fun h => hc (decide_eq_true h))]
  ·rintro l' rfl;exact .chk (i64_small (by omega)) (.some ⟨rfl, rfl⟩)
 ·rintro ⟨x, l⟩ hx hl';simp only at hx hl';unfold P_r4_Gone_L1;exact .ifn (by omega) (.some hl')
theorem mates_len (s : Int) (g : List Gat) : (matesOf s g).length = (lvs s g).length := matesTo_len _ _ _
theorem Pieces_ok {s : Int} {g : List Gat} {gone : List Int} (h : GoodBook s g) (hr : ∀ x ∈ gone, 0 ≤ x ∧ x < (lvs s g).length) (hl : gone.length ≤ 1000000) : P_r4_Pieces s g gone = some (piecesOf (matesOf s g) gone) := by
 refine Ok.get ?_;unfold P_r4_Pieces;refine .andx' (Mates_ok h.b0 h.nl) ?_
 have hml := mates_len s g;generalize matesOf s g = mt at *;refine Ok.andx (P := fun l => l = piecesOf mt gone) (Ok.count (fun s => s.2) gone.length (fun k (s : Int × Int) => s.1 = (((gone.take k).countP (isPiece mt gone) : Nat) : Int)) rfl rfl ?_ ?_) fun _ h => .some h
 ·rintro k ⟨n, x⟩ hk hx hn;simp only at hx hn;subst hx hn
  have hcl := List.countP_le_length (p := isPiece mt gone) (l := gone.take k)
  have htl : (gone.take k).length ≤ 1000000 := by rw [List.length_take]; omega
  unfold P_r4_Pieces_L1;refine .ifp (by omega) (Ok.andx (P := fun l => l = (((gone.take (k + 1)).countP (isPiece mt gone) : Nat) : Int)) ?_ ?_)
  ·refine .el (by omega) fun a ha => ?_
   have ha := get_of ha rfl
   have har := hr a (List.mem_of_getElem? ha);refine .el (by rw [hml]; exact har) fun b hb => ?_
   have hmf : mateF mt a = b := by unfold mateF; rw [hb]
   have hcp : (gone.take (k + 1)).countP (isPiece mt gone) = (gone.take k).countP (isPiece mt gone) + (if isPiece mt gone a = true then 1 else 0) := by
    rw [take_snoc ha, List.countP_append, List.countP_singleton]
   refine Ok.andx (P := fun c : Bool => c = true ↔ isPiece mt gone a = true) ?_ ?_
   ·unfold isPiece;rw [hmf, decide_eq_true_iff];refine .ite (fun h => .some ?_) (fun h => ?_)
    ·simp only [true_iff]; exact .inl h
    ·refine .el (by omega) fun a' ha' => ?_
     have ha' := get_of ha' rfl;rw [ha] at ha';cases ha';refine .ite (fun h2 => .some ?_) (fun h2 => ?_)
     ·simp only [true_iff]; exact .inr (.inl h2)
     ·refine .andx' (has_ok hl) (.some ?_);simp only [Bool.not_eq_true', decide_eq_false_iff_not];exact ⟨fun h3 => .inr (.inr h3), fun h3 => h3.elim (fun h3 => absurd h3 h) fun h3 => h3.elim (fun h3 => absurd h3 h2) fun h3 => h3⟩
   ·rintro c hcc;refine .ite (fun h => ?_) (fun h => ?_)
    ·refine .chk (i64_small (by omega)) (.some ?_);rw [hcp, if_pos (hcc.1 h)];rfl
    ·refine .some ?_;rw [hcp, if_neg (fun e => h (hcc.2 e))];rfl
  ·rintro c rfl;exact .chk (i64_small (by omega)) (.some ⟨rfl, rfl⟩)
 ·rintro ⟨n, x⟩ hx hn;simp only at hx hn;unfold P_r4_Pieces_L1;refine .ifn (by omega) (.some ?_)
  show n = _;rw [hn, List.take_length]; rfl
def plainOf (t : List Int) : List Int := idxTo (isPlain t) t t.length
theorem Plain_ok {t : List Int} (ht : t.length ≤ 1000000) : P_r4_Plain t = some (plainOf t) := by
 refine Ok.get ?_;unfold P_r4_Plain;refine Ok.andx (P := fun l => l = plainOf t) (Ok.count Prod.fst t.length (fun k s => s.2 = idxTo (isPlain t) t k) rfl rfl ?_ ?_) fun _ h => .some h
 ·rintro k ⟨x, l⟩ hk hx hl';simp only at hx hl';subst hx hl'
  have hlen := idxTo_len (isPlain t) t k;unfold P_r4_Plain_L1;refine .ifp (by omega) (Ok.andx (P := fun l => l = idxTo (isPlain t) t (k + 1)) ?_ ?_)
  ·have hn : t[k]? = some t[k] := List.getElem?_eq_getElem hk;generalize t[k] = n at hn;rw [idxTo_succ hn];refine Ok.andx (P := fun b : Bool => b = isPlain t k n) ?_ ?_
   ·refine .el (by omega) fun a ha => ?_
    have ha := get_of ha rfl;rw [hn] at ha;cases ha;refine .ite (fun h0 => ?_) (fun h0 => ?_)
    ·refine .chk (by omega) (.el (by omega) fun a ha => ?_)
     have ha := get_of ha rfl;rw [hn] at ha;cases ha
     have e : (List.take ((k : Int) - 0).toNat (List.drop (0 : Int).toNat t)) = t.take k := by rw [show ((k : Int) - 0).toNat = k by omega]; rfl
     rw [e];refine .andx' (has_ok (by rw [List.length_take]; omega)) (.some ?_)
     show (!decide (n ∈ t.take k)) = decide (0 ≤ n ∧ n ∉ t.take k)
     by_cases hm : n ∈ t.take k <;> simp [hm]
     omega
    ·exact .some (decide_eq_false (fun h => h0 h.1)).symm
   ·rintro b rfl;refine .ite (fun h => ?_) (fun h => ?_)
    ·exact .chk (by simp; omega) (.some (by simp only [h, if_true]))
    ·exact .some (by simp only [h]; rfl)
  ·rintro l' rfl;exact .chk (i64_small (by omega)) (.some ⟨rfl, rfl⟩)
 ·rintro ⟨x, l⟩ hx hl';simp only at hx hl';unfold P_r4_Plain_L1;exact .ifn (by omega) (.some hl')
theorem mem_idxTo {p : Nat → Int → Bool} {t : List Int} {i : Nat} {n : Int} (hn : t[i]? = some n) : ∀ k, (i : Int) ∈ idxTo p t k ↔ i < k ∧ p i n = true := by
 intro k
 induction k with
 | zero => simp [idxTo]
 | succ k ih =>
  rw [idxTo, List.mem_append, ih]
  constructor
  ·rintro (⟨h1, h2⟩ | h)
   ·exact ⟨by omega, h2⟩
   ·split at h
    ·rename_i m hm
     split at h
     ·rename_i hp
      rw [List.mem_singleton] at h
      have : i = k := by omega
      subst this;rw [hn] at hm;cases hm;exact ⟨by omega, hp⟩
     ·cases h
    ·cases h
  ·rintro ⟨h1, h2⟩
   by_cases e : i = k
   ·subst e;rw [hn];simp only [h2, if_true];exact .inr (List.mem_singleton_self _)
   ·exact .inl ⟨by omega, h2⟩
theorem idxTo_nat {p : Nat → Int → Bool} {t : List Int} : ∀ k, ∀ x ∈ idxTo p t k, ∃ i : Nat, x = i ∧ i < k ∧ ∃ n, t[i]? = some n ∧ p i n = true := by
 intro k
 induction k with
 | zero => intro x h; cases h
 | succ k ih =>
  intro x h;rw [idxTo, List.mem_append] at h
  rcases h with h | h
  ·obtain ⟨i, h1, h2, h3⟩ := ih x h;exact ⟨i, h1, by omega, h3⟩
  ·split at h
   ·rename_i m hm
    split at h
    ·rename_i hp
     rw [List.mem_singleton] at h;exact ⟨k, h, by omega, m, hm, hp⟩
    ·cases h
   ·cases h
def tAt (t : List Int) (i : Int) : Int := match t[i.toNat]? with | some n => n | none => 0
def runsL (g : Int → Int) (t : List Int) (l : List Int) : List S_copy_run := l.foldl (fun l i => rnStep g l i (tAt t i)) []
theorem runsTo_L (g : Int → Int) (t : List Int) : ∀ k, runsTo g t k = runsL g t (idxTo (isPlain t) t k) := by
 intro k
 induction k with
 | zero => rfl
 | succ k ih =>
  rw [runsTo, idxTo];cases h : t[k]? with
  | none => simp only [List.append_nil]; exact ih
  | some n =>
   simp only;split
   ·rw [runsL, List.foldl_append, List.foldl_cons, List.foldl_nil]
    have e : tAt t k = n := by unfold tAt; rw [Int.toNat_natCast, h]
    rw [e, ih];rfl
   ·rw [List.append_nil]; exact ih
theorem rnStep_pos (g : Int → Int) (l : List S_copy_run) (i n : Int) : 1 ≤ (rnStep g l i n).length := by
 unfold rnStep;split
 ·rename_i r hr
  have := (List.getElem?_eq_some_iff.1 hr).1;split <;> simp <;> omega
 ·simp
theorem runsL_pos {g : Int → Int} {t : List Int} {l : List Int} (h : l ≠ []) : 1 ≤ (runsL g t l).length := by
 obtain ⟨a, b, rfl⟩ : ∃ a b, l = a ++ [b] := ⟨l.dropLast, l.getLast h, (List.dropLast_concat_getLast h).symm⟩;rw [runsL, List.foldl_append];exact rnStep_pos _ _ _ _
theorem runsL_ok {g : Int → Int} {t : List Int} {N : Nat} : ∀ (l : List Int), (∀ i ∈ l, 0 ≤ tAt t i ∧ tAt t i < N) → (∀ r ∈ runsL g t l, RunOk N r) ∧ (runsL g t l).length ≤ l.length := by
 intro l
 suffices h : ∀ (l : List Int) (acc : List S_copy_run), (∀ i ∈ l, 0 ≤ tAt t i ∧ tAt t i < N) → (∀ r ∈ acc, RunOk N r) → (∀ r ∈ l.foldl (fun l i => rnStep g l i (tAt t i)) acc, RunOk N r) ∧ (l.foldl (fun l i => rnStep g l i (tAt t i)) acc).length ≤ acc.length + l.length by
  intro hl
  have := h l [] hl (by simp);exact ⟨this.1, Nat.le_trans this.2 (by simp)⟩
 intro l
 induction l with
 | nil => intro acc _ h; exact ⟨h, Nat.le_refl _⟩
 | cons i l ih =>
  intro acc h1 h2
  have h3 := ih (rnStep g acc i (tAt t i)) (fun j hj => h1 j (List.mem_cons_of_mem _ hj)) (rnStep_ok h2 (h1 i List.mem_cons_self));refine ⟨h3.1, ?_⟩
  have := rnStep_len (g := g) (l := acc) (i := i) (n := tAt t i);rw [List.foldl_cons, List.length_cons];omega
def toC (r : S_duodecimoref04_Run) : S_copy_run := ⟨r.item, r.first, r.last⟩
theorem Runs_ok {s : Int} {g : List Gat} {t : List Int} (h : GoodBook s g) (ht : t.length ≤ 120) (hin : TruthIn (lvs s g).length t) :
    ∃ rs, P_r4_Runs s g t = some rs ∧ rs.map toC = runsOf (gathOf (lvs s g)) t := by
  suffices k : Ok (P_r4_Runs s g t) (fun rs => rs.map toC = runsOf (gathOf (lvs s g)) t) from k
  unfold P_r4_Runs
  refine .andx' (All1_ok h) (.andx' (Plain_ok (by omega)) ?_)
  generalize hlv : lvs s g = lv at *
  have hpl : (plainOf t).length ≤ t.length := idxTo_len _ _ _
  have hpn : ∀ i ∈ plainOf t, ∃ j : Nat, i = j ∧ j < t.length ∧ ∃ n, t[j]? = some n ∧ isPlain t j n = true := idxTo_nat t.length
  have hat : ∀ i ∈ plainOf t, 0 ≤ tAt t i ∧ tAt t i < lv.length := fun i hi => by
    obtain ⟨j, rfl, hj, n, hn, hp⟩ := hpn i hi
    have e : tAt t j = n := by unfold tAt; rw [Int.toNat_natCast, hn]
    rw [e]
    exact ⟨(of_decide_eq_true hp).1, hin n (List.mem_of_getElem? hn)⟩
  unfold runsOf
  rw [runsTo_L]
  show Ok _ (fun rs : List S_duodecimoref04_Run => rs.map toC = runsL (gathOf lv) t (plainOf t))
  refine Ok.andx (P := fun rs : List S_duodecimoref04_Run => rs.map toC = runsL (gathOf lv) t (plainOf t)) (Ok.count Prod.fst (plainOf t).length (fun k s => s.2.map toC = runsL (gathOf lv) t ((plainOf t).take k)) rfl rfl ?_ ?_) fun _ h => .some h
  · rintro k ⟨x, out⟩ hk hx ho
    simp only at hx ho
    subst hx
    have hi : (plainOf t)[k]? = some (plainOf t)[k] := List.getElem?_eq_getElem hk
    generalize (plainOf t)[k] = i at hi
    have him := List.mem_of_getElem? hi
    obtain ⟨j, rfl, hj, n, hn, hp⟩ := hpn i him
    have e : tAt t j = n := by unfold tAt; rw [Int.toNat_natCast, hn]
    have hnr := hat j him
    rw [e] at hnr
    have hro := runsL_ok (g := gathOf lv) (t := t) (N := lv.length) ((plainOf t).take k) fun i hi => hat i (List.mem_of_mem_take hi)
    rw [← ho, List.length_map, List.length_take] at hro
    have hstep : runsL (gathOf lv) t ((plainOf t).take (k + 1)) = rnStep (gathOf lv) (out.map toC) j n := by
      rw [take_snoc hi, runsL, List.foldl_append, List.foldl_cons, List.foldl_nil, e, ho]
      rfl
    have hget : ∀ r, out[out.length - 1]? = some r → (out.map toC)[(out.map toC).length - 1]? = some (toC r) := fun r hr => by rw [List.length_map, List.getElem?_map, hr]; rfl
    unfold P_r4_Runs_L1
    refine .ifp (by omega) (Ok.andx (P := fun o : List S_duodecimoref04_Run => o.map toC = runsL (gathOf lv) t ((plainOf t).take (k + 1))) ?_ ?_)
    · rw [hstep]
      refine .el (by omega) fun a ha => ?_
      have ha := get_of ha rfl
      rw [hi] at ha
      cases ha
      refine .el (by omega) fun b hb => ?_
      have hb := get_of hb rfl
      rw [hn] at hb
      cases hb
      refine Ok.seqx ?_
      have happ : rnStep (gathOf lv) (out.map toC) j n = (out.map toC) ++ [⟨j, n, n⟩] → OkX (fun x : Unit => el (plainOf t) (k : Int) fun a63 => chk (out.length + [(⟨a63, n, n⟩ : S_duodecimoref04_Run)].length < 1000000000) (some (out ++ [(⟨a63, n, n⟩ : S_duodecimoref04_Run)]))) (fun o => o.map toC = rnStep (gathOf lv) (out.map toC) j n) (Ex.nx ()) := fun e => by
        show Ok _ _
        refine .el (by omega) fun a ha => ?_
        have ha := get_of ha rfl
        rw [hi] at ha
        cases ha
        refine .chk (by simp; omega) (.some ?_)
        rw [e, List.map_append]
        rfl
      refine .ite (fun hk0 => ?_) (fun hk0 => ?_)
      · have hpos : 1 ≤ out.length := by
          have := runsL_pos (g := gathOf lv) (t := t) (l := (plainOf t).take k) (fun e => by
            have := congrArg List.length e
            rw [List.length_take, List.length_nil] at this
            omega)
          rw [← ho, List.length_map] at this
          exact this
        refine .chk (i64_small (by omega)) (.el (by omega) fun r hr => ?_)
        have hr : out[out.length - 1]? = some r := get_of hr (by omega)
        have hr2 := hget r hr
        have hrk := hro.1 (toC r) (List.mem_map_of_mem (List.mem_of_getElem? hr))
        refine Ok.andx (P := fun b : Bool => b = true ↔ (r.last < n ∧ gathOf lv r.last = gathOf lv n)) ?_ ?_
        · refine .el ⟨hrk.2.2.1, hrk.2.2.2⟩ fun a ha => .el hnr fun b hb => ?_
          have ga : gathOf lv r.last = a.g := by unfold gathOf; rw [show lv[r.last.toNat]? = some a from ha]
          have gb : gathOf lv n = b.g := by unfold gathOf; rw [hb]
          rw [ga, gb]
          refine .ite (fun hc => .some ?_) (fun hc => .some ?_)
          · rw [decide_eq_true_iff]; exact ⟨fun h => ⟨h, hc⟩, fun h => h.1⟩
          · simp [hc]
        · rintro b hb
          refine .ite (fun hc => ?_) (fun hc => ?_)
          · refine .chk (i64_small (by omega)) (.el (by omega) fun r' hr' => ?_)
            have hr' : out[out.length - 1]? = some r' := get_of hr' (by omega)
            rw [hr] at hr'
            cases hr'
            refine .some ?_
            show List.map toC _ = _
            unfold rnStep
            rw [hr2]
            simp only
            rw [if_pos (show (toC r).last < n ∧ gathOf lv (toC r).last = gathOf lv n from hb.1 hc), List.map_set, show ((out.length : Int) - 1).toNat = out.length - 1 by omega, List.length_map]
            rfl
          · refine .some (happ ?_)
            unfold rnStep
            rw [hr2]
            simp only
            rw [if_neg (show ¬ ((toC r).last < n ∧ gathOf lv (toC r).last = gathOf lv n) from fun h => hc (hb.2 h))]
      · refine .some (happ ?_)
        have : k = 0 := by omega
        subst this
        rw [List.take_zero] at ho
        rw [ho]
        rfl
    · rintro o ho'
      exact .chk (i64_small (by omega)) (.some ⟨rfl, ho'⟩)
  · rintro ⟨x, out⟩ hx ho
    simp only at hx ho
    unfold P_r4_Runs_L1
    refine .ifn (by omega) (.some ?_)
    show out.map toC = _
    rw [ho, List.take_length]
end Go.Am
end
section
namespace Go.Am
set_option linter.unusedVariables false
def f2step (last k : Int) (p : S_copy_run × Int) (s : Int × Int) : Int × Int := if p.1.first > last ∧ p.2 + 1 > s.1 then (p.2 + 1, k) else s
def follow2 (last : Int) : List (S_copy_run × Int) → Int → Int × Int → Int × Int
 | [], _, s => s
 | p :: ps, k, s => follow2 last ps (k + 1) (f2step last k p s)
theorem follow2_snoc {last : Int} {p : S_copy_run × Int} : ∀ (ps : List (S_copy_run × Int)) (k : Int) (s : Int × Int), follow2 last (ps ++ [p]) k s = f2step last (k + ps.length) p (follow2 last ps k s) := by
 intro ps
 induction ps with
 | nil => intro k s; simp [follow2]
 | cons q ps ih =>
  intro k s;rw [List.cons_append, follow2, ih, follow2, List.length_cons]
  congr 1
  omega
def keptFrom : List (S_copy_run × Int) → Int → Int → Int → List Int
 | [], _, _, _ => []
 | p :: ps, k, b, last => if p.2 = b ∧ p.1.first > last then k :: keptFrom ps (k + 1) (b - 1) p.1.last else keptFrom ps (k + 1) b last
theorem keptFrom_zero : ∀ (ps : List (S_copy_run × Int)) (k last : Int), (∀ p ∈ ps, 1 ≤ p.2) → keptFrom ps k 0 last = [] := by
 intro ps
 induction ps with
 | nil => intro k last _; rfl
 | cons p ps ih =>
  intro k last h
  have := h p List.mem_cons_self;rw [keptFrom, if_neg (by omega)];exact ih _ _ fun q hq => h q (List.mem_cons_of_mem _ hq)
theorem follow_cons (last : Int) (p : S_copy_run × Int) (ps : List (S_copy_run × Int)) (a : Int) : follow last (p :: ps) a = follow last ps (if p.1.first > last then max a p.2 else a) := rfl
theorem follow_ge (last : Int) : ∀ (ps : List (S_copy_run × Int)) (a : Int), a ≤ follow last ps a := by
 intro ps
 induction ps with
 | nil => intro a; exact Int.le_refl _
 | cons p ps ih =>
  intro a;rw [follow_cons]
  have := ih (if p.1.first > last then max a p.2 else a);split at this <;> rename_i h
  ·rw [if_pos h]; omega
  ·rw [if_neg h]; exact this
theorem first_best (last : Int) : ∀ (ps : List (S_copy_run × Int)) (k a x : Int),
  (follow2 last ps k (a + 1, x)).1 = follow last ps a + 1 ∧ (follow last ps a = a → (follow2 last ps k (a + 1, x)).2 = x) ∧
  (follow last ps a > a → ∃ (j : Nat) (p : S_copy_run × Int), ps[j]? = some p ∧ (follow2 last ps k (a + 1, x)).2 = k + j ∧ p.2 = follow last ps a ∧ keptFrom ps k (follow last ps a) last = (k + j) :: keptFrom (ps.drop (j + 1)) (k + j + 1) (follow last ps a - 1) p.1.last) := by
 intro ps
 induction ps with
 | nil => intro k a x; exact ⟨rfl, fun _ => rfl, fun h => by simp [follow] at h⟩
 | cons p ps ih =>
  intro k a x;rw [follow_cons, follow2]
  by_cases hc : p.1.first > last ∧ p.2 > a
  ·have e1 : f2step last k p (a + 1, x) = (p.2 + 1, k) := by unfold f2step; rw [if_pos ⟨hc.1, by simp only; omega⟩]
   have e2 : (if p.1.first > last then max a p.2 else a) = p.2 := by rw [if_pos hc.1]; omega
   rw [e1, e2];obtain ⟨i1, i2, i3⟩ := ih (k + 1) p.2 k
   have hge := follow_ge last ps p.2;refine ⟨i1, fun h => by omega, fun _ => ?_⟩
   by_cases hF : follow last ps p.2 = p.2
   ·refine ⟨0, p, rfl, by rw [i2 hF]; simp, hF.symm, ?_⟩;rw [hF, keptFrom, if_pos ⟨rfl, hc.1⟩];simp
   ·obtain ⟨j, q, h1, h2, h3, h4⟩ := i3 (by omega);refine ⟨j + 1, q, h1, by rw [h2]; omega, h3, ?_⟩;rw [keptFrom, if_neg (by omega), h4, List.drop_succ_cons];rw [show k + 1 + (j : Int) = k + ((j + 1 : Nat) : Int) by omega]
  ·have e1 : f2step last k p (a + 1, x) = (a + 1, x) := by unfold f2step; rw [if_neg (fun h => hc ⟨h.1, by have := h.2; simp only at this; omega⟩)]
   have e2 : (if p.1.first > last then max a p.2 else a) = a := by
    split
    ·rename_i h; have : ¬ p.2 > a := fun h2 => hc ⟨h, h2⟩; omega
    ·rfl
   rw [e1, e2];obtain ⟨i1, i2, i3⟩ := ih (k + 1) a x;refine ⟨i1, i2, fun hF => ?_⟩;obtain ⟨j, q, h1, h2, h3, h4⟩ := i3 hF;refine ⟨j + 1, q, h1, by rw [h2]; omega, h3, ?_⟩;rw [keptFrom, if_neg (fun h => hc ⟨h.2, by omega⟩), h4, List.drop_succ_cons];rw [show k + 1 + (j : Int) = k + ((j + 1 : Nat) : Int) by omega]
theorem chains_drop : ∀ (l : List S_copy_run) (i : Nat), chains (l.drop i) = (chains l).drop i := by
 intro l
 induction l with
 | nil => intro i; simp [chains]
 | cons r l ih =>
  intro i;cases i with
  | zero => rfl
  | succ i => rw [List.drop_succ_cons, chains, List.drop_succ_cons]; exact ih i
def nextsFrom : Int → List S_copy_run → List Int
 | _, [] => []
 | k, r :: l => (follow2 r.last (l.zip (chains l)) (k + 1) (1, -1)).2 :: nextsFrom (k + 1) l
theorem nextsFrom_len : ∀ (l : List S_copy_run) (k : Int), (nextsFrom k l).length = l.length := by
 intro l
 induction l with
 | nil => intro k; rfl
 | cons r l ih => intro k; simp [nextsFrom, ih]
theorem nextsFrom_drop : ∀ (l : List S_copy_run) (k : Int) (i : Nat), nextsFrom (k + i) (l.drop i) = (nextsFrom k l).drop i := by
 intro l
 induction l with
 | nil => intro k i; simp [nextsFrom]
 | cons r l ih =>
  intro k i;cases i with
  | zero => simp
  | succ i =>
   rw [List.drop_succ_cons, nextsFrom, List.drop_succ_cons, ← ih (k + 1) i]
   congr 1
   omega
def behind (l : List S_copy_run) (i : Nat) : List (S_copy_run × Int) := (l.drop (i + 1)).zip (chains (l.drop (i + 1)))
theorem behind_len {l : List S_copy_run} {i : Nat} : (behind l i).length = l.length - (i + 1) := by unfold behind; rw [List.length_zip, chains_len, List.length_drop]; omega
theorem behind_get {l : List S_copy_run} {i m : Nat} {r : S_copy_run} (h : l[i + 1 + m]? = some r) : ∃ c, (chains l)[i + 1 + m]? = some c ∧ (behind l i)[m]? = some (r, c) := by
 have hlt := (List.getElem?_eq_some_iff.1 h).1
 have hc : (chains l)[i + 1 + m]? = some ((chains l)[i + 1 + m]'(by rw [chains_len]; exact hlt)) := List.getElem?_eq_getElem _;refine ⟨_, hc, ?_⟩;unfold behind;rw [List.getElem?_zip_eq_some, List.getElem?_drop, chains_drop, List.getElem?_drop];exact ⟨h, hc⟩
theorem chains_at {l : List S_copy_run} {i : Nat} {r : S_copy_run} (h : l[i]? = some r) : (chains l)[i]? = some (follow r.last (behind l i) 0 + 1) := by
 have e := chains_drop l i;rw [drop_cons h, chains] at e
 have := congrArg (·[0]?) e;simp only [List.getElem?_drop, Nat.add_zero, List.getElem?_cons_zero] at this;rw [← this]; rfl
theorem nexts_at {l : List S_copy_run} {i : Nat} {r : S_copy_run} (h : l[i]? = some r) : (nextsFrom 0 l)[i]? = some (follow2 r.last (behind l i) ((i : Int) + 1) (1, -1)).2 := by
 have e := nextsFrom_drop l 0 i;rw [drop_cons h, nextsFrom] at e
 have := congrArg (·[0]?) e;simp only [List.getElem?_drop, Nat.add_zero, List.getElem?_cons_zero] at this;rw [← this, Int.zero_add]; rfl
theorem behind_pos {l : List S_copy_run} {i : Nat} : ∀ p ∈ behind l i, 1 ≤ p.2 := fun p hp => (chains_bounds _ p.2 (List.of_mem_zip hp).2).1
theorem zip_drop {α β : Type} : ∀ (k : Nat) (l : List α) (m : List β), (l.zip m).drop k = (l.drop k).zip (m.drop k) := by
 intro k
 induction k with
 | zero => intro l m; rfl
 | succ k ih =>
  intro l m;cases l with
  | nil => simp
  | cons a l => cases m with
   | nil => simp
   | cons b m => exact ih l m
theorem behind_drop {l : List S_copy_run} {i j : Nat} : (behind l i).drop (j + 1) = behind l (i + 1 + j) := by
 unfold behind;rw [zip_drop, List.drop_drop, ← chains_drop, List.drop_drop, show i + 1 + (j + 1) = i + 1 + j + 1 by omega]
def rowM (l : List S_copy_run) (i : Nat) : List Int := List.replicate i 0 ++ chains (l.drop i)
def rowN (l : List S_copy_run) (i : Nat) : List Int := List.replicate i 0 ++ nextsFrom i (l.drop i)
theorem rowM_len {l : List S_copy_run} {i : Nat} (hi : i ≤ l.length) : (rowM l i).length = l.length := by
 unfold rowM; rw [List.length_append, List.length_replicate, chains_len, List.length_drop]; omega
theorem rowN_len {l : List S_copy_run} {i : Nat} (hi : i ≤ l.length) : (rowN l i).length = l.length := by
 unfold rowN; rw [List.length_append, List.length_replicate, nextsFrom_len, List.length_drop]; omega
theorem rowM_get {l : List S_copy_run} {i k : Nat} (hk : i ≤ k) : (rowM l i)[k]? = (chains l)[k]? := by
 unfold rowM;rw [List.getElem?_append_right (by rw [List.length_replicate]; exact hk), List.length_replicate, chains_drop, List.getElem?_drop, show i + (k - i) = k by omega]
theorem rowM_step {l : List S_copy_run} {i : Nat} {r : S_copy_run} (hr : l[i]? = some r) : (rowM l (i + 1)).set i (follow r.last (behind l i) 0 + 1) = rowM l i := by
 have e : List.replicate (i + 1) (0 : Int) = List.replicate i 0 ++ [0] := List.replicate_succ';unfold rowM;rw [e, List.append_assoc, List.set_append_right _ _ (by rw [List.length_replicate]; omega), List.length_replicate, Nat.sub_self, drop_cons hr, chains];rfl
theorem rowN_step {l : List S_copy_run} {i : Nat} {r : S_copy_run} (hr : l[i]? = some r) : (rowN l (i + 1)).set i (follow2 r.last (behind l i) ((i : Int) + 1) (1, -1)).2 = rowN l i := by
 have e : List.replicate (i + 1) (0 : Int) = List.replicate i 0 ++ [0] := List.replicate_succ';unfold rowN;rw [e, List.append_assoc, List.set_append_right _ _ (by rw [List.length_replicate]; omega), List.length_replicate, Nat.sub_self, drop_cons hr, nextsFrom];rfl
theorem kinner_ok {rs : List S_duodecimoref04_Run} {l : List S_copy_run} (hl : l = rs.map toC) (hn : l.length ≤ 120) {i : Nat} {r : S_copy_run} (hr : l[i]? = some r) :
  iter (P_r4_Kept_L2 rs i) (((i : Int) + 1), (rowN l (i + 1)).set i (-1), (rowM l (i + 1)).set i 1) = some (rowN l i, rowM l i) := by
 have hi : i < l.length := (List.getElem?_eq_some_iff.1 hr).1
 have hll : l.length = rs.length := by rw [hl, List.length_map]
 have hcb := chains_bounds l;refine Ok.get ?_;refine Ok.count (fun s => s.1 - ((i : Int) + 1)) (l.length - (i + 1)) (fun k s => s.2.1 = (rowN l (i + 1)).set i (follow2 r.last ((behind l i).take k) ((i : Int) + 1) (1, -1)).2 ∧ s.2.2 = (rowM l (i + 1)).set i (follow2 r.last ((behind l i).take k) ((i : Int) + 1) (1, -1)).1) (by simp only; omega) ⟨rfl, rfl⟩ ?_ ?_
 ·rintro k ⟨kk, nx, many⟩ hk hx ⟨h1, h2⟩;simp only at hx h1 h2
  have hkk : kk = ((i + 1 + k : Nat) : Int) := by omega
  subst hkk h1 h2;obtain ⟨q, hq⟩ : ∃ q, l[i + 1 + k]? = some q := ⟨_, List.getElem?_eq_getElem (by omega)⟩;obtain ⟨c, hc1, hc2⟩ := behind_get hq
  have hcv := hcb c (List.mem_of_getElem? hc1)
  have hst : follow2 r.last ((behind l i).take (k + 1)) ((i : Int) + 1) (1, -1) = f2step r.last ((i + 1 + k : Nat) : Int) (q, c) (follow2 r.last ((behind l i).take k) ((i : Int) + 1) (1, -1)) := by
   rw [take_snoc hc2, follow2_snoc, List.length_take, behind_len]
   congr 1
   omega
  have hrs : ∀ (k : Nat) (a : S_duodecimoref04_Run), rs[k]? = some a → l[k]? = some (toC a) := fun k a h => by rw [hl, List.getElem?_map, h]; rfl
  have hmk : ((rowM l (i + 1)).set i (follow2 r.last ((behind l i).take k) ((i : Int) + 1) (1, -1)).1)[i + 1 + k]? = some c := by
   rw [List.getElem?_set_ne (by omega), rowM_get (by omega), hc1]
  have hmi : ∀ x, ((rowM l (i + 1)).set i x)[i]? = some x := fun x => List.getElem?_set_self (by rw [rowM_len (by omega)]; exact hi)
  generalize hS : follow2 r.last ((behind l i).take k) ((i : Int) + 1) (1, -1) = S at *;obtain ⟨S1, S2⟩ := S;simp only at hmk ⊢
  have hlM : ((rowM l (i + 1)).set i S1).length = l.length := by rw [List.length_set, rowM_len (by omega)]
  have hlN : ((rowN l (i + 1)).set i S2).length = l.length := by rw [List.length_set, rowN_len (by omega)]
  unfold P_r4_Kept_L2;refine .ifp (by omega) (Ok.andx (P := fun s : List Int × List Int => s.1 = (rowN l (i + 1)).set i (follow2 r.last ((behind l i).take (k + 1)) ((i : Int) + 1) (1, -1)).2 ∧ s.2 = (rowM l (i + 1)).set i (follow2 r.last ((behind l i).take (k + 1)) ((i : Int) + 1) (1, -1)).1) ?_ ?_)
  ·rw [hst];refine Ok.andx (P := fun b : Bool => b = true ↔ (q.first > r.last ∧ c + 1 > S1)) ?_ ?_
   ·refine .el (by omega) fun a ha => ?_
    have ha := hrs _ _ (get_of ha rfl);rw [hq] at ha;cases ha;refine .el (by omega) fun b hb => ?_
    have hb := hrs _ _ (get_of hb rfl);rw [hr] at hb;cases hb;refine .ite (fun h => ?_) (fun h => ?_)
    ·refine .el (by rw [hlM]; omega) fun x hx => ?_
     have hx := get_of hx rfl;rw [hmk] at hx;cases hx;refine .chk (i64_small (by omega)) (.el (by rw [hlM]; omega) fun y hy => .some ?_)
     have hy := get_of hy rfl;rw [hmi] at hy;cases hy;rw [decide_eq_true_iff];exact ⟨fun h2 => ⟨h, h2⟩, fun h2 => h2.2⟩
    ·refine .some ?_;simp only [Bool.false_eq_true, false_iff];exact fun h2 => h h2.1
   ·rintro b hb;unfold f2step;refine .ite (fun h => ?_) (fun h => ?_)
    ·refine .el (by rw [hlM]; omega) fun x hx => ?_
     have hx := get_of hx rfl;rw [hmk] at hx;cases hx;refine .chk (i64_small (by omega)) (.el (by rw [hlM]; omega) fun y hy => .el (by rw [hlN]; omega) fun z hz => .some ?_);rw [if_pos (hb.1 h), Int.toNat_natCast, List.set_set, List.set_set];exact ⟨rfl, rfl⟩
    ·refine .some ?_;rw [if_neg (fun h2 => h (hb.2 h2))];exact ⟨rfl, rfl⟩
  ·rintro ⟨a, b⟩ ⟨q1, q2⟩;exact .chk (i64_small (by omega)) (.some ⟨by simp only; omega, q1, q2⟩)
 ·rintro ⟨kk, nx, many⟩ hx ⟨h1, h2⟩;simp only at hx h1 h2;unfold P_r4_Kept_L2;refine .ifn (by omega) (.some ?_)
  show (nx, many) = _;rw [h1, h2, List.take_of_length_le (by rw [behind_len]; omega), rowN_step hr]
  have := (first_best r.last (behind l i) ((i : Int) + 1) 0 (-1)).1;rw [Int.zero_add] at this;rw [this, rowM_step hr]
theorem top_follow (last : Int) : ∀ (ps : List (S_copy_run × Int)) (a : Int), (∀ p ∈ ps, p.1.first > last) → follow last ps a = max a (top (ps.map (·.2))) ∨ a < 0 := by
 intro ps
 induction ps with
 | nil => intro a _; simp only [follow, List.foldl_nil, List.map_nil, top]; omega
 | cons p ps ih =>
  intro a h;rw [follow_cons, if_pos (h p List.mem_cons_self), List.map_cons, top]
  have := ih (max a p.2) fun q hq => h q (List.mem_cons_of_mem _ hq)
  omega
def keptOf (l : List S_copy_run) : List Int := keptFrom (l.zip (chains l)) 0 (top (chains l)) (-1)
def restAt (l : List S_copy_run) (i : Nat) (r : S_copy_run) : List Int := (i : Int) :: keptFrom (behind l i) ((i : Int) + 1) (follow r.last (behind l i) 0) r.last
theorem Kept_ok {rs : List S_duodecimoref04_Run} {l : List S_copy_run} {N : Nat} (hl : l = rs.map toC) (hn : l.length ≤ 120) (hr : ∀ r ∈ l, RunOk N r) : P_r4_Kept rs = some (keptOf l) := by
 refine Ok.get ?_
 have hll : l.length = rs.length := by rw [hl, List.length_map]
 have hcb := chains_bounds l;unfold P_r4_Kept;refine .chk (by omega) (.chk (by omega) (Ok.andx (P := fun s : List Int × List Int => s = (nextsFrom 0 l, chains l)) ?_ ?_))
 ·refine .chk (i64_small (by omega)) (Ok.count (fun s => ((rs.length : Int) - 1) - s.1) l.length (fun k s => s.2.1 = rowN l (l.length - k) ∧ s.2.2 = rowM l (l.length - k)) (by simp only; omega) ⟨?_, ?_⟩ ?_ ?_)
  ·simp only [Nat.sub_zero, rowN, List.drop_length, nextsFrom, List.append_nil];rw [Int.toNat_natCast, hll]
  ·simp only [Nat.sub_zero, rowM, List.drop_length, chains, List.append_nil];rw [Int.toNat_natCast, hll]
  ·rintro k ⟨i, nx, many⟩ hk hx ⟨h1, h2⟩;simp only at hx h1 h2;obtain ⟨j, hj⟩ : ∃ j : Nat, j = l.length - 1 - k := ⟨_, rfl⟩
   have hi : i = (j : Int) := by omega
   subst hi;obtain ⟨r, hrj⟩ : ∃ r, l[j]? = some r := ⟨_, List.getElem?_eq_getElem (by omega)⟩
   have e1 : l.length - k = j + 1 := by omega
   have e2 : l.length - (k + 1) = j := by omega
   rw [e1] at h1 h2;subst h1 h2;unfold P_r4_Kept_L1;refine .ifp (by omega) (Ok.andx (P := fun s => s = (rowN l j, rowM l j)) ?_ ?_)
   ·refine .el (by rw [rowM_len (by omega)]; omega) fun a ha => .el (by rw [rowN_len (by omega)]; omega) fun b hb => ?_
    refine .chk (i64_small (by omega)) ?_;rw [Int.toNat_natCast, kinner_ok hl hn hrj];exact .some rfl
   ·rintro s rfl;refine .chk (i64_small (by omega)) (.some ⟨by simp only; omega, ?_, ?_⟩)
    ·simp only [e2]
    ·simp only [e2]
  ·rintro ⟨i, nx, many⟩ hx ⟨h1, h2⟩;simp only at hx h1 h2;unfold P_r4_Kept_L1;refine .ifn (by omega) (.some ?_)
   show (nx, many) = _;rw [h1, h2, Nat.sub_self];unfold rowN rowM;simp
 ·rintro s rfl;simp only
  have hfirst : ∀ p ∈ l.zip (chains l), p.1.first > -1 := fun p hp => by have := (hr p.1 (List.of_mem_zip hp).1).1; omega
  have hzl : (l.zip (chains l)).length = l.length := by rw [List.length_zip, chains_len, Nat.min_self]
  have htop : follow (-1) (l.zip (chains l)) 0 = top (chains l) := by
   have h1 := top_follow (-1) (l.zip (chains l)) 0 hfirst
   have h2 : (l.zip (chains l)).map (·.2) = chains l := by rw [← List.unzip_snd]; rw [List.unzip_zip (chains_len l).symm]
   rw [h2] at h1
   have := (top_bounds (M := 120) (by omega) (chains l) fun m hm => by have := hcb m hm; omega).1;omega
  have hfb := first_best (-1) (l.zip (chains l)) 0 0 (-1);rw [htop, Int.zero_add] at hfb;refine Ok.andx (P := fun a : Int => a = (follow2 (-1) (l.zip (chains l)) 0 (1, -1)).2) (Ok.count (fun s : Int × Int => s.2) l.length (fun k (s : Int × Int) => ∃ a, follow2 (-1) ((l.zip (chains l)).take k) 0 (1, -1) = (a, s.1) ∧ ((s.1 = -1 ∧ a = 1) ∨ ∃ (j : Nat) (c : Int), s.1 = j ∧ j < k ∧ (chains l)[j]? = some c ∧ c + 1 = a)) rfl ⟨1, rfl, .inl ⟨rfl, rfl⟩⟩ ?_ ?_) ?_
  ·rintro k ⟨a, i⟩ hk hx ⟨v, h1, h2⟩;simp only at hx h1 h2;subst hx;obtain ⟨q, hq⟩ : ∃ q, l[k]? = some q := ⟨_, List.getElem?_eq_getElem hk⟩;obtain ⟨c, hc⟩ : ∃ c, (chains l)[k]? = some c := ⟨_, List.getElem?_eq_getElem (by rw [chains_len]; exact hk)⟩
   have hz : (l.zip (chains l))[k]? = some (q, c) := by rw [List.getElem?_zip_eq_some]; exact ⟨hq, hc⟩
   have hq0 := hfirst (q, c) (List.mem_of_getElem? hz)
   have hcv := hcb c (List.mem_of_getElem? hc)
   have hst : follow2 (-1) ((l.zip (chains l)).take (k + 1)) 0 (1, -1) = f2step (-1) k (q, c) (v, a) := by
    rw [take_snoc hz, follow2_snoc, h1, List.length_take, hzl]
    congr 1
    omega
   unfold P_r4_Kept_L3;refine .ifp (by omega) (Ok.andx (P := fun a' => ∃ v', follow2 (-1) ((l.zip (chains l)).take (k + 1)) 0 (1, -1) = (v', a') ∧ ((a' = -1 ∧ v' = 1) ∨ ∃ (j : Nat) (c : Int), a' = j ∧ j < k + 1 ∧ (chains l)[j]? = some c ∧ c + 1 = v')) ?_ ?_)
   ·rw [hst];refine Ok.andx (P := fun b : Bool => b = true ↔ c + 1 > v) ?_ ?_
    ·rcases h2 with ⟨rfl, rfl⟩ | ⟨j, c', rfl, hj, hcj, rfl⟩
     ·refine .ifp (by omega) (.some ?_);simp only [true_iff]; omega
     ·refine .ifn (by omega) (.el (by rw [chains_len]; omega) fun x hx => ?_)
      have hx := get_of hx rfl;rw [hc] at hx;cases hx;refine .el (by rw [chains_len]; omega) fun y hy => .some ?_
      have hy := get_of hy rfl;rw [hcj] at hy;cases hy;rw [decide_eq_true_iff];omega
    ·rintro b hb;unfold f2step;refine .ite (fun h => .some ?_) (fun h => .some ?_)
     ·rw [if_pos ⟨hq0, hb.1 h⟩];exact ⟨c + 1, rfl, .inr ⟨k, c, rfl, by omega, hc, rfl⟩⟩
     ·rw [if_neg (fun h2 => h (hb.2 h2.2))];refine ⟨v, rfl, ?_⟩
      rcases h2 with h2 | ⟨j, c', h3, h4, h5, h6⟩
      ·exact .inl h2
      ·exact .inr ⟨j, c', h3, by omega, h5, h6⟩
   ·rintro a' ha';exact .chk (i64_small (by omega)) (.some ⟨rfl, ha'⟩)
  ·rintro ⟨a, i⟩ hx ⟨v, h1, h2⟩;simp only at hx h1 h2;unfold P_r4_Kept_L3;refine .ifn (by omega) (.some ?_)
   show a = _;rw [← show (l.zip (chains l)).take l.length = l.zip (chains l) from List.take_of_length_le (by rw [hzl]; exact Nat.le_refl _), h1]
  ·rintro a0 ha0
   have hrest : ∀ (i : Nat) (r : S_copy_run), l[i]? = some r → ∀ nx, (nextsFrom 0 l)[i]? = some nx → (nx = -1 ∧ restAt l i r = [(i : Int)]) ∨ ∃ (j : Nat) (q : S_copy_run), nx = j ∧ i < j ∧ l[j]? = some q ∧ restAt l i r = (i : Int) :: restAt l j q := fun i r hri nx hnx => by
    rw [nexts_at hri] at hnx;cases hnx;obtain ⟨_, g2, g3⟩ := first_best r.last (behind l i) ((i : Int) + 1) 0 (-1);rw [Int.zero_add] at g2 g3
    have hge := follow_ge r.last (behind l i) 0
    by_cases hF : follow r.last (behind l i) 0 = 0
    ·refine .inl ⟨g2 hF, ?_⟩;unfold restAt;rw [hF, keptFrom_zero _ _ _ behind_pos]
    ·obtain ⟨j, p, p1, p2, p3, p4⟩ := g3 (by omega)
     have hlt := (List.getElem?_eq_some_iff.1 p1).1;rw [behind_len] at hlt;obtain ⟨q, hq⟩ : ∃ q, l[i + 1 + j]? = some q := ⟨_, List.getElem?_eq_getElem (by omega)⟩;obtain ⟨c, c1, c2⟩ := behind_get hq;rw [p1] at c2;cases c2
     have hca := chains_at hq;rw [c1] at hca
     have hca := Option.some.inj hca;refine .inr ⟨i + 1 + j, q, by rw [p2]; omega, by omega, hq, ?_⟩
     show (i : Int) :: _ = _;rw [p4, behind_drop];unfold restAt;simp only at p3;rw [← p3, hca, show (i : Int) + 1 + (j : Int) = ((i + 1 + j : Nat) : Int) by omega, Int.add_sub_cancel]
   have hstart : (a0 = -1 ∧ keptOf l = []) ∨ ∃ (j : Nat) (q : S_copy_run), a0 = j ∧ l[j]? = some q ∧ keptOf l = restAt l j q := by
    obtain ⟨_, g2, g3⟩ := hfb
    have := (top_bounds (M := 120) (by omega) (chains l) fun m hm => by have := hcb m hm; omega).1
    by_cases hF : top (chains l) = 0
    ·refine .inl ⟨by rw [ha0]; exact g2 hF, ?_⟩;unfold keptOf;rw [hF];exact keptFrom_zero _ _ _ fun p hp => (hcb p.2 (List.of_mem_zip hp).2).1
    ·obtain ⟨j, p, p1, p2, p3, p4⟩ := g3 (by omega)
     have p1' := p1;obtain ⟨p1a, p1b⟩ := (List.getElem?_zip_eq_some (z := (p.1, p.2))).1 p1
     have hca := chains_at p1a;rw [p1b] at hca
     have hca := Option.some.inj hca;refine .inr ⟨j, p.1, by rw [ha0, p2]; omega, p1a, ?_⟩;unfold keptOf restAt;rw [p4, ← p3, hca, Int.zero_add, Int.add_sub_cancel, zip_drop, ← chains_drop];rfl
   refine Ok.andx (P := fun o : List Int => o = keptOf l) (Ok.iter (fun s : Int × List Int => (s.1 = -1 ∧ s.2 = keptOf l) ∨ ∃ (j : Nat) (q : S_copy_run), s.1 = j ∧ l[j]? = some q ∧ keptOf l = s.2 ++ restAt l j q ∧ s.2.length ≤ j) (fun s => if s.1 < 0 then 0 else l.length - s.1.toNat) ?_ ?_) fun _ h => ⟨_, rfl, h⟩
   ·rcases hstart with ⟨h1, h2⟩ | ⟨j, q, h1, h2, h3⟩
    ·exact .inl ⟨h1, h2.symm⟩
    ·exact .inr ⟨j, q, h1, h2, h3, Nat.zero_le _⟩
   ·rintro ⟨a, out⟩ (⟨h1, h2⟩ | ⟨j, q, h1, h2, h3, h4⟩)
    ·simp only at h1 h2;unfold P_r4_Kept_L4;exact .ifn (by omega) (.some h2)
    ·simp only at h1 h3 h4;subst h1
     have hjl := (List.getElem?_eq_some_iff.1 h2).1;unfold P_r4_Kept_L4;refine .ifp (by omega) (.chk (by simp; omega) (.el (by rw [nextsFrom_len]; omega) fun nx hnx => .some ?_))
     have hnx := get_of hnx rfl
     rcases hrest j q h2 nx hnx with ⟨rfl, e⟩ | ⟨j', q', rfl, hlt, hq', e⟩
     ·refine ⟨.inl ⟨rfl, ?_⟩, ?_⟩
      ·rw [h3, e]
      ·simp only;rw [if_pos (by omega), if_neg (by omega)];omega
     ·have hjl' := (List.getElem?_eq_some_iff.1 hq').1;refine ⟨.inr ⟨j', q', rfl, hq', by rw [h3, e]; simp, by simp; omega⟩, ?_⟩;simp only;rw [if_neg (by omega), if_neg (by omega)];omega
end Go.Am
end
section
namespace Go.Am
set_option linter.unusedVariables false
theorem keptFrom_ge : ∀ (ps : List (S_copy_run × Int)) (k b last : Int), ∀ i ∈ keptFrom ps k b last, k ≤ i := by
 intro ps
 induction ps with
 | nil => intro k b last i h; cases h
 | cons p ps ih =>
  intro k b last i h;rw [keptFrom] at h;split at h
  ·rcases List.mem_cons.1 h with rfl | h
   ·exact Int.le_refl _
   ·have := ih _ _ _ i h; omega
  ·have := ih _ _ _ i h; omega
theorem keptFrom_len : ∀ (ps : List (S_copy_run × Int)) (k b last : Int), (keptFrom ps k b last).length ≤ ps.length := by
 intro ps
 induction ps with
 | nil => intro k b last; exact Nat.le_refl _
 | cons p ps ih =>
  intro k b last;rw [keptFrom];split
  ·have := ih (k + 1) (b - 1) p.1.last; simp; omega
  ·have := ih (k + 1) b last; simp; omega
theorem Of_ok {s : Int} {g : List Gat} {t : List Int} (h : GoodBook s g) (ht : t.length ≤ 120) (hin : TruthIn (lvs s g).length t) :
    P_r4_Of s g t = some (t, lostOf (lvs s g).length t, piecesOf (matesOf s g) (lostOf (lvs s g).length t), strangeOf t, twiceOf t, movedOf (runsOf (gathOf (lvs s g)) t), allOf (lvs s g).length (matesOf s g) (gathOf (lvs s g)) t) := by
  refine Ok.get ?_
  unfold P_r4_Of
  have hnl := h.nl
  have hl := lostOf_len (lvs s g).length t
  have hp := piecesOf_le (matesOf s g) (lostOf (lvs s g).length t)
  have h1 : (strangeOf t).length ≤ 120 := Nat.le_trans (idxTo_len _ _ _) ht
  have h2 : (twiceOf t).length ≤ 120 := Nat.le_trans (idxTo_len _ _ _) ht
  have hr := runsTo_ok (g := gathOf (lvs s g)) hin t.length
  have hm := movedOf_len (runsOf (gathOf (lvs s g)) t)
  have hrl : (runsOf (gathOf (lvs s g)) t).length ≤ t.length := hr.2
  refine .chk (by simp; omega) (.andx' (Gone_ok h (by omega)) (.andx' (Pieces_ok h (fun x hx => by have := mem_lostOf.1 hx; omega) (by omega)) (.andx' (Plain_ok (by omega)) ?_)))
  refine Ok.andx (P := fun x : List Int × List Int => x = (strangeOf t, twiceOf t)) (Ok.count (fun s => s.1) t.length (fun k s => s.2.1 = idxTo isStrange t k ∧ s.2.2 = idxTo (isTwice t) t k) rfl ⟨rfl, rfl⟩ ?_ ?_) ?_
  · rintro k ⟨i, st, tw⟩ hk hx ⟨q1, q2⟩
    simp only at hx q1 q2
    subst hx q1 q2
    have hs1 := idxTo_len isStrange t k
    have hs2 := idxTo_len (isTwice t) t k
    have hpl : (plainOf t).length ≤ t.length := idxTo_len _ _ _
    unfold P_r4_Of_L1
    refine .ifp (by omega) (Ok.andx (P := fun x : List Int × List Int => x.1 = idxTo isStrange t (k + 1) ∧ x.2 = idxTo (isTwice t) t (k + 1)) ?_ ?_)
    · refine .el (by omega) fun n hn => ?_
      have hn := get_of hn rfl
      rw [idxTo_succ hn, idxTo_succ hn]
      refine .ite (fun h0 => ?_) (fun h0 => ?_)
      · have e2 : isStrange k n = true := decide_eq_true h0
        have e3 : isTwice t k n = false := decide_eq_false (by omega)
        rw [e2, e3]
        exact .chk (by simp; omega) (.some ⟨rfl, rfl⟩)
      · have e2 : isStrange k n = false := decide_eq_false h0
        rw [e2]
        refine .andx' (has_ok (by omega)) (.ite (fun hc => ?_) (fun hc => ?_))
        · have := ((mem_idxTo hn t.length).1 (of_decide_eq_true hc)).2
          have e3 : isTwice t k n = false := decide_eq_false (fun h => (of_decide_eq_true this).2 h.2)
          rw [e3]
          exact .some ⟨rfl, rfl⟩
        · have hnp : ¬ isPlain t k n = true := fun hp => hc (decide_eq_true ((mem_idxTo hn t.length).2 ⟨hk, hp⟩))
          have e3 : isTwice t k n = true := decide_eq_true ⟨by omega, by
            by_cases hmem : n ∈ t.take k
            · exact hmem
            · exact absurd (decide_eq_true ⟨by omega, hmem⟩) hnp⟩
          rw [e3]
          exact .chk (by simp; omega) (.some ⟨rfl, rfl⟩)
    · rintro ⟨a, b⟩ ⟨q1, q2⟩
      exact .chk (i64_small (by omega)) (.some ⟨rfl, q1, q2⟩)
  · rintro ⟨i, st, tw⟩ hx ⟨q1, q2⟩
    simp only at hx q1 q2
    unfold P_r4_Of_L1
    refine .ifn (by omega) (.some ?_)
    show (st, tw) = _
    rw [q1, q2]; rfl
  · rintro x rfl
    obtain ⟨rs, e1, e2⟩ := Runs_ok h ht hin
    refine .andx' e1 (.andx' (Kept_ok e2.symm (by omega) hr.1) ?_)
    generalize hL : runsOf (gathOf (lvs s g)) t = l at *
    have hll : l.length = rs.length := by rw [← e2, List.length_map]
    have hzl : (l.zip (chains l)).length = l.length := by rw [List.length_zip, chains_len, Nat.min_self]
    have hkl : (keptOf l).length ≤ 120 := by have := keptFrom_len (l.zip (chains l)) 0 (top (chains l)) (-1); unfold keptOf; omega
    refine Ok.andx (P := fun m : List Int => m = movedOf l) (Ok.count (fun s => s.1) rs.length (fun k (s : Int × List Int) => (∃ b last, movedOf l = s.2 ++ movedFrom ((l.zip (chains l)).drop k) b last ∧ ∀ i : Int, (k : Int) ≤ i → (i ∈ keptOf l ↔ i ∈ keptFrom ((l.zip (chains l)).drop k) k b last)) ∧ s.2.length ≤ k) rfl ⟨⟨top (chains l), -1, rfl, fun i _ => Iff.rfl⟩, Nat.le_refl _⟩ ?_ ?_) ?_
    · rintro k ⟨i, out⟩ hk hx ⟨⟨b, last, q1, q2⟩, q3⟩
      simp only at hx q1 q3
      subst hx
      obtain ⟨r, hrk⟩ : ∃ r, rs[k]? = some r := ⟨_, List.getElem?_eq_getElem hk⟩
      have hlk : l[k]? = some (toC r) := by rw [← e2, List.getElem?_map, hrk]; rfl
      obtain ⟨c, hc⟩ : ∃ c, (chains l)[k]? = some c := ⟨_, List.getElem?_eq_getElem (by rw [chains_len]; omega)⟩
      have hz : (l.zip (chains l))[k]? = some (toC r, c) := by rw [List.getElem?_zip_eq_some]; exact ⟨hlk, hc⟩
      rw [drop_cons hz, movedFrom] at q1
      rw [drop_cons hz] at q2
      simp only [keptFrom] at q1 q2
      unfold P_r4_Of_L2
      have hk2 := q2 k (Int.le_refl _)
      refine .ifp (by omega) (Ok.andx (P := fun o : List Int => (∃ b last, movedOf l = o ++ movedFrom ((l.zip (chains l)).drop (k + 1)) b last ∧ ∀ i : Int, ((k + 1 : Nat) : Int) ≤ i → (i ∈ keptOf l ↔ i ∈ keptFrom ((l.zip (chains l)).drop (k + 1)) ((k + 1 : Nat) : Int) b last)) ∧ o.length ≤ k + 1) ?_ ?_)
      · refine .andx' (has_ok (by omega)) ?_
        by_cases hcond : c = b ∧ (toC r).first > last
        · rw [if_pos hcond] at q1 hk2
          have hmem : (k : Int) ∈ keptOf l := hk2.2 List.mem_cons_self
          refine .ifp (decide_eq_true hmem) (.some ⟨⟨b - 1, (toC r).last, q1, fun i hi => ?_⟩, by omega⟩)
          rw [q2 i (by omega), if_pos hcond, List.mem_cons]
          exact ⟨fun h => h.elim (fun e => by omega) id, .inr⟩
        · rw [if_neg hcond] at q1 hk2
          have hmem : (k : Int) ∉ keptOf l := fun hm => by have := keptFrom_ge _ _ _ _ _ (hk2.1 hm); omega
          refine .ifn (by simp [hmem]) (.el (by omega) fun a ha => ?_)
          have ha := get_of ha rfl
          rw [hrk] at ha
          cases ha
          refine .chk (by simp; omega) (.some ⟨⟨b, last, by rw [q1, List.append_assoc]; rfl, fun i hi => ?_⟩, by simp; omega⟩)
          rw [q2 i (by omega), if_neg hcond]
          rfl
      · rintro o ⟨ho1, ho2⟩
        exact .chk (i64_small (by omega)) (.some ⟨rfl, ho1, ho2⟩)
    · rintro ⟨i, out⟩ hx ⟨⟨b, last, q1, q2⟩, q3⟩
      simp only at hx q1
      unfold P_r4_Of_L2
      refine .ifn (by omega) (.some ?_)
      show out = _
      rw [q1, List.drop_eq_nil_of_le (by omega), movedFrom, List.append_nil]
    · rintro m rfl
      refine .chk (i64_small (by omega)) (.chk (i64_small (by omega)) (.chk (i64_small (by omega)) (.some ?_)))
      rw [← hL]
      rfl
theorem truths_in {s : Int} {g : List Gat} {its : List Item} (h : GoodCase s g its) : ∀ t ∈ truthsOf its, t.length = its.length ∧ ∀ x ∈ t, x = -1 ∨ 0 ≤ x ∧ x < (lvs s g).length := by
  suffices k : ∀ (l : List Item) (p t : List Int), (∀ x ∈ l, ∀ n ∈ x.could.l, 0 ≤ n ∧ n ≤ ((lvs s g).length : Int) - 1) → (∀ x ∈ p, x = -1 ∨ 0 ≤ x ∧ x < (lvs s g).length) → t ∈ comps p l → t.length = p.length + l.length ∧ ∀ x ∈ t, x = -1 ∨ 0 ≤ x ∧ x < (lvs s g).length by
    intro t ht
    have := k its [] t h.rng (by simp) ht
    exact ⟨by simpa using this.1, this.2⟩
  intro l
  induction l with
  | nil =>
    intro p t _ hp ht
    rw [comps, List.mem_singleton] at ht
    subst ht
    exact ⟨rfl, hp⟩
  | cons x l ih =>
    intro p t hl hp ht
    rw [comps, List.mem_flatMap] at ht
    obtain ⟨c, hc, ht⟩ := ht
    have hcr : c = -1 ∨ 0 ≤ c ∧ c < (lvs s g).length := by
      unfold chs at hc
      split at hc
      · rw [List.mem_singleton] at hc; exact .inl hc
      · have := hl x List.mem_cons_self c hc; exact .inr ⟨this.1, by omega⟩
    have := ih (p ++ [c]) t (fun y hy => hl y (List.mem_cons_of_mem _ hy)) (fun y hy => by
      rcases List.mem_append.1 hy with hy | hy
      · exact hp y hy
      · rw [List.mem_singleton] at hy; subst hy; exact hcr) ht
    refine ⟨?_, this.2⟩
    rw [this.1]
    simp
    omega
noncomputable def manyOf (s : Int) (g : List Gat) (t : List Int) : Int := allOf (lvs s g).length (matesOf s g) (gathOf (lvs s g)) t
noncomputable def wideOf (s : Int) (g : List Gat) (its : List Item) : Int × Int :=
 match truthsOf its with
 | [] => (0, 0)
 | t :: l => l.foldl (fun x t => (min x.1 (manyOf s g t), max x.2 (manyOf s g t))) (manyOf s g t, manyOf s g t)
end Go.Am
end
section
namespace Go.Am
set_option linter.unusedVariables false
theorem openRes_err {s : Int} {g : List Gat} {its : List Item} (h : ¬ (caseErr s g its).2.2 = 0) : openRes s g its = .inl (caseErr s g its) := by unfold openRes; rw [if_neg h]
theorem openRes_ok {s : Int} {g : List Gat} {its : List Item} (h : (caseErr s g its).2.2 = 0) : openRes s g its = .inr (s, GSo true encL (lvs s g), matesOf s g, 0, 0, 0) := by unfold openRes; rw [if_pos h]
end Go.Am
end
section
namespace Go.Am
set_option linter.unusedVariables false
theorem foldx_fold {σ β A : Type} {body : σ → β → Option (Stp σ A)} {f : σ → β → σ} : ∀ (l : List β) (s : σ), (∀ s, ∀ x ∈ l, body s x = some (.ag (f s x))) → foldx body l s = some (.nx (l.foldl f s)) := by
 intro l
 induction l with
 | nil => intro s _; rfl
 | cons a l ih =>
  intro s h;unfold foldx;rw [h s a List.mem_cons_self];exact ih _ fun s x hx => h s x (List.mem_cons_of_mem _ hx)
theorem count_le (g : Int → Int) (t : List Int) : ∀ k, (idxTo isStrange t k).length + (idxTo (isTwice t) t k).length + (runsTo g t k).length ≤ k := by
 intro k
 induction k with
 | zero => simp [idxTo, runsTo]
 | succ k ih =>
  cases h : t[k]? with
  | none =>
   rw [idxTo, idxTo, runsTo, h];simp only [List.append_nil];omega
  | some n =>
   rw [idxTo_succ h, idxTo_succ h, runsTo_succ h]
   by_cases h0 : n < 0
   ·have e1 : isPlain t k n = false := decide_eq_false (by omega)
    have e2 : isStrange k n = true := decide_eq_true h0
    have e3 : isTwice t k n = false := decide_eq_false (by omega);rw [e1, e2, e3];simp;omega
   ·have e2 : isStrange k n = false := decide_eq_false h0
    by_cases hm : n ∈ t.take k
    ·have e1 : isPlain t k n = false := decide_eq_false (fun h => h.2 hm)
     have e3 : isTwice t k n = true := decide_eq_true ⟨by omega, hm⟩;rw [e1, e2, e3];simp;omega
    ·have e1 : isPlain t k n = true := decide_eq_true ⟨by omega, hm⟩
     have e3 : isTwice t k n = false := decide_eq_false (fun h => hm h.2)
     have := rnStep_len (g := g) (l := runsTo g t k) (i := k) (n := n);rw [e1, e2, e3];simp;omega
theorem many_bounds (s : Int) (g : List Gat) (t : List Int) : 0 ≤ manyOf s g t ∧ manyOf s g t ≤ (lvs s g).length + t.length := by
 unfold manyOf allOf
 have h1 := piecesOf_le (matesOf s g) (lostOf (lvs s g).length t)
 have h2 := lostOf_len (lvs s g).length t
 have h3 := count_le (gathOf (lvs s g)) t t.length
 have h4 := movedOf_len (runsOf (gathOf (lvs s g)) t);unfold strangeOf twiceOf
 have h5 : (runsOf (gathOf (lvs s g)) t).length = (runsTo (gathOf (lvs s g)) t t.length).length := rfl;omega
theorem cfaults_ok {s : Int} {g : List Gat} {its : List Item} (h : GoodCase s g its) {its' : List Item} {s' : Int} {t : List Int} (ht : t ∈ truthsOf its) :
  P_c_faults s' g its' (lvs s g) (matesOf s g) t = some ([], lostOf (lvs s g).length t, piecesOf (matesOf s g) (lostOf (lvs s g).length t), strangeOf t, twiceOf t, movedOf (runsOf (gathOf (lvs s g)) t), manyOf s g t) := by
 have ht' := truths_in h t ht
 have := h.il;exact faults_ok h.nl (mates_len s g) (by omega) (fun x hx => by rcases ht'.2 x hx with h | h <;> omega)
theorem rOf_ok {s : Int} {g : List Gat} {its : List Item} (h : GoodCase s g its) {t : List Int} (ht : t ∈ truthsOf its) :
  P_r4_Of s g t = some (t, lostOf (lvs s g).length t, piecesOf (matesOf s g) (lostOf (lvs s g).length t), strangeOf t, twiceOf t, movedOf (runsOf (gathOf (lvs s g)) t), manyOf s g t) := by
 have ht' := truths_in h t ht
 have := h.il;exact Of_ok h.book (by omega) (fun x hx => by rcases ht'.2 x hx with h | h <;> omega)
theorem truths_pos {its : List Item} (hf : ∀ x ∈ its, x.could.l.length ≤ 4) : ∃ t l, truthsOf its = t :: l := by
 have h1 := (wid_le its hf).1
 have h2 := comps_len its [];cases h : truthsOf its with
 | nil => unfold truthsOf at h; rw [h] at h2; simp at h2; omega
 | cons t l => exact ⟨t, l, rfl⟩
theorem wide_ok {s : Int} {g : List Gat} {its : List Item} (h : GoodCase s g its) {s' : Int} : P_c_wide s' g its (lvs s g) (matesOf s g) = some (wideOf s g its) := by
 refine Ok.get ?_
 have hil := h.il
 have hnl := h.nl;obtain ⟨t, l, htl⟩ := truths_pos h.few;unfold P_c_wide;refine .chk (i64_small (by omega)) (.chk (i64_small (by omega)) (Ok.andx (P := fun x => x = wideOf s g its) (.chk ⟨hil, h.few⟩ ?_) ?_))
 ·have hb : ∀ (x : Int × Int), ∀ t ∈ truthsOf its, P_c_wide_L1 s' g its (lvs s g) (matesOf s g) x t = some (.ag (min x.1 (manyOf s g t), max x.2 (manyOf s g t))) := fun x t ht => by
   unfold P_c_wide_L1;obtain ⟨a, b⟩ := x;simp only;rw [cfaults_ok h ht];rfl
  rw [foldx_fold (f := fun (x : Int × Int) t => (min x.1 (manyOf s g t), max x.2 (manyOf s g t))) _ _ hb];refine .some ?_
  show (_, _) = _;unfold wideOf;rw [htl, List.foldl_cons]
  have h1 := many_bounds s g t
  have h2 := (truths_in h t (by rw [htl]; exact List.mem_cons_self)).1
  have e1 : min (((lvs s g).length : Int) + 2 * (its.length : Int)) (manyOf s g t) = manyOf s g t := by omega
  have e2 : max (0 : Int) (manyOf s g t) = manyOf s g t := by omega
  simp only [e1, e2]
 ·rintro ⟨a, b⟩ hab;exact .some hab
theorem Wide_ok {s : Int} {g : List Gat} {its : List Item} (h : GoodCase s g its) : P_r4_Wide s g its = some (wideOf s g its) := by
 refine Ok.get ?_;obtain ⟨z, hz⟩ := All_ok h;obtain ⟨t, l, htl⟩ := truths_pos h.few;unfold P_r4_Wide;refine .andx' hz ?_
 have hw : (truthsOf its).length ≤ 64 := by have := h.wid; rw [← comps_len its []] at this; exact this
 have hgl : (GSo z (encSl encI) (List.map (GSo true encI) (truthsOf its))).l = List.map (GSo true encI) (truthsOf its) := rfl;dsimp only;rw [hgl];refine .el (by rw [List.length_map, htl]; simp) fun a ha => ?_
 have ha : (List.map (GSo true encI) (truthsOf its))[0]? = some a := get_of ha rfl;rw [htl] at ha;cases ha;refine .andx' (rOf_ok h (by rw [htl]; exact List.mem_cons_self)) ?_;refine Ok.andx (P := fun x => x = wideOf s g its) (Ok.count (fun s => s.1 - 1) l.length (fun k (x : Int × Int × Int) => x.2 = (l.take k).foldl (fun x t => (min x.1 (manyOf s g t), max x.2 (manyOf s g t))) (manyOf s g t, manyOf s g t)) rfl rfl ?_ ?_) ?_
 ·rintro k ⟨i, lo, hi⟩ hk hx hq;simp only at hx hq
  have hik : i = ((k + 1 : Nat) : Int) := by omega
  subst hik
  have hlen : (truthsOf its).length = l.length + 1 := by rw [htl]; rfl
  unfold P_r4_Wide_L1;rw [hgl];refine .ifp (by rw [List.length_map]; omega) (.el (by rw [List.length_map]; omega) fun a ha => ?_)
  have ha := get_of ha rfl;rw [List.getElem?_map, htl, List.getElem?_cons_succ] at ha;obtain ⟨u, hu⟩ : ∃ u, l[k]? = some u := ⟨_, List.getElem?_eq_getElem hk⟩;rw [hu] at ha;cases ha;refine .andx' (rOf_ok h (by rw [htl]; exact List.mem_cons_of_mem _ (List.mem_of_getElem? hu))) ?_;refine .chk (i64_small (by omega)) (.some ⟨by simp only; omega, ?_⟩)
  show (min lo _, max hi _) = _;rw [take_snoc hu, List.foldl_append, ← hq];rfl
 ·rintro ⟨i, lo, hi⟩ hx hq;simp only at hx hq
  have hlen : (truthsOf its).length = l.length + 1 := by rw [htl]; rfl
  unfold P_r4_Wide_L1;rw [hgl];refine .ifn (by rw [List.length_map]; omega) (.some ?_)
  show (lo, hi) = _;rw [hq, List.take_length];unfold wideOf;rw [htl]
 ·rintro ⟨a, b⟩ hab;exact .some hab
theorem wide_fold (f : List Int → Int) : ∀ (l : List (List Int)) (a b : Int), (l.foldl (fun x t => (min x.1 (f t), max x.2 (f t))) (a, b)).1 ≤ a ∧ b ≤ (l.foldl (fun x t => (min x.1 (f t), max x.2 (f t))) (a, b)).2 ∧ ∀ t ∈ l, (l.foldl (fun x t => (min x.1 (f t), max x.2 (f t))) (a, b)).1 ≤ f t ∧ f t ≤ (l.foldl (fun x t => (min x.1 (f t), max x.2 (f t))) (a, b)).2 := by
 intro l
 induction l with
 | nil => intro a b; exact ⟨Int.le_refl _, Int.le_refl _, fun t h => by cases h⟩
 | cons u l ih =>
  intro a b;rw [List.foldl_cons];obtain ⟨h1, h2, h3⟩ := ih (min a (f u)) (max b (f u));refine ⟨by simp only at h1 ⊢; omega, by simp only at h2 ⊢; omega, fun t ht => ?_⟩
  rcases List.mem_cons.1 ht with rfl | ht
  ·simp only at h1 h2 ⊢; omega
  ·exact h3 t ht
theorem wide_has {s : Int} {g : List Gat} {its : List Item} {t : List Int} (ht : t ∈ truthsOf its) : (wideOf s g its).1 ≤ manyOf s g t ∧ manyOf s g t ≤ (wideOf s g its).2 := by
 unfold wideOf;cases h : truthsOf its with
 | nil => rw [h] at ht; cases ht
 | cons u l =>
  simp only;obtain ⟨h1, h2, h3⟩ := wide_fold (manyOf s g) l (manyOf s g u) (manyOf s g u);rw [h] at ht
  rcases List.mem_cons.1 ht with rfl | ht
  ·exact ⟨h1, h2⟩
  ·exact h3 t ht
end Go.Am
end
section
namespace Go.Am
set_option linter.unusedVariables false
def cntIn (ls : List (List Int)) (x : Int) : Nat := ls.countP fun l => decide (x ∈ l)
theorem cntIn_snoc (ls : List (List Int)) (l : List Int) (x : Int) : cntIn (ls ++ [l]) x = cntIn ls x + if x ∈ l then 1 else 0 := by
 unfold cntIn;rw [List.countP_append, List.countP_singleton]
 by_cases h : x ∈ l <;> simp [h]
theorem cntIn_le (ls : List (List Int)) (x : Int) : cntIn ls x ≤ ls.length := List.countP_le_length
def sureTo (ls : List (List Int)) : Nat → List Int
 | 0 => []
 | k + 1 => if cntIn ls k = ls.length then sureTo ls k ++ [(k : Int)] else sureTo ls k
def mayTo (ls : List (List Int)) : Nat → List Int
 | 0 => []
 | k + 1 => if 0 < cntIn ls k then mayTo ls k ++ [(k : Int)] else mayTo ls k
theorem sureTo_len (ls : List (List Int)) : ∀ k, (sureTo ls k).length ≤ k := by
 intro k
 induction k with
 | zero => exact Nat.le_refl _
 | succ k ih => rw [sureTo]; split <;> (try rw [List.length_append, List.length_singleton]) <;> omega
theorem mayTo_len (ls : List (List Int)) : ∀ k, (mayTo ls k).length ≤ k := by
 intro k
 induction k with
 | zero => exact Nat.le_refl _
 | succ k ih => rw [mayTo]; split <;> (try rw [List.length_append, List.length_singleton]) <;> omega
def marr (N : Nat) (f : Nat → Int) : List Int := (List.range N).map f
theorem marr_get {N : Nat} {f : Nat → Int} {k : Nat} (h : k < N) : (marr N f)[k]? = some (f k) := by
 unfold marr; rw [List.getElem?_map, List.getElem?_range h]; rfl
theorem marr_len {N : Nat} {f : Nat → Int} : (marr N f).length = N := by unfold marr; simp
theorem marr_set {N : Nat} {f : Nat → Int} {k : Nat} {v : Int} : (marr N f).set k v = marr N fun n => if n = k then v else f n := by
 apply List.ext_getElem?;intro i;rw [List.getElem?_set, marr_len]
 by_cases hi : i < N
 ·rw [marr_get hi]
  by_cases e : k = i
  ·subst e;simp [hi, marr_get hi]
  ·rw [if_neg e, marr_get hi, if_neg (fun h => e h.symm)]
 ·rw [List.getElem?_eq_none (l := marr N f) (by rw [marr_len]; omega), List.getElem?_eq_none (l := marr N fun n => if n = k then v else f n) (by rw [marr_len]; omega)];split
  ·rw [if_neg (by omega)]
  ·rfl
theorem marr_congr {N : Nat} {f g : Nat → Int} (h : ∀ n, n < N → f n = g n) : marr N f = marr N g := by
 unfold marr;exact List.map_congr_left fun n hn => h n (List.mem_range.1 hn)
theorem add_ok {N : Nat} {ls : List (List Int)} {l : List Int} {times : Int} (hs : l.Pairwise (· < ·)) (hr : ∀ x ∈ l, 0 ≤ x ∧ x < N) (hN : N ≤ 1000000) (hl : l.length ≤ 1000000) (hls : ls.length ≤ 1000000) :
  iter (P_c_Lost_L3 times l) (0, marr N fun n => cntIn ls n) = some (Stp.ag (times + 1, marr N fun n => cntIn (ls ++ [l]) n)) := by
 refine Ok.get ?_;refine Ok.count (fun s => s.1) l.length (fun k (s : Int × List Int) => s.2 = marr N fun n => cntIn ls n + if (n : Int) ∈ l.take k then 1 else 0) rfl ?_ ?_ ?_
 ·exact marr_congr fun n hn => by simp
 ·rintro k ⟨x, many⟩ hk hx hm;simp only at hx hm;subst hx hm;unfold P_c_Lost_L3
  have ha : l[k]? = some l[k] := List.getElem?_eq_getElem hk
  have har := hr l[k] (List.getElem_mem hk)
  have hnot : l[k] ∉ l.take k := fun hm => by
   obtain ⟨j, hj, e⟩ := List.mem_iff_getElem.1 hm;rw [List.length_take] at hj;rw [List.getElem_take] at e
   have := (List.pairwise_iff_getElem.1 hs) j k (by omega) hk (by omega);omega
  generalize l[k] = a at ha har hnot
  have hcl := cntIn_le ls a
  have hget : (marr N fun n => ((cntIn ls n : Nat) : Int) + if (n : Int) ∈ l.take k then 1 else 0)[a.toNat]? = some (cntIn ls a : Int) := by
   rw [marr_get (by omega)];rw [Int.toNat_of_nonneg har.1, if_neg hnot, Int.add_zero]
  refine .ifp (by omega) (.el (by omega) fun a' ha' => ?_)
  have ha' := get_of ha' rfl;rw [ha] at ha';cases ha';refine .el (by rw [marr_len]; omega) fun m hm => ?_
  rw [hget] at hm;cases hm;refine .chk (i64_small (by omega)) (.el (by rw [marr_len]; omega) fun m hm => .chk (i64_small (by omega)) (.some ⟨rfl, ?_⟩))
  show List.set _ _ _ = _;rw [marr_set];refine marr_congr fun n hn => ?_
  rw [take_snoc ha]
  by_cases e : n = a.toNat
  ·subst e;rw [if_pos rfl, if_pos (List.mem_append.2 (.inr (by rw [Int.toNat_of_nonneg har.1]; exact List.mem_singleton_self _))), Int.toNat_of_nonneg har.1]
  ·rw [if_neg e]
   have hne : (n : Int) ≠ a := fun h => e (by omega)
   by_cases hm : (n : Int) ∈ l.take k
   ·rw [if_pos hm, if_pos (List.mem_append.2 (.inl hm))]
   ·rw [if_neg hm, if_neg (fun h => (List.mem_append.1 h).elim hm (fun h => hne (List.mem_singleton.1 h)))]
 ·rintro ⟨x, many⟩ hx hm;simp only at hx hm;unfold P_c_Lost_L3;refine .ifn (by omega) (.some ?_)
  show Stp.ag _ = _;rw [hm, List.take_length]
  congr 2
  refine marr_congr fun n hn => ?_
  rw [cntIn_snoc];split <;> rfl
theorem tell_ok {N : Nat} {ls : List (List Int)} (hN : N ≤ 1000000) : iter (P_c_Lost_L4 ls.length (marr N fun n => cntIn ls n)) (0, [], []) = some (sureTo ls N, mayTo ls N) := by
 refine Ok.get ?_;refine Ok.count (fun s => s.1) N (fun k (s : Int × List Int × List Int) => s.2 = (sureTo ls k, mayTo ls k)) rfl rfl ?_ ?_
 ·rintro k ⟨x, su, ma⟩ hk hx hq;simp only at hx hq;subst hx;cases hq
  have h1 := sureTo_len ls k
  have h2 := mayTo_len ls k;unfold P_c_Lost_L4;refine .ifp (by rw [marr_len]; omega) (Ok.andx (P := fun x => x = (sureTo ls (k + 1), mayTo ls (k + 1))) ?_ ?_)
  ·refine .el (by rw [marr_len]; omega) fun a ha => ?_
   have ha := get_of ha rfl;rw [marr_get hk] at ha;cases ha;refine Ok.andx (P := fun x => x = sureTo ls (k + 1)) ?_ ?_
   ·rw [sureTo];refine .ite (fun h => .chk (by simp; omega) (.some ?_)) (fun h => .some ?_)
    ·show _ = _; rw [if_pos (by omega)]
    ·show _ = _; rw [if_neg (by omega)]
   ·rintro x rfl;rw [mayTo];refine .ite (fun h => .chk (by simp; omega) (.some ?_)) (fun h => .some ?_)
    ·show _ = _; rw [if_pos (by omega)]
    ·show _ = _; rw [if_neg (by omega)]
  ·rintro x rfl;exact .chk (i64_small (by omega)) (.some ⟨rfl, rfl⟩)
 ·rintro ⟨x, su, ma⟩ hx hq;simp only at hx hq;unfold P_c_Lost_L4;exact .ifn (by rw [marr_len]; omega) (.some hq)
noncomputable def toldSaid (ask : List Int → List Int) (s : Int) (g : List Gat) (its : List Item) : List Int × List Int × Int :=
 if (caseErr s g its).2.2 = 0 then (sureTo ((truthsOf its).map ask) (lvs s g).length, mayTo ((truthsOf its).map ask) (lvs s g).length, 0) else ([], [], (caseErr s g its).2.2)
theorem truths_le {s : Int} {g : List Gat} {its : List Item} (h : GoodCase s g its) : (truthsOf its).length ≤ 64 := by
 have := h.wid;rw [← comps_len its []] at this;exact this
theorem told_fold {N : Nat} {ask : List Int → List Int} {body : Int × List Int → List Int → Option (Stp (Int × List Int) (Int × List Int))} {ts : List (List Int)} (hN : N ≤ 1000000) (hts : ts.length ≤ 1000)
  (hs : ∀ t ∈ ts, (ask t).Pairwise (· < ·) ∧ (∀ x ∈ ask t, 0 ≤ x ∧ x < N) ∧ (ask t).length ≤ 1000000)
  (hb : ∀ times many t, t ∈ ts → 0 ≤ times ∧ times ≤ 1000000 → body (times, many) t = iter (P_c_Lost_L3 times (ask t)) (0, many)) :
  foldx body ts (0, marr N fun _ => 0) = some (.nx ((ts.length : Int), marr N fun n => cntIn (ts.map ask) n)) := by
 refine Ok.get ?_;refine Ok.foldx (fun vis (s : Int × List Int) => vis.length ≤ 1000 ∧ s = ((vis.length : Int), marr N fun n => cntIn (vis.map ask) n)) (vis := []) ⟨by simp, rfl⟩ ?_ ?_
 ·rintro vis t ⟨times, many⟩ ht ⟨hv, hq⟩ hpre;cases hq
  have hvl : (vis ++ [t]).length ≤ ts.length := by have := hpre.length_le; simpa using this
  obtain ⟨h1, h2, h3⟩ := hs t ht;rw [hb _ _ t ht (by omega), add_ok h1 h2 hN h3 (by rw [List.length_map]; omega)];refine .some ⟨by omega, ?_⟩;rw [List.map_append, List.length_append];rfl
 ·rintro s ⟨hv, hq⟩;rw [hq];rfl
theorem lost_sorted' {n : Nat} {t : List Int} : (lostOf n t).Pairwise (· < ·) ∧ (∀ x ∈ lostOf n t, 0 ≤ x ∧ x < n) := ⟨lostOf_sorted n t, fun x hx => by have := mem_lostOf.1 hx; omega⟩
theorem mem_looseOf {mt t : List Int} {x : Int} : ∀ n, n ≤ mt.length → (x ∈ looseOf mt t n ↔ 0 ≤ x ∧ x < n ∧ x ∈ t ∧ 0 ≤ mateF mt x ∧ mateF mt x ∉ t) := by
 intro n
 induction n with
 | zero => intro _; simp only [looseOf, List.not_mem_nil, false_iff]; omega
 | succ n ih =>
  intro hn
  have hm : mt[n]? = some mt[n] := List.getElem?_eq_getElem (by omega)
  have hmf : mateF mt (n : Int) = mt[n] := by unfold mateF; rw [Int.toNat_natCast, hm]
  rw [looseOf, hm, List.mem_append, ih (by omega)];simp only
  constructor
  ·rintro (⟨h1, h2, h3⟩ | h)
   ·exact ⟨h1, by omega, h3⟩
   ·split at h
    ·rename_i hc
     rw [List.mem_singleton] at h;subst h;rw [hmf];exact ⟨by omega, by omega, hc⟩
    ·cases h
  ·rintro ⟨h1, h2, h3⟩
   by_cases e : x = n
   ·subst e;rw [hmf] at h3;refine .inr ?_;rw [if_pos h3];exact List.mem_singleton_self _
   ·exact .inl ⟨h1, by omega, h3⟩
theorem loose_sorted {mt t : List Int} : ∀ n, n ≤ mt.length → (looseOf mt t n).Pairwise (· < ·) := by
 intro n
 induction n with
 | zero => intro _; exact .nil
 | succ n ih =>
  intro hn
  have hm : mt[n]? = some mt[n] := List.getElem?_eq_getElem (by omega);rw [looseOf, hm];simp only;split
  ·rw [List.pairwise_append];refine ⟨ih (by omega), List.pairwise_singleton _ _, fun a ha b hb => ?_⟩;rw [List.mem_singleton] at hb;subst hb;exact ((mem_looseOf n (by omega)).1 ha).2.1
  ·rw [List.append_nil]; exact ih (by omega)
theorem c_Lost_ok {s : Int} {g : List Gat} {its : List Item} : P_c_Lost s g its = some (toldSaid (lostOf (lvs s g).length) s g its) := by
 unfold P_c_Lost toldSaid;rw [open_ok]
 by_cases e : (caseErr s g its).2.2 = 0
 ·rw [openRes_ok e, if_pos e]
  have h := case_good e
  have hnl := h.nl
  have hil := h.il
  have hg : (GSo true encL (lvs s g)).l = lvs s g := rfl;simp only [andx, hg];rw [chk_pos trivial, chk_pos (by omega), chk_pos ⟨hil, h.few⟩]
  have hz : List.replicate ((lvs s g).length : Int).toNat (0 : Int) = marr (lvs s g).length fun _ => 0 := by
   unfold marr; rw [Int.toNat_natCast, List.map_const', List.length_range]
  rw [hz, told_fold (ask := lostOf (lvs s g).length) (by omega) (by have := truths_le h; omega) (fun t ht => ⟨lostOf_sorted _ _, lost_sorted'.2, by have := lostOf_len (lvs s g).length t; omega⟩) (fun times many t ht hti => ?_)]
  ·simp only [seqx]
   have := tell_ok (N := (lvs s g).length) (ls := (truthsOf its).map (lostOf (lvs s g).length)) (by omega);rw [List.length_map] at this;rw [this]
  ·unfold P_c_Lost_L1;simp only;rw [chk_pos (i64_small (by omega))]
   have := lost_ok (s := s) (g := g) (its := its) (lv := lvs s g) (mt := matesOf s g) (t := t) (by have := (truths_in h t ht).1; omega) (by omega);unfold P_c_lost at this
   have h2 : (andx (P_c_there s g its (GSo true encL (lvs s g)).l (matesOf s g) t) fun y9 => andx (iter (P_c_Lost_L2 (GSo true encL (lvs s g)) y9) (0, [])) fun l => some l) = some (lostOf (lvs s g).length t) := this;rw [h2];rfl
 ·rw [openRes_err e, if_neg e];simp only [andx];rw [chk_pos e]
theorem c_Loose_ok {s : Int} {g : List Gat} {its : List Item} : P_c_Loose s g its = some (toldSaid (fun t => looseOf (matesOf s g) t (matesOf s g).length) s g its) := by
 unfold P_c_Loose toldSaid;rw [open_ok]
 by_cases e : (caseErr s g its).2.2 = 0
 ·rw [openRes_ok e, if_pos e]
  have h := case_good e
  have hnl := h.nl
  have hil := h.il
  have hml := mates_len s g
  have hg : (GSo true encL (lvs s g)).l = lvs s g := rfl;simp only [andx, hg];rw [chk_pos trivial, chk_pos (by omega), chk_pos ⟨hil, h.few⟩]
  have hz : List.replicate ((lvs s g).length : Int).toNat (0 : Int) = marr (lvs s g).length fun _ => 0 := by
   unfold marr; rw [Int.toNat_natCast, List.map_const', List.length_range]
  rw [hz, told_fold (ask := fun t => looseOf (matesOf s g) t (matesOf s g).length) (by omega) (by have := truths_le h; omega) (fun t ht => ⟨loose_sorted _ (Nat.le_refl _), fun x hx => by have := (mem_looseOf _ (Nat.le_refl _)).1 hx; omega, by have := looseOf_len (matesOf s g) t (matesOf s g).length; omega⟩) (fun times many t ht hti => ?_)]
  ·simp only [seqx]
   have := tell_ok (N := (lvs s g).length) (ls := (truthsOf its).map fun t => looseOf (matesOf s g) t (matesOf s g).length) (by omega);rw [List.length_map] at this
   have h4 : ∀ (a : Int) (b : List Int), P_c_Loose_L4 a b = P_c_Lost_L4 a b := fun a b => rfl
   rw [h4, this]
  ·unfold P_c_Loose_L1;simp only;rw [chk_pos (i64_small (by omega))]
   have := loose_ok (s := s) (g := g) (its := its) (lv := lvs s g) (mt := matesOf s g) (t := t) (by have := (truths_in h t ht).1; omega) (by omega);unfold P_c_loose at this
   have h2 : (andx (P_c_there s g its (GSo true encL (lvs s g)).l (matesOf s g) t) fun y10 => andx (iter (P_c_Loose_L2 (matesOf s g) y10) (0, [])) fun l => some l) = some (looseOf (matesOf s g) t (matesOf s g).length) := this;rw [h2];rfl
 ·rw [openRes_err e, if_neg e];simp only [andx];rw [chk_pos e]
theorem count_ok {ls : List (List Int)} {n : Int} (h : ls.length ≤ 1000000) (hl : ∀ l ∈ ls, l.length ≤ 1000000) : iter (P_r4_Lost_L3 ls n) (0, 0) = some ((cntIn ls n : Nat) : Int) := by
 refine Ok.get ?_;refine Ok.count (fun s => s.2) ls.length (fun k (s : Int × Int) => s.1 = ((cntIn (ls.take k) n : Nat) : Int)) rfl rfl ?_ ?_
 ·rintro k ⟨m, i⟩ hk hx hm;simp only at hx hm;subst hx hm
  have hcl := cntIn_le (ls.take k) n
  have htl : (ls.take k).length ≤ 1000000 := by rw [List.length_take]; omega
  unfold P_r4_Lost_L3;refine .ifp (by omega) (Ok.andx (P := fun m => m = ((cntIn (ls.take (k + 1)) n : Nat) : Int)) ?_ ?_)
  ·refine .el (by omega) fun a ha => ?_
   have ha := get_of ha rfl;rw [take_snoc ha, cntIn_snoc];refine .andx' (has_ok (hl a (List.mem_of_getElem? ha))) ?_;refine .ite (fun hc => .chk (i64_small (by omega)) (.some ?_)) (fun hc => .some ?_)
   ·show _ = _; rw [if_pos (of_decide_eq_true hc)]; rfl
   ·show _ = _; rw [if_neg (fun h => hc (decide_eq_true h))]; rfl
  ·rintro m rfl;exact .chk (i64_small (by omega)) (.some ⟨rfl, rfl⟩)
 ·rintro ⟨m, i⟩ hx hm;simp only at hx hm;unfold P_r4_Lost_L3;refine .ifn (by omega) (.some ?_)
  show m = _;rw [hm, List.take_length]
theorem both_ok {ls : List (List Int)} {lv : List Leaf} (h : ls.length ≤ 1000000) (hl : ∀ l ∈ ls, l.length ≤ 1000000) (hN : lv.length ≤ 1000000) : iter (P_r4_Lost_L2 ls lv) (0, [], []) = some (sureTo ls lv.length, mayTo ls lv.length) := by
 refine Ok.get ?_;refine Ok.count (fun s => s.1) lv.length (fun k (s : Int × List Int × List Int) => s.2 = (sureTo ls k, mayTo ls k)) rfl rfl ?_ ?_
 ·rintro k ⟨x, su, ma⟩ hk hx hq;simp only at hx hq;subst hx;cases hq
  have h1 := sureTo_len ls k
  have h2 := mayTo_len ls k;unfold P_r4_Lost_L2;refine .ifp (by omega) (Ok.andx (P := fun x => x = (sureTo ls (k + 1), mayTo ls (k + 1))) ?_ ?_)
  ·refine .andx' (count_ok h hl) ?_;refine Ok.andx (P := fun x => x = sureTo ls (k + 1)) ?_ ?_
   ·rw [sureTo];refine .ite (fun h => .chk (by simp; omega) (.some ?_)) (fun h => .some ?_)
    ·show _ = _; rw [if_pos (by omega)]
    ·show _ = _; rw [if_neg (by omega)]
   ·rintro x rfl;rw [mayTo];refine .ite (fun h => .chk (by simp; omega) (.some ?_)) (fun h => .some ?_)
    ·show _ = _; rw [if_pos (by omega)]
    ·show _ = _; rw [if_neg (by omega)]
  ·rintro x rfl;exact .chk (i64_small (by omega)) (.some ⟨rfl, rfl⟩)
 ·rintro ⟨x, su, ma⟩ hx hq;simp only at hx hq;unfold P_r4_Lost_L2;exact .ifn (by omega) (.some hq)
theorem Free_ok {s : Int} {g : List Gat} {t : List Int} (h : GoodBook s g) (ht : t.length ≤ 1000000) : P_r4_Free s g t = some (looseOf (matesOf s g) t (matesOf s g).length) := by
 refine Ok.get ?_;unfold P_r4_Free;refine .andx' (Mates_ok h.b0 h.nl) ?_
 have hml := mates_len s g
 have hnl := h.nl;generalize matesOf s g = mt at *;refine Ok.andx (P := fun l => l = looseOf mt t mt.length) (Ok.count Prod.fst mt.length (fun k s => s.2 = looseOf mt t k) rfl rfl ?_ ?_) fun _ h => .some h
 ·rintro k ⟨x, l⟩ hk hx hl';simp only at hx hl';subst hx hl'
  have hlen := looseOf_len mt t k
  have hm : mt[k]? = some mt[k] := List.getElem?_eq_getElem hk;generalize mt[k] = m at hm;unfold P_r4_Free_L1;refine .ifp (by omega) (Ok.andx (P := fun l => l = looseOf mt t (k + 1)) ?_ ?_)
  ·refine Ok.andx (P := fun b : Bool => b = true ↔ ((k : Int) ∈ t ∧ m ≥ 0 ∧ m ∉ t)) ?_ ?_
   ·refine .andx' (has_ok ht) ?_;refine .ite (fun hc => ?_) (fun hc => ?_)
    ·have h1 := of_decide_eq_true hc;refine .el (by omega) fun a ha => ?_
     have ha := get_of ha rfl;rw [hm] at ha;cases ha;refine .ite (fun hd => ?_) (fun hd => .some ?_)
     ·refine .el (by omega) fun a ha => ?_
      have ha := get_of ha rfl;rw [hm] at ha;cases ha;refine .andx' (has_ok ht) (.some ?_);simp [h1, hd]
     ·simp [hd]
    ·have h1 : (k : Int) ∉ t := fun h => hc (decide_eq_true h)
     exact .some (by simp [h1])
   ·rintro b hb;refine .ite (fun hc => ?_) (fun hc => ?_)
    ·refine .chk (by simp; omega) (.some ?_)
     show _ = _;rw [looseOf, hm];simp only;rw [if_pos (hb.1 hc)]
    ·refine .some ?_
     show _ = _;rw [looseOf, hm];simp only;rw [if_neg (fun h => hc (hb.2 h)), List.append_nil]
  ·rintro l' rfl;exact .chk (i64_small (by omega)) (.some ⟨rfl, rfl⟩)
 ·rintro ⟨x, l⟩ hx hl';simp only at hx hl';unfold P_r4_Free_L1;exact .ifn (by omega) (.some hl')
theorem lists_ok {A : Type} {ask : List Int → List Int} {ts : List (List Int)} {body : Int × List (List Int) → Option (Stp (Int × List (List Int)) (List (List Int)))} (hts : ts.length ≤ 1000)
  (hb : ∀ (k : Nat) t lists, ts[k]? = some t → lists.length ≤ 1000 → body (k, lists) = some (.ag ((k : Int) + 1, lists ++ [ask t]))) (he : ∀ lists, body ((ts.length : Int), lists) = some (.dn lists)) :
  iter body (0, []) = some (ts.map ask) := by
 refine Ok.get ?_;refine Ok.count (fun s => s.1) ts.length (fun k (s : Int × List (List Int)) => s.2 = (ts.take k).map ask) rfl rfl ?_ ?_
 ·rintro k ⟨i, lists⟩ hk hx hq;simp only at hx hq;subst hx hq;obtain ⟨t, ht⟩ : ∃ t, ts[k]? = some t := ⟨_, List.getElem?_eq_getElem hk⟩;rw [hb k t _ ht (by rw [List.length_map, List.length_take]; omega)];refine .some ⟨rfl, ?_⟩
  show _ = List.map ask (ts.take (k + 1));rw [take_snoc ht, List.map_append];rfl
 ·rintro ⟨i, lists⟩ hx hq;simp only at hx hq;subst hx;rw [he];refine .some ?_
  show lists = _;rw [hq, List.take_length]
theorem r4_Lost_ok {s : Int} {g : List Gat} {its : List Item} : P_r4_Lost s g its = some (toldSaid (lostOf (lvs s g).length) s g its) := by
  unfold P_r4_Lost toldSaid
  rw [r4_Check_ok]
  by_cases e : (caseErr s g its).2.2 = 0
  · have h := case_good e
    have hnl := h.nl
    have hil := h.il
    have htl := truths_le h
    obtain ⟨z, hz⟩ := All_ok h
    simp only [andx]
    rw [if_neg (by simp [e]), hz, if_pos e]
    simp only
    have hgl : (GSo z (encSl encI) (List.map (GSo true encI) (truthsOf its))).l = List.map (GSo true encI) (truthsOf its) := rfl
    rw [lists_ok (A := Unit) (ts := truthsOf its) (ask := lostOf (lvs s g).length) (by omega) (fun k t lists ht hll => ?_) (fun lists => ?_)]
    · simp only [All1_ok h.book]
      rw [both_ok (by rw [List.length_map]; omega) (fun l hl => by
        obtain ⟨t, ht, rfl⟩ := List.mem_map.1 hl
        have := lostOf_len (lvs s g).length t
        omega) (by omega)]
    · have hk := (List.getElem?_eq_some_iff.1 ht).1
      have := (truths_in h t (List.mem_of_getElem? ht)).1
      unfold P_r4_Lost_L1
      simp only [hgl]
      rw [if_pos (by rw [List.length_map]; omega), el_eq (a := GSo true encI t) (by rw [List.getElem?_map, ht]; rfl)]
      have hgo : (GSo true encI t).l = t := rfl
      rw [hgo, Gone_ok h.book (by omega)]
      simp only [andx]
      rw [chk_pos (by simp; omega), chk_pos (i64_small (by omega))]
    · unfold P_r4_Lost_L1
      simp only [hgl]
      rw [if_neg (by rw [List.length_map]; omega)]
  · simp only [andx]
    rw [if_pos e, if_neg e]
theorem r4_Loose_ok {s : Int} {g : List Gat} {its : List Item} : P_r4_Loose s g its = some (toldSaid (fun t => looseOf (matesOf s g) t (matesOf s g).length) s g its) := by
  unfold P_r4_Loose toldSaid
  rw [r4_Check_ok]
  by_cases e : (caseErr s g its).2.2 = 0
  · have h := case_good e
    have hnl := h.nl
    have hil := h.il
    have htl := truths_le h
    have hml := mates_len s g
    obtain ⟨z, hz⟩ := All_ok h
    simp only [andx]
    rw [if_neg (by simp [e]), hz, if_pos e]
    simp only
    have hgl : (GSo z (encSl encI) (List.map (GSo true encI) (truthsOf its))).l = List.map (GSo true encI) (truthsOf its) := rfl
    rw [lists_ok (A := Unit) (ts := truthsOf its) (ask := fun t => looseOf (matesOf s g) t (matesOf s g).length) (by omega) (fun k t lists ht hll => ?_) (fun lists => ?_)]
    · simp only [All1_ok h.book]
      have h4 : ∀ (a : List (List Int)) (b : List Leaf), P_r4_Loose_L2 a b = P_r4_Lost_L2 a b := fun a b => rfl
      rw [h4, both_ok (by rw [List.length_map]; omega) (fun l hl => by
        obtain ⟨t, ht, rfl⟩ := List.mem_map.1 hl
        have := looseOf_len (matesOf s g) t (matesOf s g).length
        omega) (by omega)]
    · have hk := (List.getElem?_eq_some_iff.1 ht).1
      have := (truths_in h t (List.mem_of_getElem? ht)).1
      unfold P_r4_Loose_L1
      simp only [hgl]
      rw [if_pos (by rw [List.length_map]; omega), el_eq (a := GSo true encI t) (by rw [List.getElem?_map, ht]; rfl)]
      have hgo : (GSo true encI t).l = t := rfl
      rw [hgo, Free_ok h.book (by omega)]
      simp only [andx]
      rw [chk_pos (by simp; omega), chk_pos (i64_small (by omega))]
    · unfold P_r4_Loose_L1
      simp only [hgl]
      rw [if_neg (by rw [List.length_map]; omega)]
  · simp only [andx]
    rw [if_pos e, if_neg e]
end Go.Am
end
section
namespace Go.Am
set_option linter.unusedVariables false
theorem ints_ok {a b : List Int} (h : a.length ≤ 1000000) : P_r1_Ints a b = some (decide (a = b)) := by unfold P_r1_Ints; rw [chk_pos (by omega)]
theorem told_len {ask : List Int → List Int} {s : Int} {g : List Gat} {its : List Item} : (toldSaid ask s g its).1.length ≤ 1000000 ∧ (toldSaid ask s g its).2.1.length ≤ 1000000 := by
 unfold toldSaid
 by_cases e : (caseErr s g its).2.2 = 0
 ·rw [if_pos e]
  have h := (case_good e).nl
  have h1 := sureTo_len ((truthsOf its).map ask) (lvs s g).length
  have h2 := mayTo_len ((truthsOf its).map ask) (lvs s g).length;simp only;omega
 ·rw [if_neg e]; simp
theorem comps_congr : ∀ (l l' : List Item) (p : List Int), (l.map fun x => x.could.l) = (l'.map fun x => x.could.l) → comps p l = comps p l' := by
 intro l
 induction l with
 | nil =>
  intro l' p h;cases l' with
  | nil => rfl
  | cons a b => cases h
 | cons x l ih =>
  intro l' p h;cases l' with
  | nil => cases h
  | cons y l' =>
   rw [List.map_cons, List.map_cons] at h
   injection h with h1 h2
   rw [comps, comps]
   have : chs x = chs y := by unfold chs; rw [h1]
   rw [this]
   congr 1
   funext c
   exact ih l' _ h2
theorem wide_congr {s : Int} {g : List Gat} {l l' : List Item} (h : (l.map fun x => x.could.l) = (l'.map fun x => x.could.l)) : wideOf s g l = wideOf s g l' := by
 unfold wideOf truthsOf;rw [comps_congr l l' [] h]
def knownIt (its : List Item) (i : Nat) (leaf : Int) : List Item := its.set i ⟨GSo true encI [leaf]⟩
theorem known_good {s : Int} {g : List Gat} {its : List Item} (h : GoodCase s g its) {i : Nat} {it : Item} {leaf : Int} (hi : its[i]? = some it) (hl : leaf ∈ it.could.l) : GoodCase s g (knownIt its i leaf) := by
 have hlt := (List.getElem?_eq_some_iff.1 hi).1
 have hmem := List.mem_of_getElem? hi;refine ⟨h.b0, h.nl, ?_, ?_, ?_, ?_⟩
 ·unfold knownIt; rw [List.length_set]; exact h.il
 ·intro x hx
  rcases List.mem_or_eq_of_mem_set hx with hx | rfl
  ·exact h.few x hx
  ·show [leaf].length ≤ 4; simp
 ·intro x hx n hn
  rcases List.mem_or_eq_of_mem_set hx with hx | rfl
  ·exact h.rng x hx n hn
  ·have hn : n ∈ [leaf] := hn;rw [List.mem_singleton] at hn;subst hn;exact h.rng it hmem n hl
 ·refine Nat.le_trans ?_ h.dbt;unfold knownIt;rw [List.set_eq_take_append_cons_drop, if_pos hlt]
  have e1 : its = its.take i ++ it :: its.drop (i + 1) := by rw [← drop_cons hi, List.take_append_drop]
  rw [List.countP_append, List.countP_cons]
  conv => rhs; rw [e1]
  rw [List.countP_append, List.countP_cons]
  have : decide (1 < ((⟨GSo true encI [leaf]⟩ : Item).could.l).length) = false := decide_eq_false (by show ¬ 1 < [leaf].length; simp);rw [this];simp
noncomputable def spanW (s : Int) (g : List Gat) (its : List Item) : Int := (wideOf s g its).2 - (wideOf s g its).1
theorem spanW_bounds {s : Int} {g : List Gat} {its : List Item} (h : GoodCase s g its) : 0 ≤ spanW s g its ∧ spanW s g its ≤ 1000000 := by
 obtain ⟨t, l, htl⟩ := truths_pos h.few
 have h1 := wide_has (s := s) (g := g) (its := its) (t := t) (by rw [htl]; exact List.mem_cons_self)
 have hb : 0 ≤ (wideOf s g its).1 ∧ (wideOf s g its).2 ≤ 1000 := by
  have key : ∀ (l : List (List Int)) (a b : Int), 0 ≤ a → b ≤ 1000 → (∀ t ∈ l, 0 ≤ manyOf s g t ∧ manyOf s g t ≤ 1000) → 0 ≤ (l.foldl (fun x t => (min x.1 (manyOf s g t), max x.2 (manyOf s g t))) (a, b)).1 ∧ (l.foldl (fun x t => (min x.1 (manyOf s g t), max x.2 (manyOf s g t))) (a, b)).2 ≤ 1000 := by
   intro l
   induction l with
   | nil => intro a b h1 h2 _; exact ⟨h1, h2⟩
   | cons u l ih =>
    intro a b h1 h2 h3;rw [List.foldl_cons]
    have := h3 u List.mem_cons_self;exact ih _ _ (by simp only; omega) (by simp only; omega) fun t ht => h3 t (List.mem_cons_of_mem _ ht)
  have hall : ∀ t ∈ truthsOf its, 0 ≤ manyOf s g t ∧ manyOf s g t ≤ 1000 := fun t ht => by
   have h2 := many_bounds s g t
   have h3 := (truths_in h t ht).1
   have := h.nl
   have := h.il;omega
  unfold wideOf;rw [htl] at hall ⊢
  have h4 := hall t List.mem_cons_self;exact key l _ _ h4.1 h4.2 fun t ht => hall t (List.mem_cons_of_mem _ ht)
 unfold spanW;omega
noncomputable def worstOf (s : Int) (g : List Gat) (its : List Item) (i : Nat) (could : List Int) : Int := could.foldl (fun m leaf => max m (spanW s g (knownIt its i leaf))) 0
theorem worst_bounds {s : Int} {g : List Gat} {its : List Item} (h : GoodCase s g its) {i : Nat} {it : Item} (hi : its[i]? = some it) : ∀ (l : List Int), (∀ x ∈ l, x ∈ it.could.l) → 0 ≤ worstOf s g its i l ∧ worstOf s g its i l ≤ 1000000 := by
 suffices k : ∀ (l : List Int) (a : Int), 0 ≤ a → a ≤ 1000000 → (∀ x ∈ l, x ∈ it.could.l) → 0 ≤ l.foldl (fun m leaf => max m (spanW s g (knownIt its i leaf))) a ∧ l.foldl (fun m leaf => max m (spanW s g (knownIt its i leaf))) a ≤ 1000000 from fun l hl => k l 0 (Int.le_refl _) (by omega) hl
 intro l
 induction l with
 | nil => intro a h1 h2 _; exact ⟨h1, h2⟩
 | cons x l ih =>
  intro a h1 h2 h3;rw [List.foldl_cons]
  have := spanW_bounds (known_good h hi (h3 x List.mem_cons_self));exact ih _ (by omega) (by omega) fun y hy => h3 y (List.mem_cons_of_mem _ hy)
theorem worst_snoc (s : Int) (g : List Gat) (its : List Item) (i : Nat) (l : List Int) (x : Int) : worstOf s g its i (l ++ [x]) = max (worstOf s g its i l) (spanW s g (knownIt its i x)) := by
 unfold worstOf; rw [List.foldl_append]; rfl
theorem Worst_ok {s : Int} {g : List Gat} {its : List Item} (h : GoodCase s g its) {i : Nat} {it : Item} (hi : its[i]? = some it) : P_r4_Worst s g its i = some (worstOf s g its i it.could.l) := by
 refine Ok.get ?_
 have hlt := (List.getElem?_eq_some_iff.1 hi).1
 have hil := h.il
 have hfew := h.few it (List.mem_of_getElem? hi);unfold P_r4_Worst;refine Ok.andx (P := fun x => x = worstOf s g its i it.could.l) (Ok.count (fun s => s.2) it.could.l.length (fun k (x : Int × Int) => x.1 = worstOf s g its i (it.could.l.take k)) rfl rfl ?_ ?_) fun _ h => .some h
 ·rintro k ⟨n, j⟩ hk hx hq;simp only at hx hq;subst hx hq;obtain ⟨x, hx⟩ : ∃ x, it.could.l[k]? = some x := ⟨_, List.getElem?_eq_getElem hk⟩
  have hg := known_good h hi (List.mem_of_getElem? hx)
  have hsb := spanW_bounds hg;unfold P_r4_Worst_L1;dsimp only;refine .el (by omega) fun a ha => ?_
  have ha := get_of ha rfl;rw [hi] at ha;cases ha;refine .ifp (by omega) (.el (by omega) fun a ha => ?_)
  have ha := get_of ha rfl;rw [hi] at ha;cases ha;refine .el (by omega) fun y hy => ?_
  have hy := get_of hy rfl;rw [hx] at hy;cases hy;refine .andx' (a := (s, [x], ([] : List Item) ++ its, (i : Int).toNat)) (Ok.get (.chk (by simp; omega) (.el (by simp; omega) fun a ha => .some rfl))) ?_
  have hw : P_r4_Wide s g (List.set (([] : List Item) ++ its) (i : Int).toNat ⟨GSo false encI [x]⟩) = some (wideOf s g (knownIt its i x)) := by
   have hg2 : GoodCase s g (its.set i ⟨GSo false encI [x]⟩) := by
    have e1 : ∀ y ∈ its.set i (⟨GSo false encI [x]⟩ : Item), ∃ z ∈ knownIt its i x, z.could.l = y.could.l := fun y hy => by
     obtain ⟨j, hj⟩ := List.mem_iff_getElem?.1 hy;rw [List.getElem?_set] at hj
     by_cases e : i = j
     ·subst e;rw [if_pos rfl, if_pos hlt] at hj;cases hj;exact ⟨⟨GSo true encI [x]⟩, List.mem_of_getElem? (i := i) (by unfold knownIt; rw [List.getElem?_set, if_pos rfl, if_pos hlt]), rfl⟩
     ·rw [if_neg e] at hj;exact ⟨y, List.mem_of_getElem? (i := j) (by unfold knownIt; rw [List.getElem?_set, if_neg e]; exact hj), rfl⟩
    refine ⟨h.b0, h.nl, by rw [List.length_set]; exact hil, fun y hy => ?_, fun y hy n hn => ?_, ?_⟩
    ·obtain ⟨z, hz, e⟩ := e1 y hy; rw [← e]; exact hg.few z hz
    ·obtain ⟨z, hz, e⟩ := e1 y hy; rw [← e] at hn; exact hg.rng z hz n hn
    ·have := hg.dbt;unfold knownIt at this;rw [List.set_eq_take_append_cons_drop, if_pos hlt, List.countP_append, List.countP_cons] at this ⊢;exact this
   rw [List.nil_append, Int.toNat_natCast, Wide_ok hg2];refine congrArg some (wide_congr ?_);unfold knownIt;rw [List.map_set, List.map_set];rfl
  refine .andx' hw ?_
  have hdiff : (wideOf s g (knownIt its i x)).2 - (wideOf s g (knownIt its i x)).1 = spanW s g (knownIt its i x) := rfl
  show Ok (chk (I64 ((wideOf s g (knownIt its i x)).2 - (wideOf s g (knownIt its i x)).1)) _) _;rw [hdiff];refine .chk (i64_small (by omega)) (.chk (i64_small (by omega)) (.some ⟨rfl, ?_⟩))
  show max _ _ = _;rw [take_snoc hx, worst_snoc]
 ·rintro ⟨n, j⟩ hx hq;simp only at hx hq;unfold P_r4_Worst_L1;dsimp only;refine .el (by omega) fun a ha => ?_
  have ha := get_of ha rfl;rw [hi] at ha;cases ha;refine .ifn (by omega) (.some ?_)
  show n = _;rw [hq, List.take_length]
theorem cworst_ok {s s' : Int} {g : List Gat} {its : List Item} (h : GoodCase s g its) {i : Nat} {it : Item} (hi : its[i]? = some it) : iter (P_c_Ask_L2 g its s' (GSo true encL (lvs s g)) (matesOf s g) i it) (0, 0) = some (worstOf s g its i it.could.l) := by
 refine Ok.get ?_
 have hlt := (List.getElem?_eq_some_iff.1 hi).1
 have hil := h.il
 have hfew := h.few it (List.mem_of_getElem? hi);refine Ok.count (fun s => s.2) it.could.l.length (fun k (x : Int × Int) => x.1 = worstOf s g its i (it.could.l.take k)) rfl rfl ?_ ?_
 ·rintro k ⟨n, j⟩ hk hx hq;simp only at hx hq;subst hx hq;obtain ⟨x, hx⟩ : ∃ x, it.could.l[k]? = some x := ⟨_, List.getElem?_eq_getElem hk⟩
  have hg := known_good h hi (List.mem_of_getElem? hx)
  have hsb := spanW_bounds hg;unfold P_c_Ask_L2;refine .ifp (by omega) (.andx' (a := ([] : List Item) ++ its) (Ok.get (.chk (by omega) (.chk (by simp; omega) (.some rfl)))) ?_);refine .chk (i64_small (by omega)) (.chk (by omega) (.chk (by omega) (.el (by simp; omega) fun a ha => ?_)))
  have e1 : List.take (((k : Int) + 1) - (k : Int)).toNat (List.drop (k : Int).toNat it.could.l) = [x] := by
   rw [show (((k : Int) + 1) - (k : Int)).toNat = 1 by omega, Int.toNat_natCast, drop_cons hx];rfl
  rw [e1]
  have hw : P_c_wide s' g (List.set (([] : List Item) ++ its) (i : Int).toNat ⟨GSo true encI [x]⟩) (GSo true encL (lvs s g)).l (matesOf s g) = some (wideOf s g (knownIt its i x)) := by
   rw [List.nil_append, Int.toNat_natCast];exact wide_ok hg
  refine .andx' hw ?_
  have hdiff : (wideOf s g (knownIt its i x)).2 - (wideOf s g (knownIt its i x)).1 = spanW s g (knownIt its i x) := rfl
  show Ok (chk (I64 ((wideOf s g (knownIt its i x)).2 - (wideOf s g (knownIt its i x)).1)) _) _;rw [hdiff];refine .chk (i64_small (by omega)) (.chk (i64_small (by omega)) (.some ⟨rfl, ?_⟩))
  show max _ _ = _;rw [take_snoc hx, worst_snoc];rfl
 ·rintro ⟨n, j⟩ hx hq;simp only at hx hq;unfold P_c_Ask_L2;refine .ifn (by omega) (.some ?_)
  show n = _;rw [hq, List.take_length]
noncomputable def worstAt (s : Int) (g : List Gat) (its : List Item) (i : Nat) : Int := match its[i]? with | some it => worstOf s g its i it.could.l | none => 0
noncomputable def askTo (s : Int) (g : List Gat) (its : List Item) : Nat → Option Nat
 | 0 => none
 | k + 1 => match its[k]? with
  | some it => if 1 < it.could.l.length then (match askTo s g its k with | none => some k | some b => if worstAt s g its k < worstAt s g its b then some k else some b) else askTo s g its k
  | none => askTo s g its k
theorem askTo_lt (s : Int) (g : List Gat) (its : List Item) : ∀ k, ∀ b, askTo s g its k = some b → b < k ∧ ∃ it, its[b]? = some it ∧ 1 < it.could.l.length := by
 intro k
 induction k with
 | zero => intro b h; cases h
 | succ k ih =>
  intro b h;rw [askTo] at h;split at h
  ·rename_i it hit
   split at h
   ·rename_i hl
    split at h
    ·cases h; exact ⟨by omega, it, hit, hl⟩
    ·rename_i b' hb'
     split at h
     ·cases h; exact ⟨by omega, it, hit, hl⟩
     ·cases h; have := ih b hb'; exact ⟨by omega, this.2⟩
   ·have := ih b h; exact ⟨by omega, this.2⟩
  ·have := ih b h; exact ⟨by omega, this.2⟩
noncomputable def askSaid (s : Int) (g : List Gat) (its : List Item) : Int × Int :=
 if (caseErr s g its).2.2 = 0 then (match askTo s g its its.length with | none => (0, 4) | some b => ((b : Int), 0)) else (0, (caseErr s g its).2.2)
theorem c_Ask_ok {s : Int} {g : List Gat} {its : List Item} : P_c_Ask s g its = some (askSaid s g its) := by
 refine Ok.get ?_;unfold P_c_Ask askSaid;rw [open_ok]
 by_cases e : (caseErr s g its).2.2 = 0
 ·rw [openRes_ok e, if_pos e]
  have h := case_good e
  have hil := h.il;simp only [andx];refine .chk trivial ?_
  show Ok (andx _ _) _;refine Ok.andx (P := fun x : Int × Int => match askTo s g its its.length with | none => x = (0, -1) | some b => x = ((b : Int), worstAt s g its b)) (Ok.count (fun s => s.2.2) its.length (fun k (x : Int × Int × Int) => match askTo s g its k with | none => x.1 = 0 ∧ x.2.1 = -1 | some b => x.1 = b ∧ x.2.1 = worstAt s g its b) rfl ⟨rfl, rfl⟩ ?_ ?_) ?_
  ·rintro k ⟨item, best, x⟩ hk hx hq;simp only at hx hq;subst hx;obtain ⟨it, hit⟩ : ∃ it, its[k]? = some it := ⟨_, List.getElem?_eq_getElem hk⟩
   have hwb := worst_bounds h hit it.could.l fun _ h => h
   have hwa : worstAt s g its k = worstOf s g its k it.could.l := by unfold worstAt; rw [hit]
   unfold P_c_Ask_L1;refine .ifp (by omega) (Ok.andx (P := fun x : Int × Int => match askTo s g its (k + 1) with | none => x.1 = 0 ∧ x.2 = -1 | some b => x.1 = b ∧ x.2 = worstAt s g its b) ?_ ?_)
   ·refine .el (by omega) fun a ha => ?_
    have ha := get_of ha rfl;rw [hit] at ha;cases ha;rw [askTo, hit];dsimp only;refine .ite (fun hl => .some ?_) (fun hl => ?_)
    ·rw [if_neg (by omega)]; exact hq
    ·rw [if_pos (by omega)];refine .andx' (cworst_ok h hit) ?_;cases hb : askTo s g its k with
     | none =>
      rw [hb] at hq;obtain ⟨rfl, rfl⟩ := hq;refine .andx' (a := true) (Ok.get (.ifp (by omega) (.some rfl))) (.ifp rfl (.some ⟨rfl, hwa.symm⟩))
     | some b =>
      rw [hb] at hq;obtain ⟨rfl, rfl⟩ := hq;obtain ⟨hbk, itb, hitb, _⟩ := askTo_lt s g its k b hb
      have hwbb := worst_bounds h hitb itb.could.l fun _ h => h
      have hwab : worstAt s g its b = worstOf s g its b itb.could.l := by unfold worstAt; rw [hitb]
      refine .andx' (a := decide (worstOf s g its k it.could.l < worstAt s g its b)) (Ok.get (.ifn (by omega) (.some rfl))) ?_;dsimp only;rw [hwa];refine .ite (fun hc => .some ?_) (fun hc => .some ?_)
      ·rw [if_pos (of_decide_eq_true hc)]; exact ⟨rfl, hwa.symm⟩
      ·rw [if_neg (fun h => hc (decide_eq_true h))]; exact ⟨rfl, rfl⟩
   ·rintro ⟨a, b⟩ hab;exact .chk (i64_small (by omega)) (.some ⟨rfl, hab⟩)
  ·rintro ⟨item, best, x⟩ hx hq;simp only at hx hq;unfold P_c_Ask_L1;refine .ifn (by omega) (.some ?_)
   show match askTo s g its its.length with | none => (item, best) = _ | some b => (item, best) = _;cases hb : askTo s g its its.length with
   | none => rw [hb] at hq; simp only; rw [hq.1, hq.2]
   | some b => rw [hb] at hq; simp only; rw [hq.1, hq.2]
  ·rintro ⟨item, best⟩ hq;cases hb : askTo s g its its.length with
   | none =>
    rw [hb] at hq;cases hq;exact .ifp (by omega) (.some rfl)
   | some b =>
    rw [hb] at hq;cases hq;obtain ⟨hbk, itb, hitb, _⟩ := askTo_lt s g its _ b hb
    have hwbb := worst_bounds h hitb itb.could.l fun _ h => h
    have hwab : worstAt s g its b = worstOf s g its b itb.could.l := by unfold worstAt; rw [hitb]
    exact .ifn (by omega) (.some rfl)
 ·rw [openRes_err e, if_neg e];simp only [andx];exact .chk e (.some rfl)
theorem r4_Ask_ok {s : Int} {g : List Gat} {its : List Item} : P_r4_Ask s g its = some (askSaid s g its) := by
 refine Ok.get ?_;unfold P_r4_Ask askSaid;rw [r4_Check_ok];simp only [andx]
 by_cases e : (caseErr s g its).2.2 = 0
 ·have h := case_good e
  have hil := h.il;rw [if_neg (by simp [e]), if_pos e]
  show Ok (andx _ _) _;refine Ok.andx (P := fun x : Int => match askTo s g its its.length with | none => x = -1 | some b => x = (b : Int)) (Ok.count (fun s => s.2) its.length (fun k (x : Int × Int) => match askTo s g its k with | none => x.1 = -1 | some b => x.1 = b) rfl rfl ?_ ?_) ?_
  ·rintro k ⟨best, x⟩ hk hx hq;simp only at hx hq;subst hx;obtain ⟨it, hit⟩ : ∃ it, its[k]? = some it := ⟨_, List.getElem?_eq_getElem hk⟩
   have hwa : worstAt s g its k = worstOf s g its k it.could.l := by unfold worstAt; rw [hit]
   unfold P_r4_Ask_L1;refine .ifp (by omega) (Ok.andx (P := fun x : Int => match askTo s g its (k + 1) with | none => x = -1 | some b => x = b) ?_ ?_)
   ·rw [askTo, hit];dsimp only;cases hb : askTo s g its k with
    | none =>
     rw [hb] at hq;subst hq;refine Ok.andx (P := fun b : Bool => b = true ↔ 1 < it.could.l.length) ?_ ?_
     ·refine .el (by omega) fun a ha => ?_
      have ha := get_of ha rfl;rw [hit] at ha;cases ha;refine .ite (fun hl => .ifp (by omega) (.some (by simp only [true_iff]; omega))) (fun hl => .some (by simp only [Bool.false_eq_true, false_iff]; omega))
     ·rintro c hc;refine .ite (fun h => .some ?_) (fun h => .some ?_)
      ·rw [if_pos (hc.1 h)]
      ·rw [if_neg (fun h2 => h (hc.2 h2))]
    | some b =>
     rw [hb] at hq;subst hq;obtain ⟨hbk, itb, hitb, _⟩ := askTo_lt s g its k b hb
     have hwab : worstAt s g its b = worstOf s g its b itb.could.l := by unfold worstAt; rw [hitb]
     refine Ok.andx (P := fun c : Bool => c = true ↔ (1 < it.could.l.length ∧ worstAt s g its k < worstAt s g its b)) ?_ ?_
     ·refine .el (by omega) fun a ha => ?_
      have ha := get_of ha rfl;rw [hit] at ha;cases ha;refine .ite (fun hl => .ifn (by omega) (.andx' (Worst_ok h hit) (.andx' (Worst_ok h hitb) (.some ?_)))) (fun hl => .some (by simp only [Bool.false_eq_true, false_iff]; omega));rw [decide_eq_true_iff, hwa, hwab];exact ⟨fun h => ⟨by omega, h⟩, fun h => h.2⟩
     ·rintro c hc;refine .ite (fun h => .some ?_) (fun h => .some ?_)
      ·rw [if_pos (hc.1 h).1];dsimp only;rw [if_pos (hc.1 h).2]
      ·by_cases h1 : 1 < it.could.l.length
       ·rw [if_pos h1];dsimp only;rw [if_neg (fun h2 => h (hc.2 ⟨h1, h2⟩))]
       ·rw [if_neg h1]
   ·rintro a ha;exact .chk (i64_small (by omega)) (.some ⟨rfl, ha⟩)
  ·rintro ⟨best, x⟩ hx hq;simp only at hx hq;unfold P_r4_Ask_L1;exact .ifn (by omega) (.some hq)
  ·rintro best hq;cases hb : askTo s g its its.length with
   | none => rw [hb] at hq; subst hq; exact .ifp (by omega) (.some rfl)
   | some b => rw [hb] at hq; subst hq; exact .ifn (by omega) (.some rfl)
 ·rw [if_pos e, if_neg e];exact .some rfl
theorem CopyLost_true (s : Int) (g : List Gat) (its : List Item) : P_law_CopyLost s g its = some true := by
 refine Ok.get ?_;unfold P_law_CopyLost
 have hl := told_len (ask := lostOf (lvs s g).length) (s := s) (g := g) (its := its)
 have ho := told_len (ask := fun t => looseOf (matesOf s g) t (matesOf s g).length) (s := s) (g := g) (its := its)
 have a1 := c_Lost_ok (s := s) (g := g) (its := its)
 have a2 := r4_Lost_ok (s := s) (g := g) (its := its)
 have a3 := c_Loose_ok (s := s) (g := g) (its := its)
 have a4 := r4_Loose_ok (s := s) (g := g) (its := its);generalize toldSaid (lostOf (lvs s g).length) s g its = x at *;generalize toldSaid (fun t => looseOf (matesOf s g) t (matesOf s g).length) s g its = y at *;obtain ⟨x1, x2, x3⟩ := x;obtain ⟨y1, y2, y3⟩ := y;refine .andx' a1 (.andx' a2 ?_);refine Ok.seqx (.andx' (a := false) (Ok.get (.andx' (ints_ok hl.1) (.ifp (by simp) (.andx' (ints_ok hl.2) (.ifp (by simp) (.some (by simp))))))) (.ifn (by simp) (.some ?_)))
 show Ok _ _;refine .andx' a3 (.andx' a4 ?_);refine Ok.seqx (.andx' (a := false) (Ok.get (.andx' (ints_ok ho.1) (.ifp (by simp) (.andx' (ints_ok ho.2) (.ifp (by simp) (.some (by simp))))))) (.ifn (by simp) (.some ?_)))
 show Ok _ _
 have a5 := c_Ask_ok (s := s) (g := g) (its := its)
 have a6 := r4_Ask_ok (s := s) (g := g) (its := its);generalize askSaid s g its = z at *;obtain ⟨z1, z2⟩ := z;refine .andx' a5 (.andx' a6 ?_);refine .andx' (a := true) (Ok.get (.ifp rfl (.ifp rfl (.some rfl)))) (.some rfl)
end Go.Am
end
section

end
section
namespace Go.Am.YthckcbfijdambaaGreat
open Go.Am Go.RowKit
theorem copyLost_calls (w : World) (c_Book_Signed : Int) (c_Book_Gatherings : GS encG) (c_Items : GS encIt) (xs : List Value) (h : RelL (snapR w 0) [.agg [iv (c_Book_Signed), c_Book_Gatherings.v, c_Items.v]] xs) :
  Calls Go.Proofs.Tryz.prog 3 xs.toArray w fun e w' => e = .returned (.bool true) ∧ Below w.heap.size w w' :=
 ((w_law_CopyLost c_Book_Signed c_Book_Gatherings c_Items true (CopyLost_true _ _ _)).runsTo.calls (EL_good 6) w xs h).mono fun e w' ⟨x, he, hr, hb⟩ => ⟨by rw [he]; cases hr; rfl, hb⟩
end Go.Am.YthckcbfijdambaaGreat
namespace Go.Proofs.YthckcbfijdambaaGreat.copyLost
open Go.ChangeShapes Go.WideShapes Go.ChangeAt Go.RowKit
set_option linter.unusedVariables false
theorem own : ownKnob Tryz.prog.godebug = none := by kernel_rfl
theorem laid : laidOutB Tryz.prog = true := by kernel_rfl
set_option maxRecDepth 100000 in
theorem lifted (os : Os) (started : os.Started) (H : Type) (enc : TypeId × Value → H) :
  ReturnsInHanded {} Tryz.checked os 3 .any (Rows.copyLostSpec.pre6 enc Tryz.prog Tryz.f3 Rows.copyLostRow.domain false) (Rows.copyLostSpec.post enc Tryz.prog Tryz.f3 false true false false) := by
 refine returnsInHanded_of_change (C := Tryz.checked) own started (by kernel_rfl) Tryz.func3
  (ChangeSpec.witness6 (enc := enc) (C := Tryz.checked) false ⟨#[], #[.agg #[.int .i64 0, .slice none 0 0, .slice none 0 0]], []⟩ 8 (by kernel_rfl) (by kernel_rfl) (by kernel_rfl) (by kernel_rfl)) ?_
 intro W base args ds gs before hval0 hW hcnd _
 have hW' := hW;obtain ⟨p, q, hA0, hV, rfl, hfz, hnd⟩ := hW
 have hA : DataW.TrodAll enc Tryz.prog W 0 (fun _ => true) true Tryz.f3.params.toList args.toList ds p := hA0
 have hval : ∀ (j : Nat) t v, Tryz.f3.params[j]? = some t → args[j]? = some v → Value.okWide Tryz.prog W .any base t v := hval0;rw [Tryz.params3] at hA hval;obtain ⟨v0, d0, rfl, rfl, h0⟩ := trodAll_one hA;obtain ⟨rfl, rfl⟩ := trodVars_none hV;obtain ⟨x0, r0⟩ := Go.Am.YthckcbfijdambaaGreat.li_27.arg Tryz.underlying27 (hval 0 27 v0 rfl rfl) h0
 clear hA0 hval0
 refine (Go.Am.YthckcbfijdambaaGreat.copyLost_calls W x0.book.signed x0.book.gs x0.items [v0] (.cons r0 (.nil _))).mono fun e W' ⟨he, bel⟩ => ?_
 subst he
 have hlt : ∀ x ∈ p, x.block < W.heap.size := fun x hx => hW'.lt x (by simpa using hx)
 have k0 := Below.trod laid (by kernel_rfl) (of_decide_eq_true (by kernel_rfl)) h0 bel fun x hx => hlt x (by simp [hx])
 exact ⟨_, rfl, _, _, _, [], _, [], hW', trodAll_mk1 (shut_bool Tryz.underlying4 _), trodAll_mk1 k0, rfl, bel.frame _, fun h => by cases h⟩
theorem over : Rows.copyLostRow.holds Tryz.pinned (OpenSpec.ofChange Rows.copyLostSpec) :=
 OpenClaim.holds_of_wide 3 Tryz.f3 rfl rfl rfl rfl rfl rfl rfl ⟨rfl, rfl, rfl, rfl, rfl⟩ rfl rfl rfl rfl rfl (by kernel_rfl) Tryz.func3 (by kernel_rfl)
  (of_decide_eq_true (by kernel_rfl)) (by unfold Func.isWrapper; first | (rw [if_pos (by decide +kernel)]; kernel_rfl) | (rw [if_neg (by decide +kernel)]; exact ⟨rfl, rfl⟩))
  (fun os started H enc _ => lifted os started H enc)
theorem proved : Rows.CopyLostSaid := over
#print axioms proved
end Go.Proofs.YthckcbfijdambaaGreat.copyLost
end
