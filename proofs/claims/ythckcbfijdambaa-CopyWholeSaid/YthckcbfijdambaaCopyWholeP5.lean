/- Part 5. -/
import Derived.Test.YthckcbfijdambaaCopyWholeP4
import Derived.WalkKit
import Derived.ProofKit
import Derived.OpenShut
import Derived.ChangeOld
import Derived.Below
import Derived.Carry
section
namespace Go.Am
set_option linter.unusedVariables false
noncomputable def pickT (s : Int) (g : List Gat) (b t : List Int) : List Int := if manyOf s g t < manyOf s g b then t else b
noncomputable def bestOf (s : Int) (g : List Gat) (its : List Item) : List Int := match truthsOf its with | [] => [] | t :: l => l.foldl (pickT s g) t
theorem pick_fold (s : Int) (g : List Gat) : ∀ (l : List (List Int)) (b : List Int), (l.foldl (pickT s g) b = b ∨ l.foldl (pickT s g) b ∈ l) ∧ manyOf s g (l.foldl (pickT s g) b) ≤ manyOf s g b ∧ ∀ t ∈ l, manyOf s g (l.foldl (pickT s g) b) ≤ manyOf s g t := by
 intro l
 induction l with
 | nil => intro b; exact ⟨.inl rfl, Int.le_refl _, fun t h => by cases h⟩
 | cons u l ih =>
  intro b;rw [List.foldl_cons];obtain ⟨h1, h2, h3⟩ := ih (pickT s g b u)
  have hp : (pickT s g b u = b ∨ pickT s g b u = u) ∧ manyOf s g (pickT s g b u) ≤ manyOf s g b ∧ manyOf s g (pickT s g b u) ≤ manyOf s g u := by
   unfold pickT;split
   ·exact ⟨.inr rfl, by omega, by omega⟩
   ·exact ⟨.inl rfl, by omega, by omega⟩
  refine ⟨?_, by omega, fun t ht => ?_⟩
  ·rcases h1 with h1 | h1
   ·rcases hp.1 with e | e
    ·exact .inl (h1.trans e)
    ·rw [e] at h1; exact .inr (by rw [e, h1]; exact List.mem_cons_self)
   ·exact .inr (List.mem_cons_of_mem _ h1)
  ·rcases List.mem_cons.1 ht with rfl | ht
   ·omega
   ·exact h3 t ht
theorem best_in {s : Int} {g : List Gat} {its : List Item} (hf : ∀ x ∈ its, x.could.l.length ≤ 4) : bestOf s g its ∈ truthsOf its ∧ ∀ t ∈ truthsOf its, manyOf s g (bestOf s g its) ≤ manyOf s g t := by
 obtain ⟨t, l, h⟩ := truths_pos hf
 have e : bestOf s g its = l.foldl (pickT s g) t := by unfold bestOf; rw [h]
 obtain ⟨h1, h2, h3⟩ := pick_fold s g l t;rw [e, h];refine ⟨?_, fun u hu => ?_⟩
 ·rcases h1 with h1 | h1
  ·rw [h1]; exact List.mem_cons_self
  ·exact List.mem_cons_of_mem _ h1
 ·rcases List.mem_cons.1 hu with rfl | hu
  ·exact h2
  ·exact h3 u hu
noncomputable def faultsSaid (s : Int) (g : List Gat) (its : List Item) : List Int × Bool × List Int × Bool × Int × List Int × Bool × List Int × Bool × List Int × Bool × Int × Int :=
 if okCase s g its then (bestOf s g its, false, lostOf (lvs s g).length (bestOf s g its), true, piecesOf (matesOf s g) (lostOf (lvs s g).length (bestOf s g its)), strangeOf (bestOf s g its), true, twiceOf (bestOf s g its), true, movedOf (runsOf (gathOf (lvs s g)) (bestOf s g its)), true, manyOf s g (bestOf s g its), 0)
 else ([], true, [], true, 0, [], true, [], true, [], true, 0, (caseErr s g its).2.2)
noncomputable def cst (s : Int) (g : List Gat) (t : List Int) : (List Int) × Bool × (List Int) × (List Int) × (List Int) × (List Int) × Bool × Int × Int :=
 (t, false, lostOf (lvs s g).length t, strangeOf t, twiceOf t, movedOf (runsOf (gathOf (lvs s g)) t), false, piecesOf (matesOf s g) (lostOf (lvs s g).length t), manyOf s g t)
theorem cstep {s : Int} {g : List Gat} {its : List Item} (h : GoodCase s g its) {b t : List Int} (ht : t ∈ truthsOf its) :
  P_c_Faults_L1 g its s (GSo true encL (lvs s g)) (matesOf s g) (cst s g b) t = some (.ag (cst s g (pickT s g b t))) := by
 have hl := (truths_in h t ht).1
 have hil := h.il
 have hgo : (GSo true encL (lvs s g)).l = lvs s g := rfl;unfold P_c_Faults_L1 cst;simp only [hgo];rw [cfaults_ok h ht];simp only [andx];rw [if_neg Bool.false_ne_true];simp only;unfold pickT
 by_cases hc : manyOf s g t < manyOf s g b
 ·rw [if_pos hc]
  have : ¬ (decide (manyOf s g t ≥ manyOf s g b) = true) := by simp; exact hc
  rw [if_neg this];simp only [seqx];rw [chk_pos (by omega), chk_pos (by simp)]
 ·rw [if_neg hc]
  have : decide (manyOf s g t ≥ manyOf s g b) = true := decide_eq_true (by omega);rw [if_pos this];rfl
theorem cfold {s : Int} {g : List Gat} {its : List Item} (h : GoodCase s g its) : ∀ (l : List (List Int)) (b : List Int), (∀ t ∈ l, t ∈ truthsOf its) →
  foldx (P_c_Faults_L1 g its s (GSo true encL (lvs s g)) (matesOf s g)) l (cst s g b) = some (.nx (cst s g (l.foldl (pickT s g) b))) := by
 intro l
 induction l with
 | nil => intro b _; rfl
 | cons u l ih =>
  intro b hm;unfold foldx;rw [cstep h (hm u List.mem_cons_self)];exact ih _ fun t ht => hm t (List.mem_cons_of_mem _ ht)
theorem cfirst {s : Int} {g : List Gat} {its : List Item} (h : GoodCase s g its) {t : List Int} (ht : t ∈ truthsOf its) :
  P_c_Faults_L1 g its s (GSo true encL (lvs s g)) (matesOf s g) ([], true, [], [], [], [], true, 0, 0) t = some (.ag (cst s g t)) := by
 have hl := (truths_in h t ht).1
 have hil := h.il
 have hgo : (GSo true encL (lvs s g)).l = lvs s g := rfl;unfold P_c_Faults_L1 cst;simp only [hgo];rw [cfaults_ok h ht];simp only [andx, if_true, Bool.false_eq_true, if_false, seqx];rw [chk_pos (by omega), chk_pos (by simp)]
theorem c_Faults_ok {s : Int} {g : List Gat} {its : List Item} : P_c_Faults s g its = some (faultsSaid s g its) := by
 unfold P_c_Faults faultsSaid;rw [open_ok]
 by_cases e : okCase s g its
 ·have h := case_good e;rw [openRes_ok e, if_pos e];simp only [andx];rw [chk_pos trivial, chk_pos ⟨h.il, h.few⟩];obtain ⟨t, l, htl⟩ := truths_pos h.few
  have hb : bestOf s g its = l.foldl (pickT s g) t := by unfold bestOf; rw [htl]
  have hfx : foldx (P_c_Faults_L1 g its s (GSo true encL (lvs s g)) (matesOf s g)) (truthsOf its) ([], true, [], [], [], [], true, 0, 0) = some (.nx (cst s g (bestOf s g its))) := by
   rw [htl, hb];unfold foldx;rw [cfirst h (by rw [htl]; exact List.mem_cons_self)];exact cfold h l t fun u hu => by rw [htl]; exact List.mem_cons_of_mem _ hu
  rw [hfx];simp only [seqx, cst]
 ·rw [openRes_err e, if_neg e];simp only [andx];rw [chk_pos e]
theorem follow_at (last : Int) : ∀ (ps : List (S_copy_run × Int)) (a : Int), follow last ps a = a ∨ ∃ p ∈ ps, p.1.first > last ∧ p.2 = follow last ps a := by
 intro ps
 induction ps with
 | nil => intro a; exact .inl rfl
 | cons p ps ih =>
  intro a;rw [follow_cons]
  rcases ih (if p.1.first > last then max a p.2 else a) with h | ⟨q, hq, h1, h2⟩
  ·rw [h];split
   ·rename_i hc
    by_cases hm : a ≤ p.2
    ·exact .inr ⟨p, List.mem_cons_self, hc, by omega⟩
    ·exact .inl (by omega)
   ·exact .inl rfl
  ·exact .inr ⟨q, List.mem_cons_of_mem _ hq, h1, h2⟩
theorem follow_mono (last : Int) : ∀ (ps : List (S_copy_run × Int)) (a b : Int), a ≤ b → follow last ps a ≤ follow last ps b := by
 intro ps
 induction ps with
 | nil => intro a b h; exact h
 | cons p ps ih =>
  intro a b h;rw [follow_cons, follow_cons];refine ih _ _ ?_;split <;> omega
theorem moved_count : ∀ (l : List S_copy_run) (b last : Int), 0 ≤ b → (b = 0 ∨ ∃ p ∈ l.zip (chains l), p.2 = b ∧ p.1.first > last) → ((movedFrom (l.zip (chains l)) b last).length : Int) + b = l.length := by
  intro l
  induction l with
  | nil =>
    intro b last hb h
    rcases h with rfl | ⟨p, hp, _⟩
    · rfl
    · cases hp
  | cons r l ih =>
    intro b last hb h
    rw [chains, List.zip_cons_cons, movedFrom]
    have hbd := chains_bounds (r :: l)
    by_cases hc : follow r.last (l.zip (chains l)) 0 + 1 = b ∧ r.first > last
    · rw [if_pos hc]
      have h1 := follow_ge r.last (l.zip (chains l)) 0
      have := ih (b - 1) r.last (by omega) (by
        rcases follow_at r.last (l.zip (chains l)) 0 with e | ⟨p, hp, h1, h2⟩
        · exact .inl (by omega)
        · exact .inr ⟨p, hp, by omega, h1⟩)
      rw [List.length_cons]
      show ((movedFrom (l.zip (chains l)) (b - 1) r.last).length : Int) + b = _
      omega
    · rw [if_neg hc]
      have := ih b last hb (by
        rcases h with h | ⟨p, hp, h1, h2⟩
        · exact .inl h
        · rw [chains, List.zip_cons_cons] at hp
          rcases List.mem_cons.1 hp with rfl | hp
          · exact absurd ⟨h1, h2⟩ hc
          · exact .inr ⟨p, hp, h1, h2⟩)
      rw [List.length_cons, List.length_cons]
      omega
theorem top_in : ∀ l : List Int, (∀ m ∈ l, 1 ≤ m) → top l = 0 ∨ top l ∈ l := by
 intro l
 induction l with
 | nil => intro _; exact .inl rfl
 | cons a l ih =>
  intro h;rw [top]
  have h1 := h a List.mem_cons_self
  have h2 := ih fun m hm => h m (List.mem_cons_of_mem _ hm)
  by_cases hc : top l ≤ a
  ·exact .inr (by rw [show max (top l) a = a by omega]; exact List.mem_cons_self)
  ·rw [show max (top l) a = top l by omega]
   rcases h2 with h2 | h2
   ·omega
   ·exact .inr (List.mem_cons_of_mem _ h2)
theorem moved_many {l : List S_copy_run} {N : Nat} (hr : ∀ r ∈ l, RunOk N r) : ((movedOf l).length : Int) + top (chains l) = l.length := by
 refine moved_count l _ _ (top_bounds (M := l.length) (by omega) _ fun m hm => (chains_bounds l m hm).2).1 ?_
 rcases top_in (chains l) (fun m hm => (chains_bounds l m hm).1) with h | h
 ·exact .inl h
 ·obtain ⟨i, hi, e⟩ := List.mem_iff_getElem.1 h
  have hil : i < l.length := by rw [chains_len] at hi; exact hi
  refine .inr ⟨(l[i], top (chains l)), ?_, rfl, by have := (hr l[i] (List.getElem_mem hil)).1; simp only; omega⟩;refine List.mem_iff_getElem?.2 ⟨i, ?_⟩;rw [List.getElem?_zip_eq_some];exact ⟨List.getElem?_eq_getElem hil, by rw [← e]; exact List.getElem?_eq_getElem hi⟩
end Go.Am
end
section
namespace Go.Am
set_option linter.unusedVariables false
theorem idxTo_pairwise (p : Nat → Int → Bool) (t : List Int) : ∀ k, (idxTo p t k).Pairwise (· < ·) := by
 intro k
 induction k with
 | zero => exact List.Pairwise.nil
 | succ k ih =>
  cases h : t[k]? with
  | none => rw [idxTo, h]; simpa using ih
  | some n =>
   rw [idxTo_succ h];split
   ·refine List.pairwise_append.2 ⟨ih, List.pairwise_singleton _ _, fun a ha b hb => ?_⟩;rw [List.mem_singleton] at hb;subst hb;obtain ⟨i, rfl, hi, _⟩ := idxTo_nat k a ha;omega
   ·exact ih
end Go.Am
end
section
namespace Go.Am
set_option linter.unusedVariables false
theorem idxTo_none {p : Nat → Int → Bool} {t : List Int} (h : ∀ (i : Nat) (n : Int), t[i]? = some n → p i n = false) : ∀ k, idxTo p t k = [] := by
 intro k
 induction k with
 | zero => rfl
 | succ k ih =>
  rw [idxTo, ih];cases hn : t[k]? with
  | none => rfl
  | some n => simp only; rw [h k n hn]; rfl
theorem asc_take {t : List Int} (h : t.Pairwise (· < ·)) {k : Nat} {n : Int} (hn : t[k]? = some n) : ∀ x ∈ t.take k, x < n := by
 intro x hx;obtain ⟨i, hi, e⟩ := List.mem_iff_getElem.1 hx
 have hlt := (List.getElem?_eq_some_iff.1 hn).1
 have e2 := (List.getElem?_eq_some_iff.1 hn).2;rw [List.length_take] at hi;rw [List.getElem_take] at e
 have := List.pairwise_iff_getElem.1 h i k (by omega) hlt (by omega);omega
theorem asc_strange {t : List Int} (h0 : ∀ x ∈ t, 0 ≤ x) : strangeOf t = [] := idxTo_none (fun i n hn => decide_eq_false (by have := h0 n (List.mem_of_getElem? hn); omega)) _
theorem asc_twice {t : List Int} (h : t.Pairwise (· < ·)) : twiceOf t = [] := idxTo_none (fun i n hn => decide_eq_false fun ⟨_, hm⟩ => by have := asc_take h hn n hm; omega) _
def AscRuns (l : List S_copy_run) : Prop := l.Pairwise fun a b => a.last < b.first
theorem asc_top : ∀ l : List S_copy_run, AscRuns l → top (chains l) = l.length := by
 intro l
 induction l with
 | nil => intro _; rfl
 | cons r l ih =>
  intro h
  have h' := List.pairwise_cons.1 h
  have := ih h'.2;rw [chains, top]
  have hf : follow r.last (l.zip (chains l)) 0 = top (chains l) := by
   rcases top_follow r.last (l.zip (chains l)) 0 (fun p hp => by have := h'.1 p.1 (List.of_mem_zip hp).1; omega) with e | e
   ·rw [e, List.map_snd_zip (by rw [chains_len]; exact Nat.le_refl _)];omega
   ·omega
  rw [hf, List.length_cons];omega
theorem rnStep_concat (g : Int → Int) (l : List S_copy_run) (r : S_copy_run) (i n : Int) : rnStep g (l ++ [r]) i n = if r.last < n ∧ g r.last = g n then l ++ [⟨r.item, r.first, n⟩] else l ++ [r] ++ [⟨i, n, n⟩] := by
 unfold rnStep
 have e1 : (l ++ [r]).length - 1 = l.length := by simp
 have e2 : (l ++ [r])[l.length]? = some r := by simp
 rw [e1, e2];simp only;split
 ·rw [List.set_append_right _ _ (Nat.le_refl _)];simp
 ·rfl
theorem asc_runs {g : Int → Int} {t : List Int} (h : t.Pairwise (· < ·)) : ∀ k, AscRuns (runsTo g t k) ∧ ∀ r ∈ runsTo g t k, r.last ∈ t.take k := by
 intro k
 induction k with
 | zero => exact ⟨List.Pairwise.nil, fun r h => by cases h⟩
 | succ k ih =>
  cases hn : t[k]? with
  | none =>
   have e : t.take (k + 1) = t.take k := by rw [List.take_of_length_le, List.take_of_length_le] <;> (have := List.getElem?_eq_none_iff.1 hn; omega)
   rw [runsTo, hn, e];exact ih
  | some n =>
   have up : ∀ r ∈ runsTo g t k, r.last ∈ t.take (k + 1) := fun r hr => by rw [take_snoc hn, List.mem_append]; exact .inl (ih.2 r hr)
   have hlt : ∀ r ∈ runsTo g t k, r.last < n := fun r hr => asc_take h hn _ (ih.2 r hr)
   have hnm : n ∈ t.take (k + 1) := by rw [take_snoc hn]; simp
   rw [runsTo_succ hn];split
   ·generalize runsTo g t k = l at *
    rcases List.eq_nil_or_concat l with rfl | ⟨l0, r, rfl⟩
    ·refine ⟨List.pairwise_singleton _ _, fun r hr => ?_⟩
     have hr : r ∈ [(⟨(k : Int), n, n⟩ : S_copy_run)] := hr;rw [List.mem_singleton] at hr;subst hr;exact hnm
    ·rw [List.concat_eq_append] at *;rw [rnStep_concat]
     have hp := List.pairwise_append.1 ih.1;split
     ·refine ⟨List.pairwise_append.2 ⟨hp.1, List.pairwise_singleton _ _, fun a ha b hb => ?_⟩, fun x hx => ?_⟩
      ·rw [List.mem_singleton] at hb;subst hb;exact hp.2.2 a ha r (by simp)
      ·rcases List.mem_append.1 hx with hx | hx
       ·exact up x (by simp [hx])
       ·rw [List.mem_singleton] at hx; subst hx; exact hnm
     ·refine ⟨List.pairwise_append.2 ⟨ih.1, List.pairwise_singleton _ _, fun a ha b hb => ?_⟩, fun x hx => ?_⟩
      ·rw [List.mem_singleton] at hb;subst hb;exact hlt a ha
      ·rcases List.mem_append.1 hx with hx | hx
       ·exact up x hx
       ·rw [List.mem_singleton] at hx; subst hx; exact hnm
   ·exact ⟨ih.1, up⟩
theorem asc_moved {g : Int → Int} {t : List Int} {N : Nat} (h : t.Pairwise (· < ·)) (hN : ∀ x ∈ t, x < (N : Int)) : movedOf (runsOf g t) = [] := by
 have h1 := moved_many (l := runsOf g t) (runsTo_ok (g := g) hN t.length).1
 have h2 := asc_top (runsOf g t) (asc_runs h t.length).1;exact List.eq_nil_of_length_eq_zero (by omega)
theorem asc_many {s : Int} {g : List Gat} {t : List Int} (h : t.Pairwise (· < ·)) (hr : ∀ x ∈ t, 0 ≤ x ∧ x < (lvs s g).length) : manyOf s g t = piecesOf (matesOf s g) (lostOf (lvs s g).length t) := by
 unfold manyOf allOf;rw [asc_strange fun x hx => (hr x hx).1, asc_twice h, asc_moved h fun x hx => (hr x hx).2];simp
end Go.Am
end
section
namespace Go.Am
set_option linter.unusedVariables false
theorem sub_follow : ∀ (l l' : List S_copy_run), l'.Sublist l → AscRuns l' → ∀ last, (∀ r ∈ l', r.first > last) → (l'.length : Int) ≤ follow last (l.zip (chains l)) 0 := by
 intro l
 induction l with
 | nil => intro l' hs _ last _; rw [List.sublist_nil.1 hs]; exact Int.le_refl _
 | cons r l ih =>
  intro l' hs ha last hf;rw [chains, List.zip_cons_cons, follow_cons];cases hs with
  | cons _ h =>
   refine Int.le_trans (ih l' h ha last hf) (follow_mono _ _ _ _ ?_);split <;> omega
  | @cons_cons l1 _ _ h =>
   have ha' := List.pairwise_cons.1 ha
   have h1 := ih l1 h ha'.2 r.last (fun x hx => ha'.1 x hx)
   have h2 := follow_ge last (l.zip (chains l)) (max 0 (follow r.last (l.zip (chains l)) 0 + 1));rw [if_pos (hf r List.mem_cons_self), List.length_cons];simp only;omega
theorem follow_top {l : List S_copy_run} {N : Nat} (hr : ∀ r ∈ l, RunOk N r) : follow (-1) (l.zip (chains l)) 0 = top (chains l) := by
 rcases top_follow (-1) (l.zip (chains l)) 0 (fun p hp => by have := (hr p.1 (List.of_mem_zip hp).1).1; omega) with h | h
 ·rw [h, List.map_snd_zip (by rw [chains_len]; exact Nat.le_refl _)]
  have := (top_bounds (M := l.length) (by omega) _ fun m hm => (chains_bounds l m hm).2).1;omega
 ·omega
theorem sub_top {l l' : List S_copy_run} {N : Nat} (hr : ∀ r ∈ l, RunOk N r) (hs : l'.Sublist l) (ha : AscRuns l') : (l'.length : Int) ≤ top (chains l) := by
 rw [← follow_top hr];exact sub_follow l l' hs ha _ fun r h => by have := (hr r (hs.subset h)).1; omega
theorem full_follow {N : Nat} : ∀ (l : List S_copy_run), (∀ r ∈ l, RunOk N r ∧ r.first ≤ r.last) → ∀ last, (l.length : Int) ≤ follow last (l.zip (chains l)) 0 → AscRuns l ∧ ∀ r ∈ l, r.first > last := by
 intro l
 induction l with
 | nil => intro _ _ _; exact ⟨List.Pairwise.nil, fun r h => by cases h⟩
 | cons r l ih =>
  intro hr last hf;rw [chains, List.zip_cons_cons, follow_cons, List.length_cons] at hf
  have hb := fun (a : Int) (ha : a ≤ l.length) => (follow_bounds (last := last) (M := l.length) (l.zip (chains l)) a (fun p hp => (chains_bounds l p.2 (List.of_mem_zip hp).2).2) ha).2
  by_cases h1 : r.first > last
  ·rw [if_pos h1] at hf;simp only at hf
   by_cases h2 : (l.length : Int) ≤ follow r.last (l.zip (chains l)) 0
   ·obtain ⟨k1, k2⟩ := ih (fun x hx => hr x (List.mem_cons_of_mem _ hx)) r.last h2
    have := (hr r List.mem_cons_self).2;refine ⟨List.pairwise_cons.2 ⟨fun x hx => k2 x hx, k1⟩, fun x hx => ?_⟩
    rcases List.mem_cons.1 hx with rfl | hx
    ·exact h1
    ·have := k2 x hx; omega
   ·have := hb (max 0 (follow r.last (l.zip (chains l)) 0 + 1)) (by omega);omega
  ·rw [if_neg h1] at hf
   have := hb 0 (by omega);omega
theorem asc_of_moved {l : List S_copy_run} {N : Nat} (hr : ∀ r ∈ l, RunOk N r ∧ r.first ≤ r.last) (h : movedOf l = []) : AscRuns l := by
 have h1 := moved_many (l := l) fun r h => (hr r h).1
 rw [h, ← follow_top fun r h => (hr r h).1] at h1;exact (full_follow l hr (-1) (by simp at h1; omega)).1
theorem runs_le {g : Int → Int} {t : List Int} : ∀ k, ∀ r ∈ runsTo g t k, r.first ≤ r.last := by
 intro k
 induction k with
 | zero => intro r h; cases h
 | succ k ih =>
  cases hn : t[k]? with
  | none => rw [runsTo, hn]; exact ih
  | some n =>
   rw [runsTo_succ hn];split
   ·generalize runsTo g t k = l at *
    rcases List.eq_nil_or_concat l with rfl | ⟨l0, r, rfl⟩
    ·intro x hx
     have hx : x ∈ [(⟨(k : Int), n, n⟩ : S_copy_run)] := hx;rw [List.mem_singleton] at hx;subst hx;exact Int.le_refl _
    ·rw [List.concat_eq_append] at *;rw [rnStep_concat];intro x hx;split at hx
     ·rcases List.mem_append.1 hx with hx | hx
      ·exact ih x (by simp [hx])
      ·rw [List.mem_singleton] at hx;subst hx
       have := ih r (by simp);simp only;omega
     ·rcases List.mem_append.1 hx with hx | hx
      ·exact ih x hx
      ·rw [List.mem_singleton] at hx; subst hx; exact Int.le_refl _
   ·exact ih
theorem asc_of_runs {g : Int → Int} {t : List Int} (hnd : t.Nodup) (h0 : ∀ x ∈ t, 0 ≤ x) : ∀ k, k ≤ t.length → AscRuns (runsTo g t k) →
  (t.take k).Pairwise (· < ·) ∧ (k = 0 ∨ ∃ l0 r, runsTo g t k = l0 ++ [r] ∧ ∀ x ∈ t.take k, x ≤ r.last) := by
 intro k
 induction k with
 | zero => intro _ _; exact ⟨by simp, .inl rfl⟩
 | succ k ih =>
  intro hk ha;obtain ⟨n, hn⟩ : ∃ n, t[k]? = some n := ⟨_, List.getElem?_eq_getElem (by omega)⟩
  have hnot : n ∉ t.take k := fun hm => by
   obtain ⟨i, hi, e1⟩ := List.mem_iff_getElem.1 hm;rw [List.length_take] at hi;rw [List.getElem_take] at e1
   have e2 := (List.getElem?_eq_some_iff.1 hn).2
   have := (List.getElem_inj hnd).1 (e1.trans e2.symm);omega
  have hp : isPlain t k n = true := decide_eq_true ⟨h0 n (List.mem_of_getElem? hn), hnot⟩;rw [runsTo_succ hn, if_pos hp] at ha ⊢;rw [take_snoc hn]
  have key : ∀ (hpw : (t.take k).Pairwise (· < ·)), (∀ x ∈ t.take k, x < n) → (t.take k ++ [n]).Pairwise (· < ·) := fun hpw hx => List.pairwise_append.2 ⟨hpw, List.pairwise_singleton _ _, fun a h1 b hb => by rw [List.mem_singleton] at hb; subst hb; exact hx a h1⟩
  rcases Nat.eq_zero_or_pos k with rfl | hk0
  ·exact ⟨by simp, .inr ⟨[], ⟨0, n, n⟩, rfl, by simp⟩⟩
  ·have hll : AscRuns (runsTo g t k) ∧ ∀ r, (runsTo g t k).getLast? = some r → r.last < n := by
    generalize runsTo g t k = l at *
    rcases List.eq_nil_or_concat l with rfl | ⟨l0, r, rfl⟩
    ·exact ⟨List.Pairwise.nil, fun r h => by cases h⟩
    ·rw [List.concat_eq_append] at *;rw [rnStep_concat] at ha;split at ha
     ·rename_i hc
      have hpp := List.pairwise_append.1 ha;refine ⟨List.pairwise_append.2 ⟨hpp.1, List.pairwise_singleton _ _, fun a h1 b h2 => ?_⟩, fun x hx => ?_⟩
      ·rw [List.mem_singleton] at h2;subst h2;exact hpp.2.2 a h1 ⟨b.item, b.first, n⟩ (by simp)
      ·simp at hx;subst hx;exact hc.1
     ·have hpp := List.pairwise_append.1 ha;refine ⟨hpp.1, fun x hx => ?_⟩;simp at hx;subst hx;exact hpp.2.2 r (by simp) ⟨k, n, n⟩ (by simp)
   obtain ⟨h1, h2⟩ := ih (by omega) hll.1
   rcases h2 with h2 | ⟨l0, r, h2, h3⟩
   ·omega
   ·have hrn := hll.2 r (by rw [h2]; simp)
    have hlt : ∀ x ∈ t.take k, x < n := fun x hx => by have := h3 x hx; omega
    refine ⟨key h1 hlt, .inr ?_⟩;rw [h2, rnStep_concat];split
    ·refine ⟨l0, _, rfl, fun x hx => ?_⟩
     rcases List.mem_append.1 hx with hx | hx
     ·have := hlt x hx; simp only; omega
     ·rw [List.mem_singleton] at hx; subst hx; exact Int.le_refl _
    ·refine ⟨l0 ++ [r], _, rfl, fun x hx => ?_⟩
     rcases List.mem_append.1 hx with hx | hx
     ·have := hlt x hx; simp only; omega
     ·rw [List.mem_singleton] at hx; subst hx; exact Int.le_refl _
end Go.Am
end
section
namespace Go.Am
set_option linter.unusedVariables false
theorem nd_plain {t : List Int} (hnd : t.Nodup) (h0 : ∀ x ∈ t, 0 ≤ x) {k : Nat} {n : Int} (hn : t[k]? = some n) : isPlain t k n = true := by
 refine decide_eq_true ⟨h0 n (List.mem_of_getElem? hn), fun hm => ?_⟩;obtain ⟨i, hi, e1⟩ := List.mem_iff_getElem.1 hm;rw [List.length_take] at hi;rw [List.getElem_take] at e1
 have e2 := (List.getElem?_eq_some_iff.1 hn).2
 have := (List.getElem_inj hnd).1 (e1.trans e2.symm);omega
def Up (t : List Int) : Prop := ∀ (i : Nat) (n : Int), t[i]? = some n → 0 ≤ n → n ∉ t.take i → ∀ x ∈ t.take i, x < n
theorem up_runs {g : Int → Int} {t : List Int} (h : Up t) : ∀ k, AscRuns (runsTo g t k) ∧ ∀ r ∈ runsTo g t k, r.last ∈ t.take k := by
 intro k
 induction k with
 | zero => exact ⟨List.Pairwise.nil, fun r h => by cases h⟩
 | succ k ih =>
  cases hn : t[k]? with
  | none =>
   have e : t.take (k + 1) = t.take k := by rw [List.take_of_length_le, List.take_of_length_le] <;> (have := List.getElem?_eq_none_iff.1 hn; omega)
   rw [runsTo, hn, e];exact ih
  | some n =>
   have up : ∀ r ∈ runsTo g t k, r.last ∈ t.take (k + 1) := fun r hr => by rw [take_snoc hn, List.mem_append]; exact .inl (ih.2 r hr)
   have hnm : n ∈ t.take (k + 1) := by rw [take_snoc hn]; simp
   rw [runsTo_succ hn];split
   ·rename_i hpl
    have hpl := of_decide_eq_true hpl
    have hlt : ∀ r ∈ runsTo g t k, r.last < n := fun r hr => h k n hn hpl.1 hpl.2 _ (ih.2 r hr)
    generalize runsTo g t k = l at *
    rcases List.eq_nil_or_concat l with rfl | ⟨l0, r, rfl⟩
    ·refine ⟨List.pairwise_singleton _ _, fun r hr => ?_⟩
     have hr : r ∈ [(⟨(k : Int), n, n⟩ : S_copy_run)] := hr;rw [List.mem_singleton] at hr;subst hr;exact hnm
    ·rw [List.concat_eq_append] at *;rw [rnStep_concat]
     have hp := List.pairwise_append.1 ih.1;split
     ·refine ⟨List.pairwise_append.2 ⟨hp.1, List.pairwise_singleton _ _, fun a ha b hb => ?_⟩, fun x hx => ?_⟩
      ·rw [List.mem_singleton] at hb;subst hb;exact hp.2.2 a ha r (by simp)
      ·rcases List.mem_append.1 hx with hx | hx
       ·exact up x (by simp [hx])
       ·rw [List.mem_singleton] at hx; subst hx; exact hnm
     ·refine ⟨List.pairwise_append.2 ⟨ih.1, List.pairwise_singleton _ _, fun a ha b hb => ?_⟩, fun x hx => ?_⟩
      ·rw [List.mem_singleton] at hb;subst hb;exact hlt a ha
      ·rcases List.mem_append.1 hx with hx | hx
       ·exact up x hx
       ·rw [List.mem_singleton] at hx; subst hx; exact hnm
   ·exact ⟨ih.1, up⟩
theorem up_moved {g : Int → Int} {t : List Int} {N : Nat} (h : Up t) (hN : ∀ x ∈ t, x < (N : Int)) : movedOf (runsOf g t) = [] := by
 have h1 := moved_many (l := runsOf g t) (runsTo_ok (g := g) hN t.length).1
 have h2 := asc_top (runsOf g t) (up_runs h t.length).1;exact List.eq_nil_of_length_eq_zero (by omega)
theorem runsTo_app (g : Int → Int) (A X : List Int) : ∀ k, k ≤ A.length → runsTo g (A ++ X) k = runsTo g A k := by
 intro k
 induction k with
 | zero => intro _; rfl
 | succ k ih =>
  intro hk
  have e1 : (A ++ X)[k]? = A[k]? := List.getElem?_append_left (by omega)
  have e2 : (A ++ X).take k = A.take k := List.take_append_of_le_length (by omega);rw [runsTo, runsTo, ih (by omega), e1];unfold isPlain;rw [e2]
theorem app_get {A X : List Int} {j : Nat} : (A ++ X)[A.length + j]? = X[j]? := by
 rw [List.getElem?_append_right (by omega), Nat.add_sub_cancel_left]
theorem one_moved {g : Int → Int} {A M B : List Int} {w : Int} {N : Nat} (hnd : (A ++ (M ++ B)).Nodup) (h0 : ∀ x ∈ A ++ (M ++ B), 0 ≤ x ∧ x < (N : Int)) (hAB : (A ++ B).Pairwise (· < ·)) (hM : M.Pairwise (· < ·))
  (hMw : ∀ x ∈ M, g x = w) (hABw : ∀ x ∈ A ++ B, g x ≠ w) : (movedOf (runsOf g (A ++ (M ++ B)))).length ≤ 1 := by
 rcases Nat.eq_zero_or_pos M.length with hm | hm
 ·have : M = [] := List.eq_nil_of_length_eq_zero hm;subst this;rw [List.nil_append] at h0 ⊢;rw [asc_moved (N := N) hAB fun x hx => (h0 x hx).2];simp
 have hpl : ∀ {k : Nat} {n : Int}, (A ++ (M ++ B))[k]? = some n → isPlain (A ++ (M ++ B)) k n = true := fun h => nd_plain hnd (fun x hx => (h0 x hx).1) h
 have hAp := (List.pairwise_append.1 hAB);obtain ⟨hR, hRl⟩ := asc_runs (g := g) hAp.1 A.length;rw [← runsTo_app g A (M ++ B) A.length (Nat.le_refl _), List.take_length] at hRl;rw [← runsTo_app g A (M ++ B) A.length (Nat.le_refl _)] at hR
 have h2 : ∀ j, j < M.length → ∃ r, runsTo g (A ++ (M ++ B)) (A.length + (j + 1)) = runsTo g (A ++ (M ++ B)) A.length ++ [r] ∧ r.last ∈ M.take (j + 1) := by
  intro j
  induction j with
  | zero =>
   intro hj;obtain ⟨n, hn⟩ : ∃ n, M[0]? = some n := ⟨_, List.getElem?_eq_getElem hj⟩
   have hn2 : (A ++ (M ++ B))[A.length + 0]? = some n := by rw [app_get, List.getElem?_append_left hj]; exact hn
   rw [← Nat.add_assoc, runsTo_succ hn2, if_pos (hpl hn2), Nat.add_zero]
   have hmem : n ∈ M.take 1 := by rw [take_snoc hn]; simp
   generalize runsTo g (A ++ (M ++ B)) A.length = l at *
   rcases List.eq_nil_or_concat l with rfl | ⟨l0, r, rfl⟩
   ·exact ⟨_, rfl, hmem⟩
   ·rw [List.concat_eq_append] at *;rw [rnStep_concat, if_neg fun h => hABw r.last (List.mem_append_left _ (hRl r (by simp))) (h.2.trans (hMw n (List.mem_of_getElem? hn)))];exact ⟨_, rfl, hmem⟩
  | succ j ih =>
   intro hj;obtain ⟨r, h1, h2⟩ := ih (by omega);obtain ⟨n, hn⟩ : ∃ n, M[j + 1]? = some n := ⟨_, List.getElem?_eq_getElem hj⟩
   have hn2 : (A ++ (M ++ B))[A.length + (j + 1)]? = some n := by rw [app_get, List.getElem?_append_left hj]; exact hn
   have hmem : n ∈ M.take (j + 1 + 1) := by rw [take_snoc hn]; simp
   rw [← Nat.add_assoc A.length (j + 1) 1, runsTo_succ hn2, if_pos (hpl hn2), h1, rnStep_concat, if_pos ⟨asc_take hM hn _ h2, (hMw _ (List.mem_of_mem_take h2)).trans (hMw n (List.mem_of_getElem? hn)).symm⟩];exact ⟨_, rfl, hmem⟩
 have h3 : ∀ j, j ≤ B.length → ∃ r R2, runsTo g (A ++ (M ++ B)) (A.length + (M.length + j)) = runsTo g (A ++ (M ++ B)) A.length ++ [r] ++ R2 ∧ g r.last = w ∧ AscRuns (runsTo g (A ++ (M ++ B)) A.length ++ R2) ∧ ∀ x ∈ R2, x.last ∈ B.take j := by
  intro j
  induction j with
  | zero =>
   intro _;obtain ⟨r, h1, h4⟩ := h2 (M.length - 1) (by omega)
   have e : M.length - 1 + 1 = M.length := by omega
   rw [e] at h1 h4;exact ⟨r, [], by rw [Nat.add_zero, h1, List.append_nil], hMw _ (List.mem_of_mem_take h4), by rw [List.append_nil]; exact hR, fun x hx => by cases hx⟩
  | succ j ih =>
   intro hj;obtain ⟨r, R2, h1, h4, h5, h6⟩ := ih (by omega);obtain ⟨n, hn⟩ : ∃ n, B[j]? = some n := ⟨_, List.getElem?_eq_getElem hj⟩
   have hn2 : (A ++ (M ++ B))[A.length + (M.length + j)]? = some n := by rw [app_get, app_get]; exact hn
   have hmem : n ∈ B.take (j + 1) := by rw [take_snoc hn]; simp
   have hnB := List.mem_of_getElem? hn
   have up : ∀ x ∈ R2, x.last ∈ B.take (j + 1) := fun x hx => by rw [take_snoc hn, List.mem_append]; exact .inl (h6 x hx)
   have hlt : ∀ x ∈ runsTo g (A ++ (M ++ B)) A.length ++ R2, x.last < n := fun x hx => by
    rcases List.mem_append.1 hx with hx | hx
    ·exact hAp.2.2 _ (hRl x hx) n hnB
    ·exact asc_take hAp.2.1 hn _ (h6 x hx)
   rw [← Nat.add_assoc M.length j 1, ← Nat.add_assoc A.length (M.length + j) 1, runsTo_succ hn2, if_pos (hpl hn2), h1];generalize runsTo g (A ++ (M ++ B)) A.length = R1 at *
   have hnew : AscRuns (R1 ++ (R2 ++ [⟨((A.length + (M.length + j) : Nat) : Int), n, n⟩])) := by
    rw [← List.append_assoc];refine List.pairwise_append.2 ⟨h5, List.pairwise_singleton _ _, fun a ha b hb => ?_⟩;rw [List.mem_singleton] at hb;subst hb;exact hlt a ha
   have hnl : ∀ x ∈ R2 ++ [(⟨((A.length + (M.length + j) : Nat) : Int), n, n⟩ : S_copy_run)], x.last ∈ B.take (j + 1) := fun x hx => by
    rcases List.mem_append.1 hx with hx | hx
    ·exact up x hx
    ·rw [List.mem_singleton] at hx; subst hx; exact hmem
   rcases List.eq_nil_or_concat R2 with rfl | ⟨l0, q, rfl⟩
   ·rw [List.append_nil, rnStep_concat, if_neg fun h => hABw n (List.mem_append_right _ hnB) (h.2.symm.trans h4)];exact ⟨r, _, rfl, h4, hnew, hnl⟩
   ·rw [List.concat_eq_append] at *;rw [← List.append_assoc, rnStep_concat];split
    ·rw [List.append_assoc];refine ⟨r, _, rfl, h4, ?_, fun x hx => ?_⟩
     ·rw [← List.append_assoc] at h5 ⊢
      have hp := List.pairwise_append.1 h5;refine List.pairwise_append.2 ⟨hp.1, List.pairwise_singleton _ _, fun a ha b hb => ?_⟩;rw [List.mem_singleton] at hb;subst hb;exact hp.2.2 a ha q (by simp)
     ·rcases List.mem_append.1 hx with hx | hx
      ·exact up x (by simp [hx])
      ·rw [List.mem_singleton] at hx; subst hx; exact hmem
    ·rw [List.append_assoc (R1 ++ [r]), List.append_assoc (R1 ++ [r])];exact ⟨r, _, rfl, h4, hnew, hnl⟩
 obtain ⟨r, R2, h1, _, h5, _⟩ := h3 B.length (Nat.le_refl _)
 have hlen : (A ++ (M ++ B)).length = A.length + (M.length + B.length) := by rw [List.length_append, List.length_append]
 have hro : ∀ r ∈ runsOf g (A ++ (M ++ B)), RunOk N r := (runsTo_ok (g := g) (t := A ++ (M ++ B)) (N := N) (fun x hx => (h0 x hx).2) (A ++ (M ++ B)).length).1
 have hmm := moved_many (l := runsOf g (A ++ (M ++ B))) hro
 have hsub : (runsTo g (A ++ (M ++ B)) A.length ++ R2).Sublist (runsOf g (A ++ (M ++ B))) := by
  unfold runsOf;rw [hlen, h1, List.append_assoc];exact List.Sublist.append_left (List.sublist_append_right _ _) _
 have ht := sub_top hro hsub h5
 have hl : (runsOf g (A ++ (M ++ B))).length = (runsTo g (A ++ (M ++ B)) A.length ++ R2).length + 1 := by
  unfold runsOf;rw [hlen, h1];simp;omega
 omega
end Go.Am
end
section
namespace Go.Am
set_option linter.unusedVariables false
theorem sorted_ext : ∀ {a b : List Int}, a.Pairwise (· < ·) → b.Pairwise (· < ·) → (∀ x, x ∈ a ↔ x ∈ b) → a = b := by
 intro a
 induction a with
 | nil =>
  intro b _ _ h;cases b with
  | nil => rfl
  | cons y b => exact absurd ((h y).2 List.mem_cons_self) (by simp)
 | cons x a ih =>
  intro b ha hb h;cases b with
  | nil => exact absurd ((h x).1 List.mem_cons_self) (by simp)
  | cons y b =>
   have ha' := List.pairwise_cons.1 ha
   have hb' := List.pairwise_cons.1 hb
   have e : x = y := by
    rcases List.mem_cons.1 ((h x).1 List.mem_cons_self) with h1 | h1
    ·exact h1
    ·rcases List.mem_cons.1 ((h y).2 List.mem_cons_self) with h2 | h2
     ·exact h2.symm
     ·have := ha'.1 y h2
      have := hb'.1 x h1;omega
   subst e;refine congrArg _ (ih ha'.2 hb'.2 fun z => ⟨fun hz => ?_, fun hz => ?_⟩)
   ·have := ha'.1 z hz;exact ((List.mem_cons.1 ((h z).1 (List.mem_cons_of_mem _ hz)))).resolve_left (by omega)
   ·have := hb'.1 z hz;exact ((List.mem_cons.1 ((h z).2 (List.mem_cons_of_mem _ hz)))).resolve_left (by omega)
theorem rng_sorted (n : Nat) : (rng n).Pairwise (· < ·) := by
 induction n with
 | zero => exact List.Pairwise.nil
 | succ n ih =>
  rw [rng_succ];refine List.pairwise_append.2 ⟨ih, List.pairwise_singleton _ _, fun a ha b hb => ?_⟩;rw [List.mem_singleton] at hb;subst hb;exact (mem_rng.1 ha).2
theorem lost_none {n : Nat} {t : List Int} (h : ∀ x : Int, 0 ≤ x → x < n → x ∈ t) : lostOf n t = [] := List.eq_nil_iff_forall_not_mem.2 fun x hx => by
 have := mem_lostOf.1 hx;exact this.2.2 (h x this.1 this.2.1)
theorem pieces_nil (mt : List Int) : piecesOf mt [] = 0 := rfl
section
variable {s : Int} {g : List Gat}
theorem mate_eq {n : Nat} (h : n < (lvs s g).length) : mateF (matesOf s g) (n : Int) = pairNo (bk s g) n := by
 unfold mateF;rw [Int.toNat_natCast, mates_at h]
theorem many_rng : manyOf s g (rng (lvs s g).length) = 0 := by
 rw [asc_many (rng_sorted _) (fun x hx => mem_rng.1 hx), lost_none (fun x h0 h1 => mem_rng.2 ⟨h0, h1⟩)];rfl
theorem many_lost {n : Nat} {m : Int} (hn : n < (lvs s g).length) (hm : m = (n : Int) ∨ m = pairNo (bk s g) n) :
  manyOf s g ((rng (lvs s g).length).filter fun x => decide (x ≠ n ∧ x ≠ m)) = 1 := by
 rw [asc_many ((rng_sorted _).sublist List.filter_sublist) (fun x hx => mem_rng.1 (List.mem_filter.1 hx).1)]
 have hlm : ∀ x, x ∈ lostOf (lvs s g).length ((rng (lvs s g).length).filter fun x => decide (x ≠ n ∧ x ≠ m)) ↔ (0 ≤ x ∧ x < (lvs s g).length) ∧ (x = n ∨ x = m) := fun x => by
  rw [mem_lostOf, List.mem_filter, mem_rng, decide_eq_true_eq]
  constructor
  ·rintro ⟨h0, h1, h2⟩;exact ⟨⟨h0, h1⟩, Classical.byContradiction fun h => h2 ⟨⟨h0, h1⟩, fun e => h (.inl e), fun e => h (.inr e)⟩⟩
  ·rintro ⟨⟨h0, h1⟩, h2⟩;exact ⟨h0, h1, fun h => h2.elim h.2.1 h.2.2⟩
 have hls := lostOf_sorted (lvs s g).length ((rng (lvs s g).length).filter fun x => decide (x ≠ n ∧ x ≠ m));generalize lostOf (lvs s g).length ((rng (lvs s g).length).filter fun x => decide (x ≠ n ∧ x ≠ m)) = L at *
 have hone : (∀ x, x ∈ L ↔ x = n) → piecesOf (matesOf s g) L = 1 := fun h => by
  have e : L = [(n : Int)] := sorted_ext hls (List.pairwise_singleton _ _) fun x => by rw [h, List.mem_singleton]
  rw [e]
  have hp : isPiece (matesOf s g) [(n : Int)] n = true := by
   unfold isPiece;rw [mate_eq hn];refine decide_eq_true ?_
   by_cases h0 : 0 ≤ pairNo (bk s g) n
   ·obtain ⟨k, e1, _, h2, _⟩ := pair_sym h0;exact .inr (.inr fun h => by rw [List.mem_singleton] at h; omega)
   ·exact .inl (by omega)
  unfold piecesOf;rw [List.countP_cons, hp];rfl
 rcases hm with hm | hm
 ·subst hm;exact hone fun x => by rw [hlm]; constructor <;> intro h <;> omega
 ·by_cases h0 : 0 ≤ m
  ·obtain ⟨k, e1, hk, h2, h3⟩ := pair_sym (b := bk s g) (n := n) (by omega)
   have ek : m = k := by omega
   subst ek
   have hk : k < (lvs s g).length := hk
   have hpn : mateF (matesOf s g) (n : Int) = k := (mate_eq hn).trans e1
   have hpk : mateF (matesOf s g) (k : Int) = n := (mate_eq hk).trans h3
   by_cases hlt : n < k
   ·have e : L = [(n : Int), (k : Int)] := sorted_ext hls (by simp; omega) fun x => by rw [hlm]; simp; omega
    rw [e];unfold piecesOf;rw [List.countP_cons, List.countP_cons, List.countP_nil]
    have p1 : isPiece (matesOf s g) [(n : Int), (k : Int)] n = true := by unfold isPiece; rw [hpn]; exact decide_eq_true (.inr (.inl (by omega)))
    have p2 : isPiece (matesOf s g) [(n : Int), (k : Int)] k = false := by unfold isPiece; rw [hpk]; exact decide_eq_false (by simp; omega)
    rw [p1, p2];rfl
   ·have e : L = [(k : Int), (n : Int)] := sorted_ext hls (by simp; omega) fun x => by rw [hlm]; simp; omega
    rw [e];unfold piecesOf;rw [List.countP_cons, List.countP_cons, List.countP_nil]
    have p1 : isPiece (matesOf s g) [(k : Int), (n : Int)] n = false := by unfold isPiece; rw [hpn]; exact decide_eq_false (by simp; omega)
    have p2 : isPiece (matesOf s g) [(k : Int), (n : Int)] k = true := by unfold isPiece; rw [hpk]; exact decide_eq_true (.inr (.inl (by omega)))
    rw [p1, p2];rfl
  ·exact hone fun x => by rw [hlm]; constructor <;> intro h <;> omega
theorem many_odd {k : Nat} : manyOf s g ((rng (lvs s g).length).take k ++ -1 :: (rng (lvs s g).length).drop k) = 1 := by
 rw [many_strange, List.take_append_drop, many_rng];rfl
theorem many_again {n k : Nat} (hn : n < k) (hk : k ≤ (lvs s g).length) : manyOf s g ((rng (lvs s g).length).take k ++ (n : Int) :: (rng (lvs s g).length).drop k) = 1 := by
  generalize hN : (lvs s g).length = N at *
  have hkl : (rng N).length = N := rng_len N
  have htk : ((rng N).take k).length = k := by rw [List.length_take]; omega
  have hget : ∀ (i : Nat) (x : Int), ((rng N).take k ++ (n : Int) :: (rng N).drop k)[i]? = some x ↔ (i < k ∧ x = i) ∨ (i = k ∧ x = n) ∨ (k < i ∧ i ≤ N ∧ x = (i : Int) - 1) := fun i x => by
    rcases Nat.lt_trichotomy i k with h | h | h
    · rw [List.getElem?_append_left (by omega), List.getElem?_take_of_lt h, rng_get (by omega)]
      constructor
      · intro e; injection e with e; exact .inl ⟨h, e.symm⟩
      · intro e; exact congrArg some (by omega)
    · subst h
      rw [List.getElem?_append_right (by omega), htk, Nat.sub_self]
      constructor
      · intro e; injection e with e; exact .inr (.inl ⟨rfl, e.symm⟩)
      · intro e; exact congrArg some (by omega)
    · obtain ⟨j, rfl⟩ : ∃ j, i = k + (j + 1) := ⟨i - k - 1, by omega⟩
      rw [List.getElem?_append_right (by omega), htk, Nat.add_sub_cancel_left, List.getElem?_cons_succ, List.getElem?_drop]
      constructor
      · intro e
        have := (List.getElem?_eq_some_iff.1 e).1
        rw [rng_get (by omega)] at e
        injection e with e
        exact .inr (.inr ⟨h, by omega, by omega⟩)
      · intro e
        rw [rng_get (by omega)]
        exact congrArg some (by omega)
  have hlen : ((rng N).take k ++ (n : Int) :: (rng N).drop k).length = N + 1 := by
    rw [List.length_append, List.length_cons, List.length_drop, htk, hkl]
    omega
  generalize (rng N).take k ++ (n : Int) :: (rng N).drop k = t at *
  have hmt : ∀ (i : Nat) (x : Int), x ∈ t.take i ↔ ∃ j : Nat, j < i ∧ t[j]? = some x := fun i x => by
    rw [List.mem_iff_getElem?]
    constructor
    · rintro ⟨j, h⟩
      have := (List.getElem?_eq_some_iff.1 h).1
      rw [List.length_take] at this
      exact ⟨j, by omega, by rw [List.getElem?_take_of_lt (by omega)] at h; exact h⟩
    · rintro ⟨j, h1, h2⟩
      exact ⟨j, by rw [List.getElem?_take_of_lt h1]; exact h2⟩
  have hall : ∀ x ∈ t, 0 ≤ x ∧ x < (N : Int) := fun x hx => by
    obtain ⟨i, h⟩ := List.mem_iff_getElem?.1 hx
    have := (hget i x).1 h
    omega
  have hup : Up t := fun i x h1 _ h2 y hy => by
    obtain ⟨j, hj, h3⟩ := (hmt i y).1 hy
    have h1 := (hget i x).1 h1
    have h3 := (hget j y).1 h3
    rcases h1 with h1 | h1 | h1
    · omega
    · exact absurd ((hmt i x).2 ⟨n, by omega, (hget n x).2 (.inl ⟨hn, by omega⟩)⟩) h2
    · omega
  have hlost : lostOf N t = [] := lost_none fun x h0 h1 => List.mem_iff_getElem?.2 (by
    by_cases hx : x < k
    · exact ⟨x.toNat, (hget _ _).2 (.inl (by omega))⟩
    · exact ⟨x.toNat + 1, (hget _ _).2 (.inr (.inr (by omega)))⟩)
  have htw : twiceOf t = [(k : Int)] := sorted_ext (idxTo_pairwise _ _ _) (List.pairwise_singleton _ _) fun x => by
    rw [List.mem_singleton]
    constructor
    · intro hx
      obtain ⟨i, rfl, hi, y, hy, hp⟩ := idxTo_nat _ x hx
      obtain ⟨j, hj, h3⟩ := (hmt i y).1 (of_decide_eq_true hp).2
      have h1 := (hget i y).1 hy
      have h3 := (hget j y).1 h3
      omega
    · rintro rfl
      have hk' := (hget k n).2 (.inr (.inl ⟨rfl, rfl⟩))
      exact (mem_idxTo hk' _).2 ⟨by omega, decide_eq_true ⟨by omega, (hmt k n).2 ⟨n, hn, (hget n n).2 (.inl ⟨hn, rfl⟩)⟩⟩⟩
  unfold manyOf allOf
  rw [hN, hlost, asc_strange fun x hx => (hall x hx).1, htw, up_moved hup fun x hx => (hall x hx).2]
  rfl
def movedTo (lv : List Leaf) (w : Int) (a : Nat) : List Int :=
 let R := (rng lv.length).filter fun x => decide (gathOf lv x ≠ w)
 R.take a ++ ((rng lv.length).filter (fun x => decide (gathOf lv x = w)) ++ R.drop a)
theorem movedTo_perm (lv : List Leaf) (w : Int) (a : Nat) : (movedTo lv w a).Perm (rng lv.length) := by
 unfold movedTo;simp only
 have h1 := List.filter_append_perm (fun x => decide (gathOf lv x = w)) (rng lv.length)
 have e : (fun x => !decide (gathOf lv x = w)) = fun x => decide (gathOf lv x ≠ w) := by funext x; by_cases h : gathOf lv x = w <;> simp [h]
 rw [e] at h1;generalize (rng lv.length).filter (fun x => decide (gathOf lv x ≠ w)) = R at *;generalize (rng lv.length).filter (fun x => decide (gathOf lv x = w)) = M at *;refine List.Perm.trans ?_ h1
 have h2 : (R.take a ++ (M ++ R.drop a)).Perm (M ++ (R.take a ++ R.drop a)) := by
  rw [← List.append_assoc, ← List.append_assoc];exact List.Perm.append_right _ List.perm_append_comm
 rw [List.take_append_drop] at h2;exact h2
theorem many_moved (w : Int) (a : Nat) : manyOf s g (movedTo (lvs s g) w a) = if movedTo (lvs s g) w a = rng (lvs s g).length then 0 else 1 := by
  by_cases e : movedTo (lvs s g) w a = rng (lvs s g).length
  · rw [if_pos e, e, many_rng]
  · rw [if_neg e]
    have hp := movedTo_perm (lvs s g) w a
    have hnd : (movedTo (lvs s g) w a).Nodup := hp.nodup_iff.2 ((rng_sorted _).imp fun {a b} h e => by subst e; omega)
    have hall : ∀ x ∈ movedTo (lvs s g) w a, 0 ≤ x ∧ x < ((lvs s g).length : Int) := fun x hx => mem_rng.1 (hp.mem_iff.1 hx)
    have hlost : lostOf (lvs s g).length (movedTo (lvs s g) w a) = [] := lost_none fun x h0 h1 => hp.mem_iff.2 (mem_rng.2 ⟨h0, h1⟩)
    have htw : twiceOf (movedTo (lvs s g) w a) = [] := idxTo_none (fun i n hn => by
      have := of_decide_eq_true (nd_plain hnd (fun x hx => (hall x hx).1) hn)
      exact decide_eq_false fun h => this.2 h.2) _
    have hle : (movedOf (runsOf (gathOf (lvs s g)) (movedTo (lvs s g) w a))).length ≤ 1 := by
      refine one_moved (w := w) (N := (lvs s g).length) hnd hall ?_ ?_ (fun x hx => of_decide_eq_true (List.mem_filter.1 hx).2) (fun x hx => ?_)
      · rw [List.take_append_drop]; exact (rng_sorted _).sublist List.filter_sublist
      · exact (rng_sorted _).sublist List.filter_sublist
      · rw [List.take_append_drop] at hx; exact of_decide_eq_true (List.mem_filter.1 hx).2
    have hge : movedOf (runsOf (gathOf (lvs s g)) (movedTo (lvs s g) w a)) ≠ [] := fun h0 => e (by
      have hro := (runsTo_ok (g := gathOf (lvs s g)) (t := movedTo (lvs s g) w a) (N := (lvs s g).length) (fun x hx => (hall x hx).2) (movedTo (lvs s g) w a).length).1
      have ha := asc_of_moved (l := runsOf (gathOf (lvs s g)) (movedTo (lvs s g) w a)) (N := (lvs s g).length) (fun r hr => ⟨hro r hr, runs_le _ r hr⟩) h0
      have := (asc_of_runs hnd (fun x hx => (hall x hx).1) _ (Nat.le_refl _) ha).1
      rw [List.take_length] at this
      exact sorted_ext this (rng_sorted _) fun x => hp.mem_iff)
    have hpos := List.length_pos_iff.2 hge
    unfold manyOf allOf
    rw [hlost, asc_strange fun x hx => (hall x hx).1, htw, pieces_nil]
    simp only [List.length_nil]
    omega
end
end Go.Am
end
section
namespace Go.Am
set_option linter.unusedVariables false
theorem said_of {s : Int} {g : List Gat} {its : List Item} {c : Int} (e : okCase s g its) (h : ∀ t ∈ truthsOf its, manyOf s g t = c) :
  (∃ a1 a2 a3 a4 a5 a6 a7 a8 a9 a10 a11, P_c_Faults s g its = some (a1, a2, a3, a4, a5, a6, a7, a8, a9, a10, a11, c, 0)) ∧ P_c_Range s g its = some (c, c, 0) := by
 have hf := (case_good e).few
 constructor
 ·have hF := c_Faults_ok (s := s) (g := g) (its := its);unfold faultsSaid at hF;rw [if_pos e, h _ (best_in hf).1] at hF;exact ⟨_, _, _, _, _, _, _, _, _, _, _, hF⟩
 ·rw [c_Range_ok];unfold rangeSaid;obtain ⟨⟨t, ht, e1⟩, u, hu, e2⟩ := wide_at (s := s) (g := g) hf;rw [if_pos e, e1, e2, h t ht, h u hu]
theorem same_ok {a b : List Int} (hl : a.length = b.length) (hs : a.length ≤ 1000) : P_l_same (a.map itemOf) (b.map itemOf) = some (decide (a = b)) := by
 refine Ok.get ?_;unfold P_l_same;refine Ok.seqx (Ok.count (fun s => s) a.length (fun k s => a.take k = b.take k) rfl rfl ?_ ?_)
 ·rintro k i hk hx hq;subst hx;obtain ⟨x, hx⟩ : ∃ x, a[k]? = some x := ⟨_, List.getElem?_eq_getElem hk⟩;obtain ⟨y, hy⟩ : ∃ y, b[k]? = some y := ⟨_, List.getElem?_eq_getElem (by omega)⟩;unfold P_l_same_L1;refine .ifp (by rw [List.length_map]; omega) (.el (by rw [List.length_map]; omega) fun p hp => ?_)
  have hp := get_of hp rfl;rw [List.getElem?_map, hx] at hp;cases hp;refine .el (by show (0 : Int) ≤ 0 ∧ (0 : Int) < ([x] : List Int).length; simp) fun p hp => ?_
  cases hp;refine .el (by rw [List.length_map]; omega) fun p hp => ?_
  have hp := get_of hp rfl;rw [List.getElem?_map, hy] at hp;cases hp;refine .el (by show (0 : Int) ≤ 0 ∧ (0 : Int) < ([y] : List Int).length; simp) fun p hp => ?_
  cases hp
  by_cases e : x = y
  ·subst e;refine .ifn (by simp) (.chk (i64_small (by omega)) (.some ⟨rfl, ?_⟩))
   show a.take (k + 1) = b.take (k + 1);rw [take_snoc hx, take_snoc hy, hq]
  ·refine .ifp e (.some ?_)
   show false = decide (a = b);refine (decide_eq_false fun h => e ?_).symm;subst h;rw [hx] at hy
   injection hy
 ·rintro i hx hq;unfold P_l_same_L1;refine .ifn (by rw [List.length_map]; omega) (.some (Ok.some ?_));rw [List.take_length, hl, List.take_length] at hq;subst hq;simp
theorem without_ok {L : List Int} {a b : Int} (hs : L.length ≤ 1000) : P_l_without (L.map itemOf) a b = some ((L.filter fun x => decide (x ≠ a ∧ x ≠ b)).map itemOf) := by
 refine Ok.get ?_;unfold P_l_without;refine Ok.andx (P := fun x => x = (L.filter fun x => decide (x ≠ a ∧ x ≠ b)).map itemOf) (Ok.count (fun s => s.1) L.length (fun k (x : Int × List Item) => x.2 = ((L.take k).filter fun x => decide (x ≠ a ∧ x ≠ b)).map itemOf) rfl rfl ?_ ?_) fun _ h => .some h
 ·rintro k ⟨i, out⟩ hk hx hq;simp only at hx hq;subst hx;obtain ⟨x, hx⟩ : ∃ x, L[k]? = some x := ⟨_, List.getElem?_eq_getElem hk⟩;unfold P_l_without_L1
  have hel : ∀ {β : Type} {k' : Item → Option β} {Q : β → Prop}, Ok (k' (itemOf x)) Q → Ok (el (L.map itemOf) (k : Int) k') Q := fun hk' => .el (by rw [List.length_map]; omega) fun p hp => by
   have hp := get_of hp rfl;rw [List.getElem?_map, hx] at hp;cases hp;exact hk'
  have hel0 : ∀ {β : Type} {k' : Int → Option β} {Q : β → Prop}, Ok (k' x) Q → Ok (el (itemOf x).could.l 0 k') Q := fun hk' => .el (by show (0 : Int) ≤ 0 ∧ (0 : Int) < ([x] : List Int).length; simp) fun p hp => by
   cases hp;exact hk'
  have hlen := List.length_filter_le (fun x => decide (x ≠ a ∧ x ≠ b)) (L.take k);rw [List.length_take] at hlen
  have hol : out.length ≤ L.length := by rw [hq, List.length_map]; omega
  refine .ifp (by rw [List.length_map]; omega) (.andx' (a := ((L.take (k + 1)).filter fun x => decide (x ≠ a ∧ x ≠ b)).map itemOf) (Ok.get (.andx' (a := decide (x ≠ a ∧ x ≠ b)) (Ok.get ?_) ?_)) (.chk (i64_small (by omega)) (.some ⟨rfl, rfl⟩)))
  ·refine hel (.ifn (by show ¬ ¬ ((([x] : List Int).length : Int) = 1); simp) (hel (hel0 ?_)))
   by_cases e : x = a
   ·refine .ifn (by simp [e]) (.some ?_);simp [e]
   ·refine .ifp e (hel (hel0 (.some ?_)));simp [e]
  ·rw [take_snoc hx, List.filter_append, List.map_append, ← hq]
   by_cases e : x ≠ a ∧ x ≠ b
   ·refine .ifp (decide_eq_true e) (hel (.chk (by rw [List.length_singleton]; omega) (.some ?_)));simp [e]
   ·refine .ifn (by simp [e]) (.some ?_)
    have : decide (x ≠ a ∧ x ≠ b) = false := decide_eq_false e;rw [List.filter_cons, this];simp
 ·rintro ⟨i, out⟩ hx hq;simp only at hx hq;unfold P_l_without_L1;refine .ifn (by rw [List.length_map]; omega) (.some ?_)
  show out = _;rw [hq, List.take_length]
theorem gath_at {lv : List Leaf} {k : Nat} {a : Leaf} (h : lv[k]? = some a) : gathOf lv (k : Int) = a.g := by
 unfold gathOf;rw [Int.toNat_natCast, h]
theorem carried_ok {s : Int} {g : List Gat} {w to : Int} (h : GoodBook s g) : ∃ a : Nat, P_l_carried s g w to = some ((movedTo (lvs s g) w a).map fun x => [x]) := by
  have hnl := h.nl
  suffices k : Ok (P_l_carried s g w to) (fun r => ∃ a : Nat, r = (movedTo (lvs s g) w a).map fun x => [x]) by
    obtain ⟨r, h1, a, rfl⟩ := k
    exact ⟨a, h1⟩
  unfold P_l_carried
  refine .andx' (All1_ok h) (Ok.andx (P := fun x : Int × List (List Int) × List (List Int) => (x.1 = -1 ∨ (0 ≤ x.1 ∧ x.1 ≤ x.2.2.length)) ∧ x.2.1 = ((rng (lvs s g).length).filter fun x => decide (gathOf (lvs s g) x = w)).map (fun x => [x]) ∧ x.2.2 = ((rng (lvs s g).length).filter fun x => decide (gathOf (lvs s g) x ≠ w)).map fun x => [x])
    (Ok.count (fun s => s.2.1) (lvs s g).length (fun k (x : Int × Int × List (List Int) × List (List Int)) => (x.1 = -1 ∨ (0 ≤ x.1 ∧ x.1 ≤ x.2.2.2.length)) ∧ x.2.2.1 = ((rng k).filter fun x => decide (gathOf (lvs s g) x = w)).map (fun x => [x]) ∧ x.2.2.2 = ((rng k).filter fun x => decide (gathOf (lvs s g) x ≠ w)).map fun x => [x]) rfl ⟨.inl rfl, rfl, rfl⟩ ?_ ?_) ?_)
  · rintro k ⟨at_, i, mv, rs⟩ hk hx ⟨q1, q2, q3⟩
    simp only at hx q1 q2 q3
    subst hx
    obtain ⟨a, ha⟩ : ∃ a, (lvs s g)[k]? = some a := ⟨_, List.getElem?_eq_getElem hk⟩
    have hga := gath_at ha
    have hel : ∀ {β : Type} {k' : Leaf → Option β} {Q : β → Prop}, Ok (k' a) Q → Ok (el (lvs s g) (k : Int) k') Q := fun hk' => .el (by omega) fun p hp => by
      have hp := get_of hp rfl
      rw [ha] at hp
      cases hp
      exact hk'
    have hm1 : mv.length ≤ k := by
      have := List.length_filter_le (fun x => decide (gathOf (lvs s g) x = w)) (rng k)
      rw [rng_len] at this
      rw [q2, List.length_map]; exact this
    have hr1 : rs.length ≤ k := by
      have := List.length_filter_le (fun x => decide (gathOf (lvs s g) x ≠ w)) (rng k)
      rw [rng_len] at this
      rw [q3, List.length_map]; exact this
    unfold P_l_carried_L1
    refine .ifp (by omega) (Ok.andx (P := fun x : Int × List (List Int) × List (List Int) => (x.1 = -1 ∨ (0 ≤ x.1 ∧ x.1 ≤ x.2.2.length)) ∧ x.2.1 = ((rng (k + 1)).filter fun x => decide (gathOf (lvs s g) x = w)).map (fun x => [x]) ∧ x.2.2 = ((rng (k + 1)).filter fun x => decide (gathOf (lvs s g) x ≠ w)).map fun x => [x]) (hel ?_) fun x hx => .chk (i64_small (by omega)) (.some ⟨rfl, hx⟩))
    rw [rng_succ, List.filter_append, List.filter_append, List.map_append, List.map_append, ← q2, ← q3]
    by_cases e : a.g = w
    · have e1 : gathOf (lvs s g) (k : Int) = w := hga.trans e
      refine .ifp e (.chk (by simp; omega) (.some ⟨q1, ?_, ?_⟩))
      · simp [e1]
      · simp [e1]
    · have e1 : gathOf (lvs s g) (k : Int) ≠ w := fun h => e (hga.symm.trans h)
      refine .ifn e (Ok.andx (P := fun x : Int => x = -1 ∨ (0 ≤ x ∧ x ≤ rs.length)) (Ok.andx (P := fun _ => True) (hel (.ite (fun _ => .some trivial) fun _ => .some trivial)) fun b _ => .ite (fun _ => .some (.inr ⟨by omega, Int.le_refl _⟩)) fun _ => .some q1) fun x hx => .chk (by simp; omega) (.some ⟨?_, ?_, ?_⟩))
      · simp only [List.length_append, List.length_cons, List.length_nil]
        omega
      · simp [e1]
      · simp [e1]
  · rintro ⟨at_, i, mv, rs⟩ hx hq
    unfold P_l_carried_L1
    simp only at hx
    exact .ifn (by omega) (.some hq)
  · rintro ⟨at_, mv, rs⟩ ⟨q1, q2, q3⟩
    simp only at q1 q2 q3
    have hm1 : mv.length ≤ (lvs s g).length := by
      have := List.length_filter_le (fun x => decide (gathOf (lvs s g) x = w)) (rng (lvs s g).length)
      rw [rng_len] at this
      rw [q2, List.length_map]; exact this
    have hr1 : rs.length ≤ (lvs s g).length := by
      have := List.length_filter_le (fun x => decide (gathOf (lvs s g) x ≠ w)) (rng (lvs s g).length)
      rw [rng_len] at this
      rw [q3, List.length_map]; exact this
    refine Ok.andx (P := fun x : Int => 0 ≤ x ∧ x ≤ rs.length) (.ite (fun _ => .some ⟨by omega, Int.le_refl _⟩) fun _ => .some (by omega)) fun x hx => ?_
    have htl : (rs.take x.toNat).length ≤ rs.length := by rw [List.length_take]; omega
    refine .chk hx (.chk hx (.chk (by simp; omega) (.chk (by omega) (.chk (by rw [List.length_append]; omega) (.some ⟨x.toNat, ?_⟩)))))
    unfold movedTo
    simp only [List.map_append, List.map_take, List.map_drop]
    rw [← q2, ← q3, List.append_assoc]
theorem CopyWhole_true (s : Int) (g : List Gat) (x0 x1 x2 x3 : UInt16) : P_law_CopyWhole s g x0 x1 x2 x3 = some true := by
 classical
 refine Ok.get ?_;unfold P_law_CopyWhole;refine .andx' whole_ok ?_
 by_cases h : GoodBook s g
 ·have hnl := h.nl
  have hgs := (book_good h.b0).gs
  have hgs : 1 ≤ g.length ∧ g.length ≤ 30 := hgs;refine .ifp (decide_eq_true h) (.andx' (full_ok h) ?_)
  have hmm : ∀ l : List Int, List.map (fun x => (⟨GSo true encI x⟩ : Item)) (l.map fun x => [x]) = l.map itemOf := fun l => by rw [List.map_map]; rfl
  simp only [hmm, List.length_map, rng_len]
  by_cases hz : (lvs s g).length = 0 ∨ (lvs s g).length = 120
  ·refine Ok.seqx (.andx' (a := true) (Ok.get (.ite (fun _ => .some rfl) fun h0 => .some (decide_eq_true (by omega)))) (.ifp rfl (.some rfl)))
  refine Ok.seqx (.andx' (a := false) (Ok.get (.ifn (by omega) (.some (decide_eq_false (by omega))))) (.ifn (by simp) (.some ?_)))
  show Ok _ _
  have hx0 : (x0.toNat : Int) < 65536 := by have := x0.toNat_lt; omega
  have hx1 : (x1.toNat : Int) < 65536 := by have := x1.toNat_lt; omega
  have hx2 : (x2.toNat : Int) < 65536 := by have := x2.toNat_lt; omega
  have hx3 : (x3.toNat : Int) < 65536 := by have := x3.toNat_lt; omega
  have hm0 : Int.tmod (x0.toNat : Int) ((lvs s g).length : Int) = ((x0.toNat % (lvs s g).length : Nat) : Int) := (Int.ofNat_tmod _ _).symm
  have hn : x0.toNat % (lvs s g).length < (lvs s g).length := Nat.mod_lt _ (by omega);simp only [hm0];generalize x0.toNat % (lvs s g).length = n at *;refine .chk (by omega) (.chk (by omega) (.andx' (pair_ok h hn) ?_));obtain ⟨a, hc⟩ := carried_ok (w := Int.tmod (x1.toNat : Int) (g.length : Int)) (to := Int.tmod (x2.toNat : Int) ((g.length : Int) + 1)) h;generalize Int.tmod (x1.toNat : Int) (g.length : Int) = w at *;refine .chk (by omega) (.chk (by omega) (.chk (by omega) (.chk (i64_small (by omega)) (.chk (by omega) (.andx' hc ?_)))))
  have hNn : ((lvs s g).length : Int) - (n : Int) = (((lvs s g).length - n : Nat) : Int) := by omega
  have hm3 : Int.tmod (x3.toNat : Int) (((lvs s g).length - n : Nat) : Int) = ((x3.toNat % ((lvs s g).length - n) : Nat) : Int) := (Int.ofNat_tmod _ _).symm
  have hr3 : x3.toNat % ((lvs s g).length - n) < (lvs s g).length - n := Nat.mod_lt _ (by omega)
  have hm4 : Int.tmod (x3.toNat : Int) (((lvs s g).length : Int) + 1) = ((x3.toNat % ((lvs s g).length + 1) : Nat) : Int) := (Int.ofNat_tmod _ ((lvs s g).length + 1)).symm
  have hr4 : x3.toNat % ((lvs s g).length + 1) < (lvs s g).length + 1 := Nat.mod_lt _ (by omega);simp only [hNn, hm3];generalize x3.toNat % ((lvs s g).length - n) = r at *;generalize x3.toNat % ((lvs s g).length + 1) = k4 at *
  have hLl : ((rng (lvs s g).length).map itemOf).length = (lvs s g).length := by rw [List.length_map, rng_len]
  refine .chk (by omega) (.chk (i64_small (by omega)) (.chk (by omega) (.chk (i64_small (by omega)) (.chk (by omega) (.chk (i64_small (by omega)) (.el (by rw [hLl]; omega) fun y hy => ?_))))))
  have hy := get_of hy rfl;rw [List.getElem?_map, rng_get hn] at hy;cases hy
  have hm5 : Int.tmod ((n : Int) + 1 + (r : Int)) ((((rng (lvs s g).length).map itemOf).length : Int) + 1) = ((n + 1 + r : Nat) : Int) := by
   have := Int.ofNat_tmod (n + 1 + r) ((lvs s g).length + 1);rw [Nat.mod_eq_of_lt (by omega)] at this;rw [hLl];exact this.symm
  refine .andx' (without_ok (by rw [rng_len]; omega)) (.andx' (without_ok (by rw [rng_len]; omega)) (.andx' (with_ok (k := k4) (by rw [hLl]; omega) (by rw [hLl]; exact hm4) (by rw [hLl]; omega)) (.andx' (with_ok (by rw [hLl]; omega) hm5 (by rw [hLl]; omega)) ?_)))
  have hrr : ∀ x ∈ rng (lvs s g).length, 0 ≤ x ∧ x < (lvs s g).length := fun x hx => mem_rng.1 hx
  have hone : ∀ (t : List Int) (c : Int), t.length ≤ 120 → (∀ x ∈ t, 0 ≤ x ∧ x < (lvs s g).length) → manyOf s g t = c → okCase s g (t.map itemOf) ∧ ∀ u ∈ truthsOf (t.map itemOf), manyOf s g u = c := fun t c h1 h2 h3 => ⟨okCase_items h h1 h2, fun u hu => by rw [truths_items, List.mem_singleton] at hu; subst hu; exact h3⟩
  have hL0 := hone (rng (lvs s g).length) 0 (by rw [rng_len]; omega) hrr many_rng
  have hfl : ∀ p : Int → Bool, ((rng (lvs s g).length).filter p).length ≤ 120 := fun p => by
   have := List.length_filter_le p (rng (lvs s g).length);rw [rng_len] at this;omega
  have hL1 := hone _ 1 (hfl fun x => decide (x ≠ (n : Int) ∧ x ≠ (n : Int))) (fun x hx => hrr x (List.mem_filter.1 hx).1) (many_lost hn (.inl rfl))
  have hL2 := hone _ 1 (hfl fun x => decide (x ≠ (n : Int) ∧ x ≠ pairNo (bk s g) n)) (fun x hx => hrr x (List.mem_filter.1 hx).1) (many_lost hn (.inr rfl))
  have hL3 : okCase s g (((rng (lvs s g).length).map itemOf).take k4 ++ [(⟨GSo true encI []⟩ : Item)] ++ ((rng (lvs s g).length).map itemOf).drop k4) ∧ ∀ u ∈ truthsOf (((rng (lvs s g).length).map itemOf).take k4 ++ [(⟨GSo true encI []⟩ : Item)] ++ ((rng (lvs s g).length).map itemOf).drop k4), manyOf s g u = 1 := by
   refine ⟨okCase_more hL0.1 (by rw [hLl]; omega) (itemErr_of (by show [].length ≤ 4; simp) (fun x hx => by cases hx) badOrder_nil) (by show [].length ≤ 1; simp), fun t ht => ?_⟩;rw [← List.map_take, ← List.map_drop] at ht;obtain ⟨w', v, rfl, hw, hv⟩ := truths_append.1 ht;obtain ⟨u, q, rfl, hu, hq⟩ := truths_append.1 hw;obtain ⟨c, hc, rfl⟩ := truths_one.1 hq
   have hc : c ∈ [(-1 : Int)] := hc;rw [List.mem_singleton] at hc;subst hc;rw [truths_items, List.mem_singleton] at hu hv;subst hu hv
   have := many_odd (s := s) (g := g) (k := k4);rw [List.append_assoc];exact this
  have hL4 : okCase s g (((rng (lvs s g).length).map itemOf).take (n + 1 + r) ++ [itemOf n] ++ ((rng (lvs s g).length).map itemOf).drop (n + 1 + r)) ∧ ∀ u ∈ truthsOf (((rng (lvs s g).length).map itemOf).take (n + 1 + r) ++ [itemOf n] ++ ((rng (lvs s g).length).map itemOf).drop (n + 1 + r)), manyOf s g u = 1 := by
   have e : ((rng (lvs s g).length).map itemOf).take (n + 1 + r) ++ [itemOf n] ++ ((rng (lvs s g).length).map itemOf).drop (n + 1 + r) = ((rng (lvs s g).length).take (n + 1 + r) ++ (n : Int) :: (rng (lvs s g).length).drop (n + 1 + r)).map itemOf := by
    rw [← List.map_take, ← List.map_drop]; simp
   rw [e];refine hone _ 1 ?_ (fun x hx => ?_) (many_again (by omega) (by omega))
   ·rw [List.length_append, List.length_take, List.length_cons, List.length_drop, rng_len]; omega
   ·rcases List.mem_append.1 hx with hx | hx
    ·exact hrr x (List.mem_of_mem_take hx)
    ·rcases List.mem_cons.1 hx with rfl | hx
     ·omega
     ·exact hrr x (List.mem_of_mem_drop hx)
  have hperm := movedTo_perm (lvs s g) w a
  have hml : (movedTo (lvs s g) w a).length = (lvs s g).length := by rw [hperm.length_eq, rng_len]
  have hL5 := hone (movedTo (lvs s g) w a) _ (by omega) (fun x hx => hrr x (hperm.mem_iff.1 hx)) (many_moved w a)
  have hsame := same_ok (a := movedTo (lvs s g) w a) (b := rng (lvs s g).length) (by rw [hml, rng_len]) (by omega);generalize ((rng (lvs s g).length).map itemOf).take k4 ++ [(⟨GSo true encI []⟩ : Item)] ++ ((rng (lvs s g).length).map itemOf).drop k4 = A3 at *;generalize ((rng (lvs s g).length).map itemOf).take (n + 1 + r) ++ [itemOf n] ++ ((rng (lvs s g).length).map itemOf).drop (n + 1 + r) = A4 at *;generalize ((rng (lvs s g).length).filter fun x => decide (x ≠ (n : Int) ∧ x ≠ (n : Int))).map itemOf = A1 at *;generalize ((rng (lvs s g).length).filter fun x => decide (x ≠ (n : Int) ∧ x ≠ pairNo (bk s g) n)).map itemOf = A2 at *;refine Ok.seqx (Ok.count (fun s => s) 6 (fun _ _ => True) rfl trivial ?_ ?_)
  ·rintro k i hk hx _;subst hx;unfold P_law_CopyWhole_L1;simp only [hmm]
   have H : ∃ (its : List Item) (c : Int), ([(rng (lvs s g).length).map itemOf, A1, A2, A3, A4, (movedTo (lvs s g) w a).map itemOf] : List (List Item))[k]? = some its ∧ (okCase s g its ∧ ∀ u ∈ truthsOf its, manyOf s g u = c) ∧ (c = 0 ∨ c = 1) ∧ c = if k = 0 ∨ (k = 5 ∧ movedTo (lvs s g) w a = rng (lvs s g).length) then 0 else 1 := by
    have hk : k = 0 ∨ k = 1 ∨ k = 2 ∨ k = 3 ∨ k = 4 ∨ k = 5 := by omega
    rcases hk with rfl | rfl | rfl | rfl | rfl | rfl
    ·exact ⟨_, 0, rfl, hL0, .inl rfl, by simp⟩
    ·exact ⟨_, 1, rfl, hL1, .inr rfl, by simp⟩
    ·exact ⟨_, 1, rfl, hL2, .inr rfl, by simp⟩
    ·exact ⟨_, 1, rfl, hL3, .inr rfl, by simp⟩
    ·exact ⟨_, 1, rfl, hL4, .inr rfl, by simp⟩
    ·exact ⟨_, _, rfl, hL5, by by_cases e : movedTo (lvs s g) w a = rng (lvs s g).length <;> simp [e], by simp⟩
   obtain ⟨its, c, h1, ⟨h2, h3⟩, h4, h5⟩ := H;obtain ⟨⟨a1, a2, a3, a4, a5, a6, a7, a8, a9, a10, a11, hF⟩, hR⟩ := said_of h2 h3
   have hel : ∀ {β : Type} {k' : List Item → Option β} {Q : β → Prop}, Ok (k' its) Q → Ok (el ([(rng (lvs s g).length).map itemOf, A1, A2, A3, A4, (movedTo (lvs s g) w a).map itemOf] : List (List Item)) (k : Int) k') Q := fun hk' => .el ⟨by omega, by show (k : Int) < (6 : Nat); omega⟩ fun p hp => by
    have hp := get_of hp rfl;rw [h1] at hp;cases hp;exact hk'
   refine .ifp (by omega) (Ok.seqx (.andx' (a := c) (Ok.get (.andx' (a := decide (k = 0 ∨ (k = 5 ∧ movedTo (lvs s g) w a = rng (lvs s g).length))) (Ok.get ?_) ?_)) (hel (.andx' hF (hel (.andx' hR (.andx' (a := false) (Ok.get ?_) (.ifn (by simp) (.some ?_)))))))))
   ·by_cases e0 : k = 0
    ·subst e0;refine .ifp rfl (.some (by simp))
    ·refine .ifn (by omega) (.ite (fun e5 => ?_) fun e5 => .some (by simp; omega))
     have e5 : k = 5 := by omega
     subst e5;exact .andx' hsame (.some (by simp))
   ·by_cases e : k = 0 ∨ (k = 5 ∧ movedTo (lvs s g) w a = rng (lvs s g).length)
    ·rw [if_pos e] at h5;exact .ifp (decide_eq_true e) (.some h5.symm)
    ·rw [if_neg e] at h5;exact .ifn (by simp [e]) (.some h5.symm)
   ·exact .ifn (by simp) (.ifn (by simp) (.ifn (by simp) (.andx' (a := (c, c)) rfl (.some (by simp)))))
   ·show Ok _ _;exact .chk (i64_small (by omega)) (.some ⟨rfl, trivial⟩)
  ·rintro i hx _;unfold P_law_CopyWhole_L1;exact .ifn (by omega) (.some (Ok.some rfl))
 ·have hs : faultsSaid s g [] = _ := if_neg fun e => h (okCase_nil.1 e)
  have e : ¬ (caseErr s g []).2.2 = 0 := fun e => h (okCase_nil.1 e)
  exact .ifn (by simp [h]) (.andx' (c_Faults_ok.trans (congrArg some hs)) (.andx' (a := true) (Ok.get (.ifp e (.some rfl))) (.some rfl)))
end Go.Am
end
section

end
section
namespace Go.Am.Ythckcbfijdambaa
open Go.Am Go.RowKit
theorem copyWhole_calls (w : World) (b_Signed : Int) (b_Gatherings : GS encG) (x_0 : UInt16) (x_1 : UInt16) (x_2 : UInt16) (x_3 : UInt16) (xs : List Value) (h : RelL (snapR w 0) [.agg [iv (b_Signed), b_Gatherings.v], .agg [ivk .u16 ((x_0.toNat : Int)), ivk .u16 ((x_1.toNat : Int)), ivk .u16 ((x_2.toNat : Int)), ivk .u16 ((x_3.toNat : Int))]] xs) :
  Calls Go.Proofs.Try.prog 5 xs.toArray w fun e w' => e = .returned (.bool true) ∧ Below w.heap.size w w' :=
 ((w_law_CopyWhole b_Signed b_Gatherings x_0 x_1 x_2 x_3 true (CopyWhole_true _ _ _ _ _ _)).runsTo.calls (EL_good 7) w xs h).mono fun e w' ⟨x, he, hr, hb⟩ => ⟨by rw [he]; cases hr; rfl, hb⟩
end Go.Am.Ythckcbfijdambaa
namespace Go.Proofs.Ythckcbfijdambaa.copyWhole
open Go.ChangeShapes Go.WideShapes Go.ChangeAt Go.RowKit
set_option linter.unusedVariables false
theorem own : ownKnob Try.prog.godebug = none := by kernel_rfl
theorem laid : laidOutB Try.prog = true := by kernel_rfl
set_option maxRecDepth 100000 in
theorem lifted (os : Os) (started : os.Started) (H : Type) (enc : TypeId × Value → H) :
  ReturnsInHanded {} Try.checked os 5 .any (Rows.copyWholeSpec.pre6 enc Try.prog Try.f5 Rows.copyWholeRow.domain false) (Rows.copyWholeSpec.post enc Try.prog Try.f5 false true false false) := by
 refine returnsInHanded_of_change (C := Try.checked) own started (by kernel_rfl) Try.func5
  (ChangeSpec.witness6 (enc := enc) (C := Try.checked) false ⟨#[], #[.agg #[.int .i64 0, .slice none 0 0], .agg #[.int .u16 0, .int .u16 0, .int .u16 0, .int .u16 0]], []⟩ 8 (by kernel_rfl) (by kernel_rfl) (by kernel_rfl) (by kernel_rfl)) ?_
 intro W base args ds gs before hval0 hW hcnd _
 have hW' := hW;obtain ⟨p, q, hA0, hV, rfl, hfz, hnd⟩ := hW
 have hA : DataW.TrodAll enc Try.prog W 0 (fun _ => true) true Try.f5.params.toList args.toList ds p := hA0
 have hval : ∀ (j : Nat) t v, Try.f5.params[j]? = some t → args[j]? = some v → Value.okWide Try.prog W .any base t v := hval0;rw [Try.params5] at hA hval;obtain ⟨v0, v1, d0, d1, p0, p1, rfl, rfl, rfl, h0, h1⟩ := trodAll_two hA;obtain ⟨rfl, rfl⟩ := trodVars_none hV;obtain ⟨x0, r0⟩ := Go.Am.Ythckcbfijdambaa.li_24.arg Try.underlying24 (hval 0 24 v0 rfl rfl) h0;obtain ⟨x1, r1⟩ := Go.Am.Ythckcbfijdambaa.li_45.argA Try.underlying45 (hval 1 45 v1 rfl rfl) h1
 clear hA0 hval0
 refine (Go.Am.Ythckcbfijdambaa.copyWhole_calls W x0.signed x0.gs x1.1 x1.2.1 x1.2.2.1 x1.2.2.2 [v0, v1] (.cons r0 (.cons r1 (.nil _)))).mono fun e W' ⟨he, bel⟩ => ?_
 subst he
 have hlt : ∀ x ∈ p0 ++ p1, x.block < W.heap.size := fun x hx => hW'.lt x (by simpa using hx)
 have k0 := Below.trod laid (by kernel_rfl) (of_decide_eq_true (by kernel_rfl)) h0 bel fun x hx => hlt x (by simp [hx])
 have k1 := Below.trod laid (by kernel_rfl) (of_decide_eq_true (by kernel_rfl)) h1 bel fun x hx => hlt x (by simp [hx])
 exact ⟨_, rfl, _, _, _, [], _, [], hW', trodAll_mk1 (shut_bool Try.underlying4 _), trodAll_mk2 k0 k1, rfl, bel.frame _, fun h => by cases h⟩
theorem over : Rows.copyWholeRow.holds Try.pinned (OpenSpec.ofChange Rows.copyWholeSpec) :=
 OpenClaim.holds_of_wide 5 Try.f5 rfl rfl rfl rfl rfl rfl rfl ⟨rfl, rfl, rfl, rfl, rfl⟩ rfl rfl rfl rfl rfl (by kernel_rfl) Try.func5 (by kernel_rfl)
  (of_decide_eq_true (by kernel_rfl)) (by unfold Func.isWrapper; first | (rw [if_pos (by decide +kernel)]; kernel_rfl) | (rw [if_neg (by decide +kernel)]; exact ⟨rfl, rfl⟩))
  (fun os started H enc _ => lifted os started H enc)
theorem proved : Rows.CopyWholeSaid := over
#print axioms proved
end Go.Proofs.Ythckcbfijdambaa.copyWhole
end
