/- Part 5. -/
import Derived.Test.YthckcbfijdambaaGreatCopyFewestP4
import Derived.WalkKit
import Derived.ProofKit
import Derived.OpenShut
import Derived.ChangeOld
import Derived.Below
import Derived.Carry
section
namespace Go.Am
set_option linter.unusedVariables false
noncomputable def pickT (s : Int) (g : List Gat) (b t : List Int) : List Int := if manyOf s g t < manyOf s g b then t else b
noncomputable def bestOf (s : Int) (g : List Gat) (its : List Item) : List Int := match truthsOf its with | [] => [] | t :: l => l.foldl (pickT s g) t
theorem pick_fold (s : Int) (g : List Gat) : ∀ (l : List (List Int)) (b : List Int), (l.foldl (pickT s g) b = b ∨ l.foldl (pickT s g) b ∈ l) ∧ manyOf s g (l.foldl (pickT s g) b) ≤ manyOf s g b ∧ ∀ t ∈ l, manyOf s g (l.foldl (pickT s g) b) ≤ manyOf s g t := by
 intro l
 induction l with
 | nil => intro b; exact ⟨.inl rfl, Int.le_refl _, fun t h => by cases h⟩
 | cons u l ih =>
  intro b;rw [List.foldl_cons];obtain ⟨h1, h2, h3⟩ := ih (pickT s g b u)
  have hp : (pickT s g b u = b ∨ pickT s g b u = u) ∧ manyOf s g (pickT s g b u) ≤ manyOf s g b ∧ manyOf s g (pickT s g b u) ≤ manyOf s g u := by
   unfold pickT;split
   ·exact ⟨.inr rfl, by omega, by omega⟩
   ·exact ⟨.inl rfl, by omega, by omega⟩
  refine ⟨?_, by omega, fun t ht => ?_⟩
  ·rcases h1 with h1 | h1
   ·rcases hp.1 with e | e
    ·exact .inl (h1.trans e)
    ·rw [e] at h1; exact .inr (by rw [e, h1]; exact List.mem_cons_self)
   ·exact .inr (List.mem_cons_of_mem _ h1)
  ·rcases List.mem_cons.1 ht with rfl | ht
   ·omega
   ·exact h3 t ht
theorem best_in {s : Int} {g : List Gat} {its : List Item} (hf : ∀ x ∈ its, x.could.l.length ≤ 4) : bestOf s g its ∈ truthsOf its ∧ ∀ t ∈ truthsOf its, manyOf s g (bestOf s g its) ≤ manyOf s g t := by
 obtain ⟨t, l, h⟩ := truths_pos hf
 have e : bestOf s g its = l.foldl (pickT s g) t := by unfold bestOf; rw [h]
 obtain ⟨h1, h2, h3⟩ := pick_fold s g l t;rw [e, h];refine ⟨?_, fun u hu => ?_⟩
 ·rcases h1 with h1 | h1
  ·rw [h1]; exact List.mem_cons_self
  ·exact List.mem_cons_of_mem _ h1
 ·rcases List.mem_cons.1 hu with rfl | hu
  ·exact h2
  ·exact h3 u hu
noncomputable def faultsSaid (s : Int) (g : List Gat) (its : List Item) : List Int × Bool × List Int × Bool × Int × List Int × Bool × List Int × Bool × List Int × Bool × Int × Int :=
 if okCase s g its then (bestOf s g its, false, lostOf (lvs s g).length (bestOf s g its), true, piecesOf (matesOf s g) (lostOf (lvs s g).length (bestOf s g its)), strangeOf (bestOf s g its), true, twiceOf (bestOf s g its), true, movedOf (runsOf (gathOf (lvs s g)) (bestOf s g its)), true, manyOf s g (bestOf s g its), 0)
 else ([], true, [], true, 0, [], true, [], true, [], true, 0, (caseErr s g its).2.2)
noncomputable def cst (s : Int) (g : List Gat) (t : List Int) : (List Int) × Bool × (List Int) × (List Int) × (List Int) × (List Int) × Bool × Int × Int :=
 (t, false, lostOf (lvs s g).length t, strangeOf t, twiceOf t, movedOf (runsOf (gathOf (lvs s g)) t), false, piecesOf (matesOf s g) (lostOf (lvs s g).length t), manyOf s g t)
theorem cstep {s : Int} {g : List Gat} {its : List Item} (h : GoodCase s g its) {b t : List Int} (ht : t ∈ truthsOf its) :
  P_c_Faults_L1 g its s (GSo true encL (lvs s g)) (matesOf s g) (cst s g b) t = some (.ag (cst s g (pickT s g b t))) := by
 have hl := (truths_in h t ht).1
 have hil := h.il
 have hgo : (GSo true encL (lvs s g)).l = lvs s g := rfl;unfold P_c_Faults_L1 cst;simp only [hgo];rw [cfaults_ok h ht];simp only [andx];rw [if_neg Bool.false_ne_true];simp only;unfold pickT
 by_cases hc : manyOf s g t < manyOf s g b
 ·rw [if_pos hc]
  have : ¬ (decide (manyOf s g t ≥ manyOf s g b) = true) := by simp; exact hc
  rw [if_neg this];simp only [seqx];rw [chk_pos (by omega), chk_pos (by simp)]
 ·rw [if_neg hc]
  have : decide (manyOf s g t ≥ manyOf s g b) = true := decide_eq_true (by omega);rw [if_pos this];rfl
theorem cfold {s : Int} {g : List Gat} {its : List Item} (h : GoodCase s g its) : ∀ (l : List (List Int)) (b : List Int), (∀ t ∈ l, t ∈ truthsOf its) →
  foldx (P_c_Faults_L1 g its s (GSo true encL (lvs s g)) (matesOf s g)) l (cst s g b) = some (.nx (cst s g (l.foldl (pickT s g) b))) := by
 intro l
 induction l with
 | nil => intro b _; rfl
 | cons u l ih =>
  intro b hm;unfold foldx;rw [cstep h (hm u List.mem_cons_self)];exact ih _ fun t ht => hm t (List.mem_cons_of_mem _ ht)
theorem cfirst {s : Int} {g : List Gat} {its : List Item} (h : GoodCase s g its) {t : List Int} (ht : t ∈ truthsOf its) :
  P_c_Faults_L1 g its s (GSo true encL (lvs s g)) (matesOf s g) ([], true, [], [], [], [], true, 0, 0) t = some (.ag (cst s g t)) := by
 have hl := (truths_in h t ht).1
 have hil := h.il
 have hgo : (GSo true encL (lvs s g)).l = lvs s g := rfl;unfold P_c_Faults_L1 cst;simp only [hgo];rw [cfaults_ok h ht];simp only [andx, if_true, Bool.false_eq_true, if_false, seqx];rw [chk_pos (by omega), chk_pos (by simp)]
theorem c_Faults_ok {s : Int} {g : List Gat} {its : List Item} : P_c_Faults s g its = some (faultsSaid s g its) := by
 unfold P_c_Faults faultsSaid;rw [open_ok]
 by_cases e : okCase s g its
 ·have h := case_good e;rw [openRes_ok e, if_pos e];simp only [andx];rw [chk_pos trivial, chk_pos ⟨h.il, h.few⟩];obtain ⟨t, l, htl⟩ := truths_pos h.few
  have hb : bestOf s g its = l.foldl (pickT s g) t := by unfold bestOf; rw [htl]
  have hfx : foldx (P_c_Faults_L1 g its s (GSo true encL (lvs s g)) (matesOf s g)) (truthsOf its) ([], true, [], [], [], [], true, 0, 0) = some (.nx (cst s g (bestOf s g its))) := by
   rw [htl, hb];unfold foldx;rw [cfirst h (by rw [htl]; exact List.mem_cons_self)];exact cfold h l t fun u hu => by rw [htl]; exact List.mem_cons_of_mem _ hu
  rw [hfx];simp only [seqx, cst]
 ·rw [openRes_err e, if_neg e];simp only [andx];rw [chk_pos e]
theorem follow_at (last : Int) : ∀ (ps : List (S_copy_run × Int)) (a : Int), follow last ps a = a ∨ ∃ p ∈ ps, p.1.first > last ∧ p.2 = follow last ps a := by
 intro ps
 induction ps with
 | nil => intro a; exact .inl rfl
 | cons p ps ih =>
  intro a;rw [follow_cons]
  rcases ih (if p.1.first > last then max a p.2 else a) with h | ⟨q, hq, h1, h2⟩
  ·rw [h];split
   ·rename_i hc
    by_cases hm : a ≤ p.2
    ·exact .inr ⟨p, List.mem_cons_self, hc, by omega⟩
    ·exact .inl (by omega)
   ·exact .inl rfl
  ·exact .inr ⟨q, List.mem_cons_of_mem _ hq, h1, h2⟩
theorem follow_mono (last : Int) : ∀ (ps : List (S_copy_run × Int)) (a b : Int), a ≤ b → follow last ps a ≤ follow last ps b := by
 intro ps
 induction ps with
 | nil => intro a b h; exact h
 | cons p ps ih =>
  intro a b h;rw [follow_cons, follow_cons];refine ih _ _ ?_;split <;> omega
theorem moved_count : ∀ (l : List S_copy_run) (b last : Int), 0 ≤ b → (b = 0 ∨ ∃ p ∈ l.zip (chains l), p.2 = b ∧ p.1.first > last) → ((movedFrom (l.zip (chains l)) b last).length : Int) + b = l.length := by
  intro l
  induction l with
  | nil =>
    intro b last hb h
    rcases h with rfl | ⟨p, hp, _⟩
    · rfl
    · cases hp
  | cons r l ih =>
    intro b last hb h
    rw [chains, List.zip_cons_cons, movedFrom]
    have hbd := chains_bounds (r :: l)
    by_cases hc : follow r.last (l.zip (chains l)) 0 + 1 = b ∧ r.first > last
    · rw [if_pos hc]
      have h1 := follow_ge r.last (l.zip (chains l)) 0
      have := ih (b - 1) r.last (by omega) (by
        rcases follow_at r.last (l.zip (chains l)) 0 with e | ⟨p, hp, h1, h2⟩
        · exact .inl (by omega)
        · exact .inr ⟨p, hp, by omega, h1⟩)
      rw [List.length_cons]
      show ((movedFrom (l.zip (chains l)) (b - 1) r.last).length : Int) + b = _
      omega
    · rw [if_neg hc]
      have := ih b last hb (by
        rcases h with h | ⟨p, hp, h1, h2⟩
        · exact .inl h
        · rw [chains, List.zip_cons_cons] at hp
          rcases List.mem_cons.1 hp with rfl | hp
          · exact absurd ⟨h1, h2⟩ hc
          · exact .inr ⟨p, hp, h1, h2⟩)
      rw [List.length_cons, List.length_cons]
      omega
theorem top_in : ∀ l : List Int, (∀ m ∈ l, 1 ≤ m) → top l = 0 ∨ top l ∈ l := by
 intro l
 induction l with
 | nil => intro _; exact .inl rfl
 | cons a l ih =>
  intro h;rw [top]
  have h1 := h a List.mem_cons_self
  have h2 := ih fun m hm => h m (List.mem_cons_of_mem _ hm)
  by_cases hc : top l ≤ a
  ·exact .inr (by rw [show max (top l) a = a by omega]; exact List.mem_cons_self)
  ·rw [show max (top l) a = top l by omega]
   rcases h2 with h2 | h2
   ·omega
   ·exact .inr (List.mem_cons_of_mem _ h2)
theorem moved_many {l : List S_copy_run} {N : Nat} (hr : ∀ r ∈ l, RunOk N r) : ((movedOf l).length : Int) + top (chains l) = l.length := by
 refine moved_count l _ _ (top_bounds (M := l.length) (by omega) _ fun m hm => (chains_bounds l m hm).2).1 ?_
 rcases top_in (chains l) (fun m hm => (chains_bounds l m hm).1) with h | h
 ·exact .inl h
 ·obtain ⟨i, hi, e⟩ := List.mem_iff_getElem.1 h
  have hil : i < l.length := by rw [chains_len] at hi; exact hi
  refine .inr ⟨(l[i], top (chains l)), ?_, rfl, by have := (hr l[i] (List.getElem_mem hil)).1; simp only; omega⟩;refine List.mem_iff_getElem?.2 ⟨i, ?_⟩;rw [List.getElem?_zip_eq_some];exact ⟨List.getElem?_eq_getElem hil, by rw [← e]; exact List.getElem?_eq_getElem hi⟩
theorem kept_le {rs : List S_duodecimoref04_Run} {l : List S_copy_run} {bits : List UInt8} {N : Nat} (hl : l = rs.map toC) (hn : l.length ≤ 120) (hr : ∀ r ∈ l, RunOk N r) :
  ∃ ks, P_l_kept rs bits = some ks ∧ (ks.length : Int) ≤ top (chains l) ∧ ks.length ≤ l.length := by
 suffices k : Ok (P_l_kept rs bits) (fun ks => (ks.length : Int) ≤ top (chains l) ∧ ks.length ≤ l.length) from k
 have hll : l.length = rs.length := by rw [hl, List.length_map]
 unfold P_l_kept;refine Ok.andx (P := fun ks : List Int => (ks.length : Int) ≤ top (chains l) ∧ ks.length ≤ l.length) (Ok.count (fun s => s.2.1) rs.length (fun k (x : Int × Int × List Int) => (x.2.2.length : Int) + follow x.1 ((l.zip (chains l)).drop k) 0 ≤ top (chains l) ∧ x.2.2.length ≤ k) rfl ?_ ?_ ?_) fun _ h => .some h
 ·refine ⟨?_, Nat.le_refl _⟩;simp only [List.drop_zero, List.length_nil]
  rcases top_follow (-1) (l.zip (chains l)) 0 (fun p hp => by have := (hr p.1 (List.of_mem_zip hp).1).1; omega) with h | h
  ·rw [h]
   have e : (l.zip (chains l)).map (·.2) = chains l := by
    rw [List.map_snd_zip];rw [chains_len]; exact Nat.le_refl _
   rw [e]
   have := (top_bounds (M := l.length) (by omega) _ fun m hm => (chains_bounds l m hm).2).1;omega
  ·omega
 ·rintro k ⟨last, i, out⟩ hk hx ⟨hq, hq2⟩;simp only at hx hq hq2;subst hx;obtain ⟨r, hrk⟩ : ∃ r, rs[k]? = some r := ⟨_, List.getElem?_eq_getElem hk⟩
  have hlk : l[k]? = some (toC r) := by rw [hl, List.getElem?_map, hrk]; rfl
  obtain ⟨c, hc⟩ : ∃ c, (chains l)[k]? = some c := ⟨_, List.getElem?_eq_getElem (by rw [chains_len]; omega)⟩
  have hz : (l.zip (chains l))[k]? = some (toC r, c) := by rw [List.getElem?_zip_eq_some]; exact ⟨hlk, hc⟩
  have hca : c = follow (toC r).last (behind l k) 0 + 1 := by
   have := chains_at hlk;rw [hc] at this;cases this;rfl
  have hbh : behind l k = (l.zip (chains l)).drop (k + 1) := by unfold behind; rw [zip_drop, chains_drop]
  rw [drop_cons hz, follow_cons] at hq;unfold P_l_kept_L1;dsimp only
  have hfirst : ∀ {Q : Bool → Prop}, Q (decide (r.first > last)) → Ok (el rs (k : Int) fun a31 => some (decide (a31.first > last))) Q := fun h => .el (by omega) fun a ha => by
   have ha := get_of ha rfl;rw [hrk] at ha;cases ha;exact .some h
  refine .ifp (by omega) (Ok.andx (P := fun x : Int × List Int => (x.2.length : Int) + follow x.1 ((l.zip (chains l)).drop (k + 1)) 0 ≤ top (chains l) ∧ x.2.length ≤ k + 1) (Ok.andx (P := fun b : Bool => b = true → r.first > last) ?_ ?_) ?_)
  ·refine .ite (fun h0 => .chk (by omega) ?_) (fun _ => .some (fun h => by cases h))
   have hbp : 0 < bits.length := by omega
   have hmod : Int.tmod (k : Int) (bits.length : Int) = ((k % bits.length : Nat) : Int) := Int.ofNat_tmod _ _ |>.symm;refine .el (by rw [hmod]; have := Nat.mod_lt k hbp; omega) fun a ha => .chk (by omega) (.ite (fun _ => hfirst fun h => of_decide_eq_true h) (fun _ => .some (fun h => by cases h)))
  ·intro b hb2;refine .ite (fun h => .chk (by simp; omega) (.el (by omega) fun a ha => ?_)) (fun h => .some ⟨?_, by simp only; omega⟩)
   ·have ha := get_of ha rfl;rw [hrk] at ha;cases ha
    have hf : (toC r).first > last := hb2 h;refine .some ⟨?_, by simp; omega⟩;rw [if_pos hf] at hq;dsimp only at hq
    have h1 := follow_ge last ((l.zip (chains l)).drop (k + 1)) (max 0 c)
    have e1 : follow r.last ((l.zip (chains l)).drop (k + 1)) 0 = c - 1 := by rw [hca, hbh]; show _ = follow r.last _ 0 + 1 - 1; omega
    simp only [List.length_append, List.length_singleton];omega
   ·have h1 := follow_mono last ((l.zip (chains l)).drop (k + 1)) 0 (if (toC r).first > last then max 0 c else 0) (by split <;> omega);simp only at hq ⊢;omega
  ·rintro ⟨la, o⟩ ⟨h1, h2⟩;exact .chk (i64_small (by omega)) (.some ⟨rfl, h1, h2⟩)
 ·rintro ⟨last, i, out⟩ hx ⟨hq, hq2⟩;simp only at hx hq hq2;unfold P_l_kept_L1;refine .ifn (by omega) (.some ?_)
  have := follow_ge last ((l.zip (chains l)).drop rs.length) 0;exact ⟨by omega, by omega⟩
theorem rnStep_items (g : Int → Int) (l : List S_copy_run) (i n : Int) : (rnStep g l i n).map (·.item) = l.map (·.item) ∨ (rnStep g l i n).map (·.item) = l.map (·.item) ++ [i] := by
 unfold rnStep;split
 ·rename_i r hr
  split
  ·refine .inl ?_;rw [List.map_set];refine List.ext_getElem? fun j => ?_
   rw [List.getElem?_set];split
   ·rename_i e
    subst e
    have := (List.getElem?_eq_some_iff.1 hr).1;rw [List.length_map, if_pos this, List.getElem?_map, hr];rfl
   ·rfl
  ·exact .inr (by simp)
 ·exact .inr (by simp)
theorem runs_items (g : Int → Int) (t : List Int) : ∀ k, ((runsTo g t k).map (·.item)).Pairwise (· < ·) ∧ ∀ x ∈ (runsTo g t k).map (·.item), x < (k : Int) := by
 intro k
 induction k with
 | zero => exact ⟨List.Pairwise.nil, fun x h => by cases h⟩
 | succ k ih =>
  have up : ∀ x ∈ (runsTo g t k).map (·.item), x < ((k + 1 : Nat) : Int) := fun x hx => by have := ih.2 x hx; omega
  rw [runsTo];split
  ·split
   ·rcases rnStep_items g (runsTo g t k) k _ with e | e
    ·rw [e]; exact ⟨ih.1, up⟩
    ·rw [e];refine ⟨List.pairwise_append.2 ⟨ih.1, List.pairwise_singleton _ _, fun a ha b hb => ?_⟩, fun x hx => ?_⟩
     ·rw [List.mem_singleton] at hb; subst hb; exact ih.2 a ha
     ·rcases List.mem_append.1 hx with hx | hx
      ·exact up x hx
      ·rw [List.mem_singleton] at hx; subst hx; omega
   ·exact ⟨ih.1, up⟩
  ·exact ⟨ih.1, up⟩
theorem mem_movedFrom : ∀ (ps : List (S_copy_run × Int)) (b last : Int), ∀ x ∈ movedFrom ps b last, ∃ p ∈ ps, p.1.item = x := by
 intro ps
 induction ps with
 | nil => intro b last x h; cases h
 | cons p ps ih =>
  intro b last x h;rw [movedFrom] at h;split at h
  ·obtain ⟨q, hq, e⟩ := ih _ _ x h;exact ⟨q, List.mem_cons_of_mem _ hq, e⟩
  ·rcases List.mem_cons.1 h with rfl | h
   ·exact ⟨p, List.mem_cons_self, rfl⟩
   ·obtain ⟨q, hq, e⟩ := ih _ _ x h;exact ⟨q, List.mem_cons_of_mem _ hq, e⟩
theorem kept_loop {rs : List S_duodecimoref04_Run} {l : List S_copy_run} {N : Nat} (hl : l = rs.map toC) (hn : l.length ≤ 120) (hr : ∀ r ∈ l, RunOk N r) (hs : (l.map (·.item)).Pairwise (· < ·)) :
  iter (P_law_CopyFewest_L2 (movedOf l) true rs) ((-1), 0, 0) = some (.nx ((movedOf l).length : Int)) := by
 have hll : l.length = rs.length := by rw [hl, List.length_map]
 have hml := movedOf_len l;refine Ok.get (Ok.count (fun s => s.2.2) rs.length (fun k (x : Int × Int × Int) => ∃ (b : Int) (out : List Int), x.2.1 = (out.length : Int) ∧ out.length ≤ k ∧ movedOf l = out ++ movedFrom ((l.zip (chains l)).drop k) b x.1 ∧ ∀ x ∈ out, ∀ r ∈ l.drop k, x < r.item) rfl ⟨top (chains l), [], rfl, Nat.le_refl _, rfl, fun x hx => by cases hx⟩ ?_ ?_)
 ·rintro k ⟨last, moved, i⟩ hk hx ⟨b, out, q1, q2, q3, q4⟩;simp only at hx q1 q3;subst hx q1;obtain ⟨r, hrk⟩ : ∃ r, rs[k]? = some r := ⟨_, List.getElem?_eq_getElem hk⟩
  have hlk : l[k]? = some (toC r) := by rw [hl, List.getElem?_map, hrk]; rfl
  obtain ⟨c, hc⟩ : ∃ c, (chains l)[k]? = some c := ⟨_, List.getElem?_eq_getElem (by rw [chains_len]; omega)⟩
  have hz : (l.zip (chains l))[k]? = some (toC r, c) := by rw [List.getElem?_zip_eq_some]; exact ⟨hlk, hc⟩
  rw [drop_cons hz, movedFrom] at q3;rw [drop_cons hlk] at q4
  have hsd : ((l.drop k).map (·.item)).Pairwise (· < ·) := by rw [List.map_drop]; exact hs.sublist (List.drop_sublist _ _)
  rw [drop_cons hlk, List.map_cons, List.pairwise_cons] at hsd
  have hgt : ∀ q ∈ l.drop (k + 1), (toC r).item < q.item := fun q hq => hsd.1 _ (List.mem_map_of_mem hq)
  have hlater : ∀ b last, (toC r).item ∉ movedFrom ((l.zip (chains l)).drop (k + 1)) b last := fun b last hm => by
   obtain ⟨p, hp, e⟩ := mem_movedFrom _ _ _ _ hm;rw [zip_drop] at hp
   have := hgt p.1 (List.of_mem_zip hp).1;omega
  have hout : (toC r).item ∉ out := fun hm => by have := q4 _ hm (toC r) List.mem_cons_self; omega
  have hgo : (GSo true encI (movedOf l)).l = movedOf l := rfl;unfold P_law_CopyFewest_L2;rw [hgo];refine .ifp (by omega) (Ok.seqx (.el (by omega) fun a ha => ?_))
  have ha := get_of ha rfl;rw [hrk] at ha;cases ha
  have hel : ∀ {β : Type} {k' : S_duodecimoref04_Run → Option β} {Q : β → Prop}, Ok (k' r) Q → Ok (el rs (k : Int) k') Q := fun hk' => .el (by omega) fun a ha => by
   have ha := get_of ha rfl;rw [hrk] at ha;cases ha;exact hk'
  refine .andx' (has_ok (by omega)) ?_
  by_cases hcond : c = b ∧ (toC r).first > last
  ·rw [if_pos hcond] at q3
   have hnm : r.item ∉ movedOf l := fun hm => by
    rw [q3, List.mem_append] at hm;exact hm.elim hout (hlater _ _)
   refine .ifn (by simp [hnm]) (hel (.ifn (by have h2 : r.first > last := hcond.2; omega) (hel (.some ?_))));refine .chk (i64_small (by omega)) (.some ⟨rfl, b - 1, out, rfl, by omega, q3, fun x hx q hq => q4 x hx q (List.mem_cons_of_mem _ hq)⟩)
  ·rw [if_neg hcond] at q3
   have hm : r.item ∈ movedOf l := by
    rw [q3, List.mem_append];exact .inr List.mem_cons_self
   refine .ifp (decide_eq_true hm) (.chk (i64_small (by omega)) (.some ?_));refine .chk (i64_small (by omega)) (.some ⟨rfl, b, out ++ [r.item], by simp, by simp; omega, by rw [List.append_assoc]; exact q3, fun x hx q hq => ?_⟩)
   rcases List.mem_append.1 hx with hx | hx
   ·exact q4 x hx q (List.mem_cons_of_mem _ hq)
   ·rw [List.mem_singleton] at hx; subst hx; exact hgt q hq
 ·rintro ⟨last, moved, i⟩ hx ⟨b, out, q1, q2, q3, q4⟩;simp only at hx q1 q3;unfold P_law_CopyFewest_L2;refine .ifn (by omega) (.some ?_)
  show Ex.nx moved = _;rw [q3, List.drop_eq_nil_of_le (by rw [List.length_zip, chains_len]; omega), movedFrom, List.append_nil, q1]
theorem leaves_loop {its : List Item} {t : List Int} (hf : ∀ x ∈ its, x.could.l.length ≤ 4) (hil : its.length ≤ 120) (ht : t ∈ truthsOf its) : iter (P_law_CopyFewest_L1 its t false) 0 = some (.nx ()) := by
 obtain ⟨h1, h2⟩ := mem_truths.1 ht
 have hgo : (GSo false encI t).l = t := rfl;refine Ok.get (Ok.count (fun s => s) t.length (fun k x => True) rfl trivial ?_ ?_)
 ·rintro k i hk hx _;subst hx;unfold P_law_CopyFewest_L1;rw [hgo];obtain ⟨x, hx⟩ : ∃ x, its[k]? = some x := ⟨_, List.getElem?_eq_getElem (by omega)⟩;obtain ⟨c, hc, e⟩ := h2 k x hx
  have hel : ∀ {β : Type} {k' : Item → Option β} {Q : β → Prop}, Ok (k' x) Q → Ok (el its (k : Int) k') Q := fun hk' => .el (by omega) fun a ha => by
   have ha := get_of ha rfl;rw [hx] at ha;cases ha;exact hk'
  have het : ∀ {β : Type} {k' : Int → Option β} {Q : β → Prop}, Ok (k' c) Q → Ok (el t (k : Int) k') Q := fun hk' => .el (by omega) fun a ha => by
   have ha := get_of ha rfl;rw [e] at ha;cases ha;exact hk'
  have hfx := hf x (List.mem_of_getElem? hx);refine .ifp (by omega) (Ok.seqx (.andx' (a := false) (Ok.get (hel ?_)) (.ifn (by simp) (.some ?_))))
  ·unfold chs at hc
   by_cases h0 : x.could.l = []
   ·rw [if_pos h0, List.mem_singleton] at hc;subst hc;refine .ifp (by rw [h0]; rfl) (het (.ifn (by simp) (hel (.ifn (by rw [h0]; simp) (.some rfl)))))
   ·rw [if_neg h0] at hc
    have hpos := List.length_pos_of_mem hc;refine .ifn (by omega) (hel (.ifp (by omega) (hel (het (.andx' (has_ok (by omega)) (.some ?_))))));simp [hc]
  ·show Ok _ _;exact .chk (i64_small (by omega)) (.some ⟨rfl, trivial⟩)
 ·rintro i hx _;unfold P_law_CopyFewest_L1;rw [hgo];exact .ifn (by omega) (.some rfl)
theorem CopyFewest_true (s : Int) (g : List Gat) (its : List Item) (n : UInt16) (bits : List UInt8) : P_law_CopyFewest s g its n bits = some true := by
 refine Ok.get ?_;unfold P_law_CopyFewest
 by_cases e : okCase s g its
 ·have h := case_good e
  have hil := h.il
  have hnl := h.nl
  have hs : faultsSaid s g its = _ := if_pos e;refine .andx' (c_Faults_ok.trans (congrArg some hs)) (.andx' valid_ok (.ifp (decide_eq_true e) ?_));obtain ⟨hb1, hb2⟩ := best_in (s := s) (g := g) h.few;generalize bestOf s g its = t0 at *
  have hg1 : (GSo false encI t0).l = t0 := rfl
  have hgs : ∀ l : List Int, (GSo true encI l).l = l := fun _ => rfl
  have hti := truths_in h t0 hb1
  have htl := hti.1
  have hin : ∀ t ∈ truthsOf its, TruthIn (lvs s g).length t := fun t ht x hx => by rcases (truths_in h t ht).2 x hx with h | h <;> omega
  have hbd := fun t (ht : t ∈ truthsOf its) => many_bounds s g t
  refine Ok.seqx (.andx' (a := false) (Ok.get (.ifn (by simp) (.some (decide_eq_false (by rw [hg1]; omega))))) (.ifn (by simp) (.some ?_)))
  show Ok _ _;refine Ok.seqx (.eq (leaves_loop h.few hil hb1) ?_)
  show Ok _ _;simp only [hg1, hgs]
  have hlo := lostOf_len (lvs s g).length t0
  have hp := piecesOf_le (matesOf s g) (lostOf (lvs s g).length t0)
  have hst : (strangeOf t0).length ≤ 120 := Nat.le_trans (idxTo_len _ _ _) (by omega)
  have htw : (twiceOf t0).length ≤ 120 := Nat.le_trans (idxTo_len _ _ _) (by omega)
  have hr0 := runsTo_ok (g := gathOf (lvs s g)) (hin t0 hb1) t0.length
  have hrl0 : (runsOf (gathOf (lvs s g)) t0).length ≤ t0.length := hr0.2
  have hmv := movedOf_len (runsOf (gathOf (lvs s g)) t0);refine .andx' (rOf_ok h hb1) ?_;dsimp only;refine Ok.seqx (.andx' (a := false) (Ok.get ?_) (.ifn (by simp) (.some ?_)))
  ·refine .andx' (ints_ok (by omega)) (.ifp (by simp) (.ifn (by simp) (.andx' (ints_ok (by omega)) (.ifp (by simp) (.andx' (ints_ok (by omega)) (.ifp (by simp) (.chk (i64_small (by omega)) (.chk (i64_small (by omega)) (.chk (i64_small (by omega)) (.some (decide_eq_false ?_)))))))))));exact Classical.not_not.2 rfl
  show Ok _ _;obtain ⟨rs, er, hrs⟩ := Runs_ok h.book (by omega) (hin t0 hb1);refine .andx' er (Ok.seqx (.eq (kept_loop (l := runsOf (gathOf (lvs s g)) t0) hrs.symm (by omega) hr0.1 (runs_items _ _ _).1) ?_))
  show Ok _ _;obtain ⟨z, hz⟩ := All_ok h
  have hn : (n.toNat : Int) < 65536 := by have := n.toNat_lt; omega
  refine .chk (by omega) (.andx' hz ?_)
  have hgl : (GSo z (encSl encI) (List.map (GSo true encI) (truthsOf its))).l = List.map (GSo true encI) (truthsOf its) := rfl;dsimp only;rw [hgl]
  have hpos : 0 < (truthsOf its).length := List.length_pos_of_mem hb1;rw [List.length_map]
  have hmod : Int.tmod (n.toNat : Int) ((truthsOf its).length : Int) = ((n.toNat % (truthsOf its).length : Nat) : Int) := Int.ofNat_tmod _ _ |>.symm;refine .chk (by omega) (.el ?_ fun a ha => ?_)
  ·rw [hmod, List.length_map]
   have := Nat.mod_lt n.toNat hpos;omega
  obtain ⟨t, ht⟩ : ∃ t, (truthsOf its)[n.toNat % (truthsOf its).length]? = some t := ⟨_, List.getElem?_eq_getElem (Nat.mod_lt _ hpos)⟩;rw [hmod, Int.toNat_natCast, List.getElem?_map, ht] at ha;cases ha
  have htm := List.mem_of_getElem? ht
  have htr := truths_in h t htm
  have htrl := htr.1
  have hgo : (GSo true encI t).l = t := rfl;rw [hgo];obtain ⟨rs', er', hrs'⟩ := Runs_ok h.book (by omega) (hin t htm)
  have hr1 := runsTo_ok (g := gathOf (lvs s g)) (hin t htm) t.length
  have hrl1 : (runsOf (gathOf (lvs s g)) t).length ≤ t.length := hr1.2;obtain ⟨ks, ek, hk1, hk2⟩ := kept_le (bits := bits) hrs'.symm (by omega) hr1.1
  have hmm := moved_many (l := runsOf (gathOf (lvs s g)) t) hr1.1
  have hlr : rs'.length = (runsOf (gathOf (lvs s g)) t).length := by rw [← hrs', List.length_map]
  have hlo1 := lostOf_len (lvs s g).length t
  have hp1 := piecesOf_le (matesOf s g) (lostOf (lvs s g).length t)
  have hst1 : (strangeOf t).length ≤ 120 := Nat.le_trans (idxTo_len _ _ _) (by omega)
  have htw1 : (twiceOf t).length ≤ 120 := Nat.le_trans (idxTo_len _ _ _) (by omega)
  have hle := hb2 t htm
  have hmany : manyOf s g t = piecesOf (matesOf s g) (lostOf (lvs s g).length t) + (strangeOf t).length + (twiceOf t).length + (movedOf (runsOf (gathOf (lvs s g)) t)).length := rfl;refine .andx' (rOf_ok h htm) ?_;dsimp only;refine (.andx' er' (.chk (i64_small (by omega)) (.chk (i64_small (by omega)) (.chk (i64_small (by omega)) (.andx' ek (.chk (i64_small (by omega)) (.andx' (a := true) (Ok.get (.ifp rfl (.ifp (by omega) (.some rfl)))) (.some rfl))))))))
 ·have hs : faultsSaid s g its = _ := if_neg e;refine .andx' (c_Faults_ok.trans (congrArg some hs)) (.andx' valid_ok (.ifn (by simp [e]) (.andx' (a := true) (Ok.get (.ifp e (.andx' (a := true) ?_ (.ifp rfl (.some rfl))))) (.some rfl))))
  have hg2 : (GSo true encI ([] : List Int)).l = [] := rfl;simp only [hg2];refine Ok.get ?_
  have hi : P_r1_Ints [] [] = some true := by rw [ints_ok (by simp)]; simp
  unfold P_r4_Same;refine .andx' (a := true) (Ok.get ?_) (.some rfl)
  repeat first | exact .some rfl | refine .andx' hi (.ifp rfl ?_) | refine .ifp rfl ?_
end Go.Am
end
section

end
section
namespace Go.Am.YthckcbfijdambaaGreat
open Go.Am Go.RowKit
theorem copyFewest_calls (w : World) (c_Book_Signed : Int) (c_Book_Gatherings : GS encG) (c_Items : GS encIt) (n : UInt16) (bits : GS encU8) (xs : List Value) (h : RelL (snapR w 0) [.agg [iv (c_Book_Signed), c_Book_Gatherings.v, c_Items.v], ivk .u16 ((n.toNat : Int)), bits.v] xs) :
  Calls Go.Proofs.Tryz.prog 5 xs.toArray w fun e w' => e = .returned (.bool true) ∧ Below w.heap.size w w' :=
 ((w_law_CopyFewest c_Book_Signed c_Book_Gatherings c_Items n bits true (CopyFewest_true _ _ _ _ _)).runsTo.calls (EL_good 6) w xs h).mono fun e w' ⟨x, he, hr, hb⟩ => ⟨by rw [he]; cases hr; rfl, hb⟩
end Go.Am.YthckcbfijdambaaGreat
namespace Go.Proofs.YthckcbfijdambaaGreat.copyFewest
open Go.ChangeShapes Go.WideShapes Go.ChangeAt Go.RowKit
set_option linter.unusedVariables false
theorem own : ownKnob Tryz.prog.godebug = none := by kernel_rfl
theorem laid : laidOutB Tryz.prog = true := by kernel_rfl
set_option maxRecDepth 100000 in
theorem lifted (os : Os) (started : os.Started) (H : Type) (enc : TypeId × Value → H) :
  ReturnsInHanded {} Tryz.checked os 5 .any (Rows.copyFewestSpec.pre6 enc Tryz.prog Tryz.f5 Rows.copyFewestRow.domain false) (Rows.copyFewestSpec.post enc Tryz.prog Tryz.f5 false true false false) := by
 refine returnsInHanded_of_change (C := Tryz.checked) own started (by kernel_rfl) Tryz.func5
  (ChangeSpec.witness6 (enc := enc) (C := Tryz.checked) false ⟨#[], #[.agg #[.int .i64 0, .slice none 0 0, .slice none 0 0], .int .u16 0, .slice none 0 0], []⟩ 8 (by kernel_rfl) (by kernel_rfl) (by kernel_rfl) (by kernel_rfl)) ?_
 intro W base args ds gs before hval0 hW hcnd _
 have hW' := hW;obtain ⟨p, q, hA0, hV, rfl, hfz, hnd⟩ := hW
 have hA : DataW.TrodAll enc Tryz.prog W 0 (fun _ => true) true Tryz.f5.params.toList args.toList ds p := hA0
 have hval : ∀ (j : Nat) t v, Tryz.f5.params[j]? = some t → args[j]? = some v → Value.okWide Tryz.prog W .any base t v := hval0;rw [Tryz.params5] at hA hval;obtain ⟨v0, v1, v2, d0, d1, d2, p0, p1, p2, rfl, rfl, rfl, h0, h1, h2⟩ := trodAll_three hA;obtain ⟨rfl, rfl⟩ := trodVars_none hV;obtain ⟨x0, r0⟩ := Go.Am.YthckcbfijdambaaGreat.li_27.arg Tryz.underlying27 (hval 0 27 v0 rfl rfl) h0;obtain ⟨x1, r1⟩ := Go.Am.YthckcbfijdambaaGreat.li_37.argI Tryz.underlying37 (hval 1 37 v1 rfl rfl) h1;obtain ⟨x2, r2⟩ := Go.Am.YthckcbfijdambaaGreat.li_49.argS Tryz.underlying49 (hval 2 49 v2 rfl rfl) h2
 clear hA0 hval0
 refine (Go.Am.YthckcbfijdambaaGreat.copyFewest_calls W x0.book.signed x0.book.gs x0.items x1 x2 [v0, v1, v2] (.cons r0 (.cons (r1 _ rfl) (.cons r2 (.nil _))))).mono fun e W' ⟨he, bel⟩ => ?_
 subst he
 have hlt : ∀ x ∈ p0 ++ p1 ++ p2, x.block < W.heap.size := fun x hx => hW'.lt x (by simpa using hx)
 have k0 := Below.trod laid (by kernel_rfl) (of_decide_eq_true (by kernel_rfl)) h0 bel fun x hx => hlt x (by simp [hx])
 have k1 := Below.trod laid (by kernel_rfl) (of_decide_eq_true (by kernel_rfl)) h1 bel fun x hx => hlt x (by simp [hx])
 have k2 := Below.trod laid (by kernel_rfl) (of_decide_eq_true (by kernel_rfl)) h2 bel fun x hx => hlt x (by simp [hx])
 exact ⟨_, rfl, _, _, _, [], _, [], hW', trodAll_mk1 (shut_bool Tryz.underlying4 _), trodAll_mk3 k0 k1 k2, rfl, bel.frame _, fun h => by cases h⟩
theorem over : Rows.copyFewestRow.holds Tryz.pinned (OpenSpec.ofChange Rows.copyFewestSpec) :=
 OpenClaim.holds_of_wide 5 Tryz.f5 rfl rfl rfl rfl rfl rfl rfl ⟨rfl, rfl, rfl, rfl, rfl⟩ rfl rfl rfl rfl rfl (by kernel_rfl) Tryz.func5 (by kernel_rfl)
  (of_decide_eq_true (by kernel_rfl)) (by unfold Func.isWrapper; first | (rw [if_pos (by decide +kernel)]; kernel_rfl) | (rw [if_neg (by decide +kernel)]; exact ⟨rfl, rfl⟩))
  (fun os started H enc _ => lifted os started H enc)
theorem proved : Rows.CopyFewestSaid := over
#print axioms proved
end Go.Proofs.YthckcbfijdambaaGreat.copyFewest
end
