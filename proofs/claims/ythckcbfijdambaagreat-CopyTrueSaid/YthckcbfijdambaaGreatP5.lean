/- CopyTrue is proved: of any truth the number of faults is within Range, and what is surely lost or loose is so in it. Conditions: none. -/
import Derived.Test.YthckcbfijdambaaGreatP4
import Derived.WalkKit
import Derived.ProofKit
import Derived.OpenShut
import Derived.ChangeOld
import Derived.Below
import Derived.Carry
section
namespace Go.Am
set_option linter.unusedVariables false
def f2step (last k : Int) (p : S_copy_run × Int) (s : Int × Int) : Int × Int := if p.1.first > last ∧ p.2 + 1 > s.1 then (p.2 + 1, k) else s
def follow2 (last : Int) : List (S_copy_run × Int) → Int → Int × Int → Int × Int
 | [], _, s => s
 | p :: ps, k, s => follow2 last ps (k + 1) (f2step last k p s)
theorem follow2_snoc {last : Int} {p : S_copy_run × Int} : ∀ (ps : List (S_copy_run × Int)) (k : Int) (s : Int × Int), follow2 last (ps ++ [p]) k s = f2step last (k + ps.length) p (follow2 last ps k s) := by
 intro ps
 induction ps with
 | nil => intro k s; simp [follow2]
 | cons q ps ih =>
  intro k s;rw [List.cons_append, follow2, ih, follow2, List.length_cons]
  congr 1
  omega
def keptFrom : List (S_copy_run × Int) → Int → Int → Int → List Int
 | [], _, _, _ => []
 | p :: ps, k, b, last => if p.2 = b ∧ p.1.first > last then k :: keptFrom ps (k + 1) (b - 1) p.1.last else keptFrom ps (k + 1) b last
theorem keptFrom_zero : ∀ (ps : List (S_copy_run × Int)) (k last : Int), (∀ p ∈ ps, 1 ≤ p.2) → keptFrom ps k 0 last = [] := by
 intro ps
 induction ps with
 | nil => intro k last _; rfl
 | cons p ps ih =>
  intro k last h
  have := h p List.mem_cons_self;rw [keptFrom, if_neg (by omega)];exact ih _ _ fun q hq => h q (List.mem_cons_of_mem _ hq)
theorem follow_cons (last : Int) (p : S_copy_run × Int) (ps : List (S_copy_run × Int)) (a : Int) : follow last (p :: ps) a = follow last ps (if p.1.first > last then max a p.2 else a) := rfl
theorem follow_ge (last : Int) : ∀ (ps : List (S_copy_run × Int)) (a : Int), a ≤ follow last ps a := by
 intro ps
 induction ps with
 | nil => intro a; exact Int.le_refl _
 | cons p ps ih =>
  intro a;rw [follow_cons]
  have := ih (if p.1.first > last then max a p.2 else a);split at this <;> rename_i h
  ·rw [if_pos h]; omega
  ·rw [if_neg h]; exact this
theorem first_best (last : Int) : ∀ (ps : List (S_copy_run × Int)) (k a x : Int),
  (follow2 last ps k (a + 1, x)).1 = follow last ps a + 1 ∧ (follow last ps a = a → (follow2 last ps k (a + 1, x)).2 = x) ∧
  (follow last ps a > a → ∃ (j : Nat) (p : S_copy_run × Int), ps[j]? = some p ∧ (follow2 last ps k (a + 1, x)).2 = k + j ∧ p.2 = follow last ps a ∧ keptFrom ps k (follow last ps a) last = (k + j) :: keptFrom (ps.drop (j + 1)) (k + j + 1) (follow last ps a - 1) p.1.last) := by
 intro ps
 induction ps with
 | nil => intro k a x; exact ⟨rfl, fun _ => rfl, fun h => by simp [follow] at h⟩
 | cons p ps ih =>
  intro k a x;rw [follow_cons, follow2]
  by_cases hc : p.1.first > last ∧ p.2 > a
  ·have e1 : f2step last k p (a + 1, x) = (p.2 + 1, k) := by unfold f2step; rw [if_pos ⟨hc.1, by simp only; omega⟩]
   have e2 : (if p.1.first > last then max a p.2 else a) = p.2 := by rw [if_pos hc.1]; omega
   rw [e1, e2];obtain ⟨i1, i2, i3⟩ := ih (k + 1) p.2 k
   have hge := follow_ge last ps p.2;refine ⟨i1, fun h => by omega, fun _ => ?_⟩
   by_cases hF : follow last ps p.2 = p.2
   ·refine ⟨0, p, rfl, by rw [i2 hF]; simp, hF.symm, ?_⟩;rw [hF, keptFrom, if_pos ⟨rfl, hc.1⟩];simp
   ·obtain ⟨j, q, h1, h2, h3, h4⟩ := i3 (by omega);refine ⟨j + 1, q, h1, by rw [h2]; omega, h3, ?_⟩;rw [keptFrom, if_neg (by omega), h4, List.drop_succ_cons];rw [show k + 1 + (j : Int) = k + ((j + 1 : Nat) : Int) by omega]
  ·have e1 : f2step last k p (a + 1, x) = (a + 1, x) := by unfold f2step; rw [if_neg (fun h => hc ⟨h.1, by have := h.2; simp only at this; omega⟩)]
   have e2 : (if p.1.first > last then max a p.2 else a) = a := by
    split
    ·rename_i h; have : ¬ p.2 > a := fun h2 => hc ⟨h, h2⟩; omega
    ·rfl
   rw [e1, e2];obtain ⟨i1, i2, i3⟩ := ih (k + 1) a x;refine ⟨i1, i2, fun hF => ?_⟩;obtain ⟨j, q, h1, h2, h3, h4⟩ := i3 hF;refine ⟨j + 1, q, h1, by rw [h2]; omega, h3, ?_⟩;rw [keptFrom, if_neg (fun h => hc ⟨h.2, by omega⟩), h4, List.drop_succ_cons];rw [show k + 1 + (j : Int) = k + ((j + 1 : Nat) : Int) by omega]
theorem chains_drop : ∀ (l : List S_copy_run) (i : Nat), chains (l.drop i) = (chains l).drop i := by
 intro l
 induction l with
 | nil => intro i; simp [chains]
 | cons r l ih =>
  intro i;cases i with
  | zero => rfl
  | succ i => rw [List.drop_succ_cons, chains, List.drop_succ_cons]; exact ih i
def nextsFrom : Int → List S_copy_run → List Int
 | _, [] => []
 | k, r :: l => (follow2 r.last (l.zip (chains l)) (k + 1) (1, -1)).2 :: nextsFrom (k + 1) l
theorem nextsFrom_len : ∀ (l : List S_copy_run) (k : Int), (nextsFrom k l).length = l.length := by
 intro l
 induction l with
 | nil => intro k; rfl
 | cons r l ih => intro k; simp [nextsFrom, ih]
theorem nextsFrom_drop : ∀ (l : List S_copy_run) (k : Int) (i : Nat), nextsFrom (k + i) (l.drop i) = (nextsFrom k l).drop i := by
 intro l
 induction l with
 | nil => intro k i; simp [nextsFrom]
 | cons r l ih =>
  intro k i;cases i with
  | zero => simp
  | succ i =>
   rw [List.drop_succ_cons, nextsFrom, List.drop_succ_cons, ← ih (k + 1) i]
   congr 1
   omega
def behind (l : List S_copy_run) (i : Nat) : List (S_copy_run × Int) := (l.drop (i + 1)).zip (chains (l.drop (i + 1)))
theorem behind_len {l : List S_copy_run} {i : Nat} : (behind l i).length = l.length - (i + 1) := by unfold behind; rw [List.length_zip, chains_len, List.length_drop]; omega
theorem behind_get {l : List S_copy_run} {i m : Nat} {r : S_copy_run} (h : l[i + 1 + m]? = some r) : ∃ c, (chains l)[i + 1 + m]? = some c ∧ (behind l i)[m]? = some (r, c) := by
 have hlt := (List.getElem?_eq_some_iff.1 h).1
 have hc : (chains l)[i + 1 + m]? = some ((chains l)[i + 1 + m]'(by rw [chains_len]; exact hlt)) := List.getElem?_eq_getElem _;refine ⟨_, hc, ?_⟩;unfold behind;rw [List.getElem?_zip_eq_some, List.getElem?_drop, chains_drop, List.getElem?_drop];exact ⟨h, hc⟩
theorem chains_at {l : List S_copy_run} {i : Nat} {r : S_copy_run} (h : l[i]? = some r) : (chains l)[i]? = some (follow r.last (behind l i) 0 + 1) := by
 have e := chains_drop l i;rw [drop_cons h, chains] at e
 have := congrArg (·[0]?) e;simp only [List.getElem?_drop, Nat.add_zero, List.getElem?_cons_zero] at this;rw [← this]; rfl
theorem nexts_at {l : List S_copy_run} {i : Nat} {r : S_copy_run} (h : l[i]? = some r) : (nextsFrom 0 l)[i]? = some (follow2 r.last (behind l i) ((i : Int) + 1) (1, -1)).2 := by
 have e := nextsFrom_drop l 0 i;rw [drop_cons h, nextsFrom] at e
 have := congrArg (·[0]?) e;simp only [List.getElem?_drop, Nat.add_zero, List.getElem?_cons_zero] at this;rw [← this, Int.zero_add]; rfl
theorem behind_pos {l : List S_copy_run} {i : Nat} : ∀ p ∈ behind l i, 1 ≤ p.2 := fun p hp => (chains_bounds _ p.2 (List.of_mem_zip hp).2).1
theorem zip_drop {α β : Type} : ∀ (k : Nat) (l : List α) (m : List β), (l.zip m).drop k = (l.drop k).zip (m.drop k) := by
 intro k
 induction k with
 | zero => intro l m; rfl
 | succ k ih =>
  intro l m;cases l with
  | nil => simp
  | cons a l => cases m with
   | nil => simp
   | cons b m => exact ih l m
theorem behind_drop {l : List S_copy_run} {i j : Nat} : (behind l i).drop (j + 1) = behind l (i + 1 + j) := by
 unfold behind;rw [zip_drop, List.drop_drop, ← chains_drop, List.drop_drop, show i + 1 + (j + 1) = i + 1 + j + 1 by omega]
def rowM (l : List S_copy_run) (i : Nat) : List Int := List.replicate i 0 ++ chains (l.drop i)
def rowN (l : List S_copy_run) (i : Nat) : List Int := List.replicate i 0 ++ nextsFrom i (l.drop i)
theorem rowM_len {l : List S_copy_run} {i : Nat} (hi : i ≤ l.length) : (rowM l i).length = l.length := by
 unfold rowM; rw [List.length_append, List.length_replicate, chains_len, List.length_drop]; omega
theorem rowN_len {l : List S_copy_run} {i : Nat} (hi : i ≤ l.length) : (rowN l i).length = l.length := by
 unfold rowN; rw [List.length_append, List.length_replicate, nextsFrom_len, List.length_drop]; omega
theorem rowM_get {l : List S_copy_run} {i k : Nat} (hk : i ≤ k) : (rowM l i)[k]? = (chains l)[k]? := by
 unfold rowM;rw [List.getElem?_append_right (by rw [List.length_replicate]; exact hk), List.length_replicate, chains_drop, List.getElem?_drop, show i + (k - i) = k by omega]
theorem rowM_step {l : List S_copy_run} {i : Nat} {r : S_copy_run} (hr : l[i]? = some r) : (rowM l (i + 1)).set i (follow r.last (behind l i) 0 + 1) = rowM l i := by
 have e : List.replicate (i + 1) (0 : Int) = List.replicate i 0 ++ [0] := List.replicate_succ';unfold rowM;rw [e, List.append_assoc, List.set_append_right _ _ (by rw [List.length_replicate]; omega), List.length_replicate, Nat.sub_self, drop_cons hr, chains];rfl
theorem rowN_step {l : List S_copy_run} {i : Nat} {r : S_copy_run} (hr : l[i]? = some r) : (rowN l (i + 1)).set i (follow2 r.last (behind l i) ((i : Int) + 1) (1, -1)).2 = rowN l i := by
 have e : List.replicate (i + 1) (0 : Int) = List.replicate i 0 ++ [0] := List.replicate_succ';unfold rowN;rw [e, List.append_assoc, List.set_append_right _ _ (by rw [List.length_replicate]; omega), List.length_replicate, Nat.sub_self, drop_cons hr, nextsFrom];rfl
theorem kinner_ok {rs : List S_duodecimoref04_Run} {l : List S_copy_run} (hl : l = rs.map toC) (hn : l.length ≤ 120) {i : Nat} {r : S_copy_run} (hr : l[i]? = some r) :
  iter (P_r4_Kept_L2 rs i) (((i : Int) + 1), (rowN l (i + 1)).set i (-1), (rowM l (i + 1)).set i 1) = some (rowN l i, rowM l i) := by
 have hi : i < l.length := (List.getElem?_eq_some_iff.1 hr).1
 have hll : l.length = rs.length := by rw [hl, List.length_map]
 have hcb := chains_bounds l;refine Ok.get ?_;refine Ok.count (fun s => s.1 - ((i : Int) + 1)) (l.length - (i + 1)) (fun k s => s.2.1 = (rowN l (i + 1)).set i (follow2 r.last ((behind l i).take k) ((i : Int) + 1) (1, -1)).2 ∧ s.2.2 = (rowM l (i + 1)).set i (follow2 r.last ((behind l i).take k) ((i : Int) + 1) (1, -1)).1) (by simp only; omega) ⟨rfl, rfl⟩ ?_ ?_
 ·rintro k ⟨kk, nx, many⟩ hk hx ⟨h1, h2⟩;simp only at hx h1 h2
  have hkk : kk = ((i + 1 + k : Nat) : Int) := by omega
  subst hkk h1 h2;obtain ⟨q, hq⟩ : ∃ q, l[i + 1 + k]? = some q := ⟨_, List.getElem?_eq_getElem (by omega)⟩;obtain ⟨c, hc1, hc2⟩ := behind_get hq
  have hcv := hcb c (List.mem_of_getElem? hc1)
  have hst : follow2 r.last ((behind l i).take (k + 1)) ((i : Int) + 1) (1, -1) = f2step r.last ((i + 1 + k : Nat) : Int) (q, c) (follow2 r.last ((behind l i).take k) ((i : Int) + 1) (1, -1)) := by
   rw [take_snoc hc2, follow2_snoc, List.length_take, behind_len]
   congr 1
   omega
  have hrs : ∀ (k : Nat) (a : S_duodecimoref04_Run), rs[k]? = some a → l[k]? = some (toC a) := fun k a h => by rw [hl, List.getElem?_map, h]; rfl
  have hmk : ((rowM l (i + 1)).set i (follow2 r.last ((behind l i).take k) ((i : Int) + 1) (1, -1)).1)[i + 1 + k]? = some c := by
   rw [List.getElem?_set_ne (by omega), rowM_get (by omega), hc1]
  have hmi : ∀ x, ((rowM l (i + 1)).set i x)[i]? = some x := fun x => List.getElem?_set_self (by rw [rowM_len (by omega)]; exact hi)
  generalize hS : follow2 r.last ((behind l i).take k) ((i : Int) + 1) (1, -1) = S at *;obtain ⟨S1, S2⟩ := S;simp only at hmk ⊢
  have hlM : ((rowM l (i + 1)).set i S1).length = l.length := by rw [List.length_set, rowM_len (by omega)]
  have hlN : ((rowN l (i + 1)).set i S2).length = l.length := by rw [List.length_set, rowN_len (by omega)]
  unfold P_r4_Kept_L2;refine .ifp (by omega) (Ok.andx (P := fun s : List Int × List Int => s.1 = (rowN l (i + 1)).set i (follow2 r.last ((behind l i).take (k + 1)) ((i : Int) + 1) (1, -1)).2 ∧ s.2 = (rowM l (i + 1)).set i (follow2 r.last ((behind l i).take (k + 1)) ((i : Int) + 1) (1, -1)).1) ?_ ?_)
  ·rw [hst];refine Ok.andx (P := fun b : Bool => b = true ↔ (q.first > r.last ∧ c + 1 > S1)) ?_ ?_
   ·refine .el (by omega) fun a ha => ?_
    have ha := hrs _ _ (get_of ha rfl);rw [hq] at ha;cases ha;refine .el (by omega) fun b hb => ?_
    have hb := hrs _ _ (get_of hb rfl);rw [hr] at hb;cases hb;refine .ite (fun h => ?_) (fun h => ?_)
    ·refine .el (by rw [hlM]; omega) fun x hx => ?_
     have hx := get_of hx rfl;rw [hmk] at hx;cases hx;refine .chk (i64_small (by omega)) (.el (by rw [hlM]; omega) fun y hy => .some ?_)
     have hy := get_of hy rfl;rw [hmi] at hy;cases hy;rw [decide_eq_true_iff];exact ⟨fun h2 => ⟨h, h2⟩, fun h2 => h2.2⟩
    ·refine .some ?_;simp only [Bool.false_eq_true, false_iff];exact fun h2 => h h2.1
   ·rintro b hb;unfold f2step;refine .ite (fun h => ?_) (fun h => ?_)
    ·refine .el (by rw [hlM]; omega) fun x hx => ?_
     have hx := get_of hx rfl;rw [hmk] at hx;cases hx;refine .chk (i64_small (by omega)) (.el (by rw [hlM]; omega) fun y hy => .el (by rw [hlN]; omega) fun z hz => .some ?_);rw [if_pos (hb.1 h), Int.toNat_natCast, List.set_set, List.set_set];exact ⟨rfl, rfl⟩
    ·refine .some ?_;rw [if_neg (fun h2 => h (hb.2 h2))];exact ⟨rfl, rfl⟩
  ·rintro ⟨a, b⟩ ⟨q1, q2⟩;exact .chk (i64_small (by omega)) (.some ⟨by simp only; omega, q1, q2⟩)
 ·rintro ⟨kk, nx, many⟩ hx ⟨h1, h2⟩;simp only at hx h1 h2;unfold P_r4_Kept_L2;refine .ifn (by omega) (.some ?_)
  show (nx, many) = _;rw [h1, h2, List.take_of_length_le (by rw [behind_len]; omega), rowN_step hr]
  have := (first_best r.last (behind l i) ((i : Int) + 1) 0 (-1)).1;rw [Int.zero_add] at this;rw [this, rowM_step hr]
theorem top_follow (last : Int) : ∀ (ps : List (S_copy_run × Int)) (a : Int), (∀ p ∈ ps, p.1.first > last) → follow last ps a = max a (top (ps.map (·.2))) ∨ a < 0 := by
 intro ps
 induction ps with
 | nil => intro a _; simp only [follow, List.foldl_nil, List.map_nil, top]; omega
 | cons p ps ih =>
  intro a h;rw [follow_cons, if_pos (h p List.mem_cons_self), List.map_cons, top]
  have := ih (max a p.2) fun q hq => h q (List.mem_cons_of_mem _ hq)
  omega
def keptOf (l : List S_copy_run) : List Int := keptFrom (l.zip (chains l)) 0 (top (chains l)) (-1)
def restAt (l : List S_copy_run) (i : Nat) (r : S_copy_run) : List Int := (i : Int) :: keptFrom (behind l i) ((i : Int) + 1) (follow r.last (behind l i) 0) r.last
theorem Kept_ok {rs : List S_duodecimoref04_Run} {l : List S_copy_run} {N : Nat} (hl : l = rs.map toC) (hn : l.length ≤ 120) (hr : ∀ r ∈ l, RunOk N r) : P_r4_Kept rs = some (keptOf l) := by
 refine Ok.get ?_
 have hll : l.length = rs.length := by rw [hl, List.length_map]
 have hcb := chains_bounds l;unfold P_r4_Kept;refine .chk (by omega) (.chk (by omega) (Ok.andx (P := fun s : List Int × List Int => s = (nextsFrom 0 l, chains l)) ?_ ?_))
 ·refine .chk (i64_small (by omega)) (Ok.count (fun s => ((rs.length : Int) - 1) - s.1) l.length (fun k s => s.2.1 = rowN l (l.length - k) ∧ s.2.2 = rowM l (l.length - k)) (by simp only; omega) ⟨?_, ?_⟩ ?_ ?_)
  ·simp only [Nat.sub_zero, rowN, List.drop_length, nextsFrom, List.append_nil];rw [Int.toNat_natCast, hll]
  ·simp only [Nat.sub_zero, rowM, List.drop_length, chains, List.append_nil];rw [Int.toNat_natCast, hll]
  ·rintro k ⟨i, nx, many⟩ hk hx ⟨h1, h2⟩;simp only at hx h1 h2;obtain ⟨j, hj⟩ : ∃ j : Nat, j = l.length - 1 - k := ⟨_, rfl⟩
   have hi : i = (j : Int) := by omega
   subst hi;obtain ⟨r, hrj⟩ : ∃ r, l[j]? = some r := ⟨_, List.getElem?_eq_getElem (by omega)⟩
   have e1 : l.length - k = j + 1 := by omega
   have e2 : l.length - (k + 1) = j := by omega
   rw [e1] at h1 h2;subst h1 h2;unfold P_r4_Kept_L1;refine .ifp (by omega) (Ok.andx (P := fun s => s = (rowN l j, rowM l j)) ?_ ?_)
   ·refine .el (by rw [rowM_len (by omega)]; omega) fun a ha => .el (by rw [rowN_len (by omega)]; omega) fun b hb => ?_
    refine .chk (i64_small (by omega)) ?_;rw [Int.toNat_natCast, kinner_ok hl hn hrj];exact .some rfl
   ·rintro s rfl;refine .chk (i64_small (by omega)) (.some ⟨by simp only; omega, ?_, ?_⟩)
    ·simp only [e2]
    ·simp only [e2]
  ·rintro ⟨i, nx, many⟩ hx ⟨h1, h2⟩;simp only at hx h1 h2;unfold P_r4_Kept_L1;refine .ifn (by omega) (.some ?_)
   show (nx, many) = _;rw [h1, h2, Nat.sub_self];unfold rowN rowM;simp
 ·rintro s rfl;simp only
  have hfirst : ∀ p ∈ l.zip (chains l), p.1.first > -1 := fun p hp => by have := (hr p.1 (List.of_mem_zip hp).1).1; omega
  have hzl : (l.zip (chains l)).length = l.length := by rw [List.length_zip, chains_len, Nat.min_self]
  have htop : follow (-1) (l.zip (chains l)) 0 = top (chains l) := by
   have h1 := top_follow (-1) (l.zip (chains l)) 0 hfirst
   have h2 : (l.zip (chains l)).map (·.2) = chains l := by rw [← List.unzip_snd]; rw [List.unzip_zip (chains_len l).symm]
   rw [h2] at h1
   have := (top_bounds (M := 120) (by omega) (chains l) fun m hm => by have := hcb m hm; omega).1;omega
  have hfb := first_best (-1) (l.zip (chains l)) 0 0 (-1);rw [htop, Int.zero_add] at hfb;refine Ok.andx (P := fun a : Int => a = (follow2 (-1) (l.zip (chains l)) 0 (1, -1)).2) (Ok.count (fun s : Int × Int => s.2) l.length (fun k (s : Int × Int) => ∃ a, follow2 (-1) ((l.zip (chains l)).take k) 0 (1, -1) = (a, s.1) ∧ ((s.1 = -1 ∧ a = 1) ∨ ∃ (j : Nat) (c : Int), s.1 = j ∧ j < k ∧ (chains l)[j]? = some c ∧ c + 1 = a)) rfl ⟨1, rfl, .inl ⟨rfl, rfl⟩⟩ ?_ ?_) ?_
  ·rintro k ⟨a, i⟩ hk hx ⟨v, h1, h2⟩;simp only at hx h1 h2;subst hx;obtain ⟨q, hq⟩ : ∃ q, l[k]? = some q := ⟨_, List.getElem?_eq_getElem hk⟩;obtain ⟨c, hc⟩ : ∃ c, (chains l)[k]? = some c := ⟨_, List.getElem?_eq_getElem (by rw [chains_len]; exact hk)⟩
   have hz : (l.zip (chains l))[k]? = some (q, c) := by rw [List.getElem?_zip_eq_some]; exact ⟨hq, hc⟩
   have hq0 := hfirst (q, c) (List.mem_of_getElem? hz)
   have hcv := hcb c (List.mem_of_getElem? hc)
   have hst : follow2 (-1) ((l.zip (chains l)).take (k + 1)) 0 (1, -1) = f2step (-1) k (q, c) (v, a) := by
    rw [take_snoc hz, follow2_snoc, h1, List.length_take, hzl]
    congr 1
    omega
   unfold P_r4_Kept_L3;refine .ifp (by omega) (Ok.andx (P := fun a' => ∃ v', follow2 (-1) ((l.zip (chains l)).take (k + 1)) 0 (1, -1) = (v', a') ∧ ((a' = -1 ∧ v' = 1) ∨ ∃ (j : Nat) (c : Int), a' = j ∧ j < k + 1 ∧ (chains l)[j]? = some c ∧ c + 1 = v')) ?_ ?_)
   ·rw [hst];refine Ok.andx (P := fun b : Bool => b = true ↔ c + 1 > v) ?_ ?_
    ·rcases h2 with ⟨rfl, rfl⟩ | ⟨j, c', rfl, hj, hcj, rfl⟩
     ·refine .ifp (by omega) (.some ?_);simp only [true_iff]; omega
     ·refine .ifn (by omega) (.el (by rw [chains_len]; omega) fun x hx => ?_)
      have hx := get_of hx rfl;rw [hc] at hx;cases hx;refine .el (by rw [chains_len]; omega) fun y hy => .some ?_
      have hy := get_of hy rfl;rw [hcj] at hy;cases hy;rw [decide_eq_true_iff];omega
    ·rintro b hb;unfold f2step;refine .ite (fun h => .some ?_) (fun h => .some ?_)
     ·rw [if_pos ⟨hq0, hb.1 h⟩];exact ⟨c + 1, rfl, .inr ⟨k, c, rfl, by omega, hc, rfl⟩⟩
     ·rw [if_neg (fun h2 => h (hb.2 h2.2))];refine ⟨v, rfl, ?_⟩
      rcases h2 with h2 | ⟨j, c', h3, h4, h5, h6⟩
      ·exact .inl h2
      ·exact .inr ⟨j, c', h3, by omega, h5, h6⟩
   ·rintro a' ha';exact .chk (i64_small (by omega)) (.some ⟨rfl, ha'⟩)
  ·rintro ⟨a, i⟩ hx ⟨v, h1, h2⟩;simp only at hx h1 h2;unfold P_r4_Kept_L3;refine .ifn (by omega) (.some ?_)
   show a = _;rw [← show (l.zip (chains l)).take l.length = l.zip (chains l) from List.take_of_length_le (by rw [hzl]; exact Nat.le_refl _), h1]
  ·rintro a0 ha0
   have hrest : ∀ (i : Nat) (r : S_copy_run), l[i]? = some r → ∀ nx, (nextsFrom 0 l)[i]? = some nx → (nx = -1 ∧ restAt l i r = [(i : Int)]) ∨ ∃ (j : Nat) (q : S_copy_run), nx = j ∧ i < j ∧ l[j]? = some q ∧ restAt l i r = (i : Int) :: restAt l j q := fun i r hri nx hnx => by
    rw [nexts_at hri] at hnx;cases hnx;obtain ⟨_, g2, g3⟩ := first_best r.last (behind l i) ((i : Int) + 1) 0 (-1);rw [Int.zero_add] at g2 g3
    have hge := follow_ge r.last (behind l i) 0
    by_cases hF : follow r.last (behind l i) 0 = 0
    ·refine .inl ⟨g2 hF, ?_⟩;unfold restAt;rw [hF, keptFrom_zero _ _ _ behind_pos]
    ·obtain ⟨j, p, p1, p2, p3, p4⟩ := g3 (by omega)
     have hlt := (List.getElem?_eq_some_iff.1 p1).1;rw [behind_len] at hlt;obtain ⟨q, hq⟩ : ∃ q, l[i + 1 + j]? = some q := ⟨_, List.getElem?_eq_getElem (by omega)⟩;obtain ⟨c, c1, c2⟩ := behind_get hq;rw [p1] at c2;cases c2
     have hca := chains_at hq;rw [c1] at hca
     have hca := Option.some.inj hca;refine .inr ⟨i + 1 + j, q, by rw [p2]; omega, by omega, hq, ?_⟩
     show (i : Int) :: _ = _;rw [p4, behind_drop];unfold restAt;simp only at p3;rw [← p3, hca, show (i : Int) + 1 + (j : Int) = ((i + 1 + j : Nat) : Int) by omega, Int.add_sub_cancel]
   have hstart : (a0 = -1 ∧ keptOf l = []) ∨ ∃ (j : Nat) (q : S_copy_run), a0 = j ∧ l[j]? = some q ∧ keptOf l = restAt l j q := by
    obtain ⟨_, g2, g3⟩ := hfb
    have := (top_bounds (M := 120) (by omega) (chains l) fun m hm => by have := hcb m hm; omega).1
    by_cases hF : top (chains l) = 0
    ·refine .inl ⟨by rw [ha0]; exact g2 hF, ?_⟩;unfold keptOf;rw [hF];exact keptFrom_zero _ _ _ fun p hp => (hcb p.2 (List.of_mem_zip hp).2).1
    ·obtain ⟨j, p, p1, p2, p3, p4⟩ := g3 (by omega)
     have p1' := p1;obtain ⟨p1a, p1b⟩ := (List.getElem?_zip_eq_some (z := (p.1, p.2))).1 p1
     have hca := chains_at p1a;rw [p1b] at hca
     have hca := Option.some.inj hca;refine .inr ⟨j, p.1, by rw [ha0, p2]; omega, p1a, ?_⟩;unfold keptOf restAt;rw [p4, ← p3, hca, Int.zero_add, Int.add_sub_cancel, zip_drop, ← chains_drop];rfl
   refine Ok.andx (P := fun o : List Int => o = keptOf l) (Ok.iter (fun s : Int × List Int => (s.1 = -1 ∧ s.2 = keptOf l) ∨ ∃ (j : Nat) (q : S_copy_run), s.1 = j ∧ l[j]? = some q ∧ keptOf l = s.2 ++ restAt l j q ∧ s.2.length ≤ j) (fun s => if s.1 < 0 then 0 else l.length - s.1.toNat) ?_ ?_) fun _ h => ⟨_, rfl, h⟩
   ·rcases hstart with ⟨h1, h2⟩ | ⟨j, q, h1, h2, h3⟩
    ·exact .inl ⟨h1, h2.symm⟩
    ·exact .inr ⟨j, q, h1, h2, h3, Nat.zero_le _⟩
   ·rintro ⟨a, out⟩ (⟨h1, h2⟩ | ⟨j, q, h1, h2, h3, h4⟩)
    ·simp only at h1 h2;unfold P_r4_Kept_L4;exact .ifn (by omega) (.some h2)
    ·simp only at h1 h3 h4;subst h1
     have hjl := (List.getElem?_eq_some_iff.1 h2).1;unfold P_r4_Kept_L4;refine .ifp (by omega) (.chk (by simp; omega) (.el (by rw [nextsFrom_len]; omega) fun nx hnx => .some ?_))
     have hnx := get_of hnx rfl
     rcases hrest j q h2 nx hnx with ⟨rfl, e⟩ | ⟨j', q', rfl, hlt, hq', e⟩
     ·refine ⟨.inl ⟨rfl, ?_⟩, ?_⟩
      ·rw [h3, e]
      ·simp only;rw [if_pos (by omega), if_neg (by omega)];omega
     ·have hjl' := (List.getElem?_eq_some_iff.1 hq').1;refine ⟨.inr ⟨j', q', rfl, hq', by rw [h3, e]; simp, by simp; omega⟩, ?_⟩;simp only;rw [if_neg (by omega), if_neg (by omega)];omega
end Go.Am
end
section
namespace Go.Am
set_option linter.unusedVariables false
theorem keptFrom_ge : ∀ (ps : List (S_copy_run × Int)) (k b last : Int), ∀ i ∈ keptFrom ps k b last, k ≤ i := by
 intro ps
 induction ps with
 | nil => intro k b last i h; cases h
 | cons p ps ih =>
  intro k b last i h;rw [keptFrom] at h;split at h
  ·rcases List.mem_cons.1 h with rfl | h
   ·exact Int.le_refl _
   ·have := ih _ _ _ i h; omega
  ·have := ih _ _ _ i h; omega
theorem keptFrom_len : ∀ (ps : List (S_copy_run × Int)) (k b last : Int), (keptFrom ps k b last).length ≤ ps.length := by
 intro ps
 induction ps with
 | nil => intro k b last; exact Nat.le_refl _
 | cons p ps ih =>
  intro k b last;rw [keptFrom];split
  ·have := ih (k + 1) (b - 1) p.1.last; simp; omega
  ·have := ih (k + 1) b last; simp; omega
theorem Of_ok {s : Int} {g : List Gat} {t : List Int} (h : GoodBook s g) (ht : t.length ≤ 120) (hin : TruthIn (lvs s g).length t) :
    P_r4_Of s g t = some (t, lostOf (lvs s g).length t, piecesOf (matesOf s g) (lostOf (lvs s g).length t), strangeOf t, twiceOf t, movedOf (runsOf (gathOf (lvs s g)) t), allOf (lvs s g).length (matesOf s g) (gathOf (lvs s g)) t) := by
  refine Ok.get ?_
  unfold P_r4_Of
  have hnl := h.nl
  have hl := lostOf_len (lvs s g).length t
  have hp := piecesOf_le (matesOf s g) (lostOf (lvs s g).length t)
  have h1 : (strangeOf t).length ≤ 120 := Nat.le_trans (idxTo_len _ _ _) ht
  have h2 : (twiceOf t).length ≤ 120 := Nat.le_trans (idxTo_len _ _ _) ht
  have hr := runsTo_ok (g := gathOf (lvs s g)) hin t.length
  have hm := movedOf_len (runsOf (gathOf (lvs s g)) t)
  have hrl : (runsOf (gathOf (lvs s g)) t).length ≤ t.length := hr.2
  refine .chk (by simp; omega) (.andx' (Gone_ok h (by omega)) (.andx' (Pieces_ok h (fun x hx => by have := mem_lostOf.1 hx; omega) (by omega)) (.andx' (Plain_ok (by omega)) ?_)))
  refine Ok.andx (P := fun x : List Int × List Int => x = (strangeOf t, twiceOf t)) (Ok.count (fun s => s.1) t.length (fun k s => s.2.1 = idxTo isStrange t k ∧ s.2.2 = idxTo (isTwice t) t k) rfl ⟨rfl, rfl⟩ ?_ ?_) ?_
  · rintro k ⟨i, st, tw⟩ hk hx ⟨q1, q2⟩
    simp only at hx q1 q2
    subst hx q1 q2
    have hs1 := idxTo_len isStrange t k
    have hs2 := idxTo_len (isTwice t) t k
    have hpl : (plainOf t).length ≤ t.length := idxTo_len _ _ _
    unfold P_r4_Of_L1
    refine .ifp (by omega) (Ok.andx (P := fun x : List Int × List Int => x.1 = idxTo isStrange t (k + 1) ∧ x.2 = idxTo (isTwice t) t (k + 1)) ?_ ?_)
    · refine .el (by omega) fun n hn => ?_
      have hn := get_of hn rfl
      rw [idxTo_succ hn, idxTo_succ hn]
      refine .ite (fun h0 => ?_) (fun h0 => ?_)
      · have e2 : isStrange k n = true := decide_eq_true h0
        have e3 : isTwice t k n = false := decide_eq_false (by omega)
        rw [e2, e3]
        exact .chk (by simp; omega) (.some ⟨rfl, rfl⟩)
      · have e2 : isStrange k n = false := decide_eq_false h0
        rw [e2]
        refine .andx' (has_ok (by omega)) (.ite (fun hc => ?_) (fun hc => ?_))
        · have := ((mem_idxTo hn t.length).1 (of_decide_eq_true hc)).2
          have e3 : isTwice t k n = false := decide_eq_false (fun h => (of_decide_eq_true this).2 h.2)
          rw [e3]
          exact .some ⟨rfl, rfl⟩
        · have hnp : ¬ isPlain t k n = true := fun hp => hc (decide_eq_true ((mem_idxTo hn t.length).2 ⟨hk, hp⟩))
          have e3 : isTwice t k n = true := decide_eq_true ⟨by omega, by
            by_cases hmem : n ∈ t.take k
            · exact hmem
            · exact absurd (decide_eq_true ⟨by omega, hmem⟩) hnp⟩
          rw [e3]
          exact .chk (by simp; omega) (.some ⟨rfl, rfl⟩)
    · rintro ⟨a, b⟩ ⟨q1, q2⟩
      exact .chk (i64_small (by omega)) (.some ⟨rfl, q1, q2⟩)
  · rintro ⟨i, st, tw⟩ hx ⟨q1, q2⟩
    simp only at hx q1 q2
    unfold P_r4_Of_L1
    refine .ifn (by omega) (.some ?_)
    show (st, tw) = _
    rw [q1, q2]; rfl
  · rintro x rfl
    obtain ⟨rs, e1, e2⟩ := Runs_ok h ht hin
    refine .andx' e1 (.andx' (Kept_ok e2.symm (by omega) hr.1) ?_)
    generalize hL : runsOf (gathOf (lvs s g)) t = l at *
    have hll : l.length = rs.length := by rw [← e2, List.length_map]
    have hzl : (l.zip (chains l)).length = l.length := by rw [List.length_zip, chains_len, Nat.min_self]
    have hkl : (keptOf l).length ≤ 120 := by have := keptFrom_len (l.zip (chains l)) 0 (top (chains l)) (-1); unfold keptOf; omega
    refine Ok.andx (P := fun m : List Int => m = movedOf l) (Ok.count (fun s => s.1) rs.length (fun k (s : Int × List Int) => (∃ b last, movedOf l = s.2 ++ movedFrom ((l.zip (chains l)).drop k) b last ∧ ∀ i : Int, (k : Int) ≤ i → (i ∈ keptOf l ↔ i ∈ keptFrom ((l.zip (chains l)).drop k) k b last)) ∧ s.2.length ≤ k) rfl ⟨⟨top (chains l), -1, rfl, fun i _ => Iff.rfl⟩, Nat.le_refl _⟩ ?_ ?_) ?_
    · rintro k ⟨i, out⟩ hk hx ⟨⟨b, last, q1, q2⟩, q3⟩
      simp only at hx q1 q3
      subst hx
      obtain ⟨r, hrk⟩ : ∃ r, rs[k]? = some r := ⟨_, List.getElem?_eq_getElem hk⟩
      have hlk : l[k]? = some (toC r) := by rw [← e2, List.getElem?_map, hrk]; rfl
      obtain ⟨c, hc⟩ : ∃ c, (chains l)[k]? = some c := ⟨_, List.getElem?_eq_getElem (by rw [chains_len]; omega)⟩
      have hz : (l.zip (chains l))[k]? = some (toC r, c) := by rw [List.getElem?_zip_eq_some]; exact ⟨hlk, hc⟩
      rw [drop_cons hz, movedFrom] at q1
      rw [drop_cons hz] at q2
      simp only [keptFrom] at q1 q2
      unfold P_r4_Of_L2
      have hk2 := q2 k (Int.le_refl _)
      refine .ifp (by omega) (Ok.andx (P := fun o : List Int => (∃ b last, movedOf l = o ++ movedFrom ((l.zip (chains l)).drop (k + 1)) b last ∧ ∀ i : Int, ((k + 1 : Nat) : Int) ≤ i → (i ∈ keptOf l ↔ i ∈ keptFrom ((l.zip (chains l)).drop (k + 1)) ((k + 1 : Nat) : Int) b last)) ∧ o.length ≤ k + 1) ?_ ?_)
      · refine .andx' (has_ok (by omega)) ?_
        by_cases hcond : c = b ∧ (toC r).first > last
        · rw [if_pos hcond] at q1 hk2
          have hmem : (k : Int) ∈ keptOf l := hk2.2 List.mem_cons_self
          refine .ifp (decide_eq_true hmem) (.some ⟨⟨b - 1, (toC r).last, q1, fun i hi => ?_⟩, by omega⟩)
          rw [q2 i (by omega), if_pos hcond, List.mem_cons]
          exact ⟨fun h => h.elim (fun e => by omega) id, .inr⟩
        · rw [if_neg hcond] at q1 hk2
          have hmem : (k : Int) ∉ keptOf l := fun hm => by have := keptFrom_ge _ _ _ _ _ (hk2.1 hm); omega
          refine .ifn (by simp [hmem]) (.el (by omega) fun a ha => ?_)
          have ha := get_of ha rfl
          rw [hrk] at ha
          cases ha
          refine .chk (by simp; omega) (.some ⟨⟨b, last, by rw [q1, List.append_assoc]; rfl, fun i hi => ?_⟩, by simp; omega⟩)
          rw [q2 i (by omega), if_neg hcond]
          rfl
      · rintro o ⟨ho1, ho2⟩
        exact .chk (i64_small (by omega)) (.some ⟨rfl, ho1, ho2⟩)
    · rintro ⟨i, out⟩ hx ⟨⟨b, last, q1, q2⟩, q3⟩
      simp only at hx q1
      unfold P_r4_Of_L2
      refine .ifn (by omega) (.some ?_)
      show out = _
      rw [q1, List.drop_eq_nil_of_le (by omega), movedFrom, List.append_nil]
    · rintro m rfl
      refine .chk (i64_small (by omega)) (.chk (i64_small (by omega)) (.chk (i64_small (by omega)) (.some ?_)))
      rw [← hL]
      rfl
theorem truths_in {s : Int} {g : List Gat} {its : List Item} (h : GoodCase s g its) : ∀ t ∈ truthsOf its, t.length = its.length ∧ ∀ x ∈ t, x = -1 ∨ 0 ≤ x ∧ x < (lvs s g).length := by
  suffices k : ∀ (l : List Item) (p t : List Int), (∀ x ∈ l, ∀ n ∈ x.could.l, 0 ≤ n ∧ n ≤ ((lvs s g).length : Int) - 1) → (∀ x ∈ p, x = -1 ∨ 0 ≤ x ∧ x < (lvs s g).length) → t ∈ comps p l → t.length = p.length + l.length ∧ ∀ x ∈ t, x = -1 ∨ 0 ≤ x ∧ x < (lvs s g).length by
    intro t ht
    have := k its [] t h.rng (by simp) ht
    exact ⟨by simpa using this.1, this.2⟩
  intro l
  induction l with
  | nil =>
    intro p t _ hp ht
    rw [comps, List.mem_singleton] at ht
    subst ht
    exact ⟨rfl, hp⟩
  | cons x l ih =>
    intro p t hl hp ht
    rw [comps, List.mem_flatMap] at ht
    obtain ⟨c, hc, ht⟩ := ht
    have hcr : c = -1 ∨ 0 ≤ c ∧ c < (lvs s g).length := by
      unfold chs at hc
      split at hc
      · rw [List.mem_singleton] at hc; exact .inl hc
      · have := hl x List.mem_cons_self c hc; exact .inr ⟨this.1, by omega⟩
    have := ih (p ++ [c]) t (fun y hy => hl y (List.mem_cons_of_mem _ hy)) (fun y hy => by
      rcases List.mem_append.1 hy with hy | hy
      · exact hp y hy
      · rw [List.mem_singleton] at hy; subst hy; exact hcr) ht
    refine ⟨?_, this.2⟩
    rw [this.1]
    simp
    omega
noncomputable def manyOf (s : Int) (g : List Gat) (t : List Int) : Int := allOf (lvs s g).length (matesOf s g) (gathOf (lvs s g)) t
noncomputable def wideOf (s : Int) (g : List Gat) (its : List Item) : Int × Int :=
 match truthsOf its with
 | [] => (0, 0)
 | t :: l => l.foldl (fun x t => (min x.1 (manyOf s g t), max x.2 (manyOf s g t))) (manyOf s g t, manyOf s g t)
end Go.Am
end
section
namespace Go.Am
set_option linter.unusedVariables false
theorem openRes_err {s : Int} {g : List Gat} {its : List Item} (h : ¬ (caseErr s g its).2.2 = 0) : openRes s g its = .inl (caseErr s g its) := by unfold openRes; rw [if_neg h]
theorem openRes_ok {s : Int} {g : List Gat} {its : List Item} (h : (caseErr s g its).2.2 = 0) : openRes s g its = .inr (s, GSo true encL (lvs s g), matesOf s g, 0, 0, 0) := by unfold openRes; rw [if_pos h]
end Go.Am
end
section
namespace Go.Am
set_option linter.unusedVariables false
theorem foldx_fold {σ β A : Type} {body : σ → β → Option (Stp σ A)} {f : σ → β → σ} : ∀ (l : List β) (s : σ), (∀ s, ∀ x ∈ l, body s x = some (.ag (f s x))) → foldx body l s = some (.nx (l.foldl f s)) := by
 intro l
 induction l with
 | nil => intro s _; rfl
 | cons a l ih =>
  intro s h;unfold foldx;rw [h s a List.mem_cons_self];exact ih _ fun s x hx => h s x (List.mem_cons_of_mem _ hx)
theorem count_le (g : Int → Int) (t : List Int) : ∀ k, (idxTo isStrange t k).length + (idxTo (isTwice t) t k).length + (runsTo g t k).length ≤ k := by
 intro k
 induction k with
 | zero => simp [idxTo, runsTo]
 | succ k ih =>
  cases h : t[k]? with
  | none =>
   rw [idxTo, idxTo, runsTo, h];simp only [List.append_nil];omega
  | some n =>
   rw [idxTo_succ h, idxTo_succ h, runsTo_succ h]
   by_cases h0 : n < 0
   ·have e1 : isPlain t k n = false := decide_eq_false (by omega)
    have e2 : isStrange k n = true := decide_eq_true h0
    have e3 : isTwice t k n = false := decide_eq_false (by omega);rw [e1, e2, e3];simp;omega
   ·have e2 : isStrange k n = false := decide_eq_false h0
    by_cases hm : n ∈ t.take k
    ·have e1 : isPlain t k n = false := decide_eq_false (fun h => h.2 hm)
     have e3 : isTwice t k n = true := decide_eq_true ⟨by omega, hm⟩;rw [e1, e2, e3];simp;omega
    ·have e1 : isPlain t k n = true := decide_eq_true ⟨by omega, hm⟩
     have e3 : isTwice t k n = false := decide_eq_false (fun h => hm h.2)
     have := rnStep_len (g := g) (l := runsTo g t k) (i := k) (n := n);rw [e1, e2, e3];simp;omega
theorem many_bounds (s : Int) (g : List Gat) (t : List Int) : 0 ≤ manyOf s g t ∧ manyOf s g t ≤ (lvs s g).length + t.length := by
 unfold manyOf allOf
 have h1 := piecesOf_le (matesOf s g) (lostOf (lvs s g).length t)
 have h2 := lostOf_len (lvs s g).length t
 have h3 := count_le (gathOf (lvs s g)) t t.length
 have h4 := movedOf_len (runsOf (gathOf (lvs s g)) t);unfold strangeOf twiceOf
 have h5 : (runsOf (gathOf (lvs s g)) t).length = (runsTo (gathOf (lvs s g)) t t.length).length := rfl;omega
theorem cfaults_ok {s : Int} {g : List Gat} {its : List Item} (h : GoodCase s g its) {its' : List Item} {s' : Int} {t : List Int} (ht : t ∈ truthsOf its) :
  P_c_faults s' g its' (lvs s g) (matesOf s g) t = some ([], lostOf (lvs s g).length t, piecesOf (matesOf s g) (lostOf (lvs s g).length t), strangeOf t, twiceOf t, movedOf (runsOf (gathOf (lvs s g)) t), manyOf s g t) := by
 have ht' := truths_in h t ht
 have := h.il;exact faults_ok h.nl (mates_len s g) (by omega) (fun x hx => by rcases ht'.2 x hx with h | h <;> omega)
theorem rOf_ok {s : Int} {g : List Gat} {its : List Item} (h : GoodCase s g its) {t : List Int} (ht : t ∈ truthsOf its) :
  P_r4_Of s g t = some (t, lostOf (lvs s g).length t, piecesOf (matesOf s g) (lostOf (lvs s g).length t), strangeOf t, twiceOf t, movedOf (runsOf (gathOf (lvs s g)) t), manyOf s g t) := by
 have ht' := truths_in h t ht
 have := h.il;exact Of_ok h.book (by omega) (fun x hx => by rcases ht'.2 x hx with h | h <;> omega)
theorem truths_pos {its : List Item} (hf : ∀ x ∈ its, x.could.l.length ≤ 4) : ∃ t l, truthsOf its = t :: l := by
 have h1 := (wid_le its hf).1
 have h2 := comps_len its [];cases h : truthsOf its with
 | nil => unfold truthsOf at h; rw [h] at h2; simp at h2; omega
 | cons t l => exact ⟨t, l, rfl⟩
theorem wide_ok {s : Int} {g : List Gat} {its : List Item} (h : GoodCase s g its) {s' : Int} : P_c_wide s' g its (lvs s g) (matesOf s g) = some (wideOf s g its) := by
 refine Ok.get ?_
 have hil := h.il
 have hnl := h.nl;obtain ⟨t, l, htl⟩ := truths_pos h.few;unfold P_c_wide;refine .chk (i64_small (by omega)) (.chk (i64_small (by omega)) (Ok.andx (P := fun x => x = wideOf s g its) (.chk ⟨hil, h.few⟩ ?_) ?_))
 ·have hb : ∀ (x : Int × Int), ∀ t ∈ truthsOf its, P_c_wide_L1 s' g its (lvs s g) (matesOf s g) x t = some (.ag (min x.1 (manyOf s g t), max x.2 (manyOf s g t))) := fun x t ht => by
   unfold P_c_wide_L1;obtain ⟨a, b⟩ := x;simp only;rw [cfaults_ok h ht];rfl
  rw [foldx_fold (f := fun (x : Int × Int) t => (min x.1 (manyOf s g t), max x.2 (manyOf s g t))) _ _ hb];refine .some ?_
  show (_, _) = _;unfold wideOf;rw [htl, List.foldl_cons]
  have h1 := many_bounds s g t
  have h2 := (truths_in h t (by rw [htl]; exact List.mem_cons_self)).1
  have e1 : min (((lvs s g).length : Int) + 2 * (its.length : Int)) (manyOf s g t) = manyOf s g t := by omega
  have e2 : max (0 : Int) (manyOf s g t) = manyOf s g t := by omega
  simp only [e1, e2]
 ·rintro ⟨a, b⟩ hab;exact .some hab
noncomputable def rangeSaid (s : Int) (g : List Gat) (its : List Item) : Int × Int × Int := if (caseErr s g its).2.2 = 0 then ((wideOf s g its).1, (wideOf s g its).2, 0) else (0, 0, (caseErr s g its).2.2)
theorem c_Range_ok {s : Int} {g : List Gat} {its : List Item} : P_c_Range s g its = some (rangeSaid s g its) := by
 unfold P_c_Range rangeSaid;rw [open_ok]
 by_cases e : (caseErr s g its).2.2 = 0
 ·rw [openRes_ok e, if_pos e];simp only [andx]
  have hg : (GSo true encL (lvs s g)).l = lvs s g := rfl;rw [chk_pos trivial, hg, wide_ok (case_good e)]
 ·rw [openRes_err e, if_neg e];simp only [andx];rw [chk_pos e]
theorem wide_fold (f : List Int → Int) : ∀ (l : List (List Int)) (a b : Int), (l.foldl (fun x t => (min x.1 (f t), max x.2 (f t))) (a, b)).1 ≤ a ∧ b ≤ (l.foldl (fun x t => (min x.1 (f t), max x.2 (f t))) (a, b)).2 ∧ ∀ t ∈ l, (l.foldl (fun x t => (min x.1 (f t), max x.2 (f t))) (a, b)).1 ≤ f t ∧ f t ≤ (l.foldl (fun x t => (min x.1 (f t), max x.2 (f t))) (a, b)).2 := by
 intro l
 induction l with
 | nil => intro a b; exact ⟨Int.le_refl _, Int.le_refl _, fun t h => by cases h⟩
 | cons u l ih =>
  intro a b;rw [List.foldl_cons];obtain ⟨h1, h2, h3⟩ := ih (min a (f u)) (max b (f u));refine ⟨by simp only at h1 ⊢; omega, by simp only at h2 ⊢; omega, fun t ht => ?_⟩
  rcases List.mem_cons.1 ht with rfl | ht
  ·simp only at h1 h2 ⊢; omega
  ·exact h3 t ht
theorem wide_has {s : Int} {g : List Gat} {its : List Item} {t : List Int} (ht : t ∈ truthsOf its) : (wideOf s g its).1 ≤ manyOf s g t ∧ manyOf s g t ≤ (wideOf s g its).2 := by
 unfold wideOf;cases h : truthsOf its with
 | nil => rw [h] at ht; cases ht
 | cons u l =>
  simp only;obtain ⟨h1, h2, h3⟩ := wide_fold (manyOf s g) l (manyOf s g u) (manyOf s g u);rw [h] at ht
  rcases List.mem_cons.1 ht with rfl | ht
  ·exact ⟨h1, h2⟩
  ·exact h3 t ht
end Go.Am
end
section
namespace Go.Am
set_option linter.unusedVariables false
def cntIn (ls : List (List Int)) (x : Int) : Nat := ls.countP fun l => decide (x ∈ l)
theorem cntIn_snoc (ls : List (List Int)) (l : List Int) (x : Int) : cntIn (ls ++ [l]) x = cntIn ls x + if x ∈ l then 1 else 0 := by
 unfold cntIn;rw [List.countP_append, List.countP_singleton]
 by_cases h : x ∈ l <;> simp [h]
theorem cntIn_le (ls : List (List Int)) (x : Int) : cntIn ls x ≤ ls.length := List.countP_le_length
def sureTo (ls : List (List Int)) : Nat → List Int
 | 0 => []
 | k + 1 => if cntIn ls k = ls.length then sureTo ls k ++ [(k : Int)] else sureTo ls k
def mayTo (ls : List (List Int)) : Nat → List Int
 | 0 => []
 | k + 1 => if 0 < cntIn ls k then mayTo ls k ++ [(k : Int)] else mayTo ls k
theorem sureTo_len (ls : List (List Int)) : ∀ k, (sureTo ls k).length ≤ k := by
 intro k
 induction k with
 | zero => exact Nat.le_refl _
 | succ k ih => rw [sureTo]; split <;> (try rw [List.length_append, List.length_singleton]) <;> omega
theorem mayTo_len (ls : List (List Int)) : ∀ k, (mayTo ls k).length ≤ k := by
 intro k
 induction k with
 | zero => exact Nat.le_refl _
 | succ k ih => rw [mayTo]; split <;> (try rw [List.length_append, List.length_singleton]) <;> omega
theorem mem_sureTo {ls : List (List Int)} {x : Int} : ∀ k, x ∈ sureTo ls k ↔ 0 ≤ x ∧ x < k ∧ ∀ l ∈ ls, x ∈ l := by
 have hc : ∀ k : Nat, cntIn ls k = ls.length ↔ ∀ l ∈ ls, (k : Int) ∈ l := fun k => by
  unfold cntIn;rw [List.countP_eq_length];simp
 intro k
 induction k with
 | zero => simp only [sureTo, List.not_mem_nil, false_iff]; omega
 | succ k ih =>
  rw [sureTo];split <;> rename_i h
  ·rw [List.mem_append, List.mem_singleton, ih]
   constructor
   ·rintro (⟨h1, h2, h3⟩ | rfl)
    ·exact ⟨h1, by omega, h3⟩
    ·exact ⟨by omega, by omega, (hc k).1 h⟩
   ·rintro ⟨h1, h2, h3⟩
    by_cases e : x = k
    ·exact .inr e
    ·exact .inl ⟨h1, by omega, h3⟩
  ·rw [ih]
   constructor
   ·rintro ⟨h1, h2, h3⟩; exact ⟨h1, by omega, h3⟩
   ·rintro ⟨h1, h2, h3⟩;refine ⟨h1, ?_, h3⟩
    by_cases e : x = k
    ·subst e; exact absurd ((hc k).2 h3) h
    ·omega
theorem mem_mayTo {ls : List (List Int)} {x : Int} : ∀ k, x ∈ mayTo ls k ↔ 0 ≤ x ∧ x < k ∧ ∃ l ∈ ls, x ∈ l := by
 have hc : ∀ k : Nat, 0 < cntIn ls k ↔ ∃ l ∈ ls, (k : Int) ∈ l := fun k => by
  unfold cntIn;rw [List.countP_pos_iff];simp
 intro k
 induction k with
 | zero => simp only [mayTo, List.not_mem_nil, false_iff]; omega
 | succ k ih =>
  rw [mayTo];split <;> rename_i h
  ·rw [List.mem_append, List.mem_singleton, ih]
   constructor
   ·rintro (⟨h1, h2, h3⟩ | rfl)
    ·exact ⟨h1, by omega, h3⟩
    ·exact ⟨by omega, by omega, (hc k).1 h⟩
   ·rintro ⟨h1, h2, h3⟩
    by_cases e : x = k
    ·exact .inr e
    ·exact .inl ⟨h1, by omega, h3⟩
  ·rw [ih]
   constructor
   ·rintro ⟨h1, h2, h3⟩; exact ⟨h1, by omega, h3⟩
   ·rintro ⟨h1, h2, h3⟩;refine ⟨h1, ?_, h3⟩
    by_cases e : x = k
    ·subst e; exact absurd ((hc k).2 h3) h
    ·omega
def marr (N : Nat) (f : Nat → Int) : List Int := (List.range N).map f
theorem marr_get {N : Nat} {f : Nat → Int} {k : Nat} (h : k < N) : (marr N f)[k]? = some (f k) := by
 unfold marr; rw [List.getElem?_map, List.getElem?_range h]; rfl
theorem marr_len {N : Nat} {f : Nat → Int} : (marr N f).length = N := by unfold marr; simp
theorem marr_set {N : Nat} {f : Nat → Int} {k : Nat} {v : Int} : (marr N f).set k v = marr N fun n => if n = k then v else f n := by
 apply List.ext_getElem?;intro i;rw [List.getElem?_set, marr_len]
 by_cases hi : i < N
 ·rw [marr_get hi]
  by_cases e : k = i
  ·subst e;simp [hi, marr_get hi]
  ·rw [if_neg e, marr_get hi, if_neg (fun h => e h.symm)]
 ·rw [List.getElem?_eq_none (l := marr N f) (by rw [marr_len]; omega), List.getElem?_eq_none (l := marr N fun n => if n = k then v else f n) (by rw [marr_len]; omega)];split
  ·rw [if_neg (by omega)]
  ·rfl
theorem marr_congr {N : Nat} {f g : Nat → Int} (h : ∀ n, n < N → f n = g n) : marr N f = marr N g := by
 unfold marr;exact List.map_congr_left fun n hn => h n (List.mem_range.1 hn)
theorem add_ok {N : Nat} {ls : List (List Int)} {l : List Int} {times : Int} (hs : l.Pairwise (· < ·)) (hr : ∀ x ∈ l, 0 ≤ x ∧ x < N) (hN : N ≤ 1000000) (hl : l.length ≤ 1000000) (hls : ls.length ≤ 1000000) :
  iter (P_c_Lost_L3 times l) (0, marr N fun n => cntIn ls n) = some (Stp.ag (times + 1, marr N fun n => cntIn (ls ++ [l]) n)) := by
 refine Ok.get ?_;refine Ok.count (fun s => s.1) l.length (fun k (s : Int × List Int) => s.2 = marr N fun n => cntIn ls n + if (n : Int) ∈ l.take k then 1 else 0) rfl ?_ ?_ ?_
 ·exact marr_congr fun n hn => by simp
 ·rintro k ⟨x, many⟩ hk hx hm;simp only at hx hm;subst hx hm;unfold P_c_Lost_L3
  have ha : l[k]? = some l[k] := List.getElem?_eq_getElem hk
  have har := hr l[k] (List.getElem_mem hk)
  have hnot : l[k] ∉ l.take k := fun hm => by
   obtain ⟨j, hj, e⟩ := List.mem_iff_getElem.1 hm;rw [List.length_take] at hj;rw [List.getElem_take] at e
   have := (List.pairwise_iff_getElem.1 hs) j k (by omega) hk (by omega);omega
  generalize l[k] = a at ha har hnot
  have hcl := cntIn_le ls a
  have hget : (marr N fun n => ((cntIn ls n : Nat) : Int) + if (n : Int) ∈ l.take k then 1 else 0)[a.toNat]? = some (cntIn ls a : Int) := by
   rw [marr_get (by omega)];rw [Int.toNat_of_nonneg har.1, if_neg hnot, Int.add_zero]
  refine .ifp (by omega) (.el (by omega) fun a' ha' => ?_)
  have ha' := get_of ha' rfl;rw [ha] at ha';cases ha';refine .el (by rw [marr_len]; omega) fun m hm => ?_
  rw [hget] at hm;cases hm;refine .chk (i64_small (by omega)) (.el (by rw [marr_len]; omega) fun m hm => .chk (i64_small (by omega)) (.some ⟨rfl, ?_⟩))
  show List.set _ _ _ = _;rw [marr_set];refine marr_congr fun n hn => ?_
  rw [take_snoc ha]
  by_cases e : n = a.toNat
  ·subst e;rw [if_pos rfl, if_pos (List.mem_append.2 (.inr (by rw [Int.toNat_of_nonneg har.1]; exact List.mem_singleton_self _))), Int.toNat_of_nonneg har.1]
  ·rw [if_neg e]
   have hne : (n : Int) ≠ a := fun h => e (by omega)
   by_cases hm : (n : Int) ∈ l.take k
   ·rw [if_pos hm, if_pos (List.mem_append.2 (.inl hm))]
   ·rw [if_neg hm, if_neg (fun h => (List.mem_append.1 h).elim hm (fun h => hne (List.mem_singleton.1 h)))]
 ·rintro ⟨x, many⟩ hx hm;simp only at hx hm;unfold P_c_Lost_L3;refine .ifn (by omega) (.some ?_)
  show Stp.ag _ = _;rw [hm, List.take_length]
  congr 2
  refine marr_congr fun n hn => ?_
  rw [cntIn_snoc];split <;> rfl
theorem tell_ok {N : Nat} {ls : List (List Int)} (hN : N ≤ 1000000) : iter (P_c_Lost_L4 ls.length (marr N fun n => cntIn ls n)) (0, [], []) = some (sureTo ls N, mayTo ls N) := by
 refine Ok.get ?_;refine Ok.count (fun s => s.1) N (fun k (s : Int × List Int × List Int) => s.2 = (sureTo ls k, mayTo ls k)) rfl rfl ?_ ?_
 ·rintro k ⟨x, su, ma⟩ hk hx hq;simp only at hx hq;subst hx;cases hq
  have h1 := sureTo_len ls k
  have h2 := mayTo_len ls k;unfold P_c_Lost_L4;refine .ifp (by rw [marr_len]; omega) (Ok.andx (P := fun x => x = (sureTo ls (k + 1), mayTo ls (k + 1))) ?_ ?_)
  ·refine .el (by rw [marr_len]; omega) fun a ha => ?_
   have ha := get_of ha rfl;rw [marr_get hk] at ha;cases ha;refine Ok.andx (P := fun x => x = sureTo ls (k + 1)) ?_ ?_
   ·rw [sureTo];refine .ite (fun h => .chk (by simp; omega) (.some ?_)) (fun h => .some ?_)
    ·show _ = _; rw [if_pos (by omega)]
    ·show _ = _; rw [if_neg (by omega)]
   ·rintro x rfl;rw [mayTo];refine .ite (fun h => .chk (by simp; omega) (.some ?_)) (fun h => .some ?_)
    ·show _ = _; rw [if_pos (by omega)]
    ·show _ = _; rw [if_neg (by omega)]
  ·rintro x rfl;exact .chk (i64_small (by omega)) (.some ⟨rfl, rfl⟩)
 ·rintro ⟨x, su, ma⟩ hx hq;simp only at hx hq;unfold P_c_Lost_L4;exact .ifn (by rw [marr_len]; omega) (.some hq)
noncomputable def toldSaid (ask : List Int → List Int) (s : Int) (g : List Gat) (its : List Item) : List Int × List Int × Int :=
 if (caseErr s g its).2.2 = 0 then (sureTo ((truthsOf its).map ask) (lvs s g).length, mayTo ((truthsOf its).map ask) (lvs s g).length, 0) else ([], [], (caseErr s g its).2.2)
theorem truths_le {s : Int} {g : List Gat} {its : List Item} (h : GoodCase s g its) : (truthsOf its).length ≤ 64 := by
 have := h.wid;rw [← comps_len its []] at this;exact this
theorem told_fold {N : Nat} {ask : List Int → List Int} {body : Int × List Int → List Int → Option (Stp (Int × List Int) (Int × List Int))} {ts : List (List Int)} (hN : N ≤ 1000000) (hts : ts.length ≤ 1000)
  (hs : ∀ t ∈ ts, (ask t).Pairwise (· < ·) ∧ (∀ x ∈ ask t, 0 ≤ x ∧ x < N) ∧ (ask t).length ≤ 1000000)
  (hb : ∀ times many t, t ∈ ts → 0 ≤ times ∧ times ≤ 1000000 → body (times, many) t = iter (P_c_Lost_L3 times (ask t)) (0, many)) :
  foldx body ts (0, marr N fun _ => 0) = some (.nx ((ts.length : Int), marr N fun n => cntIn (ts.map ask) n)) := by
 refine Ok.get ?_;refine Ok.foldx (fun vis (s : Int × List Int) => vis.length ≤ 1000 ∧ s = ((vis.length : Int), marr N fun n => cntIn (vis.map ask) n)) (vis := []) ⟨by simp, rfl⟩ ?_ ?_
 ·rintro vis t ⟨times, many⟩ ht ⟨hv, hq⟩ hpre;cases hq
  have hvl : (vis ++ [t]).length ≤ ts.length := by have := hpre.length_le; simpa using this
  obtain ⟨h1, h2, h3⟩ := hs t ht;rw [hb _ _ t ht (by omega), add_ok h1 h2 hN h3 (by rw [List.length_map]; omega)];refine .some ⟨by omega, ?_⟩;rw [List.map_append, List.length_append];rfl
 ·rintro s ⟨hv, hq⟩;rw [hq];rfl
theorem lost_sorted' {n : Nat} {t : List Int} : (lostOf n t).Pairwise (· < ·) ∧ (∀ x ∈ lostOf n t, 0 ≤ x ∧ x < n) := ⟨lostOf_sorted n t, fun x hx => by have := mem_lostOf.1 hx; omega⟩
theorem mem_looseOf {mt t : List Int} {x : Int} : ∀ n, n ≤ mt.length → (x ∈ looseOf mt t n ↔ 0 ≤ x ∧ x < n ∧ x ∈ t ∧ 0 ≤ mateF mt x ∧ mateF mt x ∉ t) := by
 intro n
 induction n with
 | zero => intro _; simp only [looseOf, List.not_mem_nil, false_iff]; omega
 | succ n ih =>
  intro hn
  have hm : mt[n]? = some mt[n] := List.getElem?_eq_getElem (by omega)
  have hmf : mateF mt (n : Int) = mt[n] := by unfold mateF; rw [Int.toNat_natCast, hm]
  rw [looseOf, hm, List.mem_append, ih (by omega)];simp only
  constructor
  ·rintro (⟨h1, h2, h3⟩ | h)
   ·exact ⟨h1, by omega, h3⟩
   ·split at h
    ·rename_i hc
     rw [List.mem_singleton] at h;subst h;rw [hmf];exact ⟨by omega, by omega, hc⟩
    ·cases h
  ·rintro ⟨h1, h2, h3⟩
   by_cases e : x = n
   ·subst e;rw [hmf] at h3;refine .inr ?_;rw [if_pos h3];exact List.mem_singleton_self _
   ·exact .inl ⟨h1, by omega, h3⟩
theorem loose_sorted {mt t : List Int} : ∀ n, n ≤ mt.length → (looseOf mt t n).Pairwise (· < ·) := by
 intro n
 induction n with
 | zero => intro _; exact .nil
 | succ n ih =>
  intro hn
  have hm : mt[n]? = some mt[n] := List.getElem?_eq_getElem (by omega);rw [looseOf, hm];simp only;split
  ·rw [List.pairwise_append];refine ⟨ih (by omega), List.pairwise_singleton _ _, fun a ha b hb => ?_⟩;rw [List.mem_singleton] at hb;subst hb;exact ((mem_looseOf n (by omega)).1 ha).2.1
  ·rw [List.append_nil]; exact ih (by omega)
theorem c_Lost_ok {s : Int} {g : List Gat} {its : List Item} : P_c_Lost s g its = some (toldSaid (lostOf (lvs s g).length) s g its) := by
 unfold P_c_Lost toldSaid;rw [open_ok]
 by_cases e : (caseErr s g its).2.2 = 0
 ·rw [openRes_ok e, if_pos e]
  have h := case_good e
  have hnl := h.nl
  have hil := h.il
  have hg : (GSo true encL (lvs s g)).l = lvs s g := rfl;simp only [andx, hg];rw [chk_pos trivial, chk_pos (by omega), chk_pos ⟨hil, h.few⟩]
  have hz : List.replicate ((lvs s g).length : Int).toNat (0 : Int) = marr (lvs s g).length fun _ => 0 := by
   unfold marr; rw [Int.toNat_natCast, List.map_const', List.length_range]
  rw [hz, told_fold (ask := lostOf (lvs s g).length) (by omega) (by have := truths_le h; omega) (fun t ht => ⟨lostOf_sorted _ _, lost_sorted'.2, by have := lostOf_len (lvs s g).length t; omega⟩) (fun times many t ht hti => ?_)]
  ·simp only [seqx]
   have := tell_ok (N := (lvs s g).length) (ls := (truthsOf its).map (lostOf (lvs s g).length)) (by omega);rw [List.length_map] at this;rw [this]
  ·unfold P_c_Lost_L1;simp only;rw [chk_pos (i64_small (by omega))]
   have := lost_ok (s := s) (g := g) (its := its) (lv := lvs s g) (mt := matesOf s g) (t := t) (by have := (truths_in h t ht).1; omega) (by omega);unfold P_c_lost at this
   have h2 : (andx (P_c_there s g its (GSo true encL (lvs s g)).l (matesOf s g) t) fun y9 => andx (iter (P_c_Lost_L2 (GSo true encL (lvs s g)) y9) (0, [])) fun l => some l) = some (lostOf (lvs s g).length t) := this;rw [h2];rfl
 ·rw [openRes_err e, if_neg e];simp only [andx];rw [chk_pos e]
theorem c_Loose_ok {s : Int} {g : List Gat} {its : List Item} : P_c_Loose s g its = some (toldSaid (fun t => looseOf (matesOf s g) t (matesOf s g).length) s g its) := by
 unfold P_c_Loose toldSaid;rw [open_ok]
 by_cases e : (caseErr s g its).2.2 = 0
 ·rw [openRes_ok e, if_pos e]
  have h := case_good e
  have hnl := h.nl
  have hil := h.il
  have hml := mates_len s g
  have hg : (GSo true encL (lvs s g)).l = lvs s g := rfl;simp only [andx, hg];rw [chk_pos trivial, chk_pos (by omega), chk_pos ⟨hil, h.few⟩]
  have hz : List.replicate ((lvs s g).length : Int).toNat (0 : Int) = marr (lvs s g).length fun _ => 0 := by
   unfold marr; rw [Int.toNat_natCast, List.map_const', List.length_range]
  rw [hz, told_fold (ask := fun t => looseOf (matesOf s g) t (matesOf s g).length) (by omega) (by have := truths_le h; omega) (fun t ht => ⟨loose_sorted _ (Nat.le_refl _), fun x hx => by have := (mem_looseOf _ (Nat.le_refl _)).1 hx; omega, by have := looseOf_len (matesOf s g) t (matesOf s g).length; omega⟩) (fun times many t ht hti => ?_)]
  ·simp only [seqx]
   have := tell_ok (N := (lvs s g).length) (ls := (truthsOf its).map fun t => looseOf (matesOf s g) t (matesOf s g).length) (by omega);rw [List.length_map] at this
   have h4 : ∀ (a : Int) (b : List Int), P_c_Loose_L4 a b = P_c_Lost_L4 a b := fun a b => rfl
   rw [h4, this]
  ·unfold P_c_Loose_L1;simp only;rw [chk_pos (i64_small (by omega))]
   have := loose_ok (s := s) (g := g) (its := its) (lv := lvs s g) (mt := matesOf s g) (t := t) (by have := (truths_in h t ht).1; omega) (by omega);unfold P_c_loose at this
   have h2 : (andx (P_c_there s g its (GSo true encL (lvs s g)).l (matesOf s g) t) fun y10 => andx (iter (P_c_Loose_L2 (matesOf s g) y10) (0, [])) fun l => some l) = some (looseOf (matesOf s g) t (matesOf s g).length) := this;rw [h2];rfl
 ·rw [openRes_err e, if_neg e];simp only [andx];rw [chk_pos e]
theorem Free_ok {s : Int} {g : List Gat} {t : List Int} (h : GoodBook s g) (ht : t.length ≤ 1000000) : P_r4_Free s g t = some (looseOf (matesOf s g) t (matesOf s g).length) := by
 refine Ok.get ?_;unfold P_r4_Free;refine .andx' (Mates_ok h.b0 h.nl) ?_
 have hml := mates_len s g
 have hnl := h.nl;generalize matesOf s g = mt at *;refine Ok.andx (P := fun l => l = looseOf mt t mt.length) (Ok.count Prod.fst mt.length (fun k s => s.2 = looseOf mt t k) rfl rfl ?_ ?_) fun _ h => .some h
 ·rintro k ⟨x, l⟩ hk hx hl';simp only at hx hl';subst hx hl'
  have hlen := looseOf_len mt t k
  have hm : mt[k]? = some mt[k] := List.getElem?_eq_getElem hk;generalize mt[k] = m at hm;unfold P_r4_Free_L1;refine .ifp (by omega) (Ok.andx (P := fun l => l = looseOf mt t (k + 1)) ?_ ?_)
  ·refine Ok.andx (P := fun b : Bool => b = true ↔ ((k : Int) ∈ t ∧ m ≥ 0 ∧ m ∉ t)) ?_ ?_
   ·refine .andx' (has_ok ht) ?_;refine .ite (fun hc => ?_) (fun hc => ?_)
    ·have h1 := of_decide_eq_true hc;refine .el (by omega) fun a ha => ?_
     have ha := get_of ha rfl;rw [hm] at ha;cases ha;refine .ite (fun hd => ?_) (fun hd => .some ?_)
     ·refine .el (by omega) fun a ha => ?_
      have ha := get_of ha rfl;rw [hm] at ha;cases ha;refine .andx' (has_ok ht) (.some ?_);simp [h1, hd]
     ·simp [hd]
    ·have h1 : (k : Int) ∉ t := fun h => hc (decide_eq_true h)
     exact .some (by simp [h1])
   ·rintro b hb;refine .ite (fun hc => ?_) (fun hc => ?_)
    ·refine .chk (by simp; omega) (.some ?_)
     show _ = _;rw [looseOf, hm];simp only;rw [if_pos (hb.1 hc)]
    ·refine .some ?_
     show _ = _;rw [looseOf, hm];simp only;rw [if_neg (fun h => hc (hb.2 h)), List.append_nil]
  ·rintro l' rfl;exact .chk (i64_small (by omega)) (.some ⟨rfl, rfl⟩)
 ·rintro ⟨x, l⟩ hx hl';simp only at hx hl';unfold P_r4_Free_L1;exact .ifn (by omega) (.some hl')
end Go.Am
end
section
namespace Go.Am
set_option linter.unusedVariables false
abbrev okCase (s : Int) (g : List Gat) (its : List Item) : Prop := (caseErr s g its).2.2 = 0
theorem valid_ok {s : Int} {g : List Gat} {its : List Item} : P_l_valid s g its = some (decide (okCase s g its)) := by
 unfold P_l_valid;rw [r4_Check_ok];rfl
theorem part_ok {a b : List Int} (ha : a.length ≤ 1000000) (hb : b.length ≤ 1000000) (h : ∀ x ∈ a, x ∈ b) : P_l_part a b = some true := by
 refine Ok.get ?_;unfold P_l_part;refine Ok.seqx (Ok.count (fun s => s) a.length (fun k s => True) rfl trivial ?_ ?_)
 ·rintro k i hk hx _;subst hx;unfold P_l_part_L1;refine .ifp (by omega) (.el (by omega) fun x hx => ?_)
  have hx := get_of hx rfl;refine .andx' (has_ok hb) (.ifp (decide_eq_true (h x (List.mem_of_getElem? hx))) (.chk (i64_small (by omega)) (.some ⟨rfl, trivial⟩)))
 ·rintro i hx _;unfold P_l_part_L1;exact .ifn (by omega) (.some (Ok.some rfl))
theorem CopyTrue_true (s : Int) (g : List Gat) (its : List Item) (n : UInt16) : P_law_CopyTrue s g its n = some true := by
 refine Ok.get ?_;unfold P_law_CopyTrue;refine .andx' valid_ok ?_
 by_cases e : okCase s g its
 ·have h := case_good e
  have hnl := h.nl
  have hil := h.il
  have hml := mates_len s g;obtain ⟨z, hz⟩ := All_ok h
  have hn : (n.toNat : Int) < 65536 := by have := n.toNat_lt; omega
  refine .ifp (decide_eq_true e) (.chk (by omega) (.andx' hz ?_))
  have hgl : (GSo z (encSl encI) (List.map (GSo true encI) (truthsOf its))).l = List.map (GSo true encI) (truthsOf its) := rfl;dsimp only;rw [hgl];obtain ⟨t0, l0, htl⟩ := truths_pos h.few
  have hpos : 0 < (truthsOf its).length := by rw [htl]; simp
  rw [List.length_map]
  have hmod : Int.tmod (n.toNat : Int) ((truthsOf its).length : Int) = ((n.toNat % (truthsOf its).length : Nat) : Int) := Int.ofNat_tmod _ _ |>.symm;refine .chk (by omega) (.el ?_ fun a ha => ?_)
  ·rw [hmod, List.length_map]
   have := Nat.mod_lt n.toNat hpos;omega
  ·obtain ⟨t, ht⟩ : ∃ t, (truthsOf its)[n.toNat % (truthsOf its).length]? = some t := ⟨_, List.getElem?_eq_getElem (Nat.mod_lt _ hpos)⟩;rw [hmod, Int.toNat_natCast, List.getElem?_map, ht] at ha;cases ha
   have htm := List.mem_of_getElem? ht
   have htr := truths_in h t htm
   have hgo : (GSo true encI t).l = t := rfl;rw [hgo]
   have hr : rangeSaid s g its = ((wideOf s g its).1, (wideOf s g its).2, 0) := if_pos e
   have hL : toldSaid (lostOf (lvs s g).length) s g its = (sureTo ((truthsOf its).map (lostOf (lvs s g).length)) (lvs s g).length, mayTo ((truthsOf its).map (lostOf (lvs s g).length)) (lvs s g).length, 0) := if_pos e
   have hO : toldSaid (fun t => looseOf (matesOf s g) t (matesOf s g).length) s g its = (sureTo ((truthsOf its).map fun t => looseOf (matesOf s g) t (matesOf s g).length) (lvs s g).length, mayTo ((truthsOf its).map fun t => looseOf (matesOf s g) t (matesOf s g).length) (lvs s g).length, 0) := if_pos e
   have hS : ∀ ls, (sureTo ls (lvs s g).length).length ≤ 1000000 := fun ls => by have := sureTo_len ls (lvs s g).length; omega
   have hM : ∀ ls, (mayTo ls (lvs s g).length).length ≤ 1000000 := fun ls => by have := mayTo_len ls (lvs s g).length; omega
   have hlo := lostOf_len (lvs s g).length t
   have hlo2 := looseOf_len (matesOf s g) t (matesOf s g).length;refine .andx' (c_Range_ok.trans (congrArg some hr)) (.andx' (c_Lost_ok.trans (congrArg some hL)) (.andx' (c_Loose_ok.trans (congrArg some hO)) (.andx' (Gone_ok h.book (by omega)) (.andx' (Free_ok h.book (by omega)) ?_))));refine .andx' (a := true) (Ok.get ?_) (.some rfl);refine .ifp rfl (.ifp rfl (.ifp rfl (.andx' (rOf_ok h htm) ?_)))
   have hw := wide_has (s := s) (g := g) htm;refine .andx' (a := true) ?_ (.ifp rfl (.andx' (a := true) ?_ (.ifp rfl (.andx' (a := true) ?_ (.ifp rfl (.andx' (a := true) ?_ (.ifp rfl (.andx' (a := true) ?_ (.ifp rfl (.some rfl))))))))))
   ·unfold P_r1_Inside P_r1_in;simp only [andx];rw [decide_eq_true (show inR (manyOf s g t) (wideOf s g its).1 (wideOf s g its).2 from hw)]
   ·exact part_ok (hS _) (by omega) fun x hx => ((mem_sureTo _).1 hx).2.2 _ (List.mem_map_of_mem htm)
   ·exact part_ok (by omega) (hM _) fun x hx => (mem_mayTo _).2 ⟨(mem_lostOf.1 hx).1, (mem_lostOf.1 hx).2.1, _, List.mem_map_of_mem htm, hx⟩
   ·exact part_ok (hS _) (by omega) fun x hx => ((mem_sureTo _).1 hx).2.2 _ (List.mem_map_of_mem (f := fun t => looseOf (matesOf s g) t (matesOf s g).length) htm)
   ·refine part_ok (by omega) (hM _) fun x hx => (mem_mayTo _).2 ?_
    have := (mem_looseOf _ (Nat.le_refl _)).1 hx;exact ⟨this.1, by omega, _, List.mem_map_of_mem (f := fun t => looseOf (matesOf s g) t (matesOf s g).length) htm, hx⟩
 ·refine .ifn (by simp [e]) ?_
  have hr : rangeSaid s g its = (0, 0, (caseErr s g its).2.2) := if_neg e;refine .andx' (c_Range_ok.trans (congrArg some hr)) ?_;exact .andx' (a := true) (Ok.get (.ifp e (.some rfl))) (.some rfl)
end Go.Am
end
section

end
section
namespace Go.Am.YthckcbfijdambaaGreat
open Go.Am Go.RowKit
theorem copyTrue_calls (w : World) (c_Book_Signed : Int) (c_Book_Gatherings : GS encG) (c_Items : GS encIt) (n : UInt16) (xs : List Value) (h : RelL (snapR w 0) [.agg [iv (c_Book_Signed), c_Book_Gatherings.v, c_Items.v], ivk .u16 ((n.toNat : Int))] xs) :
  Calls Go.Proofs.Tryz.prog 4 xs.toArray w fun e w' => e = .returned (.bool true) ∧ Below w.heap.size w w' :=
 ((w_law_CopyTrue c_Book_Signed c_Book_Gatherings c_Items n true (CopyTrue_true _ _ _ _)).runsTo.calls (EL_good 6) w xs h).mono fun e w' ⟨x, he, hr, hb⟩ => ⟨by rw [he]; cases hr; rfl, hb⟩
end Go.Am.YthckcbfijdambaaGreat
namespace Go.Proofs.YthckcbfijdambaaGreat.copyTrue
open Go.ChangeShapes Go.WideShapes Go.ChangeAt Go.RowKit
set_option linter.unusedVariables false
theorem own : ownKnob Tryz.prog.godebug = none := by kernel_rfl
theorem laid : laidOutB Tryz.prog = true := by kernel_rfl
set_option maxRecDepth 100000 in
theorem lifted (os : Os) (started : os.Started) (H : Type) (enc : TypeId × Value → H) :
  ReturnsInHanded {} Tryz.checked os 4 .any (Rows.copyTrueSpec.pre6 enc Tryz.prog Tryz.f4 Rows.copyTrueRow.domain false) (Rows.copyTrueSpec.post enc Tryz.prog Tryz.f4 false true false false) := by
 refine returnsInHanded_of_change (C := Tryz.checked) own started (by kernel_rfl) Tryz.func4
  (ChangeSpec.witness6 (enc := enc) (C := Tryz.checked) false ⟨#[], #[.agg #[.int .i64 0, .slice none 0 0, .slice none 0 0], .int .u16 0], []⟩ 8 (by kernel_rfl) (by kernel_rfl) (by kernel_rfl) (by kernel_rfl)) ?_
 intro W base args ds gs before hval0 hW hcnd _
 have hW' := hW;obtain ⟨p, q, hA0, hV, rfl, hfz, hnd⟩ := hW
 have hA : DataW.TrodAll enc Tryz.prog W 0 (fun _ => true) true Tryz.f4.params.toList args.toList ds p := hA0
 have hval : ∀ (j : Nat) t v, Tryz.f4.params[j]? = some t → args[j]? = some v → Value.okWide Tryz.prog W .any base t v := hval0;rw [Tryz.params4] at hA hval;obtain ⟨v0, v1, d0, d1, p0, p1, rfl, rfl, rfl, h0, h1⟩ := trodAll_two hA;obtain ⟨rfl, rfl⟩ := trodVars_none hV;obtain ⟨x0, r0⟩ := Go.Am.YthckcbfijdambaaGreat.li_27.arg Tryz.underlying27 (hval 0 27 v0 rfl rfl) h0;obtain ⟨x1, r1⟩ := Go.Am.YthckcbfijdambaaGreat.li_37.argI Tryz.underlying37 (hval 1 37 v1 rfl rfl) h1
 clear hA0 hval0
 refine (Go.Am.YthckcbfijdambaaGreat.copyTrue_calls W x0.book.signed x0.book.gs x0.items x1 [v0, v1] (.cons r0 (.cons (r1 _ rfl) (.nil _)))).mono fun e W' ⟨he, bel⟩ => ?_
 subst he
 have hlt : ∀ x ∈ p0 ++ p1, x.block < W.heap.size := fun x hx => hW'.lt x (by simpa using hx)
 have k0 := Below.trod laid (by kernel_rfl) (of_decide_eq_true (by kernel_rfl)) h0 bel fun x hx => hlt x (by simp [hx])
 have k1 := Below.trod laid (by kernel_rfl) (of_decide_eq_true (by kernel_rfl)) h1 bel fun x hx => hlt x (by simp [hx])
 exact ⟨_, rfl, _, _, _, [], _, [], hW', trodAll_mk1 (shut_bool Tryz.underlying4 _), trodAll_mk2 k0 k1, rfl, bel.frame _, fun h => by cases h⟩
theorem over : Rows.copyTrueRow.holds Tryz.pinned (OpenSpec.ofChange Rows.copyTrueSpec) :=
 OpenClaim.holds_of_wide 4 Tryz.f4 rfl rfl rfl rfl rfl rfl rfl ⟨rfl, rfl, rfl, rfl, rfl⟩ rfl rfl rfl rfl rfl (by kernel_rfl) Tryz.func4 (by kernel_rfl)
  (of_decide_eq_true (by kernel_rfl)) (by unfold Func.isWrapper; first | (rw [if_pos (by decide +kernel)]; kernel_rfl) | (rw [if_neg (by decide +kernel)]; exact ⟨rfl, rfl⟩))
  (fun os started H enc _ => lifted os started H enc)
theorem proved : Rows.CopyTrueSaid := over
#print axioms proved
end Go.Proofs.YthckcbfijdambaaGreat.copyTrue
end
