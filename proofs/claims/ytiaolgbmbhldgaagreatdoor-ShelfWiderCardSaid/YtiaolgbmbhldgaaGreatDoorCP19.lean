/- Part 19. -/
import Derived.Test.YtiaolgbmbhldgaaGreatDoorCP16
section
namespace Go.Am
set_option linter.unusedVariables false
set_option linter.unusedSimpArgs false
structure Nar (a b : qB) : Prop where
 c : b.qK = a.qK
 n : b.qL = a.qL
 s : b.qJ = a.qJ
 y : b.heavy = a.heavy
 p : b.shelf = a.shelf
 w : 1 ≤ b.wide ∧ b.wide ≤ a.wide
 h : 1 ≤ b.high ∧ b.high ≤ a.high
inductive NarL : List qB → List qB → Prop
 | nil : NarL [] []
 | cons {a b r t} : Nar a b → NarL r t → NarL (a :: r) (b :: t)
namespace NarL
theorem len {x y : List qB} (h : NarL x y) : y.length = x.length := by
 induction h with
 | nil => rfl
 | cons _ _ ih => simp [ih]
theorem get {x y : List qB} (h : NarL x y) : ∀ {k : Nat} {a : qB}, x[k]? = some a → ∃ b, y[k]? = some b ∧ Nar a b := by
 induction h with
 | nil => intro k a ha; simp at ha
 | cons hn _ ih =>
  intro k a ha;cases k with
  | zero => simp at ha; subst ha; exact ⟨_, by simp, hn⟩
  | succ k => rw [List.getElem?_cons_succ] at ha ⊢; exact ih ha
theorem back {x y : List qB} (h : NarL x y) {k : Nat} {b : qB} (hb : y[k]? = some b) : ∃ a, x[k]? = some a ∧ Nar a b := by
 obtain ⟨a, ha⟩ := get_some (l := x) (k := k) (by rw [← h.len]; exact (List.getElem?_eq_some_iff.1 hb).1);obtain ⟨c, hc, hn⟩ := h.get ha;rw [hb] at hc;cases hc;exact ⟨a, ha, hn⟩
theorem take {x y : List qB} (h : NarL x y) : ∀ k, NarL (x.take k) (y.take k) := by
 induction h with
 | nil => intro k; simp; exact .nil
 | cons hn _ ih =>
  intro k;cases k with
  | zero => exact .nil
  | succ k => exact .cons hn (ih k)
theorem wideOn {x y : List qB} (h : NarL x y) (i : Int) : Am.wideOn i y ≤ Am.wideOn i x := by
 induction h with
 | nil => exact Int.le_refl _
 | cons hn _ ih =>
  unfold Am.wideOn;rw [hn.p]
  have := hn.w;split <;> omega
theorem lowOn {x y : List qB} (h : NarL x y) {i t : Int} (hl : Am.lowOn i t x) : Am.lowOn i t y := fun b hb hs => by
 obtain ⟨k, hk⟩ := List.getElem?_of_mem hb;obtain ⟨a, ha, hn⟩ := h.back hk
 have := hl a (List.mem_of_getElem? ha) (by rw [← hn.p]; exact hs)
 have := hn.h;omega
theorem withS {x y : List qB} (h : NarL x y) : ∀ ls : List Int, NarL (Am.withS x ls) (Am.withS y ls) := by
 induction h with
 | nil => intro ls; exact .nil
 | cons hn _ ih =>
  intro ls;cases ls with
  | nil => exact .nil
  | cons s ls => exact .cons ⟨hn.c, hn.n, hn.s, hn.y, rfl, hn.w, hn.h⟩ (ih ls)
theorem taken {x y : List qB} (h : NarL x y) : ∀ l : List Int, NarL (takenB x l) (takenB y l)
 | [] => .nil
 | i :: l => by
  have ih := taken h l;unfold takenB at ih ⊢;rw [List.filterMap_cons, List.filterMap_cons];cases ha : x[i.toNat]? with
  | none =>
   have := List.getElem?_eq_none_iff.1 ha;rw [List.getElem?_eq_none (by rw [h.len]; exact this)];exact ih
  | some a =>
   obtain ⟨b, hb, hn⟩ := h.get ha;rw [hb];exact .cons hn ih
theorem cfB {x y : List qB} (h : NarL x y) (i j : Int) : Am.cfB y i j = Am.cfB x i j := by
 unfold Am.cfB;cases ha : x[i.toNat]? with
 | none =>
  have := List.getElem?_eq_none_iff.1 ha;rw [List.getElem?_eq_none (by rw [h.len]; exact this)]
 | some a =>
  obtain ⟨b, hb, hn⟩ := h.get ha;rw [hb];cases hc : x[j.toNat]? with
  | none =>
   have := List.getElem?_eq_none_iff.1 hc;rw [List.getElem?_eq_none (by rw [h.len]; exact this)]
  | some c =>
   obtain ⟨d, hd, hm⟩ := h.get hc;rw [hd];simp only [hn.c, hn.n, hn.s, hm.c, hm.n, hm.s]
theorem ordB {x y : List qB} (h : NarL x y) : Am.ordB y = Am.ordB x := by
 unfold Am.ordB;rw [h.len, show Am.cfB y = Am.cfB x from funext fun i => funext fun j => h.cfB i j]
theorem moved {x y : List qB} (h : NarL x y) : ∀ (ls : List Int) (i : Nat) (but : Int), movedN y ls i but = movedN x ls i but := by
 induction h with
 | nil => intro ls i but; rfl
 | cons hn _ ih =>
  intro ls i but;cases ls with
  | nil => rfl
  | cons s ls => rw [movedN_cons, movedN_cons, ih, hn.p]
theorem rises {x y : List qB} (h : NarL x y) (hr : Rises x) : Rises y := fun k a b ha hb => by
 obtain ⟨c, hc, hn⟩ := h.back ha;obtain ⟨d, hd, hm⟩ := h.back hb
 have := hr k c d hc hd;unfold mLess at this ⊢;rw [hn.c, hn.n, hn.s, hm.c, hm.n, hm.s];exact this
theorem fits {x y : List qB} (h : NarL x y) {i : Nat} {a : qH} (hf : Am.fits x i a) : Am.fits y i a := ⟨h.lowOn hf.1, Int.le_trans (h.wideOn i) hf.2⟩
theorem arr {x y : List qB} (h : NarL x y) {sh : List qH} {l : List Int} (ha : Arr sh x l) : Arr sh y l := ⟨ha.1, fun s a hs => (h.withS l).fits (ha.2 s a hs)⟩
theorem setA {a b : qB} (hn : Nar a b) : ∀ {x : List qB} {k : Nat}, (∀ c ∈ x, Nar c c) → x[k]? = some a → NarL x (x.set k b)
 | [], _, _, h => by simp at h
 | c :: r, 0, hr, h => by
  simp at h;subst h;exact .cons hn (self r fun d hd => hr d (by simp [hd]))
 | c :: r, k + 1, hr, h => .cons (hr c (by simp)) (setA hn (fun d hd => hr d (by simp [hd])) (by simpa using h))
where
 self : ∀ r : List qB, (∀ d ∈ r, Nar d d) → NarL r r
 | [], _ => .nil
 | d :: r, h => .cons (h d (by simp)) (self r fun e he => h e (by simp [he]))
end NarL
theorem costF_nar {x y : List qB} (h : NarL x y) {sh : List qH} {but clear : Int} {l : List Int} {n : Int} (hc : costF sh x but clear l = some n) : costF sh y but clear l = some n := by
 unfold costF at hc ⊢;split at hc
 ·rename_i g
  rw [if_pos ⟨g.1, h.arr g.2⟩, h.moved];exact hc
 ·cases hc
theorem bkErr_ok {ncl nsh : Nat} {bs : List qB} {i : Nat} {b : qB} (h1 : bkRange b.wide b.high b.heavy) (h2 : btw 0 ((nsh : Int) - 1) b.shelf) (h3 : ¬ below bs i b) (h4 : ¬ twice (bs.take i) b.qK b.qL b.qJ) (h5 : mkErr ncl b.qK b.qL b.qJ = 0) : bkErr ncl nsh bs i b = 0 := by
 have h0 : bkE0 ncl bs i b = 0 := by
  unfold bkE0 bkErr1;rw [if_pos h5, if_pos h1, if_neg h4]
 unfold bkErr;rw [if_pos h0, if_pos h2, if_neg h3]
section
variable {cl : List Str} {sh sh' : List qH} {bs bs' books : List qB} {but clear : Int} {b : qB}
theorem NarL.fine (h : NarL bs bs') (hF : Fine cl sh bs) : Fine cl sh bs' := by
 refine ⟨hF.cl1, hF.cl2, hF.sh1, hF.sh2, by rw [h.len]; exact hF.bs1, fun j hj => ?_, fun j hj => ?_⟩
 ·obtain ⟨b, hb⟩ := get_some hj;obtain ⟨a, ha, hn⟩ := h.back hb;obtain ⟨g1, g2, g3, g4, g5⟩ := bkErr_zero (bk_all hF.bs2 ha);rw [errAt_of hb];refine bkErr_ok ?_ (by rw [hn.p]; exact g2) ?_ ?_ (by rw [hn.c, hn.n, hn.s]; exact g5)
  ·have := hn.w
   have := hn.h;unfold bkRange btw at g1 ⊢;rw [hn.y];omega
  ·rintro ⟨g6, c, hc, hlt⟩;obtain ⟨d, hd, hm⟩ := h.back hc;exact g3 ⟨g6, d, hd, by rw [← hn.p, ← hm.p]; exact hlt⟩
  ·rintro ⟨k, hk, c, hc, e1, e2, e3⟩;obtain ⟨d, hd, hm⟩ := (h.take j).back hc;refine g4 ⟨k, (List.getElem?_eq_some_iff.1 hd).1, d, hd, ?_, ?_, ?_⟩
   ·rw [← hm.c, e1, hn.c]
   ·rw [← hm.n, e2, hn.n]
   ·rw [← hm.s, e3, hn.s]
 ·obtain ⟨a, ha⟩ := get_some hj;rw [errAt_of ha];unfold fitErr;rw [if_pos (h.fits (hF.fits ha))]
structure Wid (sh sh' : List qH) : Prop where
 len : sh'.length = sh.length
 back : ∀ (k : Nat) (a' : qH), sh'[k]? = some a' → ∃ a, sh[k]? = some a ∧ a'.away = a.away ∧ a'.climb = a.climb ∧ (a.wide ≤ a'.wide ∧ a'.wide ≤ 2000) ∧ (a.high ≤ a'.high ∧ a'.high ≤ 2000)
theorem Wid.fits {i : Nat} {a a' : qH} (h1 : a.wide ≤ a'.wide) (h2 : a.high ≤ a'.high) (hf : Am.fits bs i a) : Am.fits bs i a' := ⟨fun b hb hs => Int.le_trans (hf.1 b hb hs) h2, Int.le_trans hf.2 h1⟩
theorem Wid.arr (h : Wid sh sh') {l : List Int} (ha : Arr sh books l) : Arr sh' books l := ⟨ha.1, fun s a' hs => by
  obtain ⟨a, hs', _, _, h1, h2⟩ := h.back s a' hs
  exact Wid.fits h1.1 h2.1 (ha.2 s a hs')⟩
theorem costF_wid (h : Wid sh sh') {l : List Int} {n : Int} (hc : costF sh books but clear l = some n) : costF sh' books but clear l = some n := by
 unfold costF at hc ⊢;split at hc
 ·rename_i g
  rw [if_pos ⟨g.1, h.arr g.2⟩];exact hc
 ·cases hc
theorem Wid.fine (h : Wid sh sh') (hF : Fine cl sh bs) : Fine cl sh' bs := by
 refine ⟨hF.cl1, hF.cl2, by rw [h.len]; exact hF.sh1, fun j hj => ?_, hF.bs1, fun j hj => ?_, fun j hj => ?_⟩
 ·obtain ⟨a', ha'⟩ := get_some hj;obtain ⟨a, ha, e1, e2, h1, h2⟩ := h.back j a' ha'
  have := hF.shelf ha;rw [errAt_of ha'];refine if_pos ?_;unfold shOk btw at this ⊢;omega
 ·rw [h.len];exact hF.bs2 j hj
 ·obtain ⟨a', ha'⟩ := get_some hj;obtain ⟨a, ha, _, _, h1, h2⟩ := h.back j a' ha';rw [errAt_of ha'];unfold fitErr;rw [if_pos (Wid.fits h1.1 h2.1 (hF.fits ha))]
theorem arr_less {r r' : List Int × List Int × Int × Int} (hF' : Fine cl sh' bs') (hl : sh'.length = sh.length) (hb : bs'.length = bs.length) (ho : ∀ l n, costF sh (takenB bs (ordB bs)) (-1) (-1) l = some n → costF sh' (takenB bs' (ordB bs')) (-1) (-1) l = some n)
  (h : ArrIs cl sh bs r) (h' : ArrIs cl sh' bs' r') (hz : r.2.2.2 = 0) : r'.2.2.2 = 0 ∧ r'.2.2.1 ≤ r.2.2.1 := by
 rcases h with ⟨g, e⟩ | ⟨_, g, e⟩ | ⟨_, l, n, g, e⟩
 ·rw [e] at hz; exact absurd hz g
 ·rw [e] at hz; cases hz
 ·have ho1 := ho l n g.ok
  have hR := g.rise;rw [taken_ord_len, ← hb, ← hl] at hR
  rcases h' with ⟨g', e'⟩ | ⟨_, g', e'⟩ | ⟨_, l', n', g', e'⟩
  ·exact absurd (roomN_zero.2 hF') g'
  ·rw [g' l hR] at ho1; cases ho1
  ·rw [e', e];exact ⟨rfl, (g'.least l n (by rw [taken_ord_len]; exact hR) ho1).1⟩
theorem clear_less {s : Int} {r r' : List Int × Int × Int} (hF' : Fine cl sh' bs') (hr : Rises bs → Rises bs') (hl : sh'.length = sh.length) (hb : bs'.length = bs.length) (ho : ∀ l n, costF sh bs (-1) s l = some n → costF sh' bs' (-1) s l = some n)
  (h : ClearIs cl sh bs s r) (h' : ClearIs cl sh' bs' s r') (hz : r.2.2 = 0) : r'.2.2 = 0 ∧ r'.2.1 ≤ r.2.1 := by
 rcases h with ⟨g, e⟩ | ⟨_, g, e⟩ | ⟨gz, l, n, g, e⟩
 ·rw [e] at hz; exact absurd hz g
 ·rw [e] at hz; cases hz
 ·have ho1 := ho l n g.ok
  have hR := g.rise;rw [← hb, ← hl] at hR;obtain ⟨_, h2, h3⟩ := clrE_zero gz
  have hz' : clrE cl sh' bs' s = 0 := by
   unfold clrE;rw [if_pos (roomN_zero.2 hF'), if_pos (by unfold btw; rw [hl]; omega), if_pos (hr h3)]
  rcases h' with ⟨g', e'⟩ | ⟨_, g', e'⟩ | ⟨_, l', n', g', e'⟩
  ·exact absurd hz' g'
  ·rw [g' l hR] at ho1; cases ho1
  ·rw [e', e];exact ⟨rfl, (g'.least l n hR ho1).1⟩
theorem wider_set {k : Nat} {a b : qH} (ha : sh[k]? = some a) (hok : ∀ (j : Nat) (c : qH), sh[j]? = some c → c.wide ≤ 2000 ∧ c.high ≤ 2000) (e1 : b.away = a.away) (e2 : b.climb = a.climb) (h1 : a.wide ≤ b.wide ∧ b.wide ≤ 2000) (h2 : a.high ≤ b.high ∧ b.high ≤ 2000) : Wid sh (sh.set k b) := by
 refine ⟨by simp, fun j c hc => ?_⟩;rw [List.getElem?_set] at hc
 by_cases e : k = j
 ·subst e;rw [if_pos rfl] at hc;split at hc
  ·cases hc;exact ⟨a, ha, e1, e2, h1, h2⟩
  ·cases hc
 ·rw [if_neg e] at hc
  have := hok j c hc;exact ⟨c, hc, rfl, rfl, by omega, by omega⟩
open Classical in
theorem ShelfWider_true (cl : List Str) (sh : List qH) (bs : List qB) (w0 w1 : UInt8) (b0 b1 : UInt16) : P_law_ShelfWider cl sh bs w0 w1 b0 b1 = some true := by
 unfold P_law_ShelfWider;rw [law9_valid_eq, andx_some']
 by_cases hF : Fine cl sh bs
 ·rw [decide_eq_true hF, if_pos rfl]
  have hsh := hF.sh1
  have h10 := hF.bs1
  have hw0 := w0.toNat_lt
  have hw1 := w1.toNat_lt
  have hb0 := b0.toNat_lt
  have hb1 := b1.toNat_lt
  have hl0 : (([] : List qH).length + sh.length : Nat) = sh.length := by simp
  have hl1 : (([] : List qB).length + bs.length : Nat) = bs.length := by simp
  rw [hl0, hl1, List.nil_append, List.nil_append, chk_pos (by omega), chk_pos (by omega), chk_pos (by omega), Int.tmod_eq_emod_of_nonneg (by omega)]
  have hs1 := Int.emod_nonneg (w0.toNat : Int) (show (sh.length : Int) ≠ 0 by omega)
  have hs2 := Int.emod_lt_of_pos (w0.toNat : Int) (show (0 : Int) < sh.length by omega);generalize (w0.toNat : Int) % (sh.length : Int) = k at hs1 hs2 ⊢;obtain ⟨a, ha⟩ := get_some (l := sh) (k := k.toNat) (by omega)
  have hok : ∀ (j : Nat) (c : qH), sh[j]? = some c → (1 ≤ c.wide ∧ c.wide ≤ 2000) ∧ (1 ≤ c.high ∧ c.high ≤ 2000) := fun j c hc => by
   have := hF.shelf hc;unfold shOk btw at this;omega
  have haok := hok _ a ha;rw [el_int hs1 ha, chk_pos (by omega), chk_pos (i64_small (by omega)), chk_pos (by omega), chk_pos (i64_small (by omega)), el_int hs1 ha, chk_pos (by omega)]
  have hW : Wid sh (sh.set k.toNat (⟨a.away, a.climb, min 2000 (a.wide + (b0.toNat : Int)), min 2000 (a.high + (b1.toNat : Int))⟩ : qH)) :=
   wider_set ha (fun j c hc => by have := hok j c hc; omega) rfl rfl (by show _ ∧ min 2000 (a.wide + (b0.toNat : Int)) ≤ _; simp only; omega) (by show _ ∧ min 2000 (a.high + (b1.toNat : Int)) ≤ _; simp only; omega)
  generalize sh.set k.toNat (⟨a.away, a.climb, min 2000 (a.wide + (b0.toNat : Int)), min 2000 (a.high + (b1.toNat : Int))⟩ : qH) = sh' at hW ⊢
  have hself : ∀ c ∈ bs, Nar c c := fun c hc => by
   obtain ⟨j, hj⟩ := List.getElem?_of_mem hc
   have := (bkErr_zero (bk_all hF.bs2 hj)).1;unfold bkRange btw at this;exact ⟨rfl, rfl, rfl, rfl, rfl, by omega, by omega⟩
  refine Ok.get ?_;refine Ok.andx (P := fun bs' => NarL bs bs') ?_ ?_
  ·by_cases h0 : (bs.length : Int) > 0
   ·rw [if_pos h0, chk_pos (by omega), chk_pos (by omega), Int.tmod_eq_emod_of_nonneg (by omega)]
    have hj1 := Int.emod_nonneg (w1.toNat : Int) (show (bs.length : Int) ≠ 0 by omega)
    have hj2 := Int.emod_lt_of_pos (w1.toNat : Int) (show (0 : Int) < bs.length by omega);generalize (w1.toNat : Int) % (bs.length : Int) = j at hj1 hj2 ⊢;obtain ⟨c, hc⟩ := get_some (l := bs) (k := j.toNat) (by omega)
    have hcok := (bkErr_zero (bk_all hF.bs2 hc)).1;unfold bkRange btw at hcok;rw [el_int hj1 hc, chk_pos (by omega), chk_pos (i64_small (by omega)), chk_pos (by omega), chk_pos (i64_small (by omega)), el_int hj1 hc];refine .some (NarL.setA (show Nar c (⟨c.qK, c.qL, c.qJ, max 1 (c.wide - (b0.toNat : Int)), max 1 (c.high - (b1.toNat : Int)), c.heavy, c.shelf⟩ : qB) from ⟨rfl, rfl, rfl, rfl, rfl, ?_, ?_⟩) hself hc)
    ·show 1 ≤ max 1 (c.wide - (b0.toNat : Int)) ∧ max 1 (c.wide - (b0.toNat : Int)) ≤ _;omega
    ·show 1 ≤ max 1 (c.high - (b1.toNat : Int)) ∧ max 1 (c.high - (b1.toNat : Int)) ≤ _;omega
   ·rw [if_neg h0];exact .some (NarL.setA.self bs hself)
  ·intro bs' hNar
   have hF1 := hW.fine hF
   have hF2 := hNar.fine hF;obtain ⟨⟨o, zo, l, zl, m, e⟩, eA, hA⟩ := s9_Arrange_ok (cl := cl) (sh := sh) (bs := bs);obtain ⟨⟨o1, zo1, l1, zl1, m1, e1⟩, eA1, hA1⟩ := s9_Arrange_ok (cl := cl) (sh := sh') (bs := bs);obtain ⟨⟨o2, zo2, l2, zl2, m2, e2⟩, eA2, hA2⟩ := s9_Arrange_ok (cl := cl) (sh := sh) (bs := bs')
   have i1 := arr_less hF1 hW.len rfl (fun l n h => costF_wid hW h) hA hA1
   have i2 := arr_less hF2 rfl hNar.len (fun l n h => by rw [hNar.ordB]; exact costF_nar (hNar.taken _) h) hA hA2;simp only at i1 i2;rw [eA, andx_some'];dsimp only;rw [eA1, andx_some'];dsimp only;rw [eA2, andx_some'];dsimp only
   have hfst : (if e = 0 then if ¬ e1 = 0 then some true else if ¬ e2 = 0 then some true else if m1 > m then some true else some (decide (m2 > m)) else some false) = some false := by
    by_cases he : e = 0
    ·rw [if_pos he, if_neg (not_not_intro (i1 he).1), if_neg (not_not_intro (i2 he).1), if_neg (by have := (i1 he).2; omega), decide_eq_false (by have := (i2 he).2; omega)]
    ·rw [if_neg he]
   rw [hfst, andx_some', if_neg (by decide), seqx_nx, chk_pos (by omega), chk_pos (by omega)];generalize Int.tmod (w1.toNat : Int) (sh.length : Int) = s;obtain ⟨⟨p, zp, q, f⟩, eC, hC⟩ := s9_Clear_ok (cl := cl) (sh := sh) (bs := bs) (s := s);obtain ⟨⟨p1, zp1, q1, f1⟩, eC1, hC1⟩ := s9_Clear_ok (cl := cl) (sh := sh') (bs := bs) (s := s);obtain ⟨⟨p2, zp2, q2, f2⟩, eC2, hC2⟩ := s9_Clear_ok (cl := cl) (sh := sh) (bs := bs') (s := s)
   have j1 := clear_less hF1 (fun h => h) hW.len rfl (fun l n h => costF_wid hW h) hC hC1
   have j2 := clear_less hF2 hNar.rises rfl hNar.len (fun l n h => costF_nar hNar h) hC hC2;simp only at j1 j2;rw [eC, andx_some'];dsimp only;rw [eC1, andx_some'];dsimp only;rw [eC2, andx_some'];dsimp only
   by_cases hf : f = 0
   ·rw [if_neg (not_not_intro hf), if_pos (j1 hf).1, if_pos (j2 hf).1, if_pos (j1 hf).2, if_pos (j2 hf).2];exact .some rfl
   ·rw [if_pos hf];exact .some rfl
 ·rw [decide_eq_false hF, if_neg (by decide)]
end
end Go.Am
end
