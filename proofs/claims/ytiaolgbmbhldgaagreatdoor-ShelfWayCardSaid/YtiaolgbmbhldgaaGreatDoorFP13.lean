/- Part 13. -/
import Derived.Test.YtiaolgbmbhldgaaGreatDoorFP12
import Derived.Test.YtiaolgbmbhldgaaGreatDoorFP10
section
namespace Go.Am
set_option linter.unusedVariables false
set_option linter.unusedSimpArgs false
def wideOn (i : Int) : List qA → Int
 | [] => 0
 | b :: r => (if b.shelf = i then b.wide else 0) + wideOn i r
theorem wideOn_append (i : Int) (l r : List qA) : wideOn i (l ++ r) = wideOn i l + wideOn i r := by
 induction l with
 | nil => simp [wideOn]
 | cons b l ih => simp [wideOn, ih]; omega
def Wides (l : List qA) : Prop := ∀ b ∈ l, 1 ≤ b.wide ∧ b.wide ≤ 2000
theorem wideOn_nonneg {i : Int} {l : List qA} (h : Wides l) : 0 ≤ wideOn i l ∧ wideOn i l ≤ 2000 * l.length := by
 induction l with
 | nil => simp [wideOn]
 | cons b l ih =>
  have h1 := ih fun c hc => h c (by simp [hc])
  have h2 := h b (by simp);simp only [wideOn, List.length_cons];split <;> omega
theorem take_step {α : Type} {l : List α} {k : Nat} {a : α} (h : l[k]? = some a) : l.take (k + 1) = l.take k ++ [a] := by rw [List.take_add_one, h]; rfl
theorem wideOn_step {i : Int} {l : List qA} {k : Nat} {b : qA} (h : l[k]? = some b) : wideOn i (l.take (k + 1)) = wideOn i (l.take k) + (if b.shelf = i then b.wide else 0) := by
 rw [take_step h, wideOn_append];simp [wideOn]
theorem wideOn_le {i : Int} {l : List qA} (h : Wides l) (k : Nat) : wideOn i (l.take k) ≤ wideOn i l := by
 have e : wideOn i l = wideOn i (l.take k) + wideOn i (l.drop k) := by rw [← wideOn_append, List.take_append_drop]
 have := (wideOn_nonneg (i := i) (l := l.drop k) fun b hb => h b (List.mem_of_mem_drop hb)).1;omega
theorem wideOn_take {i : Int} {l : List qA} (h : Wides l) (k : Nat) : 0 ≤ wideOn i (l.take k) ∧ wideOn i (l.take k) ≤ 2000 * l.length := by
 have h1 := wideOn_nonneg (i := i) (l := l.take k) fun b hb => h b (List.mem_of_mem_take hb)
 have h2 := wideOn_le (i := i) h k
 have h3 := (wideOn_nonneg (i := i) h).2;omega
def lowOn (i : Int) (high : Int) (l : List qA) : Prop := ∀ b ∈ l, b.shelf = i → b.high ≤ high
def fits (bs : List qA) (i : Nat) (a : qH) : Prop := lowOn i a.high bs ∧ wideOn i bs ≤ a.wide
open Classical in
noncomputable def fitErr (bs : List qA) (i : Nat) (a : qH) : Int := if fits bs i a then 0 else 9
theorem lowOn_step {i high : Int} {l : List qA} {k : Nat} {b : qA} (h : l[k]? = some b) (h1 : lowOn i high (l.take k)) (h2 : b.shelf = i → b.high ≤ high) : lowOn i high (l.take (k + 1)) := by
 rw [take_step h];intro c hc hs
 rcases List.mem_append.1 hc with hc | hc
 ·exact h1 c hc hs
 ·rw [List.mem_singleton] at hc; subst hc; exact h2 hs
theorem r9_Own_eq {bs : List qA} (hl : bs.length ≤ 1000) : P_r9_Own bs = some (bs.map (·.shelf)) := by
 refine Ok.get ?_;unfold P_r9_Own;refine Ok.andx (P := fun r => r = bs.map (·.shelf)) ?_ (fun r hr => .some hr);refine Ok.count (fun (x : Int × List Int) => x.1) bs.length (fun k x => x.2 = (bs.take k).map (·.shelf)) rfl rfl ?_ ?_
 ·rintro k ⟨i, out⟩ hk hx hI;simp only at hx hI;subst hx;unfold P_r9_Own_L1;obtain ⟨b, hb⟩ := get_some hk
  show Ok (if _ then _ else _) _;rw [if_pos (by omega), el_at hb];refine .chk ?_ (.chk (i64_small (by omega)) (.some ⟨rfl, ?_⟩))
  ·rw [hI, List.length_map, List.length_take]; simp; omega
  ·show out ++ [b.shelf] = _;rw [take_step hb, List.map_append, hI]; rfl
 ·rintro ⟨i, out⟩ hx hI;simp only at hx hI;subst hx;unfold P_r9_Own_L1
  show Ok (if _ then _ else _) _;rw [if_neg (by omega)];refine .some ?_
  show out = _;rw [hI, List.take_length]
open Classical in
theorem r9_fit_eq {cl : List Str} {sh : List qH} {bs : List qA} {i : Nat} {a : qH} (ha : sh[i]? = some a) (hw : 0 ≤ a.wide) (hb : Wides bs) (hl : bs.length ≤ 1000) :
  P_r9_fit cl sh bs bs (bs.map (·.shelf)) (i : Int) = some (decide (fits bs i a)) := by
 refine Ok.get ?_;unfold P_r9_fit;rw [el_at ha];refine Ok.andx (P := fun y => (0 ≤ y ∧ lowOn i a.high bs ∧ y = wideOn i bs) ∨ (y < 0 ∧ ¬ lowOn i a.high bs)) ?_ ?_
 ·unfold P_r9_Filled;refine Ok.seqx ?_;refine Ok.count (fun (x : Int × Int) => x.2) bs.length (fun k x => x.1 = wideOn i (bs.take k) ∧ lowOn i a.high (bs.take k)) rfl ⟨rfl, fun b hb => by simp at hb⟩ ?_ ?_
  ·rintro k ⟨n, j⟩ hk hx ⟨h1, h2⟩;simp only at hx h1 h2;subst hx;obtain ⟨b, hbk⟩ := get_some hk
   have hm : (bs.map (·.shelf))[k]? = some b.shelf := by rw [List.getElem?_map, hbk]; rfl
   unfold P_r9_Filled_L1
   show Ok (if _ then _ else _) _
   have hk1 := wideOn_take (i := i) hb k
   have hk2 := wideOn_take (i := i) hb (k + 1)
   have hst := wideOn_step (i := i) hbk;rw [if_pos (by omega)];refine Ok.seqx ?_;rw [el_at hm]
   by_cases hs : b.shelf = i
   ·rw [if_pos hs] at hst;rw [if_neg (not_not_intro hs), el_at hbk, el_at ha, el_at hbk]
    by_cases hh : b.high > a.high
    ·rw [if_pos hh];refine .some ?_
     show _ ∨ _;refine .inr ⟨by omega, fun h => ?_⟩
     have := h b (List.mem_of_getElem? hbk) hs;omega
    ·rw [if_neg hh];refine .chk (i64_small (by omega)) (.some (.chk (i64_small (by omega)) (.some ⟨rfl, ?_, lowOn_step hbk h2 fun _ => by omega⟩)))
     show n + b.wide = _;omega
   ·rw [if_neg hs] at hst;rw [if_pos hs];refine .some (.chk (i64_small (by omega)) (.some ⟨rfl, ?_, lowOn_step hbk h2 fun h => absurd h hs⟩))
    show n = _;omega
  ·rintro ⟨n, j⟩ hx ⟨h1, h2⟩;simp only at hx h1 h2;subst hx;unfold P_r9_Filled_L1
   show Ok (if _ then _ else _) _;rw [if_neg (by omega)];rw [List.take_length] at h1 h2;refine .some (.some (.inl ⟨?_, h2, h1⟩));rw [h1];exact (wideOn_nonneg hb).1
 ·rintro y hy;rw [r9_in_eq, andx_some'];refine .some ?_;refine decide_eq_decide.2 ?_
  rcases hy with ⟨h0, h1, h2⟩ | ⟨h1, h2⟩
  ·subst h2;exact ⟨fun h => ⟨h1, h.2⟩, fun h => ⟨h0, h.2⟩⟩
  ·exact ⟨fun h => by omega, fun h => absurd h.1 h2⟩
open Classical in
theorem s9_L6_eq {sh : List qH} {bs : List qA} {i : Nat} {a : qH} (hw : 0 ≤ a.wide ∧ a.wide ≤ 2000) (hb : Wides bs) (hl : bs.length ≤ 1000) :
  (seqx (iter (P_s9_Check_L6 bs (i : Int) a) (0, a.wide)) fun s_Wide => some 0) = some (fitErr bs i a) := by
 refine Ok.get ?_;refine Ok.seqx ?_;refine Ok.count (fun (x : Int × Int) => x.1) bs.length (fun k x => x.2 = a.wide - wideOn i (bs.take k) ∧ 0 ≤ x.2 ∧ lowOn i a.high (bs.take k)) rfl ⟨?_, hw.1, fun b hb => by simp at hb⟩ ?_ ?_
 ·show a.wide = a.wide - 0; omega
 ·rintro k ⟨j, n⟩ hk hx ⟨h1, h0, h2⟩;simp only at hx h1 h2 h0;subst hx;obtain ⟨b, hbk⟩ := get_some hk;unfold P_s9_Check_L6
  show Ok (if _ then _ else _) _
  have hk1 := wideOn_take (i := i) hb k
  have hk2 := wideOn_take (i := i) hb (k + 1)
  have hle := wideOn_le (i := i) hb (k + 1)
  have hst := wideOn_step (i := i) hbk
  have hbw := hb b (List.mem_of_getElem? hbk);rw [if_pos (by omega)];refine Ok.seqx ?_;rw [el_at hbk]
  by_cases hs : b.shelf = i
  ·rw [if_pos hs] at hst;rw [if_neg (not_not_intro hs), chk_pos (i64_small (by omega))]
   by_cases hn : n - b.wide < 0
   ·rw [if_pos hn, andx_some', if_pos rfl];refine .some ?_
    show 9 = fitErr bs i a;unfold fitErr;rw [if_neg fun h => ?_]
    have := h.2;omega
   ·rw [if_neg hn, andx_some']
    by_cases hh : b.high > a.high
    ·rw [decide_eq_true hh, if_pos rfl];refine .some ?_
     show 9 = fitErr bs i a;unfold fitErr;rw [if_neg fun h => ?_]
     have := h.1 b (List.mem_of_getElem? hbk) hs;omega
    ·rw [decide_eq_false hh, if_neg (by decide)];refine .some (.chk (i64_small (by omega)) (.some ⟨rfl, ?_, ?_, lowOn_step hbk h2 fun _ => by omega⟩))
     ·show n - b.wide = _; omega
     ·show 0 ≤ n - b.wide; omega
  ·rw [if_neg hs] at hst;rw [if_pos hs];refine .some (.chk (i64_small (by omega)) (.some ⟨rfl, ?_, h0, lowOn_step hbk h2 fun h => absurd h hs⟩))
   show n = _;omega
 ·rintro ⟨j, n⟩ hx ⟨h1, h0, h2⟩;simp only at hx h1 h2 h0;subst hx;unfold P_s9_Check_L6
  show Ok (if _ then _ else _) _;rw [if_neg (by omega)];rw [List.take_length] at h1 h2;refine .some (.some ?_)
  show 0 = fitErr bs i a;unfold fitErr;rw [if_pos ⟨h2, by omega⟩]
def ShOk (sh : List qH) : Prop := ∀ (j : Nat) (a : qH), sh[j]? = some a → 0 ≤ a.wide ∧ a.wide ≤ 2000
open Classical in
theorem r9_L4_eq {cl : List Str} {sh : List qH} {bs : List qA} (hs : sh.length ≤ 1000) (hsh : ShOk sh) (hb : Wides bs) (hl : bs.length ≤ 1000) :
  iter (P_r9_Check_L4 cl sh bs) 0 = some (scanX (errG 4 (errAt sh (fitErr bs))) sh.length) := by
 refine iter_scanI _ _ (fun k hk _ => ?_) (fun _ => ?_)
 ·unfold P_r9_Check_L4;obtain ⟨a, ha⟩ := get_some hk
  have hw := hsh k a ha;rw [if_pos (by omega), r9_Own_eq hl, andx_some', r9_fit_eq ha hw.1 hb hl, andx_some', chk_pos (i64_small (by omega))];unfold errG;rw [errAt_of ha];unfold fitErr
  by_cases h : fits bs k a
  ·rw [decide_eq_true h, if_pos h]; rfl
  ·rw [decide_eq_false h, if_neg h]; rfl
 ·unfold P_r9_Check_L4;rw [if_neg (by omega)]
theorem s9_L5_eq {sh : List qH} {bs : List qA} (hs : sh.length ≤ 1000) (hsh : ShOk sh) (hb : Wides bs) (hl : bs.length ≤ 1000) :
  iter (P_s9_Check_L5 sh bs) 0 = some (scanX (errF (errAt sh (fitErr bs))) sh.length) := by
 refine iter_scanI _ _ (fun k hk _ => ?_) (fun _ => ?_)
 ·unfold P_s9_Check_L5;obtain ⟨a, ha⟩ := get_some hk
  have hw := hsh k a ha;rw [if_pos (by omega), el_at ha, s9_L6_eq (sh := sh) hw hb hl, andx_some', body_err (by omega)];unfold errF;rw [errAt_of ha]
 ·unfold P_s9_Check_L5;rw [if_neg (by omega)]
noncomputable def roomE (cl : List Str) (sh : List qH) (bs : List qA) : Option (Int × Int × Int) :=
 if 1 ≤ cl.length ∧ cl.length ≤ 6 then
  match firstE (errAt cl (clErr cl)) cl.length with
  | some p => some (1, p.1, p.2)
  | none =>
   if 1 ≤ sh.length ∧ sh.length ≤ 4 then
    match firstE (errAt sh fun _ => shErr) sh.length with
    | some p => some (2, p.1, p.2)
    | none =>
     if bs.length ≤ 10 then
      match firstE (errAt bs (bkErr cl.length sh.length bs)) bs.length with
      | some p => some (3, p.1, p.2)
      | none =>
       match firstE (errAt sh (fitErr bs)) sh.length with
       | some p => some (4, p.1, p.2)
       | none => some (0, 0, 0)
     else some (3, 0, 3)
   else some (2, 0, 3)
 else some (1, 0, 3)
theorem shErr_zero {a : qH} (h : shErr a = 0) : shOk a := by
 unfold shErr at h;split at h
 ·assumption
 ·cases h
theorem bkErr_zero {ncl nsh : Nat} {bs : List qA} {i : Nat} {b : qA} (h : bkErr ncl nsh bs i b = 0) : bkRange b.wide b.high b.heavy ∧ btw 0 ((nsh : Int) - 1) b.shelf ∧ ¬ below bs i b ∧ ¬ twice (bs.take i) b.qR b.qS b.qT ∧ mkErr ncl b.qR b.qS b.qT = 0 := by
 unfold bkErr at h;split at h
 ·rename_i h0
  split at h
  ·rename_i h1
   split at h
   ·cases h
   ·rename_i h2
    unfold bkE0 bkErr1 at h0;split at h0
    ·rename_i h3
     split at h0
     ·rename_i h4
      split at h0
      ·cases h0
      ·rename_i h5
       exact ⟨h4, h1, h2, h5, h3⟩
     ·cases h0
    ·rename_i h3; exact absurd h0 h3
  ·cases h
 ·rename_i h0; exact absurd h h0
theorem shOk_all {sh : List qH} (h : ∀ j, j < sh.length → errAt sh (fun _ => shErr) j = 0) {j : Nat} {a : qH} (ha : sh[j]? = some a) : shOk a := by
 have := h j (List.getElem?_eq_some_iff.1 ha).1;rw [errAt_of ha] at this;exact shErr_zero this
theorem bk_all {ncl nsh : Nat} {bs : List qA} (h : ∀ j, j < bs.length → errAt bs (bkErr ncl nsh bs) j = 0) {j : Nat} {b : qA} (hb : bs[j]? = some b) : bkErr ncl nsh bs j b = 0 := by
 have := h j (List.getElem?_eq_some_iff.1 hb).1
 rwa [errAt_of hb] at this
theorem wides_all {ncl nsh : Nat} {bs : List qA} (h : ∀ j, j < bs.length → errAt bs (bkErr ncl nsh bs) j = 0) : Wides bs := fun b hb => by
 obtain ⟨j, hj⟩ := List.getElem?_of_mem hb;exact (bkErr_zero (bk_all h hj)).1.1
open Classical in
theorem r9_Check_eq (cl : List Str) (sh : List qH) (bs : List qA) : P_r9_Check cl sh bs = roomE cl sh bs := by
 unfold P_r9_Check roomE;rw [r9_in_eq, andx_some']
 by_cases h1 : 1 ≤ cl.length ∧ cl.length ≤ 6
 ·rw [if_pos h1, decide_eq_true (by omega), if_pos rfl, r9_L1_eq (by omega), loopR]
  rcases firstE_cases (errAt cl (clErr cl)) cl.length with ⟨e, _, _⟩ | ⟨_, _, _, e, _⟩
  rotate_left
  ·rw [e]
  rw [e]
  show andx _ _ = _;rw [r9_in_eq, andx_some']
  by_cases h2 : 1 ≤ sh.length ∧ sh.length ≤ 4
  ·rw [if_pos h2, decide_eq_true (by omega), if_pos rfl, r9_L2_eq (by omega), loopR]
   rcases firstE_cases (errAt sh fun _ => shErr) sh.length with ⟨e, _, hsh⟩ | ⟨_, _, _, e, _⟩
   rotate_left
   ·rw [e]
   rw [e]
   show (if _ then _ else _) = _
   by_cases h3 : bs.length ≤ 10
   ·rw [if_neg (by omega), r9_L3_eq (by omega) (by omega) (by omega), loopR]
    show _ = if _ then _ else _;rw [if_pos h3]
    rcases firstE_cases (errAt bs (bkErr cl.length sh.length bs)) bs.length with ⟨e, _, hbs⟩ | ⟨_, _, _, e, _⟩
    rotate_left
    ·rw [e]
    rw [e]
    show seqx _ _ = _;rw [r9_L4_eq (by omega) (fun j a ha => by have := (shOk_all hsh ha).2.1; unfold btw at this; omega) (wides_all hbs) (by omega), loopR] <;> rfl
   ·rw [if_pos (by omega)]
    show _ = if _ then _ else _;rw [if_neg h3]
  ·rw [if_neg h2, decide_eq_false (by omega), if_neg (by decide)]
 ·rw [if_neg h1, decide_eq_false (by omega), if_neg (by decide)]
open Classical in
theorem s9_Check_eq (cl : List Str) (sh : List qH) (bs : List qA) : P_s9_Check cl sh bs = roomE cl sh bs := by
 unfold P_s9_Check roomE;rw [s9_out1, andx_some']
 by_cases h1 : 1 ≤ cl.length ∧ cl.length ≤ 6
 ·rw [if_pos h1, decide_eq_false (not_not_intro (show btw 1 6 (cl.length : Int) from ⟨by omega, by omega⟩)), if_neg (by decide), s9_L1_eq (by omega), loopS (c := 1) (fun _ => rfl)]
  rcases firstE_cases (errAt cl (clErr cl)) cl.length with ⟨e, _, _⟩ | ⟨_, _, _, e, _⟩
  rotate_left
  ·rw [e]
  rw [e]
  show andx _ _ = _;rw [s9_out1, andx_some']
  by_cases h2 : 1 ≤ sh.length ∧ sh.length ≤ 4
  ·rw [if_pos h2, decide_eq_false (not_not_intro (show btw 1 4 (sh.length : Int) from ⟨by omega, by omega⟩)), if_neg (by decide), s9_L3_eq (by omega), loopS (c := 2) (fun _ => rfl)]
   rcases firstE_cases (errAt sh fun _ => shErr) sh.length with ⟨e, _, hsh⟩ | ⟨_, _, _, e, _⟩
   rotate_left
   ·rw [e]
   rw [e]
   show (if _ then _ else _) = _
   by_cases h3 : bs.length ≤ 10
   ·rw [if_neg (by omega), s9_L4_eq (by omega) (by omega) (by omega), loopS (c := 3) (fun _ => rfl)]
    show _ = if _ then _ else _;rw [if_pos h3]
    rcases firstE_cases (errAt bs (bkErr cl.length sh.length bs)) bs.length with ⟨e, _, hbs⟩ | ⟨_, _, _, e, _⟩
    rotate_left
    ·rw [e]
    rw [e]
    show andx _ _ = _;rw [s9_L5_eq (by omega) (fun j a ha => by have := (shOk_all hsh ha).2.1; unfold btw at this; omega) (wides_all hbs) (by omega), loopS (c := 4) (fun _ => rfl)] <;> rfl
   ·rw [if_pos (by omega)]
    show _ = if _ then _ else _;rw [if_neg h3]
  ·rw [if_neg h2, decide_eq_true (show ¬ btw 1 4 (sh.length : Int) from fun h => h2 (by unfold btw at h; omega)), if_pos rfl]
 ·rw [if_neg h1, decide_eq_true (show ¬ btw 1 6 (cl.length : Int) from fun h => h1 (by unfold btw at h; omega)), if_pos rfl]
end Go.Am
end
section
namespace Go.Am
set_option linter.unusedVariables false
set_option linter.unusedSimpArgs false
structure Fine (cl : List Str) (sh : List qH) (bs : List qA) : Prop where
 cl1 : 1 ≤ cl.length ∧ cl.length ≤ 6
 cl2 : ∀ j, j < cl.length → errAt cl (clErr cl) j = 0
 sh1 : 1 ≤ sh.length ∧ sh.length ≤ 4
 sh2 : ∀ j, j < sh.length → errAt sh (fun _ => shErr) j = 0
 bs1 : bs.length ≤ 10
 bs2 : ∀ j, j < bs.length → errAt bs (bkErr cl.length sh.length bs) j = 0
 fit : ∀ j, j < sh.length → errAt sh (fitErr bs) j = 0
theorem roomE_ok (cl : List Str) (sh : List qH) (bs : List qA) : ∃ c i e, roomE cl sh bs = some (c, i, e) ∧ (e = 0 ↔ Fine cl sh bs) := by
 unfold roomE
 by_cases h1 : 1 ≤ cl.length ∧ cl.length ≤ 6
 ·rw [if_pos h1]
  rcases firstE_cases (errAt cl (clErr cl)) cl.length with ⟨e, _, h2⟩ | ⟨k, hk, hne, e, _⟩
  rotate_left
  ·rw [e];exact ⟨_, _, _, rfl, fun h => absurd h hne, fun h => absurd (h.cl2 k hk) hne⟩
  rw [e];dsimp only
  by_cases h3 : 1 ≤ sh.length ∧ sh.length ≤ 4
  ·rw [if_pos h3]
   rcases firstE_cases (errAt sh fun _ => shErr) sh.length with ⟨e, _, h4⟩ | ⟨k, hk, hne, e, _⟩
   rotate_left
   ·rw [e];exact ⟨_, _, _, rfl, fun h => absurd h hne, fun h => absurd (h.sh2 k hk) hne⟩
   rw [e];dsimp only
   by_cases h5 : bs.length ≤ 10
   ·rw [if_pos h5]
    rcases firstE_cases (errAt bs (bkErr cl.length sh.length bs)) bs.length with ⟨e, _, h6⟩ | ⟨k, hk, hne, e, _⟩
    rotate_left
    ·rw [e];exact ⟨_, _, _, rfl, fun h => absurd h hne, fun h => absurd (h.bs2 k hk) hne⟩
    rw [e]
    rcases firstE_cases (errAt sh (fitErr bs)) sh.length with ⟨e, _, h7⟩ | ⟨k, hk, hne, e, _⟩
    rotate_left
    ·rw [e];exact ⟨_, _, _, rfl, fun h => absurd h hne, fun h => absurd (h.fit k hk) hne⟩
    rw [e];exact ⟨_, _, _, rfl, fun _ => ⟨h1, h2, h3, h4, h5, h6, h7⟩, fun _ => rfl⟩
   ·rw [if_neg h5];exact ⟨_, _, _, rfl, fun h => absurd h (by decide), fun h => absurd h.bs1 h5⟩
  ·rw [if_neg h3];exact ⟨_, _, _, rfl, fun h => absurd h (by decide), fun h => absurd h.sh1 h3⟩
 ·rw [if_neg h1];exact ⟨_, _, _, rfl, fun h => absurd h (by decide), fun h => absurd h.cl1 h1⟩
section
variable {cl : List Str} {sh : List qH} {bs : List qA}
theorem Fine.shelf (h : Fine cl sh bs) {j : Nat} {a : qH} (ha : sh[j]? = some a) : shOk a := shOk_all h.sh2 ha
theorem Fine.book (h : Fine cl sh bs) {j : Nat} {b : qA} (hb : bs[j]? = some b) : 0 ≤ b.shelf ∧ b.shelf < sh.length := by
 have := (bkErr_zero (bk_all h.bs2 hb)).2.1;unfold btw at this; omega
theorem Fine.fits (h : Fine cl sh bs) {j : Nat} {a : qH} (ha : sh[j]? = some a) : fits bs j a := by
 have := h.fit j (List.getElem?_eq_some_iff.1 ha).1;rw [errAt_of ha] at this;unfold fitErr at this;split at this
 ·assumption
 ·cases this
open Classical in
theorem law9_valid_eq : P_law9_valid cl sh bs = some (decide (Fine cl sh bs)) := by
 obtain ⟨c, i, e, he, hf⟩ := roomE_ok cl sh bs;unfold P_law9_valid;rw [r9_Check_eq, he]
 show some _ = some _
 congr 1
 exact decide_eq_decide.2 hf
end
end Go.Am
end
section
namespace Go.Am
set_option linter.unusedVariables false
set_option linter.unusedSimpArgs false
def fst4 (a b c d : Int) : Int := if ¬ a = 0 then a else if ¬ b = 0 then b else if ¬ c = 0 then c else d
def cmpM (c n : Int) (s : Str) (c' n' : Int) (s' : Str) : Int := fst4 (c - c') (n - n') ((s.length : Int) - s'.length) (cmpS s s')
noncomputable def roomN (cl : List Str) (sh : List qH) (bs : List qA) : Int := match roomE cl sh bs with | some (_, _, e) => e | none => 0
section
variable {cl : List Str} {sh : List qH} {bs : List qA}
theorem roomN_zero : roomN cl sh bs = 0 ↔ Fine cl sh bs := by
 obtain ⟨c, i, e, he, hf⟩ := roomE_ok cl sh bs;unfold roomN;rw [he]; exact hf
theorem s9_open_eq : P_s9_open cl sh bs = some (roomN cl sh bs) := by
 obtain ⟨c, i, e, he, hf⟩ := roomE_ok cl sh bs;unfold P_s9_open roomN;rw [s9_Check_eq, he]; rfl
noncomputable def two (cl : List Str) (sh : List qH) (bs : List qA) (c n : Int) (s : Str) (c' n' : Int) (s' : Str) : Int :=
 if roomN cl sh bs = 0 then (if mkErr cl.length c n s = 0 then mkErr cl.length c' n' s' else mkErr cl.length c n s) else roomN cl sh bs
end
end Go.Am
end
section
namespace Go.Am
set_option linter.unusedVariables false
set_option linter.unusedSimpArgs false
def lexB : List Int → List Int → Bool
 | [], [] => false
 | [], _ :: _ => true
 | _ :: _, [] => false
 | a :: l, b :: m => if a = b then lexB l m else decide (a < b)
theorem lexB_nil {l : List Int} : lexB [] l = decide (0 < l.length) := by cases l <;> simp [lexB]
theorem lexB_nil' {l : List Int} : lexB l [] = false := by cases l <;> rfl
theorem w1_Before_eq {a b : List Int} (ha : a.length ≤ 1000) : P_w1_Before a b = some (lexB a b) := by
 refine Ok.get ?_;unfold P_w1_Before;refine Ok.seqx ?_;refine Ok.count id (Nat.min a.length b.length) (fun k _ => lexB (a.drop k) (b.drop k) = lexB a b) rfl rfl ?_ ?_
 ·rintro k x hk hx hI;simp only [id] at hx;subst hx
  have h1 : k < a.length := Nat.lt_of_lt_of_le hk (Nat.min_le_left _ _)
  have h2 : k < b.length := Nat.lt_of_lt_of_le hk (Nat.min_le_right _ _);obtain ⟨x, hx⟩ := get_some h1;obtain ⟨y, hy⟩ := get_some h2
  have ea : a.drop k = x :: a.drop (k + 1) := by rw [← List.getElem_cons_drop h1]; congr 1; exact Option.some.inj ((List.getElem?_eq_getElem h1).symm.trans hx)
  have eb : b.drop k = y :: b.drop (k + 1) := by rw [← List.getElem_cons_drop h2]; congr 1; exact Option.some.inj ((List.getElem?_eq_getElem h2).symm.trans hy)
  rw [ea, eb] at hI;unfold P_w1_Before_L1;refine Ok.seqx ?_;rw [if_pos (by omega), decide_eq_true (by omega), andx_some', if_pos rfl];refine .some ?_
  show Ok (el a (k : Int) _) _;rw [el_at hx, el_at hy]
  by_cases e : x = y
  ·rw [if_neg (not_not_intro e)];refine .chk (i64_small (by omega)) (.some ⟨rfl, ?_⟩);rw [← hI, lexB, if_pos e]
  ·rw [if_pos e, el_at hx, el_at hy];refine .some ?_
   show decide (x < y) = _;rw [← hI, lexB, if_neg e]
 ·rintro x hx hI;simp only [id] at hx;unfold P_w1_Before_L1;refine Ok.seqx ?_
  by_cases h1 : x < (a.length : Int)
  ·have h2 : ¬ x < (b.length : Int) := by
    have : Nat.min a.length b.length = if a.length ≤ b.length then a.length else b.length := Nat.min_def;split at this <;> omega
   rw [if_pos h1, decide_eq_false h2, andx_some', if_neg (by decide)];refine .some (.some ?_)
   have hm : Nat.min a.length b.length = b.length := by
    have : Nat.min a.length b.length = if a.length ≤ b.length then a.length else b.length := Nat.min_def;split at this <;> omega
   rw [hm] at hI hx;rw [List.drop_of_length_le (Nat.le_refl b.length), lexB_nil'] at hI;rw [← hI];exact decide_eq_false (by omega)
  ·rw [if_neg h1, andx_some', if_neg (by decide)];refine .some (.some ?_)
   have hm : Nat.min a.length b.length = a.length := by
    have : Nat.min a.length b.length = if a.length ≤ b.length then a.length else b.length := Nat.min_def;split at this <;> omega
   rw [hm] at hI hx;rw [List.drop_of_length_le (Nat.le_refl a.length), lexB_nil, List.length_drop] at hI;rw [← hI];exact decide_eq_decide.2 (by omega)
section
variable {cl : List Str} {sh : List qH} {bs : List qA}
end
def mLess (a b : qA) : Prop := cmpM a.qR a.qS a.qT b.qR b.qS b.qT < 0
def Rises (l : List qA) : Prop := ∀ (k : Nat) (a b : qA), l[k]? = some a → l[k + 1]? = some b → mLess a b
end Go.Am
end
section
namespace Go.Am
set_option linter.unusedVariables false
set_option linter.unusedSimpArgs false
instance (a b : qA) : Decidable (mLess a b) := inferInstanceAs (Decidable (_ < (0 : Int)))
def place : List qA → qA → Nat
 | [], _ => 0
 | a :: r, b => if mLess a b then place r b + 1 else 0
def MarksOk (ncl : Nat) (l : List qA) : Prop := ∀ b ∈ l, mkErr ncl b.qR b.qS b.qT = 0
section
variable {cl : List Str} {sh : List qH} {bs : List qA}
theorem Fine.marks (h : Fine cl sh bs) : MarksOk cl.length bs := fun b hb => by
 obtain ⟨j, hj⟩ := List.getElem?_of_mem hb;exact (bkErr_zero (bk_all h.bs2 hj)).2.2.2.2
end
end Go.Am
end
section
namespace Go.Am
set_option linter.unusedVariables false
set_option linter.unusedSimpArgs false
def withS (books : List qA) (ls : List Int) : List qA := List.zipWith (fun b s => { b with shelf := s }) books ls
section
variable {cl : List Str} {sh : List qH} {bs books : List qA} {ls : List Int} {i : Nat} {a : qH}
def upAt (ls : List Int) (k : Nat) : Prop := ∀ x y, ls[k]? = some x → ls[k + 1]? = some y → x ≤ y
def fitAt (sh : List qH) (l : List qA) (s : Nat) : Prop := ∀ a, sh[s]? = some a → fits l s a
def Arr (sh : List qH) (books : List qA) (ls : List Int) : Prop := (∀ k, upAt ls k) ∧ ∀ s, fitAt sh (withS books ls) s
def movedN : List qA → List Int → Nat → Int → Int
 | b :: r, s :: ls, i, but => (if ¬ (i : Int) = but ∧ ¬ s = b.shelf then 1 else 0) + movedN r ls (i + 1) but
 | _, _, _, _ => 0
theorem movedN_cons {b : qA} {r : List qA} {s : Int} {ls : List Int} {i : Nat} {but : Int} : movedN (b :: r) (s :: ls) i but = (if ¬ (i : Int) = but ∧ ¬ s = b.shelf then 1 else 0) + movedN r ls (i + 1) but := rfl
end
end Go.Am
end
section
namespace Go.Am
set_option linter.unusedVariables false
set_option linter.unusedSimpArgs false
abbrev Way := Int × List Int
def pick (z : Way) (f : Nat → Option Way) : Nat → Way
 | 0 => z
 | n + 1 => match f n with
  | some c => if c.1 < (pick z f n).1 then c else pick z f n
  | none => pick z f n
section
variable (sh : List qH) (mv : Int → Int → Int)
def capAt (a : qH) (n shelf : Nat) (left : Int) : Int := if n = shelf then left else a.wide
def canAt (b : qA) (i shelf : Nat) (left : Int) (n : Nat) (a : qH) : Prop := shelf ≤ n ∧ b.wide ≤ capAt a n shelf left ∧ b.high ≤ a.high ∧ mv i n ≠ 1000
instance (b : qA) (i shelf : Nat) (left : Int) (n : Nat) (a : qH) : Decidable (canAt mv b i shelf left n a) := inferInstanceAs (Decidable (_ ∧ _))
end
section
variable {sh : List qH} {mv : Int → Int → Int}
end
end Go.Am
end
section
namespace Go.Am
set_option linter.unusedVariables false
set_option linter.unusedSimpArgs false
section
variable {sh : List qH} {mv : Int → Int → Int}
end
end Go.Am
end
section
namespace Go.Am
set_option linter.unusedVariables false
set_option linter.unusedSimpArgs false
section
variable {sh : List qH} {mv : Int → Int → Int} {books : List qA} {a0 : qH}
end
end Go.Am
end
section
namespace Go.Am
open Go.RowKit
set_option linter.unusedVariables false
set_option linter.unusedSimpArgs false
section
variable {E : Env} {d : Bool} {n : Nat} {rnd : Option Nat} {ops : Array Oper} {i : Nat} {ns : List Nat} {ms : List Dfr} {σ : Sl} {hs hs' : List Thing} {Q : Sy → Prop} {t : Tmp} {op : Op} {ty : TypeId} {pos : String} {af : Array Edge} {g : Option (Nat × Bool)}
theorem Val.nil_eqS {xt ty' e : TypeId} {x y : Operand} {id off ver len cap : Nat} {ex : Bool} (ht : E.und xt = some (.slice e)) (hx : evs σ x = some (.slice id off ver ex len cap)) (hy : evs σ y = some nilS) : Val E σ hs (.binOp .eql xt x y ty') (bv false) := fun ev S he _ o ho => by
 unfold aop; rw [ho];simp only [he _ _ hx, he _ _ hy, abin, abinPure, toV, Except.bind, ht, nilEq];rfl
end
end Go.Am
end
section
namespace Go.Am
set_option linter.unusedVariables false
set_option linter.unusedSimpArgs false
end Go.Am
end
section
namespace Go.Am
open Go.RowKit
set_option linter.unusedVariables false
variable {E : Env}
def insertC (cf : Int → Int → Int) (a : Int) : List Int → List Int
 | [] => [a]
 | b :: r => if cf a b ≤ 0 then a :: b :: r else b :: insertC cf a r
def sortC (cf : Int → Int → Int) : List Int → List Int
 | [] => []
 | a :: r => insertC cf a (sortC cf r)
theorem insertC_perm (cf : Int → Int → Int) (a : Int) : ∀ l : List Int, (insertC cf a l).Perm (a :: l)
 | [] => .refl _
 | b :: r => by
  unfold insertC;split
  ·exact .refl _
  ·exact ((insertC_perm cf a r).cons b).trans (.swap a b r)
theorem sortC_perm (cf : Int → Int → Int) : ∀ l : List Int, (sortC cf l).Perm l
 | [] => .refl _
 | a :: r => (insertC_perm cf a _).trans ((sortC_perm cf r).cons a)
end Go.Am
end
section
namespace Go.Am
set_option linter.unusedVariables false
end Go.Am
end
section
namespace Go.Am.YtiaolgbmbhldgaaGreatDoor
open Go.Am Go.RowKit
set_option linter.unusedVariables false
set_option maxRecDepth 100000
structure Finds (hs C : List Thing) (pr pk pv pf pm idr idk idv idf idm : Nat) (vC vS vB : AV) (c : FuncId) (first caps : List AV) (m : List (K3 × AV)) : Prop where
 r : hs[pr]? = some (.row idr 3 [vC, vS, vB])
 k : hs[pk]? = some (.row idk 1 [.map idm])
 v : hs[pv]? = some (.row idv 1 [.func c first caps])
 f : hs[pf]? = some (.row idf 1 [.func 132 [] [.ptr idr 0 3, .ptr idk 0 1, .ptr idv 0 1, .ptr idf 0 1]])
 m : hs[pm]? = some (memT idm m)
 subp : ∀ x ∈ C, ∃ p, p ≠ pm ∧ hs[p]? = some x
theorem Finds.sub {hs C : List Thing} {pr pk pv pf pm idr idk idv idf idm : Nat} {vC vS vB : AV} {c : FuncId} {first caps : List AV} {m : List (K3 × AV)} (F : Finds hs C pr pk pv pf pm idr idk idv idf idm vC vS vB c first caps m) : ∀ x ∈ C, x ∈ hs := fun x hx => let ⟨_, _, h⟩ := F.subp x hx; List.mem_of_getElem? h
theorem Finds.set {hs C : List Thing} {pr pk pv pf pm idr idk idv idf idm : Nat} {vC vS vB : AV} {c : FuncId} {first caps : List AV} {m : List (K3 × AV)} (F : Finds hs C pr pk pv pf pm idr idk idv idf idm vC vS vB c first caps m) (m' : List (K3 × AV)) : Finds (hs.set pm (memT idm m')) C pr pk pv pf pm idr idk idv idf idm vC vS vB c first caps m' := by
 have go : ∀ {p : Nat} {id u : Nat} {cs : List AV}, hs[p]? = some (.row id u cs) → (hs.set pm (memT idm m'))[p]? = some (.row id u cs) := fun {p} {id u cs} h => by
  rw [List.getElem?_set_ne, h];intro e;rw [← e, F.m] at h;cases h
 refine ⟨go F.r, go F.k, go F.v, go F.f, ?_, fun x hx => ?_⟩
 ·rw [List.getElem?_set_self (List.getElem?_eq_some_iff.1 F.m).1]
 ·obtain ⟨p, h1, h2⟩ := F.subp x hx;exact ⟨p, h1, by rw [List.getElem?_set_ne (Ne.symm h1)]; exact h2⟩
theorem Finds.push {hs C : List Thing} {pr pk pv pf pm idr idk idv idf idm : Nat} {vC vS vB : AV} {c : FuncId} {first caps : List AV} {m : List (K3 × AV)} (F : Finds hs C pr pk pv pf pm idr idk idv idf idm vC vS vB c first caps m) (x : Thing) : Finds (x :: hs) C (pr + 1) (pk + 1) (pv + 1) (pf + 1) (pm + 1) idr idk idv idf idm vC vS vB c first caps m :=
 ⟨F.r, F.k, F.v, F.f, F.m, fun y hy => let ⟨p, h1, h2⟩ := F.subp y hy; ⟨p + 1, by omega, h2⟩⟩
end Go.Am.YtiaolgbmbhldgaaGreatDoor
end
section
namespace Go.Am.YtiaolgbmbhldgaaGreatDoor
open Go.Am Go.RowKit
set_option linter.unusedVariables false
set_option maxRecDepth 100000
end Go.Am.YtiaolgbmbhldgaaGreatDoor
end
section
namespace Go.Am.YtiaolgbmbhldgaaGreatDoor
open Go.Am Go.RowKit
set_option linter.unusedVariables false
set_option linter.unusedSimpArgs false
end Go.Am.YtiaolgbmbhldgaaGreatDoor
end
section
namespace Go.Am
set_option linter.unusedVariables false
end Go.Am
end
section
namespace Go.Am.YtiaolgbmbhldgaaGreatDoor
open Go.Am Go.RowKit
set_option linter.unusedVariables false
set_option linter.unusedSimpArgs false
end Go.Am.YtiaolgbmbhldgaaGreatDoor
end
section
namespace Go.Am
open Go.RowKit
set_option linter.unusedVariables false
set_option linter.unusedSimpArgs false
def PreOf (v0 : AV) (n k : Nat) (v : AV) : Prop := k ≤ n ∧ ((v0 = nilS ∧ n = 0 ∧ v = nilS) ∨ ∃ id ex, v0 = .slice id 0 n ex n n ∧ v = .slice id 0 n ex k n)
theorem PreOf.le {v0 v : AV} {n k : Nat} (h : PreOf v0 n k v) : k ≤ n := h.1
theorem PreOf.len {v0 v : AV} {n k : Nat} (h : PreOf v0 n k v) : lenOf? v = .ok k ∧ isSlice v = true := by
 rcases h with ⟨h, ⟨_, h2, rfl⟩ | ⟨id, ex, _, rfl⟩⟩
 ·have : k = 0 := by omega
  subst this;exact ⟨rfl, rfl⟩
 ·exact ⟨rfl, rfl⟩
theorem PreOf.cell {v0 v : AV} {n k : Nat} (h : PreOf v0 n k v) : cellsOf v = [v] ∧ oneCell v = true := by
 rcases h with ⟨_, ⟨_, _, rfl⟩ | ⟨id, ex, _, rfl⟩⟩ <;> exact ⟨rfl, rfl⟩
theorem PreOf.at {v0 v : AV} {l : List Int} {k : Nat} (h : PreOf v0 l.length k v) (hk : 0 < k) : ∃ id ex, IsAt v0 encI l id ∧ v = .slice id 0 (l.flatMap encI.f).length ex k l.length := by
 rcases h with ⟨h, ⟨_, h2, _⟩ | ⟨id, ex, h1, h2⟩⟩
 ·omega
 ·have e : (l.flatMap encI.f).length = l.length := by rw [flat_len]; simp [encI]
  exact ⟨id, ex, ⟨ex, by rw [e]; exact h1⟩, by rw [e]; exact h2⟩
section
variable {E : Env} {d : Bool} {n : Nat} {rnd : Option Nat} {ops : Array Oper} {i : Nat} {ns : List Nat} {ms : List Dfr} {σ : Sl} {hs hs' : List Thing} {Q : Sy → Prop} {t : Tmp} {op : Op} {ty : TypeId} {pos : String} {af : Array Edge} {g : Option (Nat × Bool)}
theorem Val.len_pre {st e : TypeId} {v0 v : AV} {m k : Nat} {x : Operand} (h : PreOf v0 m k v) (ht : E.und st = some (.slice e)) (hx : evs σ x = some v) :
  Val E σ hs (.call { callee := .builtin .len, args := #[x], argTypes := #[st] }) (iv k) := fun ev S he hS o ho => by
 obtain ⟨h1, h2⟩ := h.len;unfold aop; rw [ho];simp only [acall, abuiltin, alen, List.map_cons, List.map_nil, he _ _ hx, List.getElem?_toArray, List.getElem?_cons_zero, ht, ofOpt, Except.bind, h1, h2, cond_true];rfl
theorem zeros_int {E : Env} {et : TypeId} (hz : E.zro et = some (.int .i64 0)) (m : Nat) : zerosOf E et 1 m = .ok ((List.replicate m (0 : Int)).flatMap encI.f) := by
 have key : ∀ m : Nat, repeatL (zeroCells (.int .i64 0)) m = (List.replicate m (0 : Int)).flatMap encI.f := by
  intro m
  induction m with
  | zero => rfl
  | succ m ih => rw [repeatL, ih, List.replicate_succ, List.flatMap_cons]; rfl
 unfold zerosOf
 by_cases h0 : m = 0
 ·subst h0; rfl
 ·have e : Nat.beq (m * 1) 0 = false := beq_false.2 (by omega);rw [e];simp only [cond_false, hz, ofOpt, Except.bind]
  show (bif Nat.beq (zeroCells (.int .i64 0)).length 1 then _ else _) = _;rw [key];rfl
theorem Eff.makeRoom {st et : TypeId} {x y : Operand} {m b : Nat} (ht : SliceT E st et 1) (hb : E.byt et = some b) (hz : E.zro et = some (.int .i64 0)) (hx : evs σ x = some (iv 0)) (hy : evs σ y = some (iv m)) (hm : m ≤ 1000000000) (hbm : b ≤ 128) :
  Eff E σ hs (.makeSlice st x y) fun v hs' => ∃ v0, hs' = ownL false v0 encI (List.replicate m 0) :: hs ∧ PreOf v0 m 0 v := fun ev S he hS o ho => by
 have p62 : (2 : Int) ^ 62 = 4611686018427387904 := by decide
 have p48 : (2 : Int) ^ 48 = 281474976710656 := by decide
 have hbb : b * m ≤ 128 * 1000000000 := Nat.mul_le_mul hbm hm
 have b1 : decide ((0 : Int) ≤ 0) = true := rfl
 have b2 : decide ((0 : Int) ≤ (m : Int)) = true := decide_eq_true (by omega)
 have b3 : decide ((m : Int) < 2 ^ 62) = true := decide_eq_true (by omega)
 have b4 : decide ((b : Int) * (m : Int) ≤ 2 ^ 48) = true := decide_eq_true (by rw [p48]; omega)
 have hl : ((List.replicate m (0 : Int)).flatMap encI.f).length = m := by rw [flat_len]; simp [encI]
 have hl2 : (List.replicate m (0 : Int)).length = m := List.length_replicate;refine ⟨.slice S.next 0 m true 0 m, S.new (.row ((List.replicate m (0 : Int)).flatMap encI.f) 1 0), _, ?_, ?_, .slice S.next 0 m true m m, rfl, ⟨Nat.zero_le _, .inr ⟨S.next, true, rfl, rfl⟩⟩⟩
 ·unfold aop; rw [ho];simp only [he _ _ hx, he _ _ hy, amakeSlice, ht.1, ht.2, hb, ofOpt, Except.bind, b1, b2, b3, b4, Bool.and_self, cond_true, Int.toNat_natCast, zeros_int hz, newSliceA, newOf, hl];rfl
 ·refine hS.new _ (x := ownL false (.slice S.next 0 m true m m) encI (List.replicate m 0)) (.inr ⟨S.next, true, ?_, ?_, (fun h => by cases h), 0, Nat.zero_le _, ?_⟩) (fun i hi => by cases hi; rfl)
  ·rw [hl2, hl]
  ·rw [flat_len]
  ·rw [St.new_get, if_pos rfl]; rfl
theorem Val.iaddr_pre {l : List Int} {v0 v : AV} {id k : Nat} {st et : TypeId} {x y : Operand} {j : Int} (h : PreOf v0 l.length k v) (hat : IsAt v0 encI l id) (ht : SliceT E st et 1) (hx : evs σ x = some v) (hy : evs σ y = some (iv j)) (hj : 0 ≤ j ∧ j < k) :
  Val E σ hs (.indexAddr st x y) (.ptr id (j.toNat * 1) (l.flatMap encI.f).length) := by
 obtain ⟨id', ex, ⟨ex', h1⟩, h2⟩ := h.at (by omega);obtain ⟨ex2, h3⟩ := hat;rw [h1] at h3;cases h3
 have := Val.iaddr_slice (E := E) (hs := hs) ht (hx.trans (congrArg some h2)) hy hj
 rwa [Nat.zero_add] at this
theorem pre_at {l : List Int} {v0 v : AV} {k : Nat} (h : PreOf v0 l.length k v) (hk : 0 < k) : ∀ S, HasS S hs → ∃ id, IsAt v0 encI l id := fun S _ => by
 obtain ⟨id, ex, h1, _⟩ := h.at hk;exact ⟨id, h1⟩
theorem Val.slice_pre {l : List Int} {st et : TypeId} {v0 v : AV} {k p j : Nat} {z : Bool} {x y : Operand} {b : Int} (h : PreOf v0 l.length k v) (hp : hs[p]? = some (ownL z v0 encI l)) (ht : SliceT E st et 1) (hx : evs σ x = some v) (hy : evs σ y = some (iv b)) (hb : b = j) (hj : j ≤ k) :
    ∃ w, PreOf v0 l.length j w ∧ Val E σ hs (.slice st x none (some y) none) w := by
  subst hb
  have hle := h.1
  have b1 : decide ((0 : Int) ≤ (j : Int)) = true := decide_eq_true (by omega)
  have b2 : decide ((j : Int) ≤ (l.length : Int)) = true := decide_eq_true (by omega)
  rcases h with ⟨_, ⟨h0, h2, rfl⟩ | ⟨id, ex, h0, rfl⟩⟩
  · have hj0 : j = 0 := by omega
    subst hj0
    refine ⟨nilS, ⟨Nat.zero_le _, .inl ⟨h0, h2, rfl⟩⟩, fun ev S he hS o ho => ?_⟩
    have hbd := bounds_ok (m := 0) (lo := 0) (hi := 0) (olo := none) (ohi := some (iv 0)) (Nat.le_refl _) (Nat.le_refl _) (.inl ⟨rfl, rfl⟩) (.inr rfl)
    have hy' := he _ _ hy
    unfold aop; rw [ho]
    simp only [he _ _ hx, Option.map_some, Option.map_none, hy', nilS, aslice, ht.1, ht.2, ofOpt, Except.bind, isLitInt, Bool.false_and, cond_false, valOf]
    first
    | (simp only [show ((0 : Nat) : Int) = 0 from rfl, hbd]; rfl)
    | rfl
  · refine ⟨.slice id 0 l.length ex j l.length, ⟨by omega, .inr ⟨id, ex, h0, rfl⟩⟩, fun ev S he hS o ho => ?_⟩
    have hrow : ∃ fl, rowOf S id = .ok (l.flatMap encI.f, 1, fl) := by
      rcases hS.own hp with ⟨g0, g1, g2, g3⟩ | ⟨id', ex', g1, g2, g3, fl, g4, g5⟩
      · rw [h0] at g1; cases g1
      · rw [h0] at g1
        simp only [AV.slice.injEq] at g1
        obtain ⟨rfl, _⟩ := g1
        exact ⟨fl, by unfold rowOf; rw [g5]; rfl⟩
    obtain ⟨fl, er⟩ := hrow
    have hbd : boundsOf k l.length none (some (iv (j : Int))) none = .ok (0, j, l.length) := by
      unfold boundsOf boundOf
      simp only [Except.bind, intOf?, b1, b2, Bool.and_self, cond_true, Int.toNat_natCast]
    have c1 : (Nat.beq 1 1 && (!(Nat.beq l.length 0) || ex || Nat.beq 0 0)) = true := by cases Nat.beq l.length 0 <;> cases ex <;> rfl
    have c2 : (bif Nat.beq l.length 0 then 0 else 0 + 0 * 1) = 0 := by cases Nat.beq l.length 0 <;> rfl
    unfold aop; rw [ho]
    simp only [he _ _ hx, he _ _ hy, Option.map_some, Option.map_none, aslice, ht.1, ht.2, ofOpt, Except.bind, isLitInt, Bool.false_and, cond_false, hbd, valOf, er, c1, cond_true, c2, Nat.sub_zero]
    rfl
def pushL (a : List Int) (k : Nat) (x : Int) : List Int := if k < a.length then a.set k x else a ++ [x]
theorem pushL_take {a : List Int} {k : Nat} {x : Int} (h : k ≤ a.length) : (pushL a k x).take (k + 1) = a.take k ++ [x] := by
 unfold pushL
 by_cases h1 : k < a.length
 ·rw [if_pos h1, List.take_add_one, List.getElem?_set_self h1, List.take_set_of_le (Nat.le_refl _)];rfl
 ·have : k = a.length := by omega
  subst this;rw [if_neg h1, List.take_length, List.take_of_length_le (by simp)]
theorem Eff.push {st e b p q k : Nat} {z z2 : Bool} {v0 v w : AV} {a : List Int} {x : Int} {ts : Array TypeId} {ox oy : Operand} (h : PreOf v0 a.length k v) (ht : AppT E st e 1 b) (hts : ts[0]? = some st) (hni : notInt E ts[1]? = .ok ()) (hp : hs[p]? = some (ownL z v0 encI a)) (hq : hs[q]? = some (ownL z2 w encI [x]))
  (hx : evs σ ox = some v) (hy : evs σ oy = some w) (hb : b ≤ 128) (hbig : a.length < 100000) :
  Eff E σ hs (.call { callee := .builtin .append, args := #[ox, oy], argTypes := ts }) fun v' hs' => ∃ v0', hs' = hs.set p (ownL z v0' encI (pushL a k x)) ∧ PreOf v0' (pushL a k x).length (k + 1) v' := by
 have hle := h.1
 by_cases hk : k < a.length
 ·intro ev S he hS o ho;obtain ⟨id, ex', h1, h2⟩ : ∃ id ex, v0 = .slice id 0 (a.flatMap encI.f).length ex a.length a.length ∧ v = .slice id 0 (a.flatMap encI.f).length ex k a.length := by
   rcases h with ⟨_, ⟨_, g, _⟩ | ⟨id, ex, g1, g2⟩⟩
   ·omega
   ·have e : (a.flatMap encI.f).length = a.length := by rw [flat_len]; simp [encI]
    exact ⟨id, ex, by rw [e]; exact g1, by rw [e]; exact g2⟩
  have hfl : (a.flatMap encI.f).length = a.length := by rw [flat_len]; simp [encI]
  obtain ⟨s1, s2, s3, s4⟩ : Src S w 1 1 ([x].flatMap encI.f) := src_own hS hq (by rfl);obtain ⟨t1, t2, t3, ⟨zz, t4, t5⟩, t6, t7⟩ := ht
  have b1 : Nat.beq b 0 = false := beq_false.2 t7
  have b3 : Nat.beq ([x].flatMap encI.f).length (1 * 1) = true := rfl
  have b4 : Nat.beq (zeroCells zz).length 1 = true := by rw [t5]; rfl
  have hbb : (2 * (k + 1) + 1000) * b ≤ (2 * 100001 + 1000) * 128 := Nat.mul_le_mul (by omega) hb
  have b6 : Nat.blt ((2 * (k + 1) + 1000) * b) (2 ^ 48) = true := blt_true.2 (by omega)
  have b7 : Nat.ble (k + 1) a.length = true := Nat.ble_eq_true_of_le (by omega)
  rcases hS.own hp with ⟨g0, g1, g2, g3⟩ | ⟨id', ex2, g1, g2, g3, fl, g4, g5⟩
  ·rw [h1] at g1; cases g1
  rw [h1] at g1;simp only [AV.slice.injEq] at g1;obtain ⟨rfl, _, _, rfl, _⟩ := g1
  have er : rowOf S id = .ok (a.flatMap encI.f, 1, fl) := by unfold rowOf; rw [g5]; rfl
  have c1 : Nat.beq (a.flatMap encI.f).length (a.flatMap encI.f).length = true := Nat.beq_refl _
  have c2 : Nat.ble fl (a.flatMap encI.f).length = true := Nat.ble_eq_true_of_le g4
  have c3 : Nat.ble (0 + k * 1 + ([x].flatMap encI.f).length) (a.flatMap encI.f).length = true := Nat.ble_eq_true_of_le (by rw [hfl]; simp [encI]; omega)
  have hsp : spliceL (a.flatMap encI.f) (0 + k * 1) ([x].flatMap encI.f) = (a.set k x).flatMap encI.f := by
   have := flat_set (en := encI) (l := a) (k := k) x hk;rw [Nat.zero_add];exact this
  have hpush : pushL a k x = a.set k x := if_pos hk;refine ⟨.slice id 0 (a.flatMap encI.f).length ex' (k + 1) a.length, S.write id (.row ((a.set k x).flatMap encI.f) 1 (a.flatMap encI.f).length), _, ?_, ?_, v0, rfl, ?_⟩
  ·unfold aop; rw [ho];simp only [acall, abuiltin, List.map_cons, List.map_nil, he _ _ hx, he _ _ hy, h2, aappend, hts, t1, t2, t3, hni, s1, ofOpt, Except.bind, show Nat.beq 1 0 = false from rfl, cond_false, s2 (by decide), t4, b1, b3, b4, Bool.not_true, Bool.or_self, er, show Nat.beq 1 1 = true from rfl, b6, b7, cond_true, storeN, c1, c2, c3, s4, Bool.and_self, hsp]
  ·rw [hpush]
   have hfl2 : ((a.set k x).flatMap encI.f).length = a.length := by rw [flat_len, List.length_set]; simp [encI]
   exact hS.writeAt hp (by rw [h1]; rfl) (by rw [h1]; rfl) (.inr ⟨id, ex', by rw [h1, hfl, hfl2, List.length_set], by rw [hfl2, List.length_set]; simp [encI], fun hz => by rw [List.length_set]; exact g3 hz, (a.flatMap encI.f).length, by rw [hfl, hfl2]; exact Nat.le_refl _, by rw [write_get, if_pos rfl]; rfl⟩)
  ·rw [hpush, List.length_set];exact ⟨by omega, .inr ⟨id, ex', by rw [h1, hfl], by rw [hfl]⟩⟩
 ·have hk' : k = a.length := by omega
  subst hk'
  have hv : v = v0 := by
   rcases h with ⟨_, ⟨g1, _, g2⟩ | ⟨id, ex, g1, g2⟩⟩
   ·rw [g1, g2]
   ·rw [g1, g2]
  subst hv
  have hE := Eff.append_own (E := E) (σ := σ) (hs := hs) (en := encI) (l := a) (l2 := [x]) ht hts hni hp hq hx hy (by rfl) hb (by simp; omega);intro ev S he hS o ho;obtain ⟨v', S', hs', k1, k2, rfl⟩ := hE ev S he hS o ho
  have hpush : pushL a a.length x = a ++ [x] := if_neg (Nat.lt_irrefl _);refine ⟨v', S', _, k1, k2, v', by rw [hpush], ?_⟩;rw [hpush]
  have hg : (hs.set p (ownL z v' encI (a ++ [x])))[p]? = some (ownL z v' encI (a ++ [x])) := by
   rw [List.getElem?_set]; simp [(List.getElem?_eq_some_iff.1 hp).1]
  rcases k2.own hg with ⟨g0, g1, g2, g3⟩ | ⟨id, ex, g1, g2, g3, _⟩
  ·simp at g2
  ·have e : ((a ++ [x]).flatMap encI.f).length = (a ++ [x]).length := by rw [flat_len]; simp [encI]
   rw [e] at g1;refine ⟨by simp, .inr ⟨id, ex, g1, ?_⟩⟩;rw [g1];simp
end
end Go.Am
end
section
namespace Go.Am
open Go.RowKit
set_option linter.unusedVariables false
set_option linter.unusedSimpArgs false
structure Stk (v v0 : AV) (a s : List Int) : Prop where
 pre : PreOf v0 a.length s.length v
 top : a.take s.length = s
theorem Stk.full {v v0 : AV} {a s : List Int} (h : Stk v v0 a s) (ha : a.length ≤ s.length) : v = v0 ∧ a = s := by
 have hl : s.length = a.length := by have := h.pre.1; omega
 refine ⟨?_, ?_⟩
 ·rcases h.pre with ⟨_, ⟨h1, _, h2⟩ | ⟨id, ex, h1, h2⟩⟩
  ·rw [h1, h2]
  ·rw [h1, h2, hl]
 ·have := h.top;rw [hl, List.take_length] at this;exact this
theorem Stk.get {v v0 : AV} {a s : List Int} (h : Stk v v0 a s) {n : Nat} {x : Int} (hx : s[n]? = some x) : a[n]? = some x := by
 have hn := (List.getElem?_eq_some_iff.1 hx).1;rw [← h.top, List.getElem?_take_of_lt hn] at hx;exact hx
theorem Stk.set {v v0 : AV} {a s : List Int} (h : Stk v v0 a s) (n : Nat) (y : Int) : Stk v v0 (a.set n y) (s.set n y) :=
 ⟨by rw [List.length_set, List.length_set]; exact h.pre, by rw [List.length_set, List.take_set, h.top]⟩
theorem Stk.push {v v0 v' v0' : AV} {a s : List Int} {x : Int} (h : Stk v v0 a s) (hp : PreOf v0' (pushL a s.length x).length (s.length + 1) v') : Stk v' v0' (pushL a s.length x) (s ++ [x]) := by
 refine ⟨by rw [List.length_append]; exact hp, ?_⟩;rw [List.length_append, List.length_singleton, pushL_take h.pre.le, h.top]
theorem Stk.cut {v v0 w : AV} {a s : List Int} {j : Nat} (h : Stk v v0 a s) (hj : j ≤ s.length) (hp : PreOf v0 a.length j w) : Stk w v0 a (s.take j) := by
 have e : (s.take j).length = j := by rw [List.length_take]; omega
 refine ⟨by rw [e]; exact hp, ?_⟩;rw [e]
 have := congrArg (List.take j) h.top
 rwa [List.take_take, Nat.min_eq_left hj] at this
theorem push_len {a : List Int} {k m : Nat} {x : Int} (hk : k < m) (ha : a.length ≤ m) (hka : k ≤ a.length) : (pushL a k x).length ≤ m := by
 unfold pushL
 by_cases h : k < a.length
 ·rw [if_pos h, List.length_set]; exact ha
 ·rw [if_neg h, List.length_append, List.length_singleton]; omega
theorem Val.slice_pre_ {v v0 : AV} {a s : List Int} (h : Stk v v0 a s) {j : Nat} (hj : j ≤ s.length) : ∃ w, PreOf v0 a.length j w ∧ ∀ {E : Env} {σ : Sl} {hs : List Thing} {p : Nat} {z : Bool} {st et : TypeId} {x y : Operand}, hs[p]? = some (ownL z v0 encI a) → SliceT E st et 1 → evs σ x = some v → evs σ y = some (iv (j : Int)) → Val E σ hs (.slice st x none (some y) none) w := by
 have hle := h.pre.1
 rcases h.pre with ⟨_, ⟨h0, h2, h3⟩ | ⟨id, ex, h0, h3⟩⟩
 ·refine ⟨nilS, ⟨by omega, .inl ⟨h0, h2, rfl⟩⟩, fun {E σ hs p z st et x y} hp ht hx hy => ?_⟩;obtain ⟨w, hw, hv⟩ := Val.slice_pre h.pre hp ht hx hy rfl hj
  rcases hw with ⟨_, ⟨_, _, e⟩ | ⟨id, ex, e, _⟩⟩
  ·rwa [e] at hv
  ·rw [h0] at e; cases e
 ·refine ⟨.slice id 0 a.length ex j a.length, ⟨by omega, .inr ⟨id, ex, h0, rfl⟩⟩, fun {E σ hs p z st et x y} hp ht hx hy => ?_⟩;obtain ⟨w, hw, hv⟩ := Val.slice_pre h.pre hp ht hx hy rfl hj
  rcases hw with ⟨_, ⟨e, _, _⟩ | ⟨id', ex', e, e'⟩⟩
  ·rw [h0] at e; cases e
  ·rw [h0] at e;simp only [AV.slice.injEq] at e;obtain ⟨rfl, _, _, rfl, _⟩ := e
   rwa [e'] at hv
def RdP (C : List Thing) (v : AV) (l : List Int) : Prop := ∃ z v0 a, ownL z v0 encI a ∈ C ∧ Stk v v0 a l
theorem Val.len_P {C hs : List Thing} {E : Env} {σ : Sl} {v : AV} {l : List Int} {x : Operand} {st e : TypeId} (h : RdP C v l) (hC : ∀ x ∈ C, x ∈ hs) (ht : E.und st = some (.slice e)) (hx : evs σ x = some v) :
  Val E σ hs (.call { callee := .builtin .len, args := #[x], argTypes := #[st] }) (iv l.length) := by
 obtain ⟨z, v0, a, _, h⟩ := h;exact Val.len_pre h.pre ht hx
theorem rdP_at {C hs : List Thing} {v : AV} {l : List Int} {k a0 : Int} (h : RdP C v l) (hC : ∀ x ∈ C, x ∈ hs) (hk : 0 ≤ k ∧ k < l.length) (ha : l[k.toNat]? = some a0) :
  ∀ S, HasS S hs → ∃ p, PtE C encI a0 0 p ∧ ∀ {E : Env} {σ : Sl} {hs : List Thing} {st e : TypeId} {x y : Operand}, SliceT E st e encI.u → evs σ x = some v → evs σ y = some (iv k) → Val E σ hs (.indexAddr st x y) p := fun S _ => by
 obtain ⟨z, v0, a, hm, h⟩ := h;obtain ⟨id, ex, ⟨ex', h1⟩, h2⟩ := h.pre.at (by omega);refine ⟨.ptr id (k.toNat * encI.u) (a.flatMap encI.f).length, PtE.own (j := 0) hm h1 (h.get ha), fun {E σ hs st e x y} ht hx hy => ?_⟩;exact Val.iaddr_pre h.pre ⟨ex', h1⟩ ht hx hy hk
def extS (s : List Int) (n : Nat) : List Int := if n = s.length then s ++ [0] else s
def wkSet (s : List Int) (n i : Nat) : List Int := (extS s n).set n ((extS s n).getD n 0 + 2 ^ i)
def wk : Nat → Nat → List Int → List Int → List (List Int × List Int)
 | 0, _, t, s => [(t, s)]
 | m + 1, i, t, s => (List.range (s.length + 1)).flatMap fun n : Nat => wk m (i + 1) (t ++ [(n : Int)]) (wkSet s n i)
def walksOf (many : Nat) : List (List Int × List Int) := wk many 0 [] []
structure GoodS (i : Nat) (s : List Int) : Prop where
 len : s.length ≤ i
 el : ∀ x ∈ s, 0 < x ∧ x < 2 ^ i
theorem extS_at {s : List Int} {n : Nat} (h : n ≤ s.length) : ∃ x, (extS s n)[n]? = some x ∧ (n < s.length → s[n]? = some x) ∧ (n = s.length → x = 0) := by
 unfold extS
 by_cases e : n = s.length
 ·rw [if_pos e];exact ⟨0, by rw [e]; simp, fun h => by omega, fun _ => rfl⟩
 ·rw [if_neg e]
  have hn : n < s.length := by omega
  exact ⟨s[n], List.getElem?_eq_getElem hn, fun _ => List.getElem?_eq_getElem hn, fun h => absurd h e⟩
theorem extS_len {s : List Int} {n : Nat} (h : n ≤ s.length) : n < (extS s n).length ∧ (extS s n).length ≤ s.length + 1 ∧ (extS s n).length ≤ max s.length (n + 1) := by
 unfold extS;split
 ·rw [List.length_append, List.length_singleton]; omega
 ·omega
theorem wkSet_of {s : List Int} {n i : Nat} {x : Int} (hx : (extS s n)[n]? = some x) : wkSet s n i = (extS s n).set n (x + 2 ^ i) := by
 unfold wkSet;rw [List.getD_eq_getElem?_getD, hx];rfl
theorem wkSet_back {s : List Int} {n i : Nat} {x : Int} (hx : (extS s n)[n]? = some x) : (wkSet s n i).set n x = extS s n := by
 rw [wkSet_of hx, List.set_set];refine List.ext_getElem? fun j => ?_
 rw [List.getElem?_set]
 by_cases e : n = j
 ·subst e;rw [if_pos rfl, if_pos (List.getElem?_eq_some_iff.1 hx).1, hx]
 ·rw [if_neg e]
theorem extS_cut {s : List Int} {n : Nat} (h : n = s.length) : (extS s n).take n = s := by
 unfold extS;rw [if_pos h, h];simp
theorem pow_pos' (i : Nat) : (0 : Int) < 2 ^ i := Int.pow_pos (by decide)
theorem GoodS.ext {i n : Nat} {s : List Int} (h : GoodS i s) (hn : n ≤ s.length) {x : Int} (hx : (extS s n)[n]? = some x) : 0 ≤ x ∧ x < 2 ^ i ∧ (n < s.length → x ≠ 0) := by
 obtain ⟨y, h1, h2, h3⟩ := extS_at hn;rw [hx] at h1;cases h1
 by_cases e : n = s.length
 ·rw [h3 e];exact ⟨Int.le_refl _, pow_pos' i, fun h => by omega⟩
 ·have := h.el x (List.mem_of_getElem? (h2 (by omega)));exact ⟨by omega, this.2, fun _ => by omega⟩
theorem wkSet_new {s : List Int} {n i : Nat} (h : n = s.length) : wkSet s n i = s ++ [2 ^ i] := by
 subst h;unfold wkSet extS;rw [if_pos rfl, List.getD_eq_getElem?_getD];simp
theorem GoodS.next {i n : Nat} {s : List Int} (h : GoodS i s) (hn : n ≤ s.length) : GoodS (i + 1) (wkSet s n i) := by
 have hp := pow_pos' i
 have e2 : (2 : Int) ^ (i + 1) = 2 ^ i * 2 := Int.pow_succ 2 i
 have hl := h.len
 by_cases e : n = s.length
 ·rw [wkSet_new e];refine ⟨by simp; omega, fun y hy => ?_⟩
  rcases List.mem_append.1 hy with hy | hy
  ·have := h.el y hy;omega
  ·have := List.mem_singleton.1 hy;omega
 ·obtain ⟨x, hx, _, _⟩ := extS_at hn
  have hxr := h.ext hn hx
  have he : extS s n = s := if_neg e;rw [wkSet_of hx, he];refine ⟨by rw [List.length_set]; omega, fun y hy => ?_⟩
  rcases List.mem_or_eq_of_mem_set hy with hy | hy
  ·have := h.el y hy;omega
  ·subst hy;omega
theorem bits_small : ∀ i : Fin 6, ∀ x : Fin 32, x.val < 2 ^ i.val → orI (x.val : Int) (shlI 1 (i.val : Int)) = (x.val : Int) + 2 ^ i.val ∧ andNotI ((x.val : Int) + 2 ^ i.val) (shlI 1 (i.val : Int)) = (x.val : Int) := by decide +kernel
theorem bit_ops {i : Nat} {x : Int} (hi : i ≤ 5) (h0 : 0 ≤ x) (hx : x < 2 ^ i) : orI x (shlI 1 i) = x + 2 ^ i ∧ andNotI (x + 2 ^ i) (shlI 1 i) = x := by
 have h5 : (2 : Int) ^ i ≤ 2 ^ 5 := by
  have : (2 : Nat) ^ i ≤ 2 ^ 5 := Nat.pow_le_pow_right (by decide) hi
  exact_mod_cast this
 have e5 : (2 : Int) ^ 5 = 32 := by decide
 obtain ⟨y, rfl⟩ : ∃ y : Nat, x = y := ⟨x.toNat, by omega⟩
 have hy : y < 2 ^ i := by exact_mod_cast hx
 exact bits_small ⟨i, by omega⟩ ⟨y, by omega⟩ hy
theorem bit_ok {i : Nat} (hi : i ≤ 5) : ((0 : Int) ≤ (i : Int) ∧ (i : Int) < 64) ∧ I64 (shlI 1 i) := by
 have key : ∀ i : Fin 6, I64 (shlI 1 (i.val : Int)) := by decide +kernel
 exact ⟨by omega, key ⟨i, by omega⟩⟩
end Go.Am
end
section
namespace Go.Am
set_option linter.unusedVariables false
noncomputable def P_s9_Walk_L2 (books : List Int) (x11 : Int) (a14 : Int) : Int → Option (Stp Int (Ex Unit Int)) := fun x8 =>
  if x8 < ((List.take (x11 - (0 : Int)).toNat (List.drop ((0 : Int) : Int).toNat books)).length : Int) then
    el (List.take (x11 - (0 : Int)).toNat (List.drop ((0 : Int) : Int).toNat books)) x8 fun a14_2 =>
    if a14 = a14_2 then
      some (Stp.dn (Ex.rt x8))
    else
      chk (I64 (x8 + 1)) (
        some (Stp.ag (x8 + 1)))
  else
    some (Stp.dn (Ex.nx ()))
noncomputable def P_s9_Walk_L1 (books : List Int) : Int → Option (Stp Int (Ex Unit (Int × Int))) := fun x11 =>
  if x11 < (books.length : Int) then
    el books x11 fun a14 =>
    andx (
      chk (0 ≤ (0 : Int) ∧ (0 : Int) ≤ x11 ∧ x11 ≤ (books.length : Int)) (
        andx (
          seqx (
            iter (P_s9_Walk_L2 books x11 a14) 0) fun _ =>
            some (-1)) fun y7 =>
          if y7 ≥ 0 then
            some 5
          else
            some 0)) fun y19 =>
      if ¬ y19 = 0 then
        some (Stp.dn (Ex.rt (x11, y19)))
      else
        chk (I64 (x11 + 1)) (
          some (Stp.ag (x11 + 1)))
  else
    some (Stp.dn (Ex.nx ()))
noncomputable def P_s9_Walk_L3 (qG : List qA) (books : List Int) (carry : Int) : Int → Option (Stp Int (Ex Unit ((List Int) × Bool × Int × Int))) := fun x55 =>
  if x55 < (books.length : Int) then
    el books x55 fun a57 =>
    el qG a57 fun a62 =>
    if a62.heavy > carry then
      some (Stp.dn (Ex.rt ([], true, 0, 9)))
    else
      chk (I64 (x55 + 1)) (
        some (Stp.ag (x55 + 1)))
  else
    some (Stp.dn (Ex.nx ()))
noncomputable def P_s9_Walk_L5 (qF : List Str) (qE : List qH) (qG : List qA) (books : List Int) (carry : Int) (p : List Int × List Int) : (Int × Bool × Int) → Option (Stp (Int × Bool × Int) (Int × Bool)) := fun (sum, light, x75) =>
  if x75 < (p.2.length : Int) then
    andx (
      el p.2 x75 fun a77 =>
      andx (P_s9_trip qF qE qG books a77) fun (y83, y83_2) =>
        chk (I64 (sum + y83)) (
          if light = true then
            some ((sum + y83), decide (y83_2 ≤ carry))
          else
            some ((sum + y83), false))) fun (sum_2, light_2) =>
      chk (I64 (x75 + 1)) (
        some (Stp.ag (sum_2, light_2, (x75 + 1))))
  else
    some (Stp.dn (sum, light))
noncomputable def P_s9_Walk_L4 (qF : List Str) (qE : List qH) (qG : List qA) (books : List Int) (carry : Int) : ((List Int) × Bool × Bool × Int) → (List Int × List Int) → Option (Stp ((List Int) × Bool × Bool × Int) ((List Int) × Bool × Bool × Int)) := fun (trips, z, found, way) p =>
  andx (
    iter (P_s9_Walk_L5 qF qE qG books carry p) (0, true, 0)) fun (sum, light) =>
    andx (
      if light = true then
        if found = true then
          some (decide (sum < way), true)
        else
          some (true, false)
      else
        some (false, found)) fun (x105, found_2) =>
      if x105 = true then
        chk (p.1.length < 1000) (
          some (Stp.ag (p.1, false, true, sum)))
      else
        some (Stp.ag (trips, z, found_2, way))
noncomputable def P_s9_Walk (qF : List Str) (qE : List qH) (qG : List qA) (books : List Int) (carry : Int) : Option ((List Int) × Bool × Int × Int) :=
  andx (P_s9_open qF qE qG) fun y23 =>
    if ¬ y23 = 0 then
      some ([], true, 0, y23)
    else
      if (books.length : Int) > 6 then
        some ([], true, 0, 3)
      else
        chk (I64 ((qG.length : Int) - 1)) (
          andx (P_s9_out 0 ((qG.length : Int) - 1) books) fun y40 =>
            if y40 = true then
              some ([], true, 0, 4)
            else
              andx (
                seqx (
                  iter (P_s9_Walk_L1 books) 0) fun _ =>
                  some (0, 0)) fun (y44, y44_2) =>
                if ¬ y44_2 = 0 then
                  some ([], true, 0, y44_2)
                else
                  andx (P_s9_out 1 100 [carry]) fun y52 =>
                    if y52 = true then
                      some ([], true, 0, 7)
                    else
                      seqx (
                        iter (P_s9_Walk_L3 qG books carry) 0) fun _ =>
                        andx (
                          chk (books.length ≤ 6) (
                            seqx (foldx (P_s9_Walk_L4 qF qE qG books carry) (walksOf books.length) ([], true, false, 0)) fun (trips, z, found, way) =>
                              some (trips, z, found, way))) fun (trips, z, found, way) =>
                          some (trips, z, way, 0))
end Go.Am
end
section
namespace Go.Am.YtiaolgbmbhldgaaGreatDoor
open Go.Am Go.RowKit
set_option linter.unusedVariables false
set_option linter.unusedSimpArgs false
set_option maxRecDepth 100000
theorem T.seqEx {α : Type} {E : Env} {n : Nat} {rnd : Option Nat} {s : Sy} {I : α → Sy} {P : α → Prop} {Q : Exit → Sy → Prop} {x y : Code} (h1 : T E n rnd x s fun e s' => e = .normal ∧ ∃ z, P z ∧ Sub (I z) s') (h2 : ∀ z, P z → T E n rnd y (I z) Q) : T E n rnd (.seq x y) s Q :=
 .seq (h1.mono fun e s' ⟨he, z, hp, hs⟩ => by subst he; exact T.keep hs (h2 z hp))
def VisitW (k l many bm by_ bt bs bf : Nat) (D : List Thing) (all : List (List Int × List Int)) (Y Z : List (List Int × List Int) → List Thing → Prop) : Prop :=
 ∀ vis t s v v0 a w w0 b C, vis ++ [(t, s)] <+: all → Stk v v0 a t → Stk w w0 b s → t.length = many → s.length ≤ many → a.length ≤ many → Y vis C →
  TR (EL k) l [v, w] (.row bt 1 [v] :: .row bs 1 [w] :: .row bm 1 [iv (many : Int)] :: .row by_ 1 [.yield l] :: .row bf 1 [.func 140 [] [.ptr bm 0 1, .ptr by_ 0 1, .ptr bt 0 1, .ptr bs 0 1, .ptr bf 0 1]] :: ownL false v0 encI (a) :: ownL true w0 encI (b) :: (D ++ C)) (fun r hs' => (r = bv true ∧ ∃ C', hs' = .row bt 1 [v] :: .row bs 1 [w] :: .row bm 1 [iv (many : Int)] :: .row by_ 1 [.yield l] :: .row bf 1 [.func 140 [] [.ptr bm 0 1, .ptr by_ 0 1, .ptr bt 0 1, .ptr bs 0 1, .ptr bf 0 1]] :: ownL false v0 encI (a) :: ownL true w0 encI (b) :: (D ++ C') ∧ Y (vis ++ [(t, s)]) C') ∨ (r = bv false ∧ ∃ C', hs' = .row bt 1 [v] :: .row bs 1 [w] :: .row bm 1 [iv (many : Int)] :: .row by_ 1 [.yield l] :: .row bf 1 [.func 140 [] [.ptr bm 0 1, .ptr by_ 0 1, .ptr bt 0 1, .ptr bs 0 1, .ptr bf 0 1]] :: ownL false v0 encI (a) :: ownL true w0 encI (b) :: (D ++ C') ∧ Z (vis ++ [(t, s)]) C'))
theorem wk_pre {s : List Int} {f : Nat → List (List Int × List Int)} {c : Nat} (hc : c < s.length + 1) : ((List.range c).flatMap f) ++ f c <+: (List.range (s.length + 1)).flatMap f := by
 obtain ⟨r, hr⟩ : ∃ r, List.range (s.length + 1) = List.range c ++ c :: r := by
  refine ⟨(List.range (s.length + 1)).drop (c + 1), ?_⟩
  have h : (List.range (s.length + 1)).take c = List.range c := by rw [List.take_range, Nat.min_eq_left (by omega)]
  rw [← h]
  conv => lhs; rw [← List.take_append_drop c (List.range (s.length + 1))]
  rw [List.drop_eq_getElem_cons (by simpa using hc)];simp
 refine ⟨r.flatMap f, ?_⟩;rw [hr, List.flatMap_append, List.flatMap_cons, List.append_assoc]
theorem wk_fill {k many bm by_ bt bs bf l : Nat} {D : List Thing} {Y Z : List (List Int × List Int) → List Thing → Prop} (hm6 : many ≤ 6) {all : List (List Int × List Int)} (hy : VisitW k l many bm by_ bt bs bf D all Y Z) :
    ∀ (m i : Nat) (j : Int) (t s : List Int) (v v0 : AV) (a : List Int) (w w0 : AV) (b : List Int) (vis : List (List Int × List Int)) (C : List Thing), j = i → i + m = many → t.length = i → GoodS i s → Stk v v0 a t → Stk w w0 b s → a.length ≤ many → b.length ≤ many → Y vis C → vis ++ wk m i t s <+: all →
    TF (EL k) 140 [iv j, .ptr bm 0 1, .ptr by_ 0 1, .ptr bt 0 1, .ptr bs 0 1, .ptr bf 0 1] (.row bt 1 [v] :: .row bs 1 [w] :: .row bm 1 [iv (many : Int)] :: .row by_ 1 [.yield l] :: .row bf 1 [.func 140 [] [.ptr bm 0 1, .ptr by_ 0 1, .ptr bt 0 1, .ptr bs 0 1, .ptr bf 0 1]] :: ownL false v0 encI (a) :: ownL true w0 encI (b) :: (D ++ C)) (fun r hs' => ∃ v' v0' a' w' w0' b' C', hs' = .row bt 1 [v'] :: .row bs 1 [w'] :: .row bm 1 [iv (many : Int)] :: .row by_ 1 [.yield l] :: .row bf 1 [.func 140 [] [.ptr bm 0 1, .ptr by_ 0 1, .ptr bt 0 1, .ptr bs 0 1, .ptr bf 0 1]] :: ownL false v0' encI (a') :: ownL true w0' encI (b') :: (D ++ C') ∧
      ((r = bv true ∧ Stk v' v0' a' t ∧ Stk w' w0' b' s ∧ a'.length ≤ many ∧ b'.length ≤ many ∧ Y (vis ++ wk m i t s) C') ∨ (r = bv false ∧ ∃ q r', wk m i t s = q ++ r' ∧ Z (vis ++ q) C'))) := by
  intro m
  induction m with
  | zero =>
    intro i j t s v v0 a w w0 b vis C hj him htl hg hSt hSs hal hbl hY hp
    subst hj
    refine TF.enter (fn := Go.Proofs.Tryz.f140) rfl rfl rfl rfl rfl ?_
    refine T.seq ?_
    refine T.text rfl ?_
    refine TO.val rfl rfl rfl (Val.assign rfl) ?_
    refine TO.nil ?_
    refine T.seq ?_
    refine T.seq ?_
    refine T.text rfl ?_
    refine TO.val rfl rfl rfl (Val.move rfl) ?_
    refine TO.val rfl rfl rfl (Val.load_row (p := 2) rfl ⟨_, rfl, rfl⟩ rfl rfl rfl) ?_
    refine TO.eql rfl rfl rfl rfl rfl (fun c11 hc11 => ?_)
    refine TO.nil ?_
    have hc : c11 = true := hc11.2 (by omega)
    subst hc
    refine T.condT (fun a ha => ha.ev (.tmp 11) _ rfl) ?_
    refine T.seq ?_
    refine T.text rfl ?_
    refine TO.val rfl rfl rfl (Val.load_row (p := 3) rfl ⟨_, rfl, rfl⟩ rfl rfl rfl) ?_
    refine TO.val rfl rfl rfl (Val.load_row (p := 0) rfl ⟨_, rfl, rfl⟩ rfl rfl rfl) ?_
    refine TO.val rfl rfl rfl (Val.load_row (p := 1) rfl ⟨_, rfl, rfl⟩ rfl rfl rfl) ?_
    refine TO.callY rfl rfl rfl rfl rfl (hy vis t s v v0 a w w0 b C hp hSt hSs (by omega) (by have := hg.len; omega) hal hY) ?_
    rintro _ _ (⟨rfl, C1, rfl, hY1⟩ | ⟨rfl, C1, rfl, hZ1⟩)
    · skip
      refine TO.things (hs' := .row bt 1 [v] :: .row bs 1 [w] :: .row bm 1 [iv (many : Int)] :: .row by_ 1 [.yield l] :: .row bf 1 [.func 140 [] [.ptr bm 0 1, .ptr by_ 0 1, .ptr bt 0 1, .ptr bs 0 1, .ptr bf 0 1]] :: ownL false v0 encI (a) :: ownL true w0 encI (b) :: (D ++ C1)) rfl ?_
      refine TO.val rfl rfl rfl (Val.assign rfl) ?_
      refine TO.nil ?_
      refine T.ret ?_
      exact ⟨rfl, _, rfl, v, v0, a, w, w0, b, C1, rfl, .inl ⟨rfl, hSt, hSs, hal, hbl, hY1⟩⟩
    · skip
      refine TO.things (hs' := .row bt 1 [v] :: .row bs 1 [w] :: .row bm 1 [iv (many : Int)] :: .row by_ 1 [.yield l] :: .row bf 1 [.func 140 [] [.ptr bm 0 1, .ptr by_ 0 1, .ptr bt 0 1, .ptr bs 0 1, .ptr bf 0 1]] :: ownL false v0 encI (a) :: ownL true w0 encI (b) :: (D ++ C1)) rfl ?_
      refine TO.val rfl rfl rfl (Val.assign rfl) ?_
      refine TO.nil ?_
      refine T.ret ?_
      exact ⟨rfl, _, rfl, v, v0, a, w, w0, b, C1, rfl, .inr ⟨rfl, [(t, s)], [], rfl, hZ1⟩⟩
  | succ m ih =>
    intro i j t s v v0 a w w0 b vis C hj him htl hg hSt hSs hal hbl hY hp
    subst hj
    have hgl := hg.len
    refine TF.enter (fn := Go.Proofs.Tryz.f140) rfl rfl rfl rfl rfl ?_
    refine T.seq ?_
    refine T.text rfl ?_
    refine TO.val rfl rfl rfl (Val.assign rfl) ?_
    refine TO.nil ?_
    refine T.seq ?_
    refine T.seq ?_
    refine T.text rfl ?_
    refine TO.val rfl rfl rfl (Val.move rfl) ?_
    refine TO.val rfl rfl rfl (Val.load_row (p := 2) rfl ⟨_, rfl, rfl⟩ rfl rfl rfl) ?_
    refine TO.eql rfl rfl rfl rfl rfl (fun c11 hc11 => ?_)
    refine TO.nil ?_
    have hc : c11 = false := by cases c11 with | false => rfl | true => (have := hc11.1 rfl; omega)
    subst hc
    refine T.condF (fun a ha => ha.ev (.tmp 11) _ rfl) ?_
    refine T.skip ?_
    refine T.seq ?_
    refine T.seq ?_
    refine T.text rfl ?_
    refine TO.val rfl rfl rfl (Val.load_row (p := 1) rfl ⟨_, rfl, rfl⟩ rfl rfl rfl) ?_
    refine TO.val rfl rfl rfl (Val.len_pre hSs.pre rfl rfl) ?_
    refine TO.val rfl rfl rfl (Val.add rfl rfl (by omega)) ?_
    refine TO.val rfl rfl rfl (Val.move rfl) ?_
    refine TO.nil ?_
    refine T.block ?_
    refine T.loop (fun μ s_ => ∃ c : Nat, ∃ jc : Int, ∃ v v0 : AV, ∃ a : List Int, ∃ w w0 : AV, ∃ b : List Int, ∃ C2 : List Thing, μ = s.length + 1 - c ∧ jc = c ∧ c ≤ s.length + 1 ∧ Stk v v0 a t ∧ Stk w w0 b s ∧ a.length ≤ many ∧ b.length ≤ many ∧ Y (vis ++ (List.range c).flatMap (fun n : Nat => wk m (i + 1) (t ++ [(n : Int)]) (wkSet s n i))) C2 ∧ s_ = ⟨[], [(0, iv (i : Int)), (1, .ptr bm 0 1), (2, .ptr by_ 0 1), (3, .ptr bt 0 1), (4, .ptr bs 0 1), (5, .ptr bf 0 1), (18, iv ((s.length : Int) + 1)), (19, iv jc)], .row bt 1 [v] :: .row bs 1 [w] :: .row bm 1 [iv (many : Int)] :: .row by_ 1 [.yield l] :: .row bf 1 [.func 140 [] [.ptr bm 0 1, .ptr by_ 0 1, .ptr bt 0 1, .ptr bs 0 1, .ptr bf 0 1]] :: ownL false v0 encI (a) :: ownL true w0 encI (b) :: (D ++ C2)⟩) (k := _) (s' := _) ⟨0, 0, v, v0, a, w, w0, b, C, rfl, rfl, Nat.zero_le _, hSt, hSs, hal, hbl, by simpa using hY, rfl⟩ ⟨rfl, (keep_cons rfl (keep_cons rfl (keep_cons rfl (keep_cons rfl (keep_cons rfl (keep_cons rfl (keep_cons rfl (keep_cons rfl keep_nil)))))))), (.cons_cons _ (.cons_cons _ (.cons_cons _ (.cons_cons _ (.cons_cons _ (.cons_cons _ (.cons_cons _ (.refl _))))))))⟩ ?_
    clear hY hSt hSs hal hbl
    clear v v0 a w w0 b C
    rintro μ _ ⟨c, jc, v, v0, a, w, w0, b, C2, hk0, hjc, hcl, hSt, hSs, hal, hbl, hY2, rfl⟩
    subst hjc
    refine T.seq ?_
    refine T.text rfl ?_
    refine TO.lss rfl rfl rfl rfl rfl (fun c20 hc20 => ?_)
    refine TO.nil ?_
    refine T.seq ?_
    cases c20 with
    | true =>
      replace hc20 := btrue hc20
      have hcs : c ≤ s.length := by omega
      obtain ⟨x, hx, hxo, hxn⟩ := extS_at hcs
      have hxr := hg.ext hcs hx
      have hel := extS_len hcs
      have hbo := bit_ops (i := i) (x := x) (by omega) hxr.1 hxr.2.1
      have hsb := bit_ok (i := i) (by omega)
      refine T.condT (fun a ha => ha.ev (.tmp 20) _ rfl) ?_
      refine T.skip ?_
      refine T.seq ?_
      refine T.block ?_
      refine T.seq ?_
      refine T.text rfl ?_
      refine TO.val rfl rfl rfl (Val.move rfl) ?_
      refine TO.val rfl rfl rfl (Val.assign rfl) ?_
      refine TO.nil ?_
      refine T.seqEx (α := AV × AV × List Int) (I := fun z => ⟨[], [(0, iv (i : Int)), (1, .ptr bm 0 1), (2, .ptr by_ 0 1), (3, .ptr bt 0 1), (4, .ptr bs 0 1), (5, .ptr bf 0 1), (8, iv (c : Int)), (18, iv ((s.length : Int) + 1)), (19, iv (c : Int))], .row bt 1 [v] :: .row bs 1 [z.1] :: .row bm 1 [iv (many : Int)] :: .row by_ 1 [.yield l] :: .row bf 1 [.func 140 [] [.ptr bm 0 1, .ptr by_ 0 1, .ptr bt 0 1, .ptr bs 0 1, .ptr bf 0 1]] :: ownL false v0 encI (a) :: ownL true z.2.1 encI (z.2.2) :: (D ++ C2)⟩) (P := fun z => Stk z.1 z.2.1 z.2.2 (extS s c) ∧ z.2.2.length ≤ many) ?_ ?_
      · refine T.seq ?_
        refine T.text rfl ?_
        refine TO.val rfl rfl rfl (Val.move rfl) ?_
        refine TO.val rfl rfl rfl (Val.load_row (p := 1) rfl ⟨_, rfl, rfl⟩ rfl rfl rfl) ?_
        refine TO.val rfl rfl rfl (Val.len_pre hSs.pre rfl rfl) ?_
        refine TO.eql rfl rfl rfl rfl rfl (fun c25 hc25 => ?_)
        refine TO.nil ?_
        cases c25 with
        | true =>
          replace hc25 := btrue hc25
          have hce : c = s.length := by omega
          refine T.condT (fun a ha => ha.ev (.tmp 25) _ rfl) ?_
          refine T.text rfl ?_
          refine TO.val rfl rfl rfl (Val.load_row (p := 1) rfl ⟨_, rfl, rfl⟩ rfl rfl rfl) ?_
          refine TO.build1 (en := encI) (a := 0) rfl rfl rfl ⟨rfl, rfl⟩ ⟨_, rfl, rfl⟩ (by decide) (by decide) rfl rfl (fun v27 => ?_)
          refine TO.eff rfl rfl rfl (Eff.push (b := 8) (p := 7) (q := 0) hSs.pre ⟨rfl, rfl, rfl, ⟨_, rfl, rfl⟩, by decide, by decide⟩ rfl rfl rfl rfl rfl rfl (by decide) (by omega)) ?_
          rintro w28 _ ⟨w10, rfl, hp28⟩
          have hS28 := hSs.push hp28
          have hb28 := push_len (x := 0) (show s.length < many by omega) hbl hSs.pre.le
          refine TO.things (hs' := ownL false v27 encI [0] :: .row bt 1 [v] :: .row bs 1 [w] :: .row bm 1 [iv (many : Int)] :: .row by_ 1 [.yield l] :: .row bf 1 [.func 140 [] [.ptr bm 0 1, .ptr by_ 0 1, .ptr bt 0 1, .ptr bs 0 1, .ptr bf 0 1]] :: ownL false v0 encI (a) :: ownL true w10 encI (pushL b s.length 0) :: (D ++ C2)) rfl ?_
          refine TO.store_row (p := 2) (cv := [_]) (cells' := [_]) rfl rfl rfl rfl rfl rfl rfl hS28.pre.cell.1 rfl rfl (by simp [hS28.pre.cell.2]) (by decide) rfl ?_
          refine TO.things (hs' := ownL false v27 encI [0] :: .row bt 1 [v] :: .row bs 1 [w28] :: .row bm 1 [iv (many : Int)] :: .row by_ 1 [.yield l] :: .row bf 1 [.func 140 [] [.ptr bm 0 1, .ptr by_ 0 1, .ptr bt 0 1, .ptr bs 0 1, .ptr bf 0 1]] :: ownL false v0 encI (a) :: ownL true w10 encI (pushL b s.length 0) :: (D ++ C2)) rfl ?_
          refine TO.nil ?_
          exact ⟨rfl, (w28, w10, pushL b s.length 0), ⟨by unfold extS; rw [if_pos hce]; exact hS28, hb28⟩, ⟨rfl, (keep_cons rfl (keep_cons rfl (keep_cons rfl (keep_cons rfl (keep_cons rfl (keep_cons rfl (keep_cons rfl (keep_cons rfl (keep_cons rfl keep_nil))))))))), .cons _ (.refl _)⟩⟩
        | false =>
          replace hc25 := bfalse hc25
          have hce : ¬ c = s.length := by omega
          refine T.condF (fun a ha => ha.ev (.tmp 25) _ rfl) ?_
          refine T.skip ?_
          exact ⟨rfl, (w, w0, b), ⟨by unfold extS; rw [if_neg hce]; exact hSs, hbl⟩, ⟨rfl, (keep_cons rfl (keep_cons rfl (keep_cons rfl (keep_cons rfl (keep_cons rfl (keep_cons rfl (keep_cons rfl (keep_cons rfl (keep_cons rfl keep_nil))))))))), .refl _⟩⟩
      rintro ⟨w1, w10, b1⟩ ⟨hS1, hb1⟩
      simp only at hS1 hb1 ⊢
      refine T.seq ?_
      refine T.drawE (l1 := [0, 1, 2, 3, 4, 5, 6, 7]) (l2 := [8]) (by kernel_rfl) (by kernel_rfl) ?_
      refine TD1.read rfl rfl rfl rfl (Val.load_row (p := 1) rfl ⟨_, rfl, rfl⟩ rfl rfl rfl) ?_
      refine TD1.light rfl rfl rfl rfl (Val.move rfl) ?_
      refine TD1.fact (pre_at hS1.pre (by omega)) (fun hp_ => ?_)
      obtain ⟨idb, atb⟩ := hp_
      refine TD1.light rfl rfl rfl rfl (Val.iaddr_pre hS1.pre atb ⟨rfl, rfl⟩ rfl rfl ⟨by omega, by omega⟩) ?_
      refine TD1.read rfl rfl rfl rfl (Val.load_ownL (en := encI) (p := 6) (j := 0) rfl atb ⟨_, rfl, rfl⟩ rfl (hS1.get (by simpa using hx)) rfl) ?_
      refine TD1.light rfl rfl rfl rfl (Val.move rfl) ?_
      refine TD1.light rfl rfl rfl rfl (Val.shl rfl rfl hsb) ?_
      refine TD1.light rfl rfl rfl rfl (Val.or rfl rfl) ?_
      refine TD1.light rfl rfl rfl rfl (Val.iaddr_pre hS1.pre atb ⟨rfl, rfl⟩ rfl rfl ⟨by omega, by omega⟩) ?_
      refine TD1.over (fun v => sameC_refl v) (all_cons (⟨_, rfl, (Val.load_ownL (en := encI) (p := 6) (j := 0) rfl atb ⟨_, rfl, rfl⟩ rfl (hS1.get (by simpa using hx)) rfl)⟩) (all_cons (⟨_, rfl, (Val.load_row (p := 1) rfl ⟨_, rfl, rfl⟩ rfl rfl rfl)⟩) all_nil)) ?_
      refine TD2.heavy (fun v => sameC_refl v) rfl (by decide) rfl rfl (OpS.eff (Eff.store_ownE (en := encI) (p := 6) (a := x) (a' := x + 2 ^ i) (j := 0) (cv := [_]) rfl atb (hS1.get (by simpa using hx)) rfl rfl (by decide) rfl rfl rfl rfl (by first | rfl | (simp [GS.one]; done)) (by rw [hbo.1]; rfl))) ?_
      rintro _ _ rfl
      refine ⟨(all_cons (.inl (by kernel_rfl)) (all_cons (.inl (by kernel_rfl)) all_nil)), all_nil, ?_⟩
      refine TD2.things (hs' := .row bt 1 [v] :: .row bs 1 [w1] :: .row bm 1 [iv (many : Int)] :: .row by_ 1 [.yield l] :: .row bf 1 [.func 140 [] [.ptr bm 0 1, .ptr by_ 0 1, .ptr bt 0 1, .ptr bs 0 1, .ptr bf 0 1]] :: ownL false v0 encI (a) :: ownL true w10 encI (b1.set c (x + 2 ^ i)) :: (D ++ C2)) rfl ?_
      refine TD2.nil ?_
      have hS2 := hS1.set c (x + 2 ^ i)
      rw [← wkSet_of hx] at hS2
      refine T.seq ?_
      refine T.text rfl ?_
      refine TO.val rfl rfl rfl (Val.load_row (p := 0) rfl ⟨_, rfl, rfl⟩ rfl rfl rfl) ?_
      refine TO.val rfl rfl rfl (Val.move rfl) ?_
      refine TO.build1 (en := encI) (a := (c : Int)) rfl rfl rfl ⟨rfl, rfl⟩ ⟨_, rfl, rfl⟩ (by decide) (by decide) rfl rfl (fun v39 => ?_)
      refine TO.eff rfl rfl rfl (Eff.push (b := 8) (p := 6) (q := 0) hSt.pre ⟨rfl, rfl, rfl, ⟨_, rfl, rfl⟩, by decide, by decide⟩ rfl rfl rfl rfl rfl rfl (by decide) (by omega)) ?_
      rintro v40 _ ⟨v10, rfl, hp40⟩
      have hS40 := hSt.push hp40
      have ha40 := push_len (x := (c : Int)) (show t.length < many by omega) hal hSt.pre.le
      refine TO.things (hs' := ownL false v39 encI [(c : Int)] :: .row bt 1 [v] :: .row bs 1 [w1] :: .row bm 1 [iv (many : Int)] :: .row by_ 1 [.yield l] :: .row bf 1 [.func 140 [] [.ptr bm 0 1, .ptr by_ 0 1, .ptr bt 0 1, .ptr bs 0 1, .ptr bf 0 1]] :: ownL false v10 encI (pushL a t.length (c : Int)) :: ownL true w10 encI (b1.set c (x + 2 ^ i)) :: (D ++ C2)) rfl ?_
      refine TO.store_row (p := 1) (cv := [_]) (cells' := [_]) rfl rfl rfl rfl rfl rfl rfl hS40.pre.cell.1 rfl rfl (by simp [hS40.pre.cell.2]) (by decide) rfl ?_
      refine TO.things (hs' := ownL false v39 encI [(c : Int)] :: .row bt 1 [v40] :: .row bs 1 [w1] :: .row bm 1 [iv (many : Int)] :: .row by_ 1 [.yield l] :: .row bf 1 [.func 140 [] [.ptr bm 0 1, .ptr by_ 0 1, .ptr bt 0 1, .ptr bs 0 1, .ptr bf 0 1]] :: ownL false v10 encI (pushL a t.length (c : Int)) :: ownL true w10 encI (b1.set c (x + 2 ^ i)) :: (D ++ C2)) rfl ?_
      refine TO.keep (s' := ⟨[], [(0, iv (i : Int)), (1, .ptr bm 0 1), (2, .ptr by_ 0 1), (3, .ptr bt 0 1), (4, .ptr bs 0 1), (5, .ptr bf 0 1), (8, iv (c : Int)), (18, iv ((s.length : Int) + 1)), (19, iv (c : Int))], .row bt 1 [v40] :: .row bs 1 [w1] :: .row bm 1 [iv (many : Int)] :: .row by_ 1 [.yield l] :: .row bf 1 [.func 140 [] [.ptr bm 0 1, .ptr by_ 0 1, .ptr bt 0 1, .ptr bs 0 1, .ptr bf 0 1]] :: ownL false v10 encI (pushL a t.length (c : Int)) :: ownL true w10 encI (b1.set c (x + 2 ^ i)) :: (D ++ C2)⟩) ⟨rfl, (keep_cons rfl (keep_cons rfl (keep_cons rfl (keep_cons rfl (keep_cons rfl (keep_cons rfl (keep_cons rfl (keep_cons rfl (keep_cons rfl keep_nil))))))))), .cons _ (.refl _)⟩ ?_
      refine TO.nil ?_
      refine T.seq ?_
      refine T.seq ?_
      refine T.text rfl ?_
      refine TO.val rfl rfl rfl (Val.load_row (p := 4) rfl ⟨_, rfl, rfl⟩ rfl rfl rfl) ?_
      refine TO.val rfl rfl rfl (Val.move rfl) ?_
      refine TO.val rfl rfl rfl (Val.add rfl rfl (by omega)) ?_
      have hpn : vis ++ ((List.range c).flatMap (fun n : Nat => wk m (i + 1) (t ++ [(n : Int)]) (wkSet s n i)) ++ wk m (i + 1) (t ++ [(c : Int)]) (wkSet s c i)) <+: all := by
        obtain ⟨r0, hr0⟩ := wk_pre (s := s) (f := (fun n : Nat => wk m (i + 1) (t ++ [(n : Int)]) (wkSet s n i))) (c := c) (by omega)
        obtain ⟨r1, hr1⟩ := hp
        refine ⟨r0 ++ r1, ?_⟩
        rw [← hr1]
        show _ = vis ++ (List.range (s.length + 1)).flatMap _ ++ r1
        rw [← hr0]
        simp [List.append_assoc]
      refine TO.callV rfl rfl rfl rfl rfl rfl (orcN rfl) (ih (i + 1) _ (t ++ [(c : Int)]) (wkSet s c i) v40 v10 (pushL a t.length (c : Int)) w1 w10 (b1.set c (x + 2 ^ i)) _ C2 (by omega) (by omega) (by simp; omega) (hg.next hcs) hS40 hS2 ha40 (by rw [List.length_set]; exact hb1) hY2 (by rw [List.append_assoc]; exact hpn)) ?_
      rintro _ _ ⟨v3, v30, a3, w3, w30, b3, C3, rfl, (⟨rfl, hSt3, hSs3, ha3, hb3, hY3⟩ | ⟨rfl, q1, r1, hq1, hZ1⟩)⟩
      · skip
        refine TO.things (hs' := .row bt 1 [v3] :: .row bs 1 [w3] :: .row bm 1 [iv (many : Int)] :: .row by_ 1 [.yield l] :: .row bf 1 [.func 140 [] [.ptr bm 0 1, .ptr by_ 0 1, .ptr bt 0 1, .ptr bs 0 1, .ptr bf 0 1]] :: ownL false v30 encI (a3) :: ownL true w30 encI (b3) :: (D ++ C3)) rfl ?_
        refine TO.val rfl rfl rfl (Val.not rfl) ?_
        refine TO.nil ?_
        refine T.condF (fun a ha => ha.ev (.tmp 45) _ rfl) ?_
        refine T.skip ?_
        refine T.seq ?_
        refine T.text rfl ?_
        refine TO.val rfl rfl rfl (Val.load_row (p := 0) rfl ⟨_, rfl, rfl⟩ rfl rfl rfl) ?_
        refine TO.val rfl rfl rfl (Val.move rfl) ?_
        obtain ⟨v4, hp48, hv48⟩ := Val.slice_pre_ hSt3 (j := i) (by simp; omega)
        refine TO.val rfl rfl rfl (hv48 (p := 5) rfl ⟨rfl, rfl⟩ rfl rfl) ?_
        have hS4 := hSt3.cut (j := i) (by simp; omega) hp48
        rw [show (t ++ [(c : Int)]).take i = t by rw [← htl]; simp] at hS4
        refine TO.store_row (p := 0) (cv := [_]) (cells' := [_]) rfl rfl rfl rfl rfl rfl rfl hS4.pre.cell.1 rfl rfl (by simp [hS4.pre.cell.2]) (by decide) rfl ?_
        refine TO.things (hs' := .row bt 1 [v4] :: .row bs 1 [w3] :: .row bm 1 [iv (many : Int)] :: .row by_ 1 [.yield l] :: .row bf 1 [.func 140 [] [.ptr bm 0 1, .ptr by_ 0 1, .ptr bt 0 1, .ptr bs 0 1, .ptr bf 0 1]] :: ownL false v30 encI (a3) :: ownL true w30 encI (b3) :: (D ++ C3)) rfl ?_
        refine TO.nil ?_
        have hx3 : (wkSet s c i)[c]? = some (x + 2 ^ i) := by rw [wkSet_of hx, List.getElem?_set_self hel.1]
        have hl3 := (List.getElem?_eq_some_iff.1 hx3).1
        refine T.seq ?_
        refine T.drawE (l1 := [0, 1, 2, 3, 4, 5, 6, 7]) (l2 := [8]) (by kernel_rfl) (by kernel_rfl) ?_
        refine TD1.read rfl rfl rfl rfl (Val.load_row (p := 1) rfl ⟨_, rfl, rfl⟩ rfl rfl rfl) ?_
        refine TD1.light rfl rfl rfl rfl (Val.move rfl) ?_
        refine TD1.fact (pre_at hSs3.pre (by omega)) (fun hp_ => ?_)
        obtain ⟨idb, atb⟩ := hp_
        refine TD1.light rfl rfl rfl rfl (Val.iaddr_pre hSs3.pre atb ⟨rfl, rfl⟩ rfl rfl ⟨by omega, by omega⟩) ?_
        refine TD1.read rfl rfl rfl rfl (Val.load_ownL (en := encI) (p := 6) (j := 0) rfl atb ⟨_, rfl, rfl⟩ rfl (hSs3.get (by simpa using hx3)) rfl) ?_
        refine TD1.light rfl rfl rfl rfl (Val.move rfl) ?_
        refine TD1.light rfl rfl rfl rfl (Val.shl rfl rfl hsb) ?_
        refine TD1.light rfl rfl rfl rfl (Val.andNot rfl rfl) ?_
        refine TD1.light rfl rfl rfl rfl (Val.iaddr_pre hSs3.pre atb ⟨rfl, rfl⟩ rfl rfl ⟨by omega, by omega⟩) ?_
        refine TD1.over (fun v => sameC_refl v) (all_cons (⟨_, rfl, (Val.load_ownL (en := encI) (p := 6) (j := 0) rfl atb ⟨_, rfl, rfl⟩ rfl (hSs3.get (by simpa using hx3)) rfl)⟩) (all_cons (⟨_, rfl, (Val.load_row (p := 1) rfl ⟨_, rfl, rfl⟩ rfl rfl rfl)⟩) all_nil)) ?_
        refine TD2.heavy (fun v => sameC_refl v) rfl (by decide) rfl rfl (OpS.eff (Eff.store_ownE (en := encI) (p := 6) (a := x + 2 ^ i) (a' := x) (j := 0) (cv := [_]) rfl atb (hSs3.get (by simpa using hx3)) rfl rfl (by decide) rfl rfl rfl rfl (by first | rfl | (simp [GS.one]; done)) (by rw [hbo.2]; rfl))) ?_
        rintro _ _ rfl
        refine ⟨(all_cons (.inl (by kernel_rfl)) (all_cons (.inl (by kernel_rfl)) all_nil)), all_nil, ?_⟩
        refine TD2.things (hs' := .row bt 1 [v4] :: .row bs 1 [w3] :: .row bm 1 [iv (many : Int)] :: .row by_ 1 [.yield l] :: .row bf 1 [.func 140 [] [.ptr bm 0 1, .ptr by_ 0 1, .ptr bt 0 1, .ptr bs 0 1, .ptr bf 0 1]] :: ownL false v30 encI (a3) :: ownL true w30 encI (b3.set c x) :: (D ++ C3)) rfl ?_
        refine TD2.nil ?_
        have hS5 := hSs3.set c x
        rw [wkSet_back hx] at hS5
        refine T.monoS (Q := fun e s_ => e = .normal ∧ ∃ w6 : AV, Stk w6 w30 (b3.set c x) s ∧ Sub ⟨[], [(0, iv (i : Int)), (1, .ptr bm 0 1), (2, .ptr by_ 0 1), (3, .ptr bt 0 1), (4, .ptr bs 0 1), (5, .ptr bf 0 1), (18, iv ((s.length : Int) + 1)), (19, iv (c : Int))], .row bt 1 [v4] :: .row bs 1 [w6] :: .row bm 1 [iv (many : Int)] :: .row by_ 1 [.yield l] :: .row bf 1 [.func 140 [] [.ptr bm 0 1, .ptr by_ 0 1, .ptr bt 0 1, .ptr bs 0 1, .ptr bf 0 1]] :: ownL false v30 encI (a3) :: ownL true w30 encI (b3.set c x) :: (D ++ C3)⟩ s_) ?_ ?_
        · refine T.seq ?_
          refine T.text rfl ?_
          refine TO.val rfl rfl rfl (Val.load_row (p := 1) rfl ⟨_, rfl, rfl⟩ rfl rfl rfl) ?_
          refine TO.val rfl rfl rfl (Val.move rfl) ?_
          refine TO.fact (pre_at hS5.pre (by omega)) (fun hp_ => ?_)
          obtain ⟨idb, atb⟩ := hp_
          refine TO.val rfl rfl rfl (Val.iaddr_pre hS5.pre atb ⟨rfl, rfl⟩ rfl rfl ⟨by omega, by omega⟩) ?_
          refine TO.val rfl rfl rfl (Val.load_ownL (en := encI) (p := 6) (j := 0) rfl atb ⟨_, rfl, rfl⟩ rfl (hS5.get (by simpa using hx)) rfl) ?_
          refine TO.eql rfl rfl rfl rfl rfl (fun c61 hc61 => ?_)
          refine TO.nil ?_
          cases c61 with
          | true =>
            replace hc61 := btrue hc61
            have hce : c = s.length := by have := hxr.2.2; omega
            refine T.condT (fun a ha => ha.ev (.tmp 61) _ rfl) ?_
            refine T.text rfl ?_
            refine TO.val rfl rfl rfl (Val.load_row (p := 1) rfl ⟨_, rfl, rfl⟩ rfl rfl rfl) ?_
            refine TO.val rfl rfl rfl (Val.move rfl) ?_
            obtain ⟨w4, hp64, hw64⟩ := Val.slice_pre_ hS5 (j := c) (by omega)
            refine TO.val rfl rfl rfl (hw64 (p := 6) rfl ⟨rfl, rfl⟩ rfl rfl) ?_
            have hS6 := hS5.cut (j := c) (by omega) hp64
            rw [extS_cut hce] at hS6
            refine TO.store_row (p := 1) (cv := [_]) (cells' := [_]) rfl rfl rfl rfl rfl rfl rfl hS6.pre.cell.1 rfl rfl (by simp [hS6.pre.cell.2]) (by decide) rfl ?_
            refine TO.things (hs' := .row bt 1 [v4] :: .row bs 1 [w4] :: .row bm 1 [iv (many : Int)] :: .row by_ 1 [.yield l] :: .row bf 1 [.func 140 [] [.ptr bm 0 1, .ptr by_ 0 1, .ptr bt 0 1, .ptr bs 0 1, .ptr bf 0 1]] :: ownL false v30 encI (a3) :: ownL true w30 encI (b3.set c x) :: (D ++ C3)) rfl ?_
            refine TO.nil ?_
            exact ⟨rfl, w4, hS6, ⟨rfl, (keep_cons rfl (keep_cons rfl (keep_cons rfl (keep_cons rfl (keep_cons rfl (keep_cons rfl (keep_cons rfl (keep_cons rfl keep_nil)))))))), .refl _⟩⟩
          | false =>
            replace hc61 := bfalse hc61
            have hce : ¬ c = s.length := fun h => hc61 (hxn h)
            refine T.condF (fun a ha => ha.ev (.tmp 61) _ rfl) ?_
            refine T.skip ?_
            exact ⟨rfl, w3, by have := hS5; unfold extS at this; rwa [if_neg hce] at this, ⟨rfl, (keep_cons rfl (keep_cons rfl (keep_cons rfl (keep_cons rfl (keep_cons rfl (keep_cons rfl (keep_cons rfl (keep_cons rfl keep_nil)))))))), .refl _⟩⟩
        rintro e ⟨ms1, sl1, hs1⟩ ⟨rfl, w6, hS6, hsub⟩
        refine ⟨⟨[], [(0, iv (i : Int)), (1, .ptr bm 0 1), (2, .ptr by_ 0 1), (3, .ptr bt 0 1), (4, .ptr bs 0 1), (5, .ptr bf 0 1), (18, iv ((s.length : Int) + 1)), (19, iv (c : Int))], .row bt 1 [v4] :: .row bs 1 [w6] :: .row bm 1 [iv (many : Int)] :: .row by_ 1 [.yield l] :: .row bf 1 [.func 140 [] [.ptr bm 0 1, .ptr by_ 0 1, .ptr bt 0 1, .ptr bs 0 1, .ptr bf 0 1]] :: ownL false v30 encI (a3) :: ownL true w30 encI (b3.set c x) :: (D ++ C3)⟩, fun a S hi => hi.sub hsub, ?_⟩
        refine T.text rfl ?_
        refine TO.val rfl rfl rfl (Val.add rfl rfl (by omega)) ?_
        refine TO.val rfl rfl rfl (Val.move rfl) ?_
        refine TO.nil ?_
        refine ⟨_, _, (by omega), ⟨c + 1, _, v4, v30, a3, w6, w30, b3.set c x, C3, rfl, (by omega), (by omega), hS4, hS6, ha3, (by rw [List.length_set]; exact hb3), (by rw [List.range_succ, List.flatMap_append, List.flatMap_cons, List.flatMap_nil, List.append_nil, ← List.append_assoc]; exact hY3), rfl⟩, ⟨rfl, (keep_cons rfl (keep_cons rfl (keep_cons rfl (keep_cons rfl (keep_cons rfl (keep_cons rfl (keep_cons rfl (keep_cons rfl keep_nil)))))))), .refl _⟩⟩
      · skip
        refine TO.things (hs' := .row bt 1 [v3] :: .row bs 1 [w3] :: .row bm 1 [iv (many : Int)] :: .row by_ 1 [.yield l] :: .row bf 1 [.func 140 [] [.ptr bm 0 1, .ptr by_ 0 1, .ptr bt 0 1, .ptr bs 0 1, .ptr bf 0 1]] :: ownL false v30 encI (a3) :: ownL true w30 encI (b3) :: (D ++ C3)) rfl ?_
        refine TO.val rfl rfl rfl (Val.not rfl) ?_
        refine TO.nil ?_
        refine T.condT (fun a ha => ha.ev (.tmp 45) _ rfl) ?_
        refine T.seq ?_
        refine T.text rfl ?_
        refine TO.val rfl rfl rfl (Val.assign rfl) ?_
        refine TO.nil ?_
        refine T.ret ?_
        obtain ⟨r0, hr0⟩ := wk_pre (s := s) (f := (fun n : Nat => wk m (i + 1) (t ++ [(n : Int)]) (wkSet s n i))) (c := c) (by omega)
        exact ⟨rfl, _, rfl, v3, v30, a3, w3, w30, b3, C3, rfl, .inr ⟨rfl, (List.range c).flatMap (fun n : Nat => wk m (i + 1) (t ++ [(n : Int)]) (wkSet s n i)) ++ q1, r1 ++ r0, (by show (List.range (s.length + 1)).flatMap _ = _; rw [← hr0]; show _ ++ wk m (i + 1) (t ++ [(c : Int)]) (wkSet s c i) ++ r0 = _; rw [hq1]; simp [List.append_assoc]), (by rw [← List.append_assoc]; exact hZ1)⟩⟩
    | false =>
      replace hc20 := bfalse hc20
      have hce : c = s.length + 1 := by omega
      refine T.condF (fun a ha => ha.ev (.tmp 20) _ rfl) ?_
      refine T.exit ?_
      refine T.seq ?_
      refine T.text rfl ?_
      refine TO.val rfl rfl rfl (Val.assign rfl) ?_
      refine TO.nil ?_
      refine T.ret ?_
      exact ⟨rfl, _, rfl, v, v0, a, w, w0, b, C2, rfl, .inl ⟨rfl, hSt, hSs, hal, hbl, by rw [hce] at hY2; exact hY2⟩⟩
theorem perm_wk (a b c d e f g : Thing) : [a, b, c, d, e, f, g].Perm [d, c, g, f, b, e, a] := by
 refine .trans (List.perm_append_comm (l₁ := [a, b, c]) (l₂ := [d, e, f, g])) ?_;refine .cons d ?_
 show [e, f, g, a, b, c].Perm [c, g, f, b, e, a];refine .trans (List.perm_middle (a := c) (l₁ := [e, f, g, a, b]) (l₂ := [])) ?_;refine .cons c ?_;refine .trans (List.perm_middle (a := g) (l₁ := [e, f]) (l₂ := [a, b])) ?_;refine .cons g ?_;refine .trans (List.perm_middle (a := f) (l₁ := [e]) (l₂ := [a, b])) ?_;refine .cons f ?_;refine .trans (List.perm_middle (a := b) (l₁ := [e, a]) (l₂ := [])) ?_;exact .refl _
theorem perm_wk2 (o1 o2 m t s y f : Thing) (D : List Thing) : ([o1, o2] ++ ((m :: D) ++ [t, s, y, f])).Perm ([t, s, m, y, f, o1, o2] ++ D) := by
 have h1 : ([o1, o2] ++ ((m :: D) ++ [t, s, y, f])).Perm (([o1, o2, m] ++ [t, s, y, f]) ++ D) := by
  show (([o1, o2, m] ++ (D ++ [t, s, y, f])) : List Thing).Perm _;rw [List.append_assoc];exact List.Perm.append_left _ List.perm_append_comm
 refine h1.trans (List.Perm.append_right D ?_)
 show [o1, o2, m, t, s, y, f].Perm [t, s, m, y, f, o1, o2];refine .trans (List.perm_append_comm (l₁ := [o1, o2]) (l₂ := [m, t, s, y, f])) ?_
 show [m, t, s, y, f, o1, o2].Perm _;refine .trans (List.Perm.swap t m _) ?_;exact .cons t (List.Perm.swap s m _)
theorem wk_iter {k many bm l : Nat} {D : List Thing} {Y Z : List (List Int × List Int) → List Thing → Prop} (hm6 : many ≤ 6) (hy : ∀ by_ bt bs bf, VisitW k l many bm by_ bt bs bf D (walksOf many) Y Z) (C : List Thing) (hY : Y [] C) :
  TF (EL k) 139 [.yield l, .ptr bm 0 1] (.row bm 1 [iv (many : Int)] :: (D ++ C)) (fun r hs' => ∃ C', hs' = .row bm 1 [iv (many : Int)] :: (D ++ C') ∧ (Y (walksOf many) C' ∨ ∃ q r', walksOf many = q ++ r' ∧ Z q C')) := by
 refine TF.enter (fn := Go.Proofs.Tryz.f139) rfl rfl rfl rfl rfl ?_;refine T.seq ?_;refine T.text rfl ?_;refine TO.box (k := 1) (cells := [_]) rfl rfl rfl rfl rfl rfl rfl (fun b2 => ?_);refine TO.nil ?_;refine T.seq ?_;refine T.text rfl ?_;refine TO.val rfl rfl rfl (Val.load_row (p := 1) rfl ⟨_, rfl, rfl⟩ rfl rfl rfl) ?_;refine TO.eff rfl rfl rfl (Eff.makeRoom (m := many) (b := 8) ⟨rfl, rfl⟩ rfl rfl rfl rfl (by omega) (by decide)) ?_;rintro v7 _ ⟨v70, rfl, hp7⟩;refine TO.alloc (k := 1) (cells := [_]) rfl rfl rfl rfl rfl rfl rfl (fun b3 => ?_);refine TO.store_row (p := 0) (cv := [_]) (cells' := [_]) rfl rfl rfl rfl rfl rfl rfl hp7.cell.1 rfl rfl (by simp [hp7.cell.2]) (by decide) rfl ?_;refine TO.things (hs' := .row b3 1 [v7] :: ownL false v70 encI (List.replicate many 0) :: .row b2 1 [.yield l] :: .row bm 1 [iv (many : Int)] :: (D ++ C)) rfl ?_;refine TO.nil ?_;refine T.seq ?_;refine T.text rfl ?_;refine TO.alloc (k := 1) (cells := [_]) rfl rfl rfl rfl rfl rfl rfl (fun b4 => ?_);refine TO.nil ?_;refine T.seq ?_;refine T.text rfl ?_;refine TO.alloc (k := 1) (cells := [_]) rfl rfl rfl rfl rfl rfl rfl (fun b5 => ?_);refine TO.nil ?_;refine T.seq ?_;refine T.text rfl ?_;refine TO.val rfl rfl rfl (Val.makeFunc rfl rfl) ?_;refine TO.store_row (p := 0) (cv := [_]) (cells' := [_]) rfl rfl rfl rfl rfl rfl rfl rfl rfl rfl (by first | rfl | simp [GS.one]) (by decide) rfl ?_;refine TO.things (hs' := .row b5 1 [.func 140 [] [.ptr bm 0 1, .ptr b2 0 1, .ptr b3 0 1, .ptr b4 0 1, .ptr b5 0 1]] :: .row b4 1 [nilS] :: .row b3 1 [v7] :: ownL false v70 encI (List.replicate many 0) :: .row b2 1 [.yield l] :: .row bm 1 [iv (many : Int)] :: (D ++ C)) rfl ?_;refine TO.nil ?_;refine T.text rfl ?_;refine TO.val rfl rfl rfl (Val.load_row (p := 0) rfl ⟨_, rfl, rfl⟩ rfl rfl rfl) ?_;refine TO.nilown (u := 1) ?_
 have hperm : (.own true nilS 1 0 [] :: .row b5 1 [.func 140 [] [.ptr bm 0 1, .ptr b2 0 1, .ptr b3 0 1, .ptr b4 0 1, .ptr b5 0 1]] :: .row b4 1 [nilS] :: .row b3 1 [v7] :: ownL false v70 encI (List.replicate many 0) :: .row b2 1 [.yield l] :: .row bm 1 [iv (many : Int)] :: (D ++ C) : List Thing).Perm (.row b3 1 [v7] :: .row b4 1 [nilS] :: .row bm 1 [iv (many : Int)] :: .row b2 1 [.yield l] :: .row b5 1 [.func 140 [] [.ptr bm 0 1, .ptr b2 0 1, .ptr b3 0 1, .ptr b4 0 1, .ptr b5 0 1]] :: ownL false v70 encI (List.replicate many 0) :: ownL true nilS encI (([] : List Int)) :: (D ++ C)) := by
  show ([_, _, _, _, _, _, _] ++ (D ++ C) : List Thing).Perm ([_, _, _, _, _, _, _] ++ (D ++ C));refine List.Perm.append_right _ ?_;exact perm_wk _ _ _ _ _ _ _
 refine TO.perm hperm.symm ?_
 have hS0 : Stk v7 v70 (List.replicate many 0) [] := ⟨by rw [List.length_replicate]; exact hp7, rfl⟩
 have hS1 : Stk nilS nilS [] [] := ⟨⟨Nat.le_refl _, .inl ⟨rfl, rfl, rfl⟩⟩, rfl⟩;refine TO.callV rfl rfl rfl rfl rfl rfl (orcN rfl) (wk_fill hm6 (hy _ _ _ _) many 0 0 [] [] v7 v70 (List.replicate many 0) nilS nilS [] [] C rfl (by omega) rfl ⟨Nat.le_refl _, fun _ h => by cases h⟩ hS0 hS1 (by rw [List.length_replicate]; exact Nat.le_refl _) (Nat.zero_le _) hY ⟨[], by simp [walksOf]⟩) ?_;rintro _ _ ⟨v3, v30, a3, w3, w30, b3_, C3, rfl, (⟨rfl, _, _, _, _, hY3⟩ | ⟨rfl, q1, r1, hq1, hZ1⟩)⟩
 ·skip;refine TO.things (hs' := .row b3 1 [v3] :: .row b4 1 [w3] :: .row bm 1 [iv (many : Int)] :: .row b2 1 [.yield l] :: .row b5 1 [.func 140 [] [.ptr bm 0 1, .ptr b2 0 1, .ptr b3 0 1, .ptr b4 0 1, .ptr b5 0 1]] :: ownL false v30 encI (a3) :: ownL true w30 encI (b3_) :: (D ++ C3)) rfl ?_
  refine TO.keep (s' := ⟨[], [], .row bm 1 [iv (many : Int)] :: (D ++ C3)⟩) ⟨rfl, keep_nil, .cons _ (.cons _ (.cons_cons _ (.cons _ (.cons _ (.cons _ (.cons _ (.refl _)))))))⟩ ?_;refine TO.nil ?_;exact ⟨rfl, _, rfl, C3, rfl, .inl (by simpa [walksOf] using hY3)⟩
 ·skip;refine TO.things (hs' := .row b3 1 [v3] :: .row b4 1 [w3] :: .row bm 1 [iv (many : Int)] :: .row b2 1 [.yield l] :: .row b5 1 [.func 140 [] [.ptr bm 0 1, .ptr b2 0 1, .ptr b3 0 1, .ptr b4 0 1, .ptr b5 0 1]] :: ownL false v30 encI (a3) :: ownL true w30 encI (b3_) :: (D ++ C3)) rfl ?_
  refine TO.keep (s' := ⟨[], [], .row bm 1 [iv (many : Int)] :: (D ++ C3)⟩) ⟨rfl, keep_nil, .cons _ (.cons _ (.cons_cons _ (.cons _ (.cons _ (.cons _ (.cons _ (.refl _)))))))⟩ ?_;refine TO.nil ?_;exact ⟨rfl, _, rfl, C3, rfl, .inr ⟨q1, r1, hq1, by simpa using hZ1⟩⟩
def ArgW (p : List Int × List Int) (vs : List AV) (G : List Thing) : Prop := ∃ v w w0 b, vs = [v, w] ∧ G = [ownL false v encI p.1, ownL true w0 encI b] ∧ Stk w w0 b p.2
theorem wk_yields {k many bm : Nat} {D : List Thing} (hb : Thing.row bm 1 [iv (many : Int)] ∈ D) (hm6 : many ≤ 6) : Yields (EL k) 139 [] [.ptr bm 0 1] ArgW D (walksOf many) := by
 intro l YY ZZ hv C hY;obtain ⟨D', hD⟩ : ∃ D', D.Perm (.row bm 1 [iv (many : Int)] :: D') := by
  obtain ⟨p, hp⟩ := List.getElem?_of_mem hb;exact ⟨D.eraseIdx p, (pick_perm (.row bm 1 []) hp).1⟩
 have pm : ∀ C : List Thing, (.row bm 1 [iv (many : Int)] :: (D' ++ C) : List Thing).Perm (D ++ C) := fun C => List.Perm.append_right C hD.symm
 refine TF.perm (TF.conv (wk_iter (Y := YY) (Z := ZZ) hm6 ?_ C hY) ?_) (pm C)
 ·intro by_ bt bs bf vis t s v v0 a w w0 b C hp hSt hSs htl _ hal hY;obtain ⟨rfl, rfl⟩ := hSt.full (by omega)
  have key : ∀ C : List Thing, (C ++ ([ownL false v encI a, ownL true w0 encI b] ++ (D ++ [Thing.row bt 1 [v], Thing.row bs 1 [w], Thing.row by_ 1 [.yield l], Thing.row bf 1 [.func 140 [] [.ptr bm 0 1, .ptr by_ 0 1, .ptr bt 0 1, .ptr bs 0 1, .ptr bf 0 1]]]))).Perm
    (.row bt 1 [v] :: .row bs 1 [w] :: .row bm 1 [iv (many : Int)] :: .row by_ 1 [.yield l] :: .row bf 1 [.func 140 [] [.ptr bm 0 1, .ptr by_ 0 1, .ptr bt 0 1, .ptr bs 0 1, .ptr bf 0 1]] :: ownL false v encI (a) :: ownL true w0 encI (b) :: (D' ++ C)) := fun C => by
   refine List.perm_append_comm.trans ?_;refine .trans ?_ (show (([Thing.row bt 1 [v], Thing.row bs 1 [w], Thing.row bm 1 [iv (many : Int)], Thing.row by_ 1 [.yield l], Thing.row bf 1 [.func 140 [] [.ptr bm 0 1, .ptr by_ 0 1, .ptr bt 0 1, .ptr bs 0 1, .ptr bf 0 1]], ownL false v encI a, ownL true w0 encI b] ++ D') ++ C : List Thing).Perm (.row bt 1 [v] :: .row bs 1 [w] :: .row bm 1 [iv (many : Int)] :: .row by_ 1 [.yield l] :: .row bf 1 [.func 140 [] [.ptr bm 0 1, .ptr by_ 0 1, .ptr bt 0 1, .ptr bs 0 1, .ptr bf 0 1]] :: ownL false v encI (a) :: ownL true w0 encI (b) :: (D' ++ C)) from by rw [List.append_assoc]; exact .refl _);refine List.Perm.append_right C ?_;refine .trans (List.Perm.append_left _ (List.Perm.append_right _ hD)) ?_;exact perm_wk2 _ _ _ _ _ _ _ _
  refine (hv vis (a, s) [v, w] [ownL false v encI a, ownL true w0 encI b] C _ hp ⟨v, w, w0, b, rfl, rfl, hSs⟩ hY).conv (key C) ?_;rintro r h1 (⟨rfl, C', rfl, h⟩ | ⟨rfl, C', rfl, h⟩)
  ·exact ⟨_, key C', .inl ⟨rfl, C', rfl, h⟩⟩
  ·exact ⟨_, key C', .inr ⟨rfl, C', rfl, h⟩⟩
 ·rintro r h1 ⟨C', rfl, h⟩;exact ⟨_, pm C', C', rfl, h⟩
theorem tf_cloneT {k : Nat} {C hs : List Thing} {v : AV} {l : List Int} (hm : ownL false v encI l ∈ C) (hC : ∀ x ∈ C, x ∈ hs) (hl : l.length < 1000) :
  TF (EL k) 101 [v] hs (RepF (fun v : AV => v) fun v => ownL false v encI l :: hs) := by
 refine TF.enter (fn := Go.Proofs.Tryz.f101) rfl rfl rfl rfl rfl ?_;refine T.seq ?_;refine T.text rfl ?_;refine TO.val rfl rfl rfl (Val.assign rfl) ?_;refine TO.nil ?_;refine T.seq ?_;refine T.seq ?_;refine T.text rfl ?_;refine TO.val rfl rfl rfl (Val.move rfl) ?_;refine TO.fact (P := ∃ id off ver ex len cap, v = .slice id off ver ex len cap) (fun S hS => ?_) (fun hv => ?_)
 ·rcases hS.ok _ (hC _ hm) with ⟨h0, _⟩ | ⟨id, ex, h1, _⟩
  ·cases h0
  ·exact ⟨_, _, _, _, _, _, h1⟩
 obtain ⟨id, off, ver, ex, len, cap, hv⟩ := hv;refine TO.val rfl rfl rfl (Val.nil_eqS rfl (congrArg some hv) rfl) ?_;refine TO.nil ?_;refine T.condF (fun a ha => ha.ev (.tmp 4) _ rfl) ?_;refine T.skip ?_;refine T.seq ?_;refine T.text rfl ?_;refine TO.build0 (en := encI) rfl rfl rfl ⟨rfl, rfl⟩ (fun v5 => ?_);refine TO.val rfl rfl rfl (Val.move rfl) ?_;refine TO.eff rfl rfl rfl (Eff.append_l (b := 8) (en := encI) (l := []) (p := 0) ⟨rfl, rfl, rfl, ⟨_, rfl, rfl⟩, by decide, by decide⟩ rfl rfl rfl (.inr ⟨false, hm⟩) (fun x hx => List.mem_cons_of_mem _ (hC x hx)) rfl rfl (flat_ones _) (by decide) (by simp; omega)) ?_;rintro v7 _ rfl;refine TO.things (hs' := ownL false v7 encI l :: hs) rfl ?_;refine TO.val rfl rfl rfl (Val.assign rfl) ?_;refine TO.nil ?_;refine T.ret ?_;exact ⟨rfl, _, rfl, ⟨v7, rfl, .refl⟩⟩
end Go.Am.YtiaolgbmbhldgaaGreatDoor
end
section
namespace Go.Am.YtiaolgbmbhldgaaGreatDoor
open Go.Am Go.RowKit
set_option linter.unusedVariables false
set_option linter.unusedSimpArgs false
set_option maxRecDepth 10000 in
theorem tf_s9_Walk {k : Nat} (hk : 1 ≤ k) {C : List Thing} {qD : AV} {qF : List Str} {qC : AV} {qE : List qH} {qB : AV} {qG : List qA} {v_books : AV} {books : List Int} {carry : Int} (qY : RdT encStr qD qF) (qZ : RdT qU qC qE) (qX : RdT qN qB qG) (ht_books : RdT encI v_books books) {r : (List Int) × Bool × Int × Int} (h : P_s9_Walk qF qE qG books carry = some r) :
  TF (EL k) 38 [.agg [qD, qC, qB], v_books, iv (carry)] C (RepF (fun (w : AV) => .tuple [w, iv r.2.2.1, iv r.2.2.2]) (fun (w : AV) => ownL r.2.1 w encI r.1 :: C)) := by
 unfold P_s9_Walk at h
 have qK : Rdl C encStr qD qF := RdT.rdl qY
 have qJ : Rdl C qU qC qE := RdT.rdl qZ
 have qI : Rdl C qN qB qG := RdT.rdl qX
 have h_books : Rdl C encI v_books books := RdT.rdl ht_books;refine TF.enterG (fn := Go.Proofs.Tryz.f38) rfl rfl rfl rfl rfl (zU rfl (zQ 3 [_,_,_] R7 (fun b3=>TO.fact (rdl_cellS h_books M1) (fun hobooks=>TO.box (k := 1) (cells := [_]) rfl rfl rfl rfl hobooks.1 rfl rfl (fun b4=>zQ 1 [_] R7 (fun b5=>zJ 1 [_] R7 (fun b6=>zJ 1 [_] R7 (fun b7=>zA R4 (zN (zU rfl (zV R3 (vW 4 [_,_,_] R5 R4) ?_)))))))))));obtain ⟨y23, hr23, h⟩ := andx_some h;refine TO.callT (first := []) (cap := []) (vs := [.agg [qD, qC, qB]]) rfl rfl rfl rfl rfl rfl (orcN rfl) (tf_s9_open aD (Rdl.mono qK M5) (Rdl.mono qJ M5) (Rdl.mono qI M5) hr23) ?_;rintro _;refine zG (_::_::_::_::_::C) rfl (zM R4 (zX R5 (zX R5 (zJ 3 [_,_,_] R7 (fun b9=>TO.fact (rdl_cellS qK M6) (fun qAd=>TO.fact (rdl_cellS qJ M6) (fun qAe=>TO.fact (rdl_cellS qI M6) (fun qAc=>TO.eff0 rfl rfl (Eff.store_row (p := 0) (cv := [_, _, _]) (cells' := [_, _, _]) rfl rfl rfl rfl rfl rfl rfl rfl (by first | rfl | (simp [GS.one, qAd.2, qAe.2, qAc.2]; done) | (simp [GS.one, qAd.2, qAe.2, qAc.2]; (repeat' apply And.intro) <;> rfl)) (by decide) rfl) ?_))))))));rintro _ rfl;refine zG (_::_::_::_::_::_::C) rfl (zA R4 (zN (zS (zB (zU rfl (zM R4 ?_))))));obtain ⟨c28, hc28⟩ := zY (¬ y23 = 0);refine zV R3 (Val.neq hc28 rfl rfl) (zA R4 (zN ?_));obtain ⟨rfl, hc28, h⟩ | ⟨rfl, hc28, h⟩ := zI hc28 h
 ·refine zC rfl (zU rfl (zM R4 (TO.eff0 rfl rfl (Eff.store_row (p := 2) (cv := [_]) (cells' := [_]) rfl rfl rfl rfl rfl rfl rfl rfl aG (by decide) rfl) ?_)));rintro _ rfl;refine zG (_::_::_::_::_::_::C) rfl (TO.eff0 rfl rfl (Eff.store_row (p := 1) (cv := [_]) (cells' := [_]) rfl rfl rfl rfl rfl rfl rfl rfl aG (by decide) rfl) ?_);rintro _ rfl;refine zG (_::_::_::_::_::_::C) rfl (zA R4 (zN (T.nilown (u := encI.u) (zR ?_))));cases h;exact ⟨rfl, _, rfl, [_, _, _], ⟨⟨_, rfl, LoadR.row (p := 3) rfl ⟨_, rfl, rfl⟩ rfl rfl⟩, ⟨⟨_, rfl, LoadR.row (p := 2) rfl ⟨_, rfl, rfl⟩ rfl rfl⟩, ⟨rfl, trivial⟩⟩⟩, ⟨nilS, rfl, (pk [0,98,98,98,98,98,98] rfl)⟩⟩
 refine zD rfl (zU rfl (zL 4 R3 R6 (zV R3 (Val.len_l h_books M6 rfl rfl) ?_)));obtain ⟨c33, hc33⟩ := zY ((books.length : Int) > 6);refine zV R3 (Val.gtr hc33 rfl rfl) (zA R4 (zN ?_));obtain ⟨rfl, hc33, h⟩ | ⟨rfl, hc33, h⟩ := zI hc33 h
 ·refine zC rfl (zU rfl (TO.eff0 rfl rfl (Eff.store_row (p := 2) (cv := [_]) (cells' := [_]) rfl rfl rfl rfl rfl rfl rfl rfl aG (by decide) rfl) ?_));rintro _ rfl;refine zG (_::_::_::_::_::_::C) rfl (TO.eff0 rfl rfl (Eff.store_row (p := 1) (cv := [_]) (cells' := [_]) rfl rfl rfl rfl rfl rfl rfl rfl aG (by decide) rfl) ?_);rintro _ rfl;refine zG (_::_::_::_::_::_::C) rfl (zA R4 (zN (T.nilown (u := encI.u) (zR ?_))));cases h;exact ⟨rfl, _, rfl, [_, _, _], ⟨⟨_, rfl, LoadR.row (p := 3) rfl ⟨_, rfl, rfl⟩ rfl rfl⟩, ⟨⟨_, rfl, LoadR.row (p := 2) rfl ⟨_, rfl, rfl⟩ rfl rfl⟩, ⟨rfl, trivial⟩⟩⟩, ⟨nilS, rfl, (pk [0,98,98,98,98,98,98] rfl)⟩⟩
 refine zD rfl (zU rfl (zF 2 R6 (zL 5 R3 R6 (zV R3 (Val.len_l qI M6 rfl rfl) ?_))));obtain ⟨hk38, h⟩ := chk_some h;refine zV R3 (Val.sub rfl rfl hk38) (zL 4 R3 R6 ?_);obtain ⟨y40, hr40, h⟩ := andx_some h;refine TO.callT (first := []) (cap := []) (vs := [iv (0), iv (((qG.length : Int) - 1)), v_books]) rfl rfl rfl rfl rfl rfl (orcN rfl) (tf_s9_out aD (Rdl.mono h_books M6) hr40) ?_;rintro _;refine zG (_::_::_::_::_::_::C) rfl (zA R4 (zN ?_));obtain ⟨rfl, h⟩ | ⟨rfl, h⟩ := zZ h
 ·refine zC rfl (zU rfl (TO.eff0 rfl rfl (Eff.store_row (p := 2) (cv := [_]) (cells' := [_]) rfl rfl rfl rfl rfl rfl rfl rfl aG (by decide) rfl) ?_));rintro _ rfl;refine zG (_::_::_::_::_::_::C) rfl (TO.eff0 rfl rfl (Eff.store_row (p := 1) (cv := [_]) (cells' := [_]) rfl rfl rfl rfl rfl rfl rfl rfl aG (by decide) rfl) ?_);rintro _ rfl;refine zG (_::_::_::_::_::_::C) rfl (zA R4 (zN (T.nilown (u := encI.u) (zR ?_))));cases h;exact ⟨rfl, _, rfl, [_, _, _], ⟨⟨_, rfl, LoadR.row (p := 3) rfl ⟨_, rfl, rfl⟩ rfl rfl⟩, ⟨⟨_, rfl, LoadR.row (p := 2) rfl ⟨_, rfl, rfl⟩ rfl rfl⟩, ⟨rfl, trivial⟩⟩⟩, ⟨nilS, rfl, (pk [0,98,98,98,98,98,98] rfl)⟩⟩
 refine zD rfl (zK (zS (zU rfl (zL 4 R3 R6 (zV R3 (Val.makeFunc rfl rfl) ?_)))));refine TO.callJ (W := Unit) (fun (j : Int × Int) (w : Unit) => .tuple [iv (j.1), iv (j.2)]) (fun (j : Int × Int) (w : Unit) => .row b9 3 [qD, qC, qB] :: .row b7 1 [iv (0)] :: .row b6 1 [nilS] :: .row b5 1 [iv (carry)] :: .row b4 1 [v_books] :: .row b3 3 [qD, qC, qB] :: C) h rfl rfl rfl rfl rfl rfl (orcN rfl) ?_ ?_
 ·intro j h;refine TF.enter (fn := Go.Proofs.Tryz.f107) rfl rfl rfl rfl rfl (zU rfl (zA R4 (zA R4 (zN ?_))))
  show T _ _ _ _ _ _;apply T.join (r := j) (W := Unit) (fun j w => ⟨[], [], .row b9 3 [qD, qC, qB] :: .row b7 1 [iv (0)] :: .row b6 1 [nilS] :: .row b5 1 [iv (carry)] :: .row b4 1 [v_books] :: .row b3 3 [qD, qC, qB] :: C⟩) h
  ·intro j h;refine zU rfl (zM R4 (zV R3 (Val.len_l h_books M6 rfl rfl) (zM R4 (zN (zB ?_)))))
   show T _ _ _ _ _ _;apply T.iter (r := j) (W := Unit) (fun j w => ⟨[], [(1, .func 108 [] [.ptr b4 0 1]), (9, v_books), (10, iv ((books.length : Int))), (11, iv (j))], .row b9 3 [qD, qC, qB] :: .row b7 1 [iv (0)] :: .row b6 1 [nilS] :: .row b5 1 [iv (carry)] :: .row b4 1 [v_books] :: .row b3 3 [qD, qC, qB] :: C⟩) (w0 := ()) h
   ·exact (sb .refl)
   rintro x11 _ a h;unfold P_s9_Walk_L1 at h;refine zU rfl ?_;obtain ⟨c12, hc12⟩ := zY (x11 < (books.length : Int));refine zV R3 (Val.lss hc12 rfl rfl) (zN (zS ?_));obtain ⟨rfl, hc12, h⟩ | ⟨rfl, hc12, h⟩ := zI hc12 h
   ·refine zC rfl (zK (zS (zB (zU rfl (zM R4 ?_)))));obtain ⟨a14, hia14, ea14, h⟩ := el_some h;refine TO.fact (rdl_at h_books M6 hia14 ea14) (fun hp=>?_);obtain ⟨pa14, hpa14, hva14⟩ := hp;refine zV R3 (hva14 ⟨rfl, rfl⟩ rfl rfl) (zV R3 (Val.load_e hpa14 M6 ⟨_, rfl, rfl⟩ rfl rfl) (zA R4 (zA R4 (zN (zU rfl (zM R4 (zM R4 (zM R4 ?_))))))));refine TO.callJ (W := Unit) (fun (j : Int) (w : Unit) => iv (j)) (fun (j : Int) (w : Unit) => .row b9 3 [qD, qC, qB] :: .row b7 1 [iv (0)] :: .row b6 1 [nilS] :: .row b5 1 [iv (carry)] :: .row b4 1 [v_books] :: .row b3 3 [qD, qC, qB] :: C) h rfl rfl rfl rfl rfl rfl (orcN rfl) ?_ ?_
    ·intro j h;refine TF.enter (fn := Go.Proofs.Tryz.f108) rfl rfl rfl rfl rfl (zU rfl (zA R4 (zN (zS (zU rfl (zL 4 R3 R6 (zM R4 ?_)))))));obtain ⟨hk8, h⟩ := chk_some h;obtain ⟨w8, htw8, hgw8, hvw8⟩ := slice_T ht_books hk8
     have hw8 : Rdl C encI w8 (List.take (x11 - (0 : Int)).toNat (List.drop ((0 : Int) : Int).toNat books)) := RdT.rdl htw8;refine zV R3 (hvw8 ⟨rfl, rfl⟩ rfl .no (.some rfl)) (zM R4 (TO.callIn rfl rfl rfl rfl rfl rfl (orcN rfl) (TF.enter (fn := Go.Proofs.Tryz.f109) rfl rfl rfl rfl rfl (zU rfl (zA R4 (zN (zU rfl (zM R4 (zM R4 ?_)))))))));refine TO.callJ (W := Unit) (fun (j : Int) (w : Unit) => iv (j)) (fun (j : Int) (w : Unit) => .row b9 3 [qD, qC, qB] :: .row b7 1 [iv (0)] :: .row b6 1 [nilS] :: .row b5 1 [iv (carry)] :: .row b4 1 [v_books] :: .row b3 3 [qD, qC, qB] :: C) h rfl rfl rfl rfl rfl rfl (orcN rfl) ?_ ?_
     ·intro j h;refine TF.enter (fn := Go.Proofs.Tryz.f138) rfl rfl rfl rfl rfl (zU rfl (zA R4 (zN ?_)))
      show T _ _ _ _ _ _;apply T.join (r := j) (W := Unit) (fun j w => ⟨[], [], .row b9 3 [qD, qC, qB] :: .row b7 1 [iv (0)] :: .row b6 1 [nilS] :: .row b5 1 [iv (carry)] :: .row b4 1 [v_books] :: .row b3 3 [qD, qC, qB] :: C⟩) h
      ·intro j h;refine zU rfl (zM R4 (zV R3 (Val.len_l hw8 M6 rfl rfl) (zM R4 (zN (zB ?_)))))
       show T _ _ _ _ _ _;apply T.iter (r := j) (W := Unit) (fun j w => ⟨[], [(0, w8), (1, iv (a14)), (7, iv (((List.take (x11 - (0 : Int)).toNat (List.drop ((0 : Int) : Int).toNat books)).length : Int))), (8, iv (j))], .row b9 3 [qD, qC, qB] :: .row b7 1 [iv (0)] :: .row b6 1 [nilS] :: .row b5 1 [iv (carry)] :: .row b4 1 [v_books] :: .row b3 3 [qD, qC, qB] :: C⟩) (w0 := ()) h
       ·exact (sb .refl)
       rintro x8 _ a h;unfold P_s9_Walk_L2 at h;refine zU rfl ?_;obtain ⟨c9, hc9⟩ := zY (x8 < ((List.take (x11 - (0 : Int)).toNat (List.drop ((0 : Int) : Int).toNat books)).length : Int));refine zV R3 (Val.lss hc9 rfl rfl) (zN (zS ?_));obtain ⟨rfl, hc9, h⟩ | ⟨rfl, hc9, h⟩ := zI hc9 h
       ·refine zC rfl (zK (zS (zB (zU rfl (zM R4 (zA R4 (zN (zU rfl (zM R4 (zM R4 (zM R4 ?_)))))))))));obtain ⟨a14_2, hia14_2, ea14_2, h⟩ := el_some h;refine TO.fact (rdl_at hw8 M6 hia14_2 ea14_2) (fun hp=>?_);obtain ⟨pa14_2, hpa14_2, hva14_2⟩ := hp;refine zV R3 (hva14_2 ⟨rfl, rfl⟩ rfl rfl) (zV R3 (Val.load_e hpa14_2 M6 ⟨_, rfl, rfl⟩ rfl rfl) ?_);obtain ⟨c16, hc16⟩ := zY (a14 = a14_2);refine zV R3 (Val.eql hc16 rfl rfl) (zN ?_);obtain ⟨rfl, hc16, h⟩ | ⟨rfl, hc16, h⟩ := zI hc16 h
        ·refine zC rfl (zU rfl (zM R4 (zA R4 (zN (zR ?_)))));cases h;exact ⟨ret_ne, ⟨ret_ne, ⟨rfl, _, rfl, ⟨(), rfl, .refl⟩⟩⟩⟩
        refine zD rfl (zK (zT rfl ?_));obtain ⟨hk18, h⟩ := chk_some h;refine zV R3 (Val.add rfl rfl hk18) (zM R4 (zN ?_));cases h;exact ⟨rfl, (), (sb .refl)⟩
       refine zD rfl (zE ?_);cases h;exact ⟨ex_ne, ⟨rfl, (), (sb .refl)⟩⟩
      ·rintro _ _ h;refine zU rfl (zA R4 (zN (zR ?_)));cases h;exact ⟨rfl, _, rfl, ⟨(), rfl, .refl⟩⟩
     ·rintro y7 _ h;refine zG (_::_::_::_::_::_::C) rfl ?_;obtain ⟨c8, hc8⟩ := zY (y7 ≥ 0);refine zV R3 (Val.geq hc8 rfl rfl) (zA R4 (zN (zR ?_)));refine ⟨rfl, _, rfl, ?_⟩;refine zN ?_;obtain ⟨rfl, hc8, h⟩ | ⟨rfl, hc8, h⟩ := zI hc8 h
      ·refine zC rfl (zU rfl (zA R4 (zN (zR ?_))));cases h;exact ⟨rfl, _, rfl, ⟨(), rfl, .refl⟩⟩
      refine zD rfl (zK (zU rfl (zA R4 (zN (zR ?_)))));cases h;exact ⟨rfl, _, rfl, ⟨(), rfl, .refl⟩⟩
    ·rintro y19 _ h;refine zG (_::_::_::_::_::_::C) rfl (zA R4 (zN (zU rfl (zM R4 ?_))));obtain ⟨c21, hc21⟩ := zY (¬ y19 = 0);refine zV R3 (Val.neq hc21 rfl rfl) (zN ?_);obtain ⟨rfl, hc21, h⟩ | ⟨rfl, hc21, h⟩ := zI hc21 h
     ·refine zC rfl (zU rfl (zM R4 (zM R4 (zA R4 (zA R4 (zN (zR ?_)))))));cases h;exact ⟨ret_ne, ⟨ret_ne, ⟨rfl, _, rfl, ⟨(), rfl, .refl⟩⟩⟩⟩
     refine zD rfl (zK (zT rfl ?_));obtain ⟨hk24, h⟩ := chk_some h;refine zV R3 (Val.add rfl rfl hk24) (zM R4 (zN ?_));cases h;exact ⟨rfl, (), (sb .refl)⟩
   refine zD rfl (zE ?_);cases h;exact ⟨ex_ne, ⟨rfl, (), (sb .refl)⟩⟩
  ·rintro _ _ h;refine zU rfl (zA R4 (zA R4 (zN (zR ?_))));cases h;exact ⟨rfl, _, rfl, ⟨(), rfl, .refl⟩⟩
 ·rintro ⟨y44, y44_2⟩ _ h;dsimp only at h;refine zG (_::_::_::_::_::_::C) rfl (zM R4 (zX R5 (zX R5 (zA R4 (zN (zU rfl (zM R4 ?_)))))));obtain ⟨c48, hc48⟩ := zY (¬ y44_2 = 0);refine zV R3 (Val.neq hc48 rfl rfl) (zN ?_);obtain ⟨rfl, hc48, h⟩ | ⟨rfl, hc48, h⟩ := zI hc48 h
  ·refine zC rfl (zU rfl (zM R4 (TO.eff0 rfl rfl (Eff.store_row (p := 2) (cv := [_]) (cells' := [_]) rfl rfl rfl rfl rfl rfl rfl rfl aG (by decide) rfl) ?_)));rintro _ rfl;refine zG (_::_::_::_::_::_::C) rfl (TO.eff0 rfl rfl (Eff.store_row (p := 1) (cv := [_]) (cells' := [_]) rfl rfl rfl rfl rfl rfl rfl rfl aG (by decide) rfl) ?_);rintro _ rfl;refine zG (_::_::_::_::_::_::C) rfl (zA R4 (zN (T.nilown (u := encI.u) (zR ?_))));cases h;exact ⟨rfl, _, rfl, [_, _, _], ⟨⟨_, rfl, LoadR.row (p := 3) rfl ⟨_, rfl, rfl⟩ rfl rfl⟩, ⟨⟨_, rfl, LoadR.row (p := 2) rfl ⟨_, rfl, rfl⟩ rfl rfl⟩, ⟨rfl, trivial⟩⟩⟩, ⟨nilS, rfl, (pk [0,98,98,98,98,98,98] rfl)⟩⟩
  refine zD rfl (zK (zS (zU rfl (zL 3 R3 R6 (TO.build1 (en := encI) (a := carry) rfl rfl rfl ⟨rfl, rfl⟩ ⟨_, rfl, rfl⟩ (by decide) (by decide) rfl rfl (fun v51=>?_))))));obtain ⟨y52, hr52, h⟩ := andx_some h;refine TO.callT (first := []) (cap := []) (vs := [iv (1), iv (100), v51]) rfl rfl rfl rfl rfl rfl (orcN rfl) (tf_s9_out aD (Rdl.mono (Rdl.own (C := ownL false v51 encI [carry] :: .row b9 3 [qD, qC, qB] :: .row b7 1 [iv (0)] :: .row b6 1 [nilS] :: .row b5 1 [iv (carry)] :: .row b4 1 [v_books] :: .row b3 3 [qD, qC, qB] :: C) (p := 0) rfl) mem0) hr52) ?_;rintro _;refine zG (_::_::_::_::_::_::_::C) rfl (zN ?_);obtain ⟨rfl, h⟩ | ⟨rfl, h⟩ := zZ h
  ·refine zC rfl (zU rfl (TO.eff0 rfl rfl (Eff.store_row (p := 3) (cv := [_]) (cells' := [_]) rfl rfl rfl rfl rfl rfl rfl rfl aG (by decide) rfl) ?_));rintro _ rfl;refine zG (_::_::_::_::_::_::_::C) rfl (TO.eff0 rfl rfl (Eff.store_row (p := 2) (cv := [_]) (cells' := [_]) rfl rfl rfl rfl rfl rfl rfl rfl aG (by decide) rfl) ?_);rintro _ rfl;refine zG (_::_::_::_::_::_::_::C) rfl (zA R4 (zN (T.nilown (u := encI.u) (zR ?_))));cases h;exact ⟨rfl, _, rfl, [_, _, _], ⟨⟨_, rfl, LoadR.row (p := 4) rfl ⟨_, rfl, rfl⟩ rfl rfl⟩, ⟨⟨_, rfl, LoadR.row (p := 3) rfl ⟨_, rfl, rfl⟩ rfl rfl⟩, ⟨rfl, trivial⟩⟩⟩, ⟨nilS, rfl, (pk [0,98,98,98,98,98,98,98] rfl)⟩⟩
  refine zD rfl (zK ?_)
  show T _ _ _ _ _ _;apply T.join (r := r) (W := Unit) (fun j w => ⟨[], [(4, .ptr b4 0 1), (5, .ptr b5 0 1), (6, .ptr b6 0 1), (7, .ptr b7 0 1), (8, iv (y44_2)), (9, .ptr b9 0 3)], .row b9 3 [qD, qC, qB] :: .row b7 1 [iv (0)] :: .row b6 1 [nilS] :: .row b5 1 [iv (carry)] :: .row b4 1 [v_books] :: .row b3 3 [qD, qC, qB] :: C⟩) h
  ·intro j h;refine zU rfl (zL 5 R3 R6 (zV R3 (Val.len_l h_books M7 rfl rfl) (zM R4 (zN (zB ?_)))))
   show T _ _ _ _ _ _;apply T.iter (r := j) (W := Unit) (fun j w => ⟨[], [(3, .ptr b3 0 3), (4, .ptr b4 0 1), (5, .ptr b5 0 1), (6, .ptr b6 0 1), (7, .ptr b7 0 1), (8, iv (y44_2)), (9, .ptr b9 0 3), (53, v_books), (54, iv ((books.length : Int))), (55, iv (j))], .row b9 3 [qD, qC, qB] :: .row b7 1 [iv (0)] :: .row b6 1 [nilS] :: .row b5 1 [iv (carry)] :: .row b4 1 [v_books] :: .row b3 3 [qD, qC, qB] :: C⟩) (w0 := ()) h
   ·exact (sb (pk [1,1,1,1,1,1,98] rfl))
   rintro x55 _ a h;unfold P_s9_Walk_L3 at h;refine zU rfl ?_;obtain ⟨c56, hc56⟩ := zY (x55 < (books.length : Int));refine zV R3 (Val.lss hc56 rfl rfl) (zN (zS ?_));obtain ⟨rfl, hc56, h⟩ | ⟨rfl, hc56, h⟩ := zI hc56 h
   ·refine zC rfl (zK (zS (zB (zU rfl ?_))));obtain ⟨a57, hia57, ea57, h⟩ := el_some h;refine TO.fact (rdl_at h_books M6 hia57 ea57) (fun hp=>?_);obtain ⟨pa57, hpa57, hva57⟩ := hp;refine zV R3 (hva57 ⟨rfl, rfl⟩ rfl rfl) (zV R3 (Val.load_e hpa57 M6 ⟨_, rfl, rfl⟩ rfl rfl) (zA R4 (zN (zS (T.draw (fun v => sameC_refl v) (l1 := [0, 1, 2, 3, 4, 5, 6, 7]) (l2 := []) (by kernel_rfl) (by kernel_rfl) (zF 2 R6 (zL 5 R3 R6 (zM R4 ?_))))))));obtain ⟨a62, hia62, ea62, h⟩ := el_some h;refine TO.fact (rdl_at qI M6 hia62 ea62) (fun hp=>?_);obtain ⟨pa62, hpa62, hva62⟩ := hp;refine zV R3 (hva62 ⟨rfl, rfl⟩ rfl rfl) (zV R3 (Val.faddr_e (fo := 5) hpa62 rfl rfl rfl) (zV R3 (Val.load_e (PtE.add hpa62 (by decide)) M6 ⟨_, rfl, rfl⟩ rfl rfl) (zL 3 R3 R6 ?_)));obtain ⟨c66, hc66⟩ := zY (a62.heavy > carry);refine zV R3 (Val.gtr hc66 rfl rfl) (zN ?_);obtain ⟨rfl, hc66, h⟩ | ⟨rfl, hc66, h⟩ := zI hc66 h
    ·refine zC rfl (zU rfl (TO.eff0 rfl rfl (Eff.store_row (p := 2) (cv := [_]) (cells' := [_]) rfl rfl rfl rfl rfl rfl rfl rfl aG (by decide) rfl) ?_));rintro _ rfl;refine zG (_::_::_::_::_::_::C) rfl (TO.eff0 rfl rfl (Eff.store_row (p := 1) (cv := [_]) (cells' := [_]) rfl rfl rfl rfl rfl rfl rfl rfl aG (by decide) rfl) ?_);rintro _ rfl;refine zG (_::_::_::_::_::_::C) rfl (zA R4 (zN (T.nilown (u := encI.u) (zR ?_))));cases h;exact ⟨ret_ne, ⟨ret_ne, ⟨rfl, _, rfl, [_, _, _], ⟨⟨_, rfl, LoadR.row (p := 3) rfl ⟨_, rfl, rfl⟩ rfl rfl⟩, ⟨⟨_, rfl, LoadR.row (p := 2) rfl ⟨_, rfl, rfl⟩ rfl rfl⟩, ⟨rfl, trivial⟩⟩⟩, ⟨nilS, rfl, (pk [0,98,98,98,98,98,98] rfl)⟩⟩⟩⟩
    refine zD rfl (zK (zT rfl ?_));obtain ⟨hk67, h⟩ := chk_some h;refine zV R3 (Val.add rfl rfl hk67) (zM R4 (zN ?_));cases h;exact ⟨rfl, (), (sb .refl)⟩
   refine zD rfl (zE ?_);cases h;exact ⟨ex_ne, ⟨rfl, (), (sb .refl)⟩⟩
  ·rintro _ _ h;refine zU rfl (zJ 1 [_] R7 (fun b12=>TO.eff0 rfl rfl (Eff.store_row (p := 0) (cv := [_]) (cells' := [_]) rfl rfl rfl rfl rfl rfl rfl rfl aG (by decide) rfl) ?_));rintro _ rfl;refine zG (_::_::_::_::_::_::_::C) rfl (zN ?_)
   show T _ _ _ _ _ _;apply T.joinA (r := r) (W := Nat × AV) (fun j w => ⟨[w.1], [(6, .ptr b6 0 1), (7, .ptr b7 0 1)], .obj w.1 (.dfr true) :: ownL j.2.1 w.2 encI j.1 :: .row b12 1 [bv j.2.2.1] :: .row b7 1 [iv (j.2.2.2)] :: .row b6 1 [w.2] :: .row b9 3 [qD, qC, qB] :: .row b5 1 [iv (carry)] :: .row b4 1 [v_books] :: .row b3 3 [qD, qC, qB] :: C⟩) h
   ·intro j h;refine zU rfl (zL 5 R3 R6 (zV R3 (Val.len_l h_books M7 rfl rfl) (TO.callIn rfl rfl rfl rfl rfl rfl (orcN rfl) (TF.enter (fn := Go.Proofs.Tryz.f110) rfl rfl rfl rfl rfl (zU rfl (zQ 1 [_] R7 (fun b1=>zA R4 (zN (zU rfl (zV R3 (Val.makeFunc rfl rfl) (zA R4 (zN (zR ?_)))))))))))));refine ⟨rfl, _, rfl, ?_⟩;refine zN (zB (T.nilown (u := encI.u) ?_));obtain ⟨hkR4, h⟩ := chk_some h
    show T _ _ _ _ _ _;apply T.rangeP (r := j) (W := AV) (w0 := nilS) ArgW (fun (j : (List Int) × Bool × Bool × Int) (w : AV) => [ownL j.2.1 w encI j.1, .row b12 1 [bv j.2.2.1], .row b7 1 [iv (j.2.2.2)], .row b6 1 [w]]) (.row b1 1 [iv ((books.length : Int))] :: .row b9 3 [qD, qC, qB] :: .row b5 1 [iv (carry)] :: .row b4 1 [v_books] :: .row b3 3 [qD, qC, qB] :: C) h
    ·rfl
    ·rfl
    ·rfl
    ·exact (pk [0,1,2,2] rfl)
    ·exact wk_yields (many := books.length) (List.mem_of_getElem? (i := 0) rfl) hkR4
    ·rintro l4 d ⟨trips, z, found, way⟩ v16 p vs G F4 ans hmem harg hD hG h;unfold P_s9_Walk_L4 at h;dsimp only at h;obtain ⟨v1_p, v2_p, w0_p, b_p, rfl, rfl, hS_p⟩ := harg
     have hm_p : ownL false v1_p encI p.1 ∈ F4 := hG _ (by simp)
     have hT_p : Rdl F4 encI v1_p p.1 := .inr ⟨false, hm_p⟩
     have hP_p : RdP F4 v2_p p.2 := ⟨true, w0_p, b_p, hG _ (by simp), hS_p⟩
     have hCF : ∀ x ∈ C, x ∈ F4 := fun x hx => hD x (memS M4 x hx)
     replace qK := Rdl.mono qK hCF;replace qJ := Rdl.mono qJ hCF;replace qI := Rdl.mono qI hCF;replace h_books := Rdl.mono h_books hCF
     have hu4_t15 : Thing.row b1 1 [iv ((books.length : Int))] ∈ F4 := (hD _ (List.mem_of_getElem? (i := 0) rfl))
     have hu4_t6 : Thing.row b9 3 [qD, qC, qB] ∈ F4 := (hD _ (List.mem_of_getElem? (i := 1) rfl))
     have hu4_t3 : Thing.row b5 1 [iv (carry)] ∈ F4 := (hD _ (List.mem_of_getElem? (i := 2) rfl))
     have hu4_t2 : Thing.row b4 1 [v_books] ∈ F4 := (hD _ (List.mem_of_getElem? (i := 3) rfl))
     have hu4_t1 : Thing.row b3 3 [qD, qC, qB] ∈ F4 := (hD _ (List.mem_of_getElem? (i := 4) rfl));refine ⟨_, rfl, fun LR4 LB4 hLB4 => ?_⟩;refine T.things (hs' := LR4 :: ownL z v16 encI trips :: .row b12 1 [bv found] :: .row b7 1 [iv (way)] :: .row b6 1 [v16] :: F4) rfl (zU rfl (zA R4 (zN (zT rfl (zA R4 (zN ?_))))));refine ⟨rfl, 0, rfl, ?_⟩;refine T.things (hs' := LB4 :: ownL z v16 encI trips :: .row b12 1 [bv found] :: .row b7 1 [iv (way)] :: .row b6 1 [v16] :: F4) rfl (zB (zU rfl (zA R4 (zN (zU rfl (zA R4 (zN ?_)))))))
     show T _ _ _ _ _ _;apply T.joinA (r := ans) (W := Unit) (fun j w => ⟨[], [(6, .ptr b6 0 1), (7, .ptr b7 0 1), (12, .ptr b12 0 1), (13, v1_p), (15, iv (j.1)), (16, bv j.2)], LB4 :: ownL z v16 encI trips :: .row b12 1 [bv found] :: .row b7 1 [iv (way)] :: .row b6 1 [v16] :: F4⟩) h
     ·intro j h;refine zU rfl (zM R4 (zV R3 (Val.len_P hP_p M5 rfl rfl) (zM R4 (zN (zB ?_)))))
      show T _ _ _ _ _ _;apply T.iter (r := j) (W := Unit) (fun j w => ⟨[], [(4, .ptr b4 0 1), (5, .ptr b5 0 1), (6, .ptr b6 0 1), (7, .ptr b7 0 1), (9, .ptr b9 0 3), (12, .ptr b12 0 1), (13, v1_p), (15, iv (j.1)), (16, bv j.2.1), (73, v2_p), (74, iv ((p.2.length : Int))), (75, iv (j.2.2))], LB4 :: ownL z v16 encI trips :: .row b12 1 [bv found] :: .row b7 1 [iv (way)] :: .row b6 1 [v16] :: F4⟩) (w0 := ()) h
      ·exact (sb .refl)
      rintro ⟨sum, light, x75⟩ _ a h;unfold P_s9_Walk_L5 at h;dsimp only at h;dsimp only;refine zU rfl ?_;obtain ⟨c76, hc76⟩ := zY (x75 < (p.2.length : Int));refine zV R3 (Val.lss hc76 rfl rfl) (zN (zS ?_));obtain ⟨rfl, hc76, h⟩ | ⟨rfl, hc76, h⟩ := zI hc76 h
      ·refine zC rfl (zK ?_)
       show T _ _ _ _ _ _;apply T.joinA (r := a) (W := Unit) (fun j w => ⟨[], [(4, .ptr b4 0 1), (5, .ptr b5 0 1), (6, .ptr b6 0 1), (7, .ptr b7 0 1), (9, .ptr b9 0 3), (12, .ptr b12 0 1), (13, v1_p), (15, iv (j.1)), (16, bv j.2), (73, v2_p), (74, iv ((p.2.length : Int))), (75, iv (x75))], LB4 :: ownL z v16 encI trips :: .row b12 1 [bv found] :: .row b7 1 [iv (way)] :: .row b6 1 [v16] :: F4⟩) h
       ·intro j h;refine zB (zU rfl ?_);obtain ⟨a77, hia77, ea77, h⟩ := el_some h;refine TO.fact (rdP_at hP_p M5 hia77 ea77) (fun hp=>?_);obtain ⟨pa77, hpa77, hva77⟩ := hp;refine zV R3 (hva77 ⟨rfl, rfl⟩ rfl rfl) (zV R3 (Val.load_e hpa77 M5 ⟨_, rfl, rfl⟩ rfl rfl) (zA R4 (zN (zU rfl (zV R3 (Val.load_rowsM (c := [_, _, _]) hu4_t6 M5 ⟨⟨_, rfl, rfl⟩, rfl, by decide⟩ rfl rfl rfl rfl) (zV R3 (Val.load_rowM hu4_t2 M5 ⟨_, rfl, rfl⟩ rfl rfl rfl) (zM R4 ?_)))))));obtain ⟨⟨y83, y83_2⟩, hr83, h⟩ := andx_some h;dsimp only at h;refine TO.callT (first := []) (cap := []) (vs := [.agg [qD, qC, qB], v_books, iv (a77)]) rfl rfl rfl rfl rfl rfl (orcN rfl) (tf_s9_trip aD (Rdl.mono qK M5) (Rdl.mono qJ M5) (Rdl.mono qI M5) (Rdl.mono h_books M5) hr83) ?_;rintro _;refine zG (_::_::_::_::_::F4) rfl (zM R4 (zX R5 (zX R5 (zA R4 (zA R4 (zN (zU rfl (zM R4 (zM R4 ?_)))))))));obtain ⟨hk88, h⟩ := chk_some h;refine zV R3 (Val.add rfl rfl hk88) (zA R4 (zN (zT rfl (zM R4 (zM R4 ?_)))));obtain ⟨rfl, h⟩ | ⟨rfl, h⟩ := zZ h
        ·refine zM R4 (zV R3 (Val.load_rowM hu4_t3 M5 ⟨_, rfl, rfl⟩ rfl rfl rfl) ?_);obtain ⟨c93, hc93⟩ := zY (y83_2 ≤ carry);refine zV R3 (Val.leq hc93 rfl rfl) (zP R6 (zA R4 (zN ?_)));subst hc93;cases h;exact ⟨rfl, (), (sb .refl)⟩
        refine zO R3 (zO R3 (zO R3 (zP R6 (zA R4 (zN ?_)))));cases h;exact ⟨rfl, (), (sb .refl)⟩
       ·rintro ⟨sum_2, light_2⟩ _ h;dsimp only at h;dsimp only;refine zT rfl ?_;obtain ⟨hk95, h⟩ := chk_some h;refine zV R3 (Val.add rfl rfl hk95) (zM R4 (zN ?_));cases h;exact ⟨rfl, (), (sb .refl)⟩
      refine zD rfl (zE ?_);cases h;exact ⟨ex_ne, ⟨rfl, (), (sb .refl)⟩⟩
     ·rintro ⟨sum, light⟩ _ h;dsimp only at h;dsimp only
      show T _ _ _ _ _ _;apply T.joinA (r := ans) (W := Unit) (fun j w => ⟨[], [(6, .ptr b6 0 1), (7, .ptr b7 0 1), (12, .ptr b12 0 1), (13, v1_p), (15, iv (sum)), (105, bv j.1)], LB4 :: ownL z v16 encI trips :: .row b12 1 [bv j.2] :: .row b7 1 [iv (way)] :: .row b6 1 [v16] :: F4⟩) h
      ·intro j h;refine zT rfl (zM R4 (zM R4 ?_));obtain ⟨rfl, h⟩ | ⟨rfl, h⟩ := zZ h
       ·refine zL 2 R3 R6 (zV R3 (Val.not rfl) (zM R4 ?_));obtain ⟨rfl, h⟩ | ⟨rfl, h⟩ := zZ h
        ·refine zM R4 (zL 3 R3 R6 ?_);obtain ⟨c103, hc103⟩ := zY (sum < way);refine zV R3 (Val.lss hc103 rfl rfl) (zP R6 (zP R6 (zN ?_)));subst hc103;cases h;exact ⟨rfl, (), (sb .refl)⟩
        refine zO R3 (zO R3 (zO R3 (zP R6 (zP R6 (zN ?_)))));cases h;exact ⟨rfl, (), (sb .refl)⟩
       refine zO R3 (zO R3 (zO R3 (zO R3 (zO R3 (zO R3 (zO R3 (zP R6 (zN ?_))))))));cases h;exact ⟨rfl, (), (sb .refl)⟩
      ·rintro ⟨x105, found_2⟩ _ h;dsimp only at h;dsimp only;obtain ⟨rfl, h⟩ | ⟨rfl, h⟩ := zZ h
       ·refine zC rfl (zT rfl (zM R4 ?_));obtain ⟨hk107, h⟩ := chk_some h;refine TO.callT (first := []) (cap := []) (vs := [v1_p]) rfl rfl rfl rfl rfl rfl (orcN rfl) (tf_cloneT hm_p M5 hk107) ?_;rintro v107;refine zG (_::_::_::_::_::_::F4) rfl (zM R4 (TO.fact (own_cellS (p := 0) rfl) (fun hot20=>TO.eff0 rfl rfl (Eff.store_row (p := 5) (cv := [_]) (cells' := [_]) rfl rfl rfl rfl rfl hot20.1 rfl rfl (by first | rfl | (simp [GS.one, hot20.2]; done)) (by decide) rfl) ?_)));rintro _ rfl;refine zG (_::_::_::_::_::_::F4) rfl (TO.eff0 rfl rfl (Eff.store_row (p := 4) (cv := [_]) (cells' := [_]) rfl rfl rfl rfl rfl rfl rfl rfl aG (by decide) rfl) ?_);rintro _ rfl;refine zG (_::_::_::_::_::_::F4) rfl (TO.eff0 rfl rfl (Eff.store_row (p := 3) (cv := [_]) (cells' := [_]) rfl rfl rfl rfl rfl rfl rfl rfl aG (by decide) rfl) ?_);rintro _ rfl;refine zG (_::_::_::_::_::_::F4) rfl (zN ?_);cases h;exact ⟨rfl, v107, (pk [1,0,1,1,1,98] rfl)⟩
       refine zD rfl (zK ?_);cases h;exact ⟨rfl, v16, .refl⟩
    ·rintro d ⟨trips, z, found, way⟩ v16 h;dsimp only at h;cases h;exact ⟨rfl, (d, v16), (sb (pk [0,0,0,0,0,1,1,1,1,98] rfl))⟩
   ·rintro ⟨trips, z, found, way⟩ ⟨iddfr4, v16⟩ h;dsimp only at h;dsimp only;refine zS (T.drawE (l1 := [0, 1]) (l2 := [2, 3, 4]) (by kernel_rfl) (by kernel_rfl) (yR R4 (vR (p := 4) R6) (yR R4 (vR (p := 3) R6) (TD1.over (fun v => sameC_refl v) (all_cons (⟨_, rfl, (vR (p := 3) R6)⟩) (all_cons (⟨_, rfl, (vR (p := 4) R6)⟩) all_nil)) (TD2.fact (own_cellS (p := 1) rfl) (fun hot16=>TD2.heavy (fun v => sameC_refl v) rfl (by decide) rfl rfl (OpS.eff (Eff.store_row (p := 4) (cv := [_]) (cells' := [_]) rfl rfl rfl rfl rfl hot16.1 rfl rfl (by first | rfl | (simp [GS.one, hot16.2]; done)) (by decide) rfl)) ?_))))));rintro _ _ rfl;refine ⟨(all_cons (.inr ⟨_, rfl, (vR (p := 3) R6)⟩) (all_cons (.inl (by kernel_rfl)) all_nil)), all_nil, ?_⟩;refine yG (_::_::_::_::_::_::_::_::_::C) rfl (TD2.heavy (fun v => sameC_refl v) rfl (by decide) rfl rfl (OpS.eff (Eff.store_row (p := 3) (cv := [_]) (cells' := [_]) rfl rfl rfl rfl rfl rfl rfl rfl aG (by decide) rfl)) ?_);rintro _ _ rfl;refine ⟨(all_cons (.inl (by kernel_rfl)) (all_cons (.inl (by kernel_rfl)) all_nil)), all_nil, ?_⟩;refine yG (_::_::_::_::_::_::_::_::_::C) rfl (yM R4 (Val.assign rfl) (TD2.nil (zR ?_)));cases h;exact ⟨rfl, _, ⟨0, rfl, rfl⟩, [_, _, _], ⟨⟨_, rfl, LoadR.row (p := 3) rfl ⟨_, rfl, rfl⟩ rfl rfl⟩, ⟨⟨_, rfl, LoadR.row (p := 2) rfl ⟨_, rfl, rfl⟩ rfl rfl⟩, ⟨rfl, trivial⟩⟩⟩, ⟨v16, rfl, (pk [0,98,98,98,98,98,98,98] rfl)⟩⟩
theorem w_s9_Walk (qF : GS encStr) (qE : GS qU) (qG : GS qN) (books : GS encI) (carry : Int) (r : (List Int) × Bool × Int × Int) (h : P_s9_Walk qF.l qE.l qG.l books.l carry = some r) : Comes (EL 1) 38 [.agg [qF.v, qE.v, qG.v], books.v, iv (carry)] (.tuple [(GSo r.2.1 encI r.1).v, iv r.2.2.1, iv r.2.2.2]) :=
 TF.run (tf_s9_Walk (Nat.le_refl _) (RdT.gs qF) (RdT.gs qE) (RdT.gs qG) (RdT.gs books) h) fun w => (.tuple (.cons (.ownL (en := encI) (p := 0) rfl (.lits encI_lits)) (.cons .lit (.cons .lit .nil))))
end Go.Am.YtiaolgbmbhldgaaGreatDoor
end
section
namespace Go.Am
open Go.RowKit
set_option linter.unusedVariables false
set_option linter.unusedSimpArgs false
def PreN (v : AV) (n j : Nat) (w : AV) : Prop := j ≤ n ∧ ∃ id ex, v = .slice id 0 n ex n n ∧ w = .slice id 0 n ex j n
theorem own_pre {hs : List Thing} {p : Nat} {z : Bool} {v : AV} {l : List Int} (hp : hs[p]? = some (ownL z v encI l)) : ∀ S, HasS S hs → PreOf v l.length l.length v := fun S hS => by
 refine ⟨Nat.le_refl _, ?_⟩
 rcases hS.own hp with ⟨h0, h1, h2, h3⟩ | ⟨id, ex, h1, _⟩
 ·exact .inl ⟨h1, h2, h1⟩
 ·have e : (l.flatMap encI.f).length = l.length := by rw [flat_len]; simp [encI]
  rw [e] at h1;exact .inr ⟨id, ex, h1, h1⟩
theorem slice_preN {v : AV} {l : List Int} {b : Int} (h : PreOf v l.length l.length v) (hb : 0 ≤ b ∧ b ≤ l.length ∧ 0 < l.length) :
  ∃ w, PreN v l.length b.toNat w ∧ ∀ {E : Env} {σ : Sl} {hs : List Thing} {p : Nat} {z : Bool} {st et : TypeId} {x y : Operand}, hs[p]? = some (ownL z v encI l) → SliceT E st et 1 → evs σ x = some v → evs σ y = some (iv b) → Val E σ hs (.slice st x none (some y) none) w := by
 obtain ⟨w, h1, h2⟩ := Val.slice_pre_ (a := l) (s := l) ⟨h, List.take_length ..⟩ (j := b.toNat) (by omega);rw [show ((b.toNat : Nat) : Int) = b by omega] at h2;refine ⟨w, ⟨h1.1, ?_⟩, h2⟩
 rcases h1 with ⟨_, ⟨_, g, _⟩ | ⟨id, ex, g1, g2⟩⟩
 ·omega
 ·exact ⟨id, ex, g1, g2⟩
theorem Reif.preN {k p j : Nat} {hs : List Thing} {z : Bool} {v w : AV} {l : List Int} (hp : hs[p]? = some (Am.ownL z v encI l)) (h : PreN v l.length j w) : Reif (k + 2) hs w (GSo false encI (l.take j)).v := fun S hS => by
 obtain ⟨hj, id, ex, h1, h2⟩ := h
 have e : (l.flatMap encI.f).length = l.length := by rw [flat_len]; simp [encI]
 rcases hS.own hp with ⟨_, g1, _, _⟩ | ⟨id', ex', g1, g2, g3, g4⟩
 ·rw [h1] at g1; cases g1
 ·rw [h1] at g1;simp only [AV.slice.injEq] at g1;obtain ⟨rfl, _, _, rfl, _⟩ := g1;obtain ⟨⟨fl, hl1⟩, hl2⟩ := hS.loadAll g4
  have ht : ((l.flatMap encI.f).drop 0).take (j * encI.u) = (l.take j).flatMap encI.f := by
   rw [List.drop_zero];exact flat_take2 encI l j
  have hR : ReifL (k + 1) hs ((l.take j).flatMap encI.f) ((l.take j).flatMap encI.f) := ReifL.flat encI_tr k hs
  have hll : (l.take j).length = j := by rw [List.length_take]; omega
  have hl0 := hl2 0 (j * encI.u) (by rw [e]; simp [encI]; omega);rw [ht, e] at hl0;subst h2
  show reify ((k + 1) + 1) S (.slice id 0 l.length ex j l.length) = .ok (slv false encI.u (l.take j).length ((l.take j).flatMap encI.f))
  have hRS := hR S hS;generalize k + 1 = K at hRS ⊢;generalize (l.take j).flatMap encI.f = cs at hl0 hRS ⊢;simp only [reify, hl1, Except.bind, hl0, hRS, hll];rfl
end Go.Am
end
section
namespace Go.Am
set_option linter.unusedVariables false
noncomputable def P_law_ShelfWay_L1 (qG : List qA) (carry : UInt8) (y49 : List Int) : (Bool × Int) → Option (Stp (Bool × Int) Bool) := fun (heavy, i) =>
  if i < (y49.length : Int) then
    andx (
      if heavy = true then
        some true
      else
        el y49 i fun a85 =>
        el qG a85 fun a87 =>
        some (decide (a87.heavy > (1 + (Int.tmod (carry.toNat : Int) 100))))) fun heavy_2 =>
      chk (I64 (i + 1)) (
        some (Stp.ag (heavy_2, (i + 1))))
  else
    some (Stp.dn heavy)
noncomputable def P_law_ShelfWay_L2 (y58 : List Int) (y58_2 : Bool) : (Int × Int) → Option (Stp (Int × Int) (Ex Unit Bool)) := fun (next, i) =>
  if i < (((GSo y58_2 encI y58).l).length : Int) then
    seqx (
      seqx (
        andx (
          el ((GSo y58_2 encI y58).l) i fun a128 =>
          if a128 < 0 then
            some true
          else
            el ((GSo y58_2 encI y58).l) i fun a134 =>
            some (decide (a134 > next))) fun x138 =>
          if x138 = true then
            some (Ex.rt (Ex.rt (Stp.dn (Ex.rt false))))
          else
            some (Ex.nx ())) fun _ =>
        el ((GSo y58_2 encI y58).l) i fun a142 =>
        chk (I64 (a142 + 1)) (
          some (Ex.nx (max next (a142 + 1))))) fun next_2 =>
      chk (I64 (i + 1)) (
        some (Stp.ag (next_2, (i + 1))))
  else
    some (Stp.dn (Ex.nx ()))
noncomputable def P_law_ShelfWay_L3 (x_1 : List UInt8) (y49 : List Int) : (Int × Int × (List Int)) → Option (Stp (Int × Int × (List Int)) (List Int)) := fun (next, i, other) =>
  if i < (y49.length : Int) then
    andx (P_law9_turn x_1 i) fun y170 =>
      chk (I64 (next + 1)) (
        chk ((0 : Int) < (next + 1)) (
          chk (other.length + [(Int.tmod y170 (next + 1))].length < 1000000000) (
            chk (I64 ((Int.tmod y170 (next + 1)) + 1)) (
              chk (I64 (i + 1)) (
                some (Stp.ag ((max next ((Int.tmod y170 (next + 1)) + 1)), (i + 1), other ++ [(Int.tmod y170 (next + 1))])))))))
  else
    some (Stp.dn other)
noncomputable def P_law_ShelfWay (qF : List Str) (qE : List qH) (qG : List qA) (x_0 : List UInt8) (x_1 : List UInt8) (carry : UInt8) : Option Bool :=
  andx (P_law9_valid qF qE qG) fun y33 =>
    if y33 = true then
      andx (P_law9_List qF qE qG x_0) fun y49 =>
        chk (-9223372036854775808 ≤ (carry.toNat : Int) ∧ (carry.toNat : Int) < 9223372036854775808) (
          chk ((0 : Int) < 100) (
            chk (I64 (1 + (Int.tmod (carry.toNat : Int) 100))) (
              andx (P_s9_Walk qF qE qG y49 (1 + (Int.tmod (carry.toNat : Int) 100))) fun (y58, y58_2, y58_3, y58_4) =>
                andx (P_s9_Walk qF qE qG y49 100) fun (y65, y65_2, y65_3, y65_4) =>
                  if ¬ y65_4 = 0 then
                    some false
                  else
                    seqx (
                      if ¬ y58_4 = 0 then
                        andx (
                          iter (P_law_ShelfWay_L1 qG carry y49) (false, 0)) fun heavy =>
                          andx (
                            if y58_4 = 9 then
                              if heavy = true then
                                if (((GSo y58_2 encI y58).l).length : Int) = 0 then
                                  if y58_3 = 0 then
                                    some true
                                  else
                                    some false
                                else
                                  some false
                              else
                                some false
                            else
                              some false) fun x6 =>
                            some (Ex.rt x6)
                      else
                        some (Ex.nx ())) fun _ =>
                      seqx (
                        andx (
                          if ¬ (((GSo y58_2 encI y58).l).length : Int) = (y49.length : Int) then
                            some true
                          else
                            some (decide (y65_3 > y58_3))) fun x119 =>
                          if x119 = true then
                            some (Ex.rt false)
                          else
                            some (Ex.nx ())) fun _ =>
                        seqx (
                          iter (P_law_ShelfWay_L2 y58 y58_2) (0, 0)) fun _ =>
                          andx (P_r9_Way qF qE qG y49 ((GSo y58_2 encI y58).l) (1 + (Int.tmod (carry.toNat : Int) 100))) fun (y151, y151_2) =>
                            seqx (
                              andx (
                                if y151_2 = true then
                                  some (decide (¬ y151 = y58_3))
                                else
                                  some true) fun x160 =>
                                if x160 = true then
                                  some (Ex.rt false)
                                else
                                  some (Ex.nx ())) fun _ =>
                              andx (
                                iter (P_law_ShelfWay_L3 x_1 y49) (0, 0, [])) fun other =>
                                andx (P_r9_Way qF qE qG y49 other (1 + (Int.tmod (carry.toNat : Int) 100))) fun (y187, y187_2) =>
                                  seqx (
                                    andx (
                                      if y187_2 = true then
                                        if y187 < y58_3 then
                                          some true
                                        else
                                          if y187 = y58_3 then
                                            andx (P_w1_Before other ((GSo y58_2 encI y58).l)) fun y202 =>
                                              some y202
                                          else
                                            some false
                                      else
                                        some false) fun x205 =>
                                      if x205 = true then
                                        some (Ex.rt false)
                                      else
                                        some (Ex.nx ())) fun _ =>
                                    if (y49.length : Int) = 0 then
                                      andx (
                                        if y58_3 = 0 then
                                          some true
                                        else
                                          some false) fun x6 =>
                                        some x6
                                    else
                                      chk (I64 ((y49.length : Int) - 1)) (
                                        chk (0 ≤ ((y49.length : Int) - 1) ∧ ((y49.length : Int) - 1) ≤ (y49.length : Int) ∧ 0 < y49.length) (
                                          andx (P_s9_Walk qF qE qG (List.take (((y49.length : Int) - 1)).toNat y49) (1 + (Int.tmod (carry.toNat : Int) 100))) fun (y222, y222_2, y222_3, y222_4) =>
                                            andx (
                                              if y222_4 = 0 then
                                                if y222_3 ≤ y58_3 then
                                                  some true
                                                else
                                                  some false
                                              else
                                                some false) fun x6 =>
                                              some x6)))))
    else
      andx (P_s9_Walk qF qE qG [] 1) fun (y37, y37_2, y37_3, y37_4) =>
        andx (
          if ¬ y37_4 = 0 then
            some true
          else
            some false) fun x6 =>
          some x6
end Go.Am
end
section
namespace Go.Am.YtiaolgbmbhldgaaGreatDoor
open Go.Am Go.RowKit
set_option linter.unusedVariables false
set_option linter.unusedSimpArgs false
set_option maxRecDepth 10000 in
theorem tf_law_ShelfWay {k : Nat} (hk : 2 ≤ k) {C : List Thing} {qD : AV} {qF : List Str} {qC : AV} {qE : List qH} {qB : AV} {qG : List qA} {v_x_0 : AV} {x_0 : List UInt8} {v_x_1 : AV} {x_1 : List UInt8} {carry : UInt8} (qY : RdT encStr qD qF) (qZ : RdT qU qC qE) (qX : RdT qN qB qG) (ht_x_0 : RdT encU8 v_x_0 x_0) (ht_x_1 : RdT encU8 v_x_1 x_1) {r : Bool} (h : P_law_ShelfWay qF qE qG x_0 x_1 carry = some r) :
  TF (EL k) 14 [.agg [qD, qC, qB], .agg [v_x_0, v_x_1], ivk .u8 ((carry.toNat : Int))] C (RepF (fun (w : Unit) => bv r) (fun (w : Unit) => C)) := by
 unfold P_law_ShelfWay at h
 have qK : Rdl C encStr qD qF := RdT.rdl qY
 have qJ : Rdl C qU qC qE := RdT.rdl qZ
 have qI : Rdl C qN qB qG := RdT.rdl qX
 have h_x_0 : Rdl C encU8 v_x_0 x_0 := RdT.rdl ht_x_0
 have h_x_1 : Rdl C encU8 v_x_1 x_1 := RdT.rdl ht_x_1;refine TF.enter (fn := Go.Proofs.Tryz.f14) rfl rfl rfl rfl rfl (zU rfl (zQ 3 [_,_,_] R7 (fun b3=>zQ 2 [_,_] R7 (fun b4=>zA R4 (zN (zS (zU rfl (zV R3 (vW 1 [_,_,_] R5 R4) ?_))))))));obtain ⟨y33, hr33, h⟩ := andx_some h;refine TO.callT (first := []) (cap := []) (vs := [.agg [qD, qC, qB]]) rfl rfl rfl rfl rfl rfl (orcN rfl) (tf_law9_valid aD (Rdl.mono qK M2) (Rdl.mono qJ M2) (Rdl.mono qI M2) hr33) ?_;rintro _;refine zG (_::_::C) rfl (zV R3 (Val.not rfl) (zN ?_));obtain ⟨rfl, h⟩ | ⟨rfl, h⟩ := zZ h
 ·refine zD rfl (zK (zU rfl (zV R3 (vW 1 [_,_,_] R5 R4) (zV R3 (Val.iaddr_array (m := 2) rfl rfl rfl rfl (by decide)) (zL 0 R3 R6 ?_)))));obtain ⟨y49, hr49, h⟩ := andx_some h;refine TO.callT (first := []) (cap := []) (vs := [.agg [qD, qC, qB], v_x_0]) rfl rfl rfl rfl rfl rfl (orcN rfl) (tf_law9_List aD (Rdl.mono qK M2) (Rdl.mono qJ M2) (Rdl.mono qI M2) (Rdl.mono h_x_0 M2) hr49) ?_;rintro w49;refine zG (_::_::_::C) rfl (zM R4 ?_);obtain ⟨hk51, h⟩ := chk_some h;refine zV R3 (Val.conv (cv_ty5_3 hk51) rfl) ?_;obtain ⟨hk52, h⟩ := chk_some h;refine zV R3 (Val.rem rfl rfl hk52) ?_;obtain ⟨hk53, h⟩ := chk_some h;refine zV R3 (Val.add rfl rfl hk53) (zA R4 (zA R4 (zN (zU rfl (zV R3 (vW 2 [_,_,_] R5 R4) (zM R4 (zM R4 ?_)))))));obtain ⟨⟨y58, y58_2, y58_3, y58_4⟩, hr58, h⟩ := andx_some h;dsimp only at h;obtain ⟨g, hgg, hrg⟩ := Rdl.reif (hs := ownL true w49 encI y49 :: .row b4 1 [v_x_0, v_x_1] :: .row b3 3 [qD, qC, qB] :: C) qK M3 (ReifL.flat encStr_tr);obtain ⟨g_2, hgg_2, hrg_2⟩ := Rdl.reif (hs := ownL true w49 encI y49 :: .row b4 1 [v_x_0, v_x_1] :: .row b3 3 [qD, qC, qB] :: C) qJ M3 (ReifL.flat qAb);obtain ⟨g_3, hgg_3, hrg_3⟩ := Rdl.reif (hs := ownL true w49 encI y49 :: .row b4 1 [v_x_0, v_x_1] :: .row b3 3 [qD, qC, qB] :: C) qI M3 (ReifL.flat qAa);refine TO.call rfl rfl rfl rfl rfl (orcL rfl aD) (.cons (.agg (.cons (hrg _) (.cons (hrg_2 _) (.cons (hrg_3 _) .nil)))) (.cons (.ownL (p := 0) rfl ((ReifL.flat encI_tr) _ _)) (.cons .lit .nil))) (sem_of (w_s9_Walk g g_2 g_3 (GSo true encI y49) (1 + (Int.tmod (carry.toNat : Int) 100)) _ (by try rw [hgg]; try rw [hgg_2]; try rw [hgg_3]; exact hr58))) (zM R4 (zX R5 (zX R5 (zX R5 (zA R4 (zA R4 (zA R4 (zN (zU rfl (zV R3 (vW 2 [_,_,_] R5 R4) (zM R4 ?_)))))))))));obtain ⟨⟨y65, y65_2, y65_3, y65_4⟩, hr65, h⟩ := andx_some h;dsimp only at h;obtain ⟨g_4, hgg_4, hrg_4⟩ := Rdl.reif (hs := ownL true w49 encI y49 :: .row b4 1 [v_x_0, v_x_1] :: .row b3 3 [qD, qC, qB] :: C) qK M3 (ReifL.flat encStr_tr);obtain ⟨g_5, hgg_5, hrg_5⟩ := Rdl.reif (hs := ownL true w49 encI y49 :: .row b4 1 [v_x_0, v_x_1] :: .row b3 3 [qD, qC, qB] :: C) qJ M3 (ReifL.flat qAb);obtain ⟨g_6, hgg_6, hrg_6⟩ := Rdl.reif (hs := ownL true w49 encI y49 :: .row b4 1 [v_x_0, v_x_1] :: .row b3 3 [qD, qC, qB] :: C) qI M3 (ReifL.flat qAa);refine TO.call rfl rfl rfl rfl rfl (orcL rfl aD) (.cons (.agg (.cons (hrg_4 _) (.cons (hrg_5 _) (.cons (hrg_6 _) .nil)))) (.cons (.ownL (p := 0) rfl ((ReifL.flat encI_tr) _ _)) (.cons .lit .nil))) (sem_of (w_s9_Walk g_4 g_5 g_6 (GSo true encI y49) 100 _ (by try rw [hgg_4]; try rw [hgg_5]; try rw [hgg_6]; exact hr65))) (zM R4 (zX R5 (zX R5 (zX R5 (zA R4 (zA R4 (zA R4 (zN (zS (zU rfl (zM R4 ?_)))))))))));obtain ⟨c70, hc70⟩ := zY (¬ y65_4 = 0)
  refine zV R3 (Val.neq hc70 rfl rfl) (zN ?_);obtain ⟨rfl, hc70, h⟩ | ⟨rfl, hc70, h⟩ := zI hc70 h
  ·refine zC rfl (zU rfl (zA R4 (zN (zR ?_))));cases h;exact ⟨rfl, _, rfl, ⟨(), rfl, (pk [98,98,98] rfl)⟩⟩
  refine zD rfl (zK ?_)
  show T _ _ _ _ _ _;apply T.join (r := r) (W := Unit) (fun j w => ⟨[], [(3, .ptr b3 0 3), (4, .ptr b4 0 2), (10, w49), (11, iv ((1 + (Int.tmod (carry.toNat : Int) 100)))), (12, (GSo y58_2 encI y58).v), (13, iv (y58_3)), (16, iv (y65_3))], ownL true w49 encI y49 :: .row b4 1 [v_x_0, v_x_1] :: .row b3 3 [qD, qC, qB] :: C⟩) h
  ·intro j h;refine zU rfl (zM R4 ?_);obtain ⟨c72, hc72⟩ := zY (¬ y58_4 = 0);refine zV R3 (Val.neq hc72 rfl rfl) (zN ?_);obtain ⟨rfl, hc72, h⟩ | ⟨rfl, hc72, h⟩ := zI hc72 h
   ·refine zC rfl (zU rfl (zA R4 (zN ?_)))
    show T _ _ _ _ _ _;apply T.joinA (r := j) (W := Unit) (fun j w => ⟨[], [(12, (GSo y58_2 encI y58).v), (13, iv (y58_3)), (14, iv (y58_4)), (18, bv j)], ownL true w49 encI y49 :: .row b3 3 [qD, qC, qB] :: C⟩) h
    ·intro j h;refine zU rfl (zA R4 (zN (zB ?_)))
     show T _ _ _ _ _ _;apply T.iter (r := j) (W := Unit) (fun j w => ⟨[], [(3, .ptr b3 0 3), (10, w49), (11, iv ((1 + (Int.tmod (carry.toNat : Int) 100)))), (12, (GSo y58_2 encI y58).v), (13, iv (y58_3)), (14, iv (y58_4)), (18, bv j.1), (19, iv (j.2))], ownL true w49 encI y49 :: .row b3 3 [qD, qC, qB] :: C⟩) (w0 := ()) h
     ·exact (sb (pk [0,1,98] rfl))
     rintro ⟨heavy, i⟩ _ a h;unfold P_law_ShelfWay_L1 at h;dsimp only at h;dsimp only;refine zS (zU rfl (zM R4 (zM R4 (zV R3 (Val.len_own (p := 0) rfl rfl rfl) ?_))));obtain ⟨c76, hc76⟩ := zY (i < (y49.length : Int));refine zV R3 (Val.lss hc76 rfl rfl) (zN ?_);obtain ⟨rfl, hc76, h⟩ | ⟨rfl, hc76, h⟩ := zI hc76 h
     ·refine zC rfl (zK ?_)
      show T _ _ _ _ _ _;apply T.joinA (r := a) (W := Unit) (fun j w => ⟨[], [(3, .ptr b3 0 3), (10, w49), (11, iv ((1 + (Int.tmod (carry.toNat : Int) 100)))), (12, (GSo y58_2 encI y58).v), (13, iv (y58_3)), (14, iv (y58_4)), (18, bv j), (19, iv (i))], ownL true w49 encI y49 :: .row b3 3 [qD, qC, qB] :: C⟩) h
      ·intro j h;refine zB (T.draw (fun v => sameC_refl v) (l1 := [0, 1, 2, 3, 4, 5, 6, 7, 8, 9, 10, 11, 12, 13, 14]) (l2 := []) (by kernel_rfl) (by kernel_rfl) (zM R4 (zM R4 ?_)));obtain ⟨rfl, h⟩ | ⟨rfl, h⟩ := zZ h
       ·refine zO R3 (zO R3 (zO R3 (zO R3 (zO R3 (zO R3 (zO R3 (zO R3 (zO R3 (zO R3 (zO R3 (zP R6 (zA R4 (zN ?_)))))))))))));cases h;exact ⟨rfl, (), (sb .refl)⟩
       refine zF 2 R6 (zL 1 R3 R6 (zM R4 (zM R4 ?_)));obtain ⟨a85, hia85, ea85, h⟩ := el_some h;refine TO.fact (own_at (en := encI) (p := 0) rfl hia85) (fun hp=>?_);obtain ⟨ida85, ata85⟩ := hp;refine zV R3 (Val.iaddr_at (en := encI) ata85 ⟨rfl, rfl⟩ rfl rfl hia85) (zV R3 (Val.load_ownL (en := encI) (p := 0) (j := 0) rfl ata85 ⟨_, rfl, rfl⟩ rfl ea85 rfl) ?_);obtain ⟨a87, hia87, ea87, h⟩ := el_some h;refine TO.fact (rdl_at qI M2 hia87 ea87) (fun hp=>?_);obtain ⟨pa87, hpa87, hva87⟩ := hp;refine zV R3 (hva87 ⟨rfl, rfl⟩ rfl rfl) (zV R3 (Val.faddr_e (fo := 5) hpa87 rfl rfl rfl) (zV R3 (Val.load_e (PtE.add hpa87 (by decide)) M2 ⟨_, rfl, rfl⟩ rfl rfl) (zM R4 ?_)));obtain ⟨c91, hc91⟩ := zY (a87.heavy > (1 + (Int.tmod (carry.toNat : Int) 100)));refine zV R3 (Val.gtr hc91 rfl rfl) (zP R6 (zA R4 (zN ?_)));subst hc91;cases h;exact ⟨rfl, (), (sb .refl)⟩
      ·rintro heavy_2 _ h;refine zT rfl (zM R4 ?_);obtain ⟨hk78, h⟩ := chk_some h;refine zV R3 (Val.add rfl rfl hk78) (zA R4 (zN ?_));cases h;exact ⟨rfl, (), (sb .refl)⟩
     refine zD rfl (zE ?_);cases h;exact ⟨ex_ne, ⟨rfl, (), (sb .refl)⟩⟩
    ·rintro heavy _ h
     show T _ _ _ _ _ _;apply T.joinA (r := j) (W := Unit) (fun j w => ⟨[], [(6, bv j)], ownL true w49 encI y49 :: .row b3 3 [qD, qC, qB] :: C⟩) h
     ·intro j h;refine zT rfl (zM R4 ?_);obtain ⟨c94, hc94⟩ := zY (y58_4 = 9);refine zV R3 (Val.eql hc94 rfl rfl) (zM R4 ?_);obtain ⟨rfl, hc94, h⟩ | ⟨rfl, hc94, h⟩ := zI hc94 h
      ·refine zM R4 (zP R6 (zM R4 ?_));obtain ⟨rfl, h⟩ | ⟨rfl, h⟩ := zZ h
       ·refine zM R4 (zV R3 (Val.len_gs rfl rfl) ?_);obtain ⟨c101, hc101⟩ := zY ((((GSo y58_2 encI y58).l).length : Int) = 0);refine zV R3 (Val.eql hc101 rfl rfl) (zP R6 (zM R4 ?_));obtain ⟨rfl, hc101, h⟩ | ⟨rfl, hc101, h⟩ := zI hc101 h
        ·refine zM R4 ?_;obtain ⟨c105, hc105⟩ := zY (y58_3 = 0);refine zV R3 (Val.eql hc105 rfl rfl) (zP R6 (zM R4 ?_));obtain ⟨rfl, hc105, h⟩ | ⟨rfl, hc105, h⟩ := zI hc105 h
         ·refine TO.call rfl rfl rfl rfl rfl orcA .nil rfl (zP R6 (zA R4 (zN ?_)));cases h;exact ⟨rfl, (), (sb .refl)⟩
         refine zO R3 (zP R6 (zA R4 (zN ?_)));cases h;exact ⟨rfl, (), (sb .refl)⟩
        refine zO R3 (zO R3 (zP R6 (zM R4 (zO R3 (zP R6 (zA R4 (zN ?_)))))));cases h;exact ⟨rfl, (), (sb .refl)⟩
       refine zO R3 (zO R3 (zO R3 (zP R6 (zM R4 (zO R3 (zO R3 (zP R6 (zM R4 (zO R3 (zP R6 (zA R4 (zN ?_))))))))))));cases h;exact ⟨rfl, (), (sb .refl)⟩
      refine zO R3 (zP R6 (zM R4 (zO R3 (zO R3 (zO R3 (zP R6 (zM R4 (zO R3 (zO R3 (zP R6 (zM R4 (zO R3 (zP R6 (zA R4 (zN ?_)))))))))))))));cases h;exact ⟨rfl, (), (sb .refl)⟩
     ·rintro x6 _ h;refine zR ?_;cases h;exact ⟨ret_ne, ⟨rfl, _, rfl, ⟨(), rfl, (pk [98,98] rfl)⟩⟩⟩
   refine zD rfl (zK ?_);cases h;exact ⟨rfl, (), (sb .refl)⟩
  ·rintro _ _ h
   show T _ _ _ _ _ _;apply T.join (r := r) (W := Unit) (fun j w => ⟨[], [(3, .ptr b3 0 3), (4, .ptr b4 0 2), (10, w49), (11, iv ((1 + (Int.tmod (carry.toNat : Int) 100)))), (12, (GSo y58_2 encI y58).v), (13, iv (y58_3))], ownL true w49 encI y49 :: .row b4 1 [v_x_0, v_x_1] :: .row b3 3 [qD, qC, qB] :: C⟩) h
   ·intro j h
    show T _ _ _ _ _ _;apply T.joinA (r := j) (W := Unit) (fun j w => ⟨[], [(3, .ptr b3 0 3), (4, .ptr b4 0 2), (10, w49), (11, iv ((1 + (Int.tmod (carry.toNat : Int) 100)))), (12, (GSo y58_2 encI y58).v), (13, iv (y58_3)), (119, bv j)], ownL true w49 encI y49 :: .row b4 1 [v_x_0, v_x_1] :: .row b3 3 [qD, qC, qB] :: C⟩) h
    ·intro j h;refine zT rfl (zM R4 (zV R3 (Val.len_gs rfl rfl) (zM R4 (zV R3 (Val.len_own (p := 0) rfl rfl rfl) ?_))));obtain ⟨c114, hc114⟩ := zY (¬ (((GSo y58_2 encI y58).l).length : Int) = (y49.length : Int));refine zV R3 (Val.neq hc114 rfl rfl) (zM R4 ?_);obtain ⟨rfl, hc114, h⟩ | ⟨rfl, hc114, h⟩ := zI hc114 h
     ·refine zO R3 (zO R3 (zO R3 (zP R6 (zN ?_))));cases h;exact ⟨rfl, (), (sb .refl)⟩
     refine zM R4 (zM R4 ?_);obtain ⟨c118, hc118⟩ := zY (y65_3 > y58_3);refine zV R3 (Val.gtr hc118 rfl rfl) (zP R6 (zN ?_));subst hc118;cases h;exact ⟨rfl, (), (sb .refl)⟩
    ·rintro x119 _ h;obtain ⟨rfl, h⟩ | ⟨rfl, h⟩ := zZ h
     ·refine zC rfl (zU rfl (zA R4 (zN (zR ?_))));cases h;exact ⟨ret_ne, ⟨rfl, _, rfl, ⟨(), rfl, (pk [98,98,98] rfl)⟩⟩⟩
     refine zD rfl (zK ?_);cases h;exact ⟨rfl, (), (sb .refl)⟩
   ·rintro _ _ h;refine zU rfl (zA R4 (zN ?_))
    show T _ _ _ _ _ _;apply T.join (r := r) (W := Unit) (fun j w => ⟨[], [(3, .ptr b3 0 3), (4, .ptr b4 0 2), (10, w49), (11, iv ((1 + (Int.tmod (carry.toNat : Int) 100)))), (12, (GSo y58_2 encI y58).v), (13, iv (y58_3))], ownL true w49 encI y49 :: .row b4 1 [v_x_0, v_x_1] :: .row b3 3 [qD, qC, qB] :: C⟩) h
    ·intro j h;refine zU rfl (zA R4 (zN (zB ?_)))
     show T _ _ _ _ _ _;apply T.iter (r := j) (W := Unit) (fun j w => ⟨[], [(3, .ptr b3 0 3), (4, .ptr b4 0 2), (10, w49), (11, iv ((1 + (Int.tmod (carry.toNat : Int) 100)))), (12, (GSo y58_2 encI y58).v), (13, iv (y58_3)), (20, iv (j.1)), (21, iv (j.2))], ownL true w49 encI y49 :: .row b4 1 [v_x_0, v_x_1] :: .row b3 3 [qD, qC, qB] :: C⟩) (w0 := ()) h
     ·exact (sb .refl)
     rintro ⟨next, i⟩ _ a h;unfold P_law_ShelfWay_L2 at h;dsimp only at h;dsimp only;refine zS (zU rfl (zM R4 (zM R4 (zV R3 (Val.len_gs rfl rfl) ?_))));obtain ⟨c123, hc123⟩ := zY (i < (((GSo y58_2 encI y58).l).length : Int));refine zV R3 (Val.lss hc123 rfl rfl) (zN ?_);obtain ⟨rfl, hc123, h⟩ | ⟨rfl, hc123, h⟩ := zI hc123 h
     ·refine zC rfl (zK ?_)
      show T _ _ _ _ _ _;apply T.join (r := a) (W := Unit) (fun j w => ⟨[], [(3, .ptr b3 0 3), (4, .ptr b4 0 2), (10, w49), (11, iv ((1 + (Int.tmod (carry.toNat : Int) 100)))), (12, (GSo y58_2 encI y58).v), (13, iv (y58_3)), (20, iv (j)), (21, iv (i))], ownL true w49 encI y49 :: .row b4 1 [v_x_0, v_x_1] :: .row b3 3 [qD, qC, qB] :: C⟩) h
      ·intro j h;refine zB ?_
       show T _ _ _ _ _ _;apply T.join (r := j) (W := Unit) (fun j w => ⟨[], [(3, .ptr b3 0 3), (4, .ptr b4 0 2), (10, w49), (11, iv ((1 + (Int.tmod (carry.toNat : Int) 100)))), (12, (GSo y58_2 encI y58).v), (13, iv (y58_3)), (20, iv (next)), (21, iv (i))], ownL true w49 encI y49 :: .row b4 1 [v_x_0, v_x_1] :: .row b3 3 [qD, qC, qB] :: C⟩) h
       ·intro j h
        show T _ _ _ _ _ _;apply T.joinA (r := j) (W := Unit) (fun j w => ⟨[], [(3, .ptr b3 0 3), (4, .ptr b4 0 2), (10, w49), (11, iv ((1 + (Int.tmod (carry.toNat : Int) 100)))), (12, (GSo y58_2 encI y58).v), (13, iv (y58_3)), (20, iv (next)), (21, iv (i)), (138, bv j)], ownL true w49 encI y49 :: .row b4 1 [v_x_0, v_x_1] :: .row b3 3 [qD, qC, qB] :: C⟩) h
        ·intro j h;refine zT rfl (zM R4 (zM R4 ?_));obtain ⟨a128, hia128, ea128, h⟩ := el_some h;refine TO.fact (rdl_at (Rdl.gs (C := C) (GSo y58_2 encI y58)) M3 hia128 ea128) (fun hp=>?_);obtain ⟨pa128, hpa128, hva128⟩ := hp;refine zV R3 (hva128 ⟨rfl, rfl⟩ rfl rfl) (zV R3 (Val.load_e hpa128 M3 ⟨_, rfl, rfl⟩ rfl rfl) ?_);obtain ⟨c130, hc130⟩ := zY (a128 < 0);refine zV R3 (Val.lss hc130 rfl rfl) (zM R4 ?_);obtain ⟨rfl, hc130, h⟩ | ⟨rfl, hc130, h⟩ := zI hc130 h
         ·refine zO R3 (zO R3 (zO R3 (zO R3 (zO R3 (zO R3 (zP R6 (zN ?_)))))));cases h;exact ⟨rfl, (), (sb .refl)⟩
         refine zM R4 (zM R4 ?_);obtain ⟨a134, hia134, ea134, h⟩ := el_some h;refine TO.fact (rdl_at (Rdl.gs (C := C) (GSo y58_2 encI y58)) M3 hia134 ea134) (fun hp=>?_);obtain ⟨pa134, hpa134, hva134⟩ := hp;refine zV R3 (hva134 ⟨rfl, rfl⟩ rfl rfl) (zV R3 (Val.load_e hpa134 M3 ⟨_, rfl, rfl⟩ rfl rfl) (zM R4 ?_));obtain ⟨c137, hc137⟩ := zY (a134 > next);refine zV R3 (Val.gtr hc137 rfl rfl) (zP R6 (zN ?_));subst hc137;cases h;exact ⟨rfl, (), (sb .refl)⟩
        ·rintro x138 _ h;obtain ⟨rfl, h⟩ | ⟨rfl, h⟩ := zZ h
         ·refine zC rfl (zU rfl (zA R4 (zN (zR ?_))));cases h;exact ⟨ret_ne, ⟨ret_ne, ⟨ret_ne, ⟨ret_ne, ⟨rfl, _, rfl, ⟨(), rfl, (pk [98,98,98] rfl)⟩⟩⟩⟩⟩⟩
         refine zD rfl (zK ?_);cases h;exact ⟨rfl, (), (sb .refl)⟩
       ·rintro _ _ h;refine zT rfl (zM R4 (zM R4 (zM R4 ?_)));obtain ⟨a142, hia142, ea142, h⟩ := el_some h;refine TO.fact (rdl_at (Rdl.gs (C := C) (GSo y58_2 encI y58)) M3 hia142 ea142) (fun hp=>?_);obtain ⟨pa142, hpa142, hva142⟩ := hp;refine zV R3 (hva142 ⟨rfl, rfl⟩ rfl rfl) (zV R3 (Val.load_e hpa142 M3 ⟨_, rfl, rfl⟩ rfl rfl) ?_);obtain ⟨hk144, h⟩ := chk_some h;refine zV R3 (Val.add rfl rfl hk144) (zV R3 (Val.bmax rfl rfl) (zA R4 (zN ?_)));cases h;exact ⟨rfl, (), (sb .refl)⟩
      ·rintro next_2 _ h;refine zT rfl (zM R4 ?_);obtain ⟨hk125, h⟩ := chk_some h;refine zV R3 (Val.add rfl rfl hk125) (zA R4 (zN ?_));cases h;exact ⟨rfl, (), (sb .refl)⟩
     refine zD rfl (zE ?_);cases h;exact ⟨ex_ne, ⟨rfl, (), (sb .refl)⟩⟩
    ·rintro _ _ h;refine zU rfl (zV R3 (vW 2 [_,_,_] R5 R4) (zM R4 (zM R4 (zM R4 ?_))));obtain ⟨⟨y151, y151_2⟩, hr151, h⟩ := andx_some h;dsimp only at h;refine TO.callT (first := []) (cap := []) (vs := [.agg [qD, qC, qB], w49, (GSo y58_2 encI y58).v, iv ((1 + (Int.tmod (carry.toNat : Int) 100)))]) rfl rfl rfl rfl rfl rfl (orcN rfl) (tf_r9_Way aD (Rdl.mono qK M3) (Rdl.mono qJ M3) (Rdl.mono qI M3) (Rdl.mono (Rdl.own (C := ownL true w49 encI y49 :: .row b4 1 [v_x_0, v_x_1] :: .row b3 3 [qD, qC, qB] :: C) (p := 0) rfl) mem0) (Rdl.mono (Rdl.gs (C := C) (GSo y58_2 encI y58)) M3) hr151) ?_;rintro _;refine zG (_::_::_::C) rfl (zM R4 (zX R5 (zX R5 (zA R4 (zA R4 (zN ?_))))))
     show T _ _ _ _ _ _;apply T.join (r := r) (W := Unit) (fun j w => ⟨[], [(3, .ptr b3 0 3), (4, .ptr b4 0 2), (10, w49), (11, iv ((1 + (Int.tmod (carry.toNat : Int) 100)))), (12, (GSo y58_2 encI y58).v), (13, iv (y58_3))], ownL true w49 encI y49 :: .row b4 1 [v_x_0, v_x_1] :: .row b3 3 [qD, qC, qB] :: C⟩) h
     ·intro j h
      show T _ _ _ _ _ _;apply T.joinA (r := j) (W := Unit) (fun j w => ⟨[], [(3, .ptr b3 0 3), (4, .ptr b4 0 2), (10, w49), (11, iv ((1 + (Int.tmod (carry.toNat : Int) 100)))), (12, (GSo y58_2 encI y58).v), (13, iv (y58_3)), (160, bv j)], ownL true w49 encI y49 :: .row b4 1 [v_x_0, v_x_1] :: .row b3 3 [qD, qC, qB] :: C⟩) h
      ·intro j h;refine zT rfl (zM R4 (zV R3 (Val.not rfl) (zM R4 ?_)));obtain ⟨rfl, h⟩ | ⟨rfl, h⟩ := zZ h
       ·refine zM R4 (zM R4 ?_);obtain ⟨c159, hc159⟩ := zY (¬ y151 = y58_3);refine zV R3 (Val.neq hc159 rfl rfl) (zP R6 (zN ?_));subst hc159;cases h;exact ⟨rfl, (), (sb .refl)⟩
       refine zO R3 (zO R3 (zO R3 (zP R6 (zN ?_))));cases h;exact ⟨rfl, (), (sb .refl)⟩
      ·rintro x160 _ h;obtain ⟨rfl, h⟩ | ⟨rfl, h⟩ := zZ h
       ·refine zC rfl (zU rfl (zA R4 (zN (zR ?_))));cases h;exact ⟨ret_ne, ⟨rfl, _, rfl, ⟨(), rfl, (pk [98,98,98] rfl)⟩⟩⟩
       refine zD rfl (zK ?_);cases h;exact ⟨rfl, (), (sb .refl)⟩
     ·rintro _ _ h;refine zU rfl (zA R4 (zN (zU rfl (zA R4 (zN ?_)))))
      show T _ _ _ _ _ _;apply T.joinA (r := r) (W := AV) (fun j w => ⟨[], [(3, .ptr b3 0 3), (10, w49), (11, iv ((1 + (Int.tmod (carry.toNat : Int) 100)))), (12, (GSo y58_2 encI y58).v), (13, iv (y58_3)), (24, w)], ownL true w encI j :: ownL true w49 encI y49 :: .row b4 1 [v_x_0, v_x_1] :: .row b3 3 [qD, qC, qB] :: C⟩) h
      ·intro j h;refine zU rfl (zA R4 (zN (zB (T.nilown (u := encI.u) ?_))))
       show T _ _ _ _ _ _;apply T.iter (r := j) (W := AV) (fun j w => ⟨[], [(3, .ptr b3 0 3), (4, .ptr b4 0 2), (10, w49), (11, iv ((1 + (Int.tmod (carry.toNat : Int) 100)))), (12, (GSo y58_2 encI y58).v), (13, iv (y58_3)), (20, iv (j.1)), (24, w), (25, iv (j.2.1))], ownL true w encI j.2.2 :: ownL true w49 encI y49 :: .row b4 1 [v_x_0, v_x_1] :: .row b3 3 [qD, qC, qB] :: C⟩) (w0 := nilS) h
       ·exact (sb .refl)
       rintro ⟨next, i, other⟩ v4 a h;unfold P_law_ShelfWay_L3 at h;dsimp only at h;dsimp only;refine zS (zU rfl (zM R4 (zM R4 (zV R3 (Val.len_own (p := 1) rfl rfl rfl) ?_))));obtain ⟨c164, hc164⟩ := zY (i < (y49.length : Int));refine zV R3 (Val.lss hc164 rfl rfl) (zN ?_);obtain ⟨rfl, hc164, h⟩ | ⟨rfl, hc164, h⟩ := zI hc164 h
       ·refine zC rfl (zK (zS (zB (zU rfl (zV R3 (Val.iaddr_array (m := 2) rfl rfl rfl rfl (by decide)) (zL 2 R3 R6 (zM R4 ?_)))))));obtain ⟨y170, hr170, h⟩ := andx_some h;refine TO.callT (first := []) (cap := []) (vs := [v_x_1, iv (i)]) rfl rfl rfl rfl rfl rfl (orcN rfl) (tf_law9_turn aD (Rdl.mono h_x_1 M4) hr170) ?_;rintro _;refine zG (_::_::_::_::C) rfl (zM R4 ?_);obtain ⟨hk172, h⟩ := chk_some h;refine zV R3 (Val.add rfl rfl hk172) ?_;obtain ⟨hk173, h⟩ := chk_some h;refine zV R3 (Val.rem rfl rfl hk173) (zA R4 (zN (zU rfl (zM R4 (zM R4 (TO.build1 (en := encI) (a := (Int.tmod y170 (next + 1))) rfl rfl rfl ⟨rfl, rfl⟩ ⟨_, rfl, rfl⟩ (by decide) (by decide) rfl rfl (fun v176=>?_)))))));obtain ⟨hk177, h⟩ := chk_some h;refine TO.eff rfl rfl rfl (Eff.append_own (b := 8) (en := encI) (l := other) (l2 := [(Int.tmod y170 (next + 1))]) (p := 1) (q := 0) ⟨rfl, rfl, rfl, ⟨_, rfl, rfl⟩, by decide, by decide⟩ rfl rfl rfl rfl rfl rfl (flat_ones _) (by decide) hk177) ?_;rintro v177 _ rfl;refine zG (_::_::_::_::_::C) rfl (zA R4 (zN (zT rfl (zM R4 (zM R4 ?_)))));obtain ⟨hk180, h⟩ := chk_some h;refine zV R3 (Val.add rfl rfl hk180) (zV R3 (Val.bmax rfl rfl) (zA R4 (zN (zT rfl (zM R4 ?_)))));obtain ⟨hk166, h⟩ := chk_some h;refine zV R3 (Val.add rfl rfl hk166) (zA R4 (zN ?_));cases h;exact ⟨rfl, v177, (sb (pk [1,1,1,1,98] rfl))⟩
       refine zD rfl (zE ?_);cases h;exact ⟨ex_ne, ⟨rfl, v4, (sb .refl)⟩⟩
      ·rintro other v4 h;refine zU rfl (zV R3 (vW 3 [_,_,_] R5 R4) (zM R4 (zM R4 (zM R4 ?_))));obtain ⟨⟨y187, y187_2⟩, hr187, h⟩ := andx_some h;dsimp only at h;refine TO.callT (first := []) (cap := []) (vs := [.agg [qD, qC, qB], w49, v4, iv ((1 + (Int.tmod (carry.toNat : Int) 100)))]) rfl rfl rfl rfl rfl rfl (orcN rfl) (tf_r9_Way aD (Rdl.mono qK M4) (Rdl.mono qJ M4) (Rdl.mono qI M4) (Rdl.mono (Rdl.own (C := ownL true v4 encI other :: ownL true w49 encI y49 :: .row b4 1 [v_x_0, v_x_1] :: .row b3 3 [qD, qC, qB] :: C) (p := 1) rfl) mem0) (Rdl.mono (Rdl.own (C := ownL true v4 encI other :: ownL true w49 encI y49 :: .row b4 1 [v_x_0, v_x_1] :: .row b3 3 [qD, qC, qB] :: C) (p := 0) rfl) mem0) hr187) ?_;rintro _;refine zG (_::_::_::_::C) rfl (zM R4 (zX R5 (zX R5 (zA R4 (zA R4 (zN ?_))))))
       show T _ _ _ _ _ _;apply T.join (r := r) (W := Unit) (fun j w => ⟨[], [(3, .ptr b3 0 3), (10, w49), (11, iv ((1 + (Int.tmod (carry.toNat : Int) 100)))), (13, iv (y58_3))], ownL true v4 encI other :: ownL true w49 encI y49 :: .row b4 1 [v_x_0, v_x_1] :: .row b3 3 [qD, qC, qB] :: C⟩) h
       ·intro j h
        show T _ _ _ _ _ _;apply T.joinA (r := j) (W := Unit) (fun j w => ⟨[], [(3, .ptr b3 0 3), (10, w49), (11, iv ((1 + (Int.tmod (carry.toNat : Int) 100)))), (13, iv (y58_3)), (205, bv j)], ownL true v4 encI other :: ownL true w49 encI y49 :: .row b4 1 [v_x_0, v_x_1] :: .row b3 3 [qD, qC, qB] :: C⟩) h
        ·intro j h;refine zT rfl (zM R4 (zM R4 ?_));obtain ⟨rfl, h⟩ | ⟨rfl, h⟩ := zZ h
         ·refine zM R4 (zM R4 ?_);obtain ⟨c194, hc194⟩ := zY (y187 < y58_3);refine zV R3 (Val.lss hc194 rfl rfl) (zM R4 ?_);obtain ⟨rfl, hc194, h⟩ | ⟨rfl, hc194, h⟩ := zI hc194 h
          ·refine zO R3 (zO R3 (zO R3 (zO R3 (zO R3 (zO R3 (zO R3 (zO R3 (zP R6 (zP R6 (zN ?_))))))))));cases h;exact ⟨rfl, (), (sb .refl)⟩
          refine zM R4 (zM R4 ?_);obtain ⟨c198, hc198⟩ := zY (y187 = y58_3);refine zV R3 (Val.eql hc198 rfl rfl) (zM R4 ?_);obtain ⟨rfl, hc198, h⟩ | ⟨rfl, hc198, h⟩ := zI hc198 h
          ·refine zM R4 (zM R4 ?_);obtain ⟨y202, hr202, h⟩ := andx_some h;refine TO.callT (first := []) (cap := []) (vs := [v4, (GSo y58_2 encI y58).v]) rfl rfl rfl rfl rfl rfl (orcN rfl) (tf_w1_Before aD (Rdl.mono (Rdl.own (C := ownL true v4 encI other :: ownL true w49 encI y49 :: .row b4 1 [v_x_0, v_x_1] :: .row b3 3 [qD, qC, qB] :: C) (p := 0) rfl) mem0) (Rdl.mono (Rdl.gs (C := C) (GSo y58_2 encI y58)) M4) hr202) ?_;rintro _;refine zG (_::_::_::_::C) rfl (zP R6 (zP R6 (zP R6 (zN ?_))));cases h;exact ⟨rfl, (), (sb .refl)⟩
          refine zO R3 (zO R3 (zO R3 (zP R6 (zP R6 (zP R6 (zN ?_))))));cases h;exact ⟨rfl, (), (sb .refl)⟩
         refine zO R3 (zO R3 (zO R3 (zO R3 (zO R3 (zO R3 (zO R3 (zO R3 (zO R3 (zO R3 (zO R3 (zO R3 (zO R3 (zP R6 (zN ?_))))))))))))));cases h;exact ⟨rfl, (), (sb .refl)⟩
        ·rintro x205 _ h;obtain ⟨rfl, h⟩ | ⟨rfl, h⟩ := zZ h
         ·refine zC rfl (zU rfl (zA R4 (zN (zR ?_))));cases h;exact ⟨ret_ne, ⟨rfl, _, rfl, ⟨(), rfl, (pk [98,98,98,98] rfl)⟩⟩⟩
         refine zD rfl (zK ?_);cases h;exact ⟨rfl, (), (sb .refl)⟩
       ·rintro _ _ h;refine zS (zU rfl (zM R4 (zV R3 (Val.len_own (p := 1) rfl rfl rfl) ?_)));obtain ⟨c208, hc208⟩ := zY ((y49.length : Int) = 0);refine zV R3 (Val.eql hc208 rfl rfl) (zN ?_);obtain ⟨rfl, hc208, h⟩ | ⟨rfl, hc208, h⟩ := zI hc208 h
        ·refine zC rfl ?_
         show T _ _ _ _ _ _;apply T.joinA (r := r) (W := Unit) (fun j w => ⟨[], [(6, bv j)], ownL true v4 encI other :: ownL true w49 encI y49 :: .row b4 1 [v_x_0, v_x_1] :: .row b3 3 [qD, qC, qB] :: C⟩) h
         ·intro j h;refine zT rfl (zM R4 ?_);obtain ⟨c210, hc210⟩ := zY (y58_3 = 0);refine zV R3 (Val.eql hc210 rfl rfl) (zM R4 ?_);obtain ⟨rfl, hc210, h⟩ | ⟨rfl, hc210, h⟩ := zI hc210 h
          ·refine TO.call rfl rfl rfl rfl rfl orcA .nil rfl (zP R6 (zA R4 (zN ?_)));cases h;exact ⟨rfl, (), (sb .refl)⟩
          refine zO R3 (zP R6 (zA R4 (zN ?_)));cases h;exact ⟨rfl, (), (sb .refl)⟩
         ·rintro x6 _ h;refine zR ?_;cases h;exact ⟨rfl, _, rfl, ⟨(), rfl, (pk [98,98,98,98] rfl)⟩⟩
        refine zD rfl (zK (zS (T.draw (fun v => sameC_refl v) (l1 := [0, 1, 2, 3, 4, 5, 6]) (l2 := [7, 8, 9, 10, 11, 12, 13, 14]) (by kernel_rfl) (by kernel_rfl) (zV R3 (vW 3 [_,_,_] R5 R4) (zM R4 (zM R4 (zV R3 (Val.len_own (p := 1) rfl rfl rfl) ?_)))))));obtain ⟨hk219, h⟩ := chk_some h;refine zV R3 (Val.sub rfl rfl hk219) ?_;obtain ⟨hk220, h⟩ := chk_some h;refine TO.fact (own_pre (p := 1) rfl) (fun hp=>?_);obtain ⟨w220, hw220, hvw220⟩ := slice_preN hp hk220;refine zV R3 (hvw220 (p := 1) rfl ⟨rfl, rfl⟩ rfl rfl) (zM R4 ?_);obtain ⟨⟨y222, y222_2, y222_3, y222_4⟩, hr222, h⟩ := andx_some h;dsimp only at h;obtain ⟨g_7, hgg_7, hrg_7⟩ := Rdl.reif (hs := ownL true v4 encI other :: ownL true w49 encI y49 :: .row b4 1 [v_x_0, v_x_1] :: .row b3 3 [qD, qC, qB] :: C) qK M4 (ReifL.flat encStr_tr);obtain ⟨g_8, hgg_8, hrg_8⟩ := Rdl.reif (hs := ownL true v4 encI other :: ownL true w49 encI y49 :: .row b4 1 [v_x_0, v_x_1] :: .row b3 3 [qD, qC, qB] :: C) qJ M4 (ReifL.flat qAb);obtain ⟨g_9, hgg_9, hrg_9⟩ := Rdl.reif (hs := ownL true v4 encI other :: ownL true w49 encI y49 :: .row b4 1 [v_x_0, v_x_1] :: .row b3 3 [qD, qC, qB] :: C) qI M4 (ReifL.flat qAa);refine TO.call rfl rfl rfl rfl rfl (orcL rfl aD) (.cons (.agg (.cons (hrg_7 _) (.cons (hrg_8 _) (.cons (hrg_9 _) .nil)))) (.cons (Reif.preN (p := 1) rfl hw220) (.cons .lit .nil))) (sem_of (w_s9_Walk g_7 g_8 g_9 (GSo false encI (List.take (((y49.length : Int) - 1)).toNat y49)) (1 + (Int.tmod (carry.toNat : Int) 100)) _ (by try rw [hgg_7]; try rw [hgg_8]; try rw [hgg_9]; exact hr222))) (zM R4 (zX R5 (zX R5 (zX R5 (zA R4 (zA R4 (zA R4 (zN ?_))))))))
        show T _ _ _ _ _ _;apply T.joinA (r := r) (W := Unit) (fun j w => ⟨[], [(6, bv j)], ownL true v4 encI other :: ownL true w49 encI y49 :: .row b4 1 [v_x_0, v_x_1] :: .row b3 3 [qD, qC, qB] :: C⟩) h
        ·intro j h;refine zT rfl (zM R4 ?_);obtain ⟨c227, hc227⟩ := zY (y222_4 = 0);refine zV R3 (Val.eql hc227 rfl rfl) (zM R4 ?_);obtain ⟨rfl, hc227, h⟩ | ⟨rfl, hc227, h⟩ := zI hc227 h
         ·refine zM R4 (zM R4 ?_);obtain ⟨c231, hc231⟩ := zY (y222_3 ≤ y58_3);refine zV R3 (Val.leq hc231 rfl rfl) (zP R6 (zM R4 ?_));obtain ⟨rfl, hc231, h⟩ | ⟨rfl, hc231, h⟩ := zI hc231 h
          ·refine TO.call rfl rfl rfl rfl rfl orcA .nil rfl (zP R6 (zA R4 (zN ?_)));cases h;exact ⟨rfl, (), (sb .refl)⟩
          refine zO R3 (zP R6 (zA R4 (zN ?_)));cases h;exact ⟨rfl, (), (sb .refl)⟩
         refine zO R3 (zO R3 (zO R3 (zP R6 (zM R4 (zO R3 (zP R6 (zA R4 (zN ?_))))))));cases h;exact ⟨rfl, (), (sb .refl)⟩
        ·rintro x6 _ h;refine zR ?_;cases h;exact ⟨rfl, _, rfl, ⟨(), rfl, (pk [98,98,98,98] rfl)⟩⟩
 refine zC rfl (zU rfl (zV R3 (vW 1 [_,_,_] R5 R4) ?_));obtain ⟨⟨y37, y37_2, y37_3, y37_4⟩, hr37, h⟩ := andx_some h;dsimp only at h;obtain ⟨g, hgg, hrg⟩ := Rdl.reif (hs := .row b4 1 [v_x_0, v_x_1] :: .row b3 3 [qD, qC, qB] :: C) qK M2 (ReifL.flat encStr_tr);obtain ⟨g_2, hgg_2, hrg_2⟩ := Rdl.reif (hs := .row b4 1 [v_x_0, v_x_1] :: .row b3 3 [qD, qC, qB] :: C) qJ M2 (ReifL.flat qAb);obtain ⟨g_3, hgg_3, hrg_3⟩ := Rdl.reif (hs := .row b4 1 [v_x_0, v_x_1] :: .row b3 3 [qD, qC, qB] :: C) qI M2 (ReifL.flat qAa);refine TO.call rfl rfl rfl rfl rfl (orcL rfl aD) (.cons (.agg (.cons (hrg _) (.cons (hrg_2 _) (.cons (hrg_3 _) .nil)))) (.cons .lit (.cons .lit .nil))) (sem_of (w_s9_Walk g g_2 g_3 (GSo true encI []) 1 _ (by try rw [hgg]; try rw [hgg_2]; try rw [hgg_3]; exact hr37))) (zM R4 (zX R5 (zX R5 (zX R5 (zA R4 (zA R4 (zA R4 (zN ?_))))))))
 show T _ _ _ _ _ _;apply T.joinA (r := r) (W := Unit) (fun j w => ⟨[], [(6, bv j)], .row b4 1 [v_x_0, v_x_1] :: .row b3 3 [qD, qC, qB] :: C⟩) h
 ·intro j h;refine zT rfl (zM R4 ?_);obtain ⟨c42, hc42⟩ := zY (¬ y37_4 = 0);refine zV R3 (Val.neq hc42 rfl rfl) (zM R4 ?_);obtain ⟨rfl, hc42, h⟩ | ⟨rfl, hc42, h⟩ := zI hc42 h
  ·refine TO.call rfl rfl rfl rfl rfl orcA .nil rfl (zP R6 (zA R4 (zN ?_)));cases h;exact ⟨rfl, (), (sb .refl)⟩
  refine zO R3 (zP R6 (zA R4 (zN ?_)));cases h;exact ⟨rfl, (), (sb .refl)⟩
 ·rintro x6 _ h;refine zR ?_;cases h;exact ⟨rfl, _, rfl, ⟨(), rfl, (pk [98,98] rfl)⟩⟩
theorem w_law_ShelfWay (qF : GS encStr) (qE : GS qU) (qG : GS qN) (x_0 : GS encU8) (x_1 : GS encU8) (carry : UInt8) (r : Bool) (h : P_law_ShelfWay qF.l qE.l qG.l x_0.l x_1.l carry = some r) : Comes (EL 2) 14 [.agg [qF.v, qE.v, qG.v], .agg [x_0.v, x_1.v], ivk .u8 ((carry.toNat : Int))] (bv r) :=
 TF.run (tf_law_ShelfWay (Nat.le_refl _) (RdT.gs qF) (RdT.gs qE) (RdT.gs qG) (RdT.gs x_0) (RdT.gs x_1) h) fun w => .lit
end Go.Am.YtiaolgbmbhldgaaGreatDoor
end
