/- Part 18. -/
import Derived.Test.YtiaolgbmbhldgaaGreatDoorMP15
section
namespace Go.Am
set_option linter.unusedVariables false
set_option linter.unusedSimpArgs false
theorem lastD_eq {t : Str} {d : Nat} (hd : d < t.length) (h1 : byteAt t (d : Int) = 46) (h2 : ∀ j : Nat, d < j → j < t.length → byteAt t (j : Int) ≠ 46) : lastDot t = (d : Int) := by
 unfold lastDot
 have hr := lastD_rng t t.length
 rcases Int.lt_trichotomy (lastD t t.length) (d : Int) with h | h | h
 ·exact absurd h1 (lastD_last t t.length d h hd)
 ·exact h
 ·obtain ⟨k, hk⟩ := Int.eq_ofNat_of_zero_le (show 0 ≤ lastD t t.length by omega)
  have := lastD_dot t t.length (by omega);rw [hk] at this h;exact absurd this (h2 k (by omega) (by omega))
theorem byteAt_app (a b : Str) (k : Nat) : byteAt (a ++ b) ((a.length + k : Nat) : Int) = byteAt b (k : Int) := by
 unfold byteAt;simp only [Int.toNat_natCast, List.getD_eq_getElem?_getD];rw [List.getElem?_append_right (by omega), Nat.add_sub_cancel_left]
theorem low_ne {s : Str} (h : isLow s) {k : Nat} (hk : k < s.length) : 97 ≤ byteAt s (k : Int) ∧ byteAt s (k : Int) ≤ 122 := h k hk
structure Wr (a : Str) (m : Nat) (s : Str) : Prop where
 hn : isName a
 hm : 1 ≤ m ∧ m ≤ 9999
 hs : s.length ≤ 2
 hl : isLow s
section
variable {a : Str} {m : Nat} {s : Str}
theorem wrS_eq : wrS a (m : Int) s = a ++ (46 :: (decN m ++ s)) := by simp [wrS]
variable (h : Wr a m s)
include h
theorem tail_ne (j : Nat) (hj : j < (decN m ++ s).length) : byteAt (decN m ++ s) (j : Int) ≠ 46 := by
 by_cases hj' : j < (decN m).length
 ·obtain ⟨b, hb⟩ := get_some hj'
  have hd := decN_digits m b (List.mem_of_getElem? hb);unfold digB at hd;rw [byteAt_of (show (decN m ++ s)[j]? = some b by rw [List.getElem?_append_left hj']; exact hb)];omega
 ·have e : (j : Int) = (((decN m).length + (j - (decN m).length) : Nat) : Int) := by omega
  rw [e, byteAt_app];rw [List.length_append] at hj
  have := low_ne h.hl (k := j - (decN m).length) (by omega);omega
theorem wr_dot : lastDot (wrS a (m : Int) s) = (a.length : Int) := by
 rw [wrS_eq]
 have e0 : byteAt (a ++ (46 :: (decN m ++ s))) ((a.length : Nat) : Int) = 46 := by
  have := byteAt_app a (46 :: (decN m ++ s)) 0;rw [Nat.add_zero] at this;rw [this];exact byteAt_of (b := 46) rfl
 refine lastD_eq (by simp) e0 fun j h1 h2 => ?_
 have e : (j : Int) = ((a.length + (j - a.length) : Nat) : Int) := by omega
 rw [e, byteAt_app]
 have e2 : byteAt (46 :: (decN m ++ s)) ((j - a.length : Nat) : Int) = byteAt (decN m ++ s) ((j - a.length - 1 : Nat) : Int) := by
  have : j - a.length = (j - a.length - 1) + 1 := by omega
  rw [this];unfold byteAt;simp [List.getD_eq_getElem?_getD]
 rw [e2];refine tail_ne h _ ?_;simp only [List.length_append, List.length_cons] at h2 ⊢;omega
theorem wr_before : beforeDot (wrS a (m : Int) s) = a := by
 unfold beforeDot;rw [wr_dot h, wrS_eq];simp
theorem wr_after : afterDot (wrS a (m : Int) s) = decN m ++ s := by
 unfold afterDot;rw [wr_dot h, wrS_eq, Int.toNat_natCast, ← List.drop_drop, List.drop_left];rfl
theorem wr_cnt : dcnt (decN m ++ s) = (decN m).length := by
 refine dcnt_of _ _ ?_ ?_ (by simp)
 ·rw [List.take_left]; exact decN_digits m
 ·intro b hb hd;rw [List.getElem?_append_right (Nat.le_refl _), Nat.sub_self] at hb
  have := low_ne h.hl (k := 0) (List.getElem?_eq_some_iff.1 hb).1;rw [byteAt_of hb] at this;unfold digB at hd;omega
theorem wr_tail : TailOk (decN m ++ s) := by
 have hc := wr_cnt h
 have hlen := decN_len (n := m) (k := 4) (by omega) (by have := h.hm; omega)
 have hp := decN_pos m;refine ⟨by omega, fun b hb h48 => ?_, ?_, ?_⟩
 ·obtain ⟨b', h1, h2⟩ := decN_head (n := m) (by have := h.hm; omega);rw [List.getElem?_append_left hp, h1] at hb;cases hb;exact h2 h48
 ·rw [hc, List.drop_left]; exact h.hs
 ·rw [hc, List.drop_left]; exact h.hl
theorem wr_ok : MarkOk (wrS a (m : Int) s) := by
 refine ⟨by rw [wr_dot h]; omega, by rw [wr_before h]; exact h.hn, by rw [wr_after h]; exact wr_tail h⟩
theorem wr_num : numOf (wrS a (m : Int) s) = m := by
 unfold numOf;rw [wr_after h, wr_cnt h, List.take_left, valS_decN]
theorem wr_suf : sufOf (wrS a (m : Int) s) = s := by
 unfold sufOf;rw [wr_after h, wr_cnt h, List.drop_left]
theorem wr_len : (wrS a (m : Int) s).length ≤ 30 := by
 have hlen := decN_len (n := m) (k := 4) (by omega) (by have := h.hm; omega)
 have := h.hn.2.1
 have := h.hs;rw [wrS_eq]
 simp; omega
end
theorem dot_split {t : Str} (h : 0 ≤ lastDot t) : t = beforeDot t ++ (46 :: afterDot t) := by
 have hr := lastD_rng t t.length
 change -1 ≤ lastDot t ∧ lastDot t < t.length at hr
 have hd := lastD_dot t t.length h
 change byteAt t (lastDot t) = 46 at hd
 obtain ⟨k, hk⟩ := Int.eq_ofNat_of_zero_le h;obtain ⟨b, hb⟩ := get_some (l := t) (k := k) (by omega);rw [hk, byteAt_of hb] at hd
 have hb46 : b = 46 := UInt8.toNat_inj.1 (by show b.toNat = 46; omega);unfold beforeDot afterDot;rw [hk, Int.toNat_natCast]
 have : t.drop k = 46 :: t.drop (k + 1) := by
  rw [List.drop_eq_getElem_cons (by omega)]
  congr 1
  rw [← hb46];exact (List.getElem?_eq_some_iff.1 hb).2
 rw [← this, List.take_append_drop]
theorem again {t : Str} (h : MarkOk t) : wrS (beforeDot t) (numOf t : Int) (sufOf t) = t := by
 obtain ⟨v0, v1, v2⟩ := tail_num h.2.2;unfold wrS numOf sufOf;rw [Int.toNat_natCast, decN_valS v0]
 conv => rhs; rw [dot_split h.1]
 simp
open Classical in
theorem ShelfRound_true (cl : List Str) (sh : List qH) (bs : List qG) (c n : Int) (s : Str) (text : Str) (ht : text.length ≤ 9223372036854775807) :
    P_law_ShelfRound cl sh bs c n s text = some true := by
  refine Ok.get ?_
  unfold P_law_ShelfRound
  rw [s9_Write_eq, andx_some']
  by_cases h0 : roomN cl sh bs = 0
  rotate_left
  · have hf : ¬ Fine cl sh bs := fun h => h0 (roomN_zero.2 h)
    unfold wrR
    rw [if_neg h0]
    dsimp only
    rw [law9_valid_eq, andx_some', decide_eq_false hf, if_neg (by decide), if_pos h0, if_pos rfl]
    exact .some rfl
  have hf := roomN_zero.1 h0
  have hcl := hf.cl1
  obtain ⟨w, e, hwe⟩ : ∃ w e, wrR cl sh bs c n s = (w, e) := ⟨_, _, rfl⟩
  rw [hwe]
  dsimp only
  rw [law9_valid_eq, andx_some', decide_eq_true hf, if_pos rfl]
  refine Ok.seqx (Ok.mono (Q := fun x => x = Ex.nx ()) ?_ ?_)
  · unfold wrR at hwe
    rw [if_pos h0] at hwe
    by_cases h1 : mkErr cl.length c n s = 0
    · rw [if_pos h1] at hwe
      cases hwe
      rw [if_pos rfl]
      obtain ⟨hc, hnn, hs, hlow⟩ := markOk_bound h1
      obtain ⟨k, rfl⟩ := Int.eq_ofNat_of_zero_le hc.1
      obtain ⟨m, rfl⟩ := Int.eq_ofNat_of_zero_le (show 0 ≤ n by omega)
      obtain ⟨a, ha⟩ := get_some (l := cl) (k := k) (by omega)
      obtain ⟨hname, hnot⟩ := class_name hf ha
      have hga : cl.getD ((k : Int)).toNat [] = a := by simp [List.getD_eq_getElem?_getD, ha]
      rw [hga]
      have hm : 1 ≤ m ∧ m ≤ 9999 := by omega
      have hW : Wr a m s := ⟨hname, hm, hs, hlow⟩
      have hwl := wr_len hW
      refine (s9_Read_eq cl sh bs (wrS a (m : Int) s) (by omega)).andx fun r hr => ?_
      obtain ⟨i, hi, rfl⟩ := hr.2.2 h0 (wr_ok hW)
      rw [wr_before hW] at hi
      have hk : FirstAt cl a (k : Int) := .inr ⟨k, rfl, ha, fun j hj hja => hnot (by
        have : (cl.take k)[j]? = some a := by rw [List.getElem?_take, if_pos hj]; exact hja
        exact List.mem_of_getElem? this)⟩
      rw [hi.unique hk, if_neg (show ¬ ((k : Int) < 0) by omega), wr_num hW, wr_suf hW]
      dsimp only
      rw [if_neg (not_not_intro rfl), andx_some', decide_eq_false (not_not_intro ⟨rfl, rfl, rfl⟩), if_neg (by decide)]
      exact .some rfl
    · rw [if_neg h1] at hwe
      cases hwe
      rw [if_neg h1]
      exact .some rfl
  · rintro x rfl
    show Ok (andx _ _) _
    refine (s9_Read_eq cl sh bs text ht).andx fun r hr => ?_
    by_cases hm : MarkOk text
    · obtain ⟨i, hi, rfl⟩ := hr.2.2 h0 hm
      by_cases h4 : i < 0
      · rw [if_pos h4]
        dsimp only
        rw [if_pos (by decide), show P_law9_mark 0 0 [] = some (0, 0, []) from rfl, andx_some']
        dsimp only
        rw [if_pos ⟨rfl, rfl, rfl⟩, andx_some']
        exact .some rfl
      · rw [if_neg h4]
        dsimp only
        rw [if_neg (not_not_intro rfl), s9_Write_eq, andx_some']
        rcases hi with ⟨h, _⟩ | ⟨k, rfl, hk, _⟩
        · omega
        obtain ⟨v0, v1, v2⟩ := tail_num hm.2.2
        have hkl := (List.getElem?_eq_some_iff.1 hk).1
        have hme : mkErr cl.length (k : Int) ((numOf text : Nat) : Int) (sufOf text) = 0 := by
          unfold mkErr
          rw [if_pos (by unfold btw; omega), if_pos (by unfold btw numOf; omega), if_pos (show (sufOf text).length ≤ 2 from hm.2.2.2.2.1), if_pos (show isLow (sufOf text) from hm.2.2.2.2.2)]
        have hga : cl.getD ((k : Int)).toNat [] = beforeDot text := by simp [List.getD_eq_getElem?_getD, hk]
        unfold wrR
        rw [if_pos h0, if_pos hme, hga, again hm]
        dsimp only
        rw [if_pos rfl, if_pos rfl, andx_some']
        exact .some rfl
    · rw [hr.2.1 h0 hm]
      dsimp only
      rw [if_pos (by decide), show P_law9_mark 0 0 [] = some (0, 0, []) from rfl, andx_some']
      dsimp only
      rw [if_pos ⟨rfl, rfl, rfl⟩, andx_some']
      exact .some rfl
end Go.Am
end
