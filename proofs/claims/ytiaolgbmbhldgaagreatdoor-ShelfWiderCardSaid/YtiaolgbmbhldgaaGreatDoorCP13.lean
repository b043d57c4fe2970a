/- Part 13. -/
import Derived.Test.YtiaolgbmbhldgaaGreatDoorCP12
import Derived.Test.YtiaolgbmbhldgaaGreatDoorCP2
section
namespace Go.Am
open Go.RowKit
set_option linter.unusedVariables false
set_option linter.unusedSimpArgs false
def restC (m : Int) (l : List Int) : List AV := iv m :: l.map fun x => iv x
theorem restC_len {m : Int} {l : List Int} {k : Nat} (h : l.length = k) : (restC m l).length = k + 1 := by simp [restC, h]
theorem restC_ones (m : Int) (l : List Int) : (restC m l).all oneCell = true := by
 simp [restC]
section
variable {E : Env} {σ : Sl} {hs hs' : List Thing} {bt : TypeId} {x y : Operand} {p id u k m : Nat} {n a : Int} {l l' : List Int}
theorem Val.load_rest (hp : hs[p]? = some (.row id u (restC n l))) (hl : l.length = k) (ht : Aggr E bt (k + 1)) (hx : evs σ x = some (.ptr id 0 (k + 1))) : Val E σ hs (.load bt x) (.agg (restC n l)) :=
 Val.load_rows hp ht hx (restC_len hl) (by rw [List.drop_zero, List.take_of_length_le (by rw [restC_len hl]; exact Nat.le_refl _)]) (Nat.ble_eq_true_of_le (by omega))
theorem Val.load_rest0 (hp : hs[p]? = some (.row id u (restC n l))) (hl : l.length = k) (ht : Scalar E bt) (hx : evs σ x = some (.ptr id 0 (k + 1))) : Val E σ hs (.load bt x) (iv n) :=
 Val.load_row hp ht hx (restC_len hl) rfl
theorem Val.load_restA (hp : hs[p]? = some (.row id u (restC n l))) (hl : l.length = k) (ht : Aggr E bt k) (hx : evs σ x = some (.ptr id 1 (k + 1))) : Val E σ hs (.load bt x) (.agg (l.map fun x => iv x)) :=
  Val.load_rows hp ht hx (restC_len hl) (by
    show (l.map fun x => iv x).take k = _
    rw [List.take_of_length_le (by rw [List.length_map, hl]; exact Nat.le_refl _)]) (Nat.ble_eq_true_of_le (by omega))
theorem Eff.store_rest {cells : List AV} {n' : Int} (hp : hs[p]? = some (.row id u cells)) (hc : cells.length = k + 1) (hl : l'.length = k) (ht : E.siz bt = some (k + 1)) (hx : evs σ x = some (.ptr id 0 (k + 1))) (hy : evs σ y = some (.agg (restC n' l'))) :
    Eff E σ hs (.store bt x y) fun _ hs' => hs' = hs.set p (.row id u (restC n' l')) :=
  Eff.store_row (cv := restC n' l') (cells' := restC n' l') hp ht hx hc hy rfl (by rw [restC_len hl]; exact Nat.beq_refl _) rfl (restC_ones _ _) (by omega) (by
    unfold spliceL
    rw [List.take_zero, List.nil_append, Nat.zero_add, List.drop_of_length_le (by rw [restC_len hl, hc]; exact Nat.le_refl _), List.append_nil])
theorem Eff.store_rest0 {n' : Int} (hp : hs[p]? = some (.row id u (restC n l))) (hl : l.length = k) (ht : E.siz bt = some 1) (hx : evs σ x = some (.ptr id 0 (k + 1))) (hy : evs σ y = some (iv n')) :
  Eff E σ hs (.store bt x y) fun _ hs' => hs' = hs.set p (.row id u (restC n' l)) :=
 Eff.store_row (cells' := restC n' l) hp ht hx (restC_len hl) hy rfl rfl rfl rfl (by omega) rfl
theorem splice_at {c : List AV} {i : Nat} {v : AV} (h : i < c.length) : spliceL c i [v] = c.set i v := by
 unfold spliceL;rw [List.set_eq_take_append_cons_drop, if_pos h];simp
theorem Eff.store_restAt {i : Int} (hp : hs[p]? = some (.row id u (restC n l))) (hl : l.length = k) (hi : 0 ≤ i ∧ i < k) (ht : E.siz bt = some 1) (hx : evs σ x = some (.ptr id (1 + i.toNat * 1) (k + 1))) (hy : evs σ y = some (iv a)) :
    Eff E σ hs (.store bt x y) fun _ hs' => hs' = hs.set p (.row id u (restC n (l.set i.toNat a))) :=
  Eff.store_row (cells' := restC n (l.set i.toNat a)) hp ht hx (restC_len hl) hy rfl rfl rfl rfl (by omega) (by
    show spliceL (restC n l) _ [iv a] = _
    rw [splice_at (by rw [restC_len hl]; omega), Nat.mul_one, Nat.add_comm]
    unfold restC
    rw [List.set_cons_succ, List.map_set])
end
end Go.Am
end
section
namespace Go.Am
theorem T.seqJoin {E : Env} {n : Nat} {rnd : Option Nat} {s s1 : Sy} {Q : Exit → Sy → Prop} {x y : Code} (h1 : T E n rnd x s fun e s' => e = .normal ∧ Sub s1 s') (h2 : T E n rnd y s1 Q) : T E n rnd (.seq x y) s Q :=
 .seq (h1.mono fun e s' ⟨he, hs⟩ => by subst he; exact T.keep hs h2)
end Go.Am
end
section
namespace Go.Am
open Go.RowKit
set_option linter.unusedVariables false
set_option linter.unusedSimpArgs false
section
variable {E : Env} {hs hs' C : List Thing}
end
end Go.Am
end
section
namespace Go.Am
set_option linter.unusedVariables false
end Go.Am
end
section
namespace Go.Am.YtiaolgbmbhldgaaGreatDoor
open Go.Am Go.RowKit
set_option linter.unusedVariables false
set_option linter.unusedSimpArgs false
end Go.Am.YtiaolgbmbhldgaaGreatDoor
end
section
namespace Go.Am
set_option linter.unusedVariables false
theorem i64_small {x : Int} (h : -4000000000000000000 ≤ x ∧ x ≤ 4000000000000000000) : I64 x := by unfold I64; omega
section
variable {σ ε J A β : Type}
def CountQ (idx : σ → Int) (I : Nat → σ → Prop) (k : Nat) (Q : ε → Prop) : Stp σ ε → Prop
 | .ag s => idx s = k + 1 ∧ I (k + 1) s
 | .dn e => Q e
def FinQ (Q : ε → Prop) : Stp σ ε → Prop
 | .ag _ => False
 | .dn e => Q e
theorem Ok.count (idx : σ → Int) (n : Nat) (I : Nat → σ → Prop) {body : σ → Option (Stp σ ε)} {s0 : σ} {Q : ε → Prop} (h0 : idx s0 = 0) (hI : I 0 s0)
  (step : ∀ k s, k < n → idx s = k → I k s → Ok (body s) (CountQ idx I k Q)) (fin : ∀ s, idx s = n → I n s → Ok (body s) (FinQ Q)) : Ok (Am.iter body s0) Q := by
 refine Ok.iter (fun s => ∃ k : Nat, k ≤ n ∧ idx s = k ∧ I k s) (fun s => n - (idx s).toNat) ⟨0, Nat.zero_le _, h0, hI⟩ ?_;rintro s ⟨k, hk, hx, hi⟩
 by_cases hlt : k < n
 ·refine (step k s hlt hx hi).mono fun x hq => ?_
  cases x with
  | ag s' =>
   have h1 : idx s' = k + 1 := hq.1;exact ⟨⟨k + 1, by omega, by rw [h1]; rfl, hq.2⟩, by show n - (idx s').toNat < n - (idx s).toNat; rw [h1, hx]; omega⟩
  | dn e => exact hq
 ·have : k = n := by omega
  subst this;refine (fin s hx hi).mono fun x hq => ?_
  cases x with
  | ag s' => exact hq.elim
  | dn e => exact hq
end
end Go.Am
end
section
namespace Go.Am
set_option linter.unusedVariables false
set_option linter.unusedSimpArgs false
open Classical in
noncomputable def scanX {A : Type} (f : Nat → Option A) (n : Nat) : Ex Unit A := match (List.range n).findSome? f with | some a => .rt a | none => .nx ()
theorem find_range {A : Type} {f : Nat → Option A} {a : A} : ∀ {n k : Nat}, k < n → (∀ j, j < k → f j = none) → f k = some a → (List.range n).findSome? f = some a := by
 intro n
 induction n with
 | zero => intro k hk; omega
 | succ n ih =>
  intro k hk h0 h1;rw [List.range_succ, List.findSome?_append]
  by_cases hkn : k = n
  ·subst hkn
   have : (List.range k).findSome? f = none := by
    rw [List.findSome?_eq_none_iff];intro x hx;exact h0 x (List.mem_range.1 hx)
   rw [this];simp [h1]
  ·rw [ih (by omega) h0 h1]; rfl
theorem find_none {A : Type} {f : Nat → Option A} {n : Nat} (h : ∀ j, j < n → f j = none) : (List.range n).findSome? f = none := by
 rw [List.findSome?_eq_none_iff];intro x hx;exact h x (List.mem_range.1 hx)
theorem of_find_none {A : Type} {f : Nat → Option A} {n : Nat} (h : (List.range n).findSome? f = none) : ∀ j, j < n → f j = none := by
 rw [List.findSome?_eq_none_iff] at h;exact fun j hj => h j (List.mem_range.2 hj)
def scanS {A : Type} {σ : Type} (s : σ) : Option A → Stp σ (Ex Unit A)
 | none => .ag s
 | some a => .dn (.rt a)
theorem iter_scan {A σ : Type} (idx : Nat → σ) (f : Nat → Option A) (n : Nat) {body : σ → Option (Stp σ (Ex Unit A))} (inj : ∀ k, idx k = idx k)
  (step : ∀ k : Nat, k < n → (∀ j, j < k → f j = none) → body (idx k) = some (scanS (idx (k + 1)) (f k)))
  (fin : (∀ j, j < n → f j = none) → body (idx n) = some (.dn (.nx ()))) : iter body (idx 0) = some (scanX f n) := by
 have key : ∀ m k : Nat, m = n - k → k ≤ n → (∀ j, j < k → f j = none) → iter body (idx k) = some (scanX f n) := by
  intro m
  induction m with
  | zero =>
   intro k hm hk h0
   have : k = n := by omega
   subst this;refine iter_eq.2 (.inr ?_);rw [fin h0];simp [scanX, find_none h0]
  | succ m ih =>
   intro k hm hk h0;cases hf : f k with
   | none =>
    refine iter_eq.2 (.inl ⟨idx (k + 1), ?_, ih (k + 1) (by omega) (by omega) fun j hj => ?_⟩)
    ·rw [step k (by omega) h0, hf]; rfl
    ·by_cases e : j = k
     ·rw [e]; exact hf
     ·exact h0 j (by omega)
   | some a =>
    refine iter_eq.2 (.inr ?_);rw [step k (by omega) h0, hf];simp [scanS, scanX, find_range (show k < n by omega) h0 hf]
 exact key n 0 (by omega) (by omega) (fun j hj => by omega)
theorem iter_scanI {A : Type} (f : Nat → Option A) (n : Nat) {body : Int → Option (Stp Int (Ex Unit A))}
  (step : ∀ k : Nat, k < n → (∀ j, j < k → f j = none) → body (k : Int) = some (scanS ((k : Int) + 1) (f k)))
  (fin : (∀ j, j < n → f j = none) → body (n : Int) = some (.dn (.nx ()))) : iter body 0 = some (scanX f n) :=
 iter_scan (fun k => (k : Int)) f n (fun _ => rfl) (fun k hk h => step k hk h) fin
theorem seqx_scan {A : Type} {f : Nat → Option A} {n : Nat} {k : Unit → Option A} : seqx (some (scanX f n)) k = match (List.range n).findSome? f with | some a => some a | none => k () := by
 unfold scanX;cases (List.range n).findSome? f <;> rfl
theorem el_at {α β : Type} {l : List α} {k : Nat} {a : α} {g : α → Option β} (h : l[k]? = some a) : el l (k : Int) g = g a := by
 unfold el;simp [h]
theorem get!_mk (l : Str) (i : Nat) : (⟨l.toArray⟩ : ByteArray).get! i = l.getD i 0 := by
 show l.toArray[i]! = _;rw [getElem!_def];simp [List.getD];cases l[i]? <;> rfl
theorem rune_ascii {l : Str} {p : Nat} {b : UInt8} (hb : l[p]? = some b) (h : b.toNat < 128) : runeAt l p = b.toNat ∧ runeLen l p = 1 := by
 have e : (⟨l.toArray⟩ : ByteArray).get! (p + 0) = b := by rw [get!_mk]; simp [List.getD, hb]
 unfold runeAt runeLen Utf8.decode;simp only [e];rw [if_pos h];exact ⟨rfl, rfl⟩
theorem rune_high {l : Str} {p : Nat} {b : UInt8} (hb : l[p]? = some b) (h : 128 ≤ b.toNat) : 128 ≤ runeAt l p := by
 have e : (⟨l.toArray⟩ : ByteArray).get! (p + 0) = b := by rw [get!_mk]; simp [List.getD, hb]
 unfold runeAt Utf8.decode;simp only [e, Utf8.runeError];rw [if_neg (by omega)];split
 ·split
  ·rename_i h1 h2; simp only [ge_iff_le] at h2; simp only; omega
  ·simp only; omega
 ·split
  ·split
   ·rename_i h1 h2; simp only [ge_iff_le, Bool.and_eq_true, decide_eq_true_eq] at h2; simp only; omega
   ·simp only; omega
  ·split
   ·split
    ·rename_i h1 h2; simp only [ge_iff_le, Bool.and_eq_true, decide_eq_true_eq] at h2; simp only; omega
    ·simp only; omega
   ·simp only; omega
def lowerN (x : Int) : Prop := 97 ≤ x ∧ x ≤ 122
def nameN (i : Nat) (x : Int) : Prop := lowerN x ∨ (0 < i ∧ ((48 ≤ x ∧ x ≤ 57) ∨ x = 46))
def isName (s : Str) : Prop := 0 < s.length ∧ s.length ≤ 16 ∧ ∀ i, i < s.length → nameN i (byteAt s i)
def isLow (s : Str) : Prop := ∀ i, i < s.length → lowerN (byteAt s i)
theorem byteAt_of {l : Str} {k : Nat} {b : UInt8} (h : l[k]? = some b) : byteAt l (k : Int) = b.toNat := by
 simp [byteAt, List.getD, h]
theorem get_some {α : Type} {l : List α} {k : Nat} (h : k < l.length) : ∃ a, l[k]? = some a := ⟨l[k], List.getElem?_eq_getElem h⟩
theorem byteAt_lt (l : Str) (k : Int) : 0 ≤ byteAt l k ∧ byteAt l k < 256 := by
 have := (l.getD k.toNat 0).toNat_lt;unfold byteAt;omega
theorem rune_low {l : Str} {p : Nat} (hp : p < l.length) : (runeAt l p = byteAt l p ∧ runeLen l p = 1) ∨ (128 ≤ runeAt l p ∧ 128 ≤ byteAt l p) := by
 obtain ⟨b, hb⟩ := get_some hp;rw [byteAt_of hb]
 by_cases h : b.toNat < 128
 ·exact .inl (rune_ascii hb h)
 ·exact .inr ⟨rune_high hb (by omega), by omega⟩
open Classical in
theorem find_if {A : Type} {P : Nat → Prop} {a : A} {n : Nat} : (List.range n).findSome? (fun i => if P i then none else some a) = if ∀ j, j < n → P j then none else some a := by
 by_cases h : ∀ j, j < n → P j
 ·rw [if_pos h, find_none fun j hj => if_pos (h j hj)]
 ·rw [if_neg h];cases hf : (List.range n).findSome? (fun i => if P i then none else some a) with
  | none =>
   refine absurd (fun i hi => ?_) h
   have := of_find_none hf i hi
   by_cases hl : P i
   ·exact hl
   ·rw [if_neg hl] at this; cases this
  | some b =>
   obtain ⟨x, hx, hx'⟩ := List.exists_of_findSome?_eq_some hf;split at hx'
   ·cases hx'
   ·exact hx'.symm
open Classical in
theorem r9_letters_eq (s : Str) (hs : s.length ≤ 1000) : P_r9_letters s = some (decide (isLow s)) := by
 unfold P_r9_letters;rw [iter_scanI (fun i => if lowerN (byteAt s i) then none else some false) s.length, seqx_scan, find_if]
 ·by_cases h : ∀ j, j < s.length → lowerN (byteAt s j)
  ·rw [if_pos h, decide_eq_true (show isLow s from h)]
  ·rw [if_neg h, decide_eq_false (show ¬ isLow s from h)]
 ·intro k hk h0;unfold P_r9_letters_L1;rw [if_pos (by omega), chk_pos (by omega), chk_pos (by omega), chk_pos (i64_small (by omega))];unfold lowerN;generalize byteAt s (k : Int) = x
  by_cases h1 : x < 97
  ·rw [if_pos h1, if_neg (by omega)]; rfl
  ·rw [if_neg h1]
   by_cases h2 : x > 122
   ·rw [if_neg (by omega), decide_eq_true h2]; rfl
   ·rw [if_pos (by omega), decide_eq_false h2]; rfl
 ·intro h0;unfold P_r9_letters_L1;rw [if_neg (by omega)]
theorem andx_some' {α β : Type} {a : α} {k : α → Option β} : andx (some a) k = k a := rfl
open Classical in
theorem r1_Name_eq (s : Str) : P_r1_Name s = some (decide (isName s)) := by
  unfold P_r1_Name
  by_cases h0 : s.length = 0
  · have : ¬ isName s := fun h => by have := h.1; omega
    rw [if_pos (by omega)]; simp [seqx, andx, this]
  by_cases h1 : 16 < s.length
  · have : ¬ isName s := fun h => by have := h.2.1; omega
    rw [if_neg (by omega), decide_eq_true (by omega)]; simp [seqx, andx, this]
  rw [if_neg (by omega), decide_eq_false (by omega)]
  show seqx (iter _ _) _ = _
  rw [iter_scanI (fun i => if nameN i (byteAt s i) then none else some false) s.length, seqx_scan, find_if]
  · by_cases h : ∀ j, j < s.length → nameN j (byteAt s j)
    · rw [if_pos h, decide_eq_true ⟨by omega, by omega, h⟩]
    · rw [if_neg h, decide_eq_false fun k => h k.2.2]
  · intro k hk hj
    unfold P_r1_Name_L1
    rw [if_pos (by omega)]
    simp only [chk_pos (show 0 ≤ (k : Int) ∧ (k : Int) < (s.length : Int) by omega), chk_pos (show I64 ((k : Int) + 1) from i64_small (by omega))]
    unfold nameN lowerN
    generalize byteAt s (k : Int) = x
    by_cases a1 : x ≥ 97 <;> by_cases a2 : x ≤ 122 <;> by_cases a3 : k = 0 <;> by_cases a4 : x ≥ 48 <;> by_cases a5 : x ≤ 57 <;> by_cases a6 : x = 46 <;>
      first
      | (exfalso; omega)
      | (rw [if_pos (show (97 ≤ x ∧ x ≤ 122) ∨ (0 < k ∧ ((48 ≤ x ∧ x ≤ 57) ∨ x = 46)) by omega)]; simp [andx, seqx, scanS, a1, a2, a3, a4, a5, a6]; done)
      | (rw [if_neg (show ¬ ((97 ≤ x ∧ x ≤ 122) ∨ (0 < k ∧ ((48 ≤ x ∧ x ≤ 57) ∨ x = 46))) by omega)]; simp [andx, seqx, scanS, a1, a2, a3, a4, a5, a6]; done)
  · intro hj
    unfold P_r1_Name_L1
    rw [if_neg (by omega)]
open Classical in
theorem q_Name_eq (s : Str) : P_q_Name s = some (decide (isName s)) := by
  unfold P_q_Name
  rw [iter_scan (fun k : Nat => k) (fun i => if nameN i (byteAt s i) then none else some false) s.length (fun _ => rfl), seqx_scan, find_if]
  · by_cases h : ∀ j, j < s.length → nameN j (byteAt s j)
    · rw [if_pos h]
      show andx _ _ = _
      by_cases h0 : s = []
      · subst h0
        have : ¬ isName [] := fun h => absurd h.1 (by simp)
        simp [andx, this]
      · have hpos : 0 < s.length := List.length_pos_iff.2 h0
        rw [if_pos h0]
        show some _ = some _
        congr 1
        by_cases h1 : s.length ≤ 16
        · rw [decide_eq_true (by omega), decide_eq_true ⟨hpos, h1, h⟩]
        · rw [decide_eq_false (by omega), decide_eq_false fun k => h1 k.2.1]
    · rw [if_neg h, decide_eq_false (show ¬ isName s from fun k => h k.2.2)]
  · intro k hk hj
    unfold P_q_Name_L1
    rw [if_pos hk]
    show _ = some (scanS (k + 1) _)
    have hb := byteAt_lt s (k : Int)
    unfold nameN lowerN
    rcases rune_low hk with ⟨h1, h2⟩ | ⟨h1, h2⟩
    · rw [h1, h2]
      generalize byteAt s (k : Int) = x
      by_cases a1 : x ≥ 97 <;> by_cases a2 : x ≤ 122 <;> by_cases a3 : 0 < k <;> by_cases a4 : x ≥ 48 <;> by_cases a5 : x ≤ 57 <;> by_cases a6 : x = 46 <;>
        first
        | (exfalso; omega)
        | (rw [if_pos (show (97 ≤ x ∧ x ≤ 122) ∨ (0 < k ∧ ((48 ≤ x ∧ x ≤ 57) ∨ x = 46)) by omega)]; simp [andx, scanS, a1, a2, a3, a4, a5, a6]; done)
        | (rw [if_neg (show ¬ ((97 ≤ x ∧ x ≤ 122) ∨ (0 < k ∧ ((48 ≤ x ∧ x ≤ 57) ∨ x = 46))) by omega)]; simp [andx, scanS, a1, a2, a3, a4, a5, a6]; done)
    · generalize byteAt s (k : Int) = x at *
      generalize runeAt s k = y at *
      rw [if_neg (show ¬ ((97 ≤ x ∧ x ≤ 122) ∨ (0 < k ∧ ((48 ≤ x ∧ x ≤ 57) ∨ x = 46))) by omega)]
      have a1 : y ≥ 97 := by omega
      have a2 : ¬ y ≤ 122 := by omega
      have a4 : y ≥ 48 := by omega
      have a5 : ¬ y ≤ 57 := by omega
      have a6 : ¬ y = 46 := by omega
      by_cases a3 : 0 < k <;> simp [andx, scanS, a1, a2, a3, a4, a5, a6]
  · intro hj
    unfold P_q_Name_L1
    rw [if_neg (by omega)]
end Go.Am
end
section
namespace Go.Am
set_option linter.unusedVariables false
set_option linter.unusedSimpArgs false
open Classical in
theorem r9_in_eq (n a b : Int) : P_r9_in n a b = some (decide (a ≤ n ∧ n ≤ b)) := by
 unfold P_r9_in
 by_cases h : a ≤ n
 ·rw [if_pos h]
  by_cases h2 : n ≤ b
  ·simp [andx, h, h2]
  ·simp [andx, h2]
 ·rw [if_neg h]; simp [andx, h]
open Classical in
theorem find_idx {P : Nat → Prop} {n : Nat} : ((∀ j, j < n → P j) ∧ (List.range n).findSome? (fun i => if P i then none else some (i : Int)) = none) ∨ ((¬ ∀ j, j < n → P j) ∧ ∃ k : Int, 0 ≤ k ∧ (List.range n).findSome? (fun i => if P i then none else some (i : Int)) = some k) := by
 by_cases h : ∀ j, j < n → P j
 ·exact .inl ⟨h, find_none fun j hj => if_pos (h j hj)⟩
 ·refine .inr ⟨h, ?_⟩;cases hf : (List.range n).findSome? (fun i => if P i then none else some (i : Int)) with
  | none =>
   refine absurd (fun i hi => ?_) h
   have := of_find_none hf i hi
   by_cases hl : P i
   ·exact hl
   ·rw [if_neg hl] at this; cases this
  | some k =>
   obtain ⟨x, hx, hx'⟩ := List.exists_of_findSome?_eq_some hf;split at hx'
   ·cases hx'
   ·cases hx'; exact ⟨_, by omega, rfl⟩
def btw (lo hi x : Int) : Prop := lo ≤ x ∧ x ≤ hi
def btwAt (lo hi : Int) (l : List Int) (i : Nat) : Prop := ∀ x, l[i]? = some x → btw lo hi x
open Classical in
theorem s9_out_eq (lo hi : Int) (l : List Int) (hl : l.length ≤ 1000) : P_s9_out lo hi l = some (decide (¬ ∀ j, j < l.length → btwAt lo hi l j)) := by
 unfold P_s9_out;rw [iter_scanI (fun i => if btwAt lo hi l i then none else some (i : Int)) l.length, seqx_scan]
 ·rcases find_idx (P := btwAt lo hi l) (n := l.length) with ⟨h, e⟩ | ⟨h, k, hk, e⟩
  ·rw [e]
   have : ¬ ¬ ∀ j, j < l.length → btwAt lo hi l j := fun hn => hn h
   simp only [andx];rw [decide_eq_false this]; rfl
  ·rw [e];simp only [andx];rw [decide_eq_true h, decide_eq_true hk]
 ·intro k hk _;unfold P_s9_out_L1;obtain ⟨a, ha⟩ := get_some hk;rw [if_pos (by omega), el_at ha, chk_pos (i64_small (by omega))]
  have e : btwAt lo hi l k ↔ (lo ≤ a ∧ a ≤ hi) := by
   unfold btwAt; rw [ha]; exact ⟨fun h => h a rfl, fun h x hx => by cases hx; exact h⟩
  by_cases h1 : a < lo
  ·rw [if_pos h1, if_neg (fun h => by have := e.1 h; omega)]; rfl
  ·rw [if_neg h1]
   by_cases h2 : a > hi
   ·rw [decide_eq_true h2, if_neg (fun h => by have := e.1 h; omega)]; rfl
   ·rw [decide_eq_false h2, if_pos (e.2 (by omega))]; rfl
 ·intro _;unfold P_s9_out_L1;rw [if_neg (by omega)]
open Classical in
theorem s9_out1 (lo hi a : Int) : P_s9_out lo hi [a] = some (decide (¬ btw lo hi a)) := by
 rw [s9_out_eq _ _ _ (by simp)]
 congr 1
 refine decide_eq_decide.2 ?_;refine not_congr ⟨fun h => h 0 (by simp) a rfl, fun h j hj x hx => ?_⟩
 match j with
 | 0 => cases hx; exact h
open Classical in
theorem s9_out2 (lo hi a b : Int) : P_s9_out lo hi [a, b] = some (decide (¬ (btw lo hi a ∧ btw lo hi b))) := by
 rw [s9_out_eq _ _ _ (by simp)]
 congr 1
 refine decide_eq_decide.2 ?_;refine not_congr ⟨fun h => ⟨h 0 (by simp) a rfl, h 1 (by simp) b rfl⟩, fun h j hj x hx => ?_⟩
 match j with
 | 0 => cases hx; exact h.1
 | 1 => cases hx; exact h.2
theorem r1_Place_ok (l : List Str) (w : Str) (hl : l.length ≤ 1000) : Ok (P_r1_Place l w) fun r => (0 ≤ r ↔ w ∈ l) := by
 unfold P_r1_Place;refine .chk (i64_small (by omega)) ?_;refine Ok.andx (P := fun at_ : Int => (0 ≤ at_ ↔ w ∈ l) ∧ at_ < l.length) ?_ ?_
 ·refine Ok.iter (fun at_ : Int => (-1 ≤ at_ ∧ at_ < l.length) ∧ ∀ j : Nat, at_ < j → l[j]? ≠ some w) (fun at_ : Int => (at_ + 1).toNat) ⟨by omega, fun j hj hj' => ?_⟩ ?_
  ·have := (List.getElem?_eq_some_iff.1 hj').1;omega
  ·rintro at_ ⟨h1, h2⟩;unfold P_r1_Place_L1
   by_cases h3 : at_ ≥ 0
   ·rw [if_pos h3];obtain ⟨k, rfl⟩ := Int.eq_ofNat_of_zero_le h3;obtain ⟨a, ha⟩ := get_some (l := l) (k := k) (by omega);rw [el_at ha]
    by_cases h4 : a = w
    ·simp only [h4, not_true, decide_false, andx, seqx];refine .some ⟨⟨fun _ => h4 ▸ List.mem_of_getElem? ha, fun _ => h3⟩, h1.2⟩
    ·simp only [h4, not_false_iff, decide_true, andx, seqx, if_true];refine .chk (i64_small (by omega)) (.some ⟨⟨by omega, fun j hj => ?_⟩, by show ((k : Int) - 1 + 1).toNat < ((k : Int) + 1).toNat; omega⟩)
     by_cases hjk : j = k
     ·subst hjk; rw [ha]; exact fun e => h4 (by cases e; rfl)
     ·exact h2 j (by omega)
   ·rw [if_neg h3];simp only [andx, seqx];refine .some ⟨⟨fun h => absurd h h3, fun h => ?_⟩, h1.2⟩;obtain ⟨j, hj⟩ := List.getElem?_of_mem h;exact absurd hj (h2 j (by omega))
 ·rintro at_ ⟨h1, h2⟩;refine Ok.seqx ?_
  by_cases h0 : 0 ≤ at_
  ·refine Ok.count id at_.toNat (fun _ _ => True) rfl trivial ?_ ?_
   ·rintro k x hk hx _;simp only [id] at hx;subst hx;unfold P_r1_Place_L2;obtain ⟨a, ha⟩ := get_some (l := l) (k := k) (by omega);rw [if_pos (by omega), el_at ha];refine .ite (fun h => .some ?_) (fun h => .chk (i64_small (by omega)) (.some ⟨rfl, trivial⟩))
    show (0 ≤ (k : Int) ↔ w ∈ l);exact ⟨fun _ => h1.1 h0, fun _ => by omega⟩
   ·rintro x hx _;simp only [id] at hx;unfold P_r1_Place_L2;rw [if_neg (by omega)];exact .some (.some h1)
  ·refine Ok.count id 0 (fun _ _ => True) rfl trivial (fun k x hk => by omega) ?_;rintro x hx _;simp only [id] at hx;unfold P_r1_Place_L2;rw [if_neg (by omega)];exact .some (.some h1)
open Classical in
noncomputable def clErr (cl : List Str) (i : Nat) (a : Str) : Int := if isName a then (if a ∈ cl.take i then 5 else 0) else 6
open Classical in
theorem r1_Fresh_eq (w : Str) (cl : List Str) (i : Nat) (hl : cl.length ≤ 1000) : P_r1_Fresh w (cl.take i) = some (clErr cl i w) := by
 refine Ok.get ?_;unfold P_r1_Fresh;refine Ok.andx (P := fun e => e = if w ∈ cl.take i then 5 else 0) ((r1_Place_ok _ w (by rw [List.length_take]; omega)).andx fun r hr => ?_) ?_
 ·refine .ite (fun h => .some ?_) (fun h => .some ?_)
  ·rw [if_pos (hr.1 h)]
  ·rw [if_neg fun h' => h (hr.2 h')]
 ·rintro e he;rw [r1_Name_eq];unfold clErr;subst he
  by_cases h : isName w
  ·simp only [h, decide_true, andx, if_true]; exact .some rfl
  ·simp only [h, decide_false, andx, if_false, Bool.false_eq_true]; exact .some rfl
end Go.Am
end
section
namespace Go.Am
set_option linter.unusedVariables false
set_option linter.unusedSimpArgs false
def shOk (a : qH) : Prop := (btw 0 1000 a.away ∧ btw 0 1000 a.climb) ∧ (btw 1 2000 a.wide ∧ btw 1 2000 a.high)
open Classical in
noncomputable def shErr (a : qH) : Int := if shOk a then 0 else 7
open Classical in
noncomputable def mkErr (ncl : Nat) (c n : Int) (s : Str) : Int :=
 if btw 0 ((ncl : Int) - 1) c then (if btw 1 9999 n then (if s.length ≤ 2 then (if isLow s then 0 else 6) else 6) else 7) else 4
open Classical in
theorem r9_Mark_eq {cl : List Str} {sh : List qH} {bs : List qB} {c n : Int} {s : Str} (hl : cl.length ≤ 1000) : P_r9_Mark cl sh bs c n s = some (mkErr cl.length c n s) := by
 unfold P_r9_Mark;rw [chk_pos (i64_small (by omega)), r9_in_eq, r9_in_eq, andx_some'];unfold mkErr
 by_cases h1 : btw 0 ((cl.length : Int) - 1) c
 ·rw [if_pos h1, decide_eq_true (show _ ∧ _ from h1), if_pos rfl, andx_some']
  by_cases h2 : btw 1 9999 n
  ·rw [if_pos h2, decide_eq_true (show _ ∧ _ from h2), if_pos rfl]
   by_cases h3 : s.length ≤ 2
   ·rw [if_neg (by omega), r9_letters_eq s (by omega), if_pos h3]
    by_cases h4 : isLow s
    ·rw [if_pos h4, decide_eq_true h4]; rfl
    ·rw [if_neg h4, decide_eq_false h4]; rfl
   ·rw [if_pos (by omega), if_neg h3]; rfl
  ·rw [if_neg h2, decide_eq_false (show ¬ (_ ∧ _) from h2), if_neg (by decide)]
 ·rw [if_neg h1, decide_eq_false (show ¬ (_ ∧ _) from h1), if_neg (by decide)]
open Classical in
theorem s9_mark_eq {cl : List Str} {sh : List qH} {bs : List qB} {c n : Int} {s : Str} (hl : cl.length ≤ 1000) : P_s9_mark cl sh bs c n s = some (mkErr cl.length c n s) := by
 unfold P_s9_mark;rw [chk_pos (i64_small (by omega)), s9_out1, s9_out1, andx_some'];unfold mkErr
 by_cases h1 : btw 0 ((cl.length : Int) - 1) c
 ·rw [if_pos h1, decide_eq_false (not_not_intro h1), if_neg (by decide), andx_some']
  by_cases h2 : btw 1 9999 n
  ·rw [if_pos h2, decide_eq_false (not_not_intro h2), if_neg (by decide)]
   by_cases h3 : s.length ≤ 2
   ·rw [if_neg (by omega), if_pos h3];rw [iter_scan (fun k : Nat => k) (fun i => if lowerN (byteAt s i) then none else some 6) s.length (fun _ => rfl), seqx_scan, find_if]
    ·by_cases h : ∀ j, j < s.length → lowerN (byteAt s j)
     ·rw [if_pos h, if_pos (show isLow s from h)]
     ·rw [if_neg h, if_neg (show ¬ isLow s from h)]
    ·intro k hk hj;unfold P_s9_mark_L1;rw [if_pos hk]
     show _ = some (scanS (k + 1) _)
     have hb := byteAt_lt s (k : Int);unfold lowerN
     rcases rune_low hk with ⟨h1, h2⟩ | ⟨h1, h2⟩
     ·rw [h1, h2];generalize byteAt s (k : Int) = x
      by_cases a1 : x < 97
      ·rw [if_pos a1, if_neg (show ¬ (97 ≤ x ∧ x ≤ 122) by omega)]; rfl
      ·rw [if_neg a1]
       by_cases a2 : x > 122
       ·rw [if_neg (show ¬ (97 ≤ x ∧ x ≤ 122) by omega), decide_eq_true a2]; rfl
       ·rw [if_pos (show (97 ≤ x ∧ x ≤ 122) by omega), decide_eq_false a2]; rfl
     ·generalize byteAt s (k : Int) = x at *;generalize runeAt s k = y at *;rw [if_neg (show ¬ (97 ≤ x ∧ x ≤ 122) by omega), if_neg (show ¬ y < 97 by omega), decide_eq_true (show y > 122 by omega)]; rfl
    ·intro hj;unfold P_s9_mark_L1;rw [if_neg (by omega)]
   ·rw [if_pos (by omega), if_neg h3]
  ·rw [if_neg h2, decide_eq_true h2, if_pos rfl]
 ·rw [if_neg h1, decide_eq_true h1, if_pos rfl]
def sameMark (a : qB) (c n : Int) (s : Str) : Prop := a.qK = c ∧ a.qL = n ∧ a.qJ = s
def twice (l : List qB) (c n : Int) (s : Str) : Prop := ∃ j, j < l.length ∧ ∃ a, l[j]? = some a ∧ sameMark a c n s
def bkRange (w h y : Int) : Prop := btw 1 2000 w ∧ btw 1 2000 h ∧ btw 1 100 y
open Classical in
noncomputable def bkErr1 (ncl : Nat) (c n : Int) (s : Str) (w h y : Int) (before : List qB) : Int :=
 if mkErr ncl c n s = 0 then (if bkRange w h y then (if twice before c n s then 5 else 0) else 7) else mkErr ncl c n s
open Classical in
theorem r9_Book_eq {cl : List Str} {sh : List qH} {bs : List qB} {c n : Int} {s : Str} {w h y p : Int} {before : List qB} (hl : cl.length ≤ 1000) (hb : before.length ≤ 1000) :
  P_r9_Book cl sh bs c n s w h y p before = some (bkErr1 cl.length c n s w h y before) := by
 refine Ok.get ?_;unfold P_r9_Book;rw [r9_Mark_eq hl, andx_some'];simp only [r9_in_eq];generalize he : mkErr cl.length c n s = e0;refine Ok.andx (P := fun e => e = if e0 = 0 then (if bkRange w h y then 0 else 7) else e0) ?_ ?_
 ·by_cases h0 : e0 = 0
  ·simp only [h0, if_true, andx]
   by_cases h1 : btw 1 2000 w
   ·have h1' : 1 ≤ w ∧ w ≤ 2000 := h1;simp only [h1', and_self, decide_true, if_true]
    by_cases h2 : btw 1 2000 h
    ·have h2' : 1 ≤ h ∧ h ≤ 2000 := h2;simp only [h2', and_self, decide_true, if_true]
     by_cases h3 : btw 1 100 y
     ·have h3' : 1 ≤ y ∧ y ≤ 100 := h3;simp only [h3', and_self, decide_true, Bool.not_true, Bool.false_eq_true, if_false];refine .some ?_;rw [if_pos (show bkRange w h y from ⟨h1, h2, h3⟩)]
     ·have h3' : ¬ (1 ≤ y ∧ y ≤ 100) := h3;simp only [h3', decide_false, Bool.not_false, if_true];refine .some ?_;rw [if_neg (show ¬ bkRange w h y from fun k => h3 k.2.2)]
    ·have h2' : ¬ (1 ≤ h ∧ h ≤ 2000) := h2;simp only [h2', decide_false, Bool.false_eq_true, if_false, if_true];refine .some ?_;rw [if_neg (show ¬ bkRange w h y from fun k => h2 k.2.1)]
   ·have h1' : ¬ (1 ≤ w ∧ w ≤ 2000) := h1;simp only [h1', decide_false, Bool.false_eq_true, if_false, if_true];refine .some ?_;rw [if_neg (show ¬ bkRange w h y from fun k => h1 k.1)]
  ·simp only [h0, if_false, andx, Bool.false_eq_true];exact .some rfl
 ·rintro e hee;refine Ok.andx (P := fun r => r = bkErr1 cl.length c n s w h y before) ?_ (fun r hr => .some hr)
  have fin : bkErr1 cl.length c n s w h y before = if e = 0 then (if twice before c n s then 5 else 0) else e := by
   unfold bkErr1;rw [he]
   by_cases h0 : e0 = 0
   ·rw [if_pos h0]
    by_cases h1 : bkRange w h y
    ·rw [if_pos h1, hee, if_pos h0, if_pos h1, if_pos rfl]
    ·rw [if_neg h1, hee, if_pos h0, if_neg h1]; rfl
   ·rw [if_neg h0, hee, if_neg h0, if_neg h0]
  rw [fin];refine Ok.iter (fun (x : Int × Int) => 0 ≤ x.2 ∧ x.2 ≤ before.length ∧ ((x.1 = e ∧ (e ≠ 0 ∨ ∀ j : Nat, j < x.2 → ∀ a, before[j]? = some a → ¬ sameMark a c n s)) ∨ (e = 0 ∧ x.1 = 5 ∧ twice before c n s))) (fun x => (before.length - x.2).toNat) ⟨by simp, by simp, .inl ⟨rfl, .inr fun j hj => by simp at hj; omega⟩⟩ ?_;rintro ⟨e2, i⟩ ⟨h1, h2, h3⟩;obtain ⟨k, hk⟩ := Int.eq_ofNat_of_zero_le h1;simp only at hk h1 h2 h3;subst hk;unfold P_r9_Book_L1
  show Ok (seqx _ _) _;refine Ok.seqx ?_
  by_cases hlt : (k : Int) < before.length
  ·rw [if_pos hlt]
   by_cases he2 : e2 = 0
   ·rw [decide_eq_true he2];refine .some ?_
    show Ok (andx _ _) _;obtain ⟨a, ha⟩ := get_some (l := before) (k := k) (by omega);refine Ok.andx (P := fun e3 => (sameMark a c n s ∧ e3 = 5) ∨ (¬ sameMark a c n s ∧ e3 = e2)) ?_ ?_
    ·rw [el_at ha];exact .ite (fun h => .some (.inl ⟨h, rfl⟩)) (fun h => .some (.inr ⟨h, rfl⟩))
    ·rintro e3 h4;refine .chk (i64_small (by omega)) (.some ⟨⟨by show (0:Int) ≤ (k : Int) + 1; omega, by show (k : Int) + 1 ≤ _; omega, ?_⟩, by show ((before.length : Int) - ((k : Int) + 1)).toNat < ((before.length : Int) - (k : Int)).toNat; omega⟩)
     rcases h3 with ⟨h5, h6⟩ | ⟨h5, h6, h7⟩
     ·have e00 : e = 0 := h5.symm.trans he2
      rcases h4 with ⟨h8, h9⟩ | ⟨h8, h9⟩
      ·exact .inr ⟨e00, h9, k, by omega, a, ha, h8⟩
      ·refine .inl ⟨h9.trans h5, .inr fun j hj a' ha' => ?_⟩
       by_cases hjk : j = k
       ·subst hjk; rw [ha] at ha'; cases ha'; exact h8
       ·rcases h6 with h6 | h6
        ·exact absurd e00 h6
        ·exact h6 j (by simp only at hj; omega) a' ha'
     ·exact absurd (h6.symm.trans he2) (by decide)
   ·rw [decide_eq_false he2];refine .some ?_
    show e2 = _
    rcases h3 with ⟨h5, h6⟩ | ⟨h5, h6, h7⟩
    ·rw [if_neg (fun h => he2 (h5.trans h)), h5]
    ·rw [if_pos h5, if_pos h7, h6]
  ·rw [if_neg hlt];refine .some ?_
   show e2 = _
   rcases h3 with ⟨h5, h6⟩ | ⟨h5, h6, h7⟩
   ·by_cases he0 : e = 0
    ·rw [if_pos he0, if_neg, h5, he0];rintro ⟨j, hj, a, ha, hs⟩
     rcases h6 with h6 | h6
     ·exact h6 he0
     ·exact h6 j (by omega) a ha hs
    ·rw [if_neg he0, h5]
   ·rw [if_pos h5, if_pos h7, h6]
def bookHit (l : List qB) (c n : Int) (s : Str) (i : Nat) : Prop := ∃ a, l[i]? = some a ∧ sameMark a c n s
def bookMiss (l : List qB) (c n : Int) (s : Str) (i : Nat) : Prop := ¬ bookHit l c n s i
open Classical in
theorem s9_book_eq {cl : List Str} {sh : List qH} {bs : List qB} {c n : Int} {s : Str} {w h y p : Int} {before : List qB} (hl : cl.length ≤ 1000) (hb : before.length ≤ 1000) :
  P_s9_book cl sh bs c n s w h y p before = some (bkErr1 cl.length c n s w h y before) := by
 unfold P_s9_book;rw [s9_mark_eq hl, andx_some'];unfold bkErr1
 by_cases h0 : mkErr cl.length c n s = 0
 ·rw [if_pos h0, if_neg (not_not_intro h0), s9_out2, s9_out1, andx_some', andx_some']
  by_cases h1 : btw 1 2000 w ∧ btw 1 2000 h
  ·rw [decide_eq_false (not_not_intro h1), if_neg (by decide), andx_some']
   by_cases h2 : btw 1 100 y
   ·rw [decide_eq_false (not_not_intro h2), if_neg (by decide), if_pos (show bkRange w h y from ⟨h1.1, h1.2, h2⟩)];rw [iter_scanI (fun i => if bookMiss before c n s i then none else some (i : Int)) before.length, seqx_scan]
    ·rcases find_idx (P := bookMiss before c n s) (n := before.length) with ⟨h, e⟩ | ⟨h, k, hk, e⟩
     ·rw [e, if_neg (show ¬ twice before c n s from fun ⟨j, hj, a, ha, hs⟩ => h j hj ⟨a, ha, hs⟩)];rfl
     ·rw [e, if_pos (show twice before c n s from ?_)]
      ·show seqx (if k ≥ 0 then _ else _) _ = _;rw [if_pos (by omega)]; rfl
      ·refine Classical.byContradiction fun hn => h fun j hj ⟨a, ha, hs⟩ => hn ⟨j, hj, a, ha, hs⟩
    ·intro k hk _;unfold P_s9_book_L1;obtain ⟨a, ha⟩ := get_some hk;rw [if_pos (by omega), el_at ha, chk_pos (i64_small (by omega))]
     by_cases hs : sameMark a c n s
     ·rw [if_pos (show _ ∧ _ from hs), if_neg (show ¬ bookMiss before c n s k from not_not_intro ⟨a, ha, hs⟩)]; rfl
     ·rw [if_neg (show ¬ (_ ∧ _) from hs), if_pos (show bookMiss before c n s k from fun ⟨a', ha', hs'⟩ => by rw [ha] at ha'; cases ha'; exact hs hs')]; rfl
    ·intro _;unfold P_s9_book_L1;rw [if_neg (by omega)]
   ·rw [decide_eq_true h2, if_pos rfl, if_neg (show ¬ bkRange w h y from fun k => h2 k.2.2)]; rfl
  ·rw [decide_eq_true h1, if_pos rfl, andx_some', if_pos rfl, if_neg (show ¬ bkRange w h y from fun k => h1 ⟨k.1, k.2.1⟩)]; rfl
 ·rw [if_neg h0, if_pos h0]
end Go.Am
end
section
namespace Go.Am
set_option linter.unusedVariables false
set_option linter.unusedSimpArgs false
noncomputable def errAt {α : Type} (l : List α) (g : Nat → α → Int) (i : Nat) : Int := match l[i]? with | some a => g i a | none => 0
theorem errAt_of {α : Type} {l : List α} {g : Nat → α → Int} {i : Nat} {a : α} (h : l[i]? = some a) : errAt l g i = g i a := by unfold errAt; rw [h]
noncomputable def errF (f : Nat → Int) (i : Nat) : Option (Int × Int) := if f i = 0 then none else some ((i : Int), f i)
noncomputable def errG (c : Int) (f : Nat → Int) (i : Nat) : Option (Int × Int × Int) := if f i = 0 then none else some (c, (i : Int), f i)
noncomputable def firstE (f : Nat → Int) (n : Nat) : Option (Int × Int) := (List.range n).findSome? (errF f)
theorem first_fail {f : Nat → Int} : ∀ n : Nat, (∀ j, j < n → f j = 0) ∨ ∃ k, k < n ∧ f k ≠ 0 ∧ ∀ j, j < k → f j = 0 := by
 intro n
 induction n with
 | zero => exact .inl fun j hj => by omega
 | succ n ih =>
  rcases ih with h | ⟨k, h1, h2, h3⟩
  ·by_cases hn : f n = 0
   ·exact .inl fun j hj => by
     by_cases e : j = n
     ·rw [e]; exact hn
     ·exact h j (by omega)
   ·exact .inr ⟨n, by omega, hn, h⟩
  ·exact .inr ⟨k, by omega, h2, h3⟩
theorem firstE_cases (f : Nat → Int) (n : Nat) : (firstE f n = none ∧ (∀ c, (List.range n).findSome? (errG c f) = none) ∧ ∀ j, j < n → f j = 0) ∨
  ∃ k, k < n ∧ f k ≠ 0 ∧ firstE f n = some ((k : Int), f k) ∧ (∀ c, (List.range n).findSome? (errG c f) = some (c, (k : Int), f k)) := by
 rcases first_fail (f := f) n with h | ⟨k, h1, h2, h3⟩
 ·exact .inl ⟨find_none fun j hj => if_pos (h j hj), fun c => find_none fun j hj => if_pos (h j hj), h⟩
 ·exact .inr ⟨k, h1, h2, find_range h1 (fun j hj => if_pos (h3 j hj)) (if_neg h2), fun c => find_range h1 (fun j hj => if_pos (h3 j hj)) (if_neg h2)⟩
theorem loopR {c : Int} {f : Nat → Int} {n : Nat} {k : Unit → Option (Int × Int × Int)} : seqx (some (scanX (errG c f) n)) k = match firstE f n with | some p => some (c, p.1, p.2) | none => k () := by
 rw [seqx_scan]
 rcases firstE_cases f n with ⟨h1, h2, h3⟩ | ⟨i, h1, h2, h3, h4⟩
 ·rw [h1, h2 c]
 ·rw [h3, h4 c]
theorem loopS {c : Int} {f : Nat → Int} {n : Nat} {k : Option (Int × Int × Int)} {K : Int × Int → Option (Int × Int × Int)} (hK : ∀ p, K p = if ¬ p.2 = 0 then some (c, p.1, p.2) else k) :
  andx (seqx (some (scanX (errF f) n)) fun _ => some (0, 0)) K = match firstE f n with | some p => some (c, p.1, p.2) | none => k := by
 rw [seqx_scan]
 rcases firstE_cases f n with ⟨h1, h2, h3⟩ | ⟨i, h1, h2, h3, h4⟩
 ·rw [h1, show (List.range n).findSome? (errF f) = none from h1]
  show K (0, 0) = k;rw [hK, if_neg (not_not_intro rfl)]
 ·rw [h3, show (List.range n).findSome? (errF f) = _ from h3]
  show K _ = _;rw [hK, if_pos h2]
theorem body_err {A : Type} {e : Int} {v : A} {k : Nat} (hk : k ≤ 1000) : (if ¬ e = 0 then some (Stp.dn (Ex.rt v)) else chk (I64 ((k : Int) + 1)) (some (Stp.ag ((k : Int) + 1)))) = some (scanS ((k : Int) + 1) (if e = 0 then (none : Option A) else some v)) := by
 rw [chk_pos (i64_small (by omega))]
 by_cases h : e = 0
 ·rw [if_neg (not_not_intro h), if_pos h]; rfl
 ·rw [if_pos h, if_neg h]; rfl
theorem take_sub {α : Type} (l : List α) (k : Nat) : List.take ((k : Int) - (0 : Int)).toNat (List.drop ((0 : Int) : Int).toNat l) = l.take k := by
 simp
theorem r9_L1_eq {cl : List Str} (hl : cl.length ≤ 1000) : iter (P_r9_Check_L1 cl) 0 = some (scanX (errG 1 (errAt cl (clErr cl))) cl.length) := by
 refine iter_scanI _ _ (fun k hk _ => ?_) (fun _ => ?_)
 ·unfold P_r9_Check_L1;obtain ⟨a, ha⟩ := get_some hk;rw [if_pos (by omega), el_at ha, chk_pos (by omega), take_sub, r1_Fresh_eq _ _ _ hl, andx_some', body_err (by omega)];unfold errG;rw [errAt_of ha]
 ·unfold P_r9_Check_L1;rw [if_neg (by omega)]
def clHit (l : List Str) (w : Str) (i : Nat) : Prop := ∃ a, l[i]? = some a ∧ w = a
def clMiss (l : List Str) (w : Str) (i : Nat) : Prop := ¬ clHit l w i
open Classical in
theorem s9_L2_eq {cl : List Str} {k : Nat} {w : Str} (hl : cl.length ≤ 1000) : iter (P_s9_Check_L2 cl (k : Int) w) 0 = some (scanX (fun i => if clMiss (cl.take k) w i then none else some (i : Int)) (cl.take k).length) := by
 have hle : (cl.take k).length ≤ 1000 := by rw [List.length_take]; omega
 refine iter_scanI _ _ (fun j hj _ => ?_) (fun _ => ?_)
 ·unfold P_s9_Check_L2;rw [take_sub];obtain ⟨a, ha⟩ := get_some hj;rw [if_pos (by omega), el_at ha, chk_pos (i64_small (by omega))]
  by_cases h : w = a
  ·rw [if_pos h, if_neg (show ¬ clMiss _ _ _ from not_not_intro ⟨a, ha, h⟩)]; rfl
  ·rw [if_neg h, if_pos (show clMiss _ _ _ from fun ⟨a', ha', hs'⟩ => by rw [ha] at ha'; cases ha'; exact h hs')]; rfl
 ·unfold P_s9_Check_L2;rw [take_sub, if_neg (by omega)]
open Classical in
theorem s9_L1_eq {cl : List Str} (hl : cl.length ≤ 1000) : iter (P_s9_Check_L1 cl) 0 = some (scanX (errF (errAt cl (clErr cl))) cl.length) := by
 refine iter_scanI _ _ (fun k hk _ => ?_) (fun _ => ?_)
 ·unfold P_s9_Check_L1;obtain ⟨a, ha⟩ := get_some hk;rw [if_pos (by omega), el_at ha]
  have e : (andx (P_q_Name a) fun y8 => if y8 = true then chk (0 ≤ (0 : Int) ∧ (0 : Int) ≤ (k : Int) ∧ (k : Int) ≤ (cl.length : Int)) (andx (seqx (iter (P_s9_Check_L2 cl (k : Int) a) 0) fun _ => some (-1)) fun y7 => if y7 ≥ 0 then some 5 else some 0) else some 6) = some (clErr cl k a) := by
   rw [q_Name_eq, andx_some'];unfold clErr
   by_cases hn : isName a
   ·rw [decide_eq_true hn, if_pos rfl, if_pos hn, chk_pos (by omega), s9_L2_eq hl, seqx_scan]
    rcases find_idx (P := clMiss (cl.take k) a) (n := (cl.take k).length) with ⟨h, e⟩ | ⟨h, i, hi, e⟩
    ·rw [e, if_neg]
     ·rfl
     ·intro hm;obtain ⟨j, hj⟩ := List.getElem?_of_mem hm;exact h j (List.getElem?_eq_some_iff.1 hj).1 ⟨a, hj, rfl⟩
    ·rw [e, if_pos]
     ·show (if i ≥ 0 then _ else _) = _;rw [if_pos (by omega)]
     ·refine Classical.byContradiction fun hn => h fun j hj ⟨a', ha', hs⟩ => hn ?_
      rw [hs];exact List.mem_of_getElem? ha'
   ·rw [decide_eq_false hn, if_neg (by decide), if_neg hn]
  rw [e, andx_some', body_err (by omega)];unfold errF;rw [errAt_of ha]
 ·unfold P_s9_Check_L1;rw [if_neg (by omega)]
open Classical in
theorem r9_L2_eq {sh : List qH} (hl : sh.length ≤ 1000) : iter (P_r9_Check_L2 sh) 0 = some (scanX (errG 2 (errAt sh fun _ => shErr)) sh.length) := by
 refine iter_scanI _ _ (fun k hk _ => ?_) (fun _ => ?_)
 ·unfold P_r9_Check_L2;obtain ⟨a, ha⟩ := get_some hk;rw [if_pos (by omega), el_at ha, chk_pos (i64_small (by omega))];simp only [r9_in_eq];unfold errG;rw [errAt_of ha];unfold shErr
  by_cases h1 : 0 ≤ a.away ∧ a.away ≤ 1000
  ·by_cases h2 : 0 ≤ a.climb ∧ a.climb ≤ 1000
   ·by_cases h3 : 1 ≤ a.wide ∧ a.wide ≤ 2000
    ·by_cases h4 : 1 ≤ a.high ∧ a.high ≤ 2000
     ·rw [if_pos (show shOk a from ⟨⟨h1, h2⟩, h3, h4⟩)];simp [andx, seqx, scanS, h1, h2, h3, h4]
     ·rw [if_neg (show ¬ shOk a from fun h => h4 h.2.2)];simp only [andx, seqx, scanS, decide_eq_true h1, decide_eq_true h2, decide_eq_true h3, decide_eq_false h4]; rfl
    ·rw [if_neg (show ¬ shOk a from fun h => h3 h.2.1)];simp only [andx, seqx, scanS, decide_eq_true h1, decide_eq_true h2, decide_eq_false h3]; rfl
   ·rw [if_neg (show ¬ shOk a from fun h => h2 h.1.2)];simp only [andx, seqx, scanS, decide_eq_true h1, decide_eq_false h2]; rfl
  ·rw [if_neg (show ¬ shOk a from fun h => h1 h.1.1)];simp only [andx, seqx, scanS, decide_eq_false h1]; rfl
 ·unfold P_r9_Check_L2;rw [if_neg (by omega)]
open Classical in
theorem s9_L3_eq {sh : List qH} (hl : sh.length ≤ 1000) : iter (P_s9_Check_L3 sh) 0 = some (scanX (errF (errAt sh fun _ => shErr)) sh.length) := by
 refine iter_scanI _ _ (fun k hk _ => ?_) (fun _ => ?_)
 ·unfold P_s9_Check_L3;obtain ⟨a, ha⟩ := get_some hk;rw [if_pos (by omega), el_at ha];simp only [s9_out2, andx_some'];rw [show (seqx (andx (if decide (¬ (btw 0 1000 a.away ∧ btw 0 1000 a.climb)) = true then some true else some (decide (¬ (btw 1 2000 a.wide ∧ btw 1 2000 a.high)))) fun x18 => if x18 = true then some (Ex.rt 7) else some (Ex.nx ())) fun _ => some 0) = some (shErr a) from ?_, andx_some', body_err (by omega)]
  ·unfold errF;rw [errAt_of ha]
  ·unfold shErr
   by_cases h1 : btw 0 1000 a.away ∧ btw 0 1000 a.climb
   ·rw [decide_eq_false (not_not_intro h1), if_neg (by decide)]
    by_cases h2 : btw 1 2000 a.wide ∧ btw 1 2000 a.high
    ·rw [decide_eq_false (not_not_intro h2), if_pos (show shOk a from ⟨h1, h2⟩)]; rfl
    ·rw [decide_eq_true h2, if_neg (show ¬ shOk a from fun h => h2 h.2)]; rfl
   ·rw [decide_eq_true h1, if_pos rfl, if_neg (show ¬ shOk a from fun h => h1 h.1)]; rfl
 ·unfold P_s9_Check_L3;rw [if_neg (by omega)]
def below (bs : List qB) (i : Nat) (b : qB) : Prop := 0 < i ∧ ∃ c, bs[i - 1]? = some c ∧ b.shelf < c.shelf
noncomputable def bkE0 (ncl : Nat) (bs : List qB) (i : Nat) (b : qB) : Int := bkErr1 ncl b.qK b.qL b.qJ b.wide b.high b.heavy (bs.take i)
open Classical in
noncomputable def bkErr (ncl nsh : Nat) (bs : List qB) (i : Nat) (b : qB) : Int :=
 if bkE0 ncl bs i b = 0 then (if btw 0 ((nsh : Int) - 1) b.shelf then (if below bs i b then 2 else 0) else 4) else bkE0 ncl bs i b
open Classical in
theorem below_eq {bs : List qB} {k : Nat} {b : qB} (hl : bs.length ≤ 1000) (hk : k < bs.length) :
  (if (k : Int) > 0 then chk (I64 ((k : Int) - 1)) (el bs ((k : Int) - 1) fun a => some (decide (b.shelf < a.shelf))) else some false) = some (decide (below bs k b)) := by
 by_cases h : (k : Int) > 0
 ·rw [if_pos h, chk_pos (i64_small (by omega))];obtain ⟨a, ha⟩ := get_some (l := bs) (k := k - 1) (by omega)
  have e : (k : Int) - 1 = ((k - 1 : Nat) : Int) := by omega
  rw [e, el_at ha]
  congr 1
  refine decide_eq_decide.2 ⟨fun h' => ⟨by omega, a, ha, h'⟩, fun ⟨_, c, hc, h'⟩ => by rw [ha] at hc; cases hc; exact h'⟩
 ·rw [if_neg h, decide_eq_false];exact fun h' => h (by have := h'.1; omega)
open Classical in
theorem r9_L3_eq {cl : List Str} {sh : List qH} {bs : List qB} (hc : cl.length ≤ 1000) (hs : sh.length ≤ 1000) (hl : bs.length ≤ 1000) :
  iter (P_r9_Check_L3 cl sh bs) 0 = some (scanX (errG 3 (errAt bs (bkErr cl.length sh.length bs))) bs.length) := by
 refine iter_scanI _ _ (fun k hk _ => ?_) (fun _ => ?_)
 ·unfold P_r9_Check_L3;obtain ⟨b, hb⟩ := get_some hk;rw [if_pos (by omega), el_at hb, chk_pos (by omega), take_sub, r9_Book_eq hc (by rw [List.length_take]; omega), andx_some', chk_pos (show I64 ((sh.length : Int) - 1) from i64_small (by omega)), chk_pos (show I64 ((k : Int) + 1) from i64_small (by omega))];rw [below_eq hl hk];unfold errG;rw [errAt_of hb];unfold bkErr
  change _ = some (scanS _ _)
  rw [show bkErr1 cl.length b.qK b.qL b.qJ b.wide b.high b.heavy (bs.take k) = bkE0 cl.length bs k b from rfl];simp only [r9_in_eq];generalize bkE0 cl.length bs k b = e0
  by_cases h0 : e0 = 0
  ·subst h0
   by_cases h1 : btw 0 ((sh.length : Int) - 1) b.shelf
   ·have h1' : 0 ≤ b.shelf ∧ b.shelf ≤ (sh.length : Int) - 1 := h1
    by_cases h2 : below bs k b
    ·simp only [h1, h1', h2, if_true, andx, seqx, decide_true, Bool.not_true, Bool.false_eq_true, if_false, scanS, and_self]; rfl
    ·simp only [h1, h1', h2, if_true, andx, seqx, decide_true, decide_false, Bool.not_true, Bool.false_eq_true, if_false, scanS, and_self]; rfl
   ·have h1' : ¬ (0 ≤ b.shelf ∧ b.shelf ≤ (sh.length : Int) - 1) := h1;simp only [h1, h1', if_true, andx, seqx, decide_false, Bool.not_false, Bool.false_eq_true, if_false, scanS]; rfl
  ·simp only [h0, if_false, andx, seqx, Bool.false_eq_true, not_false_iff, if_true, scanS]
 ·unfold P_r9_Check_L3;rw [if_neg (by omega)]
open Classical in
theorem s9_L4_eq {cl : List Str} {sh : List qH} {bs : List qB} (hc : cl.length ≤ 1000) (hs : sh.length ≤ 1000) (hl : bs.length ≤ 1000) :
  iter (P_s9_Check_L4 cl sh bs) 0 = some (scanX (errF (errAt bs (bkErr cl.length sh.length bs))) bs.length) := by
 refine iter_scanI _ _ (fun k hk _ => ?_) (fun _ => ?_)
 ·unfold P_s9_Check_L4;obtain ⟨b, hb⟩ := get_some hk;rw [if_pos (by omega), el_at hb, chk_pos (by omega), take_sub, s9_book_eq hc (by rw [List.length_take]; omega), andx_some', chk_pos (i64_small (by omega)), s9_out1, andx_some'];rw [below_eq hl hk]
  have e : (seqx (if ¬ bkE0 cl.length bs k b = 0 then some (Ex.rt (bkE0 cl.length bs k b)) else if decide (¬ btw 0 ((sh.length : Int) - 1) b.shelf) = true then some (Ex.rt 4) else andx (some (decide (below bs k b))) fun x28 => if x28 = true then some (Ex.rt 2) else some (Ex.nx ())) fun (_ : Unit) => some 0) = some (bkErr cl.length sh.length bs k b) := by
   unfold bkErr;generalize bkE0 cl.length bs k b = e0
   by_cases h0 : e0 = 0
   ·rw [if_neg (not_not_intro h0), if_pos h0]
    by_cases h1 : btw 0 ((sh.length : Int) - 1) b.shelf
    ·rw [decide_eq_false (not_not_intro h1), if_neg (by decide), if_pos h1]
     by_cases h2 : below bs k b
     ·rw [decide_eq_true h2, if_pos h2]; rfl
     ·rw [decide_eq_false h2, if_neg h2]; rfl
    ·rw [decide_eq_true h1, if_pos rfl, if_neg h1]; rfl
   ·rw [if_pos h0, if_neg h0]; rfl
  refine (congrArg (fun z => andx z _) e).trans ?_;rw [andx_some', body_err (by omega)];unfold errF;rw [errAt_of hb]
 ·unfold P_s9_Check_L4;rw [if_neg (by omega)]
end Go.Am
end
section
namespace Go.Am
set_option linter.unusedVariables false
set_option linter.unusedSimpArgs false
def wideOn (i : Int) : List qB → Int
 | [] => 0
 | b :: r => (if b.shelf = i then b.wide else 0) + wideOn i r
theorem wideOn_append (i : Int) (l r : List qB) : wideOn i (l ++ r) = wideOn i l + wideOn i r := by
 induction l with
 | nil => simp [wideOn]
 | cons b l ih => simp [wideOn, ih]; omega
def Wides (l : List qB) : Prop := ∀ b ∈ l, 1 ≤ b.wide ∧ b.wide ≤ 2000
theorem wideOn_nonneg {i : Int} {l : List qB} (h : Wides l) : 0 ≤ wideOn i l ∧ wideOn i l ≤ 2000 * l.length := by
 induction l with
 | nil => simp [wideOn]
 | cons b l ih =>
  have h1 := ih fun c hc => h c (by simp [hc])
  have h2 := h b (by simp);simp only [wideOn, List.length_cons];split <;> omega
theorem take_step {α : Type} {l : List α} {k : Nat} {a : α} (h : l[k]? = some a) : l.take (k + 1) = l.take k ++ [a] := by rw [List.take_add_one, h]; rfl
theorem wideOn_step {i : Int} {l : List qB} {k : Nat} {b : qB} (h : l[k]? = some b) : wideOn i (l.take (k + 1)) = wideOn i (l.take k) + (if b.shelf = i then b.wide else 0) := by
 rw [take_step h, wideOn_append];simp [wideOn]
theorem wideOn_le {i : Int} {l : List qB} (h : Wides l) (k : Nat) : wideOn i (l.take k) ≤ wideOn i l := by
 have e : wideOn i l = wideOn i (l.take k) + wideOn i (l.drop k) := by rw [← wideOn_append, List.take_append_drop]
 have := (wideOn_nonneg (i := i) (l := l.drop k) fun b hb => h b (List.mem_of_mem_drop hb)).1;omega
theorem wideOn_take {i : Int} {l : List qB} (h : Wides l) (k : Nat) : 0 ≤ wideOn i (l.take k) ∧ wideOn i (l.take k) ≤ 2000 * l.length := by
 have h1 := wideOn_nonneg (i := i) (l := l.take k) fun b hb => h b (List.mem_of_mem_take hb)
 have h2 := wideOn_le (i := i) h k
 have h3 := (wideOn_nonneg (i := i) h).2;omega
def lowOn (i : Int) (high : Int) (l : List qB) : Prop := ∀ b ∈ l, b.shelf = i → b.high ≤ high
def fits (bs : List qB) (i : Nat) (a : qH) : Prop := lowOn i a.high bs ∧ wideOn i bs ≤ a.wide
open Classical in
noncomputable def fitErr (bs : List qB) (i : Nat) (a : qH) : Int := if fits bs i a then 0 else 9
theorem lowOn_step {i high : Int} {l : List qB} {k : Nat} {b : qB} (h : l[k]? = some b) (h1 : lowOn i high (l.take k)) (h2 : b.shelf = i → b.high ≤ high) : lowOn i high (l.take (k + 1)) := by
 rw [take_step h];intro c hc hs
 rcases List.mem_append.1 hc with hc | hc
 ·exact h1 c hc hs
 ·rw [List.mem_singleton] at hc; subst hc; exact h2 hs
theorem r9_Own_eq {bs : List qB} (hl : bs.length ≤ 1000) : P_r9_Own bs = some (bs.map (·.shelf)) := by
 refine Ok.get ?_;unfold P_r9_Own;refine Ok.andx (P := fun r => r = bs.map (·.shelf)) ?_ (fun r hr => .some hr);refine Ok.count (fun (x : Int × List Int) => x.1) bs.length (fun k x => x.2 = (bs.take k).map (·.shelf)) rfl rfl ?_ ?_
 ·rintro k ⟨i, out⟩ hk hx hI;simp only at hx hI;subst hx;unfold P_r9_Own_L1;obtain ⟨b, hb⟩ := get_some hk
  show Ok (if _ then _ else _) _;rw [if_pos (by omega), el_at hb];refine .chk ?_ (.chk (i64_small (by omega)) (.some ⟨rfl, ?_⟩))
  ·rw [hI, List.length_map, List.length_take]; simp; omega
  ·show out ++ [b.shelf] = _;rw [take_step hb, List.map_append, hI]; rfl
 ·rintro ⟨i, out⟩ hx hI;simp only at hx hI;subst hx;unfold P_r9_Own_L1
  show Ok (if _ then _ else _) _;rw [if_neg (by omega)];refine .some ?_
  show out = _;rw [hI, List.take_length]
open Classical in
theorem r9_fit_eq {cl : List Str} {sh : List qH} {bs : List qB} {i : Nat} {a : qH} (ha : sh[i]? = some a) (hw : 0 ≤ a.wide) (hb : Wides bs) (hl : bs.length ≤ 1000) :
  P_r9_fit cl sh bs bs (bs.map (·.shelf)) (i : Int) = some (decide (fits bs i a)) := by
 refine Ok.get ?_;unfold P_r9_fit;rw [el_at ha];refine Ok.andx (P := fun y => (0 ≤ y ∧ lowOn i a.high bs ∧ y = wideOn i bs) ∨ (y < 0 ∧ ¬ lowOn i a.high bs)) ?_ ?_
 ·unfold P_r9_Filled;refine Ok.seqx ?_;refine Ok.count (fun (x : Int × Int) => x.2) bs.length (fun k x => x.1 = wideOn i (bs.take k) ∧ lowOn i a.high (bs.take k)) rfl ⟨rfl, fun b hb => by simp at hb⟩ ?_ ?_
  ·rintro k ⟨n, j⟩ hk hx ⟨h1, h2⟩;simp only at hx h1 h2;subst hx;obtain ⟨b, hbk⟩ := get_some hk
   have hm : (bs.map (·.shelf))[k]? = some b.shelf := by rw [List.getElem?_map, hbk]; rfl
   unfold P_r9_Filled_L1
   show Ok (if _ then _ else _) _
   have hk1 := wideOn_take (i := i) hb k
   have hk2 := wideOn_take (i := i) hb (k + 1)
   have hst := wideOn_step (i := i) hbk;rw [if_pos (by omega)];refine Ok.seqx ?_;rw [el_at hm]
   by_cases hs : b.shelf = i
   ·rw [if_pos hs] at hst;rw [if_neg (not_not_intro hs), el_at hbk, el_at ha, el_at hbk]
    by_cases hh : b.high > a.high
    ·rw [if_pos hh];refine .some ?_
     show _ ∨ _;refine .inr ⟨by omega, fun h => ?_⟩
     have := h b (List.mem_of_getElem? hbk) hs;omega
    ·rw [if_neg hh];refine .chk (i64_small (by omega)) (.some (.chk (i64_small (by omega)) (.some ⟨rfl, ?_, lowOn_step hbk h2 fun _ => by omega⟩)))
     show n + b.wide = _;omega
   ·rw [if_neg hs] at hst;rw [if_pos hs];refine .some (.chk (i64_small (by omega)) (.some ⟨rfl, ?_, lowOn_step hbk h2 fun h => absurd h hs⟩))
    show n = _;omega
  ·rintro ⟨n, j⟩ hx ⟨h1, h2⟩;simp only at hx h1 h2;subst hx;unfold P_r9_Filled_L1
   show Ok (if _ then _ else _) _;rw [if_neg (by omega)];rw [List.take_length] at h1 h2;refine .some (.some (.inl ⟨?_, h2, h1⟩));rw [h1];exact (wideOn_nonneg hb).1
 ·rintro y hy;rw [r9_in_eq, andx_some'];refine .some ?_;refine decide_eq_decide.2 ?_
  rcases hy with ⟨h0, h1, h2⟩ | ⟨h1, h2⟩
  ·subst h2;exact ⟨fun h => ⟨h1, h.2⟩, fun h => ⟨h0, h.2⟩⟩
  ·exact ⟨fun h => by omega, fun h => absurd h.1 h2⟩
open Classical in
theorem s9_L6_eq {sh : List qH} {bs : List qB} {i : Nat} {a : qH} (hw : 0 ≤ a.wide ∧ a.wide ≤ 2000) (hb : Wides bs) (hl : bs.length ≤ 1000) :
  (seqx (iter (P_s9_Check_L6 bs (i : Int) a) (0, a.wide)) fun s_Wide => some 0) = some (fitErr bs i a) := by
 refine Ok.get ?_;refine Ok.seqx ?_;refine Ok.count (fun (x : Int × Int) => x.1) bs.length (fun k x => x.2 = a.wide - wideOn i (bs.take k) ∧ 0 ≤ x.2 ∧ lowOn i a.high (bs.take k)) rfl ⟨?_, hw.1, fun b hb => by simp at hb⟩ ?_ ?_
 ·show a.wide = a.wide - 0; omega
 ·rintro k ⟨j, n⟩ hk hx ⟨h1, h0, h2⟩;simp only at hx h1 h2 h0;subst hx;obtain ⟨b, hbk⟩ := get_some hk;unfold P_s9_Check_L6
  show Ok (if _ then _ else _) _
  have hk1 := wideOn_take (i := i) hb k
  have hk2 := wideOn_take (i := i) hb (k + 1)
  have hle := wideOn_le (i := i) hb (k + 1)
  have hst := wideOn_step (i := i) hbk
  have hbw := hb b (List.mem_of_getElem? hbk);rw [if_pos (by omega)];refine Ok.seqx ?_;rw [el_at hbk]
  by_cases hs : b.shelf = i
  ·rw [if_pos hs] at hst;rw [if_neg (not_not_intro hs), chk_pos (i64_small (by omega))]
   by_cases hn : n - b.wide < 0
   ·rw [if_pos hn, andx_some', if_pos rfl];refine .some ?_
    show 9 = fitErr bs i a;unfold fitErr;rw [if_neg fun h => ?_]
    have := h.2;omega
   ·rw [if_neg hn, andx_some']
    by_cases hh : b.high > a.high
    ·rw [decide_eq_true hh, if_pos rfl];refine .some ?_
     show 9 = fitErr bs i a;unfold fitErr;rw [if_neg fun h => ?_]
     have := h.1 b (List.mem_of_getElem? hbk) hs;omega
    ·rw [decide_eq_false hh, if_neg (by decide)];refine .some (.chk (i64_small (by omega)) (.some ⟨rfl, ?_, ?_, lowOn_step hbk h2 fun _ => by omega⟩))
     ·show n - b.wide = _; omega
     ·show 0 ≤ n - b.wide; omega
  ·rw [if_neg hs] at hst;rw [if_pos hs];refine .some (.chk (i64_small (by omega)) (.some ⟨rfl, ?_, h0, lowOn_step hbk h2 fun h => absurd h hs⟩))
   show n = _;omega
 ·rintro ⟨j, n⟩ hx ⟨h1, h0, h2⟩;simp only at hx h1 h2 h0;subst hx;unfold P_s9_Check_L6
  show Ok (if _ then _ else _) _;rw [if_neg (by omega)];rw [List.take_length] at h1 h2;refine .some (.some ?_)
  show 0 = fitErr bs i a;unfold fitErr;rw [if_pos ⟨h2, by omega⟩]
def ShOk (sh : List qH) : Prop := ∀ (j : Nat) (a : qH), sh[j]? = some a → 0 ≤ a.wide ∧ a.wide ≤ 2000
open Classical in
theorem r9_L4_eq {cl : List Str} {sh : List qH} {bs : List qB} (hs : sh.length ≤ 1000) (hsh : ShOk sh) (hb : Wides bs) (hl : bs.length ≤ 1000) :
  iter (P_r9_Check_L4 cl sh bs) 0 = some (scanX (errG 4 (errAt sh (fitErr bs))) sh.length) := by
 refine iter_scanI _ _ (fun k hk _ => ?_) (fun _ => ?_)
 ·unfold P_r9_Check_L4;obtain ⟨a, ha⟩ := get_some hk
  have hw := hsh k a ha;rw [if_pos (by omega), r9_Own_eq hl, andx_some', r9_fit_eq ha hw.1 hb hl, andx_some', chk_pos (i64_small (by omega))];unfold errG;rw [errAt_of ha];unfold fitErr
  by_cases h : fits bs k a
  ·rw [decide_eq_true h, if_pos h]; rfl
  ·rw [decide_eq_false h, if_neg h]; rfl
 ·unfold P_r9_Check_L4;rw [if_neg (by omega)]
theorem s9_L5_eq {sh : List qH} {bs : List qB} (hs : sh.length ≤ 1000) (hsh : ShOk sh) (hb : Wides bs) (hl : bs.length ≤ 1000) :
  iter (P_s9_Check_L5 sh bs) 0 = some (scanX (errF (errAt sh (fitErr bs))) sh.length) := by
 refine iter_scanI _ _ (fun k hk _ => ?_) (fun _ => ?_)
 ·unfold P_s9_Check_L5;obtain ⟨a, ha⟩ := get_some hk
  have hw := hsh k a ha;rw [if_pos (by omega), el_at ha, s9_L6_eq (sh := sh) hw hb hl, andx_some', body_err (by omega)];unfold errF;rw [errAt_of ha]
 ·unfold P_s9_Check_L5;rw [if_neg (by omega)]
noncomputable def roomE (cl : List Str) (sh : List qH) (bs : List qB) : Option (Int × Int × Int) :=
 if 1 ≤ cl.length ∧ cl.length ≤ 6 then
  match firstE (errAt cl (clErr cl)) cl.length with
  | some p => some (1, p.1, p.2)
  | none =>
   if 1 ≤ sh.length ∧ sh.length ≤ 4 then
    match firstE (errAt sh fun _ => shErr) sh.length with
    | some p => some (2, p.1, p.2)
    | none =>
     if bs.length ≤ 10 then
      match firstE (errAt bs (bkErr cl.length sh.length bs)) bs.length with
      | some p => some (3, p.1, p.2)
      | none =>
       match firstE (errAt sh (fitErr bs)) sh.length with
       | some p => some (4, p.1, p.2)
       | none => some (0, 0, 0)
     else some (3, 0, 3)
   else some (2, 0, 3)
 else some (1, 0, 3)
theorem shErr_zero {a : qH} (h : shErr a = 0) : shOk a := by
 unfold shErr at h;split at h
 ·assumption
 ·cases h
theorem bkErr_zero {ncl nsh : Nat} {bs : List qB} {i : Nat} {b : qB} (h : bkErr ncl nsh bs i b = 0) : bkRange b.wide b.high b.heavy ∧ btw 0 ((nsh : Int) - 1) b.shelf ∧ ¬ below bs i b ∧ ¬ twice (bs.take i) b.qK b.qL b.qJ ∧ mkErr ncl b.qK b.qL b.qJ = 0 := by
 unfold bkErr at h;split at h
 ·rename_i h0
  split at h
  ·rename_i h1
   split at h
   ·cases h
   ·rename_i h2
    unfold bkE0 bkErr1 at h0;split at h0
    ·rename_i h3
     split at h0
     ·rename_i h4
      split at h0
      ·cases h0
      ·rename_i h5
       exact ⟨h4, h1, h2, h5, h3⟩
     ·cases h0
    ·rename_i h3; exact absurd h0 h3
  ·cases h
 ·rename_i h0; exact absurd h h0
theorem shOk_all {sh : List qH} (h : ∀ j, j < sh.length → errAt sh (fun _ => shErr) j = 0) {j : Nat} {a : qH} (ha : sh[j]? = some a) : shOk a := by
 have := h j (List.getElem?_eq_some_iff.1 ha).1;rw [errAt_of ha] at this;exact shErr_zero this
theorem bk_all {ncl nsh : Nat} {bs : List qB} (h : ∀ j, j < bs.length → errAt bs (bkErr ncl nsh bs) j = 0) {j : Nat} {b : qB} (hb : bs[j]? = some b) : bkErr ncl nsh bs j b = 0 := by
 have := h j (List.getElem?_eq_some_iff.1 hb).1
 rwa [errAt_of hb] at this
theorem wides_all {ncl nsh : Nat} {bs : List qB} (h : ∀ j, j < bs.length → errAt bs (bkErr ncl nsh bs) j = 0) : Wides bs := fun b hb => by
 obtain ⟨j, hj⟩ := List.getElem?_of_mem hb;exact (bkErr_zero (bk_all h hj)).1.1
open Classical in
theorem r9_Check_eq (cl : List Str) (sh : List qH) (bs : List qB) : P_r9_Check cl sh bs = roomE cl sh bs := by
 unfold P_r9_Check roomE;rw [r9_in_eq, andx_some']
 by_cases h1 : 1 ≤ cl.length ∧ cl.length ≤ 6
 ·rw [if_pos h1, decide_eq_true (by omega), if_pos rfl, r9_L1_eq (by omega), loopR]
  rcases firstE_cases (errAt cl (clErr cl)) cl.length with ⟨e, _, _⟩ | ⟨_, _, _, e, _⟩
  rotate_left
  ·rw [e]
  rw [e]
  show andx _ _ = _;rw [r9_in_eq, andx_some']
  by_cases h2 : 1 ≤ sh.length ∧ sh.length ≤ 4
  ·rw [if_pos h2, decide_eq_true (by omega), if_pos rfl, r9_L2_eq (by omega), loopR]
   rcases firstE_cases (errAt sh fun _ => shErr) sh.length with ⟨e, _, hsh⟩ | ⟨_, _, _, e, _⟩
   rotate_left
   ·rw [e]
   rw [e]
   show (if _ then _ else _) = _
   by_cases h3 : bs.length ≤ 10
   ·rw [if_neg (by omega), r9_L3_eq (by omega) (by omega) (by omega), loopR]
    show _ = if _ then _ else _;rw [if_pos h3]
    rcases firstE_cases (errAt bs (bkErr cl.length sh.length bs)) bs.length with ⟨e, _, hbs⟩ | ⟨_, _, _, e, _⟩
    rotate_left
    ·rw [e]
    rw [e]
    show seqx _ _ = _;rw [r9_L4_eq (by omega) (fun j a ha => by have := (shOk_all hsh ha).2.1; unfold btw at this; omega) (wides_all hbs) (by omega), loopR] <;> rfl
   ·rw [if_pos (by omega)]
    show _ = if _ then _ else _;rw [if_neg h3]
  ·rw [if_neg h2, decide_eq_false (by omega), if_neg (by decide)]
 ·rw [if_neg h1, decide_eq_false (by omega), if_neg (by decide)]
open Classical in
theorem s9_Check_eq (cl : List Str) (sh : List qH) (bs : List qB) : P_s9_Check cl sh bs = roomE cl sh bs := by
 unfold P_s9_Check roomE;rw [s9_out1, andx_some']
 by_cases h1 : 1 ≤ cl.length ∧ cl.length ≤ 6
 ·rw [if_pos h1, decide_eq_false (not_not_intro (show btw 1 6 (cl.length : Int) from ⟨by omega, by omega⟩)), if_neg (by decide), s9_L1_eq (by omega), loopS (c := 1) (fun _ => rfl)]
  rcases firstE_cases (errAt cl (clErr cl)) cl.length with ⟨e, _, _⟩ | ⟨_, _, _, e, _⟩
  rotate_left
  ·rw [e]
  rw [e]
  show andx _ _ = _;rw [s9_out1, andx_some']
  by_cases h2 : 1 ≤ sh.length ∧ sh.length ≤ 4
  ·rw [if_pos h2, decide_eq_false (not_not_intro (show btw 1 4 (sh.length : Int) from ⟨by omega, by omega⟩)), if_neg (by decide), s9_L3_eq (by omega), loopS (c := 2) (fun _ => rfl)]
   rcases firstE_cases (errAt sh fun _ => shErr) sh.length with ⟨e, _, hsh⟩ | ⟨_, _, _, e, _⟩
   rotate_left
   ·rw [e]
   rw [e]
   show (if _ then _ else _) = _
   by_cases h3 : bs.length ≤ 10
   ·rw [if_neg (by omega), s9_L4_eq (by omega) (by omega) (by omega), loopS (c := 3) (fun _ => rfl)]
    show _ = if _ then _ else _;rw [if_pos h3]
    rcases firstE_cases (errAt bs (bkErr cl.length sh.length bs)) bs.length with ⟨e, _, hbs⟩ | ⟨_, _, _, e, _⟩
    rotate_left
    ·rw [e]
    rw [e]
    show andx _ _ = _;rw [s9_L5_eq (by omega) (fun j a ha => by have := (shOk_all hsh ha).2.1; unfold btw at this; omega) (wides_all hbs) (by omega), loopS (c := 4) (fun _ => rfl)] <;> rfl
   ·rw [if_pos (by omega)]
    show _ = if _ then _ else _;rw [if_neg h3]
  ·rw [if_neg h2, decide_eq_true (show ¬ btw 1 4 (sh.length : Int) from fun h => h2 (by unfold btw at h; omega)), if_pos rfl]
 ·rw [if_neg h1, decide_eq_true (show ¬ btw 1 6 (cl.length : Int) from fun h => h1 (by unfold btw at h; omega)), if_pos rfl]
end Go.Am
end
section
namespace Go.Am
set_option linter.unusedVariables false
set_option linter.unusedSimpArgs false
structure Fine (cl : List Str) (sh : List qH) (bs : List qB) : Prop where
 cl1 : 1 ≤ cl.length ∧ cl.length ≤ 6
 cl2 : ∀ j, j < cl.length → errAt cl (clErr cl) j = 0
 sh1 : 1 ≤ sh.length ∧ sh.length ≤ 4
 sh2 : ∀ j, j < sh.length → errAt sh (fun _ => shErr) j = 0
 bs1 : bs.length ≤ 10
 bs2 : ∀ j, j < bs.length → errAt bs (bkErr cl.length sh.length bs) j = 0
 fit : ∀ j, j < sh.length → errAt sh (fitErr bs) j = 0
theorem roomE_ok (cl : List Str) (sh : List qH) (bs : List qB) : ∃ c i e, roomE cl sh bs = some (c, i, e) ∧ (e = 0 ↔ Fine cl sh bs) := by
 unfold roomE
 by_cases h1 : 1 ≤ cl.length ∧ cl.length ≤ 6
 ·rw [if_pos h1]
  rcases firstE_cases (errAt cl (clErr cl)) cl.length with ⟨e, _, h2⟩ | ⟨k, hk, hne, e, _⟩
  rotate_left
  ·rw [e];exact ⟨_, _, _, rfl, fun h => absurd h hne, fun h => absurd (h.cl2 k hk) hne⟩
  rw [e];dsimp only
  by_cases h3 : 1 ≤ sh.length ∧ sh.length ≤ 4
  ·rw [if_pos h3]
   rcases firstE_cases (errAt sh fun _ => shErr) sh.length with ⟨e, _, h4⟩ | ⟨k, hk, hne, e, _⟩
   rotate_left
   ·rw [e];exact ⟨_, _, _, rfl, fun h => absurd h hne, fun h => absurd (h.sh2 k hk) hne⟩
   rw [e];dsimp only
   by_cases h5 : bs.length ≤ 10
   ·rw [if_pos h5]
    rcases firstE_cases (errAt bs (bkErr cl.length sh.length bs)) bs.length with ⟨e, _, h6⟩ | ⟨k, hk, hne, e, _⟩
    rotate_left
    ·rw [e];exact ⟨_, _, _, rfl, fun h => absurd h hne, fun h => absurd (h.bs2 k hk) hne⟩
    rw [e]
    rcases firstE_cases (errAt sh (fitErr bs)) sh.length with ⟨e, _, h7⟩ | ⟨k, hk, hne, e, _⟩
    rotate_left
    ·rw [e];exact ⟨_, _, _, rfl, fun h => absurd h hne, fun h => absurd (h.fit k hk) hne⟩
    rw [e];exact ⟨_, _, _, rfl, fun _ => ⟨h1, h2, h3, h4, h5, h6, h7⟩, fun _ => rfl⟩
   ·rw [if_neg h5];exact ⟨_, _, _, rfl, fun h => absurd h (by decide), fun h => absurd h.bs1 h5⟩
  ·rw [if_neg h3];exact ⟨_, _, _, rfl, fun h => absurd h (by decide), fun h => absurd h.sh1 h3⟩
 ·rw [if_neg h1];exact ⟨_, _, _, rfl, fun h => absurd h (by decide), fun h => absurd h.cl1 h1⟩
section
variable {cl : List Str} {sh : List qH} {bs : List qB}
theorem Fine.wides (h : Fine cl sh bs) : Wides bs := wides_all h.bs2
theorem Fine.shelf (h : Fine cl sh bs) {j : Nat} {a : qH} (ha : sh[j]? = some a) : shOk a := shOk_all h.sh2 ha
theorem Fine.book (h : Fine cl sh bs) {j : Nat} {b : qB} (hb : bs[j]? = some b) : 0 ≤ b.shelf ∧ b.shelf < sh.length := by
 have := (bkErr_zero (bk_all h.bs2 hb)).2.1;unfold btw at this; omega
theorem Fine.fits (h : Fine cl sh bs) {j : Nat} {a : qH} (ha : sh[j]? = some a) : fits bs j a := by
 have := h.fit j (List.getElem?_eq_some_iff.1 ha).1;rw [errAt_of ha] at this;unfold fitErr at this;split at this
 ·assumption
 ·cases this
open Classical in
theorem law9_valid_eq : P_law9_valid cl sh bs = some (decide (Fine cl sh bs)) := by
 obtain ⟨c, i, e, he, hf⟩ := roomE_ok cl sh bs;unfold P_law9_valid;rw [r9_Check_eq, he]
 show some _ = some _
 congr 1
 exact decide_eq_decide.2 hf
end
end Go.Am
end
section
namespace Go.Am
set_option linter.unusedVariables false
set_option linter.unusedSimpArgs false
theorem cmpS_neg : ∀ a b : Str, cmpS b a = - cmpS a b
 | [], [] => by rfl
 | [], _ :: _ => by rfl
 | _ :: _, [] => by rfl
 | a :: la, b :: bs => by
  have := cmpS_neg la bs;simp only [cmpS, Lib.compareBytes, UInt8.lt_iff_toNat_lt] at this ⊢
  by_cases h1 : a.toNat < b.toNat
  ·rw [if_pos h1, if_neg (by omega), if_pos h1]; rfl
  ·by_cases h2 : b.toNat < a.toNat
   ·rw [if_pos h2, if_neg h1, if_pos h2]
   ·rw [if_neg h2, if_neg h1, if_neg h1, if_neg h2]; exact this
theorem cmpS_zero : ∀ a b : Str, cmpS a b = 0 ↔ a = b
 | [], [] => by simp [cmpS, Lib.compareBytes]
 | [], _ :: _ => by simp [cmpS, Lib.compareBytes]
 | _ :: _, [] => by simp [cmpS, Lib.compareBytes]
 | a :: la, b :: bs => by
  have := cmpS_zero la bs;simp only [cmpS, Lib.compareBytes, UInt8.lt_iff_toNat_lt] at this ⊢
  by_cases h1 : a.toNat < b.toNat
  ·rw [if_pos h1];exact ⟨fun h => by omega, fun h => by cases h; omega⟩
  ·by_cases h2 : b.toNat < a.toNat
   ·rw [if_neg h1, if_pos h2];exact ⟨fun h => by omega, fun h => by cases h; omega⟩
   ·rw [if_neg h1, if_neg h2, this]
    have : a = b := UInt8.toNat_inj.1 (by omega);subst this;simp
theorem cmpS_trans : ∀ a b c : Str, cmpS a b < 0 → cmpS b c < 0 → cmpS a c < 0
 | [], [], _, h, _ => by simp [cmpS, Lib.compareBytes] at h
 | [], _ :: _, [], _, h => by simp [cmpS, Lib.compareBytes] at h
 | [], _ :: _, _ :: _, _, _ => by simp [cmpS, Lib.compareBytes]
 | _ :: _, [], _, h, _ => by simp [cmpS, Lib.compareBytes] at h
 | _ :: _, _ :: _, [], _, h => by simp [cmpS, Lib.compareBytes] at h
 | a :: la, b :: bs, c :: cs, h1, h2 => by
  have ih := cmpS_trans la bs cs;simp only [cmpS, Lib.compareBytes, UInt8.lt_iff_toNat_lt] at ih h1 h2 ⊢
  by_cases h3 : a.toNat < b.toNat
  ·by_cases h4 : b.toNat < c.toNat
   ·rw [if_pos (by omega)]; omega
   ·rw [if_neg h4] at h2
    by_cases h5 : c.toNat < b.toNat
    ·rw [if_pos h5] at h2; omega
    ·rw [if_pos (by omega)]; omega
  ·rw [if_neg h3] at h1
   by_cases h4 : b.toNat < a.toNat
   ·rw [if_pos h4] at h1; omega
   ·rw [if_neg h4] at h1
    by_cases h5 : b.toNat < c.toNat
    ·rw [if_pos (by omega)]; omega
    ·rw [if_neg h5] at h2
     by_cases h6 : c.toNat < b.toNat
     ·rw [if_pos h6] at h2; omega
     ·rw [if_neg h6] at h2;rw [if_neg (by omega), if_neg (by omega)];exact ih h1 h2
def fst4 (a b c d : Int) : Int := if ¬ a = 0 then a else if ¬ b = 0 then b else if ¬ c = 0 then c else d
def cmpM (c n : Int) (s : Str) (c' n' : Int) (s' : Str) : Int := fst4 (c - c') (n - n') ((s.length : Int) - s'.length) (cmpS s s')
theorem cmpM_neg {c n : Int} {s : Str} {c' n' : Int} {s' : Str} : cmpM c' n' s' c n s = - cmpM c n s c' n' s' := by
 unfold cmpM fst4;rw [cmpS_neg s s']
 by_cases h1 : c - c' = 0
 ·rw [if_neg (not_not_intro (show c' - c = 0 by omega)), if_neg (not_not_intro h1)]
  by_cases h2 : n - n' = 0
  ·rw [if_neg (not_not_intro (show n' - n = 0 by omega)), if_neg (not_not_intro h2)]
   by_cases h3 : (s.length : Int) - s'.length = 0
   ·rw [if_neg (not_not_intro (show (s'.length : Int) - s.length = 0 by omega)), if_neg (not_not_intro h3)]
   ·rw [if_pos (show ¬ (s'.length : Int) - s.length = 0 by omega), if_pos h3]; omega
  ·rw [if_pos (show ¬ n' - n = 0 by omega), if_pos h2]; omega
 ·rw [if_pos (show ¬ c' - c = 0 by omega), if_pos h1]; omega
theorem cmpM_zero {c n : Int} {s : Str} {c' n' : Int} {s' : Str} : cmpM c n s c' n' s' = 0 ↔ c = c' ∧ n = n' ∧ s = s' := by
 unfold cmpM fst4
 by_cases h1 : c - c' = 0
 ·rw [if_neg (not_not_intro h1)]
  by_cases h2 : n - n' = 0
  ·rw [if_neg (not_not_intro h2)]
   by_cases h3 : (s.length : Int) - s'.length = 0
   ·rw [if_neg (not_not_intro h3), cmpS_zero];exact ⟨fun h => ⟨by omega, by omega, h⟩, fun h => h.2.2⟩
   ·rw [if_pos h3];exact ⟨fun h => absurd h h3, fun h => by rw [h.2.2] at h3; omega⟩
  ·rw [if_pos h2];exact ⟨fun h => absurd h h2, fun h => by omega⟩
 ·rw [if_pos h1];exact ⟨fun h => absurd h h1, fun h => by omega⟩
theorem cmpM_lt {c n : Int} {s : Str} {c' n' : Int} {s' : Str} : cmpM c n s c' n' s' < 0 ↔ c < c' ∨ (c = c' ∧ (n < n' ∨ (n = n' ∧ (s.length < s'.length ∨ (s.length = s'.length ∧ cmpS s s' < 0))))) := by
 unfold cmpM fst4
 by_cases h1 : c - c' = 0
 ·rw [if_neg (not_not_intro h1)]
  by_cases h2 : n - n' = 0
  ·rw [if_neg (not_not_intro h2)]
   by_cases h3 : (s.length : Int) - s'.length = 0
   ·rw [if_neg (not_not_intro h3)]; omega
   ·rw [if_pos h3]; omega
  ·rw [if_pos h2]; omega
 ·rw [if_pos h1]; omega
theorem cmpM_trans {a b : Int} {s : Str} {a' b' : Int} {s' : Str} {a'' b'' : Int} {s'' : Str} (h : cmpM a b s a' b' s' < 0) (h' : cmpM a' b' s' a'' b'' s'' < 0) : cmpM a b s a'' b'' s'' < 0 := by
 rw [cmpM_lt] at h h' ⊢
 have := cmpS_trans s s' s'';omega
theorem cmpOr_eq (a b c d : Int) : P_cmpOr [a, b, c, d] = some (fst4 a b c d) := by
 unfold P_cmpOr;rw [iter_scanI (fun i => if ([a, b, c, d] : List Int).getD i 0 = 0 then none else some (([a, b, c, d] : List Int).getD i 0)) 4, seqx_scan]
 ·unfold fst4;rw [show List.range 4 = [0, 1, 2, 3] from rfl]
  by_cases h1 : a = 0 <;> by_cases h2 : b = 0 <;> by_cases h3 : c = 0 <;> by_cases h4 : d = 0 <;> simp [h1, h2, h3, h4]
 ·intro k hk _;unfold P_cmpOr_L1;rw [if_pos (by simp; omega)];obtain ⟨x, hx⟩ := get_some (l := [a, b, c, d]) (k := k) hk;rw [el_at hx, chk_pos (i64_small (by omega))]
  have e : ([a, b, c, d] : List Int).getD k 0 = x := by simp [List.getD, hx]
  simp only [e]
  by_cases h : x = 0
  ·rw [if_neg (not_not_intro h), if_pos h]; rfl
  ·rw [if_pos h, if_neg h]; rfl
 ·intro _;unfold P_cmpOr_L1;rw [if_neg (by simp)]
theorem markOk_bound {ncl : Nat} {c n : Int} {s : Str} (h : mkErr ncl c n s = 0) : (0 ≤ c ∧ c < ncl) ∧ (1 ≤ n ∧ n ≤ 9999) ∧ s.length ≤ 2 ∧ isLow s := by
 unfold mkErr at h;split at h
 ·rename_i h1
  split at h
  ·rename_i h2
   split at h
   ·rename_i h3
    split at h
    ·rename_i h4
     unfold btw at h1 h2;exact ⟨by omega, by omega, h3, h4⟩
    ·cases h
   ·cases h
  ·cases h
 ·cases h
theorem s9_compare_eq {ncl : Nat} {c n : Int} {s : Str} {c' n' : Int} {s' : Str} (hn : ncl ≤ 1000) (h : mkErr ncl c n s = 0) (h' : mkErr ncl c' n' s' = 0) : P_s9_compare c n s c' n' s' = some (cmpM c n s c' n' s') := by
 have b := markOk_bound h
 have b' := markOk_bound h';unfold P_s9_compare
 by_cases e : c = c' ∧ n = n' ∧ s = s'
 ·rw [if_pos e, cmpM_zero.2 e]
 ·rw [if_neg e, chk_pos (i64_small (by omega)), chk_pos (i64_small (by omega)), chk_pos (i64_small (by omega)), cmpOr_eq];rfl
noncomputable def roomN (cl : List Str) (sh : List qH) (bs : List qB) : Int := match roomE cl sh bs with | some (_, _, e) => e | none => 0
section
variable {cl : List Str} {sh : List qH} {bs : List qB}
theorem roomN_zero : roomN cl sh bs = 0 ↔ Fine cl sh bs := by
 obtain ⟨c, i, e, he, hf⟩ := roomE_ok cl sh bs;unfold roomN;rw [he]; exact hf
theorem s9_open_eq : P_s9_open cl sh bs = some (roomN cl sh bs) := by
 obtain ⟨c, i, e, he, hf⟩ := roomE_ok cl sh bs;unfold P_s9_open roomN;rw [s9_Check_eq, he]; rfl
noncomputable def two (cl : List Str) (sh : List qH) (bs : List qB) (c n : Int) (s : Str) (c' n' : Int) (s' : Str) : Int :=
 if roomN cl sh bs = 0 then (if mkErr cl.length c n s = 0 then mkErr cl.length c' n' s' else mkErr cl.length c n s) else roomN cl sh bs
end
end Go.Am
end
section
namespace Go.Am
set_option linter.unusedVariables false
set_option linter.unusedSimpArgs false
def bytesI (s : Str) : List Int := s.map fun b => (b.toNat : Int)
def keyL (c n : Int) (s : Str) : List Int := [c, n, (s.length : Int)] ++ bytesI s
theorem r9_key_eq {c n : Int} {s : Str} (hs : s.length ≤ 1000) : P_r9_key c n s = some (keyL c n s) := by
 refine Ok.get ?_;unfold P_r9_key;refine Ok.andx (P := fun r => r = keyL c n s) ?_ (fun r hr => .some hr);refine Ok.count (fun (x : Int × List Int) => x.1) s.length (fun k x => x.2 = [c, n, (s.length : Int)] ++ bytesI (s.take k)) rfl rfl ?_ ?_
 ·rintro k ⟨i, out⟩ hk hx hI;simp only at hx hI;subst hx;obtain ⟨b, hb⟩ := get_some hk
  have hbb := byteAt_lt s (k : Int)
  have hbe := byteAt_of hb;unfold P_r9_key_L1
  show Ok (if _ then _ else _) _;rw [if_pos (by omega)];refine .chk (by omega) (.chk (by omega) (.chk ?_ (.chk (i64_small (by omega)) (.some ⟨rfl, ?_⟩))))
  ·rw [hI]; simp [bytesI]; omega
  ·show out ++ [byteAt s (k : Int)] = _;rw [hI, take_step hb, hbe];simp [bytesI]
 ·rintro ⟨i, out⟩ hx hI;simp only at hx hI;subst hx;unfold P_r9_key_L1
  show Ok (if _ then _ else _) _;rw [if_neg (by omega)];refine .some ?_
  show out = _;rw [hI, List.take_length]; rfl
def lexB : List Int → List Int → Bool
 | [], [] => false
 | [], _ :: _ => true
 | _ :: _, [] => false
 | a :: l, b :: m => if a = b then lexB l m else decide (a < b)
theorem lexB_nil {l : List Int} : lexB [] l = decide (0 < l.length) := by cases l <;> simp [lexB]
theorem lexB_nil' {l : List Int} : lexB l [] = false := by cases l <;> rfl
theorem w1_Before_eq {a b : List Int} (ha : a.length ≤ 1000) : P_w1_Before a b = some (lexB a b) := by
 refine Ok.get ?_;unfold P_w1_Before;refine Ok.seqx ?_;refine Ok.count id (Nat.min a.length b.length) (fun k _ => lexB (a.drop k) (b.drop k) = lexB a b) rfl rfl ?_ ?_
 ·rintro k x hk hx hI;simp only [id] at hx;subst hx
  have h1 : k < a.length := Nat.lt_of_lt_of_le hk (Nat.min_le_left _ _)
  have h2 : k < b.length := Nat.lt_of_lt_of_le hk (Nat.min_le_right _ _);obtain ⟨x, hx⟩ := get_some h1;obtain ⟨y, hy⟩ := get_some h2
  have ea : a.drop k = x :: a.drop (k + 1) := by rw [← List.getElem_cons_drop h1]; congr 1; exact Option.some.inj ((List.getElem?_eq_getElem h1).symm.trans hx)
  have eb : b.drop k = y :: b.drop (k + 1) := by rw [← List.getElem_cons_drop h2]; congr 1; exact Option.some.inj ((List.getElem?_eq_getElem h2).symm.trans hy)
  rw [ea, eb] at hI;unfold P_w1_Before_L1;refine Ok.seqx ?_;rw [if_pos (by omega), decide_eq_true (by omega), andx_some', if_pos rfl];refine .some ?_
  show Ok (el a (k : Int) _) _;rw [el_at hx, el_at hy]
  by_cases e : x = y
  ·rw [if_neg (not_not_intro e)];refine .chk (i64_small (by omega)) (.some ⟨rfl, ?_⟩);rw [← hI, lexB, if_pos e]
  ·rw [if_pos e, el_at hx, el_at hy];refine .some ?_
   show decide (x < y) = _;rw [← hI, lexB, if_neg e]
 ·rintro x hx hI;simp only [id] at hx;unfold P_w1_Before_L1;refine Ok.seqx ?_
  by_cases h1 : x < (a.length : Int)
  ·have h2 : ¬ x < (b.length : Int) := by
    have : Nat.min a.length b.length = if a.length ≤ b.length then a.length else b.length := Nat.min_def;split at this <;> omega
   rw [if_pos h1, decide_eq_false h2, andx_some', if_neg (by decide)];refine .some (.some ?_)
   have hm : Nat.min a.length b.length = b.length := by
    have : Nat.min a.length b.length = if a.length ≤ b.length then a.length else b.length := Nat.min_def;split at this <;> omega
   rw [hm] at hI hx;rw [List.drop_of_length_le (Nat.le_refl b.length), lexB_nil'] at hI;rw [← hI];exact decide_eq_false (by omega)
  ·rw [if_neg h1, andx_some', if_neg (by decide)];refine .some (.some ?_)
   have hm : Nat.min a.length b.length = a.length := by
    have : Nat.min a.length b.length = if a.length ≤ b.length then a.length else b.length := Nat.min_def;split at this <;> omega
   rw [hm] at hI hx;rw [List.drop_of_length_le (Nat.le_refl a.length), lexB_nil, List.length_drop] at hI;rw [← hI];exact decide_eq_decide.2 (by omega)
theorem lexB_bytes : ∀ s s' : Str, lexB (bytesI s) (bytesI s') = decide (cmpS s s' < 0)
 | [], [] => by simp [lexB, bytesI, cmpS, Lib.compareBytes]
 | [], _ :: _ => by simp [lexB, bytesI, cmpS, Lib.compareBytes]
 | _ :: _, [] => by simp [lexB, bytesI, cmpS, Lib.compareBytes]
 | a :: l, b :: m => by
  have ih := lexB_bytes l m;simp only [bytesI, List.map_cons, lexB, cmpS, Lib.compareBytes, UInt8.lt_iff_toNat_lt] at ih ⊢
  by_cases e : (a.toNat : Int) = (b.toNat : Int)
  ·rw [if_pos e, if_neg (by omega), if_neg (by omega)]; exact ih
  ·rw [if_neg e]
   by_cases h : a.toNat < b.toNat
   ·rw [if_pos h, decide_eq_true (by omega)]; rfl
   ·rw [if_neg h, if_pos (by omega), decide_eq_false (by omega)]; rfl
theorem lexB_key {c n : Int} {s : Str} {c' n' : Int} {s' : Str} : lexB (keyL c n s) (keyL c' n' s') = decide (cmpM c n s c' n' s' < 0) := by
 have h := lexB_bytes s s'
 show lexB (c :: n :: (s.length : Int) :: bytesI s) (c' :: n' :: (s'.length : Int) :: bytesI s') = _;simp only [lexB];unfold cmpM fst4
 by_cases h1 : c = c'
 ·rw [if_pos h1, if_neg (not_not_intro (show c - c' = 0 by omega))]
  by_cases h2 : n = n'
  ·rw [if_pos h2, if_neg (not_not_intro (show n - n' = 0 by omega))]
   by_cases h3 : (s.length : Int) = s'.length
   ·rw [if_pos h3, if_neg (not_not_intro (show (s.length : Int) - s'.length = 0 by omega)), h]
   ·rw [if_neg h3, if_pos (show ¬ (s.length : Int) - s'.length = 0 by omega)];exact decide_eq_decide.2 (by omega)
  ·rw [if_neg h2, if_pos (show ¬ n - n' = 0 by omega)];exact decide_eq_decide.2 (by omega)
 ·rw [if_neg h1, if_pos (show ¬ c - c' = 0 by omega)];exact decide_eq_decide.2 (by omega)
theorem r9_First_eq {c n : Int} {s : Str} {c' n' : Int} {s' : Str} (h : s.length ≤ 900) (h' : s'.length ≤ 900) : P_r9_First c n s c' n' s' = some (decide (cmpM c n s c' n' s' < 0)) := by
 unfold P_r9_First;rw [r9_key_eq (by omega), andx_some', r9_key_eq (by omega), andx_some', w1_Before_eq (by simp [keyL, bytesI]; omega), andx_some', lexB_key]
section
variable {cl : List Str} {sh : List qH} {bs : List qB}
end
def mLess (a b : qB) : Prop := cmpM a.qK a.qL a.qJ b.qK b.qL b.qJ < 0
def Rises (l : List qB) : Prop := ∀ (k : Nat) (a b : qB), l[k]? = some a → l[k + 1]? = some b → mLess a b
def Shorts (l : List qB) : Prop := ∀ b ∈ l, b.qJ.length ≤ 2
def riseAt (l : List qB) (k : Nat) : Prop := ∀ (a b : qB), l[k]? = some a → l[k + 1]? = some b → mLess a b
open Classical in
theorem r9_Ordered_eq {l : List qB} (hs : Shorts l) (hl : l.length ≤ 1000) : P_r9_Ordered l = some (decide (Rises l)) := by
 unfold P_r9_Ordered
 have key : iter (P_r9_Ordered_L1 l) 1 = some (scanX (fun i => if riseAt l i then none else some false) (l.length - 1)) := by
  refine iter_scan (fun k : Nat => (k : Int) + 1) (fun i => if riseAt l i then none else some false) (l.length - 1) (fun _ => rfl) (fun k hk _ => ?_) (fun _ => ?_)
  ·obtain ⟨a, ha⟩ := get_some (l := l) (k := k) (by omega);obtain ⟨b, hb⟩ := get_some (l := l) (k := k + 1) (by omega);unfold P_r9_Ordered_L1
   have e1 : (k : Int) + 1 - 1 = (k : Int) := by omega
   have e2 : (k : Int) + 1 = ((k + 1 : Nat) : Int) := by omega
   rw [if_pos (by omega), e1, chk_pos (i64_small (by omega)), el_at ha, e2, el_at hb, r9_First_eq (by have := hs a (List.mem_of_getElem? ha); omega) (by have := hs b (List.mem_of_getElem? hb); omega), andx_some', chk_pos (i64_small (by omega))]
   have e : riseAt l k ↔ mLess a b := ⟨fun h => h a b ha hb, fun h a' b' ha' hb' => by rw [ha] at ha'; rw [hb] at hb'; cases ha'; cases hb'; exact h⟩
   by_cases h : mLess a b
   ·rw [decide_eq_true (show _ < (0 : Int) from h), if_pos rfl, if_pos (e.2 h)]; rfl
   ·rw [decide_eq_false (show ¬ _ < (0 : Int) from h), if_neg (by decide), if_neg fun k => h (e.1 k)]; rfl
  ·unfold P_r9_Ordered_L1;rw [if_neg (by omega)]
 rw [key, seqx_scan, find_if]
 by_cases h : ∀ j, j < l.length - 1 → riseAt l j
 ·rw [if_pos h, decide_eq_true];exact fun k a b ha hb => h k (by have := (List.getElem?_eq_some_iff.1 hb).1; omega) a b ha hb
 ·rw [if_neg h, decide_eq_false];exact fun k => h fun j _ => k j
end Go.Am
end
section
namespace Go.Am
set_option linter.unusedVariables false
set_option linter.unusedSimpArgs false
instance (a b : qB) : Decidable (mLess a b) := inferInstanceAs (Decidable (_ < (0 : Int)))
def place : List qB → qB → Nat
 | [], _ => 0
 | a :: r, b => if mLess a b then place r b + 1 else 0
def MarksOk (ncl : Nat) (l : List qB) : Prop := ∀ b ∈ l, mkErr ncl b.qK b.qL b.qJ = 0
theorem MarksOk.shorts {ncl : Nat} {l : List qB} (h : MarksOk ncl l) : Shorts l := fun b hb => (markOk_bound (h b hb)).2.2.1
def Dist (l : List qB) : Prop := ∀ (i j : Nat) (a b : qB), i < j → l[i]? = some a → l[j]? = some b → ¬ sameMark a b.qK b.qL b.qJ
open Classical in
theorem s9_ordered_eq {ncl : Nat} {l : List qB} (hn : ncl ≤ 1000) (hm : MarksOk ncl l) (hd : Dist l) (hl : l.length ≤ 1000) : P_s9_ordered l = some (decide (Rises l)) := by
 refine Ok.get ?_;unfold P_s9_ordered;rw [chk_pos (i64_small (by omega))];refine Ok.andx (P := fun r => r = decide (Rises l)) ?_ (fun r hr => .some hr);refine Ok.seqx ?_;refine Ok.iter (fun i : Int => -1 ≤ i ∧ i < l.length ∧ ∀ k : Nat, i ≤ k → riseAt l k) (fun i => (i + 1).toNat) ⟨by omega, by omega, fun k hk a b ha hb => ?_⟩ ?_
 ·have := (List.getElem?_eq_some_iff.1 hb).1;omega
 ·rintro i ⟨h1, h2, h3⟩;unfold P_s9_ordered_L1
  by_cases h0 : i > 0
  ·obtain ⟨k, rfl⟩ : ∃ k : Nat, i = ((k + 1 : Nat) : Int) := ⟨(i - 1).toNat, by omega⟩;obtain ⟨a, ha⟩ := get_some (l := l) (k := k) (by omega);obtain ⟨b, hb⟩ := get_some (l := l) (k := k + 1) (by omega)
   have e1 : ((k + 1 : Nat) : Int) - 1 = (k : Int) := by omega
   rw [if_pos h0, el_at hb, e1, chk_pos (i64_small (by omega)), el_at ha, s9_compare_eq hn (hm b (List.mem_of_getElem? hb)) (hm a (List.mem_of_getElem? ha))]
   show Ok (andx (andx (some _) _) _) _;rw [andx_some', andx_some']
   have hne : cmpM b.qK b.qL b.qJ a.qK a.qL a.qJ ≠ 0 := fun h => by
    have := cmpM_zero.1 h;exact hd k (k + 1) a b (by omega) ha hb ⟨this.1.symm, this.2.1.symm, this.2.2.symm⟩
   have hneg : cmpM b.qK b.qL b.qJ a.qK a.qL a.qJ = - cmpM a.qK a.qL a.qJ b.qK b.qL b.qJ := cmpM_neg
   by_cases h : cmpM b.qK b.qL b.qJ a.qK a.qL a.qJ < 0
   ·rw [if_pos h];refine .some ?_
    show false = _;rw [decide_eq_false];intro hr
    have := hr k a b ha hb;unfold mLess at this;omega
   ·rw [if_neg h];refine .chk (i64_small (by omega)) (.some ⟨⟨by omega, by omega, fun j hj => ?_⟩, by show ((k : Int) + 1).toNat < (((k + 1 : Nat) : Int) + 1).toNat; omega⟩)
    by_cases hjk : j = k
    ·subst hjk;intro a' b' ha' hb';rw [ha] at ha'; rw [hb] at hb';cases ha'; cases hb';unfold mLess; omega
    ·exact h3 j (by omega)
  ·rw [if_neg h0];refine .some ?_;refine Ok.some ?_;rw [decide_eq_true];intro k a b ha hb;exact h3 k (by omega) a b ha hb
section
variable {cl : List Str} {sh : List qH} {bs : List qB}
theorem Fine.marks (h : Fine cl sh bs) : MarksOk cl.length bs := fun b hb => by
 obtain ⟨j, hj⟩ := List.getElem?_of_mem hb;exact (bkErr_zero (bk_all h.bs2 hj)).2.2.2.2
theorem Fine.dist (h : Fine cl sh bs) : Dist bs := fun i j a b hij ha hb hs => by
 have := (bkErr_zero (bk_all h.bs2 hb)).2.2.2.1
 have hi := (List.getElem?_eq_some_iff.1 ha).1
 have hj := (List.getElem?_eq_some_iff.1 hb).1;exact this ⟨i, by rw [List.length_take]; omega, a, by rw [List.getElem?_take_of_lt hij]; exact ha, hs⟩
end
end Go.Am
end
section
namespace Go.Am
set_option linter.unusedVariables false
set_option linter.unusedSimpArgs false
def withS (books : List qB) (ls : List Int) : List qB := List.zipWith (fun b s => { b with shelf := s }) books ls
theorem withS_len {books : List qB} {ls : List Int} (h : ls.length = books.length) : (withS books ls).length = books.length := by
 unfold withS;rw [List.length_zipWith, h, Nat.min_self]
theorem withS_get {books : List qB} {ls : List Int} {k : Nat} {b : qB} {s : Int} (hb : books[k]? = some b) (hs : ls[k]? = some s) : (withS books ls)[k]? = some { b with shelf := s } := by
 unfold withS;rw [List.getElem?_zipWith, hb, hs]
theorem withS_wides {books : List qB} {ls : List Int} (h : Wides books) : Wides (withS books ls) := fun b hb => by
 obtain ⟨k, hk⟩ := List.getElem?_of_mem hb;unfold withS at hk;rw [List.getElem?_zipWith] at hk;cases hx : books[k]? with
 | none => rw [hx] at hk; cases hk
 | some x =>
  cases hy : ls[k]? with
  | none => rw [hx, hy] at hk; cases hk
  | some y =>
   rw [hx, hy] at hk;cases hk;exact h x (List.mem_of_getElem? hx)
theorem withS_own : ∀ books : List qB, withS books (books.map (·.shelf)) = books
 | [] => rfl
 | b :: r => by
  have := withS_own r;unfold withS at this ⊢;rw [List.map_cons, List.zipWith_cons_cons, this]
section
variable {cl : List Str} {sh : List qH} {bs books : List qB} {ls : List Int} {i : Nat} {a : qH}
open Classical in
theorem r9_fit_gen (ha : sh[i]? = some a) (hb : Wides books) (hl : books.length ≤ 1000) (hls : ls.length = books.length) :
  P_r9_fit cl sh bs books ls (i : Int) = some (decide (fits (withS books ls) i a)) := by
 have hB := withS_wides (ls := ls) hb
 have hlen := withS_len hls;refine Ok.get ?_;unfold P_r9_fit;rw [el_at ha];refine Ok.andx (P := fun y => (0 ≤ y ∧ lowOn i a.high (withS books ls) ∧ y = wideOn i (withS books ls)) ∨ (y < 0 ∧ ¬ lowOn i a.high (withS books ls))) ?_ ?_
 ·unfold P_r9_Filled;refine Ok.seqx ?_;refine Ok.count (fun (x : Int × Int) => x.2) books.length (fun k x => x.1 = wideOn i ((withS books ls).take k) ∧ lowOn i a.high ((withS books ls).take k)) rfl ⟨rfl, fun b hb => by simp at hb⟩ ?_ ?_
  ·rintro k ⟨n, j⟩ hk hx ⟨h1, h2⟩;simp only at hx h1 h2;subst hx;obtain ⟨b, hbk⟩ := get_some hk;obtain ⟨s, hsk⟩ := get_some (l := ls) (k := k) (by omega)
   have hw := withS_get hbk hsk;unfold P_r9_Filled_L1
   show Ok (if _ then _ else _) _
   have hk1 := wideOn_take (i := i) hB k
   have hk2 := wideOn_take (i := i) hB (k + 1)
   have hst := wideOn_step (i := i) hw;rw [if_pos (by omega)];refine Ok.seqx ?_;rw [el_at hsk]
   by_cases hs : s = i
   ·rw [if_pos hs] at hst;rw [if_neg (not_not_intro hs), el_at hbk, el_at ha, el_at hbk]
    by_cases hh : b.high > a.high
    ·rw [if_pos hh];refine .some ?_
     show _ ∨ _;refine .inr ⟨by omega, fun h => ?_⟩
     have := h _ (List.mem_of_getElem? hw) hs;simp only at this;omega
    ·rw [if_neg hh];simp only at hst;refine .chk (i64_small (by omega)) (.some (.chk (i64_small (by omega)) (.some ⟨rfl, ?_, lowOn_step hw h2 fun _ => by simp only; omega⟩)))
     show n + b.wide = _;omega
   ·rw [if_neg hs] at hst;rw [if_pos hs];refine .some (.chk (i64_small (by omega)) (.some ⟨rfl, ?_, lowOn_step hw h2 fun h => absurd h hs⟩))
    show n = _;omega
  ·rintro ⟨n, j⟩ hx ⟨h1, h2⟩;simp only at hx h1 h2;subst hx;unfold P_r9_Filled_L1
   show Ok (if _ then _ else _) _;rw [if_neg (by omega)];rw [← hlen, List.take_length] at h1 h2;refine .some (.some (.inl ⟨?_, h2, h1⟩));rw [h1];exact (wideOn_nonneg hB).1
 ·rintro y hy;rw [r9_in_eq, andx_some'];refine .some ?_;refine decide_eq_decide.2 ?_
  rcases hy with ⟨h0, h1, h2⟩ | ⟨h1, h2⟩
  ·subst h2;exact ⟨fun h => ⟨h1, h.2⟩, fun h => ⟨h0, h.2⟩⟩
  ·exact ⟨fun h => by omega, fun h => absurd h.1 h2⟩
def upAt (ls : List Int) (k : Nat) : Prop := ∀ x y, ls[k]? = some x → ls[k + 1]? = some y → x ≤ y
def fitAt (sh : List qH) (l : List qB) (s : Nat) : Prop := ∀ a, sh[s]? = some a → fits l s a
def Arr (sh : List qH) (books : List qB) (ls : List Int) : Prop := (∀ k, upAt ls k) ∧ ∀ s, fitAt sh (withS books ls) s
open Classical in
theorem r9_Arranged_eq (hsh : sh.length ≤ 1000) (hb : Wides books) (hl : books.length ≤ 1000) (hls : ls.length = books.length) : P_r9_Arranged cl sh bs books ls = some (decide (Arr sh books ls)) := by
 unfold P_r9_Arranged
 have key : iter (P_r9_Arranged_L1 ls) 1 = some (scanX (fun i => if upAt ls i then none else some false) (ls.length - 1)) := by
  refine iter_scan (fun k : Nat => (k : Int) + 1) (fun i => if upAt ls i then none else some false) (ls.length - 1) (fun _ => rfl) (fun k hk _ => ?_) (fun _ => ?_)
  ·obtain ⟨x, hx⟩ := get_some (l := ls) (k := k) (by omega);obtain ⟨y, hy⟩ := get_some (l := ls) (k := k + 1) (by omega);unfold P_r9_Arranged_L1
   have e1 : (k : Int) + 1 - 1 = (k : Int) := by omega
   have e2 : (k : Int) + 1 = ((k + 1 : Nat) : Int) := by omega
   rw [if_pos (by omega), e1, e2, el_at hy, chk_pos (i64_small (by omega)), el_at hx, chk_pos (i64_small (by omega))]
   have e : upAt ls k ↔ x ≤ y := ⟨fun h => h x y hx hy, fun h x' y' hx' hy' => by rw [hx] at hx'; rw [hy] at hy'; cases hx'; cases hy'; exact h⟩
   by_cases h : y < x
   ·rw [if_pos h, if_neg (fun k => by have := e.1 k; omega)]; rfl
   ·rw [if_neg h, if_pos (e.2 (by omega))]; rfl
  ·unfold P_r9_Arranged_L1;rw [if_neg (by omega)]
 rw [key, seqx_scan, find_if]
 by_cases h : ∀ j, j < ls.length - 1 → upAt ls j
 ·have hup : ∀ k, upAt ls k := fun k x y hx hy => h k (by have := (List.getElem?_eq_some_iff.1 hy).1; omega) x y hx hy
  rw [if_pos h]
  show seqx _ _ = _;rw [iter_scanI (fun i => if fitAt sh (withS books ls) i then none else some false) sh.length, seqx_scan, find_if]
  ·by_cases g : ∀ j, j < sh.length → fitAt sh (withS books ls) j
   ·rw [if_pos g, decide_eq_true];exact ⟨hup, fun s a ha => g s (List.getElem?_eq_some_iff.1 ha).1 a ha⟩
   ·rw [if_neg g, decide_eq_false];exact fun k => g fun j _ => k.2 j
  ·intro k hk _;obtain ⟨a, ha⟩ := get_some hk;unfold P_r9_Arranged_L2;rw [if_pos (by omega), r9_fit_gen ha hb hl hls, andx_some', chk_pos (i64_small (by omega))]
   have e : fitAt sh (withS books ls) k ↔ fits (withS books ls) k a := ⟨fun h => h a ha, fun h a' ha' => by rw [ha] at ha'; cases ha'; exact h⟩
   by_cases g : fits (withS books ls) k a
   ·rw [decide_eq_true g, if_pos rfl, if_pos (e.2 g)]; rfl
   ·rw [decide_eq_false g, if_neg (by decide), if_neg fun k => g (e.1 k)]; rfl
  ·intro _;unfold P_r9_Arranged_L2;rw [if_neg (by omega)]
 ·rw [if_neg h, decide_eq_false];exact fun k => h fun j _ => k.1 j
def movedN : List qB → List Int → Nat → Int → Int
 | b :: r, s :: ls, i, but => (if ¬ (i : Int) = but ∧ ¬ s = b.shelf then 1 else 0) + movedN r ls (i + 1) but
 | _, _, _, _ => 0
theorem movedN_cons {b : qB} {r : List qB} {s : Int} {ls : List Int} {i : Nat} {but : Int} : movedN (b :: r) (s :: ls) i but = (if ¬ (i : Int) = but ∧ ¬ s = b.shelf then 1 else 0) + movedN r ls (i + 1) but := rfl
theorem movedN_nil {ls : List Int} {i : Nat} {but : Int} : movedN [] ls i but = 0 := rfl
theorem movedN_bound : ∀ (books : List qB) (ls : List Int) (i : Nat) (but : Int), 0 ≤ movedN books ls i but ∧ movedN books ls i but ≤ books.length
 | [], _, _, _ => by simp [movedN]
 | _ :: _, [], _, _ => by simp [movedN]; omega
 | b :: r, s :: ls, i, but => by
  have := movedN_bound r ls (i + 1) but;unfold movedN;simp only [List.length_cons];split <;> omega
theorem r9_Moved_eq {but : Int} (hl : books.length ≤ 1000) (hls : ls.length = books.length) : P_r9_Moved books ls but = some (movedN books ls 0 but) := by
 refine Ok.get ?_;unfold P_r9_Moved;refine Ok.andx (P := fun r => r = movedN books ls 0 but) ?_ (fun r hr => .some hr);refine Ok.count (fun (x : Int × Int) => x.2) books.length (fun k x => x.1 + movedN (books.drop k) (ls.drop k) k but = movedN books ls 0 but ∧ 0 ≤ x.1 ∧ x.1 ≤ k) rfl ⟨by simp, by simp, by simp⟩ ?_ ?_
 ·rintro k ⟨n, i⟩ hk hx ⟨h1, h2, h3⟩;simp only at hx h1 h2 h3;subst hx;obtain ⟨b, hb⟩ := get_some hk;obtain ⟨s, hs⟩ := get_some (l := ls) (k := k) (by omega)
  have hks : k < ls.length := by omega
  have ea : books.drop k = b :: books.drop (k + 1) := by rw [← List.getElem_cons_drop hk]; congr 1; exact Option.some.inj ((List.getElem?_eq_getElem hk).symm.trans hb)
  have eb : ls.drop k = s :: ls.drop (k + 1) := by rw [← List.getElem_cons_drop hks]; congr 1; exact Option.some.inj ((List.getElem?_eq_getElem hks).symm.trans hs)
  rw [ea, eb, movedN_cons] at h1;unfold P_r9_Moved_L1
  show Ok (if _ then _ else _) _;rw [if_pos (by omega)]
  by_cases g1 : (k : Int) = but
  ·rw [if_neg (not_not_intro g1)];rw [if_neg (fun h => h.1 g1)] at h1
   show Ok (andx (some n) _) _;rw [andx_some'];refine .chk (i64_small (by omega)) (.some ⟨rfl, ?_, ?_, ?_⟩)
   ·show n + _ = _; omega
   ·show 0 ≤ n; omega
   ·show n ≤ ((k + 1 : Nat) : Int); omega
  ·rw [if_pos g1, el_at hs, el_at hb, andx_some']
   by_cases g2 : s = b.shelf
   ·rw [if_neg (fun h => h.2 g2)] at h1;rw [decide_eq_false (not_not_intro g2), if_neg (by decide), andx_some'];refine .chk (i64_small (by omega)) (.some ⟨rfl, ?_, ?_, ?_⟩)
    ·show n + _ = _; omega
    ·show 0 ≤ n; omega
    ·show n ≤ ((k + 1 : Nat) : Int); omega
   ·rw [if_pos ⟨g1, g2⟩] at h1;rw [decide_eq_true g2, if_pos rfl, chk_pos (i64_small (by omega)), andx_some'];refine .chk (i64_small (by omega)) (.some ⟨rfl, ?_, ?_, ?_⟩)
    ·show n + 1 + _ = _; omega
    ·show 0 ≤ n + 1; omega
    ·show n + 1 ≤ ((k + 1 : Nat) : Int); omega
 ·rintro ⟨n, i⟩ hx ⟨h1, h2, h3⟩;simp only at hx h1 h2 h3;subst hx;unfold P_r9_Moved_L1
  show Ok (if _ then _ else _) _;rw [if_neg (by omega)];rw [List.drop_of_length_le (Nat.le_refl _), movedN_nil] at h1;refine .some ?_
  show n = _;omega
end
end Go.Am
end
section
namespace Go.Am
set_option linter.unusedVariables false
set_option linter.unusedSimpArgs false
abbrev Way := Int × List Int
def pick (z : Way) (f : Nat → Option Way) : Nat → Way
 | 0 => z
 | n + 1 => match f n with
  | some c => if c.1 < (pick z f n).1 then c else pick z f n
  | none => pick z f n
theorem pick_le {z : Way} {f : Nat → Option Way} : ∀ {N n : Nat} {c : Way}, n < N → f n = some c → (pick z f N).1 ≤ c.1
 | N + 1, n, c, hn, hc => by
  unfold pick
  by_cases e : n = N
  ·subst e;rw [hc];simp only;split <;> omega
  ·have ih := pick_le (z := z) (show n < N by omega) hc;cases hf : f N with
   | none => exact ih
   | some d =>
    simp only;split <;> omega
theorem pick_top {z : Way} {f : Nat → Option Way} : ∀ (N : Nat), (pick z f N).1 ≤ z.1
 | 0 => Int.le_refl _
 | N + 1 => by
  have ih := pick_top (z := z) (f := f) N;unfold pick;cases hf : f N with
  | none => exact ih
  | some d =>
   simp only;split <;> omega
theorem pick_cases {z : Way} {f : Nat → Option Way} : ∀ (N : Nat), pick z f N = z ∨ ((pick z f N).1 < z.1 ∧ ∃ n, n < N ∧ f n = some (pick z f N) ∧ ∀ k, k < n → ∀ c, f k = some c → (pick z f N).1 < c.1)
 | 0 => .inl rfl
 | N + 1 => by
  have ih := pick_cases (z := z) (f := f) N
  have top := pick_top (z := z) (f := f) N;unfold pick;cases hf : f N with
  | none =>
   rcases ih with h | ⟨h0, n, h1, h2, h3⟩
   ·exact .inl h
   ·exact .inr ⟨h0, n, by omega, h2, h3⟩
  | some d =>
   simp only
   by_cases hd : d.1 < (pick z f N).1
   ·rw [if_pos hd];refine .inr ⟨by omega, N, by omega, hf, fun k hk c hc => ?_⟩
    have := pick_le (z := z) hk hc;omega
   ·rw [if_neg hd]
    rcases ih with h | ⟨h0, n, h1, h2, h3⟩
    ·exact .inl h
    ·exact .inr ⟨h0, n, by omega, h2, h3⟩
section
variable (sh : List qH) (mv : Int → Int → Int)
def capAt (a : qH) (n shelf : Nat) (left : Int) : Int := if n = shelf then left else a.wide
def canAt (b : qB) (i shelf : Nat) (left : Int) (n : Nat) (a : qH) : Prop := shelf ≤ n ∧ b.wide ≤ capAt a n shelf left ∧ b.high ≤ a.high ∧ mv i n ≠ 1000
instance (b : qB) (i shelf : Nat) (left : Int) (n : Nat) (a : qH) : Decidable (canAt mv b i shelf left n a) := inferInstanceAs (Decidable (_ ∧ _))
def feas : List qB → Nat → Nat → Int → List Nat → Prop
 | [], _, _, _, [] => True
 | b :: r, i, shelf, left, n :: ls => ∃ a, sh[n]? = some a ∧ canAt mv b i shelf left n a ∧ feas r (i + 1) n (capAt a n shelf left - b.wide) ls
 | _, _, _, _, _ => False
def cost : Nat → List Nat → Int
 | _, [] => 0
 | i, n :: ls => mv i n + cost (i + 1) ls
def candW (b : qB) (i shelf : Nat) (left : Int) (rec : Nat → Int → Way) (n : Nat) : Option Way :=
 match sh[n]? with
 | some a => if canAt mv b i shelf left n a then
   (if (rec n (capAt a n shelf left - b.wide)).1 < 1000 then some (mv i n + (rec n (capAt a n shelf left - b.wide)).1, (n : Int) :: (rec n (capAt a n shelf left - b.wide)).2) else none) else none
 | none => none
def bestW : List qB → Nat → Nat → Int → Way
 | [], _, _, _ => (0, [])
 | b :: r, i, shelf, left => pick (1000, List.replicate (r.length + 1) 0) (candW sh mv b i shelf left fun n l => bestW r (i + 1) n l) sh.length
end
section
variable {sh : List qH} {mv : Int → Int → Int}
def intsOf (ls : List Nat) : List Int := ls.map fun n : Nat => (n : Int)
theorem feas_nil {i shelf : Nat} {left : Int} {ls : List Nat} (h : feas sh mv [] i shelf left ls) : ls = [] := by
 cases ls with
 | nil => rfl
 | cons n ls => exact h.elim
theorem feas_cons {b : qB} {r : List qB} {i shelf : Nat} {left : Int} {ls : List Nat} (h : feas sh mv (b :: r) i shelf left ls) : ∃ n l a, ls = n :: l ∧ sh[n]? = some a ∧ canAt mv b i shelf left n a ∧ feas sh mv r (i + 1) n (capAt a n shelf left - b.wide) l := by
 cases ls with
 | nil => exact h.elim
 | cons n l =>
  obtain ⟨a, h1, h2, h3⟩ := h;exact ⟨n, l, a, rfl, h1, h2, h3⟩
structure Best (sh : List qH) (mv : Int → Int → Int) (bs : List qB) (i shelf : Nat) (left : Int) (w : Way) : Prop where
 low : 0 ≤ w.1
 found : w.1 < 1000 → ∃ ls, w.2 = intsOf ls ∧ feas sh mv bs i shelf left ls ∧ cost mv i ls = w.1
 none : ¬ w.1 < 1000 → w = (1000, List.replicate bs.length 0)
 least : ∀ ls, feas sh mv bs i shelf left ls → cost mv i ls < 1000 → w.1 ≤ cost mv i ls ∧ (cost mv i ls = w.1 → lexB (intsOf ls) w.2 = false)
theorem bestW_spec (hmv : ∀ i n, 0 ≤ mv i n) : ∀ (bs : List qB) (i shelf : Nat) (left : Int), Best sh mv bs i shelf left (bestW sh mv bs i shelf left)
 | [], i, shelf, left => by
  refine ⟨Int.le_refl _, fun _ => ⟨[], rfl, trivial, rfl⟩, fun h => absurd (show (0 : Int) < 1000 by decide) h, fun ls h _ => ?_⟩
  have := feas_nil h;subst this;exact ⟨Int.le_refl _, fun _ => rfl⟩
 | b :: r, i, shelf, left => by
  have ih := bestW_spec hmv r (i + 1)
  show Best sh mv (b :: r) i shelf left (pick (1000, List.replicate (r.length + 1) 0) (candW sh mv b i shelf left fun n l => bestW sh mv r (i + 1) n l) sh.length);generalize hf : (candW sh mv b i shelf left fun n l => bestW sh mv r (i + 1) n l) = f
  have fOf : ∀ n a, sh[n]? = some a → canAt mv b i shelf left n a → (bestW sh mv r (i + 1) n (capAt a n shelf left - b.wide)).1 < 1000 →
    f n = some (mv i n + (bestW sh mv r (i + 1) n (capAt a n shelf left - b.wide)).1, (n : Int) :: (bestW sh mv r (i + 1) n (capAt a n shelf left - b.wide)).2) := by
   intro n a ha hc hl;rw [← hf];unfold candW;simp only [ha, if_pos hc, if_pos hl]
  have fInv : ∀ n c, f n = some c → ∃ a, sh[n]? = some a ∧ canAt mv b i shelf left n a ∧ (bestW sh mv r (i + 1) n (capAt a n shelf left - b.wide)).1 < 1000 ∧
    c = (mv i n + (bestW sh mv r (i + 1) n (capAt a n shelf left - b.wide)).1, (n : Int) :: (bestW sh mv r (i + 1) n (capAt a n shelf left - b.wide)).2) := by
   intro n c hc;rw [← hf] at hc;unfold candW at hc;simp only at hc;cases ha : sh[n]? with
   | none => rw [ha] at hc; cases hc
   | some a =>
    rw [ha] at hc;simp only at hc
    by_cases h1 : canAt mv b i shelf left n a
    ·rw [if_pos h1] at hc
     by_cases h2 : (bestW sh mv r (i + 1) n (capAt a n shelf left - b.wide)).1 < 1000
     ·rw [if_pos h2] at hc;cases hc;exact ⟨a, rfl, h1, h2, rfl⟩
     ·rw [if_neg h2] at hc; cases hc
    ·rw [if_neg h1] at hc; cases hc
  have key : ∀ ls, feas sh mv (b :: r) i shelf left ls → cost mv i ls < 1000 → ∃ n l c, ls = n :: l ∧ n < sh.length ∧ f n = some c ∧ c.1 ≤ cost mv i ls ∧ (cost mv i ls = c.1 → lexB (intsOf ls) c.2 = false) ∧ ∃ x, c.2 = (n : Int) :: x := by
   intro ls hfe hc;obtain ⟨n, l, a, rfl, ha, hcan, hrest⟩ := feas_cons hfe
   have h0 := hmv i n
   have hcl : cost mv (i + 1) l < 1000 := by unfold cost at hc; omega
   obtain ⟨h1, h2⟩ := (ih n (capAt a n shelf left - b.wide)).least l hrest hcl;refine ⟨n, l, _, rfl, (List.getElem?_eq_some_iff.1 ha).1, fOf n a ha hcan (by omega), ?_, fun he => ?_, _, rfl⟩
   ·show mv i n + _ ≤ mv i n + _;omega
   ·have he' : mv i n + cost mv (i + 1) l = mv i n + (bestW sh mv r (i + 1) n (capAt a n shelf left - b.wide)).1 := he
    show lexB ((n : Int) :: intsOf l) ((n : Int) :: _) = false;rw [lexB, if_pos rfl];exact h2 (by omega)
  rcases pick_cases (z := (1000, List.replicate (r.length + 1) 0)) (f := f) sh.length with h | ⟨h0, n0, hn0, hfn, hmin⟩
  ·rw [h];refine ⟨show (0 : Int) ≤ 1000 by decide, fun hh => absurd hh (show ¬ (1000 : Int) < 1000 by decide), fun _ => rfl, fun ls hfe hc => ?_⟩;obtain ⟨n, l, c, _, hn, hfn, hle, _⟩ := key ls hfe hc
   have := pick_le (z := (1000, List.replicate (r.length + 1) 0)) hn hfn;rw [h] at this;simp only at this;omega
  ·obtain ⟨a, ha, hcan, hlt, hw⟩ := fInv n0 _ hfn;obtain ⟨ls0, e1, e2, e3⟩ := (ih n0 (capAt a n0 shelf left - b.wide)).found hlt
   have hlow := (ih n0 (capAt a n0 shelf left - b.wide)).low
   have hm0 := hmv i n0
   have hw1 := congrArg Prod.fst hw
   have hw2 := congrArg Prod.snd hw;simp only at hw1 hw2 h0;refine ⟨by omega, fun _ => ⟨n0 :: ls0, by rw [hw2, e1]; rfl, ⟨a, ha, hcan, e2⟩, by rw [hw1, ← e3]; rfl⟩, fun hh => absurd h0 hh, fun ls hfe hc => ?_⟩;obtain ⟨n, l, c, rfl, hn, hfn', hle, hlex, x, hx⟩ := key ls hfe hc
   have hp := pick_le (z := (1000, List.replicate (r.length + 1) 0)) hn hfn';refine ⟨by omega, fun he => ?_⟩
   by_cases hlt' : n < n0
   ·have := hmin n hlt' c hfn';omega
   ·by_cases heq : n = n0
    ·subst heq;rw [hfn] at hfn';cases hfn';exact hlex he
    ·rw [hw2]
     show lexB ((n : Int) :: intsOf l) ((n0 : Int) :: _) = false;rw [lexB, if_neg (by omega)];exact decide_eq_false (by omega)
end
end Go.Am
end
section
namespace Go.Am
set_option linter.unusedVariables false
set_option linter.unusedSimpArgs false
section
variable {sh : List qH} {mv : Int → Int → Int}
theorem withS_cons {b : qB} {r : List qB} {s : Int} {ls : List Int} : withS (b :: r) (s :: ls) = { b with shelf := s } :: withS r ls := rfl
theorem wideOn_cons {i : Int} {b : qB} {r : List qB} : wideOn i (b :: r) = (if b.shelf = i then b.wide else 0) + wideOn i r := rfl
theorem withS_shelf {r : List qB} {l : List Nat} {b : qB} (h : b ∈ withS r (intsOf l)) : ∃ n ∈ l, b.shelf = (n : Int) := by
 obtain ⟨k, hk⟩ := List.getElem?_of_mem h;unfold withS at hk;rw [List.getElem?_zipWith] at hk;cases hx : r[k]? with
 | none => rw [hx] at hk; cases hk
 | some x =>
  cases hy : (intsOf l)[k]? with
  | none => rw [hx, hy] at hk; cases hk
  | some y =>
   rw [hx, hy] at hk;cases hk;unfold intsOf at hy;rw [List.getElem?_map] at hy;cases hz : l[k]? with
   | none => rw [hz] at hy; cases hy
   | some n =>
    rw [hz] at hy;cases hy;exact ⟨n, List.mem_of_getElem? hz, rfl⟩
theorem wideOn_none {i : Int} : ∀ {l : List qB}, (∀ b ∈ l, b.shelf ≠ i) → wideOn i l = 0
 | [], _ => rfl
 | b :: r, h => by
  rw [wideOn_cons, if_neg (h b (by simp)), wideOn_none fun c hc => h c (by simp [hc])]; rfl
structure Stand (sh : List qH) (mv : Int → Int → Int) (bs : List qB) (i shelf : Nat) (left : Int) (ls : List Nat) : Prop where
 len : ls.length = bs.length
 from_ : ∀ n ∈ ls, shelf ≤ n ∧ n < sh.length
 up : ls.Pairwise (· ≤ ·)
 room : ∀ (n : Nat) (a : qH), sh[n]? = some a → shelf ≤ n → wideOn n (withS bs (intsOf ls)) ≤ capAt a n shelf left ∧ lowOn n a.high (withS bs (intsOf ls))
 may : ∀ (j n : Nat), ls[j]? = some n → mv ((i + j : Nat) : Int) n ≠ 1000
theorem feas_stand (hsh : ∀ (n : Nat) (a : qH), sh[n]? = some a → 0 ≤ a.wide) : ∀ (bs : List qB) (i shelf : Nat) (left : Int) (ls : List Nat), Wides bs → 0 ≤ left → (feas sh mv bs i shelf left ls ↔ Stand sh mv bs i shelf left ls)
 | [], i, shelf, left, ls, hw, hl => by
  refine ⟨fun h => ?_, fun h => ?_⟩
  ·have := feas_nil h;subst this;refine ⟨rfl, fun n hn => by simp at hn, .nil, fun n a ha hn => ⟨?_, fun b hb => by simp [withS, intsOf] at hb⟩, fun j n hn => by simp at hn⟩
   show (0 : Int) ≤ capAt a n shelf left
   have := hsh n a ha;unfold capAt;split <;> omega
  ·have := h.len;rw [List.eq_nil_of_length_eq_zero this]
   trivial
 | b :: r, i, shelf, left, ls, hw, hl => by
  have hwr : Wides r := fun c hc => hw c (by simp [hc])
  have hwb := hw b (by simp);refine ⟨fun h => ?_, fun h => ?_⟩
  ·obtain ⟨n, l, a, rfl, ha, hcan, hrest⟩ := feas_cons h;obtain ⟨c1, c2, c3, c4⟩ := hcan
   have st := (feas_stand hsh r (i + 1) n (capAt a n shelf left - b.wide) l hwr (by omega)).1 hrest
   have hn : n < sh.length := (List.getElem?_eq_some_iff.1 ha).1;refine ⟨by simp [st.len], fun m hm => ?_, List.pairwise_cons.2 ⟨fun m hm => (st.from_ m hm).1, st.up⟩, fun m a' ha' hm => ?_, fun j m hj => ?_⟩
   ·rcases List.mem_cons.1 hm with rfl | hm
    ·exact ⟨c1, hn⟩
    ·have := st.from_ m hm; omega
   ·show wideOn m (withS (b :: r) ((n : Int) :: intsOf l)) ≤ _ ∧ lowOn m a'.high (withS (b :: r) ((n : Int) :: intsOf l));rw [withS_cons, wideOn_cons];simp only
    by_cases e1 : m < n
    ·have hno : ∀ c ∈ withS r (intsOf l), c.shelf ≠ (m : Int) := fun c hc => by
      obtain ⟨k, hk, he⟩ := withS_shelf hc
      have := (st.from_ k hk).1;omega
     rw [if_neg (by omega), wideOn_none hno];refine ⟨?_, fun c hc hs => ?_⟩
     ·have := hsh m a' ha';unfold capAt;split <;> omega
     ·rcases List.mem_cons.1 hc with rfl | hc
      ·simp only at hs; omega
      ·exact absurd hs (hno c hc)
    ·obtain ⟨r1, r2⟩ := st.room m a' ha' (by omega)
     by_cases e2 : n = m
     ·subst e2;rw [ha] at ha';cases ha';rw [if_pos rfl]
      have : capAt a n n (capAt a n shelf left - b.wide) = capAt a n shelf left - b.wide := by unfold capAt; rw [if_pos rfl]
      rw [this] at r1;refine ⟨by omega, fun c hc hs => ?_⟩
      rcases List.mem_cons.1 hc with rfl | hc
      ·exact c3
      ·exact r2 c hc hs
     ·rw [if_neg (by omega)]
      have e3 : capAt a' m n (capAt a n shelf left - b.wide) = a'.wide := by unfold capAt; rw [if_neg (by omega)]
      have e4 : capAt a' m shelf left = a'.wide := by unfold capAt; rw [if_neg (by omega)]
      rw [e3] at r1;rw [e4];refine ⟨by omega, fun c hc hs => ?_⟩
      rcases List.mem_cons.1 hc with rfl | hc
      ·simp only at hs; omega
      ·exact r2 c hc hs
   ·cases j with
    | zero =>
     simp at hj;subst hj;exact c4
    | succ j =>
     have := st.may j m (by simpa using hj);rw [show i + (j + 1) = i + 1 + j by omega];exact this
  ·cases ls with
   | nil => have := h.len; simp at this
   | cons n l =>
    obtain ⟨f1, f2⟩ := h.from_ n (by simp);obtain ⟨a, ha⟩ := get_some f2;obtain ⟨u1, u2⟩ := List.pairwise_cons.1 h.up;obtain ⟨r1, r2⟩ := h.room n a ha f1
    change wideOn n (withS (b :: r) ((n : Int) :: intsOf l)) ≤ _ at r1
    rw [withS_cons, wideOn_cons, if_pos rfl] at r1;simp only at r1
    have hnn := (wideOn_nonneg (i := n) (withS_wides (ls := intsOf l) hwr)).1
    have c2 : b.wide ≤ capAt a n shelf left := by omega
    refine ⟨a, ha, ⟨f1, c2, r2 { b with shelf := (n : Int) } (by show _ ∈ withS (b :: r) ((n : Int) :: intsOf l); rw [withS_cons]; simp) rfl, ?_⟩, ?_⟩
    ·have := h.may 0 n rfl
     simpa using this
    ·refine (feas_stand hsh r (i + 1) n (capAt a n shelf left - b.wide) l hwr (by omega)).2 ⟨by have := h.len; simpa using this, fun m hm => ⟨u1 m hm, (h.from_ m (by simp [hm])).2⟩, u2, fun m a' ha' hm => ?_, fun j m hj => ?_⟩
     ·obtain ⟨q1, q2⟩ := h.room m a' ha' (by omega)
      change wideOn m (withS (b :: r) ((n : Int) :: intsOf l)) ≤ _ at q1
      rw [withS_cons, wideOn_cons] at q1;simp only at q1;refine ⟨?_, fun c hc hs => q2 c (by show c ∈ withS (b :: r) ((n : Int) :: intsOf l); rw [withS_cons]; simp [hc]) hs⟩
      by_cases e : m = n
      ·subst e;rw [ha] at ha';cases ha';rw [if_pos rfl] at q1;unfold capAt at q1 ⊢;rw [if_pos rfl];omega
      ·rw [if_neg (by omega)] at q1
       have e4 : capAt a' m shelf left = a'.wide := by unfold capAt; rw [if_neg (by omega)]
       rw [e4] at q1;unfold capAt;rw [if_neg e];omega
     ·have := h.may (j + 1) m (by simpa using hj);rw [show i + (j + 1) = i + 1 + j by omega] at this;exact this
end
end Go.Am
end
section
namespace Go.Am
set_option linter.unusedVariables false
set_option linter.unusedSimpArgs false
theorem up_iff : ∀ ls : List Nat, (∀ k, upAt (intsOf ls) k) ↔ ls.Pairwise (· ≤ ·)
 | [] => ⟨fun _ => .nil, fun _ k x y hx => by simp [intsOf] at hx⟩
 | [n] => ⟨fun _ => by simp, fun _ k x y hx hy => by simp [intsOf] at hy⟩
 | n :: m :: r => by
  have ih := up_iff (m :: r);refine ⟨fun h => ?_, fun h => ?_⟩
  ·have h1 : n ≤ m := by
    have := h 0 n m rfl rfl;omega
   have h2 := ih.1 fun k x y hx hy => h (k + 1) x y hx hy
   refine List.pairwise_cons.2 ⟨fun q hq => ?_, h2⟩
   rcases List.mem_cons.1 hq with rfl | hq
   ·exact h1
   ·have := (List.pairwise_cons.1 h2).1 q hq;omega
  ·obtain ⟨h1, h2⟩ := List.pairwise_cons.1 h;intro k x y hx hy;cases k with
   | zero =>
    have e1 : (n : Int) = x := Option.some.inj hx
    have e2 : (m : Int) = y := Option.some.inj hy
    have := h1 m (by simp);omega
   | succ k => exact ih.2 h2 k x y hx hy
theorem intsOf_len (ls : List Nat) : (intsOf ls).length = ls.length := by simp [intsOf]
section
variable {sh : List qH} {mv : Int → Int → Int} {books : List qB} {a0 : qH}
def ownMv (books : List qB) (but : Int) (i n : Int) : Int := if i = but then 0 else match books[i.toNat]? with | some b => if b.shelf = n then 0 else 1 | none => 0
theorem ownMv_rng (but i n : Int) : 0 ≤ ownMv books but i n ∧ ownMv books but i n ≤ 1 := by
 unfold ownMv;split
 ·omega
 ·split
  ·split <;> omega
  ·omega
theorem cost_moved {but : Int} : ∀ (k : Nat) (ls : List Nat), ls.length + k = books.length → cost (ownMv books but) k ls = movedN (books.drop k) (intsOf ls) k but
 | k, [], h => by
  have : books.drop k = [] := List.drop_of_length_le (by simp at h; omega);rw [this];rfl
 | k, n :: ls, h => by
  simp only [List.length_cons] at h
  have ih := cost_moved (but := but) (k + 1) ls (by omega)
  have hk : k < books.length := by omega
  obtain ⟨b, hb⟩ := get_some hk
  have ea : books.drop k = b :: books.drop (k + 1) := by rw [← List.getElem_cons_drop hk]; congr 1; exact Option.some.inj ((List.getElem?_eq_getElem hk).symm.trans hb)
  rw [ea]
  show ownMv books but k n + cost (ownMv books but) (k + 1) ls = movedN (b :: books.drop (k + 1)) ((n : Int) :: intsOf ls) k but;rw [movedN_cons, ih]
  congr 1
  unfold ownMv;simp only [Int.toNat_natCast, hb]
  by_cases e : (k : Int) = but
  ·rw [if_pos e, if_neg fun h => h.1 e]
  ·rw [if_neg e]
   by_cases e2 : b.shelf = (n : Int)
   ·rw [if_pos e2, if_neg fun h => h.2 e2.symm]
   ·rw [if_neg e2, if_pos ⟨e, fun h => e2 h.symm⟩]
end
end Go.Am
end
section
namespace Go.Am
open Go.RowKit
set_option linter.unusedVariables false
set_option linter.unusedSimpArgs false
abbrev vecC (l : List Int) : List AV := l.map fun x => iv x
section
variable {E : Env} {d : Bool} {n : Nat} {rnd : Option Nat} {ops : Array Oper} {i : Nat} {ns : List Nat} {ms : List Dfr} {σ : Sl} {hs hs' : List Thing} {Q : Sy → Prop} {t : Tmp} {op : Op} {ty : TypeId} {pos : String} {af : Array Edge} {g : Option (Nat × Bool)}
theorem Val.nil_eqS {xt ty' e : TypeId} {x y : Operand} {id off ver len cap : Nat} {ex : Bool} (ht : E.und xt = some (.slice e)) (hx : evs σ x = some (.slice id off ver ex len cap)) (hy : evs σ y = some nilS) : Val E σ hs (.binOp .eql xt x y ty') (bv false) := fun ev S he _ o ho => by
 unfold aop; rw [ho];simp only [he _ _ hx, he _ _ hy, abin, abinPure, toV, Except.bind, ht, nilEq];rfl
theorem Val.slice_arr {st e p id off k m : Nat} {x y : Operand} {cells : List AV} {h : Int} (hp : hs[p]? = some (.row id 1 cells)) (hk : cells.length = k) (ht : E.und st = some (.array m e)) (hsz : E.siz e = some 1) (hm : Nat.beq m 0 = false) (hoff : Nat.ble (off + m * 1) k = true)
  (hx : evs σ x = some (.ptr id off k)) (hy : evs σ y = some (iv h)) (hh : 0 ≤ h ∧ h ≤ m) : Val E σ hs (.slice st x none (some y) none) (.slice id off k true h.toNat m) := fun ev S he hS o ho => by
 subst hk;obtain ⟨fl, hfl, hg⟩ := hS.row hp
 have er : rowOf S id = .ok (cells, 1, fl) := by unfold rowOf; rw [hg]
 have e1 : decide (0 ≤ h) = true := decide_eq_true hh.1
 have e2 : decide (h ≤ (m : Int)) = true := decide_eq_true hh.2
 have e3 : Nat.ble cells.length cells.length = true := Nat.ble_eq_true_of_le (Nat.le_refl _)
 have e4 : Nat.ble fl cells.length = true := Nat.ble_eq_true_of_le hfl
 have e5 : Nat.beq 1 1 = true := rfl;unfold aop; rw [ho];simp only [he _ _ hx, Option.map_some, Option.map_none, he _ _ hy, aslice, ht, ofOpt, Except.bind, boundsOf, boundOf, intOf?, e1, e2, Bool.and_self, cond_true, hsz, er, hoff, e3, e4, e5, hm, cond_false, Nat.zero_mul, Nat.add_zero, Nat.sub_zero, valOf];rfl
theorem src_row {S : St} (hS : HasS S hs) {p id off k m cap : Nat} {cells : List AV} {l : List Int} (hp : hs[p]? = some (.row id 1 cells)) (hk : cells.length = k) (hl : (cells.drop off).take m = vecC l) (hm : off + m ≤ k) : Src S (.slice id off k true m cap) 1 m (vecC l) := by
 subst hk
 have hlen : (vecC l).length = m := by rw [← hl, List.length_take, List.length_drop]; omega
 refine ⟨rfl, fun _ => ?_, by rw [hlen, Nat.mul_one], by simp [vecC]⟩;obtain ⟨_, hld⟩ := hS.loadAll (hS.row hp);simp only [firstN];rw [hld off (m * 1) (by omega), Nat.mul_one, hl]
theorem Eff.append_row {st e b p q id off k m cap : Nat} {z : Bool} {v : AV} {l l2 : List Int} {cells : List AV} {ts : Array TypeId} {x y : Operand} (ht : AppT E st e 1 b) (hts : ts[0]? = some st) (hni : notInt E ts[1]? = .ok ()) (hp : hs[p]? = some (ownL z v encI l)) (hq : hs[q]? = some (.row id 1 cells)) (hk : cells.length = k)
  (hl : (cells.drop off).take m = vecC l2) (hm : off + m ≤ k) (hx : evs σ x = some v) (hy : evs σ y = some (.slice id off k true m cap)) (hb : b ≤ 128) (hbig : l.length + l2.length < 1000000000) :
  Eff E σ hs (.call { callee := .builtin .append, args := #[x, y], argTypes := ts }) fun v' hs' => hs' = hs.set p (ownL z v' encI (l ++ l2)) := by
 refine Eff.append (en := encI) ht hts hni hp hx hy (fun S hS => ?_) hb hbig
 have h := src_row hS hq hk hl hm (cap := cap)
 have hlen : l2.length = m := by
  have := congrArg List.length hl;simp only [List.length_take, List.length_drop, vecC, List.length_map] at this;omega
 rw [hlen, flat_ints];exact h
end
end Go.Am
end
section
namespace Go.Am
set_option linter.unusedVariables false
set_option linter.unusedSimpArgs false
def arrW (book : Nat) (w : Way) : List Int := if w.1 < 1000 then List.replicate book 0 ++ (w.2 ++ List.replicate (11 - book - w.2.length) 0) else List.replicate 11 0
theorem arrW_len' {book : Nat} {w : Way} (h : w.1 < 1000 → book + w.2.length ≤ 11) : (arrW book w).length = 11 := by
 unfold arrW
 by_cases hw : w.1 < 1000
 ·rw [if_pos hw]
  have := h hw;simp only [List.length_append, List.length_replicate];omega
 ·rw [if_neg hw]; simp
theorem feas_len {sh : List qH} {mv : Int → Int → Int} : ∀ (bs : List qB) (i shelf : Nat) (left : Int) (ls : List Nat), feas sh mv bs i shelf left ls → ls.length = bs.length
 | [], i, shelf, left, ls, h => by rw [feas_nil h]; rfl
 | b :: r, i, shelf, left, ls, h => by
  obtain ⟨n, l, a, rfl, _, _, h3⟩ := feas_cons h
  have := feas_len r _ _ _ _ h3;simp [this]
theorem bestW_len {sh : List qH} {mv : Int → Int → Int} (hmv : ∀ i n, 0 ≤ mv i n) (bs : List qB) (i shelf : Nat) (left : Int) (h : (bestW sh mv bs i shelf left).1 < 1000) : (bestW sh mv bs i shelf left).2.length = bs.length := by
 obtain ⟨ls, h1, h2, _⟩ := (bestW_spec hmv bs i shelf left).found h;rw [h1, intsOf_len, feas_len _ _ _ _ _ h2]
def mvOf (F : Int → Int → Option Int) (i n : Int) : Int := match F i n with | some v => if 0 ≤ v ∧ v ≤ 1000 then v else 0 | none => 0
theorem mvOf_rng (F : Int → Int → Option Int) (i n : Int) : 0 ≤ mvOf F i n ∧ mvOf F i n ≤ 1000 := by
 unfold mvOf;split
 ·split <;> omega
 ·omega
theorem mvOf_of {F : Int → Int → Option Int} {i n v : Int} (h : F i n = some v) (hv : 0 ≤ v ∧ v ≤ 1000) : mvOf F i n = v := by
 unfold mvOf;rw [h];exact if_pos hv
def ArrOk (sh : List qH) (books : List qB) (F : Int → Int → Option Int) : Prop :=
 (books.length ≤ 11 ∧ sh.length ≤ 1000) ∧ (∀ b ∈ books, 0 ≤ b.wide ∧ b.wide ≤ 1000000) ∧ (∀ a ∈ sh, 0 ≤ a.wide ∧ a.wide ≤ 1000000) ∧ ∀ (i n : Nat), i < books.length → n < sh.length → F i n = some (mvOf F i n)
def wayOf (sh : List qH) (books : List qB) (F : Int → Int → Option Int) (a0 : qH) : Way := bestW sh (mvOf F) books 0 0 a0.wide
noncomputable def P_s9_arrange (sh : List qH) (books : List qB) (F : Int → Int → Option Int) : Option (Int × List Int) :=
 el sh 0 fun a0 => chk (ArrOk sh books F) (some ((wayOf sh books F a0).1, arrW 0 (wayOf sh books F a0)))
theorem arrange_some {sh : List qH} {books : List qB} {F : Int → Int → Option Int} {r : Int × List Int} (h : P_s9_arrange sh books F = some r) : ∃ a0, sh[0]? = some a0 ∧ ArrOk sh books F ∧ r = ((wayOf sh books F a0).1, arrW 0 (wayOf sh books F a0)) ∧ r.2.length = 11 := by
 obtain ⟨a0, h1, h2, h3⟩ := el_some h;obtain ⟨h4, h5⟩ := chk_some h3;cases h5;refine ⟨a0, h2, h4, rfl, arrW_len' fun h => ?_⟩
 have := bestW_len (fun i n => (mvOf_rng F i n).1) books 0 0 a0.wide h;unfold wayOf
 have := h4.1.1;omega
theorem arrange_len {sh : List qH} {books : List qB} {F : Int → Int → Option Int} {m : Int} {l : List Int} (h : P_s9_arrange sh books F = some (m, l)) : l.length = 11 := let ⟨_, _, _, _, h⟩ := arrange_some h; h
end Go.Am
end
section
namespace Go.Am
open Go.RowKit
set_option linter.unusedVariables false
variable {E : Env}
def insertC (cf : Int → Int → Int) (a : Int) : List Int → List Int
 | [] => [a]
 | b :: r => if cf a b ≤ 0 then a :: b :: r else b :: insertC cf a r
def sortC (cf : Int → Int → Int) : List Int → List Int
 | [] => []
 | a :: r => insertC cf a (sortC cf r)
theorem insertC_perm (cf : Int → Int → Int) (a : Int) : ∀ l : List Int, (insertC cf a l).Perm (a :: l)
 | [] => .refl _
 | b :: r => by
  unfold insertC;split
  ·exact .refl _
  ·exact ((insertC_perm cf a r).cons b).trans (.swap a b r)
theorem sortC_perm (cf : Int → Int → Int) : ∀ l : List Int, (sortC cf l).Perm l
 | [] => .refl _
 | a :: r => (insertC_perm cf a _).trans ((sortC_perm cf r).cons a)
theorem insertC_sorted {cf : Int → Int → Int} {a : Int} : ∀ {l : List Int}, (∀ x ∈ l, cf a x ≠ 0 ∧ (¬ cf a x < 0 → cf x a < 0)) → (∀ x ∈ l, ∀ y ∈ l, cf a x < 0 → cf x y < 0 → cf a y < 0) → l.Pairwise (fun x y => cf x y < 0) → (insertC cf a l).Pairwise (fun x y => cf x y < 0)
 | [], _, _, _ => by simp [insertC]
 | b :: r, h1, h2, h3 => by
  obtain ⟨g1, g2⟩ := List.pairwise_cons.1 h3
  have hb := h1 b (by simp);unfold insertC
  by_cases hc : cf a b ≤ 0
  ·rw [if_pos hc];refine List.pairwise_cons.2 ⟨fun x hx => ?_, h3⟩
   rcases List.mem_cons.1 hx with rfl | hx
   ·omega
   ·exact h2 b (by simp) x (by simp [hx]) (by omega) (g1 x hx)
  ·rw [if_neg hc];refine List.pairwise_cons.2 ⟨fun x hx => ?_, insertC_sorted (fun x hx => h1 x (by simp [hx])) (fun x hx y hy => h2 x (by simp [hx]) y (by simp [hy])) g2⟩
   rcases List.mem_cons.1 ((insertC_perm cf a r).mem_iff.1 hx) with rfl | hx
   ·exact hb.2 (by omega)
   ·exact g1 x hx
theorem sortC_sorted {cf : Int → Int → Int} : ∀ {l : List Int}, l.Pairwise (fun x y => cf x y ≠ 0 ∧ (¬ cf x y < 0 → cf y x < 0)) → (∀ x ∈ l, ∀ y ∈ l, ∀ z ∈ l, cf x y < 0 → cf y z < 0 → cf x z < 0) → (sortC cf l).Pairwise (fun x y => cf x y < 0)
 | [], _, _ => .nil
 | a :: r, h1, h2 => by
  obtain ⟨g1, g2⟩ := List.pairwise_cons.1 h1
  have hm : ∀ {x : Int}, x ∈ sortC cf r → x ∈ r := fun hx => (sortC_perm cf r).mem_iff.1 hx
  exact insertC_sorted (fun x hx => g1 x (hm hx)) (fun x hx y hy => h2 a (by simp) x (by simp [hm hx]) y (by simp [hm hy])) (sortC_sorted g2 fun x hx y hy z hz => h2 x (by simp [hx]) y (by simp [hy]) z (by simp [hz]))
def SortOkC (f : Int → Int → Option Int) (cf : Int → Int → Int) (N : Int) (l : List Int) : Prop :=
 l.length < 1000000000 ∧ (∀ x ∈ l, 0 ≤ x ∧ x < N) ∧ Ord N cf ∧ (sortC cf l).Pairwise (fun x y => cf x y < 0) ∧ ∀ x y, 0 ≤ x → x < N → 0 ≤ y → y < N → f x y = some (cf x y)
def cfOf (F : Int → Int → Option Int) (x y : Int) : Int := match F x y with | some v => v | none => 0
theorem TF.sortCmp {E0 : Env} {f : FuncId} {hs : List Thing} {p : Nat} {z : Bool} {v : AV} {l : List Int} {c : FuncId} {caps : List AV} {N : Int} {cf : Int → Int → Int} {F : Int → Int → Option Int} (he : E.eff f = some (sortDeed E0)) (hp : hs[p]? = some (ownL z v encI l))
  (hok : SortOkC F cf N l) (hfn : ∃ fn, E0.fn c = some fn)
  (hst : ∀ (l2 : List Int) (x y r : Int), F x y = some r → Still E0 c ([iv x, iv y] ++ caps) (hs.set p (ownL z v encI l2)) (iv r)) :
  TF E f [v, .func c [] caps] hs (RepF (fun _ : Unit => undefA) (fun _ => hs.set p (ownL z v encI (sortC cf l)))) := fun S hS =>
 (TF.sort he hp hok.1 hfn hok.2.1 hok.2.2.1 (fun l2 _ _ x y a1 a2 a3 a4 => hst l2 x y _ (hok.2.2.2.2 x y a1 a2 a3 a4)) (sortC_perm cf l) hok.2.2.2.1 S hS).mono fun r ⟨v, S', hs', h1, h2, h3, h4⟩ => ⟨v, S', hs', h1, h2, (), h3, by rw [h4]; exact .refl⟩
end Go.Am
end
section
namespace Go.Am
set_option linter.unusedVariables false
noncomputable def P_s9_own (r_SfRoom_Classes : List Str) (r_SfRoom_Shelves : List qH) (r_SfRoom_Books : List qB) (i : Int) (shelf : Int) : Option Int :=
 el r_SfRoom_Books i fun a11 =>
 if a11.shelf = shelf then
  some 0
 else
  some 1
noncomputable def P_s9_Clear1 (i : Int) (n : Int) (p2_x : Int) (p3_SfRoom_Classes : List Str) (p3_SfRoom_Shelves : List qH) (p3_SfRoom_Books : List qB) : Option Int :=
 if n = p2_x then
  some 1000
 else
  andx (P_s9_own p3_SfRoom_Classes p3_SfRoom_Shelves p3_SfRoom_Books i n) fun y13 =>
   some y13
noncomputable def P_s9_Arrange1 (a_ : Int) (b : Int) (p2_Classes : List Str) (p2_Shelves : List qH) (p2_Books : List qB) : Option Int :=
 el p2_Books a_ fun a9 =>
 el p2_Books b fun a15 =>
 andx (P_s9_compare a9.qK a9.qL a9.qJ a15.qK a15.qL a15.qJ) fun y18 =>
  some y18
noncomputable def P_s9_Clear (qF : List Str) (qA : List qH) (qG : List qB) (shelf : Int) : Option ((List Int) × Bool × Int × Int) :=
  andx (P_s9_open qF qA qG) fun y11 =>
    if ¬ y11 = 0 then
      some ([], true, 0, y11)
    else
      chk (I64 ((qA.length : Int) - 1)) (
        andx (P_s9_out 0 ((qA.length : Int) - 1) [shelf]) fun y25 =>
          if y25 = true then
            some ([], true, 0, 4)
          else
            andx (P_s9_ordered qG) fun y29 =>
              if y29 = true then
                andx (P_s9_arrange qA qG (fun i_ n_ => P_s9_Clear1 i_ n_ shelf qF qA qG)) fun (m33, l33) =>
                  if m33 ≥ 1000 then
                    some ([], true, 0, 9)
                  else
                    chk (0 ≤ (qG.length : Int) ∧ (qG.length : Int) ≤ 11) (
                      some (List.take ((qG.length : Int)).toNat (l33), false, m33, 0))
              else
                some ([], true, 0, 2))
noncomputable def P_s9_Arrange_L1 (qG : List qB) : (Int × (List Int)) → Option (Stp (Int × (List Int)) (List Int)) := fun (x22, books) =>
  if x22 < (qG.length : Int) then
    chk (books.length + [x22].length < 1000000000) (
      chk (I64 (x22 + 1)) (
        some (Stp.ag ((x22 + 1), books ++ [x22]))))
  else
    some (Stp.dn books)
noncomputable def P_s9_Arrange_L2 (qF : List Str) (qA : List qH) (qG : List qB) (books : List Int) : (Int × (List qB)) → Option (Stp (Int × (List qB)) (List qB)) := fun (x37, x_SfRoom_Books) =>
  if x37 < ((sortC (cfOf (fun x y => P_s9_Arrange1 x y qF qA qG)) books).length : Int) then
    el (sortC (cfOf (fun x y => P_s9_Arrange1 x y qF qA qG)) books) x37 fun a39 =>
    el qG a39 fun a47 =>
    chk (x_SfRoom_Books.length + [a47].length < 1000000000) (
      chk (I64 (x37 + 1)) (
        some (Stp.ag ((x37 + 1), x_SfRoom_Books ++ [a47]))))
  else
    some (Stp.dn x_SfRoom_Books)
noncomputable def P_s9_Arrange (qF : List Str) (qA : List qH) (qG : List qB) : Option ((List Int) × Bool × (List Int) × Bool × Int × Int) :=
  andx (P_s9_open qF qA qG) fun y13 =>
    if ¬ y13 = 0 then
      some ([], true, [], true, 0, y13)
    else
      andx (
        iter (P_s9_Arrange_L1 qG) (0, [])) fun books =>
        chk (SortOkC (fun x y => P_s9_Arrange1 x y qF qA qG) (cfOf (fun x y => P_s9_Arrange1 x y qF qA qG)) (qG.length : Int) books) (
          andx (
            iter (P_s9_Arrange_L2 qF qA qG books) (0, [])) fun x_SfRoom_Books =>
            andx (P_s9_arrange qA x_SfRoom_Books (fun i_ n_ => P_s9_own qF qA x_SfRoom_Books i_ n_)) fun (m57, l57) =>
              if m57 ≥ 1000 then
                some ([], true, [], true, 0, 9)
              else
                chk (0 ≤ ((sortC (cfOf (fun x y => P_s9_Arrange1 x y qF qA qG)) books).length : Int) ∧ ((sortC (cfOf (fun x y => P_s9_Arrange1 x y qF qA qG)) books).length : Int) ≤ 11) (
                  some (sortC (cfOf (fun x y => P_s9_Arrange1 x y qF qA qG)) books, true, List.take (((sortC (cfOf (fun x y => P_s9_Arrange1 x y qF qA qG)) books).length : Int)).toNat (l57), false, m57, 0)))
end Go.Am
end
section
namespace Go.Am.YtiaolgbmbhldgaaGreatDoor
open Go.Am Go.RowKit
set_option linter.unusedVariables false
set_option maxRecDepth 100000
structure Finds (hs C : List Thing) (pr pk pv pf pm idr idk idv idf idm : Nat) (vC vS vB : AV) (c : FuncId) (first caps : List AV) (m : List (K3 × AV)) : Prop where
 r : hs[pr]? = some (.row idr 3 [vC, vS, vB])
 k : hs[pk]? = some (.row idk 1 [.map idm])
 v : hs[pv]? = some (.row idv 1 [.func c first caps])
 f : hs[pf]? = some (.row idf 1 [.func 132 [] [.ptr idr 0 3, .ptr idk 0 1, .ptr idv 0 1, .ptr idf 0 1]])
 m : hs[pm]? = some (memT idm m)
 subp : ∀ x ∈ C, ∃ p, p ≠ pm ∧ hs[p]? = some x
theorem Finds.sub {hs C : List Thing} {pr pk pv pf pm idr idk idv idf idm : Nat} {vC vS vB : AV} {c : FuncId} {first caps : List AV} {m : List (K3 × AV)} (F : Finds hs C pr pk pv pf pm idr idk idv idf idm vC vS vB c first caps m) : ∀ x ∈ C, x ∈ hs := fun x hx => let ⟨_, _, h⟩ := F.subp x hx; List.mem_of_getElem? h
theorem Finds.set {hs C : List Thing} {pr pk pv pf pm idr idk idv idf idm : Nat} {vC vS vB : AV} {c : FuncId} {first caps : List AV} {m : List (K3 × AV)} (F : Finds hs C pr pk pv pf pm idr idk idv idf idm vC vS vB c first caps m) (m' : List (K3 × AV)) : Finds (hs.set pm (memT idm m')) C pr pk pv pf pm idr idk idv idf idm vC vS vB c first caps m' := by
 have go : ∀ {p : Nat} {id u : Nat} {cs : List AV}, hs[p]? = some (.row id u cs) → (hs.set pm (memT idm m'))[p]? = some (.row id u cs) := fun {p} {id u cs} h => by
  rw [List.getElem?_set_ne, h];intro e;rw [← e, F.m] at h;cases h
 refine ⟨go F.r, go F.k, go F.v, go F.f, ?_, fun x hx => ?_⟩
 ·rw [List.getElem?_set_self (List.getElem?_eq_some_iff.1 F.m).1]
 ·obtain ⟨p, h1, h2⟩ := F.subp x hx;exact ⟨p, h1, by rw [List.getElem?_set_ne (Ne.symm h1)]; exact h2⟩
def outV (book : Nat) (w : Way) : AV := .agg (restC w.1 (arrW book w))
def wayAt (sh : List qH) (mv : Int → Int → Int) (books : List qB) (book shelf : Nat) (left : Int) : Way := bestW sh mv (books.drop book) book shelf left
def MemoOk (sh : List qH) (mv : Int → Int → Int) (books : List qB) (m : List (K3 × AV)) : Prop :=
 ∀ (q : K3) (v : AV), mget m q = some v → ∃ (b s : Nat) (l : Int), q = ((b : Int), (s : Int), l) ∧ b < books.length ∧ v = outV b (wayAt sh mv books b s l)
theorem arrW_len {sh : List qH} {mv : Int → Int → Int} {books : List qB} {b s : Nat} {l : Int} (hmv : ∀ i n, 0 ≤ mv i n) (h11 : books.length ≤ 11) (hb : b < books.length) : (arrW b (wayAt sh mv books b s l)).length = 11 := by
 unfold arrW
 by_cases h : (wayAt sh mv books b s l).1 < 1000
 ·rw [if_pos h]
  have := bestW_len hmv _ _ _ _ h;unfold wayAt;simp only [List.length_append, List.length_replicate, this, List.length_drop];omega
 ·rw [if_neg h]; simp
theorem Finds.push {hs C : List Thing} {pr pk pv pf pm idr idk idv idf idm : Nat} {vC vS vB : AV} {c : FuncId} {first caps : List AV} {m : List (K3 × AV)} (F : Finds hs C pr pk pv pf pm idr idk idv idf idm vC vS vB c first caps m) (x : Thing) : Finds (x :: hs) C (pr + 1) (pk + 1) (pv + 1) (pf + 1) (pm + 1) idr idk idv idf idm vC vS vB c first caps m :=
 ⟨F.r, F.k, F.v, F.f, F.m, fun y hy => let ⟨p, h1, h2⟩ := F.subp y hy; ⟨p + 1, by omega, h2⟩⟩
theorem vec11 {l : List Int} (h : l.length = 11) : ∃ a0 a1 a2 a3 a4 a5 a6 a7 a8 a9 a10, l = [a0, a1, a2, a3, a4, a5, a6, a7, a8, a9, a10] := by
 rcases l with _ | ⟨a0, l⟩ <;> simp only [List.length_cons, List.length_nil] at h
 ·omega
 rcases l with _ | ⟨a1, l⟩ <;> simp only [List.length_cons, List.length_nil] at h
 ·omega
 rcases l with _ | ⟨a2, l⟩ <;> simp only [List.length_cons, List.length_nil] at h
 ·omega
 rcases l with _ | ⟨a3, l⟩ <;> simp only [List.length_cons, List.length_nil] at h
 ·omega
 rcases l with _ | ⟨a4, l⟩ <;> simp only [List.length_cons, List.length_nil] at h
 ·omega
 rcases l with _ | ⟨a5, l⟩ <;> simp only [List.length_cons, List.length_nil] at h
 ·omega
 rcases l with _ | ⟨a6, l⟩ <;> simp only [List.length_cons, List.length_nil] at h
 ·omega
 rcases l with _ | ⟨a7, l⟩ <;> simp only [List.length_cons, List.length_nil] at h
 ·omega
 rcases l with _ | ⟨a8, l⟩ <;> simp only [List.length_cons, List.length_nil] at h
 ·omega
 rcases l with _ | ⟨a9, l⟩ <;> simp only [List.length_cons, List.length_nil] at h
 ·omega
 rcases l with _ | ⟨a10, l⟩ <;> simp only [List.length_cons, List.length_nil] at h
 ·omega
 have : l = [] := List.eq_nil_of_length_eq_zero (by omega);subst this;exact ⟨a0, a1, a2, a3, a4, a5, a6, a7, a8, a9, a10, rfl⟩
theorem build_rest {k : Nat} {a : Int} {l : List Int} (h : l.length = 11) : abuildC (EL k) 138 [(0, [iv a]), (1, vecC l)] = .ok (.agg (restC a l)) := by
 obtain ⟨a0, a1, a2, a3, a4, a5, a6, a7, a8, a9, a10, rfl⟩ := vec11 h;rfl
theorem wayAt_le {sh : List qH} {mv : Int → Int → Int} (hmv : ∀ i n, 0 ≤ mv i n) (bs : List qB) (i shelf : Nat) (left : Int) : 0 ≤ (bestW sh mv bs i shelf left).1 ∧ (bestW sh mv bs i shelf left).1 ≤ 1000 := by
 have hB := bestW_spec (sh := sh) hmv bs i shelf left;refine ⟨hB.low, ?_⟩
 by_cases h : (bestW sh mv bs i shelf left).1 < 1000
 ·omega
 ·rw [hB.none h]; exact Int.le_refl _
theorem arrW_set {book n : Nat} {w : Way} {c : Int} (hw : w.1 < 1000) (hc : c < 1000) (hl : book + 1 + w.2.length ≤ 11) : (arrW (book + 1) w).set book (n : Int) = arrW book (c, (n : Int) :: w.2) := by
 unfold arrW;rw [if_pos hw, if_pos hc, List.replicate_succ', List.append_assoc, List.set_append_right _ _ (by simp)];simp only [List.length_replicate, Nat.sub_self, List.cons_append, List.nil_append, List.set_cons_zero, List.length_cons];rw [show 11 - (book + 1) - w.2.length = 11 - book - (w.2.length + 1) by omega]
theorem tf_find {k : Nat} {C : List Thing} {idr idk idv idf idm : Nat} {vC vS vB : AV} {c : FuncId} {first caps : List AV} {sh : List qH} {books : List qB} {mv : Int → Int → Int}
    (hS : Rdl C qO vS sh) (hB : Rdl C qI vB books) (hK : KeyG (EL k).P 167 KTrip) (h11 : books.length ≤ 11) (hs4 : sh.length ≤ 1000) (hmv : ∀ i n, 0 ≤ mv i n) (hmu : ∀ i n, mv i n ≤ 1000) {fnc : Func} (hcf : (EL k).fn c = some fnc) (hco : (EL k).orc c = none)
    (hbw : ∀ b ∈ books, 0 ≤ b.wide ∧ b.wide ≤ 1000000) (hsw : ∀ a ∈ sh, 0 ≤ a.wide ∧ a.wide ≤ 1000000)
    (hmvC : ∀ (hs' : List Thing) (i n : Nat), (∀ x ∈ C, x ∈ hs') → i < books.length → n < sh.length → TF (EL k) c (first ++ [iv i, iv n] ++ caps) hs' (RepF (fun _ : Unit => iv (mv i n)) fun _ => hs')) :
    ∀ (j : Nat) {hs : List Thing} {pr pk pv pf pm : Nat} {m : List (K3 × AV)} (F : Finds hs C pr pk pv pf pm idr idk idv idf idm vC vS vB c first caps m) (hM : MemoOk sh mv books m) (book shelf : Nat) (left : Int) (hbk : book ≤ books.length) (hj : books.length - book < j) (hleft : 0 ≤ left ∧ left ≤ 1000000),
    TF (EL k) 132 [.agg [iv book, iv shelf, iv left], .ptr idr 0 3, .ptr idk 0 1, .ptr idv 0 1, .ptr idf 0 1] hs (RepF (fun _ : { m // MemoOk sh mv books m } => outV book (wayAt sh mv books book shelf left)) fun m' => hs.set pm (memT idm m'.1)) := by
  intro j
  induction j with
  | zero =>
    intro hs pr pk pv pf pm m F hM book shelf left hbk hj hleft
    exact absurd hj (by omega)
  | succ j ih =>
  intro hs pr pk pv pf pm m F hM book shelf left hbk hj hleft
  have hset : hs.set pm (memT idm m) = hs := by
    refine List.ext_getElem? fun i => ?_
    rw [List.getElem?_set]
    by_cases e : pm = i
    · subst e
      rw [if_pos rfl, if_pos (List.getElem?_eq_some_iff.1 F.m).1, F.m]
    · rw [if_neg e]
  refine TF.enterG (fn := Go.Proofs.Tryz.f132) rfl rfl rfl rfl rfl ?_
  refine T.seq ?_
  refine T.text rfl ?_
  refine TO.box (k := 3) (cells := [_, _, _]) rfl rfl rfl rfl rfl rfl rfl (fun b5 => ?_)
  refine TO.alloc (k := 12) (cells := restC 0 (List.replicate 11 0)) rfl rfl rfl rfl rfl rfl rfl (fun b6 => ?_)
  refine TO.nil ?_
  refine T.scope ?_
  refine T.seq ?_
  refine T.seq ?_
  refine T.text rfl ?_
  refine TO.val rfl rfl rfl (Val.faddr_ptr (fo := 0) rfl rfl rfl) ?_
  refine TO.val rfl rfl rfl (Val.load_row (p := 1) rfl ⟨_, rfl, rfl⟩ rfl rfl rfl) ?_
  refine TO.val rfl rfl rfl (Val.faddr_ptr (fo := 0) rfl rfl rfl) ?_
  refine TO.val rfl rfl rfl (Val.faddr_ptr (fo := 2) rfl rfl rfl) ?_
  refine TO.val rfl rfl rfl (Val.load_row (p := pr + 2) F.r ⟨_, rfl, rfl⟩ rfl rfl rfl) ?_
  refine TO.val rfl rfl rfl (Val.len_l hB (memS (memS F.sub)) rfl rfl) ?_
  obtain ⟨c20, hc20⟩ : ∃ c : Bool, c = decide ((book : Int) = (books.length : Int)) := ⟨_, rfl⟩
  refine TO.val rfl rfl rfl (Val.eql hc20 rfl rfl) ?_
  refine TO.nil ?_
  cases c20 with
  | true =>
    replace hc20 := of_decide_eq_true hc20.symm
    refine T.condT (fun a ha => ha.ev (.tmp 20) _ rfl) ?_
    refine T.seq ?_
    refine T.text rfl ?_
    refine TO.val rfl rfl rfl (Val.buildC (cs := restC 0 (List.replicate 11 0)) (vs := []) (ws := []) rfl rfl CellsL.nil rfl) ?_
    refine TO.eff0 rfl rfl (Eff.store_rest (p := 0) (k := 11) (l' := List.replicate 11 0) (n' := 0) rfl rfl rfl rfl rfl rfl) ?_
    rintro _ rfl
    refine TO.things (hs' := .row b6 1 (restC 0 (List.replicate 11 0)) :: .row b5 3 [iv book, iv shelf, iv left] :: hs) rfl ?_
    refine TO.nil ?_
    refine T.ret ?_
    have e : outV book (wayAt sh mv books book shelf left) = .agg (restC 0 (List.replicate 11 0)) := by
      have hb : book = books.length := by omega
      have hw : wayAt sh mv books book shelf left = (0, []) := by
        unfold wayAt
        rw [List.drop_of_length_le (by omega)]
        rfl
      unfold outV
      rw [hw]
      unfold arrW
      rw [if_pos (show (0 : Int) < 1000 by decide)]
      simp only [List.nil_append, List.length_nil, Nat.sub_zero, List.replicate_append_replicate]
      rw [show book + (11 - book) = 11 by omega]
    exact ⟨rfl, _, rfl, [_], ⟨⟨_, rfl, LoadR.rows (p := 0) (c := restC 0 (List.replicate 11 0)) rfl ⟨⟨_, rfl, rfl⟩, rfl, by decide⟩ rfl rfl rfl⟩, trivial⟩, ⟨⟨m, hM⟩, e.symm, by show Pk (hs.set pm (memT idm m)) _; rw [hset]; exact .drop (.drop .refl)⟩⟩
  | false =>
    replace hc20 := of_decide_eq_false hc20.symm
    refine T.condF (fun a ha => ha.ev (.tmp 20) _ rfl) ?_
    refine T.skip ?_
    refine T.seq ?_
    refine T.text rfl ?_
    refine TO.val rfl rfl rfl (Val.load_row (p := pk + 2) F.k ⟨_, rfl, rfl⟩ rfl rfl rfl) ?_
    refine TO.val rfl rfl rfl (Val.load_rows (p := 1) (c := [_, _, _]) rfl ⟨⟨_, rfl, rfl⟩, rfl, by decide⟩ rfl rfl rfl rfl) ?_
    obtain ⟨w, c25, hw⟩ : ∃ w c, (mget m (book, shelf, left) = some w ∧ c = true) ∨ (mget m (book, shelf, left) = none ∧ w = .agg (restC 0 (List.replicate 11 0)) ∧ c = false) := by
      cases hg : mget m (book, shelf, left) with
      | none => exact ⟨_, _, .inr ⟨rfl, rfl, rfl⟩⟩
      | some w => exact ⟨w, true, .inl ⟨rfl, rfl⟩⟩
    refine TO.val rfl rfl rfl (Val.lookup3 (p := pm + 2) (k := (book, shelf, left)) F.m rfl hK rfl rfl rfl hw) ?_
    refine TO.val rfl rfl rfl (Val.move rfl) ?_
    refine TO.val rfl rfl rfl (Val.extract rfl rfl) ?_
    refine TO.val rfl rfl rfl (Val.extract rfl rfl) ?_
    refine TO.alloc (k := 12) (cells := restC 0 (List.replicate 11 0)) rfl rfl rfl rfl rfl rfl rfl (fun b7 => ?_)
    obtain ⟨n7, l7, hl7, rfl⟩ : ∃ n l, l.length = 11 ∧ w = .agg (restC n l) := by
      rcases hw with ⟨h1, _⟩ | ⟨_, h1, _⟩
      · obtain ⟨b', s', l', _, hb', hv'⟩ := hM _ _ h1
        exact ⟨_, _, arrW_len hmv h11 hb', hv'⟩
      · exact ⟨0, List.replicate 11 0, rfl, h1⟩
    refine TO.eff0 rfl rfl (Eff.store_rest (p := 0) (k := 11) (l' := l7) (n' := n7) rfl rfl hl7 rfl rfl rfl) ?_
    rintro _ rfl
    refine TO.things (hs' := .row b7 1 (restC n7 l7) :: .row b6 1 (restC 0 (List.replicate 11 0)) :: .row b5 3 [iv book, iv shelf, iv left] :: hs) rfl ?_
    refine TO.val rfl rfl rfl (Val.assign rfl) ?_
    refine TO.nil ?_
    refine T.seq ?_
    refine T.seq ?_
    refine T.text rfl ?_
    refine TO.val rfl rfl rfl (Val.move rfl) ?_
    refine TO.nil ?_
    cases c25 with
    | true =>
      refine T.condT (fun a ha => ha.ev (.tmp 28) _ rfl) ?_
      refine T.seq ?_
      refine T.text rfl ?_
      refine TO.val rfl rfl rfl (Val.load_rest (p := 0) (k := 11) rfl hl7 ⟨⟨_, rfl, rfl⟩, rfl, by decide⟩ rfl) ?_
      refine TO.eff0 rfl rfl (Eff.store_rest (p := 1) (k := 11) (l' := l7) (n' := n7) rfl rfl hl7 rfl rfl rfl) ?_
      rintro _ rfl
      refine TO.things (hs' := .row b7 1 (restC n7 l7) :: .row b6 1 (restC n7 l7) :: .row b5 3 [iv book, iv shelf, iv left] :: hs) rfl ?_
      refine TO.nil ?_
      refine T.ret ?_
      have e : outV book (wayAt sh mv books book shelf left) = .agg (restC n7 l7) := by
        rcases hw with ⟨h1, _⟩ | ⟨_, _, h1⟩
        · obtain ⟨b', s', l', hq, hb', hv'⟩ := hM _ _ h1
          simp only [Prod.mk.injEq] at hq
          obtain ⟨q1, q2, q3⟩ := hq
          have e1 : book = b' := by omega
          have e2 : shelf = s' := by omega
          subst e1; subst e2; subst q3
          exact hv'.symm
        · cases h1
      exact ⟨rfl, _, rfl, [_], ⟨⟨_, rfl, LoadR.rows (p := 1) (c := restC n7 l7) rfl ⟨⟨_, rfl, rfl⟩, rfl, by decide⟩ (restC_len hl7) (by rw [List.drop_zero, List.take_of_length_le (by rw [restC_len hl7]; exact Nat.le_refl _)]) rfl⟩, trivial⟩, ⟨⟨m, hM⟩, e.symm, by show Pk (hs.set pm (memT idm m)) _; rw [hset]; exact .drop (.drop (.drop .refl))⟩⟩
    | false =>
      refine T.condF (fun a ha => ha.ev (.tmp 28) _ rfl) ?_
      refine T.skip ?_
      refine T.seq ?_
      refine T.text rfl ?_
      refine TO.val rfl rfl rfl (Val.faddr_ptr (fo := 0) rfl rfl rfl) ?_
      refine TO.eff0 rfl rfl (Eff.store_rest0 (p := 0) (k := 11) (l := l7) (n' := 1000) rfl hl7 rfl rfl rfl) ?_
      rintro _ rfl
      refine TO.things (hs' := .row b7 1 (restC 1000 l7) :: .row b6 1 (restC 0 (List.replicate 11 0)) :: .row b5 3 [iv book, iv shelf, iv left] :: hs) rfl ?_
      refine TO.nil ?_
      refine T.seq ?_
      refine T.text rfl ?_
      refine TO.val rfl rfl rfl (Val.faddr_ptr (fo := 0) rfl rfl rfl) ?_
      refine TO.val rfl rfl rfl (Val.faddr_ptr (fo := 2) rfl rfl rfl) ?_
      refine TO.val rfl rfl rfl (Val.load_row (p := pr + 3) F.r ⟨_, rfl, rfl⟩ rfl rfl rfl) ?_
      refine TO.val rfl rfl rfl (Val.faddr_ptr (fo := 0) rfl rfl rfl) ?_
      refine TO.val rfl rfl rfl (Val.load_row (p := 2) rfl ⟨_, rfl, rfl⟩ rfl rfl rfl) ?_
      have hblt : book < books.length := by omega
      obtain ⟨b, hb⟩ := get_some hblt
      refine TO.fact (rdl_at (k := (book : Int)) (a := b) hB (memS (memS (memS F.sub))) (by omega) (by simpa using hb)) (fun hp => ?_)
      obtain ⟨pb, hpb, hvb⟩ := hp
      refine TO.val rfl rfl rfl (hvb ⟨rfl, rfl⟩ rfl rfl) ?_
      refine TO.val rfl rfl rfl (Val.load_es (c := [_, _, _, _, _, _, _]) hpb (memS (memS (memS F.sub))) ⟨⟨_, rfl, rfl⟩, rfl, by decide⟩ rfl rfl rfl) ?_
      refine TO.alloc (k := 7) (cells := [_, _, _, _, _, _, _]) rfl rfl rfl rfl rfl rfl rfl (fun b9 => ?_)
      refine TO.eff0 rfl rfl (Eff.store_row (p := 0) (cv := [_, _, _, _, _, _, _]) (cells' := [_, _, _, _, _, _, _]) rfl rfl rfl rfl rfl rfl rfl rfl (by first | rfl | (simp [GS.one]; done)) (by decide) rfl) ?_
      rintro _ rfl
      refine TO.things (hs' := .row b9 7 [iv (b.qK), iv (b.qL), sv b.qJ, iv (b.wide), iv (b.high), iv (b.heavy), iv (b.shelf)] :: .row b7 1 (restC 1000 l7) :: .row b6 1 (restC 0 (List.replicate 11 0)) :: .row b5 3 [iv book, iv shelf, iv left] :: hs) rfl ?_
      refine TO.nil ?_
      refine T.seq ?_
      refine T.label ?_
      refine T.seq ?_
      refine T.seq ?_
      refine T.text rfl ?_
      refine TO.val rfl rfl rfl (Val.faddr_ptr (fo := 0) rfl rfl rfl) ?_
      refine TO.val rfl rfl rfl (Val.faddr_ptr (fo := 1) rfl rfl rfl) ?_
      refine TO.val rfl rfl rfl (Val.load_row (p := pr + 4) F.r ⟨_, rfl, rfl⟩ rfl rfl rfl) ?_
      refine TO.val rfl rfl rfl (Val.len_l hS (memS (memS (memS (memS F.sub)))) rfl rfl) ?_
      refine TO.val rfl rfl rfl (Val.move rfl) ?_
      refine TO.nil ?_
      refine T.block ?_
      have hl7z : l7 = List.replicate 11 0 := by
        rcases hw with ⟨_, h1⟩ | ⟨_, h1, _⟩
        · cases h1
        · have h2 := congrArg (fun v => match v with | .agg cs => cs | _ => []) h1
          simp only [restC, List.cons.injEq] at h2
          exact ivs_inj h2.2
      subst hl7z
      let q : Nat → Way := fun n => pick (1000, List.replicate ((books.drop (book + 1)).length + 1) 0) (candW sh mv b book shelf left fun n l => bestW sh mv (books.drop (book + 1)) (book + 1) n l) n
      let st : Nat → { m // MemoOk sh mv books m } → Sy := fun n m' => ⟨[], [(1, .ptr idr 0 3), (2, .ptr idk 0 1), (3, .ptr idv 0 1), (4, .ptr idf 0 1), (5, .ptr b5 0 3), (6, .ptr b6 0 12), (7, .ptr b7 0 12), (9, .ptr b9 0 7), (41, iv sh.length), (42, iv n)],
        .row b9 7 [iv (b.qK), iv (b.qL), sv b.qJ, iv (b.wide), iv (b.high), iv (b.heavy), iv (b.shelf)] :: .row b7 1 (restC (q n).1 (arrW book (q n))) :: .row b6 1 (restC 0 (List.replicate 11 0)) :: .row b5 3 [iv book, iv shelf, iv left] :: hs.set pm (memT idm m'.1)⟩
      refine T.loop (fun μ s => ∃ (n : Nat) (m' : { m // MemoOk sh mv books m }), μ = sh.length - n ∧ n ≤ sh.length ∧ s = st n m') (k := sh.length) (s' := st 0 ⟨m, hM⟩) ⟨0, ⟨m, hM⟩, rfl, Nat.zero_le _, rfl⟩ ⟨rfl, keep_cons rfl (keep_cons rfl (keep_cons rfl (keep_cons rfl (keep_cons rfl (keep_cons rfl (keep_cons rfl (keep_cons rfl (keep_cons rfl (keep_cons rfl keep_nil))))))))), ?_⟩ ?_
      · show List.Sublist (_ :: _ :: _ :: _ :: hs.set pm (memT idm m)) _
        rw [hset]
        exact List.Sublist.refl _
      rintro μ _ ⟨n, m', rfl, hn, rfl⟩
      have F' := F.set m'.1
      refine T.seq ?_
      refine T.text rfl ?_
      obtain ⟨c43, hc43⟩ : ∃ c : Bool, c = decide ((n : Int) < (sh.length : Int)) := ⟨_, rfl⟩
      refine TO.val rfl rfl rfl (Val.lss hc43 rfl rfl) ?_
      refine TO.nil ?_
      refine T.seq ?_
      cases c43 with
      | false =>
        replace hc43 := of_decide_eq_false hc43.symm
        refine T.condF (fun a ha => ha.ev (.tmp 43) _ rfl) ?_
        refine T.exit ?_
        have hnq : n = sh.length := by omega
        have hdrop : books.drop book = b :: books.drop (book + 1) := by rw [← List.getElem_cons_drop hblt]; congr 1; exact Option.some.inj ((List.getElem?_eq_getElem hblt).symm.trans hb)
        have hway : wayAt sh mv books book shelf left = q n := by
          unfold wayAt
          rw [hdrop, hnq]
          rfl
        have hl11 : (arrW book (q n)).length = 11 := by rw [← hway]; exact arrW_len hmv h11 hblt
        refine T.seq ?_
        refine T.text rfl ?_
        refine TO.val rfl rfl rfl (Val.load_row (p := pk + 4) F'.k ⟨_, rfl, rfl⟩ rfl rfl rfl) ?_
        refine TO.val rfl rfl rfl (Val.load_rows (p := 3) (c := [_, _, _]) rfl ⟨⟨_, rfl, rfl⟩, rfl, by decide⟩ rfl rfl rfl rfl) ?_
        refine TO.val rfl rfl rfl (Val.load_rest (p := 1) (k := 11) rfl hl11 ⟨⟨_, rfl, rfl⟩, rfl, by decide⟩ rfl) ?_
        refine TO.eff0 rfl rfl (Eff.update3 (p := pm + 4) (k := (book, shelf, left)) F'.m rfl hK rfl rfl rfl) ?_
        rintro _ rfl
        refine TO.things (hs' := .row b9 7 [iv (b.qK), iv (b.qL), sv b.qJ, iv (b.wide), iv (b.high), iv (b.heavy), iv (b.shelf)] :: .row b7 1 (restC (q n).1 (arrW book (q n))) :: .row b6 1 (restC 0 (List.replicate 11 0)) :: .row b5 3 [iv book, iv shelf, iv left] :: hs.set pm (memT idm (mput m'.1 (book, shelf, left) (.agg (restC (q n).1 (arrW book (q n))))))) (by show _ :: _ :: _ :: _ :: (hs.set pm _).set pm _ = _; rw [List.set_set]) ?_
        refine TO.nil ?_
        refine T.seq ?_
        refine T.text rfl ?_
        refine TO.val rfl rfl rfl (Val.load_rest (p := 1) (k := 11) rfl hl11 ⟨⟨_, rfl, rfl⟩, rfl, by decide⟩ rfl) ?_
        refine TO.eff0 rfl rfl (Eff.store_rest (p := 2) (k := 11) (l' := arrW book (q n)) (n' := (q n).1) rfl rfl hl11 rfl rfl rfl) ?_
        rintro _ rfl
        refine TO.things (hs' := .row b9 7 [iv (b.qK), iv (b.qL), sv b.qJ, iv (b.wide), iv (b.high), iv (b.heavy), iv (b.shelf)] :: .row b7 1 (restC (q n).1 (arrW book (q n))) :: .row b6 1 (restC (q n).1 (arrW book (q n))) :: .row b5 3 [iv book, iv shelf, iv left] :: hs.set pm (memT idm (mput m'.1 (book, shelf, left) (.agg (restC (q n).1 (arrW book (q n))))))) rfl ?_
        refine TO.nil ?_
        refine T.ret ?_
        have hM' : MemoOk sh mv books (mput m'.1 (book, shelf, left) (.agg (restC (q n).1 (arrW book (q n))))) := by
          intro x v hx
          rw [mget_mput] at hx
          by_cases e : x = ((book : Int), (shelf : Int), left)
          · rw [if_pos e] at hx
            cases hx
            exact ⟨book, shelf, left, e, hblt, by rw [hway]; rfl⟩
          · rw [if_neg e] at hx
            exact m'.2 x v hx
        exact ⟨rfl, _, rfl, [_], ⟨⟨_, rfl, LoadR.rows (p := 2) (c := restC (q n).1 (arrW book (q n))) rfl ⟨⟨_, rfl, rfl⟩, rfl, by decide⟩ (restC_len hl11) (by rw [List.drop_zero, List.take_of_length_le (by rw [restC_len hl11]; exact Nat.le_refl _)]) rfl⟩, trivial⟩, ⟨⟨_, hM'⟩, by rw [hway]; rfl, .drop (.drop (.drop (.drop .refl)))⟩⟩
      | true =>
        replace hc43 := of_decide_eq_true hc43.symm
        refine T.condT (fun a ha => ha.ev (.tmp 43) _ rfl) ?_
        refine T.skip ?_
        refine T.seq ?_
        refine T.block ?_
        refine T.seq ?_
        refine T.text rfl ?_
        refine TO.val rfl rfl rfl (Val.move rfl) ?_
        refine TO.val rfl rfl rfl (Val.assign rfl) ?_
        refine TO.nil ?_
        refine T.seq ?_
        refine T.text rfl ?_
        refine TO.val rfl rfl rfl (Val.faddr_ptr (fo := 0) rfl rfl rfl) ?_
        refine TO.val rfl rfl rfl (Val.faddr_ptr (fo := 1) rfl rfl rfl) ?_
        refine TO.val rfl rfl rfl (Val.load_row (p := pr + 4) F'.r ⟨_, rfl, rfl⟩ rfl rfl rfl) ?_
        refine TO.val rfl rfl rfl (Val.move rfl) ?_
        have hnlt : n < sh.length := by omega
        obtain ⟨a, ha⟩ := get_some hnlt
        refine TO.fact (rdl_at (k := (n : Int)) (a := a) hS (memS (memS (memS (memS F'.sub)))) (by omega) (by simpa using ha)) (fun hp => ?_)
        obtain ⟨pa, hpa, hva⟩ := hp
        refine TO.val rfl rfl rfl (hva ⟨rfl, rfl⟩ rfl rfl) ?_
        refine TO.val rfl rfl rfl (Val.faddr_e (fo := 2) hpa rfl rfl rfl) ?_
        refine TO.val rfl rfl rfl (Val.load_e (PtE.add hpa (by decide)) (memS (memS (memS (memS F'.sub)))) ⟨_, rfl, rfl⟩ rfl rfl) ?_
        refine TO.val rfl rfl rfl (Val.assign rfl) ?_
        refine TO.nil ?_
        refine T.seqJoin (s1 := ⟨[], (10, iv n) :: (11, iv (capAt a n shelf left)) :: (st n m').sl, (st n m').hs⟩) ?_ ?_
        · refine T.seq ?_
          refine T.text rfl ?_
          refine TO.val rfl rfl rfl (Val.move rfl) ?_
          refine TO.val rfl rfl rfl (Val.faddr_ptr (fo := 1) rfl rfl rfl) ?_
          refine TO.val rfl rfl rfl (Val.load_row (p := 3) rfl ⟨_, rfl, rfl⟩ rfl rfl rfl) ?_
          obtain ⟨c55, hc55⟩ : ∃ c : Bool, c = decide ((n : Int) = (shelf : Int)) := ⟨_, rfl⟩
          refine TO.val rfl rfl rfl (Val.eql hc55 rfl rfl) ?_
          refine TO.nil ?_
          cases c55 with
          | true =>
            replace hc55 := of_decide_eq_true hc55.symm
            refine T.condT (fun a ha => ha.ev (.tmp 55) _ rfl) ?_
            refine T.text rfl ?_
            refine TO.val rfl rfl rfl (Val.faddr_ptr (fo := 2) rfl rfl rfl) ?_
            refine TO.val rfl rfl rfl (Val.load_row (p := 3) rfl ⟨_, rfl, rfl⟩ rfl rfl rfl) ?_
            refine TO.val rfl rfl rfl (Val.assign rfl) ?_
            refine TO.nil ?_
            have e : capAt a n shelf left = left := by unfold capAt; rw [if_pos (by omega)]
            rw [e]
            exact ⟨rfl, rfl, keep_cons rfl (keep_cons rfl (keep_cons rfl (keep_cons rfl (keep_cons rfl (keep_cons rfl (keep_cons rfl (keep_cons rfl (keep_cons rfl (keep_cons rfl (keep_cons rfl (keep_cons rfl keep_nil))))))))))), List.Sublist.refl _⟩
          | false =>
            replace hc55 := of_decide_eq_false hc55.symm
            refine T.condF (fun a ha => ha.ev (.tmp 55) _ rfl) ?_
            refine T.skip ?_
            have e : capAt a n shelf left = a.wide := by unfold capAt; rw [if_neg (by omega)]
            rw [e]
            exact ⟨rfl, rfl, keep_cons rfl (keep_cons rfl (keep_cons rfl (keep_cons rfl (keep_cons rfl (keep_cons rfl (keep_cons rfl (keep_cons rfl (keep_cons rfl (keep_cons rfl (keep_cons rfl (keep_cons rfl keep_nil))))))))))), List.Sublist.refl _⟩
        refine T.seq ?_
        refine T.text rfl ?_
        refine TO.val rfl rfl rfl (Val.load_row (p := pv + 4) F'.v ⟨_, rfl, rfl⟩ rfl rfl rfl) ?_
        refine TO.val rfl rfl rfl (Val.faddr_ptr (fo := 0) rfl rfl rfl) ?_
        refine TO.val rfl rfl rfl (Val.load_row (p := 3) rfl ⟨_, rfl, rfl⟩ rfl rfl rfl) ?_
        refine TO.val rfl rfl rfl (Val.move rfl) ?_
        refine TO.callT (first := first) (cap := caps) (vs := [iv book, iv n]) rfl rfl rfl rfl rfl hcf hco (hmvC _ book n (memS (memS (memS (memS F'.sub)))) hblt hnlt) ?_
        rintro _
        refine TO.val rfl rfl rfl (Val.assign rfl) ?_
        refine TO.nil ?_
        obtain ⟨cc, hcc⟩ : ∃ c : Bool, c = !decide (canAt mv b book shelf left n a) := ⟨_, rfl⟩
        refine T.seq ?_
        refine T.seqJoin (s1 := ⟨[], (88, bv cc) :: (10, iv n) :: (11, iv (capAt a n shelf left)) :: (12, iv (mv book n)) :: (st n m').sl, (st n m').hs⟩) ?_ ?_
        · refine T.draw (fun v => sameC_refl v) (l1 := [0, 1, 2, 3, 4, 5, 6, 7, 8, 9, 10, 11, 12, 13, 14, 15, 16, 17, 18, 19, 20, 21, 22, 23, 24, 25]) (l2 := []) (by kernel_rfl) (by kernel_rfl) ?_
          refine TO.val rfl rfl rfl (Val.move rfl) ?_
          refine TO.val rfl rfl rfl (Val.faddr_ptr (fo := 1) rfl rfl rfl) ?_
          refine TO.val rfl rfl rfl (Val.load_row (p := 3) rfl ⟨_, rfl, rfl⟩ rfl rfl rfl) ?_
          obtain ⟨c66, hc66⟩ : ∃ c : Bool, c = decide ((n : Int) < (shelf : Int)) := ⟨_, rfl⟩
          refine TO.val rfl rfl rfl (Val.lss hc66 rfl rfl) ?_
          refine TO.val rfl rfl rfl (Val.move rfl) ?_
          cases c66 with
          | true =>
            replace hc66 := of_decide_eq_true hc66.symm
            refine TO.off rfl rfl rfl ?_
            refine TO.off rfl rfl rfl ?_
            refine TO.off rfl rfl rfl ?_
            refine TO.off rfl rfl rfl ?_
            refine TO.val rfl rfl rfl (Val.pick rfl rfl rfl) ?_
            refine TO.val rfl rfl rfl (Val.move rfl) ?_
            refine TO.off rfl rfl rfl ?_
            refine TO.off rfl rfl rfl ?_
            refine TO.off rfl rfl rfl ?_
            refine TO.off rfl rfl rfl ?_
            refine TO.off rfl rfl rfl ?_
            refine TO.off rfl rfl rfl ?_
            refine TO.off rfl rfl rfl ?_
            refine TO.off rfl rfl rfl ?_
            refine TO.off rfl rfl rfl ?_
            refine TO.off rfl rfl rfl ?_
            refine TO.val rfl rfl rfl (Val.pick rfl rfl rfl) ?_
            refine TO.val rfl rfl rfl (Val.move rfl) ?_
            refine TO.off rfl rfl rfl ?_
            refine TO.off rfl rfl rfl ?_
            refine TO.val rfl rfl rfl (Val.pick rfl rfl rfl) ?_
            refine TO.nil ?_
            have e : cc = true := by rw [hcc, decide_eq_false (show ¬ canAt mv b book shelf left n a from fun h => by have := h.1; omega)]; rfl
            subst e
            exact ⟨rfl, rfl, keep_cons rfl (keep_cons rfl (keep_cons rfl (keep_cons rfl (keep_cons rfl (keep_cons rfl (keep_cons rfl (keep_cons rfl (keep_cons rfl (keep_cons rfl (keep_cons rfl (keep_cons rfl (keep_cons rfl (keep_cons rfl keep_nil))))))))))))), List.Sublist.refl _⟩
          | false =>
            replace hc66 := of_decide_eq_false hc66.symm
            refine TO.val rfl rfl rfl (Val.move rfl) ?_
            refine TO.val rfl rfl rfl (Val.faddr_ptr (fo := 3) rfl rfl rfl) ?_
            refine TO.val rfl rfl rfl (Val.load_row (p := 0) rfl ⟨_, rfl, rfl⟩ rfl rfl rfl) ?_
            obtain ⟨c71, hc71⟩ : ∃ c : Bool, c = decide (capAt a n shelf left < b.wide) := ⟨_, rfl⟩
            refine TO.val rfl rfl rfl (Val.lss hc71 rfl rfl) ?_
            refine TO.val rfl rfl rfl (Val.pick rfl rfl rfl) ?_
            refine TO.val rfl rfl rfl (Val.move rfl) ?_
            cases c71 with
            | true =>
              replace hc71 := of_decide_eq_true hc71.symm
              refine TO.off rfl rfl rfl ?_
              refine TO.off rfl rfl rfl ?_
              refine TO.off rfl rfl rfl ?_
              refine TO.off rfl rfl rfl ?_
              refine TO.off rfl rfl rfl ?_
              refine TO.off rfl rfl rfl ?_
              refine TO.off rfl rfl rfl ?_
              refine TO.off rfl rfl rfl ?_
              refine TO.off rfl rfl rfl ?_
              refine TO.off rfl rfl rfl ?_
              refine TO.val rfl rfl rfl (Val.pick rfl rfl rfl) ?_
              refine TO.val rfl rfl rfl (Val.move rfl) ?_
              refine TO.off rfl rfl rfl ?_
              refine TO.off rfl rfl rfl ?_
              refine TO.val rfl rfl rfl (Val.pick rfl rfl rfl) ?_
              refine TO.nil ?_
              have e : cc = true := by rw [hcc, decide_eq_false (show ¬ canAt mv b book shelf left n a from fun h => by have := h.2.1; omega)]; rfl
              subst e
              exact ⟨rfl, rfl, keep_cons rfl (keep_cons rfl (keep_cons rfl (keep_cons rfl (keep_cons rfl (keep_cons rfl (keep_cons rfl (keep_cons rfl (keep_cons rfl (keep_cons rfl (keep_cons rfl (keep_cons rfl (keep_cons rfl (keep_cons rfl keep_nil))))))))))))), List.Sublist.refl _⟩
            | false =>
              replace hc71 := of_decide_eq_false hc71.symm
              refine TO.val rfl rfl rfl (Val.faddr_ptr (fo := 0) rfl rfl rfl) ?_
              refine TO.val rfl rfl rfl (Val.faddr_ptr (fo := 1) rfl rfl rfl) ?_
              refine TO.val rfl rfl rfl (Val.load_row (p := pr + 4) F'.r ⟨_, rfl, rfl⟩ rfl rfl rfl) ?_
              refine TO.val rfl rfl rfl (Val.move rfl) ?_
              refine TO.fact (rdl_at (k := (n : Int)) (a := a) hS (memS (memS (memS (memS F'.sub)))) (by omega) (by simpa using ha)) (fun hp => ?_)
              obtain ⟨pa2, hpa2, hva2⟩ := hp
              refine TO.val rfl rfl rfl (hva2 ⟨rfl, rfl⟩ rfl rfl) ?_
              refine TO.val rfl rfl rfl (Val.faddr_e (fo := 3) hpa2 rfl rfl rfl) ?_
              refine TO.val rfl rfl rfl (Val.load_e (PtE.add hpa2 (by decide)) (memS (memS (memS (memS F'.sub)))) ⟨_, rfl, rfl⟩ rfl rfl) ?_
              refine TO.val rfl rfl rfl (Val.faddr_ptr (fo := 4) rfl rfl rfl) ?_
              refine TO.val rfl rfl rfl (Val.load_row (p := 0) rfl ⟨_, rfl, rfl⟩ rfl rfl rfl) ?_
              obtain ⟨c83, hc83⟩ : ∃ c : Bool, c = decide (a.high < b.high) := ⟨_, rfl⟩
              refine TO.val rfl rfl rfl (Val.lss hc83 rfl rfl) ?_
              refine TO.val rfl rfl rfl (Val.pick rfl rfl rfl) ?_
              refine TO.val rfl rfl rfl (Val.move rfl) ?_
              cases c83 with
              | true =>
                replace hc83 := of_decide_eq_true hc83.symm
                refine TO.off rfl rfl rfl ?_
                refine TO.off rfl rfl rfl ?_
                refine TO.val rfl rfl rfl (Val.pick rfl rfl rfl) ?_
                refine TO.nil ?_
                have e : cc = true := by rw [hcc, decide_eq_false (show ¬ canAt mv b book shelf left n a from fun h => by have := h.2.2.1; omega)]; rfl
                subst e
                exact ⟨rfl, rfl, keep_cons rfl (keep_cons rfl (keep_cons rfl (keep_cons rfl (keep_cons rfl (keep_cons rfl (keep_cons rfl (keep_cons rfl (keep_cons rfl (keep_cons rfl (keep_cons rfl (keep_cons rfl (keep_cons rfl (keep_cons rfl keep_nil))))))))))))), List.Sublist.refl _⟩
              | false =>
                replace hc83 := of_decide_eq_false hc83.symm
                refine TO.val rfl rfl rfl (Val.move rfl) ?_
                obtain ⟨c87, hc87⟩ : ∃ c : Bool, c = decide (mv book n = 1000) := ⟨_, rfl⟩
                refine TO.val rfl rfl rfl (Val.eql hc87 rfl rfl) ?_
                refine TO.val rfl rfl rfl (Val.pick rfl rfl rfl) ?_
                refine TO.nil ?_
                have e : cc = c87 := by
                  rw [hcc, hc87]
                  by_cases h1 : mv book n = 1000
                  · rw [decide_eq_true h1, decide_eq_false (show ¬ canAt mv b book shelf left n a from fun h => h.2.2.2 h1)]; rfl
                  · rw [decide_eq_false h1, decide_eq_true (show canAt mv b book shelf left n a from ⟨by omega, by omega, by omega, h1⟩)]; rfl
                subst e
                exact ⟨rfl, rfl, keep_cons rfl (keep_cons rfl (keep_cons rfl (keep_cons rfl (keep_cons rfl (keep_cons rfl (keep_cons rfl (keep_cons rfl (keep_cons rfl (keep_cons rfl (keep_cons rfl (keep_cons rfl (keep_cons rfl (keep_cons rfl keep_nil))))))))))))), List.Sublist.refl _⟩
        cases cc with
        | true =>
          have hno : ¬ canAt mv b book shelf left n a := fun h => by rw [decide_eq_true h] at hcc; cases hcc
          refine T.condT (fun a ha => ha.ev (.tmp 88) _ rfl) ?_
          refine T.exit ?_
          refine T.text rfl ?_
          refine TO.val rfl rfl rfl (Val.add rfl rfl ⟨by omega, by omega⟩) ?_
          refine TO.val rfl rfl rfl (Val.move rfl) ?_
          refine TO.nil ?_
          have hq : q (n + 1) = q n := by
            show pick _ _ (n + 1) = pick _ _ n
            have hc : candW sh mv b book shelf left (fun n l => bestW sh mv (books.drop (book + 1)) (book + 1) n l) n = none := by
              unfold candW
              simp only [ha, if_neg hno]
            rw [pick, hc]
          have hst : st (n + 1) m' = ⟨[], [(1, .ptr idr 0 3), (2, .ptr idk 0 1), (3, .ptr idv 0 1), (4, .ptr idf 0 1), (5, .ptr b5 0 3), (6, .ptr b6 0 12), (7, .ptr b7 0 12), (9, .ptr b9 0 7), (41, iv sh.length), (42, iv ((n : Int) + 1))], (st n m').hs⟩ := by
            show Sy.mk _ _ _ = Sy.mk _ _ _
            rw [hq]; rfl
          refine ⟨sh.length - (n + 1), st (n + 1) m', by omega, ⟨n + 1, m', rfl, by omega, rfl⟩, ?_⟩
          rw [hst]
          exact ⟨rfl, keep_cons rfl (keep_cons rfl (keep_cons rfl (keep_cons rfl (keep_cons rfl (keep_cons rfl (keep_cons rfl (keep_cons rfl (keep_cons rfl (keep_cons rfl keep_nil))))))))), List.Sublist.refl _⟩
        | false =>
          refine T.condF (fun a ha => ha.ev (.tmp 88) _ rfl) ?_
          refine T.skip ?_
          have hcan : canAt mv b book shelf left n a := by
            by_cases h : canAt mv b book shelf left n a
            · exact h
            · rw [decide_eq_false h] at hcc; cases hcc
          have hcap : 0 ≤ capAt a n shelf left ∧ capAt a n shelf left ≤ 1000000 := by
            have := hsw a (List.mem_of_getElem? ha)
            unfold capAt
            split <;> omega
          have hbb := hbw b (List.mem_of_getElem? hb)
          have hc2 := hcan.2.1
          obtain ⟨w2, hw2⟩ : ∃ w2, w2 = bestW sh mv (books.drop (book + 1)) (book + 1) n (capAt a n shelf left - b.wide) := ⟨_, rfl⟩
          have hw2' : wayAt sh mv books (book + 1) n (capAt a n shelf left - b.wide) = w2 := hw2.symm
          have hw2r := wayAt_le (sh := sh) hmv (books.drop (book + 1)) (book + 1) n (capAt a n shelf left - b.wide)
          rw [← hw2] at hw2r
          have hw2l : w2.1 < 1000 → book + 1 + w2.2.length ≤ 11 := fun h => by
            have := bestW_len (sh := sh) hmv (books.drop (book + 1)) (book + 1) n (capAt a n shelf left - b.wide) (by rw [← hw2]; exact h)
            rw [← hw2, List.length_drop] at this
            omega
          have hl2 : (arrW (book + 1) w2).length = 11 := arrW_len' hw2l
          have hm0 := hmv (book : Int) (n : Int)
          have hm1 := hmu (book : Int) (n : Int)
          have hqn : (q n).1 ≤ 1000 := pick_top n
          refine T.seq ?_
          refine T.text rfl ?_
          refine TO.val rfl rfl rfl (Val.load_row (p := pf + 4) F'.f ⟨_, rfl, rfl⟩ rfl rfl rfl) ?_
          refine TO.val rfl rfl rfl (Val.faddr_ptr (fo := 0) rfl rfl rfl) ?_
          refine TO.val rfl rfl rfl (Val.load_row (p := 3) rfl ⟨_, rfl, rfl⟩ rfl rfl rfl) ?_
          refine TO.val rfl rfl rfl (Val.add rfl rfl ⟨by omega, by omega⟩) ?_
          refine TO.val rfl rfl rfl (Val.move rfl) ?_
          refine TO.val rfl rfl rfl (Val.move rfl) ?_
          refine TO.val rfl rfl rfl (Val.faddr_ptr (fo := 3) rfl rfl rfl) ?_
          refine TO.val rfl rfl rfl (Val.load_row (p := 0) rfl ⟨_, rfl, rfl⟩ rfl rfl rfl) ?_
          refine TO.val rfl rfl rfl (Val.sub rfl rfl ⟨by omega, by omega⟩) ?_
          refine TO.val rfl rfl rfl (Val.buildC (cs := [iv ((book : Int) + 1), iv n, iv (capAt a n shelf left - b.wide)]) (vs := [(_, _), (_, _), (_, _)]) (ws := [(_, [_]), (_, [_]), (_, [_])]) rfl rfl (CellsL.cons rfl (CellsL.cons rfl (CellsL.cons rfl CellsL.nil))) rfl) ?_
          have F4 := ((((F'.push (.row b5 3 [iv book, iv shelf, iv left])).push (.row b6 1 (restC 0 (List.replicate 11 0)))).push (.row b7 1 (restC (q n).1 (arrW book (q n))))).push (.row b9 7 [iv (b.qK), iv (b.qL), sv b.qJ, iv (b.wide), iv (b.high), iv (b.heavy), iv (b.shelf)]))
          have hrec := ih F4 m'.2 (book + 1) n (capAt a n shelf left - b.wide) (by omega) (by omega) (by omega)
          rw [hw2', show ((book + 1 : Nat) : Int) = (book : Int) + 1 by omega] at hrec
          refine TO.callT (first := []) (cap := [.ptr idr 0 3, .ptr idk 0 1, .ptr idv 0 1, .ptr idf 0 1]) (vs := [.agg [iv ((book : Int) + 1), iv n, iv (capAt a n shelf left - b.wide)]]) rfl rfl rfl rfl rfl rfl (orcN rfl) hrec ?_
          rintro m''
          refine TO.things (hs' := .row b9 7 [iv (b.qK), iv (b.qL), sv b.qJ, iv (b.wide), iv (b.high), iv (b.heavy), iv (b.shelf)] :: .row b7 1 (restC (q n).1 (arrW book (q n))) :: .row b6 1 (restC 0 (List.replicate 11 0)) :: .row b5 3 [iv book, iv shelf, iv left] :: hs.set pm (memT idm m''.1)) (by show _ :: _ :: _ :: _ :: (hs.set pm _).set pm _ = _; rw [List.set_set]) ?_
          refine TO.alloc (k := 12) (cells := restC 0 (List.replicate 11 0)) rfl rfl rfl rfl rfl rfl rfl (fun b13 => ?_)
          refine TO.eff0 rfl rfl (Eff.store_rest (p := 0) (k := 11) (l' := arrW (book + 1) w2) (n' := w2.1) rfl rfl hl2 rfl rfl rfl) ?_
          rintro _ rfl
          refine TO.things (hs' := .row b13 1 (restC w2.1 (arrW (book + 1) w2)) :: .row b9 7 [iv (b.qK), iv (b.qL), sv b.qJ, iv (b.wide), iv (b.high), iv (b.heavy), iv (b.shelf)] :: .row b7 1 (restC (q n).1 (arrW book (q n))) :: .row b6 1 (restC 0 (List.replicate 11 0)) :: .row b5 3 [iv book, iv shelf, iv left] :: hs.set pm (memT idm m''.1)) rfl ?_
          refine TO.nil ?_
          have hl7 : (arrW book (q n)).length = 11 := arrW_len' fun h => by
            rcases pick_cases (z := (1000, List.replicate ((books.drop (book + 1)).length + 1) 0)) (f := candW sh mv b book shelf left fun n l => bestW sh mv (books.drop (book + 1)) (book + 1) n l) n with h1 | ⟨_, n0, _, h1, _⟩
            · have : (q n).1 = 1000 := congrArg Prod.fst h1
              omega
            · have h2 : candW sh mv b book shelf left (fun n l => bestW sh mv (books.drop (book + 1)) (book + 1) n l) n0 = some (q n) := h1
              unfold candW at h2
              simp only at h2
              cases ha0 : sh[n0]? with
              | none => rw [ha0] at h2; cases h2
              | some a0 =>
                rw [ha0] at h2
                simp only at h2
                split at h2
                · split at h2
                  · rename_i hlt
                    have h3 := bestW_len (sh := sh) hmv (books.drop (book + 1)) (book + 1) n0 (capAt a0 n0 shelf left - b.wide) hlt
                    have h4 := congrArg (fun x : Way => x.2.length) (Option.some.inj h2)
                    simp only [List.length_cons] at h4
                    rw [← h4, h3, List.length_drop]
                    omega
                  · cases h2
                · cases h2
          refine T.seq ?_
          refine T.text rfl ?_
          refine TO.val rfl rfl rfl (Val.move rfl) ?_
          refine TO.val rfl rfl rfl (Val.faddr_ptr (fo := 0) rfl rfl rfl) ?_
          refine TO.val rfl rfl rfl (Val.load_rest0 (p := 0) (k := 11) rfl hl2 ⟨_, rfl, rfl⟩ rfl) ?_
          refine TO.val rfl rfl rfl (Val.add rfl rfl ⟨by omega, by omega⟩) ?_
          refine TO.val rfl rfl rfl (Val.faddr_ptr (fo := 0) rfl rfl rfl) ?_
          refine TO.val rfl rfl rfl (Val.load_rest0 (p := 2) (k := 11) rfl hl7 ⟨_, rfl, rfl⟩ rfl) ?_
          obtain ⟨c106, hc106⟩ : ∃ c : Bool, c = decide (mv book n + w2.1 < (q n).1) := ⟨_, rfl⟩
          refine TO.val rfl rfl rfl (Val.lss hc106 rfl rfl) ?_
          refine TO.nil ?_
          have hcand : candW sh mv b book shelf left (fun n l => bestW sh mv (books.drop (book + 1)) (book + 1) n l) n = if w2.1 < 1000 then some (mv book n + w2.1, (n : Int) :: w2.2) else none := by
            unfold candW
            simp only [ha, if_pos hcan, ← hw2]
          cases c106 with
          | true =>
            replace hc106 := of_decide_eq_true hc106.symm
            refine T.condT (fun a ha => ha.ev (.tmp 106) _ rfl) ?_
            have hw2lt : w2.1 < 1000 := by omega
            have hq : q (n + 1) = (mv book n + w2.1, (n : Int) :: w2.2) := by
              show pick _ _ (n + 1) = _
              rw [pick, hcand, if_pos hw2lt]
              exact if_pos hc106
            have harr : (arrW (book + 1) w2).set book (n : Int) = arrW book (q (n + 1)) := by
              rw [hq]
              exact arrW_set hw2lt (by omega) (hw2l hw2lt)
            refine T.seq ?_
            refine T.text rfl ?_
            refine TO.val rfl rfl rfl (Val.move rfl) ?_
            refine TO.val rfl rfl rfl (Val.faddr_ptr (fo := 0) rfl rfl rfl) ?_
            refine TO.val rfl rfl rfl (Val.load_rest0 (p := 0) (k := 11) rfl hl2 ⟨_, rfl, rfl⟩ rfl) ?_
            refine TO.val rfl rfl rfl (Val.add rfl rfl ⟨by omega, by omega⟩) ?_
            refine TO.val rfl rfl rfl (Val.faddr_ptr (fo := 1) rfl rfl rfl) ?_
            refine TO.val rfl rfl rfl (Val.load_restA (p := 0) (k := 11) rfl hl2 ⟨⟨_, rfl, rfl⟩, rfl, by decide⟩ rfl) ?_
            refine TO.val rfl rfl rfl (Val.buildC (cs := restC (mv book n + w2.1) (arrW (book + 1) w2)) (vs := [(_, _), (_, _)]) (ws := [(_, [_]), (_, vecC (arrW (book + 1) w2))]) rfl rfl (CellsL.cons rfl (CellsL.cons rfl CellsL.nil)) (build_rest hl2)) ?_
            refine TO.eff0 rfl rfl (Eff.store_rest (p := 2) (k := 11) (l' := arrW (book + 1) w2) (n' := mv book n + w2.1) rfl (restC_len hl7) hl2 rfl rfl rfl) ?_
            rintro _ rfl
            refine TO.things (hs' := .row b13 1 (restC w2.1 (arrW (book + 1) w2)) :: .row b9 7 [iv (b.qK), iv (b.qL), sv b.qJ, iv (b.wide), iv (b.high), iv (b.heavy), iv (b.shelf)] :: .row b7 1 (restC (mv book n + w2.1) (arrW (book + 1) w2)) :: .row b6 1 (restC 0 (List.replicate 11 0)) :: .row b5 3 [iv book, iv shelf, iv left] :: hs.set pm (memT idm m''.1)) rfl ?_
            refine TO.nil ?_
            refine T.text rfl ?_
            refine TO.val rfl rfl rfl (Val.faddr_ptr (fo := 0) rfl rfl rfl) ?_
            refine TO.val rfl rfl rfl (Val.load_row (p := 4) rfl ⟨_, rfl, rfl⟩ rfl rfl rfl) ?_
            refine TO.val rfl rfl rfl (Val.move rfl) ?_
            refine TO.val rfl rfl rfl (Val.faddr_ptr (fo := 1) rfl rfl rfl) ?_
            refine TO.val rfl rfl rfl (Val.iaddr_array (m := 11) rfl rfl rfl rfl ⟨by omega, by omega⟩) ?_
            refine TO.eff0 rfl rfl (Eff.store_restAt (p := 2) (k := 11) (i := (book : Int)) rfl hl2 ⟨by omega, by omega⟩ rfl rfl rfl) ?_
            rintro _ rfl
            refine TO.things (hs' := .row b13 1 (restC w2.1 (arrW (book + 1) w2)) :: .row b9 7 [iv (b.qK), iv (b.qL), sv b.qJ, iv (b.wide), iv (b.high), iv (b.heavy), iv (b.shelf)] :: .row b7 1 (restC (q (n + 1)).1 (arrW book (q (n + 1)))) :: .row b6 1 (restC 0 (List.replicate 11 0)) :: .row b5 3 [iv book, iv shelf, iv left] :: hs.set pm (memT idm m''.1)) (by
              show _ :: _ :: Thing.row b7 1 (restC (mv book n + w2.1) ((arrW (book + 1) w2).set ((book : Int)).toNat (n : Int))) :: _ = _
              rw [show ((book : Int)).toNat = book by omega, harr, hq]) ?_
            refine TO.nil ?_
            refine T.text rfl ?_
            refine TO.val rfl rfl rfl (Val.add rfl rfl ⟨by omega, by omega⟩) ?_
            refine TO.val rfl rfl rfl (Val.move rfl) ?_
            refine TO.nil ?_
            have hst : st (n + 1) m'' = ⟨[], [(1, .ptr idr 0 3), (2, .ptr idk 0 1), (3, .ptr idv 0 1), (4, .ptr idf 0 1), (5, .ptr b5 0 3), (6, .ptr b6 0 12), (7, .ptr b7 0 12), (9, .ptr b9 0 7), (41, iv sh.length), (42, iv ((n : Int) + 1))],
                .row b9 7 [iv (b.qK), iv (b.qL), sv b.qJ, iv (b.wide), iv (b.high), iv (b.heavy), iv (b.shelf)] :: .row b7 1 (restC (q (n + 1)).1 (arrW book (q (n + 1)))) :: .row b6 1 (restC 0 (List.replicate 11 0)) :: .row b5 3 [iv book, iv shelf, iv left] :: hs.set pm (memT idm m''.1)⟩ := by
              show Sy.mk _ _ _ = Sy.mk _ _ _
              rfl
            refine ⟨sh.length - (n + 1), st (n + 1) m'', by omega, ⟨n + 1, m'', rfl, by omega, rfl⟩, ?_⟩
            rw [hst]
            exact ⟨rfl, keep_cons rfl (keep_cons rfl (keep_cons rfl (keep_cons rfl (keep_cons rfl (keep_cons rfl (keep_cons rfl (keep_cons rfl (keep_cons rfl (keep_cons rfl (keep_nil)))))))))), List.sublist_cons_self _ _⟩
          | false =>
            replace hc106 := of_decide_eq_false hc106.symm
            refine T.condF (fun a ha => ha.ev (.tmp 106) _ rfl) ?_
            refine T.skip ?_
            have hq : q (n + 1) = q n := by
              show pick _ _ (n + 1) = pick _ _ n
              rw [pick, hcand]
              by_cases h : w2.1 < 1000
              · rw [if_pos h]
                exact if_neg hc106
              · rw [if_neg h]
            refine T.text rfl ?_
            refine TO.val rfl rfl rfl (Val.add rfl rfl ⟨by omega, by omega⟩) ?_
            refine TO.val rfl rfl rfl (Val.move rfl) ?_
            refine TO.nil ?_
            have hst : st (n + 1) m'' = ⟨[], [(1, .ptr idr 0 3), (2, .ptr idk 0 1), (3, .ptr idv 0 1), (4, .ptr idf 0 1), (5, .ptr b5 0 3), (6, .ptr b6 0 12), (7, .ptr b7 0 12), (9, .ptr b9 0 7), (41, iv sh.length), (42, iv ((n : Int) + 1))],
                .row b9 7 [iv (b.qK), iv (b.qL), sv b.qJ, iv (b.wide), iv (b.high), iv (b.heavy), iv (b.shelf)] :: .row b7 1 (restC (q n).1 (arrW book (q n))) :: .row b6 1 (restC 0 (List.replicate 11 0)) :: .row b5 3 [iv book, iv shelf, iv left] :: hs.set pm (memT idm m''.1)⟩ := by
              show Sy.mk _ _ _ = Sy.mk _ _ _
              rw [hq]; rfl
            refine ⟨sh.length - (n + 1), st (n + 1) m'', by omega, ⟨n + 1, m'', rfl, by omega, rfl⟩, ?_⟩
            rw [hst]
            exact ⟨rfl, keep_cons rfl (keep_cons rfl (keep_cons rfl (keep_cons rfl (keep_cons rfl (keep_cons rfl (keep_cons rfl (keep_cons rfl (keep_cons rfl (keep_cons rfl (keep_nil)))))))))), List.sublist_cons_self _ _⟩
end Go.Am.YtiaolgbmbhldgaaGreatDoor
end
section
namespace Go.Am.YtiaolgbmbhldgaaGreatDoor
open Go.Am Go.RowKit
set_option linter.unusedVariables false
set_option maxRecDepth 100000
theorem hu_ty167 : pureVal Go.Proofs.Tryz.prog (underlying 167) = some Go.Proofs.Tryz.t166.desc := by kernel_rfl
theorem eq_ty167 (k q : K3) : pureVal Go.Proofs.Tryz.prog (Op.equal 167 (keyV k) (keyV q)) = some (decide (k = q)) := by
 obtain ⟨a, b, c⟩ := k;obtain ⟨a', b', c'⟩ := q
 have h := pure_eq3 (P := Go.Proofs.Tryz.prog) (t := 167) (xs := #[.int .i64 a, .int .i64 b, .int .i64 c]) (ys := #[.int .i64 a', .int .i64 b', .int .i64 c']) (a0 := a) (b0 := a') (a1 := b) (b1 := b') (a2 := c) (b2 := c') hu_ty167 (by kernel_rfl)
  ⟨by decide, ⟨.i64, by kernel_rfl⟩, by kernel_rfl⟩ ⟨by decide, ⟨.i64, by kernel_rfl⟩, by kernel_rfl⟩ ⟨by decide, ⟨.i64, by kernel_rfl⟩, by kernel_rfl⟩ ⟨by decide, ⟨.i64, by kernel_rfl⟩, by kernel_rfl⟩ ⟨by decide, ⟨.i64, by kernel_rfl⟩, by kernel_rfl⟩ ⟨by decide, ⟨.i64, by kernel_rfl⟩, by kernel_rfl⟩
 refine h.trans ?_
 congr 1
 by_cases h1 : a = a' <;> by_cases h2 : b = b' <;> by_cases h3 : c = c' <;> simp [h1, h2, h3]
theorem key_ty167 {k : Nat} : KeyG (EL k).P 167 KTrip := keyTrip (P := Go.Proofs.Tryz.prog) hu_ty167 (fun q e => by kernel_rfl) eq_ty167
theorem tf_arrange {k : Nat} {C : List Thing} {vC vS vB : AV} {c : FuncId} {first caps : List AV} {sh : List qH} {books : List qB} {F : Int → Int → Option Int} {r : Int × List Int}
    (hS : Rdl C qO vS sh) (hB : Rdl C qI vB books) {fnc : Func} (hcf : (EL k).fn c = some fnc) (hco : (EL k).orc c = none)
    (hF : ∀ (hs' : List Thing) (i n v : Int), (∀ x ∈ C, x ∈ hs') → F i n = some v → TF (EL k) c (first ++ [iv i, iv n] ++ caps) hs' (RepF (fun _ : Unit => iv v) fun _ => hs')) (h : P_s9_arrange sh books F = some r) :
    TF (EL k) 97 [.agg [vC, vS, vB], .func c first caps] C (RepF (fun _ : Unit => .agg (restC r.1 r.2)) fun _ => C) := by
  obtain ⟨a0, ha0, hok, hr, hlen⟩ := arrange_some h
  obtain ⟨⟨h11, hs4⟩, hbw, hsw, hall⟩ := hok
  refine TF.enterG (fn := Go.Proofs.Tryz.f97) rfl rfl rfl rfl rfl ?_
  refine T.seq ?_
  refine T.text rfl ?_
  refine TO.box (k := 3) (cells := [_, _, _]) rfl rfl rfl rfl rfl rfl rfl (fun idr => ?_)
  refine TO.box (k := 1) (cells := [_]) rfl rfl rfl rfl rfl rfl rfl (fun idv => ?_)
  refine TO.alloc (k := 12) (cells := restC 0 (List.replicate 11 0)) rfl rfl rfl rfl rfl rfl rfl (fun b4 => ?_)
  refine TO.nil ?_
  refine T.seq ?_
  refine T.text rfl ?_
  refine TO.makeMap3 rfl rfl rfl (fun idm => ?_)
  refine TO.alloc (k := 1) (cells := [_]) rfl rfl rfl rfl rfl rfl rfl (fun idk => ?_)
  refine TO.eff0 rfl rfl (Eff.store_row (p := 0) (cv := [_]) (cells' := [_]) rfl rfl rfl rfl rfl rfl rfl rfl rfl (by decide) rfl) ?_
  rintro _ rfl
  refine TO.things (hs' := .row idk 1 [.map idm] :: memT idm [] :: .row b4 1 (restC 0 (List.replicate 11 0)) :: .row idv 1 [.func c first caps] :: .row idr 3 [vC, vS, vB] :: C) rfl ?_
  refine TO.nil ?_
  refine T.seq ?_
  refine T.text rfl ?_
  refine TO.alloc (k := 1) (cells := [_]) rfl rfl rfl rfl rfl rfl rfl (fun idf => ?_)
  refine TO.nil ?_
  refine T.seq ?_
  refine T.text rfl ?_
  refine TO.val rfl rfl rfl (Val.makeFunc rfl rfl) ?_
  refine TO.eff0 rfl rfl (Eff.store_row (p := 0) (cv := [_]) (cells' := [_]) rfl rfl rfl rfl rfl rfl rfl rfl rfl (by decide) rfl) ?_
  rintro _ rfl
  refine TO.things (hs' := .row idf 1 [.func 132 [] [.ptr idr 0 3, .ptr idk 0 1, .ptr idv 0 1, .ptr idf 0 1]] :: .row idk 1 [.map idm] :: memT idm [] :: .row b4 1 (restC 0 (List.replicate 11 0)) :: .row idv 1 [.func c first caps] :: .row idr 3 [vC, vS, vB] :: C) rfl ?_
  refine TO.nil ?_
  have F0 : Finds (.row idf 1 [.func 132 [] [.ptr idr 0 3, .ptr idk 0 1, .ptr idv 0 1, .ptr idf 0 1]] :: .row idk 1 [.map idm] :: memT idm [] :: .row b4 1 (restC 0 (List.replicate 11 0)) :: .row idv 1 [.func c first caps] :: .row idr 3 [vC, vS, vB] :: C) C 5 1 4 0 2 idr idk idv idf idm vC vS vB c first caps [] :=
    ⟨rfl, rfl, rfl, rfl, rfl, fun x hx => by
      obtain ⟨i, hi⟩ := List.getElem?_of_mem hx
      exact ⟨i + 6, by omega, hi⟩⟩
  refine T.seq ?_
  refine T.drawE (l1 := [0, 1, 2, 3, 4, 5, 6, 7]) (l2 := [8, 9]) (by kernel_rfl) (by kernel_rfl) ?_
  refine TD1.read rfl rfl rfl rfl (Val.load_row (p := 0) rfl ⟨_, rfl, rfl⟩ rfl rfl rfl) ?_
  refine TD1.light rfl rfl rfl rfl (Val.faddr_ptr (fo := 0) rfl rfl rfl) ?_
  refine TD1.light rfl rfl rfl rfl (Val.faddr_ptr (fo := 1) rfl rfl rfl) ?_
  refine TD1.read rfl rfl rfl rfl (Val.load_row (p := 5) rfl ⟨_, rfl, rfl⟩ rfl rfl rfl) ?_
  have h0lt := (List.getElem?_eq_some_iff.1 ha0).1
  refine TD1.fact (rdl_at (k := (0 : Int)) (a := a0) hS (memS (memS (memS (memS (memS (memS mem0)))))) ⟨by omega, by omega⟩ ha0) (fun hp => ?_)
  obtain ⟨pa, hpa, hva⟩ := hp
  refine TD1.light rfl rfl rfl rfl (hva ⟨rfl, rfl⟩ rfl rfl) ?_
  refine TD1.light rfl rfl rfl rfl (Val.faddr_e (fo := 2) hpa rfl rfl rfl) ?_
  refine TD1.read rfl rfl rfl rfl (Val.load_e (PtE.add hpa (by decide)) (memS (memS (memS (memS (memS (memS mem0)))))) ⟨_, rfl, rfl⟩ rfl rfl) ?_
  refine TD1.light rfl rfl rfl rfl (Val.buildC (cs := [iv 0, iv 0, iv a0.wide]) (vs := [(_, _), (_, _), (_, _)]) (ws := [(_, [_]), (_, [_]), (_, [_])]) rfl rfl (CellsL.cons rfl (CellsL.cons rfl (CellsL.cons rfl CellsL.nil))) rfl) ?_
  refine TD1.over (fun v => sameC_refl v) (all_cons (⟨_, rfl, (Val.load_e (PtE.add hpa (by decide)) (memS (memS (memS (memS (memS (memS mem0)))))) ⟨_, rfl, rfl⟩ rfl rfl)⟩) (all_cons (⟨_, rfl, (Val.load_row (p := 5) rfl ⟨_, rfl, rfl⟩ rfl rfl rfl)⟩) (all_cons (⟨_, rfl, (Val.load_row (p := 0) rfl ⟨_, rfl, rfl⟩ rfl rfl rfl)⟩) all_nil))) ?_
  have hfind := tf_find hS hB key_ty167 h11 hs4 (fun i n => (mvOf_rng F i n).1) (fun i n => (mvOf_rng F i n).2) hcf hco hbw hsw (fun hs' i n hC hi hn => hF hs' i n _ hC (hall i n hi hn)) 12 F0 (fun q v hq => by cases hq) 0 0 a0.wide (Nat.zero_le _) (by omega) (hsw a0 (List.mem_of_getElem? ha0))
  refine TD2.heavy (fun v => sameC_refl v) rfl (by decide) rfl rfl (OpS.callV rfl rfl rfl rfl (orcN rfl) (RepF.conv hfind)) ?_
  rintro _ hs_ ⟨m', rfl, he_⟩
  subst hs_
  refine ⟨(all_cons (.inl (by kernel_rfl)) (all_cons (.inl (by kernel_rfl)) (all_cons (.inl (by kernel_rfl)) all_nil))), all_nil, ?_⟩
  have hw : r = ((wayAt sh (mvOf F) books 0 0 a0.wide).1, arrW 0 (wayAt sh (mvOf F) books 0 0 a0.wide)) := hr
  have hout : outV 0 (wayAt sh (mvOf F) books 0 0 a0.wide) = .agg (restC r.1 r.2) := by rw [hw]; rfl
  rw [hout]
  refine TD2.things (hs' := .row idf 1 [.func 132 [] [.ptr idr 0 3, .ptr idk 0 1, .ptr idv 0 1, .ptr idf 0 1]] :: .row idk 1 [.map idm] :: memT idm m'.1 :: .row b4 1 (restC 0 (List.replicate 11 0)) :: .row idv 1 [.func c first caps] :: .row idr 3 [vC, vS, vB] :: C) rfl ?_
  refine TD2.heavy (fun v => sameC_refl v) rfl (by decide) rfl rfl (OpS.eff (Eff.store_rest (p := 3) (k := 11) (l' := r.2) (n' := r.1) rfl rfl hlen rfl rfl rfl)) ?_
  rintro _ _ rfl
  refine ⟨(all_cons (.inl (by kernel_rfl)) (all_cons (.inl (by kernel_rfl)) (all_cons (.inl (by kernel_rfl)) all_nil))), all_nil, ?_⟩
  refine TD2.things (hs' := .row idf 1 [.func 132 [] [.ptr idr 0 3, .ptr idk 0 1, .ptr idv 0 1, .ptr idf 0 1]] :: .row idk 1 [.map idm] :: memT idm m'.1 :: .row b4 1 (restC r.1 r.2) :: .row idv 1 [.func c first caps] :: .row idr 3 [vC, vS, vB] :: C) rfl ?_
  refine TD2.nil ?_
  refine T.ret ?_
  exact ⟨rfl, _, rfl, [_], ⟨⟨_, rfl, LoadR.rows (p := 3) (c := restC r.1 r.2) rfl ⟨⟨_, rfl, rfl⟩, rfl, by decide⟩ (restC_len hlen) (by rw [List.drop_zero, List.take_of_length_le (by rw [restC_len hlen]; exact Nat.le_refl _)]) rfl⟩, trivial⟩, ⟨(), rfl, .drop (.drop (.drop (.drop (.drop (.drop .refl)))))⟩⟩
theorem tf_cloneA {k p id cap : Nat} {hs : List Thing} {m : Int} {l : List Int} {n : Int} (hp : hs[p]? = some (.row id 1 (restC m l))) (hl : l.length = 11) (hn : 0 ≤ n ∧ n ≤ 11) :
    TF (EL k) 101 [.slice id 1 12 true n.toNat cap] hs (RepF (fun v : AV => v) fun v => ownL false v encI (l.take n.toNat) :: hs) := by
  refine TF.enter (fn := Go.Proofs.Tryz.f101) rfl rfl rfl rfl rfl ?_
  refine T.seq ?_
  refine T.text rfl ?_
  refine TO.val rfl rfl rfl (Val.assign rfl) ?_
  refine TO.nil ?_
  refine T.seq ?_
  refine T.seq ?_
  refine T.text rfl ?_
  refine TO.val rfl rfl rfl (Val.move rfl) ?_
  refine TO.val rfl rfl rfl (Val.nil_eqS rfl rfl rfl) ?_
  refine TO.nil ?_
  refine T.condF (fun a ha => ha.ev (.tmp 4) _ rfl) ?_
  refine T.skip ?_
  refine T.seq ?_
  refine T.text rfl ?_
  refine TO.build0 (en := encI) rfl rfl rfl ⟨rfl, rfl⟩ (fun v => ?_)
  refine TO.val rfl rfl rfl (Val.move rfl) ?_
  refine TO.eff rfl rfl rfl (Eff.append_row (b := 8) (l := []) (l2 := l.take n.toNat) (p := 0) (q := p + 1) ⟨rfl, rfl, rfl, ⟨_, rfl, rfl⟩, by decide, by decide⟩ rfl rfl rfl hp (restC_len hl) (by
    show (vecC l).take n.toNat = vecC (l.take n.toNat)
    rw [vecC, vecC, List.map_take]) (by omega) rfl rfl (by decide) (by simp; omega)) ?_
  rintro v7 _ rfl
  refine TO.things (hs' := ownL false v7 encI (l.take n.toNat) :: hs) rfl ?_
  refine TO.val rfl rfl rfl (Val.assign rfl) ?_
  refine TO.nil ?_
  refine T.ret ?_
  exact ⟨rfl, _, rfl, ⟨v7, rfl, .refl⟩⟩
end Go.Am.YtiaolgbmbhldgaaGreatDoor
end
section
namespace Go.Am.YtiaolgbmbhldgaaGreatDoor
open Go.Am Go.RowKit
set_option linter.unusedVariables false
set_option linter.unusedSimpArgs false
set_option maxRecDepth 10000 in
theorem tf_s9_own {k : Nat} (hk : 0 ≤ k) {C : List Thing} {v_r_SfRoom_Classes : AV} {r_SfRoom_Classes : List Str} {v_r_SfRoom_Shelves : AV} {r_SfRoom_Shelves : List qH} {v_r_SfRoom_Books : AV} {r_SfRoom_Books : List qB} {i : Int} {shelf : Int} (h_r_SfRoom_Classes : Rdl C encStr v_r_SfRoom_Classes r_SfRoom_Classes) (h_r_SfRoom_Shelves : Rdl C qO v_r_SfRoom_Shelves r_SfRoom_Shelves) (h_r_SfRoom_Books : Rdl C qI v_r_SfRoom_Books r_SfRoom_Books) {r : Int} (h : P_s9_own r_SfRoom_Classes r_SfRoom_Shelves r_SfRoom_Books i shelf = some r) :
  TF (EL k) 99 [.agg [v_r_SfRoom_Classes, v_r_SfRoom_Shelves, v_r_SfRoom_Books], iv (i), iv (shelf)] C (RepF (fun (w : Unit) => iv r) (fun (w : Unit) => C)) := by
 unfold P_s9_own at h;refine TF.enter (fn := Go.Proofs.Tryz.f99) rfl rfl rfl rfl rfl (zU rfl (zQ 3 [_,_,_] R7 (fun b3=>zA R4 (zN (zS (zU rfl (zF 0 R6 (zF 2 R6 (zL 0 R3 R6 (zM R4 ?_))))))))));obtain ⟨a11, hia11, ea11, h⟩ := el_some h;refine TO.fact (rdl_at h_r_SfRoom_Books M1 hia11 ea11) (fun hp=>?_);obtain ⟨pa11, hpa11, hva11⟩ := hp;refine zV R3 (hva11 ⟨rfl, rfl⟩ rfl rfl) (zV R3 (Val.faddr_e (fo := 6) hpa11 rfl rfl rfl) (zV R3 (Val.load_e (PtE.add hpa11 (by decide)) M1 ⟨_, rfl, rfl⟩ rfl rfl) (zM R4 ?_)));obtain ⟨c15, hc15⟩ := zY (a11.shelf = shelf);refine zV R3 (Val.eql hc15 rfl rfl) (zN ?_);obtain ⟨rfl, hc15, h⟩ | ⟨rfl, hc15, h⟩ := zI hc15 h
 ·refine zC rfl (zU rfl (zA R4 (zN (zR ?_))));cases h;exact ⟨rfl, _, rfl, ⟨(), rfl, (pk [98] rfl)⟩⟩
 refine zD rfl (zK (zU rfl (zA R4 (zN (zR ?_)))));cases h;exact ⟨rfl, _, rfl, ⟨(), rfl, (pk [98] rfl)⟩⟩
set_option maxRecDepth 10000 in
theorem tf_s9_Clear1 {k : Nat} (hk : 0 ≤ k) {C : List Thing} {i : Int} {n : Int} {id_p2 : Nat} {p2_x : Int} {id_p3 : Nat} {v_p3_SfRoom_Classes : AV} {p3_SfRoom_Classes : List Str} {v_p3_SfRoom_Shelves : AV} {p3_SfRoom_Shelves : List qH} {v_p3_SfRoom_Books : AV} {p3_SfRoom_Books : List qB} (h_p2 : Thing.row id_p2 1 [iv (p2_x)] ∈ C) (h_p3_SfRoom_Classes : Rdl C encStr v_p3_SfRoom_Classes p3_SfRoom_Classes) (h_p3_SfRoom_Shelves : Rdl C qO v_p3_SfRoom_Shelves p3_SfRoom_Shelves) (h_p3_SfRoom_Books : Rdl C qI v_p3_SfRoom_Books p3_SfRoom_Books) (h_p3 : Thing.row id_p3 3 [v_p3_SfRoom_Classes, v_p3_SfRoom_Shelves, v_p3_SfRoom_Books] ∈ C) {r : Int} (h : P_s9_Clear1 i n p2_x p3_SfRoom_Classes p3_SfRoom_Shelves p3_SfRoom_Books = some r) :
  TF (EL k) 106 [iv (i), iv (n), .ptr id_p2 0 1, .ptr id_p3 0 3] C (RepF (fun (w : Unit) => iv r) (fun (w : Unit) => C)) := by
 unfold P_s9_Clear1 at h;refine TF.enter (fn := Go.Proofs.Tryz.f106) rfl rfl rfl rfl rfl (zU rfl (zA R4 (zN (zS (zU rfl (zM R4 (zV R3 (Val.load_rowM h_p2 mem0 ⟨_, rfl, rfl⟩ rfl rfl rfl) ?_)))))));obtain ⟨c9, hc9⟩ := zY (n = p2_x);refine zV R3 (Val.eql hc9 rfl rfl) (zN ?_);obtain ⟨rfl, hc9, h⟩ | ⟨rfl, hc9, h⟩ := zI hc9 h
 ·refine zC rfl (zU rfl (zA R4 (zN (zR ?_))));cases h;exact ⟨rfl, _, rfl, ⟨(), rfl, .refl⟩⟩
 refine zD rfl (zK (zU rfl (zV R3 (Val.load_rowsM (c := [_, _, _]) h_p3 mem0 ⟨⟨_, rfl, rfl⟩, rfl, by decide⟩ rfl rfl rfl rfl) (zM R4 (zM R4 ?_)))));obtain ⟨y13, hr13, h⟩ := andx_some h;refine TO.callT (first := []) (cap := []) (vs := [.agg [v_p3_SfRoom_Classes, v_p3_SfRoom_Shelves, v_p3_SfRoom_Books], iv (i), iv (n)]) rfl rfl rfl rfl rfl rfl (orcN rfl) (tf_s9_own aD (Rdl.mono h_p3_SfRoom_Classes mem0) (Rdl.mono h_p3_SfRoom_Shelves mem0) (Rdl.mono h_p3_SfRoom_Books mem0) hr13) ?_;rintro _;refine zG (C) rfl (zA R4 (zN (zR ?_)));cases h;exact ⟨rfl, _, rfl, ⟨(), rfl, .refl⟩⟩
set_option maxRecDepth 10000 in
theorem tf_s9_Arrange1 {C : List Thing} {a_ : Int} {b : Int} {id_p2 : Nat} {v_p2_Classes : AV} {p2_Classes : List Str} {v_p2_Shelves : AV} {p2_Shelves : List qH} {v_p2_Books : AV} {p2_Books : List qB} (h_p2_Classes : Rdl C encStr v_p2_Classes p2_Classes) (h_p2_Shelves : Rdl C qO v_p2_Shelves p2_Shelves) (h_p2_Books : Rdl C qI v_p2_Books p2_Books) (h_p2 : Thing.row id_p2 3 [v_p2_Classes, v_p2_Shelves, v_p2_Books] ∈ C) {r : Int} (h : P_s9_Arrange1 a_ b p2_Classes p2_Shelves p2_Books = some r) :
  Still env0 104 [iv (a_), iv (b), .ptr id_p2 0 3] C (iv r) := by
 unfold P_s9_Arrange1 at h;refine Still.enter (fn := Go.Proofs.Tryz.f104) rfl rfl rfl rfl rfl ?_;refine CS.seq ?_;refine CS.text rfl ?_;refine zA R4 (zN ?_);refine CS.seq ?_;refine CS.draw (fun v => sameC_refl v) (l1 := [0, 1, 2, 3, 4, 5, 6, 7, 8, 9, 10, 11]) (l2 := [12, 13]) (by kernel_rfl) (by kernel_rfl) ?_;refine zF 2 R6 (zV R3 (Val.load_rowM h_p2 mem0 ⟨_, rfl, rfl⟩ rfl rfl rfl) (zM R4 ?_));obtain ⟨a9, hia9, ea9, h⟩ := el_some h;refine TO.fact (rdl_at h_p2_Books mem0 hia9 ea9) (fun hp=>?_);obtain ⟨pa9, hpa9, hva9⟩ := hp;refine zV R3 (hva9 ⟨rfl, rfl⟩ rfl rfl) (zV R3 (Val.faddr_e (fo := 0) hpa9 rfl rfl rfl) (zV R3 (Val.load_es (c := [_, _, _]) (PtE.add hpa9 (by decide)) mem0 ⟨⟨_, rfl, rfl⟩, rfl, by decide⟩ rfl rfl rfl) (zF 2 R6 (zV R3 (Val.load_rowM h_p2 mem0 ⟨_, rfl, rfl⟩ rfl rfl rfl) (zM R4 ?_)))));obtain ⟨a15, hia15, ea15, h⟩ := el_some h;refine TO.fact (rdl_at h_p2_Books mem0 hia15 ea15) (fun hp=>?_);obtain ⟨pa15, hpa15, hva15⟩ := hp;refine zV R3 (hva15 ⟨rfl, rfl⟩ rfl rfl) (zV R3 (Val.faddr_e (fo := 0) hpa15 rfl rfl rfl) (zV R3 (Val.load_es (c := [_, _, _]) (PtE.add hpa15 (by decide)) mem0 ⟨⟨_, rfl, rfl⟩, rfl, by decide⟩ rfl rfl rfl) ?_));obtain ⟨y18, hr18, h⟩ := andx_some h;refine TO.call rfl rfl rfl rfl rfl (Q.orcL rfl aD) (.cons (.agg (.cons .lit (.cons .lit (.cons .lit .nil)))) (.cons (.agg (.cons .lit (.cons .lit (.cons .lit .nil)))) .nil)) (sem_of (Q.w_s9_compare a9.qK a9.qL a9.qJ a15.qK a15.qL a15.qJ _ (by exact hr18))) (zA R4 (zN ?_));refine CS.ret ?_;cases h;exact ⟨rfl, _, rfl, rfl⟩
set_option maxRecDepth 10000 in
theorem tf_s9_Clear {k : Nat} (hk : 1 ≤ k) {C : List Thing} {qC : AV} {qF : List Str} {qE : AV} {qA : List qH} {qD : AV} {qG : List qB} {shelf : Int} (qAb : RdT encStr qC qF) (qAc : RdT qO qE qA) (qAa : RdT qI qD qG) {r : (List Int) × Bool × Int × Int} (h : P_s9_Clear qF qA qG shelf = some r) :
  TF (EL k) 36 [.agg [qC, qE, qD], iv (shelf)] C (RepF (fun (w : AV) => .tuple [w, iv r.2.2.1, iv r.2.2.2]) (fun (w : AV) => ownL r.2.1 w encI r.1 :: C)) := by
 unfold P_s9_Clear at h
 have qP : Rdl C encStr qC qF := RdT.rdl qAb
 have qN : Rdl C qO qE qA := RdT.rdl qAc
 have qM : Rdl C qI qD qG := RdT.rdl qAa;refine TF.enter (fn := Go.Proofs.Tryz.f36) rfl rfl rfl rfl rfl (zU rfl (zQ 3 [_,_,_] R7 (fun b2=>zQ 1 [_] R7 (fun b3=>zA R4 (zA R4 (zA R4 (zN (zU rfl (zV R3 (vW 1 [_,_,_] R5 R4) ?_)))))))));obtain ⟨y11, hr11, h⟩ := andx_some h;refine TO.callT (first := []) (cap := []) (vs := [.agg [qC, qE, qD]]) rfl rfl rfl rfl rfl rfl (orcN rfl) (tf_s9_open aD (Rdl.mono qP M2) (Rdl.mono qN M2) (Rdl.mono qM M2) hr11) ?_;rintro _;refine zG (_::_::C) rfl (zM R4 (zX R5 (zX R5 (zJ 3 [_,_,_] R7 (fun b7=>TO.fact (rdl_cellS qP M3) (fun qY=>TO.fact (rdl_cellS qN M3) (fun qZ=>TO.fact (rdl_cellS qM M3) (fun qX=>TO.eff0 rfl rfl (Eff.store_row (p := 0) (cv := [_, _, _]) (cells' := [_, _, _]) rfl rfl rfl rfl rfl rfl rfl rfl (by first | rfl | (simp [GS.one, qY.2, qZ.2, qX.2]; done) | (simp [GS.one, qY.2, qZ.2, qX.2]; (repeat' apply And.intro) <;> rfl)) (by decide) rfl) ?_))))))));rintro _ rfl;refine zG (_::_::_::C) rfl (zA R4 (zN (zS (zB (zU rfl (zM R4 ?_))))));obtain ⟨c16, hc16⟩ := zY (¬ y11 = 0);refine zV R3 (Val.neq hc16 rfl rfl) (zA R4 (zN ?_));obtain ⟨rfl, hc16, h⟩ | ⟨rfl, hc16, h⟩ := zI hc16 h
 ·refine zC rfl (zU rfl (zM R4 (zA R4 (zA R4 (zA R4 (zN (T.nilown (u := encI.u) (zR ?_))))))));cases h;exact ⟨rfl, _, rfl, ⟨nilS, rfl, (pk [0,98,98,98] rfl)⟩⟩
 refine zD rfl (zU rfl (zF 1 R6 (zL 2 R3 R6 (zV R3 (Val.len_l qN M3 rfl rfl) ?_))));obtain ⟨hk22, h⟩ := chk_some h;refine zV R3 (Val.sub rfl rfl hk22) (zL 1 R3 R6 (TO.build1 (en := encI) (a := shelf) rfl rfl rfl ⟨rfl, rfl⟩ ⟨_, rfl, rfl⟩ (by decide) (by decide) rfl rfl (fun v24=>?_)));obtain ⟨y25, hr25, h⟩ := andx_some h;refine TO.callT (first := []) (cap := []) (vs := [iv (0), iv (((qA.length : Int) - 1)), v24]) rfl rfl rfl rfl rfl rfl (orcN rfl) (tf_s9_out aD (Rdl.mono (Rdl.own (C := ownL false v24 encI [shelf] :: .row b7 3 [qC, qE, qD] :: .row b3 1 [iv (shelf)] :: .row b2 3 [qC, qE, qD] :: C) (p := 0) rfl) mem0) hr25) ?_;rintro _;refine zG (_::_::_::_::C) rfl (zA R4 (zN ?_));obtain ⟨rfl, h⟩ | ⟨rfl, h⟩ := zZ h
 ·refine zC rfl (zU rfl (zA R4 (zA R4 (zA R4 (zN (T.nilown (u := encI.u) (zR ?_)))))));cases h;exact ⟨rfl, _, rfl, ⟨nilS, rfl, (pk [0,98,98,98,98] rfl)⟩⟩
 refine zD rfl (zU rfl (zF 2 R6 (zL 3 R3 R6 ?_)));obtain ⟨y29, hr29, h⟩ := andx_some h;refine TO.callT (first := []) (cap := []) (vs := [qD]) rfl rfl rfl rfl rfl rfl (orcN rfl) (tf_s9_ordered aD (Rdl.mono qM M4) hr29) ?_;rintro _;refine zG (_::_::_::_::C) rfl (zV R3 (Val.not rfl) (zA R4 (zN ?_)));obtain ⟨rfl, h⟩ | ⟨rfl, h⟩ := zZ h
 ·refine zD rfl (zK (zU rfl (zV R3 (vW 1 [_,_,_] R5 R4) (zV R3 (Val.makeFunc rfl rfl) ?_))));obtain ⟨⟨m33, l33⟩, hr33, h⟩ := andx_some h;dsimp only at h
  have hl33 := arrange_len hr33;refine TO.callT (first := []) (cap := []) (vs := [.agg [qC, qE, qD], .func 106 [] [.ptr b3 0 1, .ptr b7 0 3]]) rfl rfl rfl rfl rfl rfl (orcN rfl) (tf_arrange (F := (fun i_ n_ => P_s9_Clear1 i_ n_ shelf qF qA qG)) (r := (m33, l33)) (Rdl.mono qN M4) (Rdl.mono qM M4) rfl (orcN rfl) (fun hs_ i_ n_ r_ hC_ hr_ => tf_s9_Clear1 (C := hs_) aD (hC_ _ (List.mem_of_getElem? (i := 2) rfl)) (Rdl.mono (Rdl.mono qP M4) hC_) (Rdl.mono (Rdl.mono qN M4) hC_) (Rdl.mono (Rdl.mono qM M4) hC_) (hC_ _ (List.mem_of_getElem? (i := 1) rfl)) hr_) hr33) ?_;rintro _;refine zG (_::_::_::_::C) rfl (TO.alloc (k := 12) (cells := restC 0 (List.replicate 11 0)) rfl rfl rfl rfl rfl rfl rfl (fun b8=>TO.eff0 rfl rfl (Eff.store_rest (p := 0) (k := 11) (l' := l33) (n' := m33) rfl (restC_len List.length_replicate) hl33 rfl rfl rfl) ?_));rintro _ rfl;refine zG (_::_::_::_::_::C) rfl (zN (zS (zU rfl (zF 0 R6 (zV R3 (Val.load_rest0 (p := 0) (k := 11) rfl hl33 ⟨_, rfl, rfl⟩ rfl) ?_)))));obtain ⟨c36, hc36⟩ := zY (m33 ≥ 1000);refine zV R3 (Val.geq hc36 rfl rfl) (zN ?_);obtain ⟨rfl, hc36, h⟩ | ⟨rfl, hc36, h⟩ := zI hc36 h
  ·refine zC rfl (zU rfl (zA R4 (zA R4 (zA R4 (zN (T.nilown (u := encI.u) (zR ?_)))))));cases h;exact ⟨rfl, _, rfl, ⟨nilS, rfl, (pk [0,98,98,98,98,98] rfl)⟩⟩
  refine zD rfl (zK (zS (T.drawE (l1 := [0, 1, 2, 3, 4, 6, 7]) (l2 := [5, 8, 9, 10]) (by kernel_rfl) (by kernel_rfl) (yL R4 (Val.faddr_ptr (fo := 1) rfl rfl rfl) (yL R4 (Val.faddr_ptr (fo := 2) rfl rfl rfl) (yR R4 (vR (p := 4) R6) (yR R4 (Val.len_l qM M5 rfl rfl) ?_)))))));obtain ⟨hk41, h⟩ := chk_some h;refine yR R4 (Val.slice_arr (p := 0) (k := 12) (m := 11) rfl (restC_len hl33) rfl rfl rfl rfl rfl rfl hk41) (yL R4 (Val.faddr_ptr (fo := 0) rfl rfl rfl) (yR R4 (Val.load_rest0 (p := 0) (k := 11) rfl hl33 ⟨_, rfl, rfl⟩ rfl) (TD1.over (fun v => sameC_refl v) (all_cons (⟨_, rfl, (Val.load_rest0 (p := 0) (k := 11) rfl hl33 ⟨_, rfl, rfl⟩ rfl)⟩) (all_cons (⟨_, rfl, (Val.slice_arr (p := 0) (k := 12) (m := 11) rfl (restC_len hl33) rfl rfl rfl rfl rfl rfl hk41)⟩) (all_cons (⟨_, rfl, (Val.len_l qM M5 rfl rfl)⟩) (all_cons (⟨_, rfl, (vR (p := 4) R6)⟩) all_nil)))) (TD2.heavy (fun v => sameC_refl v) rfl (by decide) rfl rfl (OpS.callV rfl rfl rfl rfl (orcN rfl) (RepF.conv (tf_cloneA (p := 0) rfl hl33 hk41))) ?_))));rintro v42 hs_ ⟨v42, rfl, he_⟩;subst hs_;refine ⟨(all_cons (.inr ⟨_, rfl, (Val.load_rest0 (p := 1) (k := 11) rfl hl33 ⟨_, rfl, rfl⟩ rfl)⟩) (all_cons (.inl (by kernel_rfl)) (all_cons (.inl (by kernel_rfl)) (all_cons (.inl (by kernel_rfl)) all_nil)))), all_nil, ?_⟩;refine yG (_::_::_::_::_::_::C) rfl (yM R4 (Val.assign rfl) (yM R4 (Val.assign rfl) (yM R4 (Val.assign rfl) (TD2.nil (zR ?_)))));cases h;exact ⟨rfl, _, rfl, ⟨v42, rfl, (pk [0,98,98,98,98,98] rfl)⟩⟩
 refine zC rfl (zU rfl (zA R4 (zA R4 (zA R4 (zN (T.nilown (u := encI.u) (zR ?_)))))));cases h;exact ⟨rfl, _, rfl, ⟨nilS, rfl, (pk [0,98,98,98,98] rfl)⟩⟩
theorem w_s9_Clear (qF : GS encStr) (qA : GS qO) (qG : GS qI) (shelf : Int) (r : (List Int) × Bool × Int × Int) (h : P_s9_Clear qF.l qA.l qG.l shelf = some r) : Comes (EL 1) 36 [.agg [qF.v, qA.v, qG.v], iv (shelf)] (.tuple [(GSo r.2.1 encI r.1).v, iv r.2.2.1, iv r.2.2.2]) :=
 TF.run (tf_s9_Clear (Nat.le_refl _) (RdT.gs qF) (RdT.gs qA) (RdT.gs qG) h) fun w => (.tuple (.cons (.ownL (en := encI) (p := 0) rfl (.lits encI_lits)) (.cons .lit (.cons .lit .nil))))
set_option maxRecDepth 10000 in
theorem tf_s9_Arrange {k : Nat} (hk : 1 ≤ k) {C : List Thing} {qC : AV} {qF : List Str} {qE : AV} {qA : List qH} {qD : AV} {qG : List qB} (qAb : RdT encStr qC qF) (qAc : RdT qO qE qA) (qAa : RdT qI qD qG) {r : (List Int) × Bool × (List Int) × Bool × Int × Int} (h : P_s9_Arrange qF qA qG = some r) :
  TF (EL k) 34 [.agg [qC, qE, qD]] C (RepF (fun (w : AV × AV) => .tuple [w.1, w.2, iv r.2.2.2.2.1, iv r.2.2.2.2.2]) (fun (w : AV × AV) => ownL r.2.1 w.1 encI r.1 :: ownL r.2.2.2.1 w.2 encI r.2.2.1 :: C)) := by
 unfold P_s9_Arrange at h
 have qP : Rdl C encStr qC qF := RdT.rdl qAb
 have qN : Rdl C qO qE qA := RdT.rdl qAc
 have qM : Rdl C qI qD qG := RdT.rdl qAa;refine TF.enter (fn := Go.Proofs.Tryz.f34) rfl rfl rfl rfl rfl (zU rfl (zQ 3 [_,_,_] R7 (fun b1=>zA R4 (zA R4 (zA R4 (zA R4 (zN (zU rfl (zV R3 (vW 0 [_,_,_] R5 R4) ?_)))))))));obtain ⟨y13, hr13, h⟩ := andx_some h;refine TO.callT (first := []) (cap := []) (vs := [.agg [qC, qE, qD]]) rfl rfl rfl rfl rfl rfl (orcN rfl) (tf_s9_open aD (Rdl.mono qP M1) (Rdl.mono qN M1) (Rdl.mono qM M1) hr13) ?_;rintro _;refine zG (_::C) rfl (zM R4 (zX R5 (zX R5 (zJ 3 [_,_,_] R7 (fun b6=>TO.fact (rdl_cellS qP M2) (fun qY=>TO.fact (rdl_cellS qN M2) (fun qZ=>TO.fact (rdl_cellS qM M2) (fun qX=>TO.eff0 rfl rfl (Eff.store_row (p := 0) (cv := [_, _, _]) (cells' := [_, _, _]) rfl rfl rfl rfl rfl rfl rfl rfl (by first | rfl | (simp [GS.one, qY.2, qZ.2, qX.2]; done) | (simp [GS.one, qY.2, qZ.2, qX.2]; (repeat' apply And.intro) <;> rfl)) (by decide) rfl) ?_))))))));rintro _ rfl;refine zG (_::_::C) rfl (zA R4 (zN (zS (zU rfl (zM R4 ?_)))));obtain ⟨c17, hc17⟩ := zY (¬ y13 = 0);refine zV R3 (Val.neq hc17 rfl rfl) (zN ?_);obtain ⟨rfl, hc17, h⟩ | ⟨rfl, hc17, h⟩ := zI hc17 h
 ·refine zC rfl (zU rfl (zM R4 (zA R4 (zA R4 (zA R4 (zA R4 (zN (T.nilown (u := encI.u) (T.nilown (u := encI.u) (zR ?_))))))))));cases h;exact ⟨rfl, _, rfl, ⟨(nilS, nilS), rfl, (pk [1,0,98,98] rfl)⟩⟩
 refine zD rfl (zK ?_)
 show T _ _ _ _ _ _;apply T.joinA (r := r) (W := AV) (fun j w => ⟨[], [(1, .ptr b1 0 3), (2, w), (6, .ptr b6 0 3)], ownL true w encI j :: .row b6 3 [qC, qE, qD] :: .row b1 3 [qC, qE, qD] :: C⟩) h
 ·intro j h;refine zU rfl (zF 2 R6 (zL 1 R3 R6 (zV R3 (Val.len_l qM M2 rfl rfl) (zM R4 (zN (zB (T.nilown (u := encI.u) ?_)))))))
  show T _ _ _ _ _ _;apply T.iter (r := j) (W := AV) (fun j w => ⟨[], [(1, .ptr b1 0 3), (2, w), (6, .ptr b6 0 3), (21, iv ((qG.length : Int))), (22, iv (j.1))], ownL true w encI j.2 :: .row b6 3 [qC, qE, qD] :: .row b1 3 [qC, qE, qD] :: C⟩) (w0 := nilS) h
  ·exact (sb .refl)
  rintro ⟨x22, books⟩ v5 a h;unfold P_s9_Arrange_L1 at h;dsimp only at h;dsimp only;refine zU rfl ?_;obtain ⟨c23, hc23⟩ := zY (x22 < (qG.length : Int));refine zV R3 (Val.lss hc23 rfl rfl) (zN (zS ?_));obtain ⟨rfl, hc23, h⟩ | ⟨rfl, hc23, h⟩ := zI hc23 h
  ·refine zC rfl (zK (zS (zB (zU rfl (zM R4 (zA R4 (zN (zT rfl (zM R4 (zM R4 (TO.build1 (en := encI) (a := x22) rfl rfl rfl ⟨rfl, rfl⟩ ⟨_, rfl, rfl⟩ (by decide) (by decide) rfl rfl (fun v27=>?_))))))))))));obtain ⟨hk28, h⟩ := chk_some h;refine TO.eff rfl rfl rfl (Eff.append_own (b := 8) (en := encI) (l := books) (l2 := [x22]) (p := 1) (q := 0) ⟨rfl, rfl, rfl, ⟨_, rfl, rfl⟩, by decide, by decide⟩ rfl rfl rfl rfl rfl rfl (flat_ones _) (by decide) hk28) ?_;rintro v28 _ rfl;refine zG (_::_::_::_::C) rfl (zA R4 (zN (zT rfl ?_)));obtain ⟨hk29, h⟩ := chk_some h;refine zV R3 (Val.add rfl rfl hk29) (zM R4 (zN ?_));cases h;exact ⟨rfl, v28, (sb (pk [1,1,1,98] rfl))⟩
  refine zD rfl (zE ?_);cases h;exact ⟨ex_ne, ⟨rfl, v5, (sb .refl)⟩⟩
 ·rintro books v5 h;refine zU rfl (zM R4 (zV R3 (Val.makeFunc rfl rfl) ?_));obtain ⟨hkS, h⟩ := chk_some h;refine TO.callT (first := []) (cap := []) (vs := [v5, .func 104 [] [.ptr b1 0 3]]) rfl rfl rfl rfl rfl rfl (orcN rfl) (TF.sortCmp (E0 := env0) (p := 0) (F := (fun x y => P_s9_Arrange1 x y qF qA qG)) (cf := cfOf (fun x y => P_s9_Arrange1 x y qF qA qG)) (N := (qG.length : Int)) rfl rfl hkS ⟨_, rfl⟩ (fun _ x y r hr => tf_s9_Arrange1 (Rdl.mono qP M3) (Rdl.mono qN M3) (Rdl.mono qM M3) (List.mem_of_getElem? (i := 2) rfl) hr)) ?_;rintro _;refine zG (_::_::_::C) rfl (zN (zU rfl (zF 0 R6 (zF 2 R6 (TO.eff0 rfl rfl (Eff.store_row (p := 1) (cv := [_]) (cells' := [_, _, _]) rfl rfl rfl rfl rfl rfl rfl rfl aG (by decide) rfl) ?_)))));rintro _ rfl;refine zG (_::_::_::C) rfl (zN ?_)
  show T _ _ _ _ _ _;apply T.joinA (r := r) (W := AV) (fun j w => ⟨[], [(2, v5), (6, .ptr b6 0 3)], ownL true w qI j :: ownL true v5 encI (sortC (cfOf (fun x y => P_s9_Arrange1 x y qF qA qG)) books) :: .row b6 3 [qC, qE, w] :: .row b1 3 [qC, qE, qD] :: C⟩) h
  ·intro j h;refine zU rfl (zM R4 (zV R3 (Val.len_own (p := 0) rfl rfl rfl) (zM R4 (zN (zB (T.nilown (u := qI.u) ?_))))))
   show T _ _ _ _ _ _;apply T.iter (r := j) (W := AV) (fun j w => ⟨[], [(1, .ptr b1 0 3), (2, v5), (6, .ptr b6 0 3), (35, v5), (36, iv (((sortC (cfOf (fun x y => P_s9_Arrange1 x y qF qA qG)) books).length : Int))), (37, iv (j.1))], ownL true w qI j.2 :: ownL true v5 encI (sortC (cfOf (fun x y => P_s9_Arrange1 x y qF qA qG)) books) :: .row b6 3 [qC, qE, w] :: .row b1 3 [qC, qE, qD] :: C⟩) (w0 := nilS) h
   ·exact (sb .refl)
   rintro ⟨x37, x_SfRoom_Books⟩ v7 a h;unfold P_s9_Arrange_L2 at h;dsimp only at h;dsimp only;refine zU rfl ?_;obtain ⟨c38, hc38⟩ := zY (x37 < ((sortC (cfOf (fun x y => P_s9_Arrange1 x y qF qA qG)) books).length : Int));refine zV R3 (Val.lss hc38 rfl rfl) (zN (zS ?_));obtain ⟨rfl, hc38, h⟩ | ⟨rfl, hc38, h⟩ := zI hc38 h
   ·refine zC rfl (zK (zS (zB (zU rfl ?_))));obtain ⟨a39, hia39, ea39, h⟩ := el_some h;refine TO.fact (own_at (en := encI) (p := 1) rfl hia39) (fun hp=>?_);obtain ⟨ida39, ata39⟩ := hp;refine zV R3 (Val.iaddr_at (en := encI) ata39 ⟨rfl, rfl⟩ rfl rfl hia39) (zV R3 (Val.load_ownL (en := encI) (p := 1) (j := 0) rfl ata39 ⟨_, rfl, rfl⟩ rfl ea39 rfl) (zA R4 (zN (T.drawE (l1 := [0, 1, 2, 3, 4, 5, 6, 7, 8]) (l2 := [9, 10, 11, 12]) (by kernel_rfl) (by kernel_rfl) (yL R4 (Val.faddr_ptr (fo := 0) rfl rfl rfl) (yL R4 (Val.faddr_ptr (fo := 2) rfl rfl rfl) (yR R4 (vR (p := 2) R6) (yL R4 (Val.faddr_ptr (fo := 2) rfl rfl rfl) (yR R4 (vR (p := 3) R6) (yL R4 (Val.move rfl) ?_))))))))));obtain ⟨a47, hia47, ea47, h⟩ := el_some h;refine TD1.fact (rdl_at qM M4 hia47 ea47) (fun hp=>?_);obtain ⟨pa47, hpa47, hva47⟩ := hp;refine yL R4 (hva47 ⟨rfl, rfl⟩ rfl rfl) (yR R4 (Val.load_es (c := [_, _, _, _, _, _, _]) hpa47 M4 ⟨⟨_, rfl, rfl⟩, rfl, by decide⟩ rfl rfl rfl) (TD1.floatN rfl rfl rfl rfl (New.buildSlice (en := qI) (l := [a47]) (vs := [(_, _)]) (ws := [(_, [_, _, _, _, _, _, _])]) ⟨rfl, rfl⟩ rfl rfl rfl rfl (CellsL.cons rfl CellsL.nil) rfl rfl) (fun v49=>TD1.over (fun v => sameC_refl v) (all_cons (⟨_, rfl, (Val.load_es (c := [_, _, _, _, _, _, _]) hpa47 M5 ⟨⟨_, rfl, rfl⟩, rfl, by decide⟩ rfl rfl rfl)⟩) (all_cons (⟨_, rfl, (vR (p := 4) R6)⟩) (all_cons (⟨_, rfl, (vR (p := 3) R6)⟩) all_nil))) (TD2.less (Less.floatOwn (en := qI) (l := [a47]) (p := 0) rfl) (yG (_::_::_::_::_::C) rfl ?_)))));obtain ⟨hk50, h⟩ := chk_some h;refine TD2.heavy (fun v => sameC_refl v) rfl (by decide) rfl rfl (OpS.eff (Eff.append_own (b := 64) (en := qI) (l := x_SfRoom_Books) (l2 := [a47]) (p := 1) (q := 0) ⟨rfl, rfl, rfl, ⟨_, rfl, rfl⟩, by decide, by decide⟩ rfl rfl rfl rfl rfl rfl (en_ones qAf _) (by decide) hk50)) ?_;rintro v50 _ rfl;refine ⟨(all_cons (.inl (by kernel_rfl)) (all_cons (.inl (by kernel_rfl)) (all_cons (.inl (by kernel_rfl)) all_nil))), (all_cons (.inl (by kernel_rfl)) all_nil), ?_⟩;refine yG (_::_::_::_::_::C) rfl (yM R4 (Val.faddr_ptr (fo := 0) rfl rfl rfl) (yM R4 (Val.faddr_ptr (fo := 2) rfl rfl rfl) (TD2.fact (own_cellS (p := 1) rfl) (fun hot7=>TD2.heavy (fun v => sameC_refl v) rfl (by decide) rfl rfl (OpS.eff (Eff.store_row (p := 3) (cv := [_]) (cells' := [_, _, _]) rfl rfl rfl rfl rfl hot7.1 rfl rfl (by first | rfl | (simp [GS.one, hot7.2]; done)) (by decide) rfl)) ?_))));rintro _ _ rfl;refine ⟨(all_cons (.inl (by kernel_rfl)) (all_cons (.inl (by kernel_rfl)) (all_cons (.inl (by kernel_rfl)) all_nil))), (all_cons (.inl (by kernel_rfl)) all_nil), ?_⟩;refine yG (_::_::_::_::_::C) rfl (TD2.nil (zT rfl ?_));obtain ⟨hk53, h⟩ := chk_some h;refine zV R3 (Val.add rfl rfl hk53) (zM R4 (zN ?_));cases h;exact ⟨rfl, v50, (sb (pk [1,1,1,1,98] rfl))⟩
   refine zD rfl (zE ?_);cases h;exact ⟨ex_ne, ⟨rfl, v7, (sb .refl)⟩⟩
  ·rintro x_SfRoom_Books v7 h;refine zU rfl (zV R3 (vW 2 [_,_,_] R5 R4) (zV R3 (vW 2 [_,_,_] R5 R4) (zV R3 (Val.makeFunc rfl rfl) ?_)));obtain ⟨⟨m57, l57⟩, hr57, h⟩ := andx_some h;dsimp only at h
   have hl57 := arrange_len hr57;refine TO.callT (first := []) (cap := []) (vs := [.agg [qC, qE, v7], .func 99 [.agg [qC, qE, v7]] []]) rfl rfl rfl rfl rfl rfl (orcN rfl) (tf_arrange (F := (fun i_ n_ => P_s9_own qF qA x_SfRoom_Books i_ n_)) (r := (m57, l57)) (Rdl.mono qN M4) (Rdl.mono (Rdl.own (C := ownL true v7 qI x_SfRoom_Books :: ownL true v5 encI (sortC (cfOf (fun x y => P_s9_Arrange1 x y qF qA qG)) books) :: .row b6 3 [qC, qE, v7] :: .row b1 3 [qC, qE, qD] :: C) (p := 0) rfl) mem0) rfl (orcN rfl) (fun hs_ i_ n_ r_ hC_ hr_ => tf_s9_own (C := hs_) aD (Rdl.mono (Rdl.mono qP M4) hC_) (Rdl.mono (Rdl.mono qN M4) hC_) (Rdl.mono (Rdl.mono (Rdl.own (C := ownL true v7 qI x_SfRoom_Books :: ownL true v5 encI (sortC (cfOf (fun x y => P_s9_Arrange1 x y qF qA qG)) books) :: .row b6 3 [qC, qE, v7] :: .row b1 3 [qC, qE, qD] :: C) (p := 0) rfl) mem0) hC_) hr_) hr57) ?_;rintro _;refine zG (_::_::_::_::C) rfl (TO.alloc (k := 12) (cells := restC 0 (List.replicate 11 0)) rfl rfl rfl rfl rfl rfl rfl (fun b10=>TO.eff0 rfl rfl (Eff.store_rest (p := 0) (k := 11) (l' := l57) (n' := m57) rfl (restC_len List.length_replicate) hl57 rfl rfl rfl) ?_));rintro _ rfl;refine zG (_::_::_::_::_::C) rfl (zN (zS (zU rfl (zF 0 R6 (zV R3 (Val.load_rest0 (p := 0) (k := 11) rfl hl57 ⟨_, rfl, rfl⟩ rfl) ?_)))));obtain ⟨c60, hc60⟩ := zY (m57 ≥ 1000);refine zV R3 (Val.geq hc60 rfl rfl) (zN ?_);obtain ⟨rfl, hc60, h⟩ | ⟨rfl, hc60, h⟩ := zI hc60 h
   ·refine zC rfl (zU rfl (zA R4 (zA R4 (zA R4 (zA R4 (zN (T.nilown (u := encI.u) (T.nilown (u := encI.u) (zR ?_)))))))));cases h;exact ⟨rfl, _, rfl, ⟨(nilS, nilS), rfl, (pk [1,0,98,98,98,98,98] rfl)⟩⟩
   refine zD rfl (zK (zS (T.drawE (l1 := [0, 1, 2, 3, 4, 6, 7]) (l2 := [5, 8, 9, 10, 11]) (by kernel_rfl) (by kernel_rfl) (yL R4 (Val.move rfl) (yL R4 (Val.faddr_ptr (fo := 1) rfl rfl rfl) (yL R4 (Val.move rfl) (yR R4 (Val.len_own (p := 2) rfl rfl rfl) ?_)))))));obtain ⟨hk65, h⟩ := chk_some h;refine yR R4 (Val.slice_arr (p := 0) (k := 12) (m := 11) rfl (restC_len hl57) rfl rfl rfl rfl rfl rfl hk65) (yL R4 (Val.faddr_ptr (fo := 0) rfl rfl rfl) (yR R4 (Val.load_rest0 (p := 0) (k := 11) rfl hl57 ⟨_, rfl, rfl⟩ rfl) (TD1.over (fun v => sameC_refl v) (all_cons (⟨_, rfl, (Val.load_rest0 (p := 0) (k := 11) rfl hl57 ⟨_, rfl, rfl⟩ rfl)⟩) (all_cons (⟨_, rfl, (Val.slice_arr (p := 0) (k := 12) (m := 11) rfl (restC_len hl57) rfl rfl rfl rfl rfl rfl hk65)⟩) (all_cons (⟨_, rfl, (Val.len_own (p := 2) rfl rfl rfl)⟩) all_nil))) (TD2.heavy (fun v => sameC_refl v) rfl (by decide) rfl rfl (OpS.callV rfl rfl rfl rfl (orcN rfl) (RepF.conv (tf_cloneA (p := 0) rfl hl57 hk65))) ?_))));rintro v66 hs_ ⟨v66, rfl, he_⟩;subst hs_;refine ⟨(all_cons (.inr ⟨_, rfl, (Val.load_rest0 (p := 1) (k := 11) rfl hl57 ⟨_, rfl, rfl⟩ rfl)⟩) (all_cons (.inl (by kernel_rfl)) (all_cons (.inl (by kernel_rfl)) all_nil))), all_nil, ?_⟩;refine yG (_::_::_::_::_::_::C) rfl (yM R4 (Val.assign rfl) (yM R4 (Val.assign rfl) (yM R4 (Val.assign rfl) (yM R4 (Val.assign rfl) (TD2.nil (zR ?_))))));cases h;exact ⟨rfl, _, rfl, ⟨(v5, v66), rfl, (pk [3,0,98,98,98,98] rfl)⟩⟩
theorem w_s9_Arrange (qF : GS encStr) (qA : GS qO) (qG : GS qI) (r : (List Int) × Bool × (List Int) × Bool × Int × Int) (h : P_s9_Arrange qF.l qA.l qG.l = some r) : Comes (EL 1) 34 [.agg [qF.v, qA.v, qG.v]] (.tuple [(GSo r.2.1 encI r.1).v, (GSo r.2.2.2.1 encI r.2.2.1).v, iv r.2.2.2.2.1, iv r.2.2.2.2.2]) :=
 TF.run (tf_s9_Arrange (Nat.le_refl _) (RdT.gs qF) (RdT.gs qA) (RdT.gs qG) h) fun w => (.tuple (.cons (.ownL (en := encI) (p := 0) rfl (.lits encI_lits)) (.cons (.ownL (en := encI) (p := 1) rfl (.lits encI_lits)) (.cons .lit (.cons .lit .nil)))))
end Go.Am.YtiaolgbmbhldgaaGreatDoor
end
section
namespace Go.Am
set_option linter.unusedVariables false
noncomputable def P_law_ShelfArranged (qF : List Str) (qA : List qH) (qG : List qB) (x : List UInt8) (which : UInt8) : Option Bool :=
  andx (P_s9_Arrange qF qA qG) fun (y19, y19_2, y19_3, y19_4, y19_5, y19_6) =>
    andx (P_law9_valid qF qA qG) fun y25 =>
      if y25 = true then
        andx (P_law9_Rising (qG.length : Int) (qA.length : Int) x) fun y47 =>
          chk (-9223372036854775808 ≤ (which.toNat : Int) ∧ (which.toNat : Int) < 9223372036854775808) (
            chk ((0 : Int) < (qA.length : Int)) (
              andx (P_s9_Clear qF qA qG (Int.tmod (which.toNat : Int) (qA.length : Int))) fun (y57, y57_2, y57_3, y57_4) =>
                seqx (
                  andx (P_r9_Ordered qG) fun y63 =>
                    if y63 = true then
                      andx (
                        if ¬ y19_6 = 0 then
                          some true
                        else
                          if ¬ y19_5 = 0 then
                            some true
                          else
                            andx (P_r9_Own qG) fun y77 =>
                              andx (P_w1_Ints ((GSo y19_4 encI y19_3).l) y77) fun y78 =>
                                some (!y78)) fun x80 =>
                        if x80 = true then
                          some (Ex.rt false)
                        else
                          some (Ex.nx ())
                    else
                      if ¬ y57_4 = 2 then
                        some (Ex.rt false)
                      else
                        some (Ex.nx ())) fun _ =>
                  andx (P_r9_Sorted qG) fun y85 =>
                    andx (P_r9_Taken qG y85) fun y86 =>
                      seqx (
                        if ¬ y19_6 = 0 then
                          andx (
                            if ¬ y19_6 = 9 then
                              some true
                            else
                              andx (P_r9_Arranged qF qA qG y86 y47) fun y95 =>
                                some y95) fun x96 =>
                            if x96 = true then
                              some (Ex.rt false)
                            else
                              some (Ex.nx ())
                        else
                          andx (
                            andx (P_r9_Sorted qG) fun y100 =>
                              andx (P_w1_Ints ((GSo y19_2 encI y19).l) y100) fun y101 =>
                                if y101 = true then
                                  andx (P_law9_right qF qA qG y86 ((GSo y19_4 encI y19_3).l) (-1) y19_5) fun y108 =>
                                    if y108 = true then
                                      andx (P_law9_better qF qA qG y86 y47 (-1) y19_5 ((GSo y19_4 encI y19_3).l)) fun y117 =>
                                        some y117
                                    else
                                      some true
                                else
                                  some true) fun x118 =>
                            if x118 = true then
                              some (Ex.rt false)
                            else
                              some (Ex.nx ())) fun _ =>
                        if y57_4 = 2 then
                          andx (
                            andx (P_r9_Ordered qG) fun y123 =>
                              if y123 = true then
                                some false
                              else
                                some true) fun x6 =>
                            some x6
                        else
                          if ¬ y57_4 = 0 then
                            andx (
                              if y57_4 = 9 then
                                andx (P_w1_Has y47 (Int.tmod (which.toNat : Int) (qA.length : Int))) fun y135 =>
                                  if y135 = true then
                                    some true
                                  else
                                    andx (P_r9_Arranged qF qA qG y86 y47) fun y140 =>
                                      if y140 = true then
                                        some false
                                      else
                                        some true
                              else
                                some false) fun x6 =>
                              some x6
                          else
                            andx (
                              andx (P_law9_right qF qA qG y86 ((GSo y57_2 encI y57).l) (-1) y57_3) fun y151 =>
                                if y151 = true then
                                  andx (P_w1_Has ((GSo y57_2 encI y57).l) (Int.tmod (which.toNat : Int) (qA.length : Int))) fun y155 =>
                                    if y155 = true then
                                      some false
                                    else
                                      andx (P_w1_Has y47 (Int.tmod (which.toNat : Int) (qA.length : Int))) fun y161 =>
                                        if y161 = true then
                                          some true
                                        else
                                          andx (P_law9_better qF qA qG y86 y47 (-1) y57_3 ((GSo y57_2 encI y57).l)) fun y168 =>
                                            if y168 = true then
                                              some false
                                            else
                                              some true
                                else
                                  some false) fun x6 =>
                              some x6))
      else
        andx (
          if ¬ y19_6 = 0 then
            chk (I64 ((((GSo y19_2 encI y19).l).length : Int) + (((GSo y19_4 encI y19_3).l).length : Int))) (
              if ((((GSo y19_2 encI y19).l).length : Int) + (((GSo y19_4 encI y19_3).l).length : Int)) = 0 then
                some true
              else
                some false)
          else
            some false) fun x6 =>
          some x6
noncomputable def P_law_ShelfWider (qF : List Str) (qA : List qH) (qG : List qB) (which_0 : UInt8) (which_1 : UInt8) (by_0 : UInt16) (by_1 : UInt16) : Option Bool :=
  andx (P_law9_valid qF qA qG) fun y27 =>
    if y27 = true then
      chk (([] : List qH).length + qA.length < 1000000000) (
        chk (-9223372036854775808 ≤ (which_0.toNat : Int) ∧ (which_0.toNat : Int) < 9223372036854775808) (
          chk ((0 : Int) < (qA.length : Int)) (
            el (([] : List qH) ++ qA) (Int.tmod (which_0.toNat : Int) (qA.length : Int)) fun a46 =>
            chk (-9223372036854775808 ≤ (by_0.toNat : Int) ∧ (by_0.toNat : Int) < 9223372036854775808) (
              chk (I64 (a46.wide + (by_0.toNat : Int))) (
                chk (-9223372036854775808 ≤ (by_1.toNat : Int) ∧ (by_1.toNat : Int) < 9223372036854775808) (
                  chk (I64 (a46.high + (by_1.toNat : Int))) (
                    el (([] : List qH) ++ qA) (Int.tmod (which_0.toNat : Int) (qA.length : Int)) fun a68 =>
                    chk (([] : List qB).length + qG.length < 1000000000) (
                      andx (
                        if (qG.length : Int) > 0 then
                          chk (-9223372036854775808 ≤ (which_1.toNat : Int) ∧ (which_1.toNat : Int) < 9223372036854775808) (
                            chk ((0 : Int) < (qG.length : Int)) (
                              el (([] : List qB) ++ qG) (Int.tmod (which_1.toNat : Int) (qG.length : Int)) fun a89 =>
                              chk (-9223372036854775808 ≤ (by_0.toNat : Int) ∧ (by_0.toNat : Int) < 9223372036854775808) (
                                chk (I64 (a89.wide - (by_0.toNat : Int))) (
                                  chk (-9223372036854775808 ≤ (by_1.toNat : Int) ∧ (by_1.toNat : Int) < 9223372036854775808) (
                                    chk (I64 (a89.high - (by_1.toNat : Int))) (
                                      el (([] : List qB) ++ qG) (Int.tmod (which_1.toNat : Int) (qG.length : Int)) fun a111 =>
                                      some (List.set (([] : List qB) ++ qG) (Int.tmod (which_1.toNat : Int) (qG.length : Int)).toNat (⟨a89.qK, a89.qL, a89.qJ, (max 1 (a89.wide - (by_0.toNat : Int))), (max 1 (a89.high - (by_1.toNat : Int))), a89.heavy, a89.shelf⟩ : qB))))))))
                        else
                          some (([] : List qB) ++ qG)) fun less_Books =>
                        andx (P_s9_Arrange qF qA qG) fun (y114, y114_2, y114_3, y114_4, y114_5, y114_6) =>
                          andx (P_s9_Arrange qF (List.set (([] : List qH) ++ qA) (Int.tmod (which_0.toNat : Int) (qA.length : Int)).toNat (⟨a46.away, a46.climb, (min 2000 (a46.wide + (by_0.toNat : Int))), (min 2000 (a46.high + (by_1.toNat : Int)))⟩ : qH)) qG) fun (y121, y121_2, y121_3, y121_4, y121_5, y121_6) =>
                            andx (P_s9_Arrange qF qA less_Books) fun (y128, y128_2, y128_3, y128_4, y128_5, y128_6) =>
                              seqx (
                                andx (
                                  if y114_6 = 0 then
                                    if ¬ y121_6 = 0 then
                                      some true
                                    else
                                      if ¬ y128_6 = 0 then
                                        some true
                                      else
                                        if y121_5 > y114_5 then
                                          some true
                                        else
                                          some (decide (y128_5 > y114_5))
                                  else
                                    some false) fun x152 =>
                                  if x152 = true then
                                    some (Ex.rt false)
                                  else
                                    some (Ex.nx ())) fun _ =>
                                chk (-9223372036854775808 ≤ (which_1.toNat : Int) ∧ (which_1.toNat : Int) < 9223372036854775808) (
                                  chk ((0 : Int) < (qA.length : Int)) (
                                    andx (P_s9_Clear qF qA qG (Int.tmod (which_1.toNat : Int) (qA.length : Int))) fun (y163, y163_2, y163_3, y163_4) =>
                                      andx (P_s9_Clear qF (List.set (([] : List qH) ++ qA) (Int.tmod (which_0.toNat : Int) (qA.length : Int)).toNat (⟨a46.away, a46.climb, (min 2000 (a46.wide + (by_0.toNat : Int))), (min 2000 (a46.high + (by_1.toNat : Int)))⟩ : qH)) qG (Int.tmod (which_1.toNat : Int) (qA.length : Int))) fun (y170, y170_2, y170_3, y170_4) =>
                                        andx (P_s9_Clear qF qA less_Books (Int.tmod (which_1.toNat : Int) (qA.length : Int))) fun (y177, y177_2, y177_3, y177_4) =>
                                          andx (
                                            if ¬ y163_4 = 0 then
                                              some true
                                            else
                                              if y170_4 = 0 then
                                                if y177_4 = 0 then
                                                  if y170_3 ≤ y163_3 then
                                                    if y177_3 ≤ y163_3 then
                                                      some true
                                                    else
                                                      some false
                                                  else
                                                    some false
                                                else
                                                  some false
                                              else
                                                some false) fun x6 =>
                                            some x6))))))))))
    else
      some true
end Go.Am
end
