/- Part 12. -/
import Derived.Test.YtiaolgbmbhldgaaGreatDoorShelfOrderP1
import Derived.Test.YtiaolgbmbhldgaaGreatDoorShelfOrderP2
import Derived.Test.YtiaolgbmbhldgaaGreatDoorShelfOrderP9
import Derived.Test.YtiaolgbmbhldgaaGreatDoorShelfOrderP11
import Derived.Test.YtiaolgbmbhldgaaGreatDoorShelfOrderP10
section
namespace Go.Am.YtiaolgbmbhldgaaGreatDoor
open Go.Am Go.RowKit
def lev : Nat → Option Nat
 | 9 => some 2
 | 15 => some 2
 | 16 => some 0
 | 17 => some 0
 | 22 => some 1
 | 28 => some 1
 | _ => none
noncomputable def baseE : Orc' := fun f => match f with | 24 => some (table [([], .lit (.bool true))]) | 130 => some cmpT | _ => none
theorem baseE_ok : ∀ f g, baseE f = some g → Meets Go.Proofs.Tryz.prog f g := fun f g h => by
 unfold baseE at h;split at h
 ·cases h; exact Closed.awake_meets
 ·cases h; exact cmp_meets
 ·cases h
noncomputable def EL (k : Nat) : Env := envS (orsB baseE envS lev k)
theorem EL_good (k : Nat) : EnvGood (EL k) := orsB_good (P := Go.Proofs.Tryz.prog) (fun _ => rfl) (fun _ => rfl) baseE_ok (fun _ h => goodS h) (fun _ => rfl) k
theorem orcL {f j k : Nat} (h : lev f = some j) (hk : j < k) : (EL k).orc f = some (sem (EL j) f) := orsLB (fun _ => rfl) h hk
theorem orcN {f k : Nat} (h : levB baseE lev f = none) : (EL k).orc f = none := orsNB (fun _ => rfl) h
theorem orcA {k : Nat} : (EL k).orc 24 = some (table [([], .lit (.bool true))]) := by
 show orsB baseE envS lev k 24 = _;rw [orsB_base rfl];rfl
theorem orcC {k : Nat} : (EL k).orc 130 = some cmpT := by
 show orsB baseE envS lev k 130 = _;rw [orsB_base rfl];rfl
theorem bo_ty4 {k : Nat} : pureVal (EL k).P (underlying 4) = some .bool := show pureVal Go.Proofs.Tryz.prog (underlying 4) = some .bool by kernel_rfl
theorem hu_cv2 : pureVal Go.Proofs.Tryz.prog (underlying 2) = some Go.Proofs.Tryz.t2.desc := by kernel_rfl
theorem hu_cv3 : pureVal Go.Proofs.Tryz.prog (underlying 3) = some Go.Proofs.Tryz.t3.desc := by kernel_rfl
theorem hu_cv5 : pureVal Go.Proofs.Tryz.prog (underlying 5) = some Go.Proofs.Tryz.t5.desc := by kernel_rfl
theorem hu_cv65 : pureVal Go.Proofs.Tryz.prog (underlying 65) = some Go.Proofs.Tryz.t65.desc := by kernel_rfl
theorem hu_cv172 : pureVal Go.Proofs.Tryz.prog (underlying 172) = some Go.Proofs.Tryz.t172.desc := by kernel_rfl
theorem hu_cv194 : pureVal Go.Proofs.Tryz.prog (underlying 194) = some Go.Proofs.Tryz.t194.desc := by kernel_rfl
theorem hu_cv196 : pureVal Go.Proofs.Tryz.prog (underlying 196) = some Go.Proofs.Tryz.t196.desc := by kernel_rfl
theorem hu_cv207 : pureVal Go.Proofs.Tryz.prog (underlying 207) = some Go.Proofs.Tryz.t196.desc := by kernel_rfl
theorem cv_ty5_3 {k : Nat} {a : Int} (h : -9223372036854775808 ≤ a ∧ a < 9223372036854775808) : pureVal (EL k).P (convert 5 3 (.int .u8 a)) = some (.int .i64 a) := pure_conv (P := Go.Proofs.Tryz.prog) hu_cv5 hu_cv3 (wrap_id h.1 h.2)
theorem cv_ty65_3 {k : Nat} {a : Int} (h : -9223372036854775808 ≤ a ∧ a < 9223372036854775808) : pureVal (EL k).P (convert 65 3 (.int .u16 a)) = some (.int .i64 a) := pure_conv (P := Go.Proofs.Tryz.prog) hu_cv65 hu_cv3 (wrap_id h.1 h.2)
theorem cv_ty172_3 {k : Nat} {a : Int} (h : -9223372036854775808 ≤ a ∧ a < 9223372036854775808) : pureVal (EL k).P (convert 172 3 (.int .u64 a)) = some (.int .i64 a) := pure_conv (P := Go.Proofs.Tryz.prog) hu_cv172 hu_cv3 (wrap_id h.1 h.2)
theorem cv_ty196_2 {k : Nat} {a : Int} (h : -9223372036854775808 ≤ a ∧ a < 9223372036854775808) : pureVal (EL k).P (convert 196 2 (.int .u64 a)) = some (.int .i64 a) := pure_conv (P := Go.Proofs.Tryz.prog) hu_cv196 hu_cv2 (wrap_id h.1 h.2)
theorem hu_ty28 : pureVal Go.Proofs.Tryz.prog (underlying 28) = some Go.Proofs.Tryz.t27.desc := by kernel_rfl
theorem eql_ty28 {k : Nat} (x y : Operand) (a0 : Int) (a1 : Int) (a2 : Str) (b0 : Int) (b1 : Int) (b2 : Str) : abin (EL k) .eql 28 x y (.agg [iv a0, iv a1, sv a2]) (.agg [iv b0, iv b1, sv b2]) = .ok (bv (a0 == b0 && a1 == b1 && a2 == b2)) ∧ ((a0 == b0 && a1 == b1 && a2 == b2) = true ↔ a0 = b0 ∧ a1 = b1 ∧ a2 = b2) := by
 refine ⟨abin_agg (A := .agg #[.int .i64 a0, .int .i64 a1, .string ⟨a2.toArray⟩]) (B := .agg #[.int .i64 b0, .int .i64 b1, .string ⟨b2.toArray⟩]) (by simp) rfl rfl ?_ (bin_eql (pure_eqF3 (hu_ty28) ?_ (.int (by decide) ⟨.i64, by kernel_rfl⟩ (by kernel_rfl) (by kernel_rfl)) (.int (by decide) ⟨.i64, by kernel_rfl⟩ (by kernel_rfl) (by kernel_rfl)) (.str (by decide) (by kernel_rfl) (by kernel_rfl) (by kernel_rfl)))), by by_cases h0 : a0 = b0 <;> by_cases h1 : a1 = b1 <;> by_cases h2 : a2 = b2 <;> simp [h0, h1, h2]⟩
 all_goals kernel_rfl
theorem neq_ty28 {k : Nat} (x y : Operand) (a0 : Int) (a1 : Int) (a2 : Str) (b0 : Int) (b1 : Int) (b2 : Str) : abin (EL k) .neq 28 x y (.agg [iv a0, iv a1, sv a2]) (.agg [iv b0, iv b1, sv b2]) = .ok (bv (!(a0 == b0 && a1 == b1 && a2 == b2))) ∧ ((!(a0 == b0 && a1 == b1 && a2 == b2)) = true ↔ ¬ (a0 = b0 ∧ a1 = b1 ∧ a2 = b2)) := by
 refine ⟨abin_agg (A := .agg #[.int .i64 a0, .int .i64 a1, .string ⟨a2.toArray⟩]) (B := .agg #[.int .i64 b0, .int .i64 b1, .string ⟨b2.toArray⟩]) (by simp) rfl rfl ?_ (bin_neq (pure_eqF3 (hu_ty28) ?_ (.int (by decide) ⟨.i64, by kernel_rfl⟩ (by kernel_rfl) (by kernel_rfl)) (.int (by decide) ⟨.i64, by kernel_rfl⟩ (by kernel_rfl) (by kernel_rfl)) (.str (by decide) (by kernel_rfl) (by kernel_rfl) (by kernel_rfl)))), by by_cases h0 : a0 = b0 <;> by_cases h1 : a1 = b1 <;> by_cases h2 : a2 = b2 <;> simp [h0, h1, h2]⟩
 all_goals kernel_rfl
end Go.Am.YtiaolgbmbhldgaaGreatDoor
end
section
namespace Go.Am
set_option linter.unusedVariables false
structure S_api_SfShelf where
 away : Int
 climb : Int
 wide : Int
 high : Int
def enc_api_SfShelf : En S_api_SfShelf := ⟨4, fun x => [iv x.away, iv x.climb, iv x.wide, iv x.high], fun _ => rfl⟩
theorem enc_api_SfShelf_tr : enc_api_SfShelf.Tr := fun _ _ _ => .cons .lit (.cons .lit (.cons .lit (.cons .lit (.nil))))
structure S_api_SfBook where
 mark_class : Int
 mark_number : Int
 mark_suffix : Str
 wide : Int
 high : Int
 heavy : Int
 shelf : Int
def enc_api_SfBook : En S_api_SfBook := ⟨7, fun x => [iv x.mark_class, iv x.mark_number, sv x.mark_suffix, iv x.wide, iv x.high, iv x.heavy, iv x.shelf], fun _ => rfl⟩
theorem enc_api_SfBook_tr : enc_api_SfBook.Tr := fun _ _ _ => .cons .lit (.cons .lit (.cons .lit (.cons .lit (.cons .lit (.cons .lit (.cons .lit (.nil)))))))
structure S_api_SfMark where
 classv : Int
 number : Int
 suffix : Str
def enc_api_SfMark : En S_api_SfMark := ⟨3, fun x => [iv x.classv, iv x.number, sv x.suffix], fun _ => rfl⟩
end Go.Am
end
section
namespace Go.Am
set_option linter.unusedVariables false
noncomputable def P_r9_in (n : Int) (low : Int) (high : Int) : Option Bool :=
  andx (
    if low ≤ n then
      some (decide (n ≤ high))
    else
      some false) fun x6 =>
    some x6
noncomputable def P_r9_letters_L1 (s : Str) : Int → Option (Stp Int (Ex Unit Bool)) := fun i =>
  if i < (s.length : Int) then
    seqx (
      andx (
        chk (0 ≤ i ∧ i < (s.length : Int)) (
          if (byteAt s i) < 97 then
            some true
          else
            chk (0 ≤ i ∧ i < (s.length : Int)) (
              some (decide ((byteAt s i) > 122))))) fun x19 =>
        if x19 = true then
          some (Ex.rt (Stp.dn (Ex.rt false)))
        else
          some (Ex.nx ())) fun _ =>
      chk (I64 (i + 1)) (
        some (Stp.ag (i + 1)))
  else
    some (Stp.dn (Ex.nx ()))
noncomputable def P_r9_letters (s : Str) : Option Bool :=
  seqx (
    iter (P_r9_letters_L1 s) 0) fun _ =>
    some true
noncomputable def P_r1_Name_L1 (s : Str) : Int → Option (Stp Int (Ex Unit Bool)) := fun i =>
  if i < (s.length : Int) then
    seqx (
      andx (
        chk (0 ≤ i ∧ i < (s.length : Int)) (
          andx (
            if (byteAt s i) ≥ 97 then
              some (decide ((byteAt s i) ≤ 122))
            else
              some false) fun x2 =>
            if x2 = true then
              some false
            else
              if i = 0 then
                some true
              else
                chk (0 ≤ i ∧ i < (s.length : Int)) (
                  andx (
                    if (byteAt s i) ≥ 48 then
                      some (decide ((byteAt s i) ≤ 57))
                    else
                      some false) fun x2_2 =>
                    if x2_2 = true then
                      some false
                    else
                      chk (0 ≤ i ∧ i < (s.length : Int)) (
                        some (decide (¬ (byteAt s i) = 46)))))) fun x39 =>
        if x39 = true then
          some (Ex.rt (Stp.dn (Ex.rt false)))
        else
          some (Ex.nx ())) fun _ =>
      chk (I64 (i + 1)) (
        some (Stp.ag (i + 1)))
  else
    some (Stp.dn (Ex.nx ()))
noncomputable def P_r1_Name (s : Str) : Option Bool :=
  seqx (
    andx (
      if (s.length : Int) = 0 then
        some true
      else
        some (decide ((s.length : Int) > 16))) fun x11 =>
      if x11 = true then
        some (Ex.rt false)
      else
        some (Ex.nx ())) fun _ =>
    seqx (
      iter (P_r1_Name_L1 s) 0) fun _ =>
      some true
noncomputable def P_r1_Place_L1 (list : List Str) (word : Str) : Int → Option (Stp Int Int) := fun at_ =>
  seqx (
    andx (
      if at_ ≥ 0 then
        el list at_ fun a15 =>
        some (decide (¬ a15 = word))
      else
        some false) fun x19 =>
      if x19 = true then
        some (Ex.nx ())
      else
        some (Ex.rt (Stp.dn at_))) fun _ =>
    chk (I64 (at_ - 1)) (
      some (Stp.ag (at_ - 1)))
noncomputable def P_r1_Place_L2 (list : List Str) (word : Str) (at_ : Int) : Int → Option (Stp Int (Ex Unit Int)) := fun i =>
  if i < at_ then
    el list i fun a29 =>
    if a29 = word then
      some (Stp.dn (Ex.rt i))
    else
      chk (I64 (i + 1)) (
        some (Stp.ag (i + 1)))
  else
    some (Stp.dn (Ex.nx ()))
noncomputable def P_r1_Place (list : List Str) (word : Str) : Option Int :=
  chk (I64 ((list.length : Int) - 1)) (
    andx (
      iter (P_r1_Place_L1 list word) ((list.length : Int) - 1)) fun at_ =>
      seqx (
        iter (P_r1_Place_L2 list word at_) 0) fun _ =>
        some at_)
noncomputable def P_r1_Fresh (word : Str) (others : List Str) : Option Int :=
  andx (
    andx (P_r1_Place others word) fun y8 =>
      if y8 ≥ 0 then
        some 5
      else
        some 0) fun e =>
    andx (
      andx (P_r1_Name word) fun y11 =>
        if y11 = true then
          some e
        else
          some 6) fun e_2 =>
      some e_2
noncomputable def P_r9_Mark (r_Classes : List Str) (r_Shelves : List S_api_SfShelf) (r_Books : List S_api_SfBook) (m_Class : Int) (m_Number : Int) (m_Suffix : Str) : Option Int :=
  chk (I64 ((r_Classes.length : Int) - 1)) (
    andx (P_r9_in m_Class 0 ((r_Classes.length : Int) - 1)) fun y11 =>
      if y11 = true then
        andx (P_r9_in m_Number 1 9999) fun y15 =>
          if y15 = true then
            seqx (
              andx (
                if (m_Suffix.length : Int) > 2 then
                  some true
                else
                  andx (P_r9_letters m_Suffix) fun y24 =>
                    some (!y24)) fun x26 =>
                if x26 = true then
                  some (Ex.rt 6)
                else
                  some (Ex.nx ())) fun _ =>
              some 0
          else
            some 7
      else
        some 4)
noncomputable def P_r9_Own_L1 (books : List S_api_SfBook) : (Int × (List Int)) → Option (Stp (Int × (List Int)) (List Int)) := fun (i, out) =>
  if i < (books.length : Int) then
    el books i fun a14 =>
    chk (out.length + [a14.shelf].length < 1000000000) (
      chk (I64 (i + 1)) (
        some (Stp.ag ((i + 1), out ++ [a14.shelf]))))
  else
    some (Stp.dn out)
noncomputable def P_r9_Own (books : List S_api_SfBook) : Option (List Int) :=
  andx (
    iter (P_r9_Own_L1 books) (0, [])) fun out =>
    some out
noncomputable def P_r9_Book_L1 (b_Mark_Class : Int) (b_Mark_Number : Int) (b_Mark_Suffix : Str) (before : List S_api_SfBook) : (Int × Int) → Option (Stp (Int × Int) Int) := fun (e_2, i) =>
  seqx (
    andx (
      if i < (before.length : Int) then
        some (decide (e_2 = 0))
      else
        some false) fun x40 =>
      if x40 = true then
        some (Ex.nx ())
      else
        some (Ex.rt (Stp.dn e_2))) fun _ =>
    andx (
      el before i fun a45 =>
      if a45.mark_class = b_Mark_Class ∧ a45.mark_number = b_Mark_Number ∧ a45.mark_suffix = b_Mark_Suffix then
        some 5
      else
        some e_2) fun e_3 =>
      chk (I64 (i + 1)) (
        some (Stp.ag (e_3, (i + 1))))
noncomputable def P_r9_Book (r_Classes : List Str) (r_Shelves : List S_api_SfShelf) (r_Books : List S_api_SfBook) (b_Mark_Class : Int) (b_Mark_Number : Int) (b_Mark_Suffix : Str) (b_Wide : Int) (b_High : Int) (b_Heavy : Int) (b_Shelf : Int) (before : List S_api_SfBook) : Option Int :=
  andx (P_r9_Mark r_Classes r_Shelves r_Books b_Mark_Class b_Mark_Number b_Mark_Suffix) fun y12 =>
    andx (
      andx (
        if y12 = 0 then
          andx (P_r9_in b_Wide 1 2000) fun y18 =>
            if y18 = true then
              andx (P_r9_in b_High 1 2000) fun y23 =>
                if y23 = true then
                  andx (P_r9_in b_Heavy 1 100) fun y29 =>
                    some (!y29)
                else
                  some true
            else
              some true
        else
          some false) fun x32 =>
        if x32 = true then
          some 7
        else
          some y12) fun e =>
      andx (
        iter (P_r9_Book_L1 b_Mark_Class b_Mark_Number b_Mark_Suffix before) (e, 0)) fun e_2 =>
        some e_2
noncomputable def P_r9_Filled_L1 (r_Shelves : List S_api_SfShelf) (books : List S_api_SfBook) (shelves : List Int) (shelf : Int) : (Int × Int) → Option (Stp (Int × Int) (Ex Int Int)) := fun (n, i) =>
  if i < (books.length : Int) then
    seqx (
      el shelves i fun a19 =>
      if ¬ a19 = shelf then
        some (Ex.nx n)
      else
        el books i fun a25 =>
        el r_Shelves shelf fun a31 =>
        if a25.high > a31.high then
          some (Ex.rt (Stp.dn (Ex.rt (-1))))
        else
          el books i fun a38 =>
          chk (I64 (n + a38.wide)) (
            some (Ex.nx (n + a38.wide)))) fun n_2 =>
      chk (I64 (i + 1)) (
        some (Stp.ag (n_2, (i + 1))))
  else
    some (Stp.dn (Ex.nx n))
noncomputable def P_r9_Filled (r_Classes : List Str) (r_Shelves : List S_api_SfShelf) (r_Books : List S_api_SfBook) (books : List S_api_SfBook) (shelves : List Int) (shelf : Int) : Option Int :=
  seqx (
    iter (P_r9_Filled_L1 r_Shelves books shelves shelf) (0, 0)) fun n =>
    some n
noncomputable def P_r9_fit (r_Classes : List Str) (r_Shelves : List S_api_SfShelf) (r_Books : List S_api_SfBook) (books : List S_api_SfBook) (shelves : List Int) (shelf : Int) : Option Bool :=
 el r_Shelves shelf fun a17 =>
 andx (P_r9_Filled r_Classes r_Shelves r_Books books shelves shelf) fun y13 =>
  andx (P_r9_in y13 0 a17.wide) fun y20 =>
   some y20
noncomputable def P_r9_Check_L1 (r_Classes : List Str) : Int → Option (Stp Int (Ex Unit (Int × Int × Int))) := fun i =>
  if i < (r_Classes.length : Int) then
    el r_Classes i fun a28 =>
    chk (0 ≤ (0 : Int) ∧ (0 : Int) ≤ i ∧ i ≤ (r_Classes.length : Int)) (
      andx (P_r1_Fresh a28 (List.take (i - (0 : Int)).toNat (List.drop ((0 : Int) : Int).toNat r_Classes))) fun y34 =>
        if ¬ y34 = 0 then
          some (Stp.dn (Ex.rt (1, i, y34)))
        else
          chk (I64 (i + 1)) (
            some (Stp.ag (i + 1))))
  else
    some (Stp.dn (Ex.nx ()))
noncomputable def P_r9_Check_L2 (r_Shelves : List S_api_SfShelf) : Int → Option (Stp Int (Ex Unit (Int × Int × Int))) := fun i =>
  if i < (r_Shelves.length : Int) then
    seqx (
      el r_Shelves i fun a54 =>
      andx (
        andx (P_r9_in a54.away 0 1000) fun y58 =>
          if y58 = true then
            andx (P_r9_in a54.climb 0 1000) fun y63 =>
              if y63 = true then
                andx (P_r9_in a54.wide 1 2000) fun y69 =>
                  if y69 = true then
                    andx (P_r9_in a54.high 1 2000) fun y75 =>
                      some (!y75)
                  else
                    some true
              else
                some true
          else
            some true) fun x77 =>
        if x77 = true then
          some (Ex.rt (Stp.dn (Ex.rt (2, i, 7))))
        else
          some (Ex.nx ())) fun _ =>
      chk (I64 (i + 1)) (
        some (Stp.ag (i + 1)))
  else
    some (Stp.dn (Ex.nx ()))
noncomputable def P_r9_Check_L3 (r_Classes : List Str) (r_Shelves : List S_api_SfShelf) (r_Books : List S_api_SfBook) : Int → Option (Stp Int (Ex Unit (Int × Int × Int))) := fun i =>
  if i < (r_Books.length : Int) then
    seqx (
      el r_Books i fun a93 =>
      chk (0 ≤ (0 : Int) ∧ (0 : Int) ≤ i ∧ i ≤ (r_Books.length : Int)) (
        andx (P_r9_Book r_Classes r_Shelves r_Books a93.mark_class a93.mark_number a93.mark_suffix a93.wide a93.high a93.heavy a93.shelf (List.take (i - (0 : Int)).toNat (List.drop ((0 : Int) : Int).toNat r_Books))) fun y101 =>
          andx (
            andx (
              if y101 = 0 then
                chk (I64 ((r_Shelves.length : Int) - 1)) (
                  andx (P_r9_in a93.shelf 0 ((r_Shelves.length : Int) - 1)) fun y111 =>
                    some (!y111))
              else
                some false) fun x113 =>
              if x113 = true then
                some 4
              else
                some y101) fun e =>
            andx (
              andx (
                if e = 0 then
                  if i > 0 then
                    chk (I64 (i - 1)) (
                      el r_Books (i - 1) fun a127 =>
                      some (decide (a93.shelf < a127.shelf)))
                  else
                    some false
                else
                  some false) fun x131 =>
                if x131 = true then
                  some 2
                else
                  some e) fun e_2 =>
              if ¬ e_2 = 0 then
                some (Ex.rt (Stp.dn (Ex.rt (3, i, e_2))))
              else
                some (Ex.nx ()))) fun _ =>
      chk (I64 (i + 1)) (
        some (Stp.ag (i + 1)))
  else
    some (Stp.dn (Ex.nx ()))
noncomputable def P_r9_Check_L4 (r_Classes : List Str) (r_Shelves : List S_api_SfShelf) (r_Books : List S_api_SfBook) : Int → Option (Stp Int (Ex Unit (Int × Int × Int))) := fun i =>
  if i < (r_Shelves.length : Int) then
    andx (P_r9_Own r_Books) fun y148 =>
      andx (P_r9_fit r_Classes r_Shelves r_Books r_Books y148 i) fun y150 =>
        if y150 = true then
          chk (I64 (i + 1)) (
            some (Stp.ag (i + 1)))
        else
          some (Stp.dn (Ex.rt (4, i, 9)))
  else
    some (Stp.dn (Ex.nx ()))
noncomputable def P_r9_Check (r_Classes : List Str) (r_Shelves : List S_api_SfShelf) (r_Books : List S_api_SfBook) : Option (Int × Int × Int) :=
  andx (P_r9_in (r_Classes.length : Int) 1 6) fun y16 =>
    if y16 = true then
      seqx (
        iter (P_r9_Check_L1 r_Classes) 0) fun _ =>
        andx (P_r9_in (r_Shelves.length : Int) 1 4) fun y42 =>
          if y42 = true then
            seqx (
              iter (P_r9_Check_L2 r_Shelves) 0) fun _ =>
              if (r_Books.length : Int) > 10 then
                some (3, 0, 3)
              else
                seqx (
                  iter (P_r9_Check_L3 r_Classes r_Shelves r_Books) 0) fun _ =>
                  seqx (
                    iter (P_r9_Check_L4 r_Classes r_Shelves r_Books) 0) fun _ =>
                    some (0, 0, 0)
          else
            some (2, 0, 3)
    else
      some (1, 0, 3)
noncomputable def P_q_Name_L1 (s : Str) : Nat → Option (Stp Nat (Ex Unit Bool)) := fun pos =>
  if pos < s.length then
    andx (
      if (runeAt s pos) ≥ 97 then
        some (decide ((runeAt s pos) ≤ 122))
      else
        some false) fun x11 =>
      if x11 = true then
        some (Stp.ag (pos + runeLen s pos))
      else
        andx (
          if (pos : Int) > 0 then
            if (runeAt s pos) ≥ 48 then
              if (runeAt s pos) ≤ 57 then
                some true
              else
                some (decide ((runeAt s pos) = 46))
            else
              some (decide ((runeAt s pos) = 46))
          else
            some false) fun x18 =>
          if x18 = true then
            some (Stp.ag (pos + runeLen s pos))
          else
            some (Stp.dn (Ex.rt false))
  else
    some (Stp.dn (Ex.nx ()))
noncomputable def P_q_Name (s : Str) : Option Bool :=
  seqx (
    iter (P_q_Name_L1 s) 0) fun _ =>
    andx (
      if ¬ s = ([] : Str) then
        some (decide ((s.length : Int) ≤ 16))
      else
        some false) fun x2 =>
      some x2
noncomputable def P_s9_out_L1 (lo : Int) (hi : Int) (numbers : List Int) : Int → Option (Stp Int (Ex Unit Int)) := fun x8 =>
  if x8 < (numbers.length : Int) then
    el numbers x8 fun a14 =>
    andx (
      if a14 < lo then
        some true
      else
        some (decide (a14 > hi))) fun x4 =>
      if x4 = true then
        some (Stp.dn (Ex.rt x8))
      else
        chk (I64 (x8 + 1)) (
          some (Stp.ag (x8 + 1)))
  else
    some (Stp.dn (Ex.nx ()))
noncomputable def P_s9_out (lo : Int) (hi : Int) (numbers : List Int) : Option Bool :=
  andx (
    seqx (
      iter (P_s9_out_L1 lo hi numbers) 0) fun _ =>
      some (-1)) fun y7 =>
    some (decide (y7 ≥ 0))
noncomputable def P_s9_mark_L1 (m_Suffix : Str) : Nat → Option (Stp Nat (Ex Unit Int)) := fun pos =>
  if pos < m_Suffix.length then
    andx (
      if (runeAt m_Suffix pos) < 97 then
        some true
      else
        some (decide ((runeAt m_Suffix pos) > 122))) fun x38 =>
      if x38 = true then
        some (Stp.dn (Ex.rt 6))
      else
        some (Stp.ag (pos + runeLen m_Suffix pos))
  else
    some (Stp.dn (Ex.nx ()))
noncomputable def P_s9_mark (r_SfRoom_Classes : List Str) (r_SfRoom_Shelves : List S_api_SfShelf) (r_SfRoom_Books : List S_api_SfBook) (m_Class : Int) (m_Number : Int) (m_Suffix : Str) : Option Int :=
  chk (I64 ((r_SfRoom_Classes.length : Int) - 1)) (
    andx (P_s9_out 0 ((r_SfRoom_Classes.length : Int) - 1) [m_Class]) fun y16 =>
      if y16 = true then
        some 4
      else
        andx (P_s9_out 1 9999 [m_Number]) fun y21 =>
          if y21 = true then
            some 7
          else
            if (m_Suffix.length : Int) > 2 then
              some 6
            else
              seqx (
                iter (P_s9_mark_L1 m_Suffix) 0) fun _ =>
                some 0)
noncomputable def P_s9_book_L1 (b_Mark_Class : Int) (b_Mark_Number : Int) (b_Mark_Suffix : Str) (others : List S_api_SfBook) : Int → Option (Stp Int (Ex Unit Int)) := fun x8 =>
  if x8 < (others.length : Int) then
    el others x8 fun a14 =>
    if a14.mark_class = b_Mark_Class ∧ a14.mark_number = b_Mark_Number ∧ a14.mark_suffix = b_Mark_Suffix then
      some (Stp.dn (Ex.rt x8))
    else
      chk (I64 (x8 + 1)) (
        some (Stp.ag (x8 + 1)))
  else
    some (Stp.dn (Ex.nx ()))
noncomputable def P_s9_book (r_SfRoom_Classes : List Str) (r_SfRoom_Shelves : List S_api_SfShelf) (r_SfRoom_Books : List S_api_SfBook) (b_Mark_Class : Int) (b_Mark_Number : Int) (b_Mark_Suffix : Str) (b_Wide : Int) (b_High : Int) (b_Heavy : Int) (b_Shelf : Int) (others : List S_api_SfBook) : Option Int :=
  andx (P_s9_mark r_SfRoom_Classes r_SfRoom_Shelves r_SfRoom_Books b_Mark_Class b_Mark_Number b_Mark_Suffix) fun y11 =>
    if ¬ y11 = 0 then
      some y11
    else
      seqx (
        andx (
          andx (P_s9_out 1 2000 [b_Wide, b_High]) fun y21 =>
            if y21 = true then
              some true
            else
              andx (P_s9_out 1 100 [b_Heavy]) fun y26 =>
                some y26) fun x15 =>
          if x15 = true then
            some (Ex.rt 7)
          else
            andx (
              seqx (
                iter (P_s9_book_L1 b_Mark_Class b_Mark_Number b_Mark_Suffix others) 0) fun _ =>
                some (-1)) fun y7 =>
              if y7 ≥ 0 then
                some (Ex.rt 5)
              else
                some (Ex.nx ())) fun _ =>
        some 0
noncomputable def P_s9_Check_L2 (r_Classes : List Str) (x11 : Int) (a14 : Str) : Int → Option (Stp Int (Ex Unit Int)) := fun x8 =>
  if x8 < ((List.take (x11 - (0 : Int)).toNat (List.drop ((0 : Int) : Int).toNat r_Classes)).length : Int) then
    el (List.take (x11 - (0 : Int)).toNat (List.drop ((0 : Int) : Int).toNat r_Classes)) x8 fun a14_2 =>
    if a14 = a14_2 then
      some (Stp.dn (Ex.rt x8))
    else
      chk (I64 (x8 + 1)) (
        some (Stp.ag (x8 + 1)))
  else
    some (Stp.dn (Ex.nx ()))
noncomputable def P_s9_Check_L1 (r_Classes : List Str) : Int → Option (Stp Int (Ex Unit (Int × Int))) := fun x11 =>
  if x11 < (r_Classes.length : Int) then
    el r_Classes x11 fun a14 =>
    andx (
      andx (P_q_Name a14) fun y8 =>
        if y8 = true then
          chk (0 ≤ (0 : Int) ∧ (0 : Int) ≤ x11 ∧ x11 ≤ (r_Classes.length : Int)) (
            andx (
              seqx (
                iter (P_s9_Check_L2 r_Classes x11 a14) 0) fun _ =>
                some (-1)) fun y7 =>
              if y7 ≥ 0 then
                some 5
              else
                some 0)
        else
          some 6) fun y19 =>
      if ¬ y19 = 0 then
        some (Stp.dn (Ex.rt (x11, y19)))
      else
        chk (I64 (x11 + 1)) (
          some (Stp.ag (x11 + 1)))
  else
    some (Stp.dn (Ex.nx ()))
noncomputable def P_s9_Check_L3 (r_Shelves : List S_api_SfShelf) : Int → Option (Stp Int (Ex Unit (Int × Int))) := fun x11 =>
  if x11 < (r_Shelves.length : Int) then
    el r_Shelves x11 fun a14 =>
    andx (
      seqx (
        andx (
          andx (P_s9_out 0 1000 [a14.away, a14.climb]) fun y10 =>
            if y10 = true then
              some true
            else
              andx (P_s9_out 1 2000 [a14.wide, a14.high]) fun y17 =>
                some y17) fun x18 =>
          if x18 = true then
            some (Ex.rt 7)
          else
            some (Ex.nx ())) fun _ =>
        some 0) fun y19 =>
      if ¬ y19 = 0 then
        some (Stp.dn (Ex.rt (x11, y19)))
      else
        chk (I64 (x11 + 1)) (
          some (Stp.ag (x11 + 1)))
  else
    some (Stp.dn (Ex.nx ()))
noncomputable def P_s9_Check_L4 (r_Classes : List Str) (r_Shelves : List S_api_SfShelf) (r_Books : List S_api_SfBook) : Int → Option (Stp Int (Ex Unit (Int × Int))) := fun x11 =>
  if x11 < (r_Books.length : Int) then
    el r_Books x11 fun a14 =>
    andx (
      chk (0 ≤ (0 : Int) ∧ (0 : Int) ≤ x11 ∧ x11 ≤ (r_Books.length : Int)) (
        andx (P_s9_book r_Classes r_Shelves r_Books a14.mark_class a14.mark_number a14.mark_suffix a14.wide a14.high a14.heavy a14.shelf (List.take (x11 - (0 : Int)).toNat (List.drop ((0 : Int) : Int).toNat r_Books))) fun y14_3 =>
          seqx (
            if ¬ y14_3 = 0 then
              some (Ex.rt y14_3)
            else
              chk (I64 ((r_Shelves.length : Int) - 1)) (
                andx (P_s9_out 0 ((r_Shelves.length : Int) - 1) [a14.shelf]) fun y27_2 =>
                  if y27_2 = true then
                    some (Ex.rt 4)
                  else
                    andx (
                      if x11 > 0 then
                        chk (I64 (x11 - 1)) (
                          el r_Books (x11 - 1) fun a38 =>
                          some (decide (a14.shelf < a38.shelf)))
                      else
                        some false) fun x28 =>
                      if x28 = true then
                        some (Ex.rt 2)
                      else
                        some (Ex.nx ()))) fun _ =>
            some 0)) fun y19 =>
      if ¬ y19 = 0 then
        some (Stp.dn (Ex.rt (x11, y19)))
      else
        chk (I64 (x11 + 1)) (
          some (Stp.ag (x11 + 1)))
  else
    some (Stp.dn (Ex.nx ()))
noncomputable def P_s9_Check_L6 (r_Books : List S_api_SfBook) (x11 : Int) (a14 : S_api_SfShelf) : (Int × Int) → Option (Stp (Int × Int) (Ex Int Int)) := fun (x11_2, s_Wide) =>
  if x11_2 < (r_Books.length : Int) then
    seqx (
      el r_Books x11_2 fun a13 =>
      if ¬ a13.shelf = x11 then
        some (Ex.nx s_Wide)
      else
        chk (I64 (s_Wide - a13.wide)) (
          andx (
            if (s_Wide - a13.wide) < 0 then
              some true
            else
              some (decide (a13.high > a14.high))) fun x34 =>
            if x34 = true then
              some (Ex.rt (Stp.dn (Ex.rt 9)))
            else
              some (Ex.nx (s_Wide - a13.wide)))) fun s_Wide_2 =>
      chk (I64 (x11_2 + 1)) (
        some (Stp.ag ((x11_2 + 1), s_Wide_2)))
  else
    some (Stp.dn (Ex.nx s_Wide))
noncomputable def P_s9_Check_L5 (r_Shelves : List S_api_SfShelf) (r_Books : List S_api_SfBook) : Int → Option (Stp Int (Ex Unit (Int × Int))) := fun x11 =>
  if x11 < (r_Shelves.length : Int) then
    el r_Shelves x11 fun a14 =>
    andx (
      seqx (
        iter (P_s9_Check_L6 r_Books x11 a14) (0, a14.wide)) fun s_Wide =>
        some 0) fun y19 =>
      if ¬ y19 = 0 then
        some (Stp.dn (Ex.rt (x11, y19)))
      else
        chk (I64 (x11 + 1)) (
          some (Stp.ag (x11 + 1)))
  else
    some (Stp.dn (Ex.nx ()))
noncomputable def P_s9_Check (r_Classes : List Str) (r_Shelves : List S_api_SfShelf) (r_Books : List S_api_SfBook) : Option (Int × Int × Int) :=
  andx (P_s9_out 1 6 [(r_Classes.length : Int)]) fun y9 =>
    if y9 = true then
      some (1, 0, 3)
    else
      andx (
        seqx (
          iter (P_s9_Check_L1 r_Classes) 0) fun _ =>
          some (0, 0)) fun (y14, y14_2) =>
        if ¬ y14_2 = 0 then
          some (1, y14, y14_2)
        else
          andx (P_s9_out 1 4 [(r_Shelves.length : Int)]) fun y27 =>
            if y27 = true then
              some (2, 0, 3)
            else
              andx (
                seqx (
                  iter (P_s9_Check_L3 r_Shelves) 0) fun _ =>
                  some (0, 0)) fun (y31, y31_2) =>
                if ¬ y31_2 = 0 then
                  some (2, y31, y31_2)
                else
                  if (r_Books.length : Int) > 10 then
                    some (3, 0, 3)
                  else
                    andx (
                      seqx (
                        iter (P_s9_Check_L4 r_Classes r_Shelves r_Books) 0) fun _ =>
                        some (0, 0)) fun (y48, y48_2) =>
                      if ¬ y48_2 = 0 then
                        some (3, y48, y48_2)
                      else
                        andx (
                          seqx (
                            iter (P_s9_Check_L5 r_Shelves r_Books) 0) fun _ =>
                            some (0, 0)) fun (y59, y59_2) =>
                          if ¬ y59_2 = 0 then
                            some (4, y59, y59_2)
                          else
                            some (0, 0, 0)
noncomputable def P_s9_open (r_Classes : List Str) (r_Shelves : List S_api_SfShelf) (r_Books : List S_api_SfBook) : Option Int :=
 andx (P_s9_Check r_Classes r_Shelves r_Books) fun (y9, y9_2, y9_3) =>
  some y9_3
noncomputable def P_law9_valid (r_Classes : List Str) (r_Shelves : List S_api_SfShelf) (r_Books : List S_api_SfBook) : Option Bool :=
 andx (P_r9_Check r_Classes r_Shelves r_Books) fun (y8, y8_2, y8_3) =>
  some (decide (y8_3 = 0))
end Go.Am
end
section
namespace Go.Am.YtiaolgbmbhldgaaGreatDoor
open Go.Am Go.RowKit
set_option linter.unusedVariables false
set_option linter.unusedSimpArgs false
set_option maxRecDepth 10000 in
theorem tf_r9_in {k : Nat} (hk : 0 ≤ k) {C : List Thing} {n : Int} {low : Int} {high : Int} {r : Bool} (h : P_r9_in n low high = some r) :
  TF (EL k) 73 [iv (n), iv (low), iv (high)] C (RepF (fun (w : Unit) => bv r) (fun (w : Unit) => C)) := by
 unfold P_r9_in at h;refine TF.enter (fn := Go.Proofs.Tryz.f73) rfl rfl rfl rfl rfl ?_;refine T.seq ?_;refine T.text rfl ?_;refine TO.val rfl rfl rfl (Val.assign rfl) ?_;refine TO.nil ?_
 show T _ _ _ _ _ _;apply T.joinA (r := r) (W := Unit) (fun (j : Bool) (w : Unit) => ⟨[], [(6, bv j)], C⟩) h
 ·intro j h;refine T.text rfl ?_;refine TO.val rfl rfl rfl (Val.move rfl) ?_;refine TO.val rfl rfl rfl (Val.move rfl) ?_;obtain ⟨c9, hc9⟩ : ∃ c : Bool, c = decide (low ≤ n) := ⟨_, rfl⟩;refine TO.val rfl rfl rfl (Val.leq hc9 rfl rfl) ?_;refine TO.val rfl rfl rfl (Val.move rfl) ?_;cases c9 with
  | true =>
   replace hc9 := of_decide_eq_true hc9.symm;rw [if_pos hc9] at h;refine TO.val rfl rfl rfl (Val.move rfl) ?_;refine TO.val rfl rfl rfl (Val.move rfl) ?_;obtain ⟨c13, hc13⟩ : ∃ c : Bool, c = decide (n ≤ high) := ⟨_, rfl⟩;refine TO.val rfl rfl rfl (Val.leq hc13 rfl rfl) ?_;refine TO.val rfl rfl rfl (Val.pick rfl rfl rfl) ?_;refine TO.val rfl rfl rfl (Val.assign rfl) ?_;refine TO.nil ?_;subst hc13;cases h;exact ⟨rfl, (), ⟨rfl, (keep_cons rfl keep_nil), .refl⟩⟩
  | false =>
   replace hc9 := of_decide_eq_false hc9.symm;rw [if_neg hc9] at h;refine TO.off rfl rfl rfl ?_;refine TO.off rfl rfl rfl ?_;refine TO.off rfl rfl rfl ?_;refine TO.val rfl rfl rfl (Val.pick rfl rfl rfl) ?_;refine TO.val rfl rfl rfl (Val.assign rfl) ?_;refine TO.nil ?_;cases h;exact ⟨rfl, (), ⟨rfl, (keep_cons rfl keep_nil), .refl⟩⟩
 ·rintro x6 _ h;skip;refine T.at (s' := ⟨[], [(6, bv x6)], C⟩) rfl ?_;refine T.ret ?_;cases h;exact ⟨rfl, _, rfl, ⟨(), rfl, .refl⟩⟩
set_option maxRecDepth 10000 in
theorem tf_r9_letters {k : Nat} (hk : 0 ≤ k) {C : List Thing} {s : Str} {r : Bool} (h : P_r9_letters s = some r) :
  TF (EL k) 122 [sv s] C (RepF (fun (w : Unit) => bv r) (fun (w : Unit) => C)) := by
 unfold P_r9_letters at h;refine TF.enter (fn := Go.Proofs.Tryz.f122) rfl rfl rfl rfl rfl ?_;refine T.seq ?_;refine T.text rfl ?_;refine TO.val rfl rfl rfl (Val.assign rfl) ?_;refine TO.nil ?_
 show T _ _ _ _ _ _;apply T.join (r := r) (W := Unit) (fun (j : Unit) (w : Unit) => ⟨[], [], C⟩) h
 ·intro j h;refine T.seq ?_;refine T.text rfl ?_;refine TO.val rfl rfl rfl (Val.assign rfl) ?_;refine TO.nil ?_;refine T.block ?_
  show T _ _ _ _ _ _;apply T.iter (r := j) (W := Unit) (fun (j : Int) (w : Unit) => ⟨[], [(0, sv s), (3, iv (j))], C⟩) (w0 := ()) h
  ·exact ⟨rfl, (keep_cons rfl (keep_cons rfl keep_nil)), .refl⟩
  rintro i _ a h;unfold P_r9_letters_L1 at h;refine T.at (s' := ⟨[], [(0, sv s), (3, iv (i))], C⟩) rfl ?_;refine T.seq ?_;refine T.seq ?_;refine T.text rfl ?_;refine TO.val rfl rfl rfl (Val.move rfl) ?_;refine TO.val rfl rfl rfl (Val.move rfl) ?_;refine TO.val rfl rfl rfl (Val.len_str rfl rfl) ?_;obtain ⟨c7, hc7⟩ : ∃ c : Bool, c = decide (i < (s.length : Int)) := ⟨_, rfl⟩;refine TO.val rfl rfl rfl (Val.lss hc7 rfl rfl) ?_;refine TO.nil ?_;cases c7 with
  | true =>
   replace hc7 := of_decide_eq_true hc7.symm;rw [if_pos hc7] at h;refine T.condT (fun a ha => ha.ev (.tmp 7) _ rfl) ?_;refine T.skip ?_
   show T _ _ _ _ _ _;apply T.join (r := a) (W := Unit) (fun (j : Unit) (w : Unit) => ⟨[], [(0, sv s), (3, iv (i))], C⟩) h
   ·intro j h;refine T.block ?_
    show T _ _ _ _ _ _;apply T.joinA (r := j) (W := Unit) (fun (j : Bool) (w : Unit) => ⟨[], [(0, sv s), (3, iv (i)), (19, bv j)], C⟩) h
    ·intro j h;refine T.text rfl ?_;refine TO.val rfl rfl rfl (Val.move rfl) ?_;refine TO.val rfl rfl rfl (Val.move rfl) ?_;obtain ⟨hk12, h⟩ := chk_some h;refine TO.val rfl rfl rfl (Val.index_str rfl rfl rfl hk12) ?_;obtain ⟨c13, hc13⟩ : ∃ c : Bool, c = decide ((byteAt s i) < 97) := ⟨_, rfl⟩;refine TO.val rfl rfl rfl (Val.lssK hc13 rfl rfl) ?_;refine TO.val rfl rfl rfl (Val.move rfl) ?_;cases c13 with
     | true =>
      replace hc13 := of_decide_eq_true hc13.symm;rw [if_pos hc13] at h;refine TO.off rfl rfl rfl ?_;refine TO.off rfl rfl rfl ?_;refine TO.off rfl rfl rfl ?_;refine TO.off rfl rfl rfl ?_;refine TO.val rfl rfl rfl (Val.pick rfl rfl rfl) ?_;refine TO.nil ?_;cases h;exact ⟨rfl, (), ⟨rfl, (keep_cons rfl (keep_cons rfl (keep_cons rfl keep_nil))), .refl⟩⟩
     | false =>
      replace hc13 := of_decide_eq_false hc13.symm;rw [if_neg hc13] at h;refine TO.val rfl rfl rfl (Val.move rfl) ?_;refine TO.val rfl rfl rfl (Val.move rfl) ?_;obtain ⟨hk17, h⟩ := chk_some h;refine TO.val rfl rfl rfl (Val.index_str rfl rfl rfl hk17) ?_;obtain ⟨c18, hc18⟩ : ∃ c : Bool, c = decide ((byteAt s i) > 122) := ⟨_, rfl⟩;refine TO.val rfl rfl rfl (Val.gtrK hc18 rfl rfl) ?_;refine TO.val rfl rfl rfl (Val.pick rfl rfl rfl) ?_;refine TO.nil ?_;subst hc18;cases h;exact ⟨rfl, (), ⟨rfl, (keep_cons rfl (keep_cons rfl (keep_cons rfl keep_nil))), .refl⟩⟩
    ·rintro x19 _ h;skip;refine T.at (s' := ⟨[], [(0, sv s), (3, iv (i)), (19, bv x19)], C⟩) rfl ?_;cases x19 with
     | true =>
      rw [if_pos rfl] at h;refine T.condT (fun a ha => ha.ev (.tmp 19) _ rfl) ?_;refine T.seq ?_;refine T.text rfl ?_;refine TO.val rfl rfl rfl (Val.assign rfl) ?_;refine TO.nil ?_;refine T.ret ?_;cases h;exact ⟨ret_ne, ⟨ret_ne, ⟨ret_ne, ⟨rfl, _, rfl, ⟨(), rfl, .refl⟩⟩⟩⟩⟩
     | false =>
      rw [if_neg Bool.false_ne_true] at h;refine T.condF (fun a ha => ha.ev (.tmp 19) _ rfl) ?_;refine T.skip ?_;cases h;exact ⟨rfl, (), ⟨rfl, (keep_cons rfl (keep_cons rfl keep_nil)), .refl⟩⟩
   ·rintro _ _ h;skip;refine T.at (s' := ⟨[], [(0, sv s), (3, iv (i))], C⟩) rfl ?_;refine T.text rfl ?_;refine TO.val rfl rfl rfl (Val.move rfl) ?_;obtain ⟨hk9, h⟩ := chk_some h;refine TO.val rfl rfl rfl (Val.add rfl rfl hk9) ?_;refine TO.val rfl rfl rfl (Val.assign rfl) ?_;refine TO.nil ?_;cases h;exact ⟨rfl, (), ⟨rfl, (keep_cons rfl (keep_cons rfl keep_nil)), .refl⟩⟩
  | false =>
   replace hc7 := of_decide_eq_false hc7.symm;rw [if_neg hc7] at h;refine T.condF (fun a ha => ha.ev (.tmp 7) _ rfl) ?_;refine T.exit ?_;cases h;exact ⟨ex_ne, ⟨rfl, (), ⟨rfl, keep_nil, .refl⟩⟩⟩
 ·rintro _ _ h;skip;refine T.at (s' := ⟨[], [], C⟩) rfl ?_;refine T.seq ?_;refine T.text rfl ?_;refine TO.val rfl rfl rfl (Val.assign rfl) ?_;refine TO.nil ?_;refine T.ret ?_;cases h;exact ⟨rfl, _, rfl, ⟨(), rfl, .refl⟩⟩
set_option maxRecDepth 10000 in
theorem tf_r1_Name {k : Nat} (hk : 0 ≤ k) {C : List Thing} {s : Str} {r : Bool} (h : P_r1_Name s = some r) :
  TF (EL k) 120 [sv s] C (RepF (fun (w : Unit) => bv r) (fun (w : Unit) => C)) := by
 unfold P_r1_Name at h;refine TF.enter (fn := Go.Proofs.Tryz.f120) rfl rfl rfl rfl rfl ?_;refine T.seq ?_;refine T.text rfl ?_;refine TO.val rfl rfl rfl (Val.assign rfl) ?_;refine TO.nil ?_
 show T _ _ _ _ _ _;apply T.join (r := r) (W := Unit) (fun (j : Unit) (w : Unit) => ⟨[], [(0, sv s)], C⟩) h
 ·intro j h
  show T _ _ _ _ _ _;apply T.joinA (r := j) (W := Unit) (fun (j : Bool) (w : Unit) => ⟨[], [(0, sv s), (11, bv j)], C⟩) h
  ·intro j h;refine T.text rfl ?_;refine TO.val rfl rfl rfl (Val.move rfl) ?_;refine TO.val rfl rfl rfl (Val.len_str rfl rfl) ?_;obtain ⟨c6, hc6⟩ : ∃ c : Bool, c = decide ((s.length : Int) = 0) := ⟨_, rfl⟩;refine TO.val rfl rfl rfl (Val.eql hc6 rfl rfl) ?_;refine TO.val rfl rfl rfl (Val.move rfl) ?_;cases c6 with
   | true =>
    replace hc6 := of_decide_eq_true hc6.symm;rw [if_pos hc6] at h;refine TO.off rfl rfl rfl ?_;refine TO.off rfl rfl rfl ?_;refine TO.off rfl rfl rfl ?_;refine TO.val rfl rfl rfl (Val.pick rfl rfl rfl) ?_;refine TO.nil ?_;cases h;exact ⟨rfl, (), ⟨rfl, (keep_cons rfl (keep_cons rfl keep_nil)), .refl⟩⟩
   | false =>
    replace hc6 := of_decide_eq_false hc6.symm;rw [if_neg hc6] at h;refine TO.val rfl rfl rfl (Val.move rfl) ?_;refine TO.val rfl rfl rfl (Val.len_str rfl rfl) ?_;obtain ⟨c10, hc10⟩ : ∃ c : Bool, c = decide ((s.length : Int) > 16) := ⟨_, rfl⟩;refine TO.val rfl rfl rfl (Val.gtr hc10 rfl rfl) ?_;refine TO.val rfl rfl rfl (Val.pick rfl rfl rfl) ?_;refine TO.nil ?_;subst hc10;cases h;exact ⟨rfl, (), ⟨rfl, (keep_cons rfl (keep_cons rfl keep_nil)), .refl⟩⟩
  ·rintro x11 _ h;skip;refine T.at (s' := ⟨[], [(0, sv s), (11, bv x11)], C⟩) rfl ?_;cases x11 with
   | true =>
    rw [if_pos rfl] at h;refine T.condT (fun a ha => ha.ev (.tmp 11) _ rfl) ?_;refine T.seq ?_;refine T.text rfl ?_;refine TO.val rfl rfl rfl (Val.assign rfl) ?_;refine TO.nil ?_;refine T.ret ?_;cases h;exact ⟨ret_ne, ⟨rfl, _, rfl, ⟨(), rfl, .refl⟩⟩⟩
   | false =>
    rw [if_neg Bool.false_ne_true] at h;refine T.condF (fun a ha => ha.ev (.tmp 11) _ rfl) ?_;refine T.skip ?_;cases h;exact ⟨rfl, (), ⟨rfl, (keep_cons rfl keep_nil), .refl⟩⟩
 ·rintro _ _ h;skip;refine T.at (s' := ⟨[], [(0, sv s)], C⟩) rfl ?_
  show T _ _ _ _ _ _;apply T.join (r := r) (W := Unit) (fun (j : Unit) (w : Unit) => ⟨[], [], C⟩) h
  ·intro j h;refine T.seq ?_;refine T.text rfl ?_;refine TO.val rfl rfl rfl (Val.assign rfl) ?_;refine TO.nil ?_;refine T.block ?_
   show T _ _ _ _ _ _;apply T.iter (r := j) (W := Unit) (fun (j : Int) (w : Unit) => ⟨[], [(0, sv s), (3, iv (j))], C⟩) (w0 := ()) h
   ·exact ⟨rfl, (keep_cons rfl (keep_cons rfl keep_nil)), .refl⟩
   rintro i _ a h;unfold P_r1_Name_L1 at h;refine T.at (s' := ⟨[], [(0, sv s), (3, iv (i))], C⟩) rfl ?_;refine T.seq ?_;refine T.seq ?_;refine T.text rfl ?_;refine TO.val rfl rfl rfl (Val.move rfl) ?_;refine TO.val rfl rfl rfl (Val.move rfl) ?_;refine TO.val rfl rfl rfl (Val.len_str rfl rfl) ?_;obtain ⟨c15, hc15⟩ : ∃ c : Bool, c = decide (i < (s.length : Int)) := ⟨_, rfl⟩;refine TO.val rfl rfl rfl (Val.lss hc15 rfl rfl) ?_;refine TO.nil ?_;cases c15 with
   | true =>
    replace hc15 := of_decide_eq_true hc15.symm;rw [if_pos hc15] at h;refine T.condT (fun a ha => ha.ev (.tmp 15) _ rfl) ?_;refine T.skip ?_
    show T _ _ _ _ _ _;apply T.join (r := a) (W := Unit) (fun (j : Unit) (w : Unit) => ⟨[], [(0, sv s), (3, iv (i))], C⟩) h
    ·intro j h;refine T.block ?_
     show T _ _ _ _ _ _;apply T.joinA (r := j) (W := Unit) (fun (j : Bool) (w : Unit) => ⟨[], [(0, sv s), (3, iv (i)), (39, bv j)], C⟩) h
     ·intro j h;refine T.text rfl ?_;refine TO.val rfl rfl rfl (Val.move rfl) ?_;refine TO.val rfl rfl rfl (Val.move rfl) ?_;obtain ⟨hk20, h⟩ := chk_some h;refine TO.val rfl rfl rfl (Val.index_str rfl rfl rfl hk20) ?_;refine TO.callIn rfl rfl rfl rfl rfl rfl (orcN rfl) ?_;refine TF.enter (fn := Go.Proofs.Tryz.f143) rfl rfl rfl rfl rfl ?_;refine T.seq ?_;refine T.text rfl ?_;refine TO.val rfl rfl rfl (Val.assign rfl) ?_;refine TO.nil ?_
      show T _ _ _ _ _ _;apply T.joinA (r := j) (W := Unit) (fun (j : Bool) (w : Unit) => ⟨[], [(2, bv j)], C⟩) h
      ·intro j h;refine T.text rfl ?_;refine TO.val rfl rfl rfl (Val.move rfl) ?_;obtain ⟨c4, hc4⟩ : ∃ c : Bool, c = decide ((byteAt s i) ≥ 97) := ⟨_, rfl⟩;refine TO.val rfl rfl rfl (Val.geqK hc4 rfl rfl) ?_;refine TO.val rfl rfl rfl (Val.move rfl) ?_;cases c4 with
       | true =>
        replace hc4 := of_decide_eq_true hc4.symm;rw [if_pos hc4] at h;refine TO.val rfl rfl rfl (Val.move rfl) ?_;obtain ⟨c7, hc7⟩ : ∃ c : Bool, c = decide ((byteAt s i) ≤ 122) := ⟨_, rfl⟩;refine TO.val rfl rfl rfl (Val.leqK hc7 rfl rfl) ?_;refine TO.val rfl rfl rfl (Val.pick rfl rfl rfl) ?_;refine TO.val rfl rfl rfl (Val.assign rfl) ?_;refine TO.nil ?_;subst hc7;cases h;exact ⟨rfl, (), ⟨rfl, (keep_cons rfl keep_nil), .refl⟩⟩
       | false =>
        replace hc4 := of_decide_eq_false hc4.symm;rw [if_neg hc4] at h;refine TO.off rfl rfl rfl ?_;refine TO.off rfl rfl rfl ?_;refine TO.val rfl rfl rfl (Val.pick rfl rfl rfl) ?_;refine TO.val rfl rfl rfl (Val.assign rfl) ?_;refine TO.nil ?_;cases h;exact ⟨rfl, (), ⟨rfl, (keep_cons rfl keep_nil), .refl⟩⟩
      ·rintro x2 _ h;skip;refine T.at (s' := ⟨[], [(2, bv x2)], C⟩) rfl ?_;refine T.ret ?_;refine ⟨rfl, _, rfl, ?_⟩;refine TO.val rfl rfl rfl (Val.not rfl) ?_;refine TO.val rfl rfl rfl (Val.move rfl) ?_;cases x2 with
       | true =>
        rw [if_pos rfl] at h;refine TO.off rfl rfl rfl ?_;refine TO.off rfl rfl rfl ?_;refine TO.off rfl rfl rfl ?_;refine TO.off rfl rfl rfl ?_;refine TO.off rfl rfl rfl ?_;refine TO.off rfl rfl rfl ?_;refine TO.off rfl rfl rfl ?_;refine TO.off rfl rfl rfl ?_;refine TO.off rfl rfl rfl ?_;refine TO.off rfl rfl rfl ?_;refine TO.off rfl rfl rfl ?_;refine TO.off rfl rfl rfl ?_;refine TO.off rfl rfl rfl ?_;refine TO.off rfl rfl rfl ?_;refine TO.off rfl rfl rfl ?_;refine TO.val rfl rfl rfl (Val.pick rfl rfl rfl) ?_;refine TO.nil ?_;cases h;exact ⟨rfl, (), ⟨rfl, (keep_cons rfl (keep_cons rfl (keep_cons rfl keep_nil))), .refl⟩⟩
       | false =>
        rw [if_neg Bool.false_ne_true] at h;refine TO.val rfl rfl rfl (Val.move rfl) ?_;obtain ⟨c25, hc25⟩ : ∃ c : Bool, c = decide (i = 0) := ⟨_, rfl⟩;refine TO.val rfl rfl rfl (Val.eql hc25 rfl rfl) ?_;refine TO.val rfl rfl rfl (Val.move rfl) ?_;cases c25 with
        | true =>
         replace hc25 := of_decide_eq_true hc25.symm;rw [if_pos hc25] at h;refine TO.off rfl rfl rfl ?_;refine TO.off rfl rfl rfl ?_;refine TO.off rfl rfl rfl ?_;refine TO.off rfl rfl rfl ?_;refine TO.off rfl rfl rfl ?_;refine TO.off rfl rfl rfl ?_;refine TO.off rfl rfl rfl ?_;refine TO.off rfl rfl rfl ?_;refine TO.off rfl rfl rfl ?_;refine TO.off rfl rfl rfl ?_;refine TO.off rfl rfl rfl ?_;refine TO.val rfl rfl rfl (Val.pick rfl rfl rfl) ?_;refine TO.val rfl rfl rfl (Val.pick rfl rfl rfl) ?_;refine TO.nil ?_;cases h;exact ⟨rfl, (), ⟨rfl, (keep_cons rfl (keep_cons rfl (keep_cons rfl keep_nil))), .refl⟩⟩
        | false =>
         replace hc25 := of_decide_eq_false hc25.symm;rw [if_neg hc25] at h;refine TO.val rfl rfl rfl (Val.move rfl) ?_;refine TO.val rfl rfl rfl (Val.move rfl) ?_;obtain ⟨hk29, h⟩ := chk_some h;refine TO.val rfl rfl rfl (Val.index_str rfl rfl rfl hk29) ?_;refine TO.callIn rfl rfl rfl rfl rfl rfl (orcN rfl) ?_;refine TF.enter (fn := Go.Proofs.Tryz.f144) rfl rfl rfl rfl rfl ?_;refine T.seq ?_;refine T.text rfl ?_;refine TO.val rfl rfl rfl (Val.assign rfl) ?_;refine TO.nil ?_
         show T _ _ _ _ _ _;apply T.joinA (r := j) (W := Unit) (fun (j : Bool) (w : Unit) => ⟨[], [(2, bv j)], C⟩) h
         ·intro j h;refine T.text rfl ?_;refine TO.val rfl rfl rfl (Val.move rfl) ?_;obtain ⟨c4, hc4⟩ : ∃ c : Bool, c = decide ((byteAt s i) ≥ 48) := ⟨_, rfl⟩;refine TO.val rfl rfl rfl (Val.geqK hc4 rfl rfl) ?_;refine TO.val rfl rfl rfl (Val.move rfl) ?_;cases c4 with
          | true =>
           replace hc4 := of_decide_eq_true hc4.symm;rw [if_pos hc4] at h;refine TO.val rfl rfl rfl (Val.move rfl) ?_;obtain ⟨c7, hc7⟩ : ∃ c : Bool, c = decide ((byteAt s i) ≤ 57) := ⟨_, rfl⟩;refine TO.val rfl rfl rfl (Val.leqK hc7 rfl rfl) ?_;refine TO.val rfl rfl rfl (Val.pick rfl rfl rfl) ?_;refine TO.val rfl rfl rfl (Val.assign rfl) ?_;refine TO.nil ?_;subst hc7;cases h;exact ⟨rfl, (), ⟨rfl, (keep_cons rfl keep_nil), .refl⟩⟩
          | false =>
           replace hc4 := of_decide_eq_false hc4.symm;rw [if_neg hc4] at h;refine TO.off rfl rfl rfl ?_;refine TO.off rfl rfl rfl ?_;refine TO.val rfl rfl rfl (Val.pick rfl rfl rfl) ?_;refine TO.val rfl rfl rfl (Val.assign rfl) ?_;refine TO.nil ?_;cases h;exact ⟨rfl, (), ⟨rfl, (keep_cons rfl keep_nil), .refl⟩⟩
         ·rintro x2_2 _ h;skip;refine T.at (s' := ⟨[], [(2, bv x2_2)], C⟩) rfl ?_;refine T.ret ?_;refine ⟨rfl, _, rfl, ?_⟩;refine TO.val rfl rfl rfl (Val.not rfl) ?_;refine TO.val rfl rfl rfl (Val.move rfl) ?_;cases x2_2 with
          | true =>
           rw [if_pos rfl] at h;refine TO.off rfl rfl rfl ?_;refine TO.off rfl rfl rfl ?_;refine TO.off rfl rfl rfl ?_;refine TO.off rfl rfl rfl ?_;refine TO.val rfl rfl rfl (Val.pick rfl rfl rfl) ?_;refine TO.val rfl rfl rfl (Val.pick rfl rfl rfl) ?_;refine TO.val rfl rfl rfl (Val.pick rfl rfl rfl) ?_;refine TO.nil ?_;cases h;exact ⟨rfl, (), ⟨rfl, (keep_cons rfl (keep_cons rfl (keep_cons rfl keep_nil))), .refl⟩⟩
          | false =>
           rw [if_neg Bool.false_ne_true] at h;refine TO.val rfl rfl rfl (Val.move rfl) ?_;refine TO.val rfl rfl rfl (Val.move rfl) ?_;obtain ⟨hk35, h⟩ := chk_some h;refine TO.val rfl rfl rfl (Val.index_str rfl rfl rfl hk35) ?_;obtain ⟨c36, hc36⟩ : ∃ c : Bool, c = decide (¬ (byteAt s i) = 46) := ⟨_, rfl⟩;refine TO.val rfl rfl rfl (Val.neqK hc36 rfl rfl) ?_;refine TO.val rfl rfl rfl (Val.pick rfl rfl rfl) ?_;refine TO.val rfl rfl rfl (Val.pick rfl rfl rfl) ?_;refine TO.val rfl rfl rfl (Val.pick rfl rfl rfl) ?_;refine TO.nil ?_;subst hc36;cases h;exact ⟨rfl, (), ⟨rfl, (keep_cons rfl (keep_cons rfl (keep_cons rfl keep_nil))), .refl⟩⟩
     ·rintro x39 _ h;skip;refine T.at (s' := ⟨[], [(0, sv s), (3, iv (i)), (39, bv x39)], C⟩) rfl ?_;cases x39 with
      | true =>
       rw [if_pos rfl] at h;refine T.condT (fun a ha => ha.ev (.tmp 39) _ rfl) ?_;refine T.seq ?_;refine T.text rfl ?_;refine TO.val rfl rfl rfl (Val.assign rfl) ?_;refine TO.nil ?_;refine T.ret ?_;cases h;exact ⟨ret_ne, ⟨ret_ne, ⟨ret_ne, ⟨rfl, _, rfl, ⟨(), rfl, .refl⟩⟩⟩⟩⟩
      | false =>
       rw [if_neg Bool.false_ne_true] at h;refine T.condF (fun a ha => ha.ev (.tmp 39) _ rfl) ?_;refine T.skip ?_;cases h;exact ⟨rfl, (), ⟨rfl, (keep_cons rfl (keep_cons rfl keep_nil)), .refl⟩⟩
    ·rintro _ _ h;skip;refine T.at (s' := ⟨[], [(0, sv s), (3, iv (i))], C⟩) rfl ?_;refine T.text rfl ?_;refine TO.val rfl rfl rfl (Val.move rfl) ?_;obtain ⟨hk17, h⟩ := chk_some h;refine TO.val rfl rfl rfl (Val.add rfl rfl hk17) ?_;refine TO.val rfl rfl rfl (Val.assign rfl) ?_;refine TO.nil ?_;cases h;exact ⟨rfl, (), ⟨rfl, (keep_cons rfl (keep_cons rfl keep_nil)), .refl⟩⟩
   | false =>
    replace hc15 := of_decide_eq_false hc15.symm;rw [if_neg hc15] at h;refine T.condF (fun a ha => ha.ev (.tmp 15) _ rfl) ?_;refine T.exit ?_;cases h;exact ⟨ex_ne, ⟨rfl, (), ⟨rfl, keep_nil, .refl⟩⟩⟩
  ·rintro _ _ h;skip;refine T.at (s' := ⟨[], [], C⟩) rfl ?_;refine T.seq ?_;refine T.text rfl ?_;refine TO.val rfl rfl rfl (Val.assign rfl) ?_;refine TO.nil ?_;refine T.ret ?_;cases h;exact ⟨rfl, _, rfl, ⟨(), rfl, .refl⟩⟩
set_option maxRecDepth 10000 in
theorem tf_r1_Place {k : Nat} (hk : 0 ≤ k) {C : List Thing} {v_list : AV} {list : List Str} {word : Str} (h_list : Rdl C encStr v_list list) {r : Int} (h : P_r1_Place list word = some r) :
  TF (EL k) 88 [v_list, sv word] C (RepF (fun (w : Unit) => iv r) (fun (w : Unit) => C)) := by
 unfold P_r1_Place at h;refine TF.enter (fn := Go.Proofs.Tryz.f88) rfl rfl rfl rfl rfl ?_;refine T.seq ?_;refine T.text rfl ?_;refine TO.val rfl rfl rfl (Val.assign rfl) ?_;refine TO.nil ?_;refine T.seq ?_;refine T.text rfl ?_;refine TO.val rfl rfl rfl (Val.move rfl) ?_;refine TO.val rfl rfl rfl (Val.len_l h_list (mem0) rfl rfl) ?_;obtain ⟨hk9, h⟩ := chk_some h;refine TO.val rfl rfl rfl (Val.sub rfl rfl hk9) ?_;refine TO.val rfl rfl rfl (Val.assign rfl) ?_;refine TO.nil ?_
 show T _ _ _ _ _ _;apply T.joinA (r := r) (W := Unit) (fun (j : Int) (w : Unit) => ⟨[], [(0, v_list), (1, sv word), (5, iv (j))], C⟩) h
 ·intro j h;refine T.block ?_
  show T _ _ _ _ _ _;apply T.iter (r := j) (W := Unit) (fun (j : Int) (w : Unit) => ⟨[], [(0, v_list), (1, sv word), (5, iv (j))], C⟩) (w0 := ()) h
  ·exact ⟨rfl, (keep_cons rfl (keep_cons rfl (keep_cons rfl keep_nil))), .refl⟩
  rintro at_ _ a h;unfold P_r1_Place_L1 at h;refine T.at (s' := ⟨[], [(0, v_list), (1, sv word), (5, iv (at_))], C⟩) rfl ?_
  show T _ _ _ _ _ _;apply T.join (r := a) (W := Unit) (fun (j : Unit) (w : Unit) => ⟨[], [(0, v_list), (1, sv word), (5, iv (at_))], C⟩) h
  ·intro j h
   show T _ _ _ _ _ _;apply T.joinA (r := j) (W := Unit) (fun (j : Bool) (w : Unit) => ⟨[], [(0, v_list), (1, sv word), (5, iv (at_)), (19, bv j)], C⟩) h
   ·intro j h;refine T.text rfl ?_;refine TO.val rfl rfl rfl (Val.move rfl) ?_;obtain ⟨c11, hc11⟩ : ∃ c : Bool, c = decide (at_ ≥ 0) := ⟨_, rfl⟩;refine TO.val rfl rfl rfl (Val.geq hc11 rfl rfl) ?_;refine TO.val rfl rfl rfl (Val.move rfl) ?_;cases c11 with
    | true =>
     replace hc11 := of_decide_eq_true hc11.symm;rw [if_pos hc11] at h;refine TO.val rfl rfl rfl (Val.move rfl) ?_;refine TO.val rfl rfl rfl (Val.move rfl) ?_;obtain ⟨a15, hia15, ea15, h⟩ := el_some h;refine TO.fact (rdl_at h_list (mem0) hia15 ea15) (fun hp => ?_);obtain ⟨pa15, hpa15, hva15⟩ := hp;refine TO.val rfl rfl rfl (hva15 ⟨rfl, rfl⟩ rfl rfl) ?_;refine TO.val rfl rfl rfl (Val.load_e hpa15 (mem0) ⟨_, rfl, rfl⟩ rfl rfl) ?_;refine TO.val rfl rfl rfl (Val.move rfl) ?_;obtain ⟨c18, hc18⟩ : ∃ c : Bool, c = decide (¬ a15 = word) := ⟨_, rfl⟩;refine TO.val rfl rfl rfl (Val.neq_str hc18 rfl rfl) ?_;refine TO.val rfl rfl rfl (Val.pick rfl rfl rfl) ?_;refine TO.nil ?_;subst hc18;cases h;exact ⟨rfl, (), ⟨rfl, (keep_cons rfl (keep_cons rfl (keep_cons rfl (keep_cons rfl keep_nil)))), .refl⟩⟩
    | false =>
     replace hc11 := of_decide_eq_false hc11.symm;rw [if_neg hc11] at h;refine TO.off rfl rfl rfl ?_;refine TO.off rfl rfl rfl ?_;refine TO.off rfl rfl rfl ?_;refine TO.off rfl rfl rfl ?_;refine TO.off rfl rfl rfl ?_;refine TO.off rfl rfl rfl ?_;refine TO.val rfl rfl rfl (Val.pick rfl rfl rfl) ?_;refine TO.nil ?_;cases h;exact ⟨rfl, (), ⟨rfl, (keep_cons rfl (keep_cons rfl (keep_cons rfl (keep_cons rfl keep_nil)))), .refl⟩⟩
   ·rintro x19 _ h;skip;refine T.at (s' := ⟨[], [(0, v_list), (1, sv word), (5, iv (at_)), (19, bv x19)], C⟩) rfl ?_;cases x19 with
    | true =>
     rw [if_pos rfl] at h;refine T.condT (fun a ha => ha.ev (.tmp 19) _ rfl) ?_;refine T.skip ?_;cases h;exact ⟨rfl, (), ⟨rfl, (keep_cons rfl (keep_cons rfl (keep_cons rfl keep_nil))), .refl⟩⟩
    | false =>
     rw [if_neg Bool.false_ne_true] at h;refine T.condF (fun a ha => ha.ev (.tmp 19) _ rfl) ?_;refine T.exit ?_;cases h;exact ⟨ex_ne, ⟨ex_ne, ⟨rfl, (), ⟨rfl, (keep_cons rfl (keep_cons rfl (keep_cons rfl keep_nil))), .refl⟩⟩⟩⟩
  ·rintro _ _ h;skip;refine T.at (s' := ⟨[], [(0, v_list), (1, sv word), (5, iv (at_))], C⟩) rfl ?_;refine T.block ?_;refine T.text rfl ?_;refine TO.val rfl rfl rfl (Val.move rfl) ?_;obtain ⟨hk21, h⟩ := chk_some h;refine TO.val rfl rfl rfl (Val.sub rfl rfl hk21) ?_;refine TO.val rfl rfl rfl (Val.assign rfl) ?_;refine TO.nil ?_;cases h;exact ⟨rfl, (), ⟨rfl, (keep_cons rfl (keep_cons rfl (keep_cons rfl keep_nil))), .refl⟩⟩
 ·rintro at_ _ h;skip;refine T.at (s' := ⟨[], [(0, v_list), (1, sv word), (5, iv (at_))], C⟩) rfl ?_
  show T _ _ _ _ _ _;apply T.join (r := r) (W := Unit) (fun (j : Unit) (w : Unit) => ⟨[], [(5, iv (at_))], C⟩) h
  ·intro j h;refine T.seq ?_;refine T.text rfl ?_;refine TO.val rfl rfl rfl (Val.assign rfl) ?_;refine TO.nil ?_;refine T.block ?_
   show T _ _ _ _ _ _;apply T.iter (r := j) (W := Unit) (fun (j : Int) (w : Unit) => ⟨[], [(0, v_list), (1, sv word), (5, iv (at_)), (6, iv (j))], C⟩) (w0 := ()) h
   ·exact ⟨rfl, (keep_cons rfl (keep_cons rfl (keep_cons rfl (keep_cons rfl keep_nil)))), .refl⟩
   rintro i _ a h;unfold P_r1_Place_L2 at h;refine T.at (s' := ⟨[], [(0, v_list), (1, sv word), (5, iv (at_)), (6, iv (i))], C⟩) rfl ?_;refine T.seq ?_;refine T.seq ?_;refine T.text rfl ?_;refine TO.val rfl rfl rfl (Val.move rfl) ?_;refine TO.val rfl rfl rfl (Val.move rfl) ?_;obtain ⟨c24, hc24⟩ : ∃ c : Bool, c = decide (i < at_) := ⟨_, rfl⟩;refine TO.val rfl rfl rfl (Val.lss hc24 rfl rfl) ?_;refine TO.nil ?_;cases c24 with
   | true =>
    replace hc24 := of_decide_eq_true hc24.symm;rw [if_pos hc24] at h;refine T.condT (fun a ha => ha.ev (.tmp 24) _ rfl) ?_;refine T.skip ?_;refine T.seq ?_;refine T.block ?_;refine T.seq ?_;refine T.text rfl ?_;refine TO.val rfl rfl rfl (Val.move rfl) ?_;refine TO.val rfl rfl rfl (Val.move rfl) ?_;obtain ⟨a29, hia29, ea29, h⟩ := el_some h;refine TO.fact (rdl_at h_list (mem0) hia29 ea29) (fun hp => ?_);obtain ⟨pa29, hpa29, hva29⟩ := hp;refine TO.val rfl rfl rfl (hva29 ⟨rfl, rfl⟩ rfl rfl) ?_;refine TO.val rfl rfl rfl (Val.load_e hpa29 (mem0) ⟨_, rfl, rfl⟩ rfl rfl) ?_;refine TO.val rfl rfl rfl (Val.move rfl) ?_;obtain ⟨c32, hc32⟩ : ∃ c : Bool, c = decide (a29 = word) := ⟨_, rfl⟩;refine TO.val rfl rfl rfl (Val.eql_str hc32 rfl rfl) ?_;refine TO.nil ?_;cases c32 with
    | true =>
     replace hc32 := of_decide_eq_true hc32.symm;rw [if_pos hc32] at h;refine T.condT (fun a ha => ha.ev (.tmp 32) _ rfl) ?_;refine T.seq ?_;refine T.text rfl ?_;refine TO.val rfl rfl rfl (Val.move rfl) ?_;refine TO.val rfl rfl rfl (Val.assign rfl) ?_;refine TO.nil ?_;refine T.ret ?_;cases h;exact ⟨ret_ne, ⟨ret_ne, ⟨rfl, _, rfl, ⟨(), rfl, .refl⟩⟩⟩⟩
    | false =>
     replace hc32 := of_decide_eq_false hc32.symm;rw [if_neg hc32] at h;refine T.condF (fun a ha => ha.ev (.tmp 32) _ rfl) ?_;refine T.skip ?_;refine T.text rfl ?_;refine TO.val rfl rfl rfl (Val.move rfl) ?_;obtain ⟨hk26, h⟩ := chk_some h;refine TO.val rfl rfl rfl (Val.add rfl rfl hk26) ?_;refine TO.val rfl rfl rfl (Val.assign rfl) ?_;refine TO.nil ?_;cases h;exact ⟨rfl, (), ⟨rfl, (keep_cons rfl (keep_cons rfl (keep_cons rfl (keep_cons rfl keep_nil)))), .refl⟩⟩
   | false =>
    replace hc24 := of_decide_eq_false hc24.symm;rw [if_neg hc24] at h;refine T.condF (fun a ha => ha.ev (.tmp 24) _ rfl) ?_;refine T.exit ?_;cases h;exact ⟨ex_ne, ⟨rfl, (), ⟨rfl, (keep_cons rfl keep_nil), .refl⟩⟩⟩
  ·rintro _ _ h;skip;refine T.at (s' := ⟨[], [(5, iv (at_))], C⟩) rfl ?_;refine T.seq ?_;refine T.text rfl ?_;refine TO.val rfl rfl rfl (Val.move rfl) ?_;refine TO.val rfl rfl rfl (Val.assign rfl) ?_;refine TO.nil ?_;refine T.ret ?_;cases h;exact ⟨rfl, _, rfl, ⟨(), rfl, .refl⟩⟩
set_option maxRecDepth 10000 in
theorem tf_r1_Fresh {k : Nat} (hk : 0 ≤ k) {C : List Thing} {word : Str} {v_others : AV} {others : List Str} (h_others : Rdl C encStr v_others others) {r : Int} (h : P_r1_Fresh word others = some r) :
  TF (EL k) 74 [sv word, v_others] C (RepF (fun (w : Unit) => iv r) (fun (w : Unit) => C)) := by
 unfold P_r1_Fresh at h;refine TF.enter (fn := Go.Proofs.Tryz.f74) rfl rfl rfl rfl rfl ?_;refine T.seq ?_;refine T.text rfl ?_;refine TO.val rfl rfl rfl (Val.assign rfl) ?_;refine TO.nil ?_;refine T.seq ?_;refine T.text rfl ?_;refine TO.val rfl rfl rfl (Val.assign rfl) ?_;refine TO.nil ?_
 show T _ _ _ _ _ _;apply T.joinA (r := r) (W := Unit) (fun (j : Int) (w : Unit) => ⟨[], [(0, sv word), (5, iv (j))], C⟩) h
 ·intro j h;refine T.seq ?_;refine T.text rfl ?_;refine TO.val rfl rfl rfl (Val.move rfl) ?_;refine TO.val rfl rfl rfl (Val.move rfl) ?_;obtain ⟨y8, hr8, h⟩ := andx_some h;refine TO.callT (first := []) (cap := []) (vs := [v_others, sv word]) rfl rfl rfl rfl rfl rfl (orcN rfl) (tf_r1_Place (by first | decide | omega) (Rdl.mono h_others (mem0)) hr8) ?_;rintro _;refine TO.things (hs' := C) rfl ?_;obtain ⟨c9, hc9⟩ : ∃ c : Bool, c = decide (y8 ≥ 0) := ⟨_, rfl⟩;refine TO.val rfl rfl rfl (Val.geq hc9 rfl rfl) ?_;refine TO.nil ?_;cases c9 with
  | true =>
   replace hc9 := of_decide_eq_true hc9.symm;rw [if_pos hc9] at h;refine T.condT (fun a ha => ha.ev (.tmp 9) _ rfl) ?_;refine T.text rfl ?_;refine TO.val rfl rfl rfl (Val.assign rfl) ?_;refine TO.nil ?_;cases h;exact ⟨rfl, (), ⟨rfl, (keep_cons rfl (keep_cons rfl keep_nil)), .refl⟩⟩
  | false =>
   replace hc9 := of_decide_eq_false hc9.symm;rw [if_neg hc9] at h;refine T.condF (fun a ha => ha.ev (.tmp 9) _ rfl) ?_;refine T.skip ?_;cases h;exact ⟨rfl, (), ⟨rfl, (keep_cons rfl (keep_cons rfl keep_nil)), .refl⟩⟩
 ·rintro e _ h;skip;refine T.at (s' := ⟨[], [(0, sv word), (5, iv (e))], C⟩) rfl ?_
  show T _ _ _ _ _ _;apply T.joinA (r := r) (W := Unit) (fun (j : Int) (w : Unit) => ⟨[], [(5, iv (j))], C⟩) h
  ·intro j h;refine T.seq ?_;refine T.text rfl ?_;refine TO.val rfl rfl rfl (Val.move rfl) ?_;obtain ⟨y11, hr11, h⟩ := andx_some h;refine TO.callT (first := []) (cap := []) (vs := [sv word]) rfl rfl rfl rfl rfl rfl (orcN rfl) (tf_r1_Name (by first | decide | omega) hr11) ?_;rintro _;refine TO.things (hs' := C) rfl ?_;refine TO.val rfl rfl rfl (Val.not rfl) ?_;refine TO.nil ?_;cases y11 with
   | true =>
    rw [if_pos rfl] at h;refine T.condF (fun a ha => ha.ev (.tmp 12) _ rfl) ?_;refine T.skip ?_;cases h;exact ⟨rfl, (), ⟨rfl, (keep_cons rfl keep_nil), .refl⟩⟩
   | false =>
    rw [if_neg Bool.false_ne_true] at h;refine T.condT (fun a ha => ha.ev (.tmp 12) _ rfl) ?_;refine T.text rfl ?_;refine TO.val rfl rfl rfl (Val.assign rfl) ?_;refine TO.nil ?_;cases h;exact ⟨rfl, (), ⟨rfl, (keep_cons rfl keep_nil), .refl⟩⟩
  ·rintro e_2 _ h;skip;refine T.at (s' := ⟨[], [(5, iv (e_2))], C⟩) rfl ?_;refine T.seq ?_;refine T.text rfl ?_;refine TO.val rfl rfl rfl (Val.move rfl) ?_;refine TO.val rfl rfl rfl (Val.assign rfl) ?_;refine TO.nil ?_;refine T.ret ?_;cases h;exact ⟨rfl, _, rfl, ⟨(), rfl, .refl⟩⟩
set_option maxRecDepth 10000 in
theorem tf_r9_Mark {k : Nat} (hk : 0 ≤ k) {C : List Thing} {v_r_Classes : AV} {r_Classes : List Str} {v_r_Shelves : AV} {r_Shelves : List S_api_SfShelf} {v_r_Books : AV} {r_Books : List S_api_SfBook} {m_Class : Int} {m_Number : Int} {m_Suffix : Str} (h_r_Classes : Rdl C encStr v_r_Classes r_Classes) (h_r_Shelves : Rdl C enc_api_SfShelf v_r_Shelves r_Shelves) (h_r_Books : Rdl C enc_api_SfBook v_r_Books r_Books) {r : Int} (h : P_r9_Mark r_Classes r_Shelves r_Books m_Class m_Number m_Suffix = some r) :
  TF (EL k) 80 [.agg [v_r_Classes, v_r_Shelves, v_r_Books], .agg [iv (m_Class), iv (m_Number), sv m_Suffix]] C (RepF (fun (w : Unit) => iv r) (fun (w : Unit) => C)) := by
 unfold P_r9_Mark at h;refine TF.enter (fn := Go.Proofs.Tryz.f80) rfl rfl rfl rfl rfl ?_;refine T.seq ?_;refine T.text rfl ?_;refine TO.box (k := 3) (cells := [_, _, _]) rfl rfl rfl rfl rfl rfl rfl (fun b2 => ?_);refine TO.box (k := 3) (cells := [_, _, _]) rfl rfl rfl rfl rfl rfl rfl (fun b3 => ?_);refine TO.val rfl rfl rfl (Val.assign rfl) ?_;refine TO.nil ?_;refine T.seq ?_;refine T.seq ?_;refine T.text rfl ?_;refine TO.val rfl rfl rfl (Val.faddr_ptr (fo := 0) rfl rfl rfl) ?_;refine TO.val rfl rfl rfl (Val.load_row (p := 0) rfl ⟨_, rfl, rfl⟩ rfl rfl rfl) ?_;refine TO.val rfl rfl rfl (Val.faddr_ptr (fo := 0) rfl rfl rfl) ?_;refine TO.val rfl rfl rfl (Val.load_row (p := 1) rfl ⟨_, rfl, rfl⟩ rfl rfl rfl) ?_;refine TO.val rfl rfl rfl (Val.len_l h_r_Classes (memS (memS (mem0))) rfl rfl) ?_;obtain ⟨hk10, h⟩ := chk_some h;refine TO.val rfl rfl rfl (Val.sub rfl rfl hk10) ?_;obtain ⟨y11, hr11, h⟩ := andx_some h;refine TO.callT (first := []) (cap := []) (vs := [iv (m_Class), iv (0), iv (((r_Classes.length : Int) - 1))]) rfl rfl rfl rfl rfl rfl (orcN rfl) (tf_r9_in (by first | decide | omega) hr11) ?_;rintro _;refine TO.things (hs' := .row b3 3 [iv (m_Class), iv (m_Number), sv m_Suffix] :: .row b2 3 [v_r_Classes, v_r_Shelves, v_r_Books] :: C) rfl ?_;refine TO.val rfl rfl rfl (Val.not rfl) ?_;refine TO.nil ?_;cases y11 with
 | true =>
  rw [if_pos rfl] at h;refine T.condF (fun a ha => ha.ev (.tmp 12) _ rfl) ?_;refine T.skip ?_;refine T.seq ?_;refine T.seq ?_;refine T.text rfl ?_;refine TO.val rfl rfl rfl (Val.faddr_ptr (fo := 1) rfl rfl rfl) ?_;refine TO.val rfl rfl rfl (Val.load_row (p := 0) rfl ⟨_, rfl, rfl⟩ rfl rfl rfl) ?_;obtain ⟨y15, hr15, h⟩ := andx_some h;refine TO.callT (first := []) (cap := []) (vs := [iv (m_Number), iv (1), iv (9999)]) rfl rfl rfl rfl rfl rfl (orcN rfl) (tf_r9_in (by first | decide | omega) hr15) ?_;rintro _;refine TO.things (hs' := .row b3 3 [iv (m_Class), iv (m_Number), sv m_Suffix] :: .row b2 3 [v_r_Classes, v_r_Shelves, v_r_Books] :: C) rfl ?_;refine TO.val rfl rfl rfl (Val.not rfl) ?_;refine TO.nil ?_;cases y15 with
  | true =>
   rw [if_pos rfl] at h;refine T.condF (fun a ha => ha.ev (.tmp 16) _ rfl) ?_;refine T.skip ?_
   show T _ _ _ _ _ _;apply T.join (r := r) (W := Unit) (fun (j : Unit) (w : Unit) => ⟨[], [], .row b3 3 [iv (m_Class), iv (m_Number), sv m_Suffix] :: .row b2 3 [v_r_Classes, v_r_Shelves, v_r_Books] :: C⟩) h
   ·intro j h
    show T _ _ _ _ _ _;apply T.joinA (r := j) (W := Unit) (fun (j : Bool) (w : Unit) => ⟨[], [(26, bv j)], .row b3 3 [iv (m_Class), iv (m_Number), sv m_Suffix] :: .row b2 3 [v_r_Classes, v_r_Shelves, v_r_Books] :: C⟩) h
    ·intro j h;refine T.text rfl ?_;refine TO.val rfl rfl rfl (Val.faddr_ptr (fo := 2) rfl rfl rfl) ?_;refine TO.val rfl rfl rfl (Val.load_row (p := 0) rfl ⟨_, rfl, rfl⟩ rfl rfl rfl) ?_;refine TO.val rfl rfl rfl (Val.len_str rfl rfl) ?_;obtain ⟨c20, hc20⟩ : ∃ c : Bool, c = decide ((m_Suffix.length : Int) > 2) := ⟨_, rfl⟩;refine TO.val rfl rfl rfl (Val.gtr hc20 rfl rfl) ?_;refine TO.val rfl rfl rfl (Val.move rfl) ?_;cases c20 with
     | true =>
      replace hc20 := of_decide_eq_true hc20.symm;rw [if_pos hc20] at h;refine TO.off rfl rfl rfl ?_;refine TO.off rfl rfl rfl ?_;refine TO.off rfl rfl rfl ?_;refine TO.off rfl rfl rfl ?_;refine TO.val rfl rfl rfl (Val.pick rfl rfl rfl) ?_;refine TO.nil ?_;cases h;exact ⟨rfl, (), ⟨rfl, (keep_cons rfl keep_nil), (.pick (p := 0) rfl (.pick (p := 0) rfl .refl))⟩⟩
     | false =>
      replace hc20 := of_decide_eq_false hc20.symm;rw [if_neg hc20] at h;refine TO.val rfl rfl rfl (Val.faddr_ptr (fo := 2) rfl rfl rfl) ?_;refine TO.val rfl rfl rfl (Val.load_row (p := 0) rfl ⟨_, rfl, rfl⟩ rfl rfl rfl) ?_;obtain ⟨y24, hr24, h⟩ := andx_some h;refine TO.callT (first := []) (cap := []) (vs := [sv m_Suffix]) rfl rfl rfl rfl rfl rfl (orcN rfl) (tf_r9_letters (by first | decide | omega) hr24) ?_;rintro _;refine TO.things (hs' := .row b3 3 [iv (m_Class), iv (m_Number), sv m_Suffix] :: .row b2 3 [v_r_Classes, v_r_Shelves, v_r_Books] :: C) rfl ?_;refine TO.val rfl rfl rfl (Val.not rfl) ?_;refine TO.val rfl rfl rfl (Val.pick rfl rfl rfl) ?_;refine TO.nil ?_;cases h;exact ⟨rfl, (), ⟨rfl, (keep_cons rfl keep_nil), (.pick (p := 0) rfl (.pick (p := 0) rfl .refl))⟩⟩
    ·rintro x26 _ h;skip;refine T.at (s' := ⟨[], [(26, bv x26)], .row b3 3 [iv (m_Class), iv (m_Number), sv m_Suffix] :: .row b2 3 [v_r_Classes, v_r_Shelves, v_r_Books] :: C⟩) rfl ?_;cases x26 with
     | true =>
      rw [if_pos rfl] at h;refine T.condT (fun a ha => ha.ev (.tmp 26) _ rfl) ?_;refine T.seq ?_;refine T.text rfl ?_;refine TO.val rfl rfl rfl (Val.assign rfl) ?_;refine TO.nil ?_;refine T.ret ?_;cases h;exact ⟨ret_ne, ⟨rfl, _, rfl, ⟨(), rfl, (.drop (.drop .refl))⟩⟩⟩
     | false =>
      rw [if_neg Bool.false_ne_true] at h;refine T.condF (fun a ha => ha.ev (.tmp 26) _ rfl) ?_;refine T.skip ?_;cases h;exact ⟨rfl, (), ⟨rfl, keep_nil, (.pick (p := 0) rfl (.pick (p := 0) rfl .refl))⟩⟩
   ·rintro _ _ h;skip;refine T.at (s' := ⟨[], [], .row b3 3 [iv (m_Class), iv (m_Number), sv m_Suffix] :: .row b2 3 [v_r_Classes, v_r_Shelves, v_r_Books] :: C⟩) rfl ?_;refine T.seq ?_;refine T.text rfl ?_;refine TO.val rfl rfl rfl (Val.assign rfl) ?_;refine TO.nil ?_;refine T.ret ?_;cases h;exact ⟨rfl, _, rfl, ⟨(), rfl, (.drop (.drop .refl))⟩⟩
  | false =>
   rw [if_neg Bool.false_ne_true] at h;refine T.condT (fun a ha => ha.ev (.tmp 16) _ rfl) ?_;refine T.seq ?_;refine T.text rfl ?_;refine TO.val rfl rfl rfl (Val.assign rfl) ?_;refine TO.nil ?_;refine T.ret ?_;cases h;exact ⟨rfl, _, rfl, ⟨(), rfl, (.drop (.drop .refl))⟩⟩
 | false =>
  rw [if_neg Bool.false_ne_true] at h;refine T.condT (fun a ha => ha.ev (.tmp 12) _ rfl) ?_;refine T.seq ?_;refine T.text rfl ?_;refine TO.val rfl rfl rfl (Val.assign rfl) ?_;refine TO.nil ?_;refine T.ret ?_;cases h;exact ⟨rfl, _, rfl, ⟨(), rfl, (.drop (.drop .refl))⟩⟩
set_option maxRecDepth 10000 in
theorem tf_r9_Own {k : Nat} (hk : 0 ≤ k) {C : List Thing} {v_books : AV} {books : List S_api_SfBook} (h_books : Rdl C enc_api_SfBook v_books books) {r : (List Int)} (h : P_r9_Own books = some r) :
  TF (EL k) 51 [v_books] C (RepF (fun (w : AV) => w) (fun (w : AV) => ownL true w encI r :: C)) := by
 unfold P_r9_Own at h;refine TF.enter (fn := Go.Proofs.Tryz.f51) rfl rfl rfl rfl rfl ?_;refine T.seq ?_;refine T.text rfl ?_;refine TO.val rfl rfl rfl (Val.assign rfl) ?_;refine TO.nil ?_;refine T.seq ?_;refine T.text rfl ?_;refine TO.val rfl rfl rfl (Val.assign rfl) ?_;refine TO.nil ?_
 show T _ _ _ _ _ _;apply T.joinA (r := r) (W := AV) (fun (j : (List Int)) (w : AV) => ⟨[], [(3, w)], ownL true w encI j :: C⟩) h
 ·intro j h;refine T.seq ?_;refine T.text rfl ?_;refine TO.val rfl rfl rfl (Val.assign rfl) ?_;refine TO.nil ?_;refine T.block ?_;refine T.nilown (u := encI.u) ?_
  show T _ _ _ _ _ _;apply T.iter (r := j) (W := AV) (fun (j : Int × (List Int)) (w : AV) => ⟨[], [(0, v_books), (3, w), (4, iv (j.1))], ownL true w encI j.2 :: C⟩) (w0 := nilS) h
  ·exact ⟨rfl, (keep_cons rfl (keep_cons rfl (keep_cons rfl keep_nil))), (.pick (p := 0) rfl .refl)⟩
  rintro ⟨i, out⟩ v1 a h;unfold P_r9_Own_L1 at h;dsimp only at h;refine T.at (s' := ⟨[], [(0, v_books), (3, v1), (4, iv (i))], ownL true v1 encI out :: C⟩) rfl ?_;refine T.seq ?_;refine T.seq ?_;refine T.text rfl ?_;refine TO.val rfl rfl rfl (Val.move rfl) ?_;refine TO.val rfl rfl rfl (Val.move rfl) ?_;refine TO.val rfl rfl rfl (Val.len_l h_books (memS (mem0)) rfl rfl) ?_;obtain ⟨c8, hc8⟩ : ∃ c : Bool, c = decide (i < (books.length : Int)) := ⟨_, rfl⟩;refine TO.val rfl rfl rfl (Val.lss hc8 rfl rfl) ?_;refine TO.nil ?_;cases c8 with
  | true =>
   replace hc8 := of_decide_eq_true hc8.symm;rw [if_pos hc8] at h;refine T.condT (fun a ha => ha.ev (.tmp 8) _ rfl) ?_;refine T.skip ?_;refine T.seq ?_;refine T.block ?_;refine T.text rfl ?_;refine TO.val rfl rfl rfl (Val.move rfl) ?_;refine TO.val rfl rfl rfl (Val.move rfl) ?_;refine TO.val rfl rfl rfl (Val.move rfl) ?_;obtain ⟨a14, hia14, ea14, h⟩ := el_some h;refine TO.fact (rdl_at h_books (memS (mem0)) hia14 ea14) (fun hp => ?_);obtain ⟨pa14, hpa14, hva14⟩ := hp;refine TO.val rfl rfl rfl (hva14 ⟨rfl, rfl⟩ rfl rfl) ?_;refine TO.val rfl rfl rfl (Val.faddr_e (fo := 6) hpa14 rfl rfl rfl) ?_;refine TO.val rfl rfl rfl (Val.load_e (PtE.add hpa14 (by decide)) (memS (mem0)) ⟨_, rfl, rfl⟩ rfl rfl) ?_;refine TO.build1 (en := encI) (a := a14.shelf) rfl rfl rfl ⟨rfl, rfl⟩ ⟨_, rfl, rfl⟩ (by decide) (by decide) rfl rfl (fun v17 => ?_);obtain ⟨hk18, h⟩ := chk_some h;refine TO.eff rfl rfl rfl (Eff.append_own (b := 8) (en := encI) (l := out) (l2 := [a14.shelf]) (p := 1) (q := 0) ⟨rfl, rfl, rfl, ⟨_, rfl, rfl⟩, by decide, by decide⟩ rfl rfl rfl rfl rfl rfl (flat_ones _) (by decide) hk18) ?_;rintro v18 _ rfl;refine TO.things (hs' := ownL false v17 encI [a14.shelf] :: ownL true v18 encI (out ++ [a14.shelf]) :: C) rfl ?_;refine TO.val rfl rfl rfl (Val.assign rfl) ?_;refine TO.nil ?_;refine T.text rfl ?_;refine TO.val rfl rfl rfl (Val.move rfl) ?_;obtain ⟨hk10, h⟩ := chk_some h;refine TO.val rfl rfl rfl (Val.add rfl rfl hk10) ?_;refine TO.val rfl rfl rfl (Val.assign rfl) ?_;refine TO.nil ?_;cases h;exact ⟨rfl, v18, ⟨rfl, (keep_cons rfl (keep_cons rfl (keep_cons rfl keep_nil))), (.pick (p := 1) rfl (.drop .refl))⟩⟩
  | false =>
   replace hc8 := of_decide_eq_false hc8.symm;rw [if_neg hc8] at h;refine T.condF (fun a ha => ha.ev (.tmp 8) _ rfl) ?_;refine T.exit ?_;cases h;exact ⟨ex_ne, ⟨rfl, v1, ⟨rfl, (keep_cons rfl keep_nil), (.pick (p := 0) rfl .refl)⟩⟩⟩
 ·rintro out v1 h;skip;refine T.at (s' := ⟨[], [(3, v1)], ownL true v1 encI out :: C⟩) rfl ?_;refine T.seq ?_;refine T.text rfl ?_;refine TO.val rfl rfl rfl (Val.move rfl) ?_;refine TO.val rfl rfl rfl (Val.assign rfl) ?_;refine TO.nil ?_;refine T.ret ?_;cases h;exact ⟨rfl, _, rfl, ⟨v1, rfl, (.pick (p := 0) rfl .refl)⟩⟩
set_option maxRecDepth 10000 in
theorem tf_r9_Book {k : Nat} (hk : 0 ≤ k) {C : List Thing} {v_r_Classes : AV} {r_Classes : List Str} {v_r_Shelves : AV} {r_Shelves : List S_api_SfShelf} {v_r_Books : AV} {r_Books : List S_api_SfBook} {b_Mark_Class : Int} {b_Mark_Number : Int} {b_Mark_Suffix : Str} {b_Wide : Int} {b_High : Int} {b_Heavy : Int} {b_Shelf : Int} {v_before : AV} {before : List S_api_SfBook} (h_r_Classes : Rdl C encStr v_r_Classes r_Classes) (h_r_Shelves : Rdl C enc_api_SfShelf v_r_Shelves r_Shelves) (h_r_Books : Rdl C enc_api_SfBook v_r_Books r_Books) (h_before : Rdl C enc_api_SfBook v_before before) {r : Int} (h : P_r9_Book r_Classes r_Shelves r_Books b_Mark_Class b_Mark_Number b_Mark_Suffix b_Wide b_High b_Heavy b_Shelf before = some r) :
  TF (EL k) 75 [.agg [v_r_Classes, v_r_Shelves, v_r_Books], .agg [iv (b_Mark_Class), iv (b_Mark_Number), sv b_Mark_Suffix, iv (b_Wide), iv (b_High), iv (b_Heavy), iv (b_Shelf)], v_before] C (RepF (fun (w : Unit) => iv r) (fun (w : Unit) => C)) := by
 unfold P_r9_Book at h;refine TF.enter (fn := Go.Proofs.Tryz.f75) rfl rfl rfl rfl rfl ?_;refine T.seq ?_;refine T.text rfl ?_;refine TO.box (k := 3) (cells := [_, _, _]) rfl rfl rfl rfl rfl rfl rfl (fun b3 => ?_);refine TO.box (k := 7) (cells := [_, _, _, _, _, _, _]) rfl rfl rfl rfl rfl rfl rfl (fun b4 => ?_);refine TO.val rfl rfl rfl (Val.assign rfl) ?_;refine TO.nil ?_;refine T.seq ?_;refine T.text rfl ?_;refine TO.val rfl rfl rfl (Val.load_rows (p := 1) (c := [_, _, _]) rfl ⟨⟨_, rfl, rfl⟩, rfl, by decide⟩ rfl rfl rfl rfl) ?_;refine TO.val rfl rfl rfl (Val.faddr_ptr (fo := 0) rfl rfl rfl) ?_;refine TO.val rfl rfl rfl (Val.load_rows (p := 0) (c := [_, _, _]) rfl ⟨⟨_, rfl, rfl⟩, rfl, by decide⟩ rfl rfl rfl rfl) ?_;obtain ⟨y12, hr12, h⟩ := andx_some h;refine TO.callT (first := []) (cap := []) (vs := [.agg [v_r_Classes, v_r_Shelves, v_r_Books], .agg [iv (b_Mark_Class), iv (b_Mark_Number), sv b_Mark_Suffix]]) rfl rfl rfl rfl rfl rfl (orcN rfl) (tf_r9_Mark (by first | decide | omega) (Rdl.mono h_r_Classes (memS (memS (mem0)))) (Rdl.mono h_r_Shelves (memS (memS (mem0)))) (Rdl.mono h_r_Books (memS (memS (mem0)))) hr12) ?_;rintro _;refine TO.things (hs' := .row b4 7 [iv (b_Mark_Class), iv (b_Mark_Number), sv b_Mark_Suffix, iv (b_Wide), iv (b_High), iv (b_Heavy), iv (b_Shelf)] :: .row b3 3 [v_r_Classes, v_r_Shelves, v_r_Books] :: C) rfl ?_;refine TO.val rfl rfl rfl (Val.assign rfl) ?_;refine TO.nil ?_
 show T _ _ _ _ _ _;apply T.joinA (r := r) (W := Unit) (fun (j : Int) (w : Unit) => ⟨[], [(2, v_before), (4, .ptr b4 0 7), (7, iv (j))], .row b4 7 [iv (b_Mark_Class), iv (b_Mark_Number), sv b_Mark_Suffix, iv (b_Wide), iv (b_High), iv (b_Heavy), iv (b_Shelf)] :: .row b3 3 [v_r_Classes, v_r_Shelves, v_r_Books] :: C⟩) h
 ·intro j h
  show T _ _ _ _ _ _;apply T.joinA (r := j) (W := Unit) (fun (j : Bool) (w : Unit) => ⟨[], [(2, v_before), (4, .ptr b4 0 7), (7, iv (y12)), (32, bv j)], .row b4 7 [iv (b_Mark_Class), iv (b_Mark_Number), sv b_Mark_Suffix, iv (b_Wide), iv (b_High), iv (b_Heavy), iv (b_Shelf)] :: .row b3 3 [v_r_Classes, v_r_Shelves, v_r_Books] :: C⟩) h
  ·intro j h;refine T.text rfl ?_;refine TO.val rfl rfl rfl (Val.move rfl) ?_;obtain ⟨c14, hc14⟩ : ∃ c : Bool, c = decide (y12 = 0) := ⟨_, rfl⟩;refine TO.val rfl rfl rfl (Val.eql hc14 rfl rfl) ?_;refine TO.val rfl rfl rfl (Val.move rfl) ?_;cases c14 with
   | true =>
    replace hc14 := of_decide_eq_true hc14.symm;rw [if_pos hc14] at h;refine TO.val rfl rfl rfl (Val.faddr_ptr (fo := 3) rfl rfl rfl) ?_;refine TO.val rfl rfl rfl (Val.load_row (p := 0) rfl ⟨_, rfl, rfl⟩ rfl rfl rfl) ?_;obtain ⟨y18, hr18, h⟩ := andx_some h;refine TO.callT (first := []) (cap := []) (vs := [iv (b_Wide), iv (1), iv (2000)]) rfl rfl rfl rfl rfl rfl (orcN rfl) (tf_r9_in (by first | decide | omega) hr18) ?_;rintro _;refine TO.things (hs' := .row b4 7 [iv (b_Mark_Class), iv (b_Mark_Number), sv b_Mark_Suffix, iv (b_Wide), iv (b_High), iv (b_Heavy), iv (b_Shelf)] :: .row b3 3 [v_r_Classes, v_r_Shelves, v_r_Books] :: C) rfl ?_;refine TO.val rfl rfl rfl (Val.not rfl) ?_;refine TO.val rfl rfl rfl (Val.move rfl) ?_;cases y18 with
    | true =>
     rw [if_pos rfl] at h;refine TO.val rfl rfl rfl (Val.faddr_ptr (fo := 4) rfl rfl rfl) ?_;refine TO.val rfl rfl rfl (Val.load_row (p := 0) rfl ⟨_, rfl, rfl⟩ rfl rfl rfl) ?_;obtain ⟨y23, hr23, h⟩ := andx_some h;refine TO.callT (first := []) (cap := []) (vs := [iv (b_High), iv (1), iv (2000)]) rfl rfl rfl rfl rfl rfl (orcN rfl) (tf_r9_in (by first | decide | omega) hr23) ?_;rintro _;refine TO.things (hs' := .row b4 7 [iv (b_Mark_Class), iv (b_Mark_Number), sv b_Mark_Suffix, iv (b_Wide), iv (b_High), iv (b_Heavy), iv (b_Shelf)] :: .row b3 3 [v_r_Classes, v_r_Shelves, v_r_Books] :: C) rfl ?_;refine TO.val rfl rfl rfl (Val.not rfl) ?_;refine TO.val rfl rfl rfl (Val.pick rfl rfl rfl) ?_;refine TO.val rfl rfl rfl (Val.move rfl) ?_;cases y23 with
     | true =>
      rw [if_pos rfl] at h;refine TO.val rfl rfl rfl (Val.faddr_ptr (fo := 5) rfl rfl rfl) ?_;refine TO.val rfl rfl rfl (Val.load_row (p := 0) rfl ⟨_, rfl, rfl⟩ rfl rfl rfl) ?_;obtain ⟨y29, hr29, h⟩ := andx_some h;refine TO.callT (first := []) (cap := []) (vs := [iv (b_Heavy), iv (1), iv (100)]) rfl rfl rfl rfl rfl rfl (orcN rfl) (tf_r9_in (by first | decide | omega) hr29) ?_;rintro _;refine TO.things (hs' := .row b4 7 [iv (b_Mark_Class), iv (b_Mark_Number), sv b_Mark_Suffix, iv (b_Wide), iv (b_High), iv (b_Heavy), iv (b_Shelf)] :: .row b3 3 [v_r_Classes, v_r_Shelves, v_r_Books] :: C) rfl ?_;refine TO.val rfl rfl rfl (Val.not rfl) ?_;refine TO.val rfl rfl rfl (Val.pick rfl rfl rfl) ?_;refine TO.val rfl rfl rfl (Val.pick rfl rfl rfl) ?_;refine TO.nil ?_;cases h;exact ⟨rfl, (), ⟨rfl, (keep_cons rfl (keep_cons rfl (keep_cons rfl (keep_cons rfl keep_nil)))), (.pick (p := 0) rfl (.pick (p := 0) rfl .refl))⟩⟩
     | false =>
      rw [if_neg Bool.false_ne_true] at h;refine TO.off rfl rfl rfl ?_;refine TO.off rfl rfl rfl ?_;refine TO.off rfl rfl rfl ?_;refine TO.off rfl rfl rfl ?_;refine TO.val rfl rfl rfl (Val.pick rfl rfl rfl) ?_;refine TO.val rfl rfl rfl (Val.pick rfl rfl rfl) ?_;refine TO.nil ?_;cases h;exact ⟨rfl, (), ⟨rfl, (keep_cons rfl (keep_cons rfl (keep_cons rfl (keep_cons rfl keep_nil)))), (.pick (p := 0) rfl (.pick (p := 0) rfl .refl))⟩⟩
    | false =>
     rw [if_neg Bool.false_ne_true] at h;refine TO.off rfl rfl rfl ?_;refine TO.off rfl rfl rfl ?_;refine TO.off rfl rfl rfl ?_;refine TO.off rfl rfl rfl ?_;refine TO.val rfl rfl rfl (Val.pick rfl rfl rfl) ?_;refine TO.val rfl rfl rfl (Val.move rfl) ?_;refine TO.off rfl rfl rfl ?_;refine TO.off rfl rfl rfl ?_;refine TO.off rfl rfl rfl ?_;refine TO.off rfl rfl rfl ?_;refine TO.val rfl rfl rfl (Val.pick rfl rfl rfl) ?_;refine TO.val rfl rfl rfl (Val.pick rfl rfl rfl) ?_;refine TO.nil ?_;cases h;exact ⟨rfl, (), ⟨rfl, (keep_cons rfl (keep_cons rfl (keep_cons rfl (keep_cons rfl keep_nil)))), (.pick (p := 0) rfl (.pick (p := 0) rfl .refl))⟩⟩
   | false =>
    replace hc14 := of_decide_eq_false hc14.symm;rw [if_neg hc14] at h;refine TO.off rfl rfl rfl ?_;refine TO.off rfl rfl rfl ?_;refine TO.off rfl rfl rfl ?_;refine TO.off rfl rfl rfl ?_;refine TO.off rfl rfl rfl ?_;refine TO.off rfl rfl rfl ?_;refine TO.off rfl rfl rfl ?_;refine TO.off rfl rfl rfl ?_;refine TO.off rfl rfl rfl ?_;refine TO.off rfl rfl rfl ?_;refine TO.off rfl rfl rfl ?_;refine TO.off rfl rfl rfl ?_;refine TO.off rfl rfl rfl ?_;refine TO.off rfl rfl rfl ?_;refine TO.off rfl rfl rfl ?_;refine TO.off rfl rfl rfl ?_;refine TO.val rfl rfl rfl (Val.pick rfl rfl rfl) ?_;refine TO.nil ?_;cases h;exact ⟨rfl, (), ⟨rfl, (keep_cons rfl (keep_cons rfl (keep_cons rfl (keep_cons rfl keep_nil)))), (.pick (p := 0) rfl (.pick (p := 0) rfl .refl))⟩⟩
  ·rintro x32 _ h;skip;refine T.at (s' := ⟨[], [(2, v_before), (4, .ptr b4 0 7), (7, iv (y12)), (32, bv x32)], .row b4 7 [iv (b_Mark_Class), iv (b_Mark_Number), sv b_Mark_Suffix, iv (b_Wide), iv (b_High), iv (b_Heavy), iv (b_Shelf)] :: .row b3 3 [v_r_Classes, v_r_Shelves, v_r_Books] :: C⟩) rfl ?_;cases x32 with
   | true =>
    rw [if_pos rfl] at h;refine T.condT (fun a ha => ha.ev (.tmp 32) _ rfl) ?_;refine T.text rfl ?_;refine TO.val rfl rfl rfl (Val.assign rfl) ?_;refine TO.nil ?_;cases h;exact ⟨rfl, (), ⟨rfl, (keep_cons rfl (keep_cons rfl (keep_cons rfl keep_nil))), (.pick (p := 0) rfl (.pick (p := 0) rfl .refl))⟩⟩
   | false =>
    rw [if_neg Bool.false_ne_true] at h;refine T.condF (fun a ha => ha.ev (.tmp 32) _ rfl) ?_;refine T.skip ?_;cases h;exact ⟨rfl, (), ⟨rfl, (keep_cons rfl (keep_cons rfl (keep_cons rfl keep_nil))), (.pick (p := 0) rfl (.pick (p := 0) rfl .refl))⟩⟩
 ·rintro e _ h;skip;refine T.at (s' := ⟨[], [(2, v_before), (4, .ptr b4 0 7), (7, iv (e))], .row b4 7 [iv (b_Mark_Class), iv (b_Mark_Number), sv b_Mark_Suffix, iv (b_Wide), iv (b_High), iv (b_Heavy), iv (b_Shelf)] :: .row b3 3 [v_r_Classes, v_r_Shelves, v_r_Books] :: C⟩) rfl ?_
  show T _ _ _ _ _ _;apply T.joinA (r := r) (W := Unit) (fun (j : Int) (w : Unit) => ⟨[], [(7, iv (j))], .row b4 7 [iv (b_Mark_Class), iv (b_Mark_Number), sv b_Mark_Suffix, iv (b_Wide), iv (b_High), iv (b_Heavy), iv (b_Shelf)] :: C⟩) h
  ·intro j h;refine T.seq ?_;refine T.text rfl ?_;refine TO.val rfl rfl rfl (Val.assign rfl) ?_;refine TO.nil ?_;refine T.block ?_
   show T _ _ _ _ _ _;apply T.iter (r := j) (W := Unit) (fun (j : Int × Int) (w : Unit) => ⟨[], [(2, v_before), (4, .ptr b4 0 7), (7, iv (j.1)), (8, iv (j.2))], .row b4 7 [iv (b_Mark_Class), iv (b_Mark_Number), sv b_Mark_Suffix, iv (b_Wide), iv (b_High), iv (b_Heavy), iv (b_Shelf)] :: C⟩) (w0 := ()) h
   ·exact ⟨rfl, (keep_cons rfl (keep_cons rfl (keep_cons rfl (keep_cons rfl keep_nil)))), (.pick (p := 0) rfl (.drop .refl))⟩
   rintro ⟨e_2, i⟩ _ a h;unfold P_r9_Book_L1 at h;dsimp only at h;refine T.at (s' := ⟨[], [(2, v_before), (4, .ptr b4 0 7), (7, iv (e_2)), (8, iv (i))], .row b4 7 [iv (b_Mark_Class), iv (b_Mark_Number), sv b_Mark_Suffix, iv (b_Wide), iv (b_High), iv (b_Heavy), iv (b_Shelf)] :: C⟩) rfl ?_
   show T _ _ _ _ _ _;apply T.join (r := a) (W := Unit) (fun (j : Unit) (w : Unit) => ⟨[], [(2, v_before), (4, .ptr b4 0 7), (7, iv (e_2)), (8, iv (i))], .row b4 7 [iv (b_Mark_Class), iv (b_Mark_Number), sv b_Mark_Suffix, iv (b_Wide), iv (b_High), iv (b_Heavy), iv (b_Shelf)] :: C⟩) h
   ·intro j h
    show T _ _ _ _ _ _;apply T.joinA (r := j) (W := Unit) (fun (j : Bool) (w : Unit) => ⟨[], [(2, v_before), (4, .ptr b4 0 7), (7, iv (e_2)), (8, iv (i)), (40, bv j)], .row b4 7 [iv (b_Mark_Class), iv (b_Mark_Number), sv b_Mark_Suffix, iv (b_Wide), iv (b_High), iv (b_Heavy), iv (b_Shelf)] :: C⟩) h
    ·intro j h;refine T.text rfl ?_;refine TO.val rfl rfl rfl (Val.move rfl) ?_;refine TO.val rfl rfl rfl (Val.move rfl) ?_;refine TO.val rfl rfl rfl (Val.len_l h_before (memS (mem0)) rfl rfl) ?_;obtain ⟨c36, hc36⟩ : ∃ c : Bool, c = decide (i < (before.length : Int)) := ⟨_, rfl⟩;refine TO.val rfl rfl rfl (Val.lss hc36 rfl rfl) ?_;refine TO.val rfl rfl rfl (Val.move rfl) ?_;cases c36 with
     | true =>
      replace hc36 := of_decide_eq_true hc36.symm;rw [if_pos hc36] at h;refine TO.val rfl rfl rfl (Val.move rfl) ?_;obtain ⟨c39, hc39⟩ : ∃ c : Bool, c = decide (e_2 = 0) := ⟨_, rfl⟩;refine TO.val rfl rfl rfl (Val.eql hc39 rfl rfl) ?_;refine TO.val rfl rfl rfl (Val.pick rfl rfl rfl) ?_;refine TO.nil ?_;subst hc39;cases h;exact ⟨rfl, (), ⟨rfl, (keep_cons rfl (keep_cons rfl (keep_cons rfl (keep_cons rfl (keep_cons rfl keep_nil))))), (.pick (p := 0) rfl .refl)⟩⟩
     | false =>
      replace hc36 := of_decide_eq_false hc36.symm;rw [if_neg hc36] at h;refine TO.off rfl rfl rfl ?_;refine TO.off rfl rfl rfl ?_;refine TO.val rfl rfl rfl (Val.pick rfl rfl rfl) ?_;refine TO.nil ?_;cases h;exact ⟨rfl, (), ⟨rfl, (keep_cons rfl (keep_cons rfl (keep_cons rfl (keep_cons rfl (keep_cons rfl keep_nil))))), (.pick (p := 0) rfl .refl)⟩⟩
    ·rintro x40 _ h;skip;refine T.at (s' := ⟨[], [(2, v_before), (4, .ptr b4 0 7), (7, iv (e_2)), (8, iv (i)), (40, bv x40)], .row b4 7 [iv (b_Mark_Class), iv (b_Mark_Number), sv b_Mark_Suffix, iv (b_Wide), iv (b_High), iv (b_Heavy), iv (b_Shelf)] :: C⟩) rfl ?_;cases x40 with
     | true =>
      rw [if_pos rfl] at h;refine T.condT (fun a ha => ha.ev (.tmp 40) _ rfl) ?_;refine T.skip ?_;cases h;exact ⟨rfl, (), ⟨rfl, (keep_cons rfl (keep_cons rfl (keep_cons rfl (keep_cons rfl keep_nil)))), (.pick (p := 0) rfl .refl)⟩⟩
     | false =>
      rw [if_neg Bool.false_ne_true] at h;refine T.condF (fun a ha => ha.ev (.tmp 40) _ rfl) ?_;refine T.exit ?_;cases h;exact ⟨ex_ne, ⟨ex_ne, ⟨rfl, (), ⟨rfl, (keep_cons rfl keep_nil), (.pick (p := 0) rfl .refl)⟩⟩⟩⟩
   ·rintro _ _ h;skip;refine T.at (s' := ⟨[], [(2, v_before), (4, .ptr b4 0 7), (7, iv (e_2)), (8, iv (i))], .row b4 7 [iv (b_Mark_Class), iv (b_Mark_Number), sv b_Mark_Suffix, iv (b_Wide), iv (b_High), iv (b_Heavy), iv (b_Shelf)] :: C⟩) rfl ?_
    show T _ _ _ _ _ _;apply T.joinA (r := a) (W := Unit) (fun (j : Int) (w : Unit) => ⟨[], [(2, v_before), (4, .ptr b4 0 7), (7, iv (j)), (8, iv (i))], .row b4 7 [iv (b_Mark_Class), iv (b_Mark_Number), sv b_Mark_Suffix, iv (b_Wide), iv (b_High), iv (b_Heavy), iv (b_Shelf)] :: C⟩) h
    ·intro j h;refine T.block ?_;refine T.seq ?_;refine T.draw (fun v => sameC_refl v) (l1 := [0, 1, 2, 3, 4, 5, 6, 7]) (l2 := []) (by kernel_rfl) (by kernel_rfl) ?_;refine TO.val rfl rfl rfl (Val.move rfl) ?_;refine TO.val rfl rfl rfl (Val.move rfl) ?_;obtain ⟨a45, hia45, ea45, h⟩ := el_some h;refine TO.fact (rdl_at h_before (memS (mem0)) hia45 ea45) (fun hp => ?_);obtain ⟨pa45, hpa45, hva45⟩ := hp;refine TO.val rfl rfl rfl (hva45 ⟨rfl, rfl⟩ rfl rfl) ?_;refine TO.val rfl rfl rfl (Val.faddr_e (fo := 0) hpa45 rfl rfl rfl) ?_;refine TO.val rfl rfl rfl (Val.load_es (c := [_, _, _]) (PtE.add hpa45 (by decide)) (memS (mem0)) ⟨⟨_, rfl, rfl⟩, rfl, by decide⟩ rfl rfl rfl) ?_;refine TO.val rfl rfl rfl (Val.faddr_ptr (fo := 0) rfl rfl rfl) ?_;refine TO.val rfl rfl rfl (Val.load_rows (p := 0) (c := [_, _, _]) rfl ⟨⟨_, rfl, rfl⟩, rfl, by decide⟩ rfl rfl rfl rfl) ?_;obtain ⟨c50, hc50⟩ : ∃ c : Bool, c = decide (a45.mark_class = b_Mark_Class ∧ a45.mark_number = b_Mark_Number ∧ a45.mark_suffix = b_Mark_Suffix) := ⟨_, rfl⟩;refine TO.val rfl rfl rfl (Val.binD hc50 rfl rfl (eql_ty28 _ _ _ _ _ _ _ _)) ?_;refine TO.nil ?_;cases c50 with
     | true =>
      replace hc50 := of_decide_eq_true hc50.symm;rw [if_pos hc50] at h;refine T.condT (fun a ha => ha.ev (.tmp 50) _ rfl) ?_;refine T.text rfl ?_;refine TO.val rfl rfl rfl (Val.assign rfl) ?_;refine TO.nil ?_;cases h;exact ⟨rfl, (), ⟨rfl, (keep_cons rfl (keep_cons rfl (keep_cons rfl (keep_cons rfl keep_nil)))), (.pick (p := 0) rfl .refl)⟩⟩
     | false =>
      replace hc50 := of_decide_eq_false hc50.symm;rw [if_neg hc50] at h;refine T.condF (fun a ha => ha.ev (.tmp 50) _ rfl) ?_;refine T.skip ?_;cases h;exact ⟨rfl, (), ⟨rfl, (keep_cons rfl (keep_cons rfl (keep_cons rfl (keep_cons rfl keep_nil)))), (.pick (p := 0) rfl .refl)⟩⟩
    ·rintro e_3 _ h;skip;refine T.at (s' := ⟨[], [(2, v_before), (4, .ptr b4 0 7), (7, iv (e_3)), (8, iv (i))], .row b4 7 [iv (b_Mark_Class), iv (b_Mark_Number), sv b_Mark_Suffix, iv (b_Wide), iv (b_High), iv (b_Heavy), iv (b_Shelf)] :: C⟩) rfl ?_;refine T.text rfl ?_;refine TO.val rfl rfl rfl (Val.move rfl) ?_;obtain ⟨hk42, h⟩ := chk_some h;refine TO.val rfl rfl rfl (Val.add rfl rfl hk42) ?_;refine TO.val rfl rfl rfl (Val.assign rfl) ?_;refine TO.nil ?_;cases h;exact ⟨rfl, (), ⟨rfl, (keep_cons rfl (keep_cons rfl (keep_cons rfl (keep_cons rfl keep_nil)))), (.pick (p := 0) rfl .refl)⟩⟩
  ·rintro e_2 _ h;skip;refine T.at (s' := ⟨[], [(7, iv (e_2))], .row b4 7 [iv (b_Mark_Class), iv (b_Mark_Number), sv b_Mark_Suffix, iv (b_Wide), iv (b_High), iv (b_Heavy), iv (b_Shelf)] :: C⟩) rfl ?_;refine T.seq ?_;refine T.text rfl ?_;refine TO.val rfl rfl rfl (Val.move rfl) ?_;refine TO.val rfl rfl rfl (Val.assign rfl) ?_;refine TO.nil ?_;refine T.ret ?_;cases h;exact ⟨rfl, _, rfl, ⟨(), rfl, (.drop .refl)⟩⟩
set_option maxRecDepth 10000 in
theorem tf_r9_Filled {k : Nat} (hk : 0 ≤ k) {C : List Thing} {v_r_Classes : AV} {r_Classes : List Str} {v_r_Shelves : AV} {r_Shelves : List S_api_SfShelf} {v_r_Books : AV} {r_Books : List S_api_SfBook} {v_books : AV} {books : List S_api_SfBook} {v_shelves : AV} {shelves : List Int} {shelf : Int} (h_r_Classes : Rdl C encStr v_r_Classes r_Classes) (h_r_Shelves : Rdl C enc_api_SfShelf v_r_Shelves r_Shelves) (h_r_Books : Rdl C enc_api_SfBook v_r_Books r_Books) (h_books : Rdl C enc_api_SfBook v_books books) (h_shelves : Rdl C encI v_shelves shelves) {r : Int} (h : P_r9_Filled r_Classes r_Shelves r_Books books shelves shelf = some r) :
  TF (EL k) 95 [.agg [v_r_Classes, v_r_Shelves, v_r_Books], v_books, v_shelves, iv (shelf)] C (RepF (fun (w : Unit) => iv r) (fun (w : Unit) => C)) := by
 unfold P_r9_Filled at h;refine TF.enter (fn := Go.Proofs.Tryz.f95) rfl rfl rfl rfl rfl ?_;refine T.seq ?_;refine T.text rfl ?_;refine TO.box (k := 3) (cells := [_, _, _]) rfl rfl rfl rfl rfl rfl rfl (fun b4 => ?_);refine TO.val rfl rfl rfl (Val.assign rfl) ?_;refine TO.nil ?_;refine T.seq ?_;refine T.text rfl ?_;refine TO.val rfl rfl rfl (Val.assign rfl) ?_;refine TO.nil ?_
 show T _ _ _ _ _ _;apply T.join (r := r) (W := Unit) (fun (j : Int) (w : Unit) => ⟨[], [(9, iv (j))], .row b4 3 [v_r_Classes, v_r_Shelves, v_r_Books] :: C⟩) h
 ·intro j h;refine T.seq ?_;refine T.text rfl ?_;refine TO.val rfl rfl rfl (Val.assign rfl) ?_;refine TO.nil ?_;refine T.block ?_
  show T _ _ _ _ _ _;apply T.iter (r := j) (W := Unit) (fun (j : Int × Int) (w : Unit) => ⟨[], [(1, v_books), (2, v_shelves), (3, iv (shelf)), (4, .ptr b4 0 3), (9, iv (j.1)), (10, iv (j.2))], .row b4 3 [v_r_Classes, v_r_Shelves, v_r_Books] :: C⟩) (w0 := ()) h
  ·exact ⟨rfl, (keep_cons rfl (keep_cons rfl (keep_cons rfl (keep_cons rfl (keep_cons rfl (keep_cons rfl keep_nil)))))), (.pick (p := 0) rfl .refl)⟩
  rintro ⟨n, i⟩ _ a h;unfold P_r9_Filled_L1 at h;dsimp only at h;refine T.at (s' := ⟨[], [(1, v_books), (2, v_shelves), (3, iv (shelf)), (4, .ptr b4 0 3), (9, iv (n)), (10, iv (i))], .row b4 3 [v_r_Classes, v_r_Shelves, v_r_Books] :: C⟩) rfl ?_;refine T.seq ?_;refine T.seq ?_;refine T.text rfl ?_;refine TO.val rfl rfl rfl (Val.move rfl) ?_;refine TO.val rfl rfl rfl (Val.move rfl) ?_;refine TO.val rfl rfl rfl (Val.len_l h_books (memS (mem0)) rfl rfl) ?_;obtain ⟨c14, hc14⟩ : ∃ c : Bool, c = decide (i < (books.length : Int)) := ⟨_, rfl⟩;refine TO.val rfl rfl rfl (Val.lss hc14 rfl rfl) ?_;refine TO.nil ?_;cases c14 with
  | true =>
   replace hc14 := of_decide_eq_true hc14.symm;rw [if_pos hc14] at h;refine T.condT (fun a ha => ha.ev (.tmp 14) _ rfl) ?_;refine T.skip ?_
   show T _ _ _ _ _ _;apply T.join (r := a) (W := Unit) (fun (j : Int) (w : Unit) => ⟨[], [(1, v_books), (2, v_shelves), (3, iv (shelf)), (4, .ptr b4 0 3), (9, iv (j)), (10, iv (i))], .row b4 3 [v_r_Classes, v_r_Shelves, v_r_Books] :: C⟩) h
   ·intro j h;refine T.block ?_;refine T.seq ?_;refine T.seq ?_;refine T.text rfl ?_;refine TO.val rfl rfl rfl (Val.move rfl) ?_;refine TO.val rfl rfl rfl (Val.move rfl) ?_;obtain ⟨a19, hia19, ea19, h⟩ := el_some h;refine TO.fact (rdl_at h_shelves (memS (mem0)) hia19 ea19) (fun hp => ?_);obtain ⟨pa19, hpa19, hva19⟩ := hp;refine TO.val rfl rfl rfl (hva19 ⟨rfl, rfl⟩ rfl rfl) ?_;refine TO.val rfl rfl rfl (Val.load_e hpa19 (memS (mem0)) ⟨_, rfl, rfl⟩ rfl rfl) ?_;refine TO.val rfl rfl rfl (Val.move rfl) ?_;obtain ⟨c22, hc22⟩ : ∃ c : Bool, c = decide (¬ a19 = shelf) := ⟨_, rfl⟩;refine TO.val rfl rfl rfl (Val.neq hc22 rfl rfl) ?_;refine TO.nil ?_;cases c22 with
    | true =>
     replace hc22 := of_decide_eq_true hc22.symm;rw [if_pos hc22] at h;refine T.condT (fun a ha => ha.ev (.tmp 22) _ rfl) ?_;refine T.exit ?_;cases h;exact ⟨rfl, (), ⟨rfl, (keep_cons rfl (keep_cons rfl (keep_cons rfl (keep_cons rfl (keep_cons rfl (keep_cons rfl keep_nil)))))), (.pick (p := 0) rfl .refl)⟩⟩
    | false =>
     replace hc22 := of_decide_eq_false hc22.symm;rw [if_neg hc22] at h;refine T.condF (fun a ha => ha.ev (.tmp 22) _ rfl) ?_;refine T.skip ?_;refine T.seq ?_;refine T.seq ?_;refine T.draw (fun v => sameC_refl v) (l1 := [0, 1, 2, 3, 4, 5, 6, 7, 8, 9, 10, 11]) (l2 := []) (by kernel_rfl) (by kernel_rfl) ?_;refine TO.val rfl rfl rfl (Val.move rfl) ?_;refine TO.val rfl rfl rfl (Val.move rfl) ?_;obtain ⟨a25, hia25, ea25, h⟩ := el_some h;refine TO.fact (rdl_at h_books (memS (mem0)) hia25 ea25) (fun hp => ?_);obtain ⟨pa25, hpa25, hva25⟩ := hp;refine TO.val rfl rfl rfl (hva25 ⟨rfl, rfl⟩ rfl rfl) ?_;refine TO.val rfl rfl rfl (Val.faddr_e (fo := 4) hpa25 rfl rfl rfl) ?_;refine TO.val rfl rfl rfl (Val.load_e (PtE.add hpa25 (by decide)) (memS (mem0)) ⟨_, rfl, rfl⟩ rfl rfl) ?_;refine TO.val rfl rfl rfl (Val.faddr_ptr (fo := 1) rfl rfl rfl) ?_;refine TO.val rfl rfl rfl (Val.load_row (p := 0) rfl ⟨_, rfl, rfl⟩ rfl rfl rfl) ?_;refine TO.val rfl rfl rfl (Val.move rfl) ?_;obtain ⟨a31, hia31, ea31, h⟩ := el_some h;refine TO.fact (rdl_at h_r_Shelves (memS (mem0)) hia31 ea31) (fun hp => ?_);obtain ⟨pa31, hpa31, hva31⟩ := hp;refine TO.val rfl rfl rfl (hva31 ⟨rfl, rfl⟩ rfl rfl) ?_;refine TO.val rfl rfl rfl (Val.faddr_e (fo := 3) hpa31 rfl rfl rfl) ?_;refine TO.val rfl rfl rfl (Val.load_e (PtE.add hpa31 (by decide)) (memS (mem0)) ⟨_, rfl, rfl⟩ rfl rfl) ?_;obtain ⟨c34, hc34⟩ : ∃ c : Bool, c = decide (a25.high > a31.high) := ⟨_, rfl⟩;refine TO.val rfl rfl rfl (Val.gtr hc34 rfl rfl) ?_;refine TO.nil ?_;cases c34 with
     | true =>
      replace hc34 := of_decide_eq_true hc34.symm;rw [if_pos hc34] at h;refine T.condT (fun a ha => ha.ev (.tmp 34) _ rfl) ?_;refine T.seq ?_;refine T.text rfl ?_;refine TO.val rfl rfl rfl (Val.assign rfl) ?_;refine TO.nil ?_;refine T.ret ?_;cases h;exact ⟨ret_ne, ⟨ret_ne, ⟨ret_ne, ⟨rfl, _, rfl, ⟨(), rfl, (.drop .refl)⟩⟩⟩⟩⟩
     | false =>
      replace hc34 := of_decide_eq_false hc34.symm;rw [if_neg hc34] at h;refine T.condF (fun a ha => ha.ev (.tmp 34) _ rfl) ?_;refine T.skip ?_;refine T.text rfl ?_;refine TO.val rfl rfl rfl (Val.move rfl) ?_;refine TO.val rfl rfl rfl (Val.move rfl) ?_;refine TO.val rfl rfl rfl (Val.move rfl) ?_;obtain ⟨a38, hia38, ea38, h⟩ := el_some h;refine TO.fact (rdl_at h_books (memS (mem0)) hia38 ea38) (fun hp => ?_);obtain ⟨pa38, hpa38, hva38⟩ := hp;refine TO.val rfl rfl rfl (hva38 ⟨rfl, rfl⟩ rfl rfl) ?_;refine TO.val rfl rfl rfl (Val.faddr_e (fo := 3) hpa38 rfl rfl rfl) ?_;refine TO.val rfl rfl rfl (Val.load_e (PtE.add hpa38 (by decide)) (memS (mem0)) ⟨_, rfl, rfl⟩ rfl rfl) ?_;obtain ⟨hk41, h⟩ := chk_some h;refine TO.val rfl rfl rfl (Val.add rfl rfl hk41) ?_;refine TO.val rfl rfl rfl (Val.assign rfl) ?_;refine TO.nil ?_;cases h;exact ⟨rfl, (), ⟨rfl, (keep_cons rfl (keep_cons rfl (keep_cons rfl (keep_cons rfl (keep_cons rfl (keep_cons rfl keep_nil)))))), (.pick (p := 0) rfl .refl)⟩⟩
   ·rintro n_2 _ h;skip;refine T.at (s' := ⟨[], [(1, v_books), (2, v_shelves), (3, iv (shelf)), (4, .ptr b4 0 3), (9, iv (n_2)), (10, iv (i))], .row b4 3 [v_r_Classes, v_r_Shelves, v_r_Books] :: C⟩) rfl ?_;refine T.text rfl ?_;refine TO.val rfl rfl rfl (Val.move rfl) ?_;obtain ⟨hk16, h⟩ := chk_some h;refine TO.val rfl rfl rfl (Val.add rfl rfl hk16) ?_;refine TO.val rfl rfl rfl (Val.assign rfl) ?_;refine TO.nil ?_;cases h;exact ⟨rfl, (), ⟨rfl, (keep_cons rfl (keep_cons rfl (keep_cons rfl (keep_cons rfl (keep_cons rfl (keep_cons rfl keep_nil)))))), (.pick (p := 0) rfl .refl)⟩⟩
  | false =>
   replace hc14 := of_decide_eq_false hc14.symm;rw [if_neg hc14] at h;refine T.condF (fun a ha => ha.ev (.tmp 14) _ rfl) ?_;refine T.exit ?_;cases h;exact ⟨ex_ne, ⟨rfl, (), ⟨rfl, (keep_cons rfl keep_nil), (.pick (p := 0) rfl .refl)⟩⟩⟩
 ·rintro n _ h;skip;refine T.at (s' := ⟨[], [(9, iv (n))], .row b4 3 [v_r_Classes, v_r_Shelves, v_r_Books] :: C⟩) rfl ?_;refine T.seq ?_;refine T.text rfl ?_;refine TO.val rfl rfl rfl (Val.move rfl) ?_;refine TO.val rfl rfl rfl (Val.assign rfl) ?_;refine TO.nil ?_;refine T.ret ?_;cases h;exact ⟨rfl, _, rfl, ⟨(), rfl, (.drop .refl)⟩⟩
set_option maxRecDepth 10000 in
theorem tf_r9_fit {k : Nat} (hk : 0 ≤ k) {C : List Thing} {v_r_Classes : AV} {r_Classes : List Str} {v_r_Shelves : AV} {r_Shelves : List S_api_SfShelf} {v_r_Books : AV} {r_Books : List S_api_SfBook} {v_books : AV} {books : List S_api_SfBook} {v_shelves : AV} {shelves : List Int} {shelf : Int} (h_r_Classes : Rdl C encStr v_r_Classes r_Classes) (h_r_Shelves : Rdl C enc_api_SfShelf v_r_Shelves r_Shelves) (h_r_Books : Rdl C enc_api_SfBook v_r_Books r_Books) (h_books : Rdl C enc_api_SfBook v_books books) (h_shelves : Rdl C encI v_shelves shelves) {r : Bool} (h : P_r9_fit r_Classes r_Shelves r_Books books shelves shelf = some r) :
  TF (EL k) 76 [.agg [v_r_Classes, v_r_Shelves, v_r_Books], v_books, v_shelves, iv (shelf)] C (RepF (fun (w : Unit) => bv r) (fun (w : Unit) => C)) := by
 unfold P_r9_fit at h;refine TF.enter (fn := Go.Proofs.Tryz.f76) rfl rfl rfl rfl rfl ?_;refine T.seq ?_;refine T.text rfl ?_;refine TO.box (k := 3) (cells := [_, _, _]) rfl rfl rfl rfl rfl rfl rfl (fun b4 => ?_);refine TO.val rfl rfl rfl (Val.assign rfl) ?_;refine TO.nil ?_;refine T.seq ?_;refine T.drawE (l1 := [0, 1, 2, 3, 5, 6, 7, 8, 9, 10]) (l2 := [4, 11, 12]) (by kernel_rfl) (by kernel_rfl) ?_;refine TD1.read rfl rfl rfl rfl (Val.load_rows (p := 0) (c := [_, _, _]) rfl ⟨⟨_, rfl, rfl⟩, rfl, by decide⟩ rfl rfl rfl rfl) ?_;refine TD1.light rfl rfl rfl rfl (Val.move rfl) ?_;refine TD1.light rfl rfl rfl rfl (Val.move rfl) ?_;refine TD1.light rfl rfl rfl rfl (Val.move rfl) ?_;refine TD1.light rfl rfl rfl rfl (Val.faddr_ptr (fo := 1) rfl rfl rfl) ?_;refine TD1.read rfl rfl rfl rfl (Val.load_row (p := 0) rfl ⟨_, rfl, rfl⟩ rfl rfl rfl) ?_;refine TD1.light rfl rfl rfl rfl (Val.move rfl) ?_;obtain ⟨a17, hia17, ea17, h⟩ := el_some h;refine TD1.fact (rdl_at h_r_Shelves (memS (mem0)) hia17 ea17) (fun hp => ?_);obtain ⟨pa17, hpa17, hva17⟩ := hp;refine TD1.light rfl rfl rfl rfl (hva17 ⟨rfl, rfl⟩ rfl rfl) ?_;refine TD1.light rfl rfl rfl rfl (Val.faddr_e (fo := 2) hpa17 rfl rfl rfl) ?_;refine TD1.read rfl rfl rfl rfl (Val.load_e (PtE.add hpa17 (by decide)) (memS (mem0)) ⟨_, rfl, rfl⟩ rfl rfl) ?_;refine TD1.over (fun v => sameC_refl v) (all_cons (⟨_, rfl, (Val.load_e (PtE.add hpa17 (by decide)) (memS (mem0)) ⟨_, rfl, rfl⟩ rfl rfl)⟩) (all_cons (⟨_, rfl, (Val.load_row (p := 0) rfl ⟨_, rfl, rfl⟩ rfl rfl rfl)⟩) (all_cons (⟨_, rfl, (Val.load_rows (p := 0) (c := [_, _, _]) rfl ⟨⟨_, rfl, rfl⟩, rfl, by decide⟩ rfl rfl rfl rfl)⟩) all_nil))) ?_;obtain ⟨y13, hr13, h⟩ := andx_some h;refine TD2.heavy (fun v => sameC_refl v) rfl (by decide) rfl rfl (OpS.callV rfl rfl rfl rfl (orcN rfl) (RepF.conv (tf_r9_Filled (by first | decide | omega) (Rdl.mono h_r_Classes (memS (mem0))) (Rdl.mono h_r_Shelves (memS (mem0))) (Rdl.mono h_r_Books (memS (mem0))) (Rdl.mono h_books (memS (mem0))) (Rdl.mono h_shelves (memS (mem0))) hr13))) ?_;rintro _ _ ⟨_, rfl, rfl⟩;refine ⟨(all_cons (.inr ⟨_, rfl, (Val.load_e (PtE.add hpa17 (by decide)) (memS (mem0)) ⟨_, rfl, rfl⟩ rfl rfl)⟩) (all_cons (.inr ⟨_, rfl, (Val.load_row (p := 0) rfl ⟨_, rfl, rfl⟩ rfl rfl rfl)⟩) (all_cons (.inl (by kernel_rfl)) all_nil))), all_nil, ?_⟩;refine TD2.things (hs' := .row b4 3 [v_r_Classes, v_r_Shelves, v_r_Books] :: C) rfl ?_;obtain ⟨y20, hr20, h⟩ := andx_some h;refine TD2.heavy (fun v => sameC_refl v) rfl (by decide) rfl rfl (OpS.callV rfl rfl rfl rfl (orcN rfl) (RepF.conv (tf_r9_in (by first | decide | omega) hr20))) ?_;rintro _ _ ⟨_, rfl, rfl⟩;refine ⟨(all_cons (.inl (by kernel_rfl)) (all_cons (.inl (by kernel_rfl)) (all_cons (.inl (by kernel_rfl)) all_nil))), all_nil, ?_⟩;refine TD2.things (hs' := .row b4 3 [v_r_Classes, v_r_Shelves, v_r_Books] :: C) rfl ?_;refine TD2.light rfl rfl rfl rfl (Val.assign rfl) ?_;refine TD2.nil ?_;refine T.ret ?_;cases h;exact ⟨rfl, _, rfl, ⟨(), rfl, (.drop .refl)⟩⟩
set_option maxRecDepth 10000 in
theorem tf_r9_Check {k : Nat} (hk : 0 ≤ k) {C : List Thing} {v_r_Classes : AV} {r_Classes : List Str} {v_r_Shelves : AV} {r_Shelves : List S_api_SfShelf} {v_r_Books : AV} {r_Books : List S_api_SfBook} (ht_r_Classes : RdT encStr v_r_Classes r_Classes) (ht_r_Shelves : RdT enc_api_SfShelf v_r_Shelves r_Shelves) (ht_r_Books : RdT enc_api_SfBook v_r_Books r_Books) {r : Int × Int × Int} (h : P_r9_Check r_Classes r_Shelves r_Books = some r) :
  TF (EL k) 17 [.agg [v_r_Classes, v_r_Shelves, v_r_Books]] C (RepF (fun (w : Unit) => .tuple [iv r.1, iv r.2.1, iv r.2.2]) (fun (w : Unit) => C)) := by
 unfold P_r9_Check at h
 have h_r_Classes : Rdl C encStr v_r_Classes r_Classes := RdT.rdl ht_r_Classes
 have h_r_Shelves : Rdl C enc_api_SfShelf v_r_Shelves r_Shelves := RdT.rdl ht_r_Shelves
 have h_r_Books : Rdl C enc_api_SfBook v_r_Books r_Books := RdT.rdl ht_r_Books;refine TF.enter (fn := Go.Proofs.Tryz.f17) rfl rfl rfl rfl rfl ?_;refine T.seq ?_;refine T.text rfl ?_;refine TO.box (k := 3) (cells := [_, _, _]) rfl rfl rfl rfl rfl rfl rfl (fun b1 => ?_);refine TO.val rfl rfl rfl (Val.assign rfl) ?_;refine TO.val rfl rfl rfl (Val.assign rfl) ?_;refine TO.val rfl rfl rfl (Val.assign rfl) ?_;refine TO.nil ?_;refine T.seq ?_;refine T.seq ?_;refine T.text rfl ?_;refine TO.val rfl rfl rfl (Val.faddr_ptr (fo := 0) rfl rfl rfl) ?_;refine TO.val rfl rfl rfl (Val.load_row (p := 0) rfl ⟨_, rfl, rfl⟩ rfl rfl rfl) ?_;refine TO.val rfl rfl rfl (Val.len_l h_r_Classes (memS (mem0)) rfl rfl) ?_;obtain ⟨y16, hr16, h⟩ := andx_some h;refine TO.callT (first := []) (cap := []) (vs := [iv ((r_Classes.length : Int)), iv (1), iv (6)]) rfl rfl rfl rfl rfl rfl (orcN rfl) (tf_r9_in (by first | decide | omega) hr16) ?_;rintro _;refine TO.things (hs' := .row b1 3 [v_r_Classes, v_r_Shelves, v_r_Books] :: C) rfl ?_;refine TO.val rfl rfl rfl (Val.not rfl) ?_;refine TO.nil ?_;cases y16 with
 | true =>
  rw [if_pos rfl] at h;refine T.condF (fun a ha => ha.ev (.tmp 17) _ rfl) ?_;refine T.skip ?_
  show T _ _ _ _ _ _;apply T.join (r := r) (W := Unit) (fun (j : Unit) (w : Unit) => ⟨[], [(1, .ptr b1 0 3)], .row b1 3 [v_r_Classes, v_r_Shelves, v_r_Books] :: C⟩) h
  ·intro j h;refine T.seq ?_;refine T.text rfl ?_;refine TO.val rfl rfl rfl (Val.assign rfl) ?_;refine TO.nil ?_;refine T.block ?_
   show T _ _ _ _ _ _;apply T.iter (r := j) (W := Unit) (fun (j : Int) (w : Unit) => ⟨[], [(1, .ptr b1 0 3), (5, iv (j))], .row b1 3 [v_r_Classes, v_r_Shelves, v_r_Books] :: C⟩) (w0 := ()) h
   ·exact ⟨rfl, (keep_cons rfl (keep_cons rfl keep_nil)), (.pick (p := 0) rfl .refl)⟩
   rintro i _ a h;unfold P_r9_Check_L1 at h;refine T.at (s' := ⟨[], [(1, .ptr b1 0 3), (5, iv (i))], .row b1 3 [v_r_Classes, v_r_Shelves, v_r_Books] :: C⟩) rfl ?_;refine T.seq ?_;refine T.seq ?_;refine T.text rfl ?_;refine TO.val rfl rfl rfl (Val.move rfl) ?_;refine TO.val rfl rfl rfl (Val.faddr_ptr (fo := 0) rfl rfl rfl) ?_;refine TO.val rfl rfl rfl (Val.load_row (p := 0) rfl ⟨_, rfl, rfl⟩ rfl rfl rfl) ?_;refine TO.val rfl rfl rfl (Val.len_l h_r_Classes (memS (mem0)) rfl rfl) ?_;obtain ⟨c22, hc22⟩ : ∃ c : Bool, c = decide (i < (r_Classes.length : Int)) := ⟨_, rfl⟩;refine TO.val rfl rfl rfl (Val.lss hc22 rfl rfl) ?_;refine TO.nil ?_;cases c22 with
   | true =>
    replace hc22 := of_decide_eq_true hc22.symm;rw [if_pos hc22] at h;refine T.condT (fun a ha => ha.ev (.tmp 22) _ rfl) ?_;refine T.skip ?_;refine T.seq ?_;refine T.block ?_;refine T.seq ?_;refine T.drawE (l1 := [0, 1, 2, 3, 4, 5, 6, 7, 8]) (l2 := [9, 10]) (by kernel_rfl) (by kernel_rfl) ?_;refine TD1.light rfl rfl rfl rfl (Val.faddr_ptr (fo := 0) rfl rfl rfl) ?_;refine TD1.read rfl rfl rfl rfl (Val.load_row (p := 0) rfl ⟨_, rfl, rfl⟩ rfl rfl rfl) ?_;refine TD1.light rfl rfl rfl rfl (Val.move rfl) ?_;obtain ⟨a28, hia28, ea28, h⟩ := el_some h;refine TD1.fact (rdl_at h_r_Classes (memS (mem0)) hia28 ea28) (fun hp => ?_);obtain ⟨pa28, hpa28, hva28⟩ := hp;refine TD1.light rfl rfl rfl rfl (hva28 ⟨rfl, rfl⟩ rfl rfl) ?_;refine TD1.read rfl rfl rfl rfl (Val.load_e hpa28 (memS (mem0)) ⟨_, rfl, rfl⟩ rfl rfl) ?_;refine TD1.light rfl rfl rfl rfl (Val.faddr_ptr (fo := 0) rfl rfl rfl) ?_;refine TD1.read rfl rfl rfl rfl (Val.load_row (p := 0) rfl ⟨_, rfl, rfl⟩ rfl rfl rfl) ?_;refine TD1.light rfl rfl rfl rfl (Val.move rfl) ?_;obtain ⟨hk33, h⟩ := chk_some h;obtain ⟨w33, htw33, hgw33, hvw33⟩ := slice_T ht_r_Classes hk33
    have hw33 : Rdl C encStr w33 (List.take (i - (0 : Int)).toNat (List.drop ((0 : Int) : Int).toNat r_Classes)) := RdT.rdl htw33;refine TD1.read rfl rfl rfl rfl (hvw33 ⟨rfl, rfl⟩ rfl .no (.some rfl)) ?_;refine TD1.over (fun v => sameC_refl v) (all_cons (⟨_, rfl, (hvw33 ⟨rfl, rfl⟩ rfl .no (.some rfl))⟩) (all_cons (⟨_, rfl, (Val.load_row (p := 0) rfl ⟨_, rfl, rfl⟩ rfl rfl rfl)⟩) (all_cons (⟨_, rfl, (Val.load_e hpa28 (memS (mem0)) ⟨_, rfl, rfl⟩ rfl rfl)⟩) (all_cons (⟨_, rfl, (Val.load_row (p := 0) rfl ⟨_, rfl, rfl⟩ rfl rfl rfl)⟩) all_nil)))) ?_;obtain ⟨y34, hr34, h⟩ := andx_some h;refine TD2.heavy (fun v => sameC_refl v) rfl (by decide) rfl rfl (OpS.callV rfl rfl rfl rfl (orcN rfl) (RepF.conv (tf_r1_Fresh (by first | decide | omega) (Rdl.mono hw33 (memS (mem0))) hr34))) ?_;rintro _ _ ⟨_, rfl, rfl⟩;refine ⟨(all_cons (.inl (by kernel_rfl)) (all_cons (.inl (by kernel_rfl)) (all_cons (.inl (by kernel_rfl)) (all_cons (.inl (by kernel_rfl)) all_nil)))), all_nil, ?_⟩;refine TD2.things (hs' := .row b1 3 [v_r_Classes, v_r_Shelves, v_r_Books] :: C) rfl ?_;refine TD2.light rfl rfl rfl rfl (Val.assign rfl) ?_;refine TD2.nil ?_;refine T.seq ?_;refine T.text rfl ?_;refine TO.val rfl rfl rfl (Val.move rfl) ?_;obtain ⟨c36, hc36⟩ : ∃ c : Bool, c = decide (¬ y34 = 0) := ⟨_, rfl⟩;refine TO.val rfl rfl rfl (Val.neq hc36 rfl rfl) ?_;refine TO.nil ?_;cases c36 with
    | true =>
     replace hc36 := of_decide_eq_true hc36.symm;rw [if_pos hc36] at h;refine T.condT (fun a ha => ha.ev (.tmp 36) _ rfl) ?_;refine T.seq ?_;refine T.text rfl ?_;refine TO.val rfl rfl rfl (Val.move rfl) ?_;refine TO.val rfl rfl rfl (Val.move rfl) ?_;refine TO.val rfl rfl rfl (Val.assign rfl) ?_;refine TO.val rfl rfl rfl (Val.assign rfl) ?_;refine TO.val rfl rfl rfl (Val.assign rfl) ?_;refine TO.nil ?_;refine T.ret ?_;cases h;exact ⟨ret_ne, ⟨ret_ne, ⟨rfl, _, rfl, ⟨(), rfl, (.drop .refl)⟩⟩⟩⟩
    | false =>
     replace hc36 := of_decide_eq_false hc36.symm;rw [if_neg hc36] at h;refine T.condF (fun a ha => ha.ev (.tmp 36) _ rfl) ?_;refine T.skip ?_;refine T.text rfl ?_;refine TO.val rfl rfl rfl (Val.move rfl) ?_;obtain ⟨hk24, h⟩ := chk_some h;refine TO.val rfl rfl rfl (Val.add rfl rfl hk24) ?_;refine TO.val rfl rfl rfl (Val.assign rfl) ?_;refine TO.nil ?_;cases h;exact ⟨rfl, (), ⟨rfl, (keep_cons rfl (keep_cons rfl keep_nil)), (.pick (p := 0) rfl .refl)⟩⟩
   | false =>
    replace hc22 := of_decide_eq_false hc22.symm;rw [if_neg hc22] at h;refine T.condF (fun a ha => ha.ev (.tmp 22) _ rfl) ?_;refine T.exit ?_;cases h;exact ⟨ex_ne, ⟨rfl, (), ⟨rfl, (keep_cons rfl keep_nil), (.pick (p := 0) rfl .refl)⟩⟩⟩
  ·rintro _ _ h;skip;refine T.at (s' := ⟨[], [(1, .ptr b1 0 3)], .row b1 3 [v_r_Classes, v_r_Shelves, v_r_Books] :: C⟩) rfl ?_;refine T.seq ?_;refine T.seq ?_;refine T.text rfl ?_;refine TO.val rfl rfl rfl (Val.faddr_ptr (fo := 1) rfl rfl rfl) ?_;refine TO.val rfl rfl rfl (Val.load_row (p := 0) rfl ⟨_, rfl, rfl⟩ rfl rfl rfl) ?_;refine TO.val rfl rfl rfl (Val.len_l h_r_Shelves (memS (mem0)) rfl rfl) ?_;obtain ⟨y42, hr42, h⟩ := andx_some h;refine TO.callT (first := []) (cap := []) (vs := [iv ((r_Shelves.length : Int)), iv (1), iv (4)]) rfl rfl rfl rfl rfl rfl (orcN rfl) (tf_r9_in (by first | decide | omega) hr42) ?_;rintro _;refine TO.things (hs' := .row b1 3 [v_r_Classes, v_r_Shelves, v_r_Books] :: C) rfl ?_;refine TO.val rfl rfl rfl (Val.not rfl) ?_;refine TO.nil ?_;cases y42 with
   | true =>
    rw [if_pos rfl] at h;refine T.condF (fun a ha => ha.ev (.tmp 43) _ rfl) ?_;refine T.skip ?_
    show T _ _ _ _ _ _;apply T.join (r := r) (W := Unit) (fun (j : Unit) (w : Unit) => ⟨[], [(1, .ptr b1 0 3)], .row b1 3 [v_r_Classes, v_r_Shelves, v_r_Books] :: C⟩) h
    ·intro j h;refine T.seq ?_;refine T.text rfl ?_;refine TO.val rfl rfl rfl (Val.assign rfl) ?_;refine TO.nil ?_;refine T.block ?_
     show T _ _ _ _ _ _;apply T.iter (r := j) (W := Unit) (fun (j : Int) (w : Unit) => ⟨[], [(1, .ptr b1 0 3), (7, iv (j))], .row b1 3 [v_r_Classes, v_r_Shelves, v_r_Books] :: C⟩) (w0 := ()) h
     ·exact ⟨rfl, (keep_cons rfl (keep_cons rfl keep_nil)), (.pick (p := 0) rfl .refl)⟩
     rintro i _ a h;unfold P_r9_Check_L2 at h;refine T.at (s' := ⟨[], [(1, .ptr b1 0 3), (7, iv (i))], .row b1 3 [v_r_Classes, v_r_Shelves, v_r_Books] :: C⟩) rfl ?_;refine T.seq ?_;refine T.seq ?_;refine T.text rfl ?_;refine TO.val rfl rfl rfl (Val.move rfl) ?_;refine TO.val rfl rfl rfl (Val.faddr_ptr (fo := 1) rfl rfl rfl) ?_;refine TO.val rfl rfl rfl (Val.load_row (p := 0) rfl ⟨_, rfl, rfl⟩ rfl rfl rfl) ?_;refine TO.val rfl rfl rfl (Val.len_l h_r_Shelves (memS (mem0)) rfl rfl) ?_;obtain ⟨c48, hc48⟩ : ∃ c : Bool, c = decide (i < (r_Shelves.length : Int)) := ⟨_, rfl⟩;refine TO.val rfl rfl rfl (Val.lss hc48 rfl rfl) ?_;refine TO.nil ?_;cases c48 with
     | true =>
      replace hc48 := of_decide_eq_true hc48.symm;rw [if_pos hc48] at h;refine T.condT (fun a ha => ha.ev (.tmp 48) _ rfl) ?_;refine T.skip ?_
      show T _ _ _ _ _ _;apply T.join (r := a) (W := Unit) (fun (j : Unit) (w : Unit) => ⟨[], [(1, .ptr b1 0 3), (7, iv (i))], .row b1 3 [v_r_Classes, v_r_Shelves, v_r_Books] :: C⟩) h
      ·intro j h;refine T.block ?_;refine T.seq ?_;refine T.text rfl ?_;refine TO.val rfl rfl rfl (Val.faddr_ptr (fo := 1) rfl rfl rfl) ?_;refine TO.val rfl rfl rfl (Val.load_row (p := 0) rfl ⟨_, rfl, rfl⟩ rfl rfl rfl) ?_;refine TO.val rfl rfl rfl (Val.move rfl) ?_;obtain ⟨a54, hia54, ea54, h⟩ := el_some h;refine TO.fact (rdl_at h_r_Shelves (memS (mem0)) hia54 ea54) (fun hp => ?_);obtain ⟨pa54, hpa54, hva54⟩ := hp;refine TO.val rfl rfl rfl (hva54 ⟨rfl, rfl⟩ rfl rfl) ?_;refine TO.val rfl rfl rfl (Val.load_es (c := [_, _, _, _]) hpa54 (memS (mem0)) ⟨⟨_, rfl, rfl⟩, rfl, by decide⟩ rfl rfl rfl) ?_;refine TO.alloc (k := 4) (cells := [_, _, _, _]) rfl rfl rfl rfl rfl rfl rfl (fun b8 => ?_);refine TO.eff0 rfl rfl (Eff.store_row (p := 0) (cv := [_, _, _, _]) (cells' := [_, _, _, _]) rfl rfl rfl rfl rfl rfl rfl rfl (by first | rfl | (simp [GS.one]; done)) (by decide) rfl) ?_;rintro _ rfl;refine TO.things (hs' := .row b8 4 [iv (a54.away), iv (a54.climb), iv (a54.wide), iv (a54.high)] :: .row b1 3 [v_r_Classes, v_r_Shelves, v_r_Books] :: C) rfl ?_;refine TO.nil ?_
       show T _ _ _ _ _ _;apply T.joinA (r := j) (W := Unit) (fun (j : Bool) (w : Unit) => ⟨[], [(1, .ptr b1 0 3), (7, iv (i)), (77, bv j)], .row b8 4 [iv (a54.away), iv (a54.climb), iv (a54.wide), iv (a54.high)] :: .row b1 3 [v_r_Classes, v_r_Shelves, v_r_Books] :: C⟩) h
       ·intro j h;refine T.text rfl ?_;refine TO.val rfl rfl rfl (Val.faddr_ptr (fo := 0) rfl rfl rfl) ?_;refine TO.val rfl rfl rfl (Val.load_row (p := 0) rfl ⟨_, rfl, rfl⟩ rfl rfl rfl) ?_;obtain ⟨y58, hr58, h⟩ := andx_some h;refine TO.callT (first := []) (cap := []) (vs := [iv (a54.away), iv (0), iv (1000)]) rfl rfl rfl rfl rfl rfl (orcN rfl) (tf_r9_in (by first | decide | omega) hr58) ?_;rintro _;refine TO.things (hs' := .row b8 4 [iv (a54.away), iv (a54.climb), iv (a54.wide), iv (a54.high)] :: .row b1 3 [v_r_Classes, v_r_Shelves, v_r_Books] :: C) rfl ?_;refine TO.val rfl rfl rfl (Val.not rfl) ?_;refine TO.val rfl rfl rfl (Val.move rfl) ?_;cases y58 with
        | true =>
         rw [if_pos rfl] at h;refine TO.val rfl rfl rfl (Val.faddr_ptr (fo := 1) rfl rfl rfl) ?_;refine TO.val rfl rfl rfl (Val.load_row (p := 0) rfl ⟨_, rfl, rfl⟩ rfl rfl rfl) ?_;obtain ⟨y63, hr63, h⟩ := andx_some h;refine TO.callT (first := []) (cap := []) (vs := [iv (a54.climb), iv (0), iv (1000)]) rfl rfl rfl rfl rfl rfl (orcN rfl) (tf_r9_in (by first | decide | omega) hr63) ?_;rintro _;refine TO.things (hs' := .row b8 4 [iv (a54.away), iv (a54.climb), iv (a54.wide), iv (a54.high)] :: .row b1 3 [v_r_Classes, v_r_Shelves, v_r_Books] :: C) rfl ?_;refine TO.val rfl rfl rfl (Val.not rfl) ?_;refine TO.val rfl rfl rfl (Val.pick rfl rfl rfl) ?_;refine TO.val rfl rfl rfl (Val.move rfl) ?_;cases y63 with
         | true =>
          rw [if_pos rfl] at h;refine TO.val rfl rfl rfl (Val.faddr_ptr (fo := 2) rfl rfl rfl) ?_;refine TO.val rfl rfl rfl (Val.load_row (p := 0) rfl ⟨_, rfl, rfl⟩ rfl rfl rfl) ?_;obtain ⟨y69, hr69, h⟩ := andx_some h;refine TO.callT (first := []) (cap := []) (vs := [iv (a54.wide), iv (1), iv (2000)]) rfl rfl rfl rfl rfl rfl (orcN rfl) (tf_r9_in (by first | decide | omega) hr69) ?_;rintro _;refine TO.things (hs' := .row b8 4 [iv (a54.away), iv (a54.climb), iv (a54.wide), iv (a54.high)] :: .row b1 3 [v_r_Classes, v_r_Shelves, v_r_Books] :: C) rfl ?_;refine TO.val rfl rfl rfl (Val.not rfl) ?_;refine TO.val rfl rfl rfl (Val.pick rfl rfl rfl) ?_;refine TO.val rfl rfl rfl (Val.move rfl) ?_;cases y69 with
          | true =>
           rw [if_pos rfl] at h;refine TO.val rfl rfl rfl (Val.faddr_ptr (fo := 3) rfl rfl rfl) ?_;refine TO.val rfl rfl rfl (Val.load_row (p := 0) rfl ⟨_, rfl, rfl⟩ rfl rfl rfl) ?_;obtain ⟨y75, hr75, h⟩ := andx_some h;refine TO.callT (first := []) (cap := []) (vs := [iv (a54.high), iv (1), iv (2000)]) rfl rfl rfl rfl rfl rfl (orcN rfl) (tf_r9_in (by first | decide | omega) hr75) ?_;rintro _;refine TO.things (hs' := .row b8 4 [iv (a54.away), iv (a54.climb), iv (a54.wide), iv (a54.high)] :: .row b1 3 [v_r_Classes, v_r_Shelves, v_r_Books] :: C) rfl ?_;refine TO.val rfl rfl rfl (Val.not rfl) ?_;refine TO.val rfl rfl rfl (Val.pick rfl rfl rfl) ?_;refine TO.nil ?_;cases h;exact ⟨rfl, (), ⟨rfl, (keep_cons rfl (keep_cons rfl (keep_cons rfl keep_nil))), (.pick (p := 0) rfl (.pick (p := 0) rfl .refl))⟩⟩
          | false =>
           rw [if_neg Bool.false_ne_true] at h;refine TO.off rfl rfl rfl ?_;refine TO.off rfl rfl rfl ?_;refine TO.off rfl rfl rfl ?_;refine TO.off rfl rfl rfl ?_;refine TO.val rfl rfl rfl (Val.pick rfl rfl rfl) ?_;refine TO.nil ?_;cases h;exact ⟨rfl, (), ⟨rfl, (keep_cons rfl (keep_cons rfl (keep_cons rfl keep_nil))), (.pick (p := 0) rfl (.pick (p := 0) rfl .refl))⟩⟩
         | false =>
          rw [if_neg Bool.false_ne_true] at h;refine TO.off rfl rfl rfl ?_;refine TO.off rfl rfl rfl ?_;refine TO.off rfl rfl rfl ?_;refine TO.off rfl rfl rfl ?_;refine TO.val rfl rfl rfl (Val.pick rfl rfl rfl) ?_;refine TO.val rfl rfl rfl (Val.move rfl) ?_;refine TO.off rfl rfl rfl ?_;refine TO.off rfl rfl rfl ?_;refine TO.off rfl rfl rfl ?_;refine TO.off rfl rfl rfl ?_;refine TO.val rfl rfl rfl (Val.pick rfl rfl rfl) ?_;refine TO.nil ?_;cases h;exact ⟨rfl, (), ⟨rfl, (keep_cons rfl (keep_cons rfl (keep_cons rfl keep_nil))), (.pick (p := 0) rfl (.pick (p := 0) rfl .refl))⟩⟩
        | false =>
         rw [if_neg Bool.false_ne_true] at h;refine TO.off rfl rfl rfl ?_;refine TO.off rfl rfl rfl ?_;refine TO.off rfl rfl rfl ?_;refine TO.off rfl rfl rfl ?_;refine TO.val rfl rfl rfl (Val.pick rfl rfl rfl) ?_;refine TO.val rfl rfl rfl (Val.move rfl) ?_;refine TO.off rfl rfl rfl ?_;refine TO.off rfl rfl rfl ?_;refine TO.off rfl rfl rfl ?_;refine TO.off rfl rfl rfl ?_;refine TO.val rfl rfl rfl (Val.pick rfl rfl rfl) ?_;refine TO.val rfl rfl rfl (Val.move rfl) ?_;refine TO.off rfl rfl rfl ?_;refine TO.off rfl rfl rfl ?_;refine TO.off rfl rfl rfl ?_;refine TO.off rfl rfl rfl ?_;refine TO.val rfl rfl rfl (Val.pick rfl rfl rfl) ?_;refine TO.nil ?_;cases h;exact ⟨rfl, (), ⟨rfl, (keep_cons rfl (keep_cons rfl (keep_cons rfl keep_nil))), (.pick (p := 0) rfl (.pick (p := 0) rfl .refl))⟩⟩
       ·rintro x77 _ h;skip;refine T.at (s' := ⟨[], [(1, .ptr b1 0 3), (7, iv (i)), (77, bv x77)], .row b8 4 [iv (a54.away), iv (a54.climb), iv (a54.wide), iv (a54.high)] :: .row b1 3 [v_r_Classes, v_r_Shelves, v_r_Books] :: C⟩) rfl ?_;cases x77 with
        | true =>
         rw [if_pos rfl] at h;refine T.condT (fun a ha => ha.ev (.tmp 77) _ rfl) ?_;refine T.seq ?_;refine T.text rfl ?_;refine TO.val rfl rfl rfl (Val.move rfl) ?_;refine TO.val rfl rfl rfl (Val.assign rfl) ?_;refine TO.val rfl rfl rfl (Val.assign rfl) ?_;refine TO.val rfl rfl rfl (Val.assign rfl) ?_;refine TO.nil ?_;refine T.ret ?_;cases h;exact ⟨ret_ne, ⟨ret_ne, ⟨ret_ne, ⟨rfl, _, rfl, ⟨(), rfl, (.drop (.drop .refl))⟩⟩⟩⟩⟩
        | false =>
         rw [if_neg Bool.false_ne_true] at h;refine T.condF (fun a ha => ha.ev (.tmp 77) _ rfl) ?_;refine T.skip ?_;cases h;exact ⟨rfl, (), ⟨rfl, (keep_cons rfl (keep_cons rfl keep_nil)), (.pick (p := 1) rfl (.drop .refl))⟩⟩
      ·rintro _ _ h;skip;refine T.at (s' := ⟨[], [(1, .ptr b1 0 3), (7, iv (i))], .row b1 3 [v_r_Classes, v_r_Shelves, v_r_Books] :: C⟩) rfl ?_;refine T.text rfl ?_;refine TO.val rfl rfl rfl (Val.move rfl) ?_;obtain ⟨hk50, h⟩ := chk_some h;refine TO.val rfl rfl rfl (Val.add rfl rfl hk50) ?_;refine TO.val rfl rfl rfl (Val.assign rfl) ?_;refine TO.nil ?_;cases h;exact ⟨rfl, (), ⟨rfl, (keep_cons rfl (keep_cons rfl keep_nil)), (.pick (p := 0) rfl .refl)⟩⟩
     | false =>
      replace hc48 := of_decide_eq_false hc48.symm;rw [if_neg hc48] at h;refine T.condF (fun a ha => ha.ev (.tmp 48) _ rfl) ?_;refine T.exit ?_;cases h;exact ⟨ex_ne, ⟨rfl, (), ⟨rfl, (keep_cons rfl keep_nil), (.pick (p := 0) rfl .refl)⟩⟩⟩
    ·rintro _ _ h;skip;refine T.at (s' := ⟨[], [(1, .ptr b1 0 3)], .row b1 3 [v_r_Classes, v_r_Shelves, v_r_Books] :: C⟩) rfl ?_;refine T.seq ?_;refine T.seq ?_;refine T.text rfl ?_;refine TO.val rfl rfl rfl (Val.faddr_ptr (fo := 2) rfl rfl rfl) ?_;refine TO.val rfl rfl rfl (Val.load_row (p := 0) rfl ⟨_, rfl, rfl⟩ rfl rfl rfl) ?_;refine TO.val rfl rfl rfl (Val.len_l h_r_Books (memS (mem0)) rfl rfl) ?_;obtain ⟨c82, hc82⟩ : ∃ c : Bool, c = decide ((r_Books.length : Int) > 10) := ⟨_, rfl⟩;refine TO.val rfl rfl rfl (Val.gtr hc82 rfl rfl) ?_;refine TO.nil ?_;cases c82 with
     | true =>
      replace hc82 := of_decide_eq_true hc82.symm;rw [if_pos hc82] at h;refine T.condT (fun a ha => ha.ev (.tmp 82) _ rfl) ?_;refine T.seq ?_;refine T.text rfl ?_;refine TO.val rfl rfl rfl (Val.assign rfl) ?_;refine TO.val rfl rfl rfl (Val.assign rfl) ?_;refine TO.val rfl rfl rfl (Val.assign rfl) ?_;refine TO.nil ?_;refine T.ret ?_;cases h;exact ⟨rfl, _, rfl, ⟨(), rfl, (.drop .refl)⟩⟩
     | false =>
      replace hc82 := of_decide_eq_false hc82.symm;rw [if_neg hc82] at h;refine T.condF (fun a ha => ha.ev (.tmp 82) _ rfl) ?_;refine T.skip ?_
      show T _ _ _ _ _ _;apply T.join (r := r) (W := Unit) (fun (j : Unit) (w : Unit) => ⟨[], [(1, .ptr b1 0 3)], .row b1 3 [v_r_Classes, v_r_Shelves, v_r_Books] :: C⟩) h
      ·intro j h;refine T.seq ?_;refine T.text rfl ?_;refine TO.val rfl rfl rfl (Val.assign rfl) ?_;refine TO.nil ?_;refine T.block ?_
       show T _ _ _ _ _ _;apply T.iter (r := j) (W := Unit) (fun (j : Int) (w : Unit) => ⟨[], [(1, .ptr b1 0 3), (9, iv (j))], .row b1 3 [v_r_Classes, v_r_Shelves, v_r_Books] :: C⟩) (w0 := ()) h
       ·exact ⟨rfl, (keep_cons rfl (keep_cons rfl keep_nil)), (.pick (p := 0) rfl .refl)⟩
       rintro i _ a h;unfold P_r9_Check_L3 at h;refine T.at (s' := ⟨[], [(1, .ptr b1 0 3), (9, iv (i))], .row b1 3 [v_r_Classes, v_r_Shelves, v_r_Books] :: C⟩) rfl ?_;refine T.seq ?_;refine T.seq ?_;refine T.text rfl ?_;refine TO.val rfl rfl rfl (Val.move rfl) ?_;refine TO.val rfl rfl rfl (Val.faddr_ptr (fo := 2) rfl rfl rfl) ?_;refine TO.val rfl rfl rfl (Val.load_row (p := 0) rfl ⟨_, rfl, rfl⟩ rfl rfl rfl) ?_;refine TO.val rfl rfl rfl (Val.len_l h_r_Books (memS (mem0)) rfl rfl) ?_;obtain ⟨c87, hc87⟩ : ∃ c : Bool, c = decide (i < (r_Books.length : Int)) := ⟨_, rfl⟩;refine TO.val rfl rfl rfl (Val.lss hc87 rfl rfl) ?_;refine TO.nil ?_;cases c87 with
       | true =>
        replace hc87 := of_decide_eq_true hc87.symm;rw [if_pos hc87] at h;refine T.condT (fun a ha => ha.ev (.tmp 87) _ rfl) ?_;refine T.skip ?_
        show T _ _ _ _ _ _;apply T.join (r := a) (W := Unit) (fun (j : Unit) (w : Unit) => ⟨[], [(1, .ptr b1 0 3), (9, iv (i))], .row b1 3 [v_r_Classes, v_r_Shelves, v_r_Books] :: C⟩) h
        ·intro j h;refine T.block ?_;refine T.seq ?_;refine T.text rfl ?_;refine TO.val rfl rfl rfl (Val.faddr_ptr (fo := 2) rfl rfl rfl) ?_;refine TO.val rfl rfl rfl (Val.load_row (p := 0) rfl ⟨_, rfl, rfl⟩ rfl rfl rfl) ?_;refine TO.val rfl rfl rfl (Val.move rfl) ?_;obtain ⟨a93, hia93, ea93, h⟩ := el_some h;refine TO.fact (rdl_at h_r_Books (memS (mem0)) hia93 ea93) (fun hp => ?_);obtain ⟨pa93, hpa93, hva93⟩ := hp;refine TO.val rfl rfl rfl (hva93 ⟨rfl, rfl⟩ rfl rfl) ?_;refine TO.val rfl rfl rfl (Val.load_es (c := [_, _, _, _, _, _, _]) hpa93 (memS (mem0)) ⟨⟨_, rfl, rfl⟩, rfl, by decide⟩ rfl rfl rfl) ?_;refine TO.alloc (k := 7) (cells := [_, _, _, _, _, _, _]) rfl rfl rfl rfl rfl rfl rfl (fun b10 => ?_);refine TO.eff0 rfl rfl (Eff.store_row (p := 0) (cv := [_, _, _, _, _, _, _]) (cells' := [_, _, _, _, _, _, _]) rfl rfl rfl rfl rfl rfl rfl rfl (by first | rfl | (simp [GS.one]; done)) (by decide) rfl) ?_;rintro _ rfl;refine TO.things (hs' := .row b10 7 [iv (a93.mark_class), iv (a93.mark_number), sv a93.mark_suffix, iv (a93.wide), iv (a93.high), iv (a93.heavy), iv (a93.shelf)] :: .row b1 3 [v_r_Classes, v_r_Shelves, v_r_Books] :: C) rfl ?_;refine TO.nil ?_;refine T.seq ?_;refine T.drawE (l1 := [0, 1, 2, 3, 4, 5]) (l2 := [6, 7]) (by kernel_rfl) (by kernel_rfl) ?_;refine TD1.read rfl rfl rfl rfl (Val.load_rows (p := 1) (c := [_, _, _]) rfl ⟨⟨_, rfl, rfl⟩, rfl, by decide⟩ rfl rfl rfl rfl) ?_;refine TD1.read rfl rfl rfl rfl (Val.load_rows (p := 0) (c := [_, _, _, _, _, _, _]) rfl ⟨⟨_, rfl, rfl⟩, rfl, by decide⟩ rfl rfl rfl rfl) ?_;refine TD1.light rfl rfl rfl rfl (Val.faddr_ptr (fo := 2) rfl rfl rfl) ?_;refine TD1.read rfl rfl rfl rfl (Val.load_row (p := 1) rfl ⟨_, rfl, rfl⟩ rfl rfl rfl) ?_;refine TD1.light rfl rfl rfl rfl (Val.move rfl) ?_;obtain ⟨hk100, h⟩ := chk_some h;obtain ⟨w100, htw100, hgw100, hvw100⟩ := slice_T ht_r_Books hk100
         have hw100 : Rdl C enc_api_SfBook w100 (List.take (i - (0 : Int)).toNat (List.drop ((0 : Int) : Int).toNat r_Books)) := RdT.rdl htw100;refine TD1.read rfl rfl rfl rfl (hvw100 ⟨rfl, rfl⟩ rfl .no (.some rfl)) ?_;refine TD1.over (fun v => sameC_refl v) (all_cons (⟨_, rfl, (hvw100 ⟨rfl, rfl⟩ rfl .no (.some rfl))⟩) (all_cons (⟨_, rfl, (Val.load_row (p := 1) rfl ⟨_, rfl, rfl⟩ rfl rfl rfl)⟩) (all_cons (⟨_, rfl, (Val.load_rows (p := 0) (c := [_, _, _, _, _, _, _]) rfl ⟨⟨_, rfl, rfl⟩, rfl, by decide⟩ rfl rfl rfl rfl)⟩) (all_cons (⟨_, rfl, (Val.load_rows (p := 1) (c := [_, _, _]) rfl ⟨⟨_, rfl, rfl⟩, rfl, by decide⟩ rfl rfl rfl rfl)⟩) all_nil)))) ?_;obtain ⟨y101, hr101, h⟩ := andx_some h;refine TD2.heavy (fun v => sameC_refl v) rfl (by decide) rfl rfl (OpS.callV rfl rfl rfl rfl (orcN rfl) (RepF.conv (tf_r9_Book (by first | decide | omega) (Rdl.mono h_r_Classes (memS (memS (mem0)))) (Rdl.mono h_r_Shelves (memS (memS (mem0)))) (Rdl.mono h_r_Books (memS (memS (mem0)))) (Rdl.mono hw100 (memS (memS (mem0)))) hr101))) ?_;rintro _ _ ⟨_, rfl, rfl⟩;refine ⟨(all_cons (.inl (by kernel_rfl)) (all_cons (.inl (by kernel_rfl)) (all_cons (.inl (by kernel_rfl)) (all_cons (.inl (by kernel_rfl)) all_nil)))), all_nil, ?_⟩;refine TD2.things (hs' := .row b10 7 [iv (a93.mark_class), iv (a93.mark_number), sv a93.mark_suffix, iv (a93.wide), iv (a93.high), iv (a93.heavy), iv (a93.shelf)] :: .row b1 3 [v_r_Classes, v_r_Shelves, v_r_Books] :: C) rfl ?_;refine TD2.light rfl rfl rfl rfl (Val.assign rfl) ?_;refine TD2.nil ?_
         show T _ _ _ _ _ _;apply T.joinA (r := j) (W := Unit) (fun (j : Int) (w : Unit) => ⟨[], [(1, .ptr b1 0 3), (9, iv (i)), (10, .ptr b10 0 7), (11, iv (j))], .row b10 7 [iv (a93.mark_class), iv (a93.mark_number), sv a93.mark_suffix, iv (a93.wide), iv (a93.high), iv (a93.heavy), iv (a93.shelf)] :: .row b1 3 [v_r_Classes, v_r_Shelves, v_r_Books] :: C⟩) h
         ·intro j h
          show T _ _ _ _ _ _;apply T.joinA (r := j) (W := Unit) (fun (j : Bool) (w : Unit) => ⟨[], [(1, .ptr b1 0 3), (9, iv (i)), (10, .ptr b10 0 7), (11, iv (y101)), (113, bv j)], .row b10 7 [iv (a93.mark_class), iv (a93.mark_number), sv a93.mark_suffix, iv (a93.wide), iv (a93.high), iv (a93.heavy), iv (a93.shelf)] :: .row b1 3 [v_r_Classes, v_r_Shelves, v_r_Books] :: C⟩) h
          ·intro j h;refine T.text rfl ?_;refine TO.val rfl rfl rfl (Val.move rfl) ?_;obtain ⟨c103, hc103⟩ : ∃ c : Bool, c = decide (y101 = 0) := ⟨_, rfl⟩;refine TO.val rfl rfl rfl (Val.eql hc103 rfl rfl) ?_;refine TO.val rfl rfl rfl (Val.move rfl) ?_;cases c103 with
           | true =>
            replace hc103 := of_decide_eq_true hc103.symm;rw [if_pos hc103] at h;refine TO.val rfl rfl rfl (Val.faddr_ptr (fo := 6) rfl rfl rfl) ?_;refine TO.val rfl rfl rfl (Val.load_row (p := 0) rfl ⟨_, rfl, rfl⟩ rfl rfl rfl) ?_;refine TO.val rfl rfl rfl (Val.faddr_ptr (fo := 1) rfl rfl rfl) ?_;refine TO.val rfl rfl rfl (Val.load_row (p := 1) rfl ⟨_, rfl, rfl⟩ rfl rfl rfl) ?_;refine TO.val rfl rfl rfl (Val.len_l h_r_Shelves (memS (memS (mem0))) rfl rfl) ?_;obtain ⟨hk110, h⟩ := chk_some h;refine TO.val rfl rfl rfl (Val.sub rfl rfl hk110) ?_;obtain ⟨y111, hr111, h⟩ := andx_some h;refine TO.callT (first := []) (cap := []) (vs := [iv (a93.shelf), iv (0), iv (((r_Shelves.length : Int) - 1))]) rfl rfl rfl rfl rfl rfl (orcN rfl) (tf_r9_in (by first | decide | omega) hr111) ?_;rintro _;refine TO.things (hs' := .row b10 7 [iv (a93.mark_class), iv (a93.mark_number), sv a93.mark_suffix, iv (a93.wide), iv (a93.high), iv (a93.heavy), iv (a93.shelf)] :: .row b1 3 [v_r_Classes, v_r_Shelves, v_r_Books] :: C) rfl ?_;refine TO.val rfl rfl rfl (Val.not rfl) ?_;refine TO.val rfl rfl rfl (Val.pick rfl rfl rfl) ?_;refine TO.nil ?_;cases h;exact ⟨rfl, (), ⟨rfl, (keep_cons rfl (keep_cons rfl (keep_cons rfl (keep_cons rfl (keep_cons rfl keep_nil))))), (.pick (p := 0) rfl (.pick (p := 0) rfl .refl))⟩⟩
           | false =>
            replace hc103 := of_decide_eq_false hc103.symm;rw [if_neg hc103] at h;refine TO.off rfl rfl rfl ?_;refine TO.off rfl rfl rfl ?_;refine TO.off rfl rfl rfl ?_;refine TO.off rfl rfl rfl ?_;refine TO.off rfl rfl rfl ?_;refine TO.off rfl rfl rfl ?_;refine TO.off rfl rfl rfl ?_;refine TO.off rfl rfl rfl ?_;refine TO.val rfl rfl rfl (Val.pick rfl rfl rfl) ?_;refine TO.nil ?_;cases h;exact ⟨rfl, (), ⟨rfl, (keep_cons rfl (keep_cons rfl (keep_cons rfl (keep_cons rfl (keep_cons rfl keep_nil))))), (.pick (p := 0) rfl (.pick (p := 0) rfl .refl))⟩⟩
          ·rintro x113 _ h;skip;refine T.at (s' := ⟨[], [(1, .ptr b1 0 3), (9, iv (i)), (10, .ptr b10 0 7), (11, iv (y101)), (113, bv x113)], .row b10 7 [iv (a93.mark_class), iv (a93.mark_number), sv a93.mark_suffix, iv (a93.wide), iv (a93.high), iv (a93.heavy), iv (a93.shelf)] :: .row b1 3 [v_r_Classes, v_r_Shelves, v_r_Books] :: C⟩) rfl ?_;cases x113 with
           | true =>
            rw [if_pos rfl] at h;refine T.condT (fun a ha => ha.ev (.tmp 113) _ rfl) ?_;refine T.text rfl ?_;refine TO.val rfl rfl rfl (Val.assign rfl) ?_;refine TO.nil ?_;cases h;exact ⟨rfl, (), ⟨rfl, (keep_cons rfl (keep_cons rfl (keep_cons rfl (keep_cons rfl keep_nil)))), (.pick (p := 0) rfl (.pick (p := 0) rfl .refl))⟩⟩
           | false =>
            rw [if_neg Bool.false_ne_true] at h;refine T.condF (fun a ha => ha.ev (.tmp 113) _ rfl) ?_;refine T.skip ?_;cases h;exact ⟨rfl, (), ⟨rfl, (keep_cons rfl (keep_cons rfl (keep_cons rfl (keep_cons rfl keep_nil)))), (.pick (p := 0) rfl (.pick (p := 0) rfl .refl))⟩⟩
         ·rintro e _ h;skip;refine T.at (s' := ⟨[], [(1, .ptr b1 0 3), (9, iv (i)), (10, .ptr b10 0 7), (11, iv (e))], .row b10 7 [iv (a93.mark_class), iv (a93.mark_number), sv a93.mark_suffix, iv (a93.wide), iv (a93.high), iv (a93.heavy), iv (a93.shelf)] :: .row b1 3 [v_r_Classes, v_r_Shelves, v_r_Books] :: C⟩) rfl ?_
          show T _ _ _ _ _ _;apply T.joinA (r := j) (W := Unit) (fun (j : Int) (w : Unit) => ⟨[], [(1, .ptr b1 0 3), (9, iv (i)), (11, iv (j))], .row b10 7 [iv (a93.mark_class), iv (a93.mark_number), sv a93.mark_suffix, iv (a93.wide), iv (a93.high), iv (a93.heavy), iv (a93.shelf)] :: .row b1 3 [v_r_Classes, v_r_Shelves, v_r_Books] :: C⟩) h
          ·intro j h
           show T _ _ _ _ _ _;apply T.joinA (r := j) (W := Unit) (fun (j : Bool) (w : Unit) => ⟨[], [(1, .ptr b1 0 3), (9, iv (i)), (11, iv (e)), (131, bv j)], .row b10 7 [iv (a93.mark_class), iv (a93.mark_number), sv a93.mark_suffix, iv (a93.wide), iv (a93.high), iv (a93.heavy), iv (a93.shelf)] :: .row b1 3 [v_r_Classes, v_r_Shelves, v_r_Books] :: C⟩) h
           ·intro j h;refine T.draw (fun v => sameC_refl v) (l1 := [0, 1, 2, 3, 4, 5, 6, 7, 8, 9, 10, 11, 12, 13, 14, 15, 16, 17]) (l2 := []) (by kernel_rfl) (by kernel_rfl) ?_;refine TO.val rfl rfl rfl (Val.move rfl) ?_;obtain ⟨c115, hc115⟩ : ∃ c : Bool, c = decide (e = 0) := ⟨_, rfl⟩;refine TO.val rfl rfl rfl (Val.eql hc115 rfl rfl) ?_;refine TO.val rfl rfl rfl (Val.move rfl) ?_;cases c115 with
            | true =>
             replace hc115 := of_decide_eq_true hc115.symm;rw [if_pos hc115] at h;refine TO.val rfl rfl rfl (Val.move rfl) ?_;obtain ⟨c118, hc118⟩ : ∃ c : Bool, c = decide (i > 0) := ⟨_, rfl⟩;refine TO.val rfl rfl rfl (Val.gtr hc118 rfl rfl) ?_;refine TO.val rfl rfl rfl (Val.pick rfl rfl rfl) ?_;refine TO.val rfl rfl rfl (Val.move rfl) ?_;cases c118 with
             | true =>
              replace hc118 := of_decide_eq_true hc118.symm;rw [if_pos hc118] at h;refine TO.val rfl rfl rfl (Val.faddr_ptr (fo := 6) rfl rfl rfl) ?_;refine TO.val rfl rfl rfl (Val.load_row (p := 0) rfl ⟨_, rfl, rfl⟩ rfl rfl rfl) ?_;refine TO.val rfl rfl rfl (Val.faddr_ptr (fo := 2) rfl rfl rfl) ?_;refine TO.val rfl rfl rfl (Val.load_row (p := 1) rfl ⟨_, rfl, rfl⟩ rfl rfl rfl) ?_;refine TO.val rfl rfl rfl (Val.move rfl) ?_;obtain ⟨hk126, h⟩ := chk_some h;refine TO.val rfl rfl rfl (Val.sub rfl rfl hk126) ?_;obtain ⟨a127, hia127, ea127, h⟩ := el_some h;refine TO.fact (rdl_at h_r_Books (memS (memS (mem0))) hia127 ea127) (fun hp => ?_);obtain ⟨pa127, hpa127, hva127⟩ := hp;refine TO.val rfl rfl rfl (hva127 ⟨rfl, rfl⟩ rfl rfl) ?_;refine TO.val rfl rfl rfl (Val.faddr_e (fo := 6) hpa127 rfl rfl rfl) ?_;refine TO.val rfl rfl rfl (Val.load_e (PtE.add hpa127 (by decide)) (memS (memS (mem0))) ⟨_, rfl, rfl⟩ rfl rfl) ?_;obtain ⟨c130, hc130⟩ : ∃ c : Bool, c = decide (a93.shelf < a127.shelf) := ⟨_, rfl⟩;refine TO.val rfl rfl rfl (Val.lss hc130 rfl rfl) ?_;refine TO.val rfl rfl rfl (Val.pick rfl rfl rfl) ?_;refine TO.nil ?_;subst hc130;cases h;exact ⟨rfl, (), ⟨rfl, (keep_cons rfl (keep_cons rfl (keep_cons rfl (keep_cons rfl keep_nil)))), (.pick (p := 0) rfl (.pick (p := 0) rfl .refl))⟩⟩
             | false =>
              replace hc118 := of_decide_eq_false hc118.symm;rw [if_neg hc118] at h;refine TO.off rfl rfl rfl ?_;refine TO.off rfl rfl rfl ?_;refine TO.off rfl rfl rfl ?_;refine TO.off rfl rfl rfl ?_;refine TO.off rfl rfl rfl ?_;refine TO.off rfl rfl rfl ?_;refine TO.off rfl rfl rfl ?_;refine TO.off rfl rfl rfl ?_;refine TO.off rfl rfl rfl ?_;refine TO.off rfl rfl rfl ?_;refine TO.val rfl rfl rfl (Val.pick rfl rfl rfl) ?_;refine TO.nil ?_;cases h;exact ⟨rfl, (), ⟨rfl, (keep_cons rfl (keep_cons rfl (keep_cons rfl (keep_cons rfl keep_nil)))), (.pick (p := 0) rfl (.pick (p := 0) rfl .refl))⟩⟩
            | false =>
             replace hc115 := of_decide_eq_false hc115.symm;rw [if_neg hc115] at h;refine TO.off rfl rfl rfl ?_;refine TO.off rfl rfl rfl ?_;refine TO.val rfl rfl rfl (Val.pick rfl rfl rfl) ?_;refine TO.val rfl rfl rfl (Val.move rfl) ?_;refine TO.off rfl rfl rfl ?_;refine TO.off rfl rfl rfl ?_;refine TO.off rfl rfl rfl ?_;refine TO.off rfl rfl rfl ?_;refine TO.off rfl rfl rfl ?_;refine TO.off rfl rfl rfl ?_;refine TO.off rfl rfl rfl ?_;refine TO.off rfl rfl rfl ?_;refine TO.off rfl rfl rfl ?_;refine TO.off rfl rfl rfl ?_;refine TO.val rfl rfl rfl (Val.pick rfl rfl rfl) ?_;refine TO.nil ?_;cases h;exact ⟨rfl, (), ⟨rfl, (keep_cons rfl (keep_cons rfl (keep_cons rfl (keep_cons rfl keep_nil)))), (.pick (p := 0) rfl (.pick (p := 0) rfl .refl))⟩⟩
           ·rintro x131 _ h;skip;refine T.at (s' := ⟨[], [(1, .ptr b1 0 3), (9, iv (i)), (11, iv (e)), (131, bv x131)], .row b10 7 [iv (a93.mark_class), iv (a93.mark_number), sv a93.mark_suffix, iv (a93.wide), iv (a93.high), iv (a93.heavy), iv (a93.shelf)] :: .row b1 3 [v_r_Classes, v_r_Shelves, v_r_Books] :: C⟩) rfl ?_;cases x131 with
            | true =>
             rw [if_pos rfl] at h;refine T.condT (fun a ha => ha.ev (.tmp 131) _ rfl) ?_;refine T.text rfl ?_;refine TO.val rfl rfl rfl (Val.assign rfl) ?_;refine TO.nil ?_;cases h;exact ⟨rfl, (), ⟨rfl, (keep_cons rfl (keep_cons rfl (keep_cons rfl keep_nil))), (.pick (p := 0) rfl (.pick (p := 0) rfl .refl))⟩⟩
            | false =>
             rw [if_neg Bool.false_ne_true] at h;refine T.condF (fun a ha => ha.ev (.tmp 131) _ rfl) ?_;refine T.skip ?_;cases h;exact ⟨rfl, (), ⟨rfl, (keep_cons rfl (keep_cons rfl (keep_cons rfl keep_nil))), (.pick (p := 0) rfl (.pick (p := 0) rfl .refl))⟩⟩
          ·rintro e_2 _ h;skip;refine T.at (s' := ⟨[], [(1, .ptr b1 0 3), (9, iv (i)), (11, iv (e_2))], .row b10 7 [iv (a93.mark_class), iv (a93.mark_number), sv a93.mark_suffix, iv (a93.wide), iv (a93.high), iv (a93.heavy), iv (a93.shelf)] :: .row b1 3 [v_r_Classes, v_r_Shelves, v_r_Books] :: C⟩) rfl ?_;refine T.seq ?_;refine T.text rfl ?_;refine TO.val rfl rfl rfl (Val.move rfl) ?_;obtain ⟨c133, hc133⟩ : ∃ c : Bool, c = decide (¬ e_2 = 0) := ⟨_, rfl⟩;refine TO.val rfl rfl rfl (Val.neq hc133 rfl rfl) ?_;refine TO.nil ?_;cases c133 with
           | true =>
            replace hc133 := of_decide_eq_true hc133.symm;rw [if_pos hc133] at h;refine T.condT (fun a ha => ha.ev (.tmp 133) _ rfl) ?_;refine T.seq ?_;refine T.text rfl ?_;refine TO.val rfl rfl rfl (Val.move rfl) ?_;refine TO.val rfl rfl rfl (Val.move rfl) ?_;refine TO.val rfl rfl rfl (Val.assign rfl) ?_;refine TO.val rfl rfl rfl (Val.assign rfl) ?_;refine TO.val rfl rfl rfl (Val.assign rfl) ?_;refine TO.nil ?_;refine T.ret ?_;cases h;exact ⟨ret_ne, ⟨ret_ne, ⟨ret_ne, ⟨rfl, _, rfl, ⟨(), rfl, (.drop (.drop .refl))⟩⟩⟩⟩⟩
           | false =>
            replace hc133 := of_decide_eq_false hc133.symm;rw [if_neg hc133] at h;refine T.condF (fun a ha => ha.ev (.tmp 133) _ rfl) ?_;refine T.skip ?_;cases h;exact ⟨rfl, (), ⟨rfl, (keep_cons rfl (keep_cons rfl keep_nil)), (.pick (p := 1) rfl (.drop .refl))⟩⟩
        ·rintro _ _ h;skip;refine T.at (s' := ⟨[], [(1, .ptr b1 0 3), (9, iv (i))], .row b1 3 [v_r_Classes, v_r_Shelves, v_r_Books] :: C⟩) rfl ?_;refine T.text rfl ?_;refine TO.val rfl rfl rfl (Val.move rfl) ?_;obtain ⟨hk89, h⟩ := chk_some h;refine TO.val rfl rfl rfl (Val.add rfl rfl hk89) ?_;refine TO.val rfl rfl rfl (Val.assign rfl) ?_;refine TO.nil ?_;cases h;exact ⟨rfl, (), ⟨rfl, (keep_cons rfl (keep_cons rfl keep_nil)), (.pick (p := 0) rfl .refl)⟩⟩
       | false =>
        replace hc87 := of_decide_eq_false hc87.symm;rw [if_neg hc87] at h;refine T.condF (fun a ha => ha.ev (.tmp 87) _ rfl) ?_;refine T.exit ?_;cases h;exact ⟨ex_ne, ⟨rfl, (), ⟨rfl, (keep_cons rfl keep_nil), (.pick (p := 0) rfl .refl)⟩⟩⟩
      ·rintro _ _ h;skip;refine T.at (s' := ⟨[], [(1, .ptr b1 0 3)], .row b1 3 [v_r_Classes, v_r_Shelves, v_r_Books] :: C⟩) rfl ?_
       show T _ _ _ _ _ _;apply T.join (r := r) (W := Unit) (fun (j : Unit) (w : Unit) => ⟨[], [], .row b1 3 [v_r_Classes, v_r_Shelves, v_r_Books] :: C⟩) h
       ·intro j h;refine T.seq ?_;refine T.text rfl ?_;refine TO.val rfl rfl rfl (Val.assign rfl) ?_;refine TO.nil ?_;refine T.block ?_
        show T _ _ _ _ _ _;apply T.iter (r := j) (W := Unit) (fun (j : Int) (w : Unit) => ⟨[], [(1, .ptr b1 0 3), (12, iv (j))], .row b1 3 [v_r_Classes, v_r_Shelves, v_r_Books] :: C⟩) (w0 := ()) h
        ·exact ⟨rfl, (keep_cons rfl (keep_cons rfl keep_nil)), (.pick (p := 0) rfl .refl)⟩
        rintro i _ a h;unfold P_r9_Check_L4 at h;refine T.at (s' := ⟨[], [(1, .ptr b1 0 3), (12, iv (i))], .row b1 3 [v_r_Classes, v_r_Shelves, v_r_Books] :: C⟩) rfl ?_;refine T.seq ?_;refine T.seq ?_;refine T.text rfl ?_;refine TO.val rfl rfl rfl (Val.move rfl) ?_;refine TO.val rfl rfl rfl (Val.faddr_ptr (fo := 1) rfl rfl rfl) ?_;refine TO.val rfl rfl rfl (Val.load_row (p := 0) rfl ⟨_, rfl, rfl⟩ rfl rfl rfl) ?_;refine TO.val rfl rfl rfl (Val.len_l h_r_Shelves (memS (mem0)) rfl rfl) ?_;obtain ⟨c140, hc140⟩ : ∃ c : Bool, c = decide (i < (r_Shelves.length : Int)) := ⟨_, rfl⟩;refine TO.val rfl rfl rfl (Val.lss hc140 rfl rfl) ?_;refine TO.nil ?_;cases c140 with
        | true =>
         replace hc140 := of_decide_eq_true hc140.symm;rw [if_pos hc140] at h;refine T.condT (fun a ha => ha.ev (.tmp 140) _ rfl) ?_;refine T.skip ?_;refine T.seq ?_;refine T.block ?_;refine T.seq ?_;refine T.drawE (l1 := [0, 1, 2, 3, 4, 6]) (l2 := [5, 7, 8]) (by kernel_rfl) (by kernel_rfl) ?_;refine TD1.read rfl rfl rfl rfl (Val.load_rows (p := 0) (c := [_, _, _]) rfl ⟨⟨_, rfl, rfl⟩, rfl, by decide⟩ rfl rfl rfl rfl) ?_;refine TD1.light rfl rfl rfl rfl (Val.faddr_ptr (fo := 2) rfl rfl rfl) ?_;refine TD1.read rfl rfl rfl rfl (Val.load_row (p := 0) rfl ⟨_, rfl, rfl⟩ rfl rfl rfl) ?_;refine TD1.light rfl rfl rfl rfl (Val.faddr_ptr (fo := 2) rfl rfl rfl) ?_;refine TD1.read rfl rfl rfl rfl (Val.load_row (p := 0) rfl ⟨_, rfl, rfl⟩ rfl rfl rfl) ?_;refine TD1.light rfl rfl rfl rfl (Val.move rfl) ?_;refine TD1.over (fun v => sameC_refl v) (all_cons (⟨_, rfl, (Val.load_row (p := 0) rfl ⟨_, rfl, rfl⟩ rfl rfl rfl)⟩) (all_cons (⟨_, rfl, (Val.load_row (p := 0) rfl ⟨_, rfl, rfl⟩ rfl rfl rfl)⟩) (all_cons (⟨_, rfl, (Val.load_rows (p := 0) (c := [_, _, _]) rfl ⟨⟨_, rfl, rfl⟩, rfl, by decide⟩ rfl rfl rfl rfl)⟩) all_nil))) ?_;obtain ⟨y148, hr148, h⟩ := andx_some h;refine TD2.heavy (fun v => sameC_refl v) rfl (by decide) rfl rfl (OpS.callV rfl rfl rfl rfl (orcN rfl) (RepF.conv (tf_r9_Own (by first | decide | omega) (Rdl.mono h_r_Books (memS (mem0))) hr148))) ?_;rintro w148 _ ⟨w148, rfl, rfl⟩;refine ⟨(all_cons (.inl (by kernel_rfl)) (all_cons (.inr ⟨_, rfl, (Val.load_row (p := 1) rfl ⟨_, rfl, rfl⟩ rfl rfl rfl)⟩) (all_cons (.inr ⟨_, rfl, (Val.load_rows (p := 1) (c := [_, _, _]) rfl ⟨⟨_, rfl, rfl⟩, rfl, by decide⟩ rfl rfl rfl rfl)⟩) all_nil))), all_nil, ?_⟩;refine TD2.things (hs' := ownL true w148 encI y148 :: .row b1 3 [v_r_Classes, v_r_Shelves, v_r_Books] :: C) rfl ?_;obtain ⟨y150, hr150, h⟩ := andx_some h;refine TD2.heavy (fun v => sameC_refl v) rfl (by decide) rfl rfl (OpS.callV rfl rfl rfl rfl (orcN rfl) (RepF.conv (tf_r9_fit (by first | decide | omega) (Rdl.mono h_r_Classes (memS (memS (mem0)))) (Rdl.mono h_r_Shelves (memS (memS (mem0)))) (Rdl.mono h_r_Books (memS (memS (mem0)))) (Rdl.mono h_r_Books (memS (memS (mem0)))) (Rdl.mono (Rdl.own (C := ownL true w148 encI y148 :: .row b1 3 [v_r_Classes, v_r_Shelves, v_r_Books] :: C) (p := 0) rfl) mem0) hr150))) ?_;rintro _ _ ⟨_, rfl, rfl⟩;refine ⟨(all_cons (.inl (by kernel_rfl)) (all_cons (.inl (by kernel_rfl)) (all_cons (.inl (by kernel_rfl)) all_nil))), all_nil, ?_⟩;refine TD2.things (hs' := ownL true w148 encI y148 :: .row b1 3 [v_r_Classes, v_r_Shelves, v_r_Books] :: C) rfl ?_;refine TD2.light rfl rfl rfl rfl (Val.not rfl) ?_;refine TD2.nil ?_;cases y150 with
         | true =>
          rw [if_pos rfl] at h;refine T.condF (fun a ha => ha.ev (.tmp 151) _ rfl) ?_;refine T.skip ?_;refine T.text rfl ?_;refine TO.val rfl rfl rfl (Val.move rfl) ?_;obtain ⟨hk142, h⟩ := chk_some h;refine TO.val rfl rfl rfl (Val.add rfl rfl hk142) ?_;refine TO.val rfl rfl rfl (Val.assign rfl) ?_;refine TO.nil ?_;cases h;exact ⟨rfl, (), ⟨rfl, (keep_cons rfl (keep_cons rfl keep_nil)), (.pick (p := 1) rfl (.drop .refl))⟩⟩
         | false =>
          rw [if_neg Bool.false_ne_true] at h;refine T.condT (fun a ha => ha.ev (.tmp 151) _ rfl) ?_;refine T.seq ?_;refine T.text rfl ?_;refine TO.val rfl rfl rfl (Val.move rfl) ?_;refine TO.val rfl rfl rfl (Val.assign rfl) ?_;refine TO.val rfl rfl rfl (Val.assign rfl) ?_;refine TO.val rfl rfl rfl (Val.assign rfl) ?_;refine TO.nil ?_;refine T.ret ?_;cases h;exact ⟨ret_ne, ⟨ret_ne, ⟨rfl, _, rfl, ⟨(), rfl, (.drop (.drop .refl))⟩⟩⟩⟩
        | false =>
         replace hc140 := of_decide_eq_false hc140.symm;rw [if_neg hc140] at h;refine T.condF (fun a ha => ha.ev (.tmp 140) _ rfl) ?_;refine T.exit ?_;cases h;exact ⟨ex_ne, ⟨rfl, (), ⟨rfl, keep_nil, (.pick (p := 0) rfl .refl)⟩⟩⟩
       ·rintro _ _ h;skip;refine T.at (s' := ⟨[], [], .row b1 3 [v_r_Classes, v_r_Shelves, v_r_Books] :: C⟩) rfl ?_;refine T.seq ?_;refine T.text rfl ?_;refine TO.val rfl rfl rfl (Val.assign rfl) ?_;refine TO.val rfl rfl rfl (Val.assign rfl) ?_;refine TO.val rfl rfl rfl (Val.assign rfl) ?_;refine TO.nil ?_;refine T.ret ?_;cases h;exact ⟨rfl, _, rfl, ⟨(), rfl, (.drop .refl)⟩⟩
   | false =>
    rw [if_neg Bool.false_ne_true] at h;refine T.condT (fun a ha => ha.ev (.tmp 43) _ rfl) ?_;refine T.seq ?_;refine T.text rfl ?_;refine TO.val rfl rfl rfl (Val.assign rfl) ?_;refine TO.val rfl rfl rfl (Val.assign rfl) ?_;refine TO.val rfl rfl rfl (Val.assign rfl) ?_;refine TO.nil ?_;refine T.ret ?_;cases h;exact ⟨rfl, _, rfl, ⟨(), rfl, (.drop .refl)⟩⟩
 | false =>
  rw [if_neg Bool.false_ne_true] at h;refine T.condT (fun a ha => ha.ev (.tmp 17) _ rfl) ?_;refine T.seq ?_;refine T.text rfl ?_;refine TO.val rfl rfl rfl (Val.assign rfl) ?_;refine TO.val rfl rfl rfl (Val.assign rfl) ?_;refine TO.val rfl rfl rfl (Val.assign rfl) ?_;refine TO.nil ?_;refine T.ret ?_;cases h;exact ⟨rfl, _, rfl, ⟨(), rfl, (.drop .refl)⟩⟩
theorem w_r9_Check (r_Classes : GS encStr) (r_Shelves : GS enc_api_SfShelf) (r_Books : GS enc_api_SfBook) (r : Int × Int × Int) (h : P_r9_Check r_Classes.l r_Shelves.l r_Books.l = some r) : Comes (EL 0) 17 [.agg [r_Classes.v, r_Shelves.v, r_Books.v]] (.tuple [iv r.1, iv r.2.1, iv r.2.2]) :=
 TF.run (tf_r9_Check (Nat.le_refl _) (RdT.gs r_Classes) (RdT.gs r_Shelves) (RdT.gs r_Books) h) fun w => (.tuple (.cons .lit (.cons .lit (.cons .lit .nil))))
set_option maxRecDepth 10000 in
theorem tf_q_Name {k : Nat} (hk : 0 ≤ k) {C : List Thing} {s : Str} {r : Bool} (h : P_q_Name s = some r) :
  TF (EL k) 65 [sv s] C (RepF (fun (w : Unit) => bv r) (fun (w : Unit) => C)) := by
 unfold P_q_Name at h;refine TF.enter (fn := Go.Proofs.Tryz.f65) rfl rfl rfl rfl rfl ?_;refine T.seq ?_;refine T.text rfl ?_;refine TO.val rfl rfl rfl (Val.assign rfl) ?_;refine TO.nil ?_
 show T _ _ _ _ _ _;apply T.join (r := r) (W := Unit) (fun (j : Unit) (w : Unit) => ⟨[], [(0, sv s)], C⟩) h
 ·intro j h;refine T.seq ?_;refine T.text rfl ?_;refine TO.val rfl rfl rfl (Val.move rfl) ?_;refine TO.eff rfl rfl rfl (Eff.range_str rfl rfl) ?_;rintro _ _ ⟨it6, rfl, rfl⟩;refine TO.nil ?_;refine T.block ?_
  show T _ _ _ _ _ _;apply T.iter (r := j) (W := Unit) (fun (j : Nat) (w : Unit) => ⟨[], [(0, sv s), (6, .ptr it6 0 0)], strL it6 s j :: C⟩) (w0 := ()) h
  ·exact ⟨rfl, (keep_cons rfl (keep_cons rfl keep_nil)), (.pick (p := 0) rfl .refl)⟩
  rintro pos _ a h;unfold P_q_Name_L1 at h;refine T.at (s' := ⟨[], [(0, sv s), (6, .ptr it6 0 0)], strL it6 s pos :: C⟩) rfl ?_;refine T.seq ?_;refine T.text rfl ?_;obtain ⟨c7, hc7⟩ : ∃ c : Bool, c = decide (pos < s.length) := ⟨_, rfl⟩;cases c7 with
  | true =>
   replace hc7 := of_decide_eq_true hc7.symm;rw [if_pos hc7] at h;refine TO.eff rfl rfl rfl (Eff.next_str (p := 0) rfl rfl hc7) ?_;rintro _ _ ⟨rfl, rfl⟩;refine TO.things (hs' := strL it6 s (pos + runeLen s pos) :: C) rfl ?_;refine TO.val rfl rfl rfl (Val.extract rfl rfl) ?_;refine TO.nil ?_;refine T.seq ?_;refine T.condT (fun a ha => ha.ev (.tmp 8) _ rfl) ?_;refine T.skip ?_;refine T.block ?_;refine T.seq ?_;refine T.text rfl ?_;refine TO.val rfl rfl rfl (Val.extract rfl rfl) ?_;refine TO.val rfl rfl rfl (Val.extract rfl rfl) ?_;refine TO.val rfl rfl rfl (Val.assign rfl) ?_;refine TO.val rfl rfl rfl (Val.assign rfl) ?_;refine TO.nil ?_;refine T.block ?_
   show T _ _ _ _ _ _;apply T.joinA (r := a) (W := Unit) (fun (j : Bool) (w : Unit) => ⟨[], [(0, sv s), (3, iv ((pos : Int))), (4, ivk .i32 ((runeAt s pos))), (6, .ptr it6 0 0), (11, bv j)], strL it6 s (pos + runeLen s pos) :: C⟩) h
   ·intro j h;refine T.text rfl ?_;refine TO.val rfl rfl rfl (Val.move rfl) ?_;obtain ⟨c13, hc13⟩ : ∃ c : Bool, c = decide ((runeAt s pos) ≥ 97) := ⟨_, rfl⟩;refine TO.val rfl rfl rfl (Val.geqK hc13 rfl rfl) ?_;refine TO.val rfl rfl rfl (Val.move rfl) ?_;cases c13 with
    | true =>
     replace hc13 := of_decide_eq_true hc13.symm;rw [if_pos hc13] at h;refine TO.val rfl rfl rfl (Val.move rfl) ?_;obtain ⟨c16, hc16⟩ : ∃ c : Bool, c = decide ((runeAt s pos) ≤ 122) := ⟨_, rfl⟩;refine TO.val rfl rfl rfl (Val.leqK hc16 rfl rfl) ?_;refine TO.val rfl rfl rfl (Val.pick rfl rfl rfl) ?_;refine TO.val rfl rfl rfl (Val.assign rfl) ?_;refine TO.nil ?_;subst hc16;cases h;exact ⟨rfl, (), ⟨rfl, (keep_cons rfl (keep_cons rfl (keep_cons rfl (keep_cons rfl (keep_cons rfl keep_nil))))), (.pick (p := 0) rfl .refl)⟩⟩
    | false =>
     replace hc13 := of_decide_eq_false hc13.symm;rw [if_neg hc13] at h;refine TO.off rfl rfl rfl ?_;refine TO.off rfl rfl rfl ?_;refine TO.val rfl rfl rfl (Val.pick rfl rfl rfl) ?_;refine TO.val rfl rfl rfl (Val.assign rfl) ?_;refine TO.nil ?_;cases h;exact ⟨rfl, (), ⟨rfl, (keep_cons rfl (keep_cons rfl (keep_cons rfl (keep_cons rfl (keep_cons rfl keep_nil))))), (.pick (p := 0) rfl .refl)⟩⟩
   ·rintro x11 _ h;skip;refine T.at (s' := ⟨[], [(0, sv s), (3, iv ((pos : Int))), (4, ivk .i32 ((runeAt s pos))), (6, .ptr it6 0 0), (11, bv x11)], strL it6 s (pos + runeLen s pos) :: C⟩) rfl ?_;cases x11 with
    | true =>
     rw [if_pos rfl] at h;refine T.condT (fun a ha => ha.ev (.tmp 11) _ rfl) ?_;refine T.skip ?_;cases h;exact ⟨rfl, (), ⟨rfl, (keep_cons rfl (keep_cons rfl keep_nil)), (.pick (p := 0) rfl .refl)⟩⟩
    | false =>
     rw [if_neg Bool.false_ne_true] at h;refine T.condF (fun a ha => ha.ev (.tmp 11) _ rfl) ?_
     show T _ _ _ _ _ _;apply T.joinA (r := a) (W := Unit) (fun (j : Bool) (w : Unit) => ⟨[], [(0, sv s), (6, .ptr it6 0 0), (18, bv j)], strL it6 s (pos + runeLen s pos) :: C⟩) h
     ·intro j h;refine T.text rfl ?_;refine TO.val rfl rfl rfl (Val.move rfl) ?_;obtain ⟨c20, hc20⟩ : ∃ c : Bool, c = decide ((pos : Int) > 0) := ⟨_, rfl⟩;refine TO.val rfl rfl rfl (Val.gtr hc20 rfl rfl) ?_;refine TO.val rfl rfl rfl (Val.move rfl) ?_;cases c20 with
      | true =>
       replace hc20 := of_decide_eq_true hc20.symm;rw [if_pos hc20] at h;refine TO.val rfl rfl rfl (Val.move rfl) ?_;obtain ⟨c23, hc23⟩ : ∃ c : Bool, c = decide ((runeAt s pos) ≥ 48) := ⟨_, rfl⟩;refine TO.val rfl rfl rfl (Val.geqK hc23 rfl rfl) ?_;refine TO.val rfl rfl rfl (Val.move rfl) ?_;cases c23 with
       | true =>
        replace hc23 := of_decide_eq_true hc23.symm;rw [if_pos hc23] at h;refine TO.val rfl rfl rfl (Val.move rfl) ?_;obtain ⟨c26, hc26⟩ : ∃ c : Bool, c = decide ((runeAt s pos) ≤ 57) := ⟨_, rfl⟩;refine TO.val rfl rfl rfl (Val.leqK hc26 rfl rfl) ?_;refine TO.val rfl rfl rfl (Val.pick rfl rfl rfl) ?_;refine TO.val rfl rfl rfl (Val.move rfl) ?_;cases c26 with
        | true =>
         replace hc26 := of_decide_eq_true hc26.symm;rw [if_pos hc26] at h;refine TO.off rfl rfl rfl ?_;refine TO.off rfl rfl rfl ?_;refine TO.val rfl rfl rfl (Val.pick rfl rfl rfl) ?_;refine TO.val rfl rfl rfl (Val.pick rfl rfl rfl) ?_;refine TO.val rfl rfl rfl (Val.assign rfl) ?_;refine TO.nil ?_;cases h;exact ⟨rfl, (), ⟨rfl, (keep_cons rfl (keep_cons rfl (keep_cons rfl keep_nil))), (.pick (p := 0) rfl .refl)⟩⟩
        | false =>
         replace hc26 := of_decide_eq_false hc26.symm;rw [if_neg hc26] at h;refine TO.val rfl rfl rfl (Val.move rfl) ?_;obtain ⟨c30, hc30⟩ : ∃ c : Bool, c = decide ((runeAt s pos) = 46) := ⟨_, rfl⟩;refine TO.val rfl rfl rfl (Val.eqlK hc30 rfl rfl) ?_;refine TO.val rfl rfl rfl (Val.pick rfl rfl rfl) ?_;refine TO.val rfl rfl rfl (Val.pick rfl rfl rfl) ?_;refine TO.val rfl rfl rfl (Val.assign rfl) ?_;refine TO.nil ?_;subst hc30;cases h;exact ⟨rfl, (), ⟨rfl, (keep_cons rfl (keep_cons rfl (keep_cons rfl keep_nil))), (.pick (p := 0) rfl .refl)⟩⟩
       | false =>
        replace hc23 := of_decide_eq_false hc23.symm;rw [if_neg hc23] at h;refine TO.off rfl rfl rfl ?_;refine TO.off rfl rfl rfl ?_;refine TO.val rfl rfl rfl (Val.pick rfl rfl rfl) ?_;refine TO.val rfl rfl rfl (Val.move rfl) ?_;refine TO.val rfl rfl rfl (Val.move rfl) ?_;obtain ⟨c30, hc30⟩ : ∃ c : Bool, c = decide ((runeAt s pos) = 46) := ⟨_, rfl⟩;refine TO.val rfl rfl rfl (Val.eqlK hc30 rfl rfl) ?_;refine TO.val rfl rfl rfl (Val.pick rfl rfl rfl) ?_;refine TO.val rfl rfl rfl (Val.pick rfl rfl rfl) ?_;refine TO.val rfl rfl rfl (Val.assign rfl) ?_;refine TO.nil ?_;subst hc30;cases h;exact ⟨rfl, (), ⟨rfl, (keep_cons rfl (keep_cons rfl (keep_cons rfl keep_nil))), (.pick (p := 0) rfl .refl)⟩⟩
      | false =>
       replace hc20 := of_decide_eq_false hc20.symm;rw [if_neg hc20] at h;refine TO.off rfl rfl rfl ?_;refine TO.off rfl rfl rfl ?_;refine TO.off rfl rfl rfl ?_;refine TO.off rfl rfl rfl ?_;refine TO.off rfl rfl rfl ?_;refine TO.off rfl rfl rfl ?_;refine TO.off rfl rfl rfl ?_;refine TO.off rfl rfl rfl ?_;refine TO.off rfl rfl rfl ?_;refine TO.off rfl rfl rfl ?_;refine TO.val rfl rfl rfl (Val.pick rfl rfl rfl) ?_;refine TO.val rfl rfl rfl (Val.assign rfl) ?_;refine TO.nil ?_;cases h;exact ⟨rfl, (), ⟨rfl, (keep_cons rfl (keep_cons rfl (keep_cons rfl keep_nil))), (.pick (p := 0) rfl .refl)⟩⟩
     ·rintro x18 _ h;skip;refine T.at (s' := ⟨[], [(0, sv s), (6, .ptr it6 0 0), (18, bv x18)], strL it6 s (pos + runeLen s pos) :: C⟩) rfl ?_;cases x18 with
      | true =>
       rw [if_pos rfl] at h;refine T.condT (fun a ha => ha.ev (.tmp 18) _ rfl) ?_;refine T.skip ?_;cases h;exact ⟨rfl, (), ⟨rfl, (keep_cons rfl (keep_cons rfl keep_nil)), (.pick (p := 0) rfl .refl)⟩⟩
      | false =>
       rw [if_neg Bool.false_ne_true] at h;refine T.condF (fun a ha => ha.ev (.tmp 18) _ rfl) ?_;refine T.seq ?_;refine T.text rfl ?_;refine TO.val rfl rfl rfl (Val.assign rfl) ?_;refine TO.nil ?_;refine T.ret ?_;cases h;exact ⟨ret_ne, ⟨ret_ne, ⟨rfl, _, rfl, ⟨(), rfl, (.drop .refl)⟩⟩⟩⟩
  | false =>
   replace hc7 := of_decide_eq_false hc7.symm;rw [if_neg hc7] at h;refine TO.eff rfl rfl rfl (Eff.next_end (p := 0) rfl rfl hc7) ?_;rintro _ _ ⟨rfl, rfl⟩;refine TO.things (hs' := strL it6 s pos :: C) rfl ?_;refine TO.val rfl rfl rfl (Val.extract rfl rfl) ?_;refine TO.nil ?_;refine T.seq ?_;refine T.condF (fun a ha => ha.ev (.tmp 8) _ rfl) ?_;refine T.exit ?_;cases h;exact ⟨ex_ne, ⟨rfl, (), ⟨rfl, (keep_cons rfl keep_nil), (.drop .refl)⟩⟩⟩
 ·rintro _ _ h;skip;refine T.at (s' := ⟨[], [(0, sv s)], C⟩) rfl ?_
  show T _ _ _ _ _ _;apply T.joinA (r := r) (W := Unit) (fun (j : Bool) (w : Unit) => ⟨[], [(2, bv j)], C⟩) h
  ·intro j h;refine T.text rfl ?_;refine TO.val rfl rfl rfl (Val.move rfl) ?_;obtain ⟨c34, hc34⟩ : ∃ c : Bool, c = decide (¬ s = ([] : Str)) := ⟨_, rfl⟩;refine TO.val rfl rfl rfl (Val.neq_str hc34 rfl rfl) ?_;refine TO.val rfl rfl rfl (Val.move rfl) ?_;cases c34 with
   | true =>
    replace hc34 := of_decide_eq_true hc34.symm;rw [if_pos hc34] at h;refine TO.val rfl rfl rfl (Val.move rfl) ?_;refine TO.val rfl rfl rfl (Val.len_str rfl rfl) ?_;obtain ⟨c38, hc38⟩ : ∃ c : Bool, c = decide ((s.length : Int) ≤ 16) := ⟨_, rfl⟩;refine TO.val rfl rfl rfl (Val.leq hc38 rfl rfl) ?_;refine TO.val rfl rfl rfl (Val.pick rfl rfl rfl) ?_;refine TO.val rfl rfl rfl (Val.assign rfl) ?_;refine TO.nil ?_;subst hc38;cases h;exact ⟨rfl, (), ⟨rfl, (keep_cons rfl keep_nil), .refl⟩⟩
   | false =>
    replace hc34 := of_decide_eq_false hc34.symm;rw [if_neg hc34] at h;refine TO.off rfl rfl rfl ?_;refine TO.off rfl rfl rfl ?_;refine TO.off rfl rfl rfl ?_;refine TO.val rfl rfl rfl (Val.pick rfl rfl rfl) ?_;refine TO.val rfl rfl rfl (Val.assign rfl) ?_;refine TO.nil ?_;cases h;exact ⟨rfl, (), ⟨rfl, (keep_cons rfl keep_nil), .refl⟩⟩
  ·rintro x2 _ h;skip;refine T.at (s' := ⟨[], [(2, bv x2)], C⟩) rfl ?_;refine T.ret ?_;cases h;exact ⟨rfl, _, rfl, ⟨(), rfl, .refl⟩⟩
set_option maxRecDepth 10000 in
theorem tf_s9_out {k : Nat} (hk : 0 ≤ k) {C : List Thing} {lo : Int} {hi : Int} {v_numbers : AV} {numbers : List Int} (h_numbers : Rdl C encI v_numbers numbers) {r : Bool} (h : P_s9_out lo hi numbers = some r) :
  TF (EL k) 62 [iv (lo), iv (hi), v_numbers] C (RepF (fun (w : Unit) => bv r) (fun (w : Unit) => C)) := by
 unfold P_s9_out at h;refine TF.enter (fn := Go.Proofs.Tryz.f62) rfl rfl rfl rfl rfl ?_;refine T.seq ?_;refine T.text rfl ?_;refine TO.box (k := 1) (cells := [_]) rfl rfl rfl rfl rfl rfl rfl (fun b3 => ?_);refine TO.box (k := 1) (cells := [_]) rfl rfl rfl rfl rfl rfl rfl (fun b4 => ?_);refine TO.val rfl rfl rfl (Val.assign rfl) ?_;refine TO.nil ?_;refine T.seq ?_;refine T.text rfl ?_;refine TO.val rfl rfl rfl (Val.move rfl) ?_;refine TO.val rfl rfl rfl (Val.makeFunc rfl rfl) ?_;refine TO.callIn rfl rfl rfl rfl rfl rfl (orcN rfl) ?_;refine TF.enter (fn := Go.Proofs.Tryz.f116) rfl rfl rfl rfl rfl ?_;refine T.seq ?_;refine T.text rfl ?_;refine TO.val rfl rfl rfl (Val.assign rfl) ?_;refine TO.nil ?_;refine T.seq ?_;refine T.text rfl ?_;refine TO.val rfl rfl rfl (Val.move rfl) ?_;refine TO.val rfl rfl rfl (Val.move rfl) ?_;refine TO.callJ (W := Unit) (fun (j : Int) (w : Unit) => iv (j)) (fun (j : Int) (w : Unit) => .row b4 1 [iv (hi)] :: .row b3 1 [iv (lo)] :: C) h rfl rfl rfl rfl rfl rfl (orcN rfl) ?_ ?_
 ·intro j h;refine TF.enter (fn := Go.Proofs.Tryz.f141) rfl rfl rfl rfl rfl ?_;refine T.seq ?_;refine T.text rfl ?_;refine TO.val rfl rfl rfl (Val.assign rfl) ?_;refine TO.nil ?_
  show T _ _ _ _ _ _;apply T.join (r := j) (W := Unit) (fun (j : Unit) (w : Unit) => ⟨[], [], .row b4 1 [iv (hi)] :: .row b3 1 [iv (lo)] :: C⟩) h
  ·intro j h;refine T.seq ?_;refine T.text rfl ?_;refine TO.val rfl rfl rfl (Val.move rfl) ?_;refine TO.val rfl rfl rfl (Val.len_l h_numbers (memS (memS (mem0))) rfl rfl) ?_;refine TO.val rfl rfl rfl (Val.move rfl) ?_;refine TO.nil ?_;refine T.block ?_
   show T _ _ _ _ _ _;apply T.iter (r := j) (W := Unit) (fun (j : Int) (w : Unit) => ⟨[], [(0, v_numbers), (1, .func 117 [] [.ptr b3 0 1, .ptr b4 0 1]), (7, iv ((numbers.length : Int))), (8, iv (j))], .row b4 1 [iv (hi)] :: .row b3 1 [iv (lo)] :: C⟩) (w0 := ()) h
   ·exact ⟨rfl, (keep_cons rfl (keep_cons rfl (keep_cons rfl (keep_cons rfl keep_nil)))), (.pick (p := 0) rfl (.pick (p := 0) rfl .refl))⟩
   rintro x8 _ a h;unfold P_s9_out_L1 at h;refine T.at (s' := ⟨[], [(0, v_numbers), (1, .func 117 [] [.ptr b3 0 1, .ptr b4 0 1]), (7, iv ((numbers.length : Int))), (8, iv (x8))], .row b4 1 [iv (hi)] :: .row b3 1 [iv (lo)] :: C⟩) rfl ?_;refine T.seq ?_;refine T.text rfl ?_;obtain ⟨c9, hc9⟩ : ∃ c : Bool, c = decide (x8 < (numbers.length : Int)) := ⟨_, rfl⟩;refine TO.val rfl rfl rfl (Val.lss hc9 rfl rfl) ?_;refine TO.nil ?_;refine T.seq ?_;cases c9 with
   | true =>
    replace hc9 := of_decide_eq_true hc9.symm;rw [if_pos hc9] at h;refine T.condT (fun a ha => ha.ev (.tmp 9) _ rfl) ?_;refine T.skip ?_;refine T.seq ?_;refine T.block ?_;refine T.seq ?_;refine T.text rfl ?_;refine TO.val rfl rfl rfl (Val.move rfl) ?_;refine TO.val rfl rfl rfl (Val.assign rfl) ?_;refine TO.nil ?_;refine T.seq ?_;refine T.text rfl ?_;refine TO.val rfl rfl rfl (Val.move rfl) ?_;refine TO.val rfl rfl rfl (Val.move rfl) ?_;refine TO.val rfl rfl rfl (Val.move rfl) ?_;obtain ⟨a14, hia14, ea14, h⟩ := el_some h;refine TO.fact (rdl_at h_numbers (memS (memS (mem0))) hia14 ea14) (fun hp => ?_);obtain ⟨pa14, hpa14, hva14⟩ := hp;refine TO.val rfl rfl rfl (hva14 ⟨rfl, rfl⟩ rfl rfl) ?_;refine TO.val rfl rfl rfl (Val.load_e hpa14 (memS (memS (mem0))) ⟨_, rfl, rfl⟩ rfl rfl) ?_;refine TO.callIn rfl rfl rfl rfl rfl rfl (orcN rfl) ?_;refine TF.enter (fn := Go.Proofs.Tryz.f117) rfl rfl rfl rfl rfl ?_;refine T.seq ?_;refine T.text rfl ?_;refine TO.val rfl rfl rfl (Val.assign rfl) ?_;refine TO.nil ?_
    show T _ _ _ _ _ _;apply T.joinA (r := a) (W := Unit) (fun (j : Bool) (w : Unit) => ⟨[], [(4, bv j)], .row b4 1 [iv (hi)] :: .row b3 1 [iv (lo)] :: C⟩) h
    ·intro j h;refine T.text rfl ?_;refine TO.val rfl rfl rfl (Val.move rfl) ?_;refine TO.val rfl rfl rfl (Val.load_row (p := 1) rfl ⟨_, rfl, rfl⟩ rfl rfl rfl) ?_;obtain ⟨c7, hc7⟩ : ∃ c : Bool, c = decide (a14 < lo) := ⟨_, rfl⟩;refine TO.val rfl rfl rfl (Val.lss hc7 rfl rfl) ?_;refine TO.val rfl rfl rfl (Val.move rfl) ?_;cases c7 with
     | true =>
      replace hc7 := of_decide_eq_true hc7.symm;rw [if_pos hc7] at h;refine TO.off rfl rfl rfl ?_;refine TO.off rfl rfl rfl ?_;refine TO.off rfl rfl rfl ?_;refine TO.val rfl rfl rfl (Val.pick rfl rfl rfl) ?_;refine TO.val rfl rfl rfl (Val.assign rfl) ?_;refine TO.nil ?_;cases h;exact ⟨rfl, (), ⟨rfl, (keep_cons rfl keep_nil), (.pick (p := 0) rfl (.pick (p := 0) rfl .refl))⟩⟩
     | false =>
      replace hc7 := of_decide_eq_false hc7.symm;rw [if_neg hc7] at h;refine TO.val rfl rfl rfl (Val.move rfl) ?_;refine TO.val rfl rfl rfl (Val.load_row (p := 0) rfl ⟨_, rfl, rfl⟩ rfl rfl rfl) ?_;obtain ⟨c11, hc11⟩ : ∃ c : Bool, c = decide (a14 > hi) := ⟨_, rfl⟩;refine TO.val rfl rfl rfl (Val.gtr hc11 rfl rfl) ?_;refine TO.val rfl rfl rfl (Val.pick rfl rfl rfl) ?_;refine TO.val rfl rfl rfl (Val.assign rfl) ?_;refine TO.nil ?_;subst hc11;cases h;exact ⟨rfl, (), ⟨rfl, (keep_cons rfl keep_nil), (.pick (p := 0) rfl (.pick (p := 0) rfl .refl))⟩⟩
    ·rintro x4 _ h;skip;refine T.at (s' := ⟨[], [(4, bv x4)], .row b4 1 [iv (hi)] :: .row b3 1 [iv (lo)] :: C⟩) rfl ?_;refine T.ret ?_;refine ⟨rfl, _, rfl, ?_⟩;refine TO.nil ?_;cases x4 with
     | true =>
      rw [if_pos rfl] at h;refine T.condT (fun a ha => ha.ev (.tmp 16) _ rfl) ?_;refine T.seq ?_;refine T.text rfl ?_;refine TO.val rfl rfl rfl (Val.move rfl) ?_;refine TO.val rfl rfl rfl (Val.assign rfl) ?_;refine TO.nil ?_;refine T.ret ?_;cases h;exact ⟨ret_ne, ⟨ret_ne, ⟨rfl, _, rfl, ⟨(), rfl, (.pick (p := 0) rfl (.pick (p := 0) rfl .refl))⟩⟩⟩⟩
     | false =>
      rw [if_neg Bool.false_ne_true] at h;refine T.condF (fun a ha => ha.ev (.tmp 16) _ rfl) ?_;refine T.skip ?_;refine T.text rfl ?_;obtain ⟨hk18, h⟩ := chk_some h;refine TO.val rfl rfl rfl (Val.add rfl rfl hk18) ?_;refine TO.val rfl rfl rfl (Val.move rfl) ?_;refine TO.nil ?_;cases h;exact ⟨rfl, (), ⟨rfl, (keep_cons rfl (keep_cons rfl (keep_cons rfl (keep_cons rfl keep_nil)))), (.pick (p := 0) rfl (.pick (p := 0) rfl .refl))⟩⟩
   | false =>
    replace hc9 := of_decide_eq_false hc9.symm;rw [if_neg hc9] at h;refine T.condF (fun a ha => ha.ev (.tmp 9) _ rfl) ?_;refine T.exit ?_;cases h;exact ⟨ex_ne, ⟨rfl, (), ⟨rfl, keep_nil, (.pick (p := 0) rfl (.pick (p := 0) rfl .refl))⟩⟩⟩
  ·rintro _ _ h;skip;refine T.at (s' := ⟨[], [], .row b4 1 [iv (hi)] :: .row b3 1 [iv (lo)] :: C⟩) rfl ?_;refine T.seq ?_;refine T.text rfl ?_;refine TO.val rfl rfl rfl (Val.assign rfl) ?_;refine TO.nil ?_;refine T.ret ?_;cases h;exact ⟨rfl, _, rfl, ⟨(), rfl, (.pick (p := 0) rfl (.pick (p := 0) rfl .refl))⟩⟩
 ·rintro y7 _ h;refine TO.things (hs' := .row b4 1 [iv (hi)] :: .row b3 1 [iv (lo)] :: C) rfl ?_;obtain ⟨c8, hc8⟩ : ∃ c : Bool, c = decide (y7 ≥ 0) := ⟨_, rfl⟩;refine TO.val rfl rfl rfl (Val.geq hc8 rfl rfl) ?_;refine TO.val rfl rfl rfl (Val.assign rfl) ?_;refine TO.nil ?_;refine T.ret ?_;refine ⟨rfl, _, rfl, ?_⟩;refine TO.val rfl rfl rfl (Val.assign rfl) ?_;refine TO.nil ?_;refine T.ret ?_;subst hc8;cases h;exact ⟨rfl, _, rfl, ⟨(), rfl, (.drop (.drop .refl))⟩⟩
set_option maxRecDepth 10000 in
theorem tf_s9_mark {k : Nat} (hk : 0 ≤ k) {C : List Thing} {v_r_SfRoom_Classes : AV} {r_SfRoom_Classes : List Str} {v_r_SfRoom_Shelves : AV} {r_SfRoom_Shelves : List S_api_SfShelf} {v_r_SfRoom_Books : AV} {r_SfRoom_Books : List S_api_SfBook} {m_Class : Int} {m_Number : Int} {m_Suffix : Str} (h_r_SfRoom_Classes : Rdl C encStr v_r_SfRoom_Classes r_SfRoom_Classes) (h_r_SfRoom_Shelves : Rdl C enc_api_SfShelf v_r_SfRoom_Shelves r_SfRoom_Shelves) (h_r_SfRoom_Books : Rdl C enc_api_SfBook v_r_SfRoom_Books r_SfRoom_Books) {r : Int} (h : P_s9_mark r_SfRoom_Classes r_SfRoom_Shelves r_SfRoom_Books m_Class m_Number m_Suffix = some r) :
  TF (EL k) 78 [.agg [v_r_SfRoom_Classes, v_r_SfRoom_Shelves, v_r_SfRoom_Books], .agg [iv (m_Class), iv (m_Number), sv m_Suffix]] C (RepF (fun (w : Unit) => iv r) (fun (w : Unit) => C)) := by
 unfold P_s9_mark at h;refine TF.enter (fn := Go.Proofs.Tryz.f78) rfl rfl rfl rfl rfl ?_;refine T.seq ?_;refine T.text rfl ?_;refine TO.box (k := 3) (cells := [_, _, _]) rfl rfl rfl rfl rfl rfl rfl (fun b2 => ?_);refine TO.box (k := 3) (cells := [_, _, _]) rfl rfl rfl rfl rfl rfl rfl (fun b3 => ?_);refine TO.val rfl rfl rfl (Val.assign rfl) ?_;refine TO.nil ?_;refine T.seq ?_;refine T.block ?_;refine T.seq ?_;refine T.text rfl ?_;refine TO.val rfl rfl rfl (Val.faddr_ptr (fo := 0) rfl rfl rfl) ?_;refine TO.val rfl rfl rfl (Val.faddr_ptr (fo := 0) rfl rfl rfl) ?_;refine TO.val rfl rfl rfl (Val.load_row (p := 1) rfl ⟨_, rfl, rfl⟩ rfl rfl rfl) ?_;refine TO.val rfl rfl rfl (Val.len_l h_r_SfRoom_Classes (memS (memS (mem0))) rfl rfl) ?_;obtain ⟨hk12, h⟩ := chk_some h;refine TO.val rfl rfl rfl (Val.sub rfl rfl hk12) ?_;refine TO.val rfl rfl rfl (Val.faddr_ptr (fo := 0) rfl rfl rfl) ?_;refine TO.val rfl rfl rfl (Val.load_row (p := 0) rfl ⟨_, rfl, rfl⟩ rfl rfl rfl) ?_;refine TO.build1 (en := encI) (a := m_Class) rfl rfl rfl ⟨rfl, rfl⟩ ⟨_, rfl, rfl⟩ (by decide) (by decide) rfl rfl (fun v15 => ?_);obtain ⟨y16, hr16, h⟩ := andx_some h;refine TO.callT (first := []) (cap := []) (vs := [iv (0), iv (((r_SfRoom_Classes.length : Int) - 1)), v15]) rfl rfl rfl rfl rfl rfl (orcN rfl) (tf_s9_out (by first | decide | omega) (Rdl.mono (Rdl.own (C := ownL false v15 encI [m_Class] :: .row b3 3 [iv (m_Class), iv (m_Number), sv m_Suffix] :: .row b2 3 [v_r_SfRoom_Classes, v_r_SfRoom_Shelves, v_r_SfRoom_Books] :: C) (p := 0) rfl) mem0) hr16) ?_;rintro _;refine TO.things (hs' := ownL false v15 encI [m_Class] :: .row b3 3 [iv (m_Class), iv (m_Number), sv m_Suffix] :: .row b2 3 [v_r_SfRoom_Classes, v_r_SfRoom_Shelves, v_r_SfRoom_Books] :: C) rfl ?_;refine TO.val rfl rfl rfl (Val.assign rfl) ?_;refine TO.nil ?_;cases y16 with
 | true =>
  rw [if_pos rfl] at h;refine T.condT (fun a ha => ha.ev (.tmp 7) _ rfl) ?_;refine T.seq ?_;refine T.text rfl ?_;refine TO.val rfl rfl rfl (Val.assign rfl) ?_;refine TO.nil ?_;refine T.ret ?_;cases h;exact ⟨rfl, _, rfl, ⟨(), rfl, (.drop (.drop (.drop .refl)))⟩⟩
 | false =>
  rw [if_neg Bool.false_ne_true] at h;refine T.condF (fun a ha => ha.ev (.tmp 7) _ rfl) ?_;refine T.seq ?_;refine T.text rfl ?_;refine TO.val rfl rfl rfl (Val.faddr_ptr (fo := 1) rfl rfl rfl) ?_;refine TO.val rfl rfl rfl (Val.load_row (p := 1) rfl ⟨_, rfl, rfl⟩ rfl rfl rfl) ?_;refine TO.build1 (en := encI) (a := m_Number) rfl rfl rfl ⟨rfl, rfl⟩ ⟨_, rfl, rfl⟩ (by decide) (by decide) rfl rfl (fun v20 => ?_);obtain ⟨y21, hr21, h⟩ := andx_some h;refine TO.callT (first := []) (cap := []) (vs := [iv (1), iv (9999), v20]) rfl rfl rfl rfl rfl rfl (orcN rfl) (tf_s9_out (by first | decide | omega) (Rdl.mono (Rdl.own (C := ownL false v20 encI [m_Number] :: ownL false v15 encI [m_Class] :: .row b3 3 [iv (m_Class), iv (m_Number), sv m_Suffix] :: .row b2 3 [v_r_SfRoom_Classes, v_r_SfRoom_Shelves, v_r_SfRoom_Books] :: C) (p := 0) rfl) mem0) hr21) ?_;rintro _;refine TO.things (hs' := ownL false v20 encI [m_Number] :: ownL false v15 encI [m_Class] :: .row b3 3 [iv (m_Class), iv (m_Number), sv m_Suffix] :: .row b2 3 [v_r_SfRoom_Classes, v_r_SfRoom_Shelves, v_r_SfRoom_Books] :: C) rfl ?_;refine TO.val rfl rfl rfl (Val.assign rfl) ?_;refine TO.nil ?_;cases y21 with
  | true =>
   rw [if_pos rfl] at h;refine T.condT (fun a ha => ha.ev (.tmp 17) _ rfl) ?_;refine T.seq ?_;refine T.text rfl ?_;refine TO.val rfl rfl rfl (Val.assign rfl) ?_;refine TO.nil ?_;refine T.ret ?_;cases h;exact ⟨rfl, _, rfl, ⟨(), rfl, (.drop (.drop (.drop (.drop .refl))))⟩⟩
  | false =>
   rw [if_neg Bool.false_ne_true] at h;refine T.condF (fun a ha => ha.ev (.tmp 17) _ rfl) ?_;refine T.seq ?_;refine T.text rfl ?_;refine TO.val rfl rfl rfl (Val.faddr_ptr (fo := 2) rfl rfl rfl) ?_;refine TO.val rfl rfl rfl (Val.load_row (p := 2) rfl ⟨_, rfl, rfl⟩ rfl rfl rfl) ?_;refine TO.val rfl rfl rfl (Val.len_str rfl rfl) ?_;obtain ⟨c26, hc26⟩ : ∃ c : Bool, c = decide ((m_Suffix.length : Int) > 2) := ⟨_, rfl⟩;refine TO.val rfl rfl rfl (Val.gtr hc26 rfl rfl) ?_;refine TO.val rfl rfl rfl (Val.assign rfl) ?_;refine TO.nil ?_;cases c26 with
   | true =>
    replace hc26 := of_decide_eq_true hc26.symm;rw [if_pos hc26] at h;refine T.condT (fun a ha => ha.ev (.tmp 22) _ rfl) ?_;refine T.seq ?_;refine T.text rfl ?_;refine TO.val rfl rfl rfl (Val.assign rfl) ?_;refine TO.nil ?_;refine T.ret ?_;cases h;exact ⟨rfl, _, rfl, ⟨(), rfl, (.drop (.drop (.drop (.drop .refl))))⟩⟩
   | false =>
    replace hc26 := of_decide_eq_false hc26.symm;rw [if_neg hc26] at h;refine T.condF (fun a ha => ha.ev (.tmp 22) _ rfl) ?_;refine T.skip ?_
    show T _ _ _ _ _ _;apply T.join (r := r) (W := Unit) (fun (j : Unit) (w : Unit) => ⟨[], [], C⟩) h
    ·intro j h;refine T.seq ?_;refine T.text rfl ?_;refine TO.val rfl rfl rfl (Val.faddr_ptr (fo := 2) rfl rfl rfl) ?_;refine TO.val rfl rfl rfl (Val.load_row (p := 2) rfl ⟨_, rfl, rfl⟩ rfl rfl rfl) ?_;refine TO.eff rfl rfl rfl (Eff.range_str rfl rfl) ?_;rintro _ _ ⟨it29, rfl, rfl⟩;refine TO.nil ?_;refine T.block ?_
     show T _ _ _ _ _ _;apply T.iter (r := j) (W := Unit) (fun (j : Nat) (w : Unit) => ⟨[], [(29, .ptr it29 0 0)], strL it29 m_Suffix j :: C⟩) (w0 := ()) h
     ·exact ⟨rfl, (keep_cons rfl keep_nil), (.pick (p := 0) rfl (.drop (.drop (.drop (.drop .refl)))))⟩
     rintro pos _ a h;unfold P_s9_mark_L1 at h;refine T.at (s' := ⟨[], [(29, .ptr it29 0 0)], strL it29 m_Suffix pos :: C⟩) rfl ?_;refine T.seq ?_;refine T.text rfl ?_;obtain ⟨c30, hc30⟩ : ∃ c : Bool, c = decide (pos < m_Suffix.length) := ⟨_, rfl⟩;cases c30 with
     | true =>
      replace hc30 := of_decide_eq_true hc30.symm;rw [if_pos hc30] at h;refine TO.eff rfl rfl rfl (Eff.next_str (p := 0) rfl rfl hc30) ?_;rintro _ _ ⟨rfl, rfl⟩;refine TO.things (hs' := strL it29 m_Suffix (pos + runeLen m_Suffix pos) :: C) rfl ?_;refine TO.val rfl rfl rfl (Val.extract rfl rfl) ?_;refine TO.nil ?_;refine T.seq ?_;refine T.condT (fun a ha => ha.ev (.tmp 31) _ rfl) ?_;refine T.skip ?_;refine T.block ?_;refine T.seq ?_;refine T.text rfl ?_;refine TO.val rfl rfl rfl (Val.extract rfl rfl) ?_;refine TO.val rfl rfl rfl (Val.assign rfl) ?_;refine TO.nil ?_
      show T _ _ _ _ _ _;apply T.joinA (r := a) (W := Unit) (fun (j : Bool) (w : Unit) => ⟨[], [(29, .ptr it29 0 0), (38, bv j)], strL it29 m_Suffix (pos + runeLen m_Suffix pos) :: C⟩) h
      ·intro j h;refine T.text rfl ?_;refine TO.val rfl rfl rfl (Val.move rfl) ?_;obtain ⟨c34, hc34⟩ : ∃ c : Bool, c = decide ((runeAt m_Suffix pos) < 97) := ⟨_, rfl⟩;refine TO.val rfl rfl rfl (Val.lssK hc34 rfl rfl) ?_;refine TO.val rfl rfl rfl (Val.move rfl) ?_;cases c34 with
       | true =>
        replace hc34 := of_decide_eq_true hc34.symm;rw [if_pos hc34] at h;refine TO.off rfl rfl rfl ?_;refine TO.off rfl rfl rfl ?_;refine TO.val rfl rfl rfl (Val.pick rfl rfl rfl) ?_;refine TO.nil ?_;cases h;exact ⟨rfl, (), ⟨rfl, (keep_cons rfl (keep_cons rfl keep_nil)), (.pick (p := 0) rfl .refl)⟩⟩
       | false =>
        replace hc34 := of_decide_eq_false hc34.symm;rw [if_neg hc34] at h;refine TO.val rfl rfl rfl (Val.move rfl) ?_;obtain ⟨c37, hc37⟩ : ∃ c : Bool, c = decide ((runeAt m_Suffix pos) > 122) := ⟨_, rfl⟩;refine TO.val rfl rfl rfl (Val.gtrK hc37 rfl rfl) ?_;refine TO.val rfl rfl rfl (Val.pick rfl rfl rfl) ?_;refine TO.nil ?_;subst hc37;cases h;exact ⟨rfl, (), ⟨rfl, (keep_cons rfl (keep_cons rfl keep_nil)), (.pick (p := 0) rfl .refl)⟩⟩
      ·rintro x38 _ h;skip;refine T.at (s' := ⟨[], [(29, .ptr it29 0 0), (38, bv x38)], strL it29 m_Suffix (pos + runeLen m_Suffix pos) :: C⟩) rfl ?_;cases x38 with
       | true =>
        rw [if_pos rfl] at h;refine T.condT (fun a ha => ha.ev (.tmp 38) _ rfl) ?_;refine T.seq ?_;refine T.text rfl ?_;refine TO.val rfl rfl rfl (Val.assign rfl) ?_;refine TO.nil ?_;refine T.ret ?_;cases h;exact ⟨ret_ne, ⟨ret_ne, ⟨rfl, _, rfl, ⟨(), rfl, (.drop .refl)⟩⟩⟩⟩
       | false =>
        rw [if_neg Bool.false_ne_true] at h;refine T.condF (fun a ha => ha.ev (.tmp 38) _ rfl) ?_;refine T.skip ?_;cases h;exact ⟨rfl, (), ⟨rfl, (keep_cons rfl keep_nil), (.pick (p := 0) rfl .refl)⟩⟩
     | false =>
      replace hc30 := of_decide_eq_false hc30.symm;rw [if_neg hc30] at h;refine TO.eff rfl rfl rfl (Eff.next_end (p := 0) rfl rfl hc30) ?_;rintro _ _ ⟨rfl, rfl⟩;refine TO.things (hs' := strL it29 m_Suffix pos :: C) rfl ?_;refine TO.val rfl rfl rfl (Val.extract rfl rfl) ?_;refine TO.nil ?_;refine T.seq ?_;refine T.condF (fun a ha => ha.ev (.tmp 31) _ rfl) ?_;refine T.exit ?_;cases h;exact ⟨ex_ne, ⟨rfl, (), ⟨rfl, keep_nil, (.drop .refl)⟩⟩⟩
    ·rintro _ _ h;skip;refine T.at (s' := ⟨[], [], C⟩) rfl ?_;refine T.seq ?_;refine T.text rfl ?_;refine TO.val rfl rfl rfl (Val.assign rfl) ?_;refine TO.nil ?_;refine T.ret ?_;cases h;exact ⟨rfl, _, rfl, ⟨(), rfl, .refl⟩⟩
set_option maxRecDepth 10000 in
theorem tf_s9_book {k : Nat} (hk : 0 ≤ k) {C : List Thing} {v_r_SfRoom_Classes : AV} {r_SfRoom_Classes : List Str} {v_r_SfRoom_Shelves : AV} {r_SfRoom_Shelves : List S_api_SfShelf} {v_r_SfRoom_Books : AV} {r_SfRoom_Books : List S_api_SfBook} {b_Mark_Class : Int} {b_Mark_Number : Int} {b_Mark_Suffix : Str} {b_Wide : Int} {b_High : Int} {b_Heavy : Int} {b_Shelf : Int} {v_others : AV} {others : List S_api_SfBook} (h_r_SfRoom_Classes : Rdl C encStr v_r_SfRoom_Classes r_SfRoom_Classes) (h_r_SfRoom_Shelves : Rdl C enc_api_SfShelf v_r_SfRoom_Shelves r_SfRoom_Shelves) (h_r_SfRoom_Books : Rdl C enc_api_SfBook v_r_SfRoom_Books r_SfRoom_Books) (h_others : Rdl C enc_api_SfBook v_others others) {r : Int} (h : P_s9_book r_SfRoom_Classes r_SfRoom_Shelves r_SfRoom_Books b_Mark_Class b_Mark_Number b_Mark_Suffix b_Wide b_High b_Heavy b_Shelf others = some r) :
  TF (EL k) 71 [.agg [v_r_SfRoom_Classes, v_r_SfRoom_Shelves, v_r_SfRoom_Books], .agg [iv (b_Mark_Class), iv (b_Mark_Number), sv b_Mark_Suffix, iv (b_Wide), iv (b_High), iv (b_Heavy), iv (b_Shelf)], v_others] C (RepF (fun (w : Unit) => iv r) (fun (w : Unit) => C)) := by
 unfold P_s9_book at h;refine TF.enter (fn := Go.Proofs.Tryz.f71) rfl rfl rfl rfl rfl ?_;refine T.seq ?_;refine T.text rfl ?_;refine TO.box (k := 3) (cells := [_, _, _]) rfl rfl rfl rfl rfl rfl rfl (fun b3 => ?_);refine TO.box (k := 7) (cells := [_, _, _, _, _, _, _]) rfl rfl rfl rfl rfl rfl rfl (fun b4 => ?_);refine TO.val rfl rfl rfl (Val.assign rfl) ?_;refine TO.nil ?_;refine T.seq ?_;refine T.seq ?_;refine T.text rfl ?_;refine TO.val rfl rfl rfl (Val.load_rows (p := 1) (c := [_, _, _]) rfl ⟨⟨_, rfl, rfl⟩, rfl, by decide⟩ rfl rfl rfl rfl) ?_;refine TO.val rfl rfl rfl (Val.faddr_ptr (fo := 0) rfl rfl rfl) ?_;refine TO.val rfl rfl rfl (Val.load_rows (p := 0) (c := [_, _, _]) rfl ⟨⟨_, rfl, rfl⟩, rfl, by decide⟩ rfl rfl rfl rfl) ?_;obtain ⟨y11, hr11, h⟩ := andx_some h;refine TO.callT (first := []) (cap := []) (vs := [.agg [v_r_SfRoom_Classes, v_r_SfRoom_Shelves, v_r_SfRoom_Books], .agg [iv (b_Mark_Class), iv (b_Mark_Number), sv b_Mark_Suffix]]) rfl rfl rfl rfl rfl rfl (orcN rfl) (tf_s9_mark (by first | decide | omega) (Rdl.mono h_r_SfRoom_Classes (memS (memS (mem0)))) (Rdl.mono h_r_SfRoom_Shelves (memS (memS (mem0)))) (Rdl.mono h_r_SfRoom_Books (memS (memS (mem0)))) hr11) ?_;rintro _;refine TO.things (hs' := .row b4 7 [iv (b_Mark_Class), iv (b_Mark_Number), sv b_Mark_Suffix, iv (b_Wide), iv (b_High), iv (b_Heavy), iv (b_Shelf)] :: .row b3 3 [v_r_SfRoom_Classes, v_r_SfRoom_Shelves, v_r_SfRoom_Books] :: C) rfl ?_;refine TO.val rfl rfl rfl (Val.assign rfl) ?_;refine TO.nil ?_;refine T.seq ?_;refine T.text rfl ?_;refine TO.val rfl rfl rfl (Val.move rfl) ?_;obtain ⟨c13, hc13⟩ : ∃ c : Bool, c = decide (¬ y11 = 0) := ⟨_, rfl⟩;refine TO.val rfl rfl rfl (Val.neq hc13 rfl rfl) ?_;refine TO.nil ?_;cases c13 with
 | true =>
  replace hc13 := of_decide_eq_true hc13.symm;rw [if_pos hc13] at h;refine T.condT (fun a ha => ha.ev (.tmp 13) _ rfl) ?_;refine T.seq ?_;refine T.text rfl ?_;refine TO.val rfl rfl rfl (Val.move rfl) ?_;refine TO.val rfl rfl rfl (Val.assign rfl) ?_;refine TO.nil ?_;refine T.ret ?_;cases h;exact ⟨rfl, _, rfl, ⟨(), rfl, (.drop (.drop .refl))⟩⟩
 | false =>
  replace hc13 := of_decide_eq_false hc13.symm;rw [if_neg hc13] at h;refine T.condF (fun a ha => ha.ev (.tmp 13) _ rfl) ?_;refine T.skip ?_
  show T _ _ _ _ _ _;apply T.join (r := r) (W := Unit) (fun (j : Unit) (w : Unit) => ⟨[], [], .row b4 7 [iv (b_Mark_Class), iv (b_Mark_Number), sv b_Mark_Suffix, iv (b_Wide), iv (b_High), iv (b_Heavy), iv (b_Shelf)] :: C⟩) h
  ·intro j h;refine T.block ?_
   show T _ _ _ _ _ _;apply T.joinA (r := j) (W := Unit) (fun (j : Bool) (w : Unit) => ⟨[], [(2, v_others), (4, .ptr b4 0 7), (15, bv j)], .row b4 7 [iv (b_Mark_Class), iv (b_Mark_Number), sv b_Mark_Suffix, iv (b_Wide), iv (b_High), iv (b_Heavy), iv (b_Shelf)] :: .row b3 3 [v_r_SfRoom_Classes, v_r_SfRoom_Shelves, v_r_SfRoom_Books] :: C⟩) h
   ·intro j h;refine T.text rfl ?_;refine TO.val rfl rfl rfl (Val.faddr_ptr (fo := 3) rfl rfl rfl) ?_;refine TO.val rfl rfl rfl (Val.load_row (p := 0) rfl ⟨_, rfl, rfl⟩ rfl rfl rfl) ?_;refine TO.val rfl rfl rfl (Val.faddr_ptr (fo := 4) rfl rfl rfl) ?_;refine TO.val rfl rfl rfl (Val.load_row (p := 0) rfl ⟨_, rfl, rfl⟩ rfl rfl rfl) ?_;refine TO.eff rfl rfl rfl (Eff.new (New.buildSlice (en := encI) (l := [b_Wide, b_High]) (vs := [(_, _), (_, _)]) (ws := [(_, [_]), (_, [_])]) ⟨rfl, rfl⟩ rfl rfl rfl rfl (CellsL.cons rfl (CellsL.cons rfl CellsL.nil)) rfl rfl)) ?_;rintro _ _ ⟨v20, rfl, rfl⟩;refine TO.less (Less.rowOwn (en := encI) (l := [b_Wide, b_High]) (p := 0) rfl) ?_;refine TO.things (hs' := ownL false (.slice v20 0 (List.flatMap encI.f [b_Wide, b_High]).length true (List.length [b_Wide, b_High]) (List.length [b_Wide, b_High])) encI [b_Wide, b_High] :: .row b4 7 [iv (b_Mark_Class), iv (b_Mark_Number), sv b_Mark_Suffix, iv (b_Wide), iv (b_High), iv (b_Heavy), iv (b_Shelf)] :: .row b3 3 [v_r_SfRoom_Classes, v_r_SfRoom_Shelves, v_r_SfRoom_Books] :: C) rfl ?_;obtain ⟨y21, hr21, h⟩ := andx_some h;refine TO.callT (first := []) (cap := []) (vs := [iv (1), iv (2000), (.slice v20 0 (List.flatMap encI.f [b_Wide, b_High]).length true (List.length [b_Wide, b_High]) (List.length [b_Wide, b_High]))]) rfl rfl rfl rfl rfl rfl (orcN rfl) (tf_s9_out (by first | decide | omega) (Rdl.mono (Rdl.own (C := ownL false (.slice v20 0 (List.flatMap encI.f [b_Wide, b_High]).length true (List.length [b_Wide, b_High]) (List.length [b_Wide, b_High])) encI [b_Wide, b_High] :: .row b4 7 [iv (b_Mark_Class), iv (b_Mark_Number), sv b_Mark_Suffix, iv (b_Wide), iv (b_High), iv (b_Heavy), iv (b_Shelf)] :: .row b3 3 [v_r_SfRoom_Classes, v_r_SfRoom_Shelves, v_r_SfRoom_Books] :: C) (p := 0) rfl) mem0) hr21) ?_;rintro _;refine TO.things (hs' := ownL false (.slice v20 0 (List.flatMap encI.f [b_Wide, b_High]).length true (List.length [b_Wide, b_High]) (List.length [b_Wide, b_High])) encI [b_Wide, b_High] :: .row b4 7 [iv (b_Mark_Class), iv (b_Mark_Number), sv b_Mark_Suffix, iv (b_Wide), iv (b_High), iv (b_Heavy), iv (b_Shelf)] :: .row b3 3 [v_r_SfRoom_Classes, v_r_SfRoom_Shelves, v_r_SfRoom_Books] :: C) rfl ?_;refine TO.val rfl rfl rfl (Val.move rfl) ?_;cases y21 with
    | true =>
     rw [if_pos rfl] at h;refine TO.off rfl rfl rfl ?_;refine TO.off rfl rfl rfl ?_;refine TO.off rfl rfl rfl ?_;refine TO.off rfl rfl rfl ?_;refine TO.val rfl rfl rfl (Val.pick rfl rfl rfl) ?_;refine TO.val rfl rfl rfl (Val.assign rfl) ?_;refine TO.nil ?_;cases h;exact ⟨rfl, (), ⟨rfl, (keep_cons rfl (keep_cons rfl (keep_cons rfl keep_nil))), (.pick (p := 1) rfl (.pick (p := 1) rfl (.drop .refl)))⟩⟩
    | false =>
     rw [if_neg Bool.false_ne_true] at h;refine TO.val rfl rfl rfl (Val.faddr_ptr (fo := 5) rfl rfl rfl) ?_;refine TO.val rfl rfl rfl (Val.load_row (p := 1) rfl ⟨_, rfl, rfl⟩ rfl rfl rfl) ?_;refine TO.build1 (en := encI) (a := b_Heavy) rfl rfl rfl ⟨rfl, rfl⟩ ⟨_, rfl, rfl⟩ (by decide) (by decide) rfl rfl (fun v25 => ?_);obtain ⟨y26, hr26, h⟩ := andx_some h;refine TO.callT (first := []) (cap := []) (vs := [iv (1), iv (100), v25]) rfl rfl rfl rfl rfl rfl (orcN rfl) (tf_s9_out (by first | decide | omega) (Rdl.mono (Rdl.own (C := ownL false v25 encI [b_Heavy] :: ownL false (.slice v20 0 (List.flatMap encI.f [b_Wide, b_High]).length true (List.length [b_Wide, b_High]) (List.length [b_Wide, b_High])) encI [b_Wide, b_High] :: .row b4 7 [iv (b_Mark_Class), iv (b_Mark_Number), sv b_Mark_Suffix, iv (b_Wide), iv (b_High), iv (b_Heavy), iv (b_Shelf)] :: .row b3 3 [v_r_SfRoom_Classes, v_r_SfRoom_Shelves, v_r_SfRoom_Books] :: C) (p := 0) rfl) mem0) hr26) ?_;rintro _;refine TO.things (hs' := ownL false v25 encI [b_Heavy] :: ownL false (.slice v20 0 (List.flatMap encI.f [b_Wide, b_High]).length true (List.length [b_Wide, b_High]) (List.length [b_Wide, b_High])) encI [b_Wide, b_High] :: .row b4 7 [iv (b_Mark_Class), iv (b_Mark_Number), sv b_Mark_Suffix, iv (b_Wide), iv (b_High), iv (b_Heavy), iv (b_Shelf)] :: .row b3 3 [v_r_SfRoom_Classes, v_r_SfRoom_Shelves, v_r_SfRoom_Books] :: C) rfl ?_;refine TO.val rfl rfl rfl (Val.pick rfl rfl rfl) ?_;refine TO.val rfl rfl rfl (Val.assign rfl) ?_;refine TO.nil ?_;cases h;exact ⟨rfl, (), ⟨rfl, (keep_cons rfl (keep_cons rfl (keep_cons rfl keep_nil))), (.pick (p := 2) rfl (.pick (p := 2) rfl (.drop (.drop .refl))))⟩⟩
   ·rintro x15 _ h;skip;refine T.at (s' := ⟨[], [(2, v_others), (4, .ptr b4 0 7), (15, bv x15)], .row b4 7 [iv (b_Mark_Class), iv (b_Mark_Number), sv b_Mark_Suffix, iv (b_Wide), iv (b_High), iv (b_Heavy), iv (b_Shelf)] :: .row b3 3 [v_r_SfRoom_Classes, v_r_SfRoom_Shelves, v_r_SfRoom_Books] :: C⟩) rfl ?_;cases x15 with
    | true =>
     rw [if_pos rfl] at h;refine T.condT (fun a ha => ha.ev (.tmp 15) _ rfl) ?_;refine T.seq ?_;refine T.text rfl ?_;refine TO.val rfl rfl rfl (Val.assign rfl) ?_;refine TO.nil ?_;refine T.ret ?_;cases h;exact ⟨ret_ne, ⟨rfl, _, rfl, ⟨(), rfl, (.drop (.drop .refl))⟩⟩⟩
    | false =>
     rw [if_neg Bool.false_ne_true] at h;refine T.condF (fun a ha => ha.ev (.tmp 15) _ rfl) ?_;refine T.seq ?_;refine T.text rfl ?_;refine TO.val rfl rfl rfl (Val.move rfl) ?_;refine TO.val rfl rfl rfl (Val.makeFunc rfl rfl) ?_;refine TO.callIn rfl rfl rfl rfl rfl rfl (orcN rfl) ?_;refine TF.enter (fn := Go.Proofs.Tryz.f118) rfl rfl rfl rfl rfl ?_;refine T.seq ?_;refine T.text rfl ?_;refine TO.val rfl rfl rfl (Val.assign rfl) ?_;refine TO.nil ?_;refine T.seq ?_;refine T.text rfl ?_;refine TO.val rfl rfl rfl (Val.move rfl) ?_;refine TO.val rfl rfl rfl (Val.move rfl) ?_;refine TO.callJ (W := Unit) (fun (j : Int) (w : Unit) => iv (j)) (fun (j : Int) (w : Unit) => .row b4 7 [iv (b_Mark_Class), iv (b_Mark_Number), sv b_Mark_Suffix, iv (b_Wide), iv (b_High), iv (b_Heavy), iv (b_Shelf)] :: C) h rfl rfl rfl rfl rfl rfl (orcN rfl) ?_ ?_
     ·intro j h;refine TF.enter (fn := Go.Proofs.Tryz.f142) rfl rfl rfl rfl rfl ?_;refine T.seq ?_;refine T.text rfl ?_;refine TO.val rfl rfl rfl (Val.assign rfl) ?_;refine TO.nil ?_
      show T _ _ _ _ _ _;apply T.join (r := j) (W := Unit) (fun (j : Unit) (w : Unit) => ⟨[], [], .row b4 7 [iv (b_Mark_Class), iv (b_Mark_Number), sv b_Mark_Suffix, iv (b_Wide), iv (b_High), iv (b_Heavy), iv (b_Shelf)] :: C⟩) h
      ·intro j h;refine T.seq ?_;refine T.text rfl ?_;refine TO.val rfl rfl rfl (Val.move rfl) ?_;refine TO.val rfl rfl rfl (Val.len_l h_others (memS (memS (mem0))) rfl rfl) ?_;refine TO.val rfl rfl rfl (Val.move rfl) ?_;refine TO.nil ?_;refine T.block ?_
       show T _ _ _ _ _ _;apply T.iter (r := j) (W := Unit) (fun (j : Int) (w : Unit) => ⟨[], [(0, v_others), (1, .func 119 [] [.ptr b4 0 7]), (7, iv ((others.length : Int))), (8, iv (j))], .row b4 7 [iv (b_Mark_Class), iv (b_Mark_Number), sv b_Mark_Suffix, iv (b_Wide), iv (b_High), iv (b_Heavy), iv (b_Shelf)] :: C⟩) (w0 := ()) h
       ·exact ⟨rfl, (keep_cons rfl (keep_cons rfl (keep_cons rfl (keep_cons rfl keep_nil)))), (.pick (p := 0) rfl (.drop .refl))⟩
       rintro x8 _ a h;unfold P_s9_book_L1 at h;refine T.at (s' := ⟨[], [(0, v_others), (1, .func 119 [] [.ptr b4 0 7]), (7, iv ((others.length : Int))), (8, iv (x8))], .row b4 7 [iv (b_Mark_Class), iv (b_Mark_Number), sv b_Mark_Suffix, iv (b_Wide), iv (b_High), iv (b_Heavy), iv (b_Shelf)] :: C⟩) rfl ?_;refine T.seq ?_;refine T.text rfl ?_;obtain ⟨c9, hc9⟩ : ∃ c : Bool, c = decide (x8 < (others.length : Int)) := ⟨_, rfl⟩;refine TO.val rfl rfl rfl (Val.lss hc9 rfl rfl) ?_;refine TO.nil ?_;refine T.seq ?_;cases c9 with
       | true =>
        replace hc9 := of_decide_eq_true hc9.symm;rw [if_pos hc9] at h;refine T.condT (fun a ha => ha.ev (.tmp 9) _ rfl) ?_;refine T.skip ?_;refine T.seq ?_;refine T.block ?_;refine T.seq ?_;refine T.text rfl ?_;refine TO.val rfl rfl rfl (Val.move rfl) ?_;refine TO.val rfl rfl rfl (Val.assign rfl) ?_;refine TO.nil ?_;refine T.seq ?_;refine T.text rfl ?_;refine TO.val rfl rfl rfl (Val.move rfl) ?_;refine TO.val rfl rfl rfl (Val.move rfl) ?_;refine TO.val rfl rfl rfl (Val.move rfl) ?_;obtain ⟨a14, hia14, ea14, h⟩ := el_some h;refine TO.fact (rdl_at h_others (memS (mem0)) hia14 ea14) (fun hp => ?_);obtain ⟨pa14, hpa14, hva14⟩ := hp;refine TO.val rfl rfl rfl (hva14 ⟨rfl, rfl⟩ rfl rfl) ?_;refine TO.val rfl rfl rfl (Val.load_es (c := [_, _, _, _, _, _, _]) hpa14 (memS (mem0)) ⟨⟨_, rfl, rfl⟩, rfl, by decide⟩ rfl rfl rfl) ?_;refine TO.callIn rfl rfl rfl rfl rfl rfl (orcN rfl) ?_;refine TF.enter (fn := Go.Proofs.Tryz.f119) rfl rfl rfl rfl rfl ?_;refine T.seq ?_;refine T.text rfl ?_;refine TO.box (k := 7) (cells := [_, _, _, _, _, _, _]) rfl rfl rfl rfl rfl rfl rfl (fun b2 => ?_);refine TO.val rfl rfl rfl (Val.assign rfl) ?_;refine TO.nil ?_;refine T.seq ?_;refine T.text rfl ?_;refine TO.val rfl rfl rfl (Val.faddr_ptr (fo := 0) rfl rfl rfl) ?_;refine TO.val rfl rfl rfl (Val.load_rows (p := 0) (c := [_, _, _]) rfl ⟨⟨_, rfl, rfl⟩, rfl, by decide⟩ rfl rfl rfl rfl) ?_;refine TO.val rfl rfl rfl (Val.faddr_ptr (fo := 0) rfl rfl rfl) ?_;refine TO.val rfl rfl rfl (Val.load_rows (p := 1) (c := [_, _, _]) rfl ⟨⟨_, rfl, rfl⟩, rfl, by decide⟩ rfl rfl rfl rfl) ?_;obtain ⟨c8, hc8⟩ : ∃ c : Bool, c = decide (a14.mark_class = b_Mark_Class ∧ a14.mark_number = b_Mark_Number ∧ a14.mark_suffix = b_Mark_Suffix) := ⟨_, rfl⟩;refine TO.val rfl rfl rfl (Val.binD hc8 rfl rfl (eql_ty28 _ _ _ _ _ _ _ _)) ?_;refine TO.val rfl rfl rfl (Val.assign rfl) ?_;refine TO.nil ?_;refine T.ret ?_;refine ⟨rfl, _, rfl, ?_⟩;refine TO.nil ?_;cases c8 with
        | true =>
         replace hc8 := of_decide_eq_true hc8.symm;rw [if_pos hc8] at h;refine T.condT (fun a ha => ha.ev (.tmp 16) _ rfl) ?_;refine T.seq ?_;refine T.text rfl ?_;refine TO.val rfl rfl rfl (Val.move rfl) ?_;refine TO.val rfl rfl rfl (Val.assign rfl) ?_;refine TO.nil ?_;refine T.ret ?_;cases h;exact ⟨ret_ne, ⟨ret_ne, ⟨rfl, _, rfl, ⟨(), rfl, (.pick (p := 1) rfl (.drop .refl))⟩⟩⟩⟩
        | false =>
         replace hc8 := of_decide_eq_false hc8.symm;rw [if_neg hc8] at h;refine T.condF (fun a ha => ha.ev (.tmp 16) _ rfl) ?_;refine T.skip ?_;refine T.text rfl ?_;obtain ⟨hk18, h⟩ := chk_some h;refine TO.val rfl rfl rfl (Val.add rfl rfl hk18) ?_;refine TO.val rfl rfl rfl (Val.move rfl) ?_;refine TO.nil ?_;cases h;exact ⟨rfl, (), ⟨rfl, (keep_cons rfl (keep_cons rfl (keep_cons rfl (keep_cons rfl keep_nil)))), (.pick (p := 1) rfl (.drop .refl))⟩⟩
       | false =>
        replace hc9 := of_decide_eq_false hc9.symm;rw [if_neg hc9] at h;refine T.condF (fun a ha => ha.ev (.tmp 9) _ rfl) ?_;refine T.exit ?_;cases h;exact ⟨ex_ne, ⟨rfl, (), ⟨rfl, keep_nil, (.pick (p := 0) rfl .refl)⟩⟩⟩
      ·rintro _ _ h;skip;refine T.at (s' := ⟨[], [], .row b4 7 [iv (b_Mark_Class), iv (b_Mark_Number), sv b_Mark_Suffix, iv (b_Wide), iv (b_High), iv (b_Heavy), iv (b_Shelf)] :: C⟩) rfl ?_;refine T.seq ?_;refine T.text rfl ?_;refine TO.val rfl rfl rfl (Val.assign rfl) ?_;refine TO.nil ?_;refine T.ret ?_;cases h;exact ⟨rfl, _, rfl, ⟨(), rfl, (.pick (p := 0) rfl .refl)⟩⟩
     ·rintro y7 _ h;refine TO.things (hs' := .row b4 7 [iv (b_Mark_Class), iv (b_Mark_Number), sv b_Mark_Suffix, iv (b_Wide), iv (b_High), iv (b_Heavy), iv (b_Shelf)] :: C) rfl ?_;obtain ⟨c8, hc8⟩ : ∃ c : Bool, c = decide (y7 ≥ 0) := ⟨_, rfl⟩;refine TO.val rfl rfl rfl (Val.geq hc8 rfl rfl) ?_;refine TO.val rfl rfl rfl (Val.assign rfl) ?_;refine TO.nil ?_;refine T.ret ?_;refine ⟨rfl, _, rfl, ?_⟩;refine TO.val rfl rfl rfl (Val.assign rfl) ?_;refine TO.nil ?_;cases c8 with
      | true =>
       replace hc8 := of_decide_eq_true hc8.symm;rw [if_pos hc8] at h;refine T.condT (fun a ha => ha.ev (.tmp 28) _ rfl) ?_;refine T.seq ?_;refine T.text rfl ?_;refine TO.val rfl rfl rfl (Val.assign rfl) ?_;refine TO.nil ?_;refine T.ret ?_;cases h;exact ⟨ret_ne, ⟨rfl, _, rfl, ⟨(), rfl, (.drop .refl)⟩⟩⟩
      | false =>
       replace hc8 := of_decide_eq_false hc8.symm;rw [if_neg hc8] at h;refine T.condF (fun a ha => ha.ev (.tmp 28) _ rfl) ?_;refine T.skip ?_;cases h;exact ⟨rfl, (), ⟨rfl, keep_nil, (.pick (p := 0) rfl .refl)⟩⟩
  ·rintro _ _ h;skip;refine T.at (s' := ⟨[], [], .row b4 7 [iv (b_Mark_Class), iv (b_Mark_Number), sv b_Mark_Suffix, iv (b_Wide), iv (b_High), iv (b_Heavy), iv (b_Shelf)] :: C⟩) rfl ?_;refine T.seq ?_;refine T.text rfl ?_;refine TO.val rfl rfl rfl (Val.assign rfl) ?_;refine TO.nil ?_;refine T.ret ?_;cases h;exact ⟨rfl, _, rfl, ⟨(), rfl, (.drop .refl)⟩⟩
set_option maxRecDepth 10000 in
theorem tf_s9_Check {k : Nat} (hk : 0 ≤ k) {C : List Thing} {v_r_Classes : AV} {r_Classes : List Str} {v_r_Shelves : AV} {r_Shelves : List S_api_SfShelf} {v_r_Books : AV} {r_Books : List S_api_SfBook} (ht_r_Classes : RdT encStr v_r_Classes r_Classes) (ht_r_Shelves : RdT enc_api_SfShelf v_r_Shelves r_Shelves) (ht_r_Books : RdT enc_api_SfBook v_r_Books r_Books) {r : Int × Int × Int} (h : P_s9_Check r_Classes r_Shelves r_Books = some r) :
  TF (EL k) 16 [.agg [v_r_Classes, v_r_Shelves, v_r_Books]] C (RepF (fun (w : Unit) => .tuple [iv r.1, iv r.2.1, iv r.2.2]) (fun (w : Unit) => C)) := by
 unfold P_s9_Check at h
 have h_r_Classes : Rdl C encStr v_r_Classes r_Classes := RdT.rdl ht_r_Classes
 have h_r_Shelves : Rdl C enc_api_SfShelf v_r_Shelves r_Shelves := RdT.rdl ht_r_Shelves
 have h_r_Books : Rdl C enc_api_SfBook v_r_Books r_Books := RdT.rdl ht_r_Books;refine TF.enter (fn := Go.Proofs.Tryz.f16) rfl rfl rfl rfl rfl ?_;refine T.seq ?_;refine T.text rfl ?_;refine TO.box (k := 3) (cells := [_, _, _]) rfl rfl rfl rfl rfl rfl rfl (fun b1 => ?_);refine TO.val rfl rfl rfl (Val.assign rfl) ?_;refine TO.val rfl rfl rfl (Val.assign rfl) ?_;refine TO.val rfl rfl rfl (Val.assign rfl) ?_;refine TO.nil ?_;refine T.seq ?_;refine T.seq ?_;refine T.text rfl ?_;refine TO.val rfl rfl rfl (Val.faddr_ptr (fo := 0) rfl rfl rfl) ?_;refine TO.val rfl rfl rfl (Val.load_row (p := 0) rfl ⟨_, rfl, rfl⟩ rfl rfl rfl) ?_;refine TO.val rfl rfl rfl (Val.len_l h_r_Classes (memS (mem0)) rfl rfl) ?_;refine TO.build1 (en := encI) (a := (r_Classes.length : Int)) rfl rfl rfl ⟨rfl, rfl⟩ ⟨_, rfl, rfl⟩ (by decide) (by decide) rfl rfl (fun v8 => ?_);obtain ⟨y9, hr9, h⟩ := andx_some h;refine TO.callT (first := []) (cap := []) (vs := [iv (1), iv (6), v8]) rfl rfl rfl rfl rfl rfl (orcN rfl) (tf_s9_out (by first | decide | omega) (Rdl.mono (Rdl.own (C := ownL false v8 encI [(r_Classes.length : Int)] :: .row b1 3 [v_r_Classes, v_r_Shelves, v_r_Books] :: C) (p := 0) rfl) mem0) hr9) ?_;rintro _;refine TO.things (hs' := ownL false v8 encI [(r_Classes.length : Int)] :: .row b1 3 [v_r_Classes, v_r_Shelves, v_r_Books] :: C) rfl ?_;refine TO.nil ?_;cases y9 with
 | true =>
  rw [if_pos rfl] at h;refine T.condT (fun a ha => ha.ev (.tmp 9) _ rfl) ?_;refine T.seq ?_;refine T.text rfl ?_;refine TO.val rfl rfl rfl (Val.assign rfl) ?_;refine TO.val rfl rfl rfl (Val.assign rfl) ?_;refine TO.val rfl rfl rfl (Val.assign rfl) ?_;refine TO.nil ?_;refine T.ret ?_;cases h;exact ⟨rfl, _, rfl, ⟨(), rfl, (.drop (.drop .refl))⟩⟩
 | false =>
  rw [if_neg Bool.false_ne_true] at h;refine T.condF (fun a ha => ha.ev (.tmp 9) _ rfl) ?_;refine T.skip ?_;refine T.seq ?_;refine T.text rfl ?_;refine TO.val rfl rfl rfl (Val.faddr_ptr (fo := 0) rfl rfl rfl) ?_;refine TO.val rfl rfl rfl (Val.load_row (p := 1) rfl ⟨_, rfl, rfl⟩ rfl rfl rfl) ?_;refine TO.val rfl rfl rfl (Val.makeFunc rfl rfl) ?_;refine TO.callJ (W := Unit) (fun (j : Int × Int) (w : Unit) => .tuple [iv (j.1), iv (j.2)]) (fun (j : Int × Int) (w : Unit) => ownL false v8 encI [(r_Classes.length : Int)] :: .row b1 3 [v_r_Classes, v_r_Shelves, v_r_Books] :: C) h rfl rfl rfl rfl rfl rfl (orcN rfl) ?_ ?_
  ·intro j h;refine TF.enter (fn := Go.Proofs.Tryz.f63) rfl rfl rfl rfl rfl ?_;refine T.seq ?_;refine T.text rfl ?_;refine TO.val rfl rfl rfl (Val.assign rfl) ?_;refine TO.val rfl rfl rfl (Val.assign rfl) ?_;refine TO.nil ?_
   show T _ _ _ _ _ _;apply T.join (r := j) (W := Unit) (fun (j : Unit) (w : Unit) => ⟨[], [], ownL false v8 encI [(r_Classes.length : Int)] :: .row b1 3 [v_r_Classes, v_r_Shelves, v_r_Books] :: C⟩) h
   ·intro j h;refine T.seq ?_;refine T.text rfl ?_;refine TO.val rfl rfl rfl (Val.move rfl) ?_;refine TO.val rfl rfl rfl (Val.len_l h_r_Classes (memS (memS (mem0))) rfl rfl) ?_;refine TO.val rfl rfl rfl (Val.move rfl) ?_;refine TO.nil ?_;refine T.block ?_
    show T _ _ _ _ _ _;apply T.iter (r := j) (W := Unit) (fun (j : Int) (w : Unit) => ⟨[], [(1, .func 64 [] [.ptr b1 0 3]), (9, v_r_Classes), (10, iv ((r_Classes.length : Int))), (11, iv (j))], ownL false v8 encI [(r_Classes.length : Int)] :: .row b1 3 [v_r_Classes, v_r_Shelves, v_r_Books] :: C⟩) (w0 := ()) h
    ·exact ⟨rfl, (keep_cons rfl (keep_cons rfl (keep_cons rfl (keep_cons rfl keep_nil)))), (.pick (p := 0) rfl (.pick (p := 0) rfl .refl))⟩
    rintro x11 _ a h;unfold P_s9_Check_L1 at h;refine T.at (s' := ⟨[], [(1, .func 64 [] [.ptr b1 0 3]), (9, v_r_Classes), (10, iv ((r_Classes.length : Int))), (11, iv (x11))], ownL false v8 encI [(r_Classes.length : Int)] :: .row b1 3 [v_r_Classes, v_r_Shelves, v_r_Books] :: C⟩) rfl ?_;refine T.seq ?_;refine T.text rfl ?_;obtain ⟨c12, hc12⟩ : ∃ c : Bool, c = decide (x11 < (r_Classes.length : Int)) := ⟨_, rfl⟩;refine TO.val rfl rfl rfl (Val.lss hc12 rfl rfl) ?_;refine TO.nil ?_;refine T.seq ?_;cases c12 with
    | true =>
     replace hc12 := of_decide_eq_true hc12.symm;rw [if_pos hc12] at h;refine T.condT (fun a ha => ha.ev (.tmp 12) _ rfl) ?_;refine T.skip ?_;refine T.seq ?_;refine T.block ?_;refine T.seq ?_;refine T.text rfl ?_;refine TO.val rfl rfl rfl (Val.move rfl) ?_;obtain ⟨a14, hia14, ea14, h⟩ := el_some h;refine TO.fact (rdl_at h_r_Classes (memS (memS (mem0))) hia14 ea14) (fun hp => ?_);obtain ⟨pa14, hpa14, hva14⟩ := hp;refine TO.val rfl rfl rfl (hva14 ⟨rfl, rfl⟩ rfl rfl) ?_;refine TO.val rfl rfl rfl (Val.load_e hpa14 (memS (memS (mem0))) ⟨_, rfl, rfl⟩ rfl rfl) ?_;refine TO.val rfl rfl rfl (Val.assign rfl) ?_;refine TO.val rfl rfl rfl (Val.assign rfl) ?_;refine TO.nil ?_;refine T.seq ?_;refine T.text rfl ?_;refine TO.val rfl rfl rfl (Val.move rfl) ?_;refine TO.val rfl rfl rfl (Val.move rfl) ?_;refine TO.val rfl rfl rfl (Val.move rfl) ?_;refine TO.callJ (W := Unit) (fun (j : Int) (w : Unit) => iv (j)) (fun (j : Int) (w : Unit) => ownL false v8 encI [(r_Classes.length : Int)] :: .row b1 3 [v_r_Classes, v_r_Shelves, v_r_Books] :: C) h rfl rfl rfl rfl rfl rfl (orcN rfl) ?_ ?_
     ·intro j h;refine TF.enter (fn := Go.Proofs.Tryz.f64) rfl rfl rfl rfl rfl ?_;refine T.seq ?_;refine T.text rfl ?_;refine TO.val rfl rfl rfl (Val.assign rfl) ?_;refine TO.nil ?_;refine T.seq ?_;refine T.block ?_;refine T.seq ?_;refine T.text rfl ?_;refine TO.val rfl rfl rfl (Val.move rfl) ?_;obtain ⟨y8, hr8, h⟩ := andx_some h;refine TO.callT (first := []) (cap := []) (vs := [sv a14]) rfl rfl rfl rfl rfl rfl (orcN rfl) (tf_q_Name (by first | decide | omega) hr8) ?_;rintro _;refine TO.things (hs' := ownL false v8 encI [(r_Classes.length : Int)] :: .row b1 3 [v_r_Classes, v_r_Shelves, v_r_Books] :: C) rfl ?_;refine TO.val rfl rfl rfl (Val.not rfl) ?_;refine TO.val rfl rfl rfl (Val.assign rfl) ?_;refine TO.nil ?_;cases y8 with
      | true =>
       rw [if_pos rfl] at h;refine T.condF (fun a ha => ha.ev (.tmp 6) _ rfl) ?_;refine T.seq ?_;refine T.text rfl ?_;refine TO.val rfl rfl rfl (Val.faddr_ptr (fo := 0) rfl rfl rfl) ?_;refine TO.val rfl rfl rfl (Val.load_row (p := 1) rfl ⟨_, rfl, rfl⟩ rfl rfl rfl) ?_;refine TO.val rfl rfl rfl (Val.move rfl) ?_;obtain ⟨hk14, h⟩ := chk_some h;obtain ⟨w14, htw14, hgw14, hvw14⟩ := slice_T ht_r_Classes hk14
       have hw14 : Rdl C encStr w14 (List.take (x11 - (0 : Int)).toNat (List.drop ((0 : Int) : Int).toNat r_Classes)) := RdT.rdl htw14;refine TO.val rfl rfl rfl (hvw14 ⟨rfl, rfl⟩ rfl .no (.some rfl)) ?_;refine TO.val rfl rfl rfl (Val.move rfl) ?_;refine TO.callIn rfl rfl rfl rfl rfl rfl (orcN rfl) ?_;refine TF.enter (fn := Go.Proofs.Tryz.f66) rfl rfl rfl rfl rfl ?_;refine T.seq ?_;refine T.text rfl ?_;refine TO.val rfl rfl rfl (Val.assign rfl) ?_;refine TO.nil ?_;refine T.seq ?_;refine T.text rfl ?_;refine TO.val rfl rfl rfl (Val.move rfl) ?_;refine TO.val rfl rfl rfl (Val.move rfl) ?_;refine TO.callJ (W := Unit) (fun (j : Int) (w : Unit) => iv (j)) (fun (j : Int) (w : Unit) => ownL false v8 encI [(r_Classes.length : Int)] :: .row b1 3 [v_r_Classes, v_r_Shelves, v_r_Books] :: C) h rfl rfl rfl rfl rfl rfl (orcN rfl) ?_ ?_
       ·intro j h;refine TF.enter (fn := Go.Proofs.Tryz.f86) rfl rfl rfl rfl rfl ?_;refine T.seq ?_;refine T.text rfl ?_;refine TO.val rfl rfl rfl (Val.assign rfl) ?_;refine TO.nil ?_
        show T _ _ _ _ _ _;apply T.join (r := j) (W := Unit) (fun (j : Unit) (w : Unit) => ⟨[], [], ownL false v8 encI [(r_Classes.length : Int)] :: .row b1 3 [v_r_Classes, v_r_Shelves, v_r_Books] :: C⟩) h
        ·intro j h;refine T.seq ?_;refine T.text rfl ?_;refine TO.val rfl rfl rfl (Val.move rfl) ?_;refine TO.val rfl rfl rfl (Val.len_l hw14 (memS (memS (mem0))) rfl rfl) ?_;refine TO.val rfl rfl rfl (Val.move rfl) ?_;refine TO.nil ?_;refine T.block ?_
         show T _ _ _ _ _ _;apply T.iter (r := j) (W := Unit) (fun (j : Int) (w : Unit) => ⟨[], [(0, w14), (1, sv a14), (7, iv (((List.take (x11 - (0 : Int)).toNat (List.drop ((0 : Int) : Int).toNat r_Classes)).length : Int))), (8, iv (j))], ownL false v8 encI [(r_Classes.length : Int)] :: .row b1 3 [v_r_Classes, v_r_Shelves, v_r_Books] :: C⟩) (w0 := ()) h
         ·exact ⟨rfl, (keep_cons rfl (keep_cons rfl (keep_cons rfl (keep_cons rfl keep_nil)))), (.pick (p := 0) rfl (.pick (p := 0) rfl .refl))⟩
         rintro x8 _ a h;unfold P_s9_Check_L2 at h;refine T.at (s' := ⟨[], [(0, w14), (1, sv a14), (7, iv (((List.take (x11 - (0 : Int)).toNat (List.drop ((0 : Int) : Int).toNat r_Classes)).length : Int))), (8, iv (x8))], ownL false v8 encI [(r_Classes.length : Int)] :: .row b1 3 [v_r_Classes, v_r_Shelves, v_r_Books] :: C⟩) rfl ?_;refine T.seq ?_;refine T.text rfl ?_;obtain ⟨c9, hc9⟩ : ∃ c : Bool, c = decide (x8 < ((List.take (x11 - (0 : Int)).toNat (List.drop ((0 : Int) : Int).toNat r_Classes)).length : Int)) := ⟨_, rfl⟩;refine TO.val rfl rfl rfl (Val.lss hc9 rfl rfl) ?_;refine TO.nil ?_;refine T.seq ?_;cases c9 with
         | true =>
          replace hc9 := of_decide_eq_true hc9.symm;rw [if_pos hc9] at h;refine T.condT (fun a ha => ha.ev (.tmp 9) _ rfl) ?_;refine T.skip ?_;refine T.seq ?_;refine T.block ?_;refine T.seq ?_;refine T.text rfl ?_;refine TO.val rfl rfl rfl (Val.move rfl) ?_;refine TO.val rfl rfl rfl (Val.assign rfl) ?_;refine TO.nil ?_;refine T.seq ?_;refine T.text rfl ?_;refine TO.val rfl rfl rfl (Val.move rfl) ?_;refine TO.val rfl rfl rfl (Val.move rfl) ?_;refine TO.val rfl rfl rfl (Val.move rfl) ?_;obtain ⟨a14_2, hia14_2, ea14_2, h⟩ := el_some h;refine TO.fact (rdl_at hw14 (memS (memS (mem0))) hia14_2 ea14_2) (fun hp => ?_);obtain ⟨pa14_2, hpa14_2, hva14_2⟩ := hp;refine TO.val rfl rfl rfl (hva14_2 ⟨rfl, rfl⟩ rfl rfl) ?_;refine TO.val rfl rfl rfl (Val.load_e hpa14_2 (memS (memS (mem0))) ⟨_, rfl, rfl⟩ rfl rfl) ?_;obtain ⟨c16, hc16⟩ : ∃ c : Bool, c = decide (a14 = a14_2) := ⟨_, rfl⟩;refine TO.val rfl rfl rfl (Val.eql_str hc16 rfl rfl) ?_;refine TO.nil ?_;cases c16 with
          | true =>
           replace hc16 := of_decide_eq_true hc16.symm;rw [if_pos hc16] at h;refine T.condT (fun a ha => ha.ev (.tmp 16) _ rfl) ?_;refine T.seq ?_;refine T.text rfl ?_;refine TO.val rfl rfl rfl (Val.move rfl) ?_;refine TO.val rfl rfl rfl (Val.assign rfl) ?_;refine TO.nil ?_;refine T.ret ?_;cases h;exact ⟨ret_ne, ⟨ret_ne, ⟨rfl, _, rfl, ⟨(), rfl, (.pick (p := 0) rfl (.pick (p := 0) rfl .refl))⟩⟩⟩⟩
          | false =>
           replace hc16 := of_decide_eq_false hc16.symm;rw [if_neg hc16] at h;refine T.condF (fun a ha => ha.ev (.tmp 16) _ rfl) ?_;refine T.skip ?_;refine T.text rfl ?_;obtain ⟨hk18, h⟩ := chk_some h;refine TO.val rfl rfl rfl (Val.add rfl rfl hk18) ?_;refine TO.val rfl rfl rfl (Val.move rfl) ?_;refine TO.nil ?_;cases h;exact ⟨rfl, (), ⟨rfl, (keep_cons rfl (keep_cons rfl (keep_cons rfl (keep_cons rfl keep_nil)))), (.pick (p := 0) rfl (.pick (p := 0) rfl .refl))⟩⟩
         | false =>
          replace hc9 := of_decide_eq_false hc9.symm;rw [if_neg hc9] at h;refine T.condF (fun a ha => ha.ev (.tmp 9) _ rfl) ?_;refine T.exit ?_;cases h;exact ⟨ex_ne, ⟨rfl, (), ⟨rfl, keep_nil, (.pick (p := 0) rfl (.pick (p := 0) rfl .refl))⟩⟩⟩
        ·rintro _ _ h;skip;refine T.at (s' := ⟨[], [], ownL false v8 encI [(r_Classes.length : Int)] :: .row b1 3 [v_r_Classes, v_r_Shelves, v_r_Books] :: C⟩) rfl ?_;refine T.seq ?_;refine T.text rfl ?_;refine TO.val rfl rfl rfl (Val.assign rfl) ?_;refine TO.nil ?_;refine T.ret ?_;cases h;exact ⟨rfl, _, rfl, ⟨(), rfl, (.pick (p := 0) rfl (.pick (p := 0) rfl .refl))⟩⟩
       ·rintro y7 _ h;refine TO.things (hs' := ownL false v8 encI [(r_Classes.length : Int)] :: .row b1 3 [v_r_Classes, v_r_Shelves, v_r_Books] :: C) rfl ?_;obtain ⟨c8, hc8⟩ : ∃ c : Bool, c = decide (y7 ≥ 0) := ⟨_, rfl⟩;refine TO.val rfl rfl rfl (Val.geq hc8 rfl rfl) ?_;refine TO.val rfl rfl rfl (Val.assign rfl) ?_;refine TO.nil ?_;refine T.ret ?_;refine ⟨rfl, _, rfl, ?_⟩;refine TO.val rfl rfl rfl (Val.assign rfl) ?_;refine TO.nil ?_;cases c8 with
        | true =>
         replace hc8 := of_decide_eq_true hc8.symm;rw [if_pos hc8] at h;refine T.condT (fun a ha => ha.ev (.tmp 10) _ rfl) ?_;refine T.seq ?_;refine T.text rfl ?_;refine TO.val rfl rfl rfl (Val.assign rfl) ?_;refine TO.nil ?_;refine T.ret ?_;cases h;exact ⟨rfl, _, rfl, ⟨(), rfl, (.pick (p := 0) rfl (.pick (p := 0) rfl .refl))⟩⟩
        | false =>
         replace hc8 := of_decide_eq_false hc8.symm;rw [if_neg hc8] at h;refine T.condF (fun a ha => ha.ev (.tmp 10) _ rfl) ?_;refine T.skip ?_;refine T.seq ?_;refine T.text rfl ?_;refine TO.val rfl rfl rfl (Val.assign rfl) ?_;refine TO.nil ?_;refine T.ret ?_;cases h;exact ⟨rfl, _, rfl, ⟨(), rfl, (.pick (p := 0) rfl (.pick (p := 0) rfl .refl))⟩⟩
      | false =>
       rw [if_neg Bool.false_ne_true] at h;refine T.condT (fun a ha => ha.ev (.tmp 6) _ rfl) ?_;refine T.seq ?_;refine T.text rfl ?_;refine TO.val rfl rfl rfl (Val.assign rfl) ?_;refine TO.nil ?_;refine T.ret ?_;cases h;exact ⟨rfl, _, rfl, ⟨(), rfl, (.pick (p := 0) rfl (.pick (p := 0) rfl .refl))⟩⟩
     ·rintro y19 _ h;refine TO.things (hs' := ownL false v8 encI [(r_Classes.length : Int)] :: .row b1 3 [v_r_Classes, v_r_Shelves, v_r_Books] :: C) rfl ?_;refine TO.val rfl rfl rfl (Val.assign rfl) ?_;refine TO.nil ?_;refine T.seq ?_;refine T.text rfl ?_;refine TO.val rfl rfl rfl (Val.move rfl) ?_;obtain ⟨c21, hc21⟩ : ∃ c : Bool, c = decide (¬ y19 = 0) := ⟨_, rfl⟩;refine TO.val rfl rfl rfl (Val.neq hc21 rfl rfl) ?_;refine TO.nil ?_;cases c21 with
      | true =>
       replace hc21 := of_decide_eq_true hc21.symm;rw [if_pos hc21] at h;refine T.condT (fun a ha => ha.ev (.tmp 21) _ rfl) ?_;refine T.seq ?_;refine T.text rfl ?_;refine TO.val rfl rfl rfl (Val.move rfl) ?_;refine TO.val rfl rfl rfl (Val.move rfl) ?_;refine TO.val rfl rfl rfl (Val.assign rfl) ?_;refine TO.val rfl rfl rfl (Val.assign rfl) ?_;refine TO.nil ?_;refine T.ret ?_;cases h;exact ⟨ret_ne, ⟨ret_ne, ⟨rfl, _, rfl, ⟨(), rfl, (.pick (p := 0) rfl (.pick (p := 0) rfl .refl))⟩⟩⟩⟩
      | false =>
       replace hc21 := of_decide_eq_false hc21.symm;rw [if_neg hc21] at h;refine T.condF (fun a ha => ha.ev (.tmp 21) _ rfl) ?_;refine T.skip ?_;refine T.text rfl ?_;obtain ⟨hk24, h⟩ := chk_some h;refine TO.val rfl rfl rfl (Val.add rfl rfl hk24) ?_;refine TO.val rfl rfl rfl (Val.move rfl) ?_;refine TO.nil ?_;cases h;exact ⟨rfl, (), ⟨rfl, (keep_cons rfl (keep_cons rfl (keep_cons rfl (keep_cons rfl keep_nil)))), (.pick (p := 0) rfl (.pick (p := 0) rfl .refl))⟩⟩
    | false =>
     replace hc12 := of_decide_eq_false hc12.symm;rw [if_neg hc12] at h;refine T.condF (fun a ha => ha.ev (.tmp 12) _ rfl) ?_;refine T.exit ?_;cases h;exact ⟨ex_ne, ⟨rfl, (), ⟨rfl, keep_nil, (.pick (p := 0) rfl (.pick (p := 0) rfl .refl))⟩⟩⟩
   ·rintro _ _ h;skip;refine T.at (s' := ⟨[], [], ownL false v8 encI [(r_Classes.length : Int)] :: .row b1 3 [v_r_Classes, v_r_Shelves, v_r_Books] :: C⟩) rfl ?_;refine T.seq ?_;refine T.text rfl ?_;refine TO.val rfl rfl rfl (Val.assign rfl) ?_;refine TO.val rfl rfl rfl (Val.assign rfl) ?_;refine TO.nil ?_;refine T.ret ?_;cases h;exact ⟨rfl, _, rfl, ⟨(), rfl, (.pick (p := 0) rfl (.pick (p := 0) rfl .refl))⟩⟩
  ·rintro ⟨y14, y14_2⟩ _ h;dsimp only at h;refine TO.things (hs' := ownL false v8 encI [(r_Classes.length : Int)] :: .row b1 3 [v_r_Classes, v_r_Shelves, v_r_Books] :: C) rfl ?_;refine TO.val rfl rfl rfl (Val.move rfl) ?_;refine TO.val rfl rfl rfl (Val.extract rfl rfl) ?_;refine TO.val rfl rfl rfl (Val.extract rfl rfl) ?_;refine TO.val rfl rfl rfl (Val.assign rfl) ?_;refine TO.val rfl rfl rfl (Val.assign rfl) ?_;refine TO.nil ?_;refine T.seq ?_;refine T.block ?_;refine T.seq ?_;refine T.text rfl ?_;refine TO.val rfl rfl rfl (Val.move rfl) ?_;obtain ⟨c19, hc19⟩ : ∃ c : Bool, c = decide (¬ y14_2 = 0) := ⟨_, rfl⟩;refine TO.val rfl rfl rfl (Val.neq hc19 rfl rfl) ?_;refine TO.val rfl rfl rfl (Val.assign rfl) ?_;refine TO.nil ?_;cases c19 with
   | true =>
    replace hc19 := of_decide_eq_true hc19.symm;rw [if_pos hc19] at h;refine T.condT (fun a ha => ha.ev (.tmp 17) _ rfl) ?_;refine T.seq ?_;refine T.text rfl ?_;refine TO.val rfl rfl rfl (Val.move rfl) ?_;refine TO.val rfl rfl rfl (Val.move rfl) ?_;refine TO.val rfl rfl rfl (Val.assign rfl) ?_;refine TO.val rfl rfl rfl (Val.assign rfl) ?_;refine TO.val rfl rfl rfl (Val.assign rfl) ?_;refine TO.nil ?_;refine T.ret ?_;cases h;exact ⟨rfl, _, rfl, ⟨(), rfl, (.drop (.drop .refl))⟩⟩
   | false =>
    replace hc19 := of_decide_eq_false hc19.symm;rw [if_neg hc19] at h;refine T.condF (fun a ha => ha.ev (.tmp 17) _ rfl) ?_;refine T.seq ?_;refine T.text rfl ?_;refine TO.val rfl rfl rfl (Val.faddr_ptr (fo := 1) rfl rfl rfl) ?_;refine TO.val rfl rfl rfl (Val.load_row (p := 1) rfl ⟨_, rfl, rfl⟩ rfl rfl rfl) ?_;refine TO.val rfl rfl rfl (Val.len_l h_r_Shelves (memS (memS (mem0))) rfl rfl) ?_;refine TO.build1 (en := encI) (a := (r_Shelves.length : Int)) rfl rfl rfl ⟨rfl, rfl⟩ ⟨_, rfl, rfl⟩ (by decide) (by decide) rfl rfl (fun v26 => ?_);obtain ⟨y27, hr27, h⟩ := andx_some h;refine TO.callT (first := []) (cap := []) (vs := [iv (1), iv (4), v26]) rfl rfl rfl rfl rfl rfl (orcN rfl) (tf_s9_out (by first | decide | omega) (Rdl.mono (Rdl.own (C := ownL false v26 encI [(r_Shelves.length : Int)] :: ownL false v8 encI [(r_Classes.length : Int)] :: .row b1 3 [v_r_Classes, v_r_Shelves, v_r_Books] :: C) (p := 0) rfl) mem0) hr27) ?_;rintro _;refine TO.things (hs' := ownL false v26 encI [(r_Shelves.length : Int)] :: ownL false v8 encI [(r_Classes.length : Int)] :: .row b1 3 [v_r_Classes, v_r_Shelves, v_r_Books] :: C) rfl ?_;refine TO.val rfl rfl rfl (Val.assign rfl) ?_;refine TO.nil ?_;cases y27 with
    | true =>
     rw [if_pos rfl] at h;refine T.condT (fun a ha => ha.ev (.tmp 22) _ rfl) ?_;refine T.seq ?_;refine T.text rfl ?_;refine TO.val rfl rfl rfl (Val.assign rfl) ?_;refine TO.val rfl rfl rfl (Val.assign rfl) ?_;refine TO.val rfl rfl rfl (Val.assign rfl) ?_;refine TO.nil ?_;refine T.ret ?_;cases h;exact ⟨rfl, _, rfl, ⟨(), rfl, (.drop (.drop (.drop .refl)))⟩⟩
    | false =>
     rw [if_neg Bool.false_ne_true] at h;refine T.condF (fun a ha => ha.ev (.tmp 22) _ rfl) ?_;refine T.skip ?_;refine T.seq ?_;refine T.text rfl ?_;refine TO.val rfl rfl rfl (Val.faddr_ptr (fo := 1) rfl rfl rfl) ?_;refine TO.val rfl rfl rfl (Val.load_row (p := 2) rfl ⟨_, rfl, rfl⟩ rfl rfl rfl) ?_;refine TO.callJ (W := Unit) (fun (j : Int × Int) (w : Unit) => .tuple [iv (j.1), iv (j.2)]) (fun (j : Int × Int) (w : Unit) => ownL false v26 encI [(r_Shelves.length : Int)] :: ownL false v8 encI [(r_Classes.length : Int)] :: .row b1 3 [v_r_Classes, v_r_Shelves, v_r_Books] :: C) h rfl rfl rfl rfl rfl rfl (orcN rfl) ?_ ?_
     ·intro j h;refine TF.enter (fn := Go.Proofs.Tryz.f67) rfl rfl rfl rfl rfl ?_;refine T.seq ?_;refine T.text rfl ?_;refine TO.val rfl rfl rfl (Val.assign rfl) ?_;refine TO.val rfl rfl rfl (Val.assign rfl) ?_;refine TO.nil ?_
      show T _ _ _ _ _ _;apply T.join (r := j) (W := Unit) (fun (j : Unit) (w : Unit) => ⟨[], [], ownL false v26 encI [(r_Shelves.length : Int)] :: ownL false v8 encI [(r_Classes.length : Int)] :: .row b1 3 [v_r_Classes, v_r_Shelves, v_r_Books] :: C⟩) h
      ·intro j h;refine T.seq ?_;refine T.text rfl ?_;refine TO.val rfl rfl rfl (Val.move rfl) ?_;refine TO.val rfl rfl rfl (Val.len_l h_r_Shelves (memS (memS (memS (mem0)))) rfl rfl) ?_;refine TO.val rfl rfl rfl (Val.move rfl) ?_;refine TO.nil ?_;refine T.block ?_
       show T _ _ _ _ _ _;apply T.iter (r := j) (W := Unit) (fun (j : Int) (w : Unit) => ⟨[], [(1, .func 68 [] []), (9, v_r_Shelves), (10, iv ((r_Shelves.length : Int))), (11, iv (j))], ownL false v26 encI [(r_Shelves.length : Int)] :: ownL false v8 encI [(r_Classes.length : Int)] :: .row b1 3 [v_r_Classes, v_r_Shelves, v_r_Books] :: C⟩) (w0 := ()) h
       ·exact ⟨rfl, (keep_cons rfl (keep_cons rfl (keep_cons rfl (keep_cons rfl keep_nil)))), (.pick (p := 0) rfl (.pick (p := 0) rfl (.pick (p := 0) rfl .refl)))⟩
       rintro x11 _ a h;unfold P_s9_Check_L3 at h;refine T.at (s' := ⟨[], [(1, .func 68 [] []), (9, v_r_Shelves), (10, iv ((r_Shelves.length : Int))), (11, iv (x11))], ownL false v26 encI [(r_Shelves.length : Int)] :: ownL false v8 encI [(r_Classes.length : Int)] :: .row b1 3 [v_r_Classes, v_r_Shelves, v_r_Books] :: C⟩) rfl ?_;refine T.seq ?_;refine T.text rfl ?_;obtain ⟨c12, hc12⟩ : ∃ c : Bool, c = decide (x11 < (r_Shelves.length : Int)) := ⟨_, rfl⟩;refine TO.val rfl rfl rfl (Val.lss hc12 rfl rfl) ?_;refine TO.nil ?_;refine T.seq ?_;cases c12 with
       | true =>
        replace hc12 := of_decide_eq_true hc12.symm;rw [if_pos hc12] at h;refine T.condT (fun a ha => ha.ev (.tmp 12) _ rfl) ?_;refine T.skip ?_;refine T.seq ?_;refine T.block ?_;refine T.seq ?_;refine T.text rfl ?_;refine TO.val rfl rfl rfl (Val.move rfl) ?_;obtain ⟨a14, hia14, ea14, h⟩ := el_some h;refine TO.fact (rdl_at h_r_Shelves (memS (memS (memS (mem0)))) hia14 ea14) (fun hp => ?_);obtain ⟨pa14, hpa14, hva14⟩ := hp;refine TO.val rfl rfl rfl (hva14 ⟨rfl, rfl⟩ rfl rfl) ?_;refine TO.val rfl rfl rfl (Val.load_es (c := [_, _, _, _]) hpa14 (memS (memS (memS (mem0)))) ⟨⟨_, rfl, rfl⟩, rfl, by decide⟩ rfl rfl rfl) ?_;refine TO.alloc (k := 4) (cells := [_, _, _, _]) rfl rfl rfl rfl rfl rfl rfl (fun b7 => ?_);refine TO.val rfl rfl rfl (Val.assign rfl) ?_;refine TO.eff0 rfl rfl (Eff.store_row (p := 0) (cv := [_, _, _, _]) (cells' := [_, _, _, _]) rfl rfl rfl rfl rfl rfl rfl rfl (by first | rfl | (simp [GS.one]; done)) (by decide) rfl) ?_;rintro _ rfl;refine TO.things (hs' := .row b7 4 [iv (a14.away), iv (a14.climb), iv (a14.wide), iv (a14.high)] :: ownL false v26 encI [(r_Shelves.length : Int)] :: ownL false v8 encI [(r_Classes.length : Int)] :: .row b1 3 [v_r_Classes, v_r_Shelves, v_r_Books] :: C) rfl ?_;refine TO.nil ?_;refine T.seq ?_;refine T.text rfl ?_;refine TO.val rfl rfl rfl (Val.move rfl) ?_;refine TO.val rfl rfl rfl (Val.move rfl) ?_;refine TO.val rfl rfl rfl (Val.load_rows (p := 0) (c := [_, _, _, _]) rfl ⟨⟨_, rfl, rfl⟩, rfl, by decide⟩ rfl rfl rfl rfl) ?_;refine TO.callJ (W := Unit) (fun (j : Int) (w : Unit) => iv (j)) (fun (j : Int) (w : Unit) => .row b7 4 [iv (a14.away), iv (a14.climb), iv (a14.wide), iv (a14.high)] :: ownL false v26 encI [(r_Shelves.length : Int)] :: ownL false v8 encI [(r_Classes.length : Int)] :: .row b1 3 [v_r_Classes, v_r_Shelves, v_r_Books] :: C) h rfl rfl rfl rfl rfl rfl (orcN rfl) ?_ ?_
        ·intro j h;refine TF.enter (fn := Go.Proofs.Tryz.f68) rfl rfl rfl rfl rfl ?_;refine T.seq ?_;refine T.text rfl ?_;refine TO.box (k := 4) (cells := [_, _, _, _]) rfl rfl rfl rfl rfl rfl rfl (fun b3 => ?_);refine TO.val rfl rfl rfl (Val.assign rfl) ?_;refine TO.nil ?_
         show T _ _ _ _ _ _;apply T.join (r := j) (W := Unit) (fun (j : Unit) (w : Unit) => ⟨[], [], .row b3 4 [iv (a14.away), iv (a14.climb), iv (a14.wide), iv (a14.high)] :: .row b7 4 [iv (a14.away), iv (a14.climb), iv (a14.wide), iv (a14.high)] :: ownL false v26 encI [(r_Shelves.length : Int)] :: ownL false v8 encI [(r_Classes.length : Int)] :: .row b1 3 [v_r_Classes, v_r_Shelves, v_r_Books] :: C⟩) h
         ·intro j h
          show T _ _ _ _ _ _;apply T.joinA (r := j) (W := Unit) (fun (j : Bool) (w : Unit) => ⟨[], [(18, bv j)], .row b3 4 [iv (a14.away), iv (a14.climb), iv (a14.wide), iv (a14.high)] :: .row b7 4 [iv (a14.away), iv (a14.climb), iv (a14.wide), iv (a14.high)] :: ownL false v26 encI [(r_Shelves.length : Int)] :: ownL false v8 encI [(r_Classes.length : Int)] :: .row b1 3 [v_r_Classes, v_r_Shelves, v_r_Books] :: C⟩) h
          ·intro j h;refine T.text rfl ?_;refine TO.val rfl rfl rfl (Val.faddr_ptr (fo := 0) rfl rfl rfl) ?_;refine TO.val rfl rfl rfl (Val.load_row (p := 0) rfl ⟨_, rfl, rfl⟩ rfl rfl rfl) ?_;refine TO.val rfl rfl rfl (Val.faddr_ptr (fo := 1) rfl rfl rfl) ?_;refine TO.val rfl rfl rfl (Val.load_row (p := 0) rfl ⟨_, rfl, rfl⟩ rfl rfl rfl) ?_;refine TO.eff rfl rfl rfl (Eff.new (New.buildSlice (en := encI) (l := [a14.away, a14.climb]) (vs := [(_, _), (_, _)]) (ws := [(_, [_]), (_, [_])]) ⟨rfl, rfl⟩ rfl rfl rfl rfl (CellsL.cons rfl (CellsL.cons rfl CellsL.nil)) rfl rfl)) ?_;rintro _ _ ⟨v9, rfl, rfl⟩;refine TO.less (Less.rowOwn (en := encI) (l := [a14.away, a14.climb]) (p := 0) rfl) ?_;refine TO.things (hs' := ownL false (.slice v9 0 (List.flatMap encI.f [a14.away, a14.climb]).length true (List.length [a14.away, a14.climb]) (List.length [a14.away, a14.climb])) encI [a14.away, a14.climb] :: .row b3 4 [iv (a14.away), iv (a14.climb), iv (a14.wide), iv (a14.high)] :: .row b7 4 [iv (a14.away), iv (a14.climb), iv (a14.wide), iv (a14.high)] :: ownL false v26 encI [(r_Shelves.length : Int)] :: ownL false v8 encI [(r_Classes.length : Int)] :: .row b1 3 [v_r_Classes, v_r_Shelves, v_r_Books] :: C) rfl ?_;obtain ⟨y10, hr10, h⟩ := andx_some h;refine TO.callT (first := []) (cap := []) (vs := [iv (0), iv (1000), (.slice v9 0 (List.flatMap encI.f [a14.away, a14.climb]).length true (List.length [a14.away, a14.climb]) (List.length [a14.away, a14.climb]))]) rfl rfl rfl rfl rfl rfl (orcN rfl) (tf_s9_out (by first | decide | omega) (Rdl.mono (Rdl.own (C := ownL false (.slice v9 0 (List.flatMap encI.f [a14.away, a14.climb]).length true (List.length [a14.away, a14.climb]) (List.length [a14.away, a14.climb])) encI [a14.away, a14.climb] :: .row b3 4 [iv (a14.away), iv (a14.climb), iv (a14.wide), iv (a14.high)] :: .row b7 4 [iv (a14.away), iv (a14.climb), iv (a14.wide), iv (a14.high)] :: ownL false v26 encI [(r_Shelves.length : Int)] :: ownL false v8 encI [(r_Classes.length : Int)] :: .row b1 3 [v_r_Classes, v_r_Shelves, v_r_Books] :: C) (p := 0) rfl) mem0) hr10) ?_;rintro _;refine TO.things (hs' := ownL false (.slice v9 0 (List.flatMap encI.f [a14.away, a14.climb]).length true (List.length [a14.away, a14.climb]) (List.length [a14.away, a14.climb])) encI [a14.away, a14.climb] :: .row b3 4 [iv (a14.away), iv (a14.climb), iv (a14.wide), iv (a14.high)] :: .row b7 4 [iv (a14.away), iv (a14.climb), iv (a14.wide), iv (a14.high)] :: ownL false v26 encI [(r_Shelves.length : Int)] :: ownL false v8 encI [(r_Classes.length : Int)] :: .row b1 3 [v_r_Classes, v_r_Shelves, v_r_Books] :: C) rfl ?_;refine TO.val rfl rfl rfl (Val.move rfl) ?_;cases y10 with
           | true =>
            rw [if_pos rfl] at h;refine TO.off rfl rfl rfl ?_;refine TO.off rfl rfl rfl ?_;refine TO.off rfl rfl rfl ?_;refine TO.off rfl rfl rfl ?_;refine TO.off rfl rfl rfl ?_;refine TO.off rfl rfl rfl ?_;refine TO.val rfl rfl rfl (Val.pick rfl rfl rfl) ?_;refine TO.nil ?_;cases h;exact ⟨rfl, (), ⟨rfl, (keep_cons rfl keep_nil), (.pick (p := 1) rfl (.pick (p := 1) rfl (.pick (p := 1) rfl (.pick (p := 1) rfl (.pick (p := 1) rfl (.drop .refl))))))⟩⟩
           | false =>
            rw [if_neg Bool.false_ne_true] at h;refine TO.val rfl rfl rfl (Val.faddr_ptr (fo := 2) rfl rfl rfl) ?_;refine TO.val rfl rfl rfl (Val.load_row (p := 1) rfl ⟨_, rfl, rfl⟩ rfl rfl rfl) ?_;refine TO.val rfl rfl rfl (Val.faddr_ptr (fo := 3) rfl rfl rfl) ?_;refine TO.val rfl rfl rfl (Val.load_row (p := 1) rfl ⟨_, rfl, rfl⟩ rfl rfl rfl) ?_;refine TO.eff rfl rfl rfl (Eff.new (New.buildSlice (en := encI) (l := [a14.wide, a14.high]) (vs := [(_, _), (_, _)]) (ws := [(_, [_]), (_, [_])]) ⟨rfl, rfl⟩ rfl rfl rfl rfl (CellsL.cons rfl (CellsL.cons rfl CellsL.nil)) rfl rfl)) ?_;rintro _ _ ⟨v16, rfl, rfl⟩;refine TO.less (Less.rowOwn (en := encI) (l := [a14.wide, a14.high]) (p := 0) rfl) ?_;refine TO.things (hs' := ownL false (.slice v16 0 (List.flatMap encI.f [a14.wide, a14.high]).length true (List.length [a14.wide, a14.high]) (List.length [a14.wide, a14.high])) encI [a14.wide, a14.high] :: ownL false (.slice v9 0 (List.flatMap encI.f [a14.away, a14.climb]).length true (List.length [a14.away, a14.climb]) (List.length [a14.away, a14.climb])) encI [a14.away, a14.climb] :: .row b3 4 [iv (a14.away), iv (a14.climb), iv (a14.wide), iv (a14.high)] :: .row b7 4 [iv (a14.away), iv (a14.climb), iv (a14.wide), iv (a14.high)] :: ownL false v26 encI [(r_Shelves.length : Int)] :: ownL false v8 encI [(r_Classes.length : Int)] :: .row b1 3 [v_r_Classes, v_r_Shelves, v_r_Books] :: C) rfl ?_;obtain ⟨y17, hr17, h⟩ := andx_some h;refine TO.callT (first := []) (cap := []) (vs := [iv (1), iv (2000), (.slice v16 0 (List.flatMap encI.f [a14.wide, a14.high]).length true (List.length [a14.wide, a14.high]) (List.length [a14.wide, a14.high]))]) rfl rfl rfl rfl rfl rfl (orcN rfl) (tf_s9_out (by first | decide | omega) (Rdl.mono (Rdl.own (C := ownL false (.slice v16 0 (List.flatMap encI.f [a14.wide, a14.high]).length true (List.length [a14.wide, a14.high]) (List.length [a14.wide, a14.high])) encI [a14.wide, a14.high] :: ownL false (.slice v9 0 (List.flatMap encI.f [a14.away, a14.climb]).length true (List.length [a14.away, a14.climb]) (List.length [a14.away, a14.climb])) encI [a14.away, a14.climb] :: .row b3 4 [iv (a14.away), iv (a14.climb), iv (a14.wide), iv (a14.high)] :: .row b7 4 [iv (a14.away), iv (a14.climb), iv (a14.wide), iv (a14.high)] :: ownL false v26 encI [(r_Shelves.length : Int)] :: ownL false v8 encI [(r_Classes.length : Int)] :: .row b1 3 [v_r_Classes, v_r_Shelves, v_r_Books] :: C) (p := 0) rfl) mem0) hr17) ?_;rintro _;refine TO.things (hs' := ownL false (.slice v16 0 (List.flatMap encI.f [a14.wide, a14.high]).length true (List.length [a14.wide, a14.high]) (List.length [a14.wide, a14.high])) encI [a14.wide, a14.high] :: ownL false (.slice v9 0 (List.flatMap encI.f [a14.away, a14.climb]).length true (List.length [a14.away, a14.climb]) (List.length [a14.away, a14.climb])) encI [a14.away, a14.climb] :: .row b3 4 [iv (a14.away), iv (a14.climb), iv (a14.wide), iv (a14.high)] :: .row b7 4 [iv (a14.away), iv (a14.climb), iv (a14.wide), iv (a14.high)] :: ownL false v26 encI [(r_Shelves.length : Int)] :: ownL false v8 encI [(r_Classes.length : Int)] :: .row b1 3 [v_r_Classes, v_r_Shelves, v_r_Books] :: C) rfl ?_
            refine TO.val rfl rfl rfl (Val.pick rfl rfl rfl) ?_;refine TO.nil ?_;cases h;exact ⟨rfl, (), ⟨rfl, (keep_cons rfl keep_nil), (.pick (p := 2) rfl (.pick (p := 2) rfl (.pick (p := 2) rfl (.pick (p := 2) rfl (.pick (p := 2) rfl (.drop (.drop .refl)))))))⟩⟩
          ·rintro x18 _ h;skip;refine T.at (s' := ⟨[], [(18, bv x18)], .row b3 4 [iv (a14.away), iv (a14.climb), iv (a14.wide), iv (a14.high)] :: .row b7 4 [iv (a14.away), iv (a14.climb), iv (a14.wide), iv (a14.high)] :: ownL false v26 encI [(r_Shelves.length : Int)] :: ownL false v8 encI [(r_Classes.length : Int)] :: .row b1 3 [v_r_Classes, v_r_Shelves, v_r_Books] :: C⟩) rfl ?_;cases x18 with
           | true =>
            rw [if_pos rfl] at h;refine T.condT (fun a ha => ha.ev (.tmp 18) _ rfl) ?_;refine T.seq ?_;refine T.text rfl ?_;refine TO.val rfl rfl rfl (Val.assign rfl) ?_;refine TO.nil ?_;refine T.ret ?_;cases h;exact ⟨ret_ne, ⟨rfl, _, rfl, ⟨(), rfl, (.pick (p := 1) rfl (.pick (p := 1) rfl (.pick (p := 1) rfl (.pick (p := 1) rfl (.drop .refl)))))⟩⟩⟩
           | false =>
            rw [if_neg Bool.false_ne_true] at h;refine T.condF (fun a ha => ha.ev (.tmp 18) _ rfl) ?_;refine T.skip ?_;cases h;exact ⟨rfl, (), ⟨rfl, keep_nil, (.pick (p := 0) rfl (.pick (p := 0) rfl (.pick (p := 0) rfl (.pick (p := 0) rfl (.pick (p := 0) rfl .refl)))))⟩⟩
         ·rintro _ _ h;skip;refine T.at (s' := ⟨[], [], .row b3 4 [iv (a14.away), iv (a14.climb), iv (a14.wide), iv (a14.high)] :: .row b7 4 [iv (a14.away), iv (a14.climb), iv (a14.wide), iv (a14.high)] :: ownL false v26 encI [(r_Shelves.length : Int)] :: ownL false v8 encI [(r_Classes.length : Int)] :: .row b1 3 [v_r_Classes, v_r_Shelves, v_r_Books] :: C⟩) rfl ?_;refine T.seq ?_;refine T.text rfl ?_;refine TO.val rfl rfl rfl (Val.assign rfl) ?_;refine TO.nil ?_;refine T.ret ?_;cases h;exact ⟨rfl, _, rfl, ⟨(), rfl, (.pick (p := 1) rfl (.pick (p := 1) rfl (.pick (p := 1) rfl (.pick (p := 1) rfl (.drop .refl)))))⟩⟩
        ·rintro y19 _ h;refine TO.things (hs' := .row b7 4 [iv (a14.away), iv (a14.climb), iv (a14.wide), iv (a14.high)] :: ownL false v26 encI [(r_Shelves.length : Int)] :: ownL false v8 encI [(r_Classes.length : Int)] :: .row b1 3 [v_r_Classes, v_r_Shelves, v_r_Books] :: C) rfl ?_;refine TO.val rfl rfl rfl (Val.assign rfl) ?_;refine TO.nil ?_;refine T.seq ?_;refine T.text rfl ?_;refine TO.val rfl rfl rfl (Val.move rfl) ?_;obtain ⟨c21, hc21⟩ : ∃ c : Bool, c = decide (¬ y19 = 0) := ⟨_, rfl⟩;refine TO.val rfl rfl rfl (Val.neq hc21 rfl rfl) ?_;refine TO.nil ?_;cases c21 with
         | true =>
          replace hc21 := of_decide_eq_true hc21.symm;rw [if_pos hc21] at h;refine T.condT (fun a ha => ha.ev (.tmp 21) _ rfl) ?_;refine T.seq ?_;refine T.text rfl ?_;refine TO.val rfl rfl rfl (Val.move rfl) ?_;refine TO.val rfl rfl rfl (Val.move rfl) ?_;refine TO.val rfl rfl rfl (Val.assign rfl) ?_;refine TO.val rfl rfl rfl (Val.assign rfl) ?_;refine TO.nil ?_;refine T.ret ?_;cases h;exact ⟨ret_ne, ⟨ret_ne, ⟨rfl, _, rfl, ⟨(), rfl, (.pick (p := 1) rfl (.pick (p := 1) rfl (.pick (p := 1) rfl (.drop .refl))))⟩⟩⟩⟩
         | false =>
          replace hc21 := of_decide_eq_false hc21.symm;rw [if_neg hc21] at h;refine T.condF (fun a ha => ha.ev (.tmp 21) _ rfl) ?_;refine T.skip ?_;refine T.text rfl ?_;obtain ⟨hk24, h⟩ := chk_some h;refine TO.val rfl rfl rfl (Val.add rfl rfl hk24) ?_;refine TO.val rfl rfl rfl (Val.move rfl) ?_;refine TO.nil ?_;cases h;exact ⟨rfl, (), ⟨rfl, (keep_cons rfl (keep_cons rfl (keep_cons rfl (keep_cons rfl keep_nil)))), (.pick (p := 1) rfl (.pick (p := 1) rfl (.pick (p := 1) rfl (.drop .refl))))⟩⟩
       | false =>
        replace hc12 := of_decide_eq_false hc12.symm;rw [if_neg hc12] at h;refine T.condF (fun a ha => ha.ev (.tmp 12) _ rfl) ?_;refine T.exit ?_;cases h;exact ⟨ex_ne, ⟨rfl, (), ⟨rfl, keep_nil, (.pick (p := 0) rfl (.pick (p := 0) rfl (.pick (p := 0) rfl .refl)))⟩⟩⟩
      ·rintro _ _ h;skip;refine T.at (s' := ⟨[], [], ownL false v26 encI [(r_Shelves.length : Int)] :: ownL false v8 encI [(r_Classes.length : Int)] :: .row b1 3 [v_r_Classes, v_r_Shelves, v_r_Books] :: C⟩) rfl ?_;refine T.seq ?_;refine T.text rfl ?_;refine TO.val rfl rfl rfl (Val.assign rfl) ?_;refine TO.val rfl rfl rfl (Val.assign rfl) ?_;refine TO.nil ?_;refine T.ret ?_;cases h;exact ⟨rfl, _, rfl, ⟨(), rfl, (.pick (p := 0) rfl (.pick (p := 0) rfl (.pick (p := 0) rfl .refl)))⟩⟩
     ·rintro ⟨y31, y31_2⟩ _ h;dsimp only at h;refine TO.things (hs' := ownL false v26 encI [(r_Shelves.length : Int)] :: ownL false v8 encI [(r_Classes.length : Int)] :: .row b1 3 [v_r_Classes, v_r_Shelves, v_r_Books] :: C) rfl ?_;refine TO.val rfl rfl rfl (Val.move rfl) ?_;refine TO.val rfl rfl rfl (Val.extract rfl rfl) ?_;refine TO.val rfl rfl rfl (Val.extract rfl rfl) ?_;refine TO.val rfl rfl rfl (Val.assign rfl) ?_;refine TO.val rfl rfl rfl (Val.assign rfl) ?_;refine TO.nil ?_;refine T.seq ?_;refine T.block ?_;refine T.seq ?_;refine T.text rfl ?_;refine TO.val rfl rfl rfl (Val.move rfl) ?_;obtain ⟨c36, hc36⟩ : ∃ c : Bool, c = decide (¬ y31_2 = 0) := ⟨_, rfl⟩;refine TO.val rfl rfl rfl (Val.neq hc36 rfl rfl) ?_;refine TO.val rfl rfl rfl (Val.assign rfl) ?_;refine TO.nil ?_;cases c36 with
      | true =>
       replace hc36 := of_decide_eq_true hc36.symm;rw [if_pos hc36] at h;refine T.condT (fun a ha => ha.ev (.tmp 34) _ rfl) ?_;refine T.seq ?_;refine T.text rfl ?_;refine TO.val rfl rfl rfl (Val.move rfl) ?_;refine TO.val rfl rfl rfl (Val.move rfl) ?_;refine TO.val rfl rfl rfl (Val.assign rfl) ?_;refine TO.val rfl rfl rfl (Val.assign rfl) ?_;refine TO.val rfl rfl rfl (Val.assign rfl) ?_;refine TO.nil ?_;refine T.ret ?_;cases h;exact ⟨rfl, _, rfl, ⟨(), rfl, (.drop (.drop (.drop .refl)))⟩⟩
      | false =>
       replace hc36 := of_decide_eq_false hc36.symm;rw [if_neg hc36] at h;refine T.condF (fun a ha => ha.ev (.tmp 34) _ rfl) ?_;refine T.seq ?_;refine T.text rfl ?_;refine TO.val rfl rfl rfl (Val.faddr_ptr (fo := 2) rfl rfl rfl) ?_;refine TO.val rfl rfl rfl (Val.load_row (p := 2) rfl ⟨_, rfl, rfl⟩ rfl rfl rfl) ?_;refine TO.val rfl rfl rfl (Val.len_l h_r_Books (memS (memS (memS (mem0)))) rfl rfl) ?_;obtain ⟨c43, hc43⟩ : ∃ c : Bool, c = decide ((r_Books.length : Int) > 10) := ⟨_, rfl⟩;refine TO.val rfl rfl rfl (Val.gtr hc43 rfl rfl) ?_;refine TO.val rfl rfl rfl (Val.assign rfl) ?_;refine TO.nil ?_;cases c43 with
       | true =>
        replace hc43 := of_decide_eq_true hc43.symm;rw [if_pos hc43] at h;refine T.condT (fun a ha => ha.ev (.tmp 39) _ rfl) ?_;refine T.seq ?_;refine T.text rfl ?_;refine TO.val rfl rfl rfl (Val.assign rfl) ?_;refine TO.val rfl rfl rfl (Val.assign rfl) ?_;refine TO.val rfl rfl rfl (Val.assign rfl) ?_;refine TO.nil ?_;refine T.ret ?_;cases h;exact ⟨rfl, _, rfl, ⟨(), rfl, (.drop (.drop (.drop .refl)))⟩⟩
       | false =>
        replace hc43 := of_decide_eq_false hc43.symm;rw [if_neg hc43] at h;refine T.condF (fun a ha => ha.ev (.tmp 39) _ rfl) ?_;refine T.skip ?_;refine T.seq ?_;refine T.text rfl ?_;refine TO.val rfl rfl rfl (Val.faddr_ptr (fo := 2) rfl rfl rfl) ?_;refine TO.val rfl rfl rfl (Val.load_row (p := 2) rfl ⟨_, rfl, rfl⟩ rfl rfl rfl) ?_;refine TO.val rfl rfl rfl (Val.makeFunc rfl rfl) ?_;refine TO.callJ (W := Unit) (fun (j : Int × Int) (w : Unit) => .tuple [iv (j.1), iv (j.2)]) (fun (j : Int × Int) (w : Unit) => ownL false v26 encI [(r_Shelves.length : Int)] :: ownL false v8 encI [(r_Classes.length : Int)] :: .row b1 3 [v_r_Classes, v_r_Shelves, v_r_Books] :: C) h rfl rfl rfl rfl rfl rfl (orcN rfl) ?_ ?_
        ·intro j h;refine TF.enter (fn := Go.Proofs.Tryz.f69) rfl rfl rfl rfl rfl ?_;refine T.seq ?_;refine T.text rfl ?_;refine TO.val rfl rfl rfl (Val.assign rfl) ?_;refine TO.val rfl rfl rfl (Val.assign rfl) ?_;refine TO.nil ?_
         show T _ _ _ _ _ _;apply T.join (r := j) (W := Unit) (fun (j : Unit) (w : Unit) => ⟨[], [], ownL false v26 encI [(r_Shelves.length : Int)] :: ownL false v8 encI [(r_Classes.length : Int)] :: .row b1 3 [v_r_Classes, v_r_Shelves, v_r_Books] :: C⟩) h
         ·intro j h;refine T.seq ?_;refine T.text rfl ?_;refine TO.val rfl rfl rfl (Val.move rfl) ?_;refine TO.val rfl rfl rfl (Val.len_l h_r_Books (memS (memS (memS (mem0)))) rfl rfl) ?_;refine TO.val rfl rfl rfl (Val.move rfl) ?_;refine TO.nil ?_;refine T.block ?_
          show T _ _ _ _ _ _;apply T.iter (r := j) (W := Unit) (fun (j : Int) (w : Unit) => ⟨[], [(1, .func 70 [] [.ptr b1 0 3]), (9, v_r_Books), (10, iv ((r_Books.length : Int))), (11, iv (j))], ownL false v26 encI [(r_Shelves.length : Int)] :: ownL false v8 encI [(r_Classes.length : Int)] :: .row b1 3 [v_r_Classes, v_r_Shelves, v_r_Books] :: C⟩) (w0 := ()) h
          ·exact ⟨rfl, (keep_cons rfl (keep_cons rfl (keep_cons rfl (keep_cons rfl keep_nil)))), (.pick (p := 0) rfl (.pick (p := 0) rfl (.pick (p := 0) rfl .refl)))⟩
          rintro x11 _ a h;unfold P_s9_Check_L4 at h;refine T.at (s' := ⟨[], [(1, .func 70 [] [.ptr b1 0 3]), (9, v_r_Books), (10, iv ((r_Books.length : Int))), (11, iv (x11))], ownL false v26 encI [(r_Shelves.length : Int)] :: ownL false v8 encI [(r_Classes.length : Int)] :: .row b1 3 [v_r_Classes, v_r_Shelves, v_r_Books] :: C⟩) rfl ?_;refine T.seq ?_;refine T.text rfl ?_;obtain ⟨c12, hc12⟩ : ∃ c : Bool, c = decide (x11 < (r_Books.length : Int)) := ⟨_, rfl⟩;refine TO.val rfl rfl rfl (Val.lss hc12 rfl rfl) ?_;refine TO.nil ?_;refine T.seq ?_;cases c12 with
          | true =>
           replace hc12 := of_decide_eq_true hc12.symm;rw [if_pos hc12] at h;refine T.condT (fun a ha => ha.ev (.tmp 12) _ rfl) ?_;refine T.skip ?_;refine T.seq ?_;refine T.block ?_;refine T.seq ?_;refine T.text rfl ?_;refine TO.val rfl rfl rfl (Val.move rfl) ?_;obtain ⟨a14, hia14, ea14, h⟩ := el_some h;refine TO.fact (rdl_at h_r_Books (memS (memS (memS (mem0)))) hia14 ea14) (fun hp => ?_);obtain ⟨pa14, hpa14, hva14⟩ := hp;refine TO.val rfl rfl rfl (hva14 ⟨rfl, rfl⟩ rfl rfl) ?_;refine TO.val rfl rfl rfl (Val.load_es (c := [_, _, _, _, _, _, _]) hpa14 (memS (memS (memS (mem0)))) ⟨⟨_, rfl, rfl⟩, rfl, by decide⟩ rfl rfl rfl) ?_;refine TO.alloc (k := 7) (cells := [_, _, _, _, _, _, _]) rfl rfl rfl rfl rfl rfl rfl (fun b7 => ?_);refine TO.val rfl rfl rfl (Val.assign rfl) ?_;refine TO.eff0 rfl rfl (Eff.store_row (p := 0) (cv := [_, _, _, _, _, _, _]) (cells' := [_, _, _, _, _, _, _]) rfl rfl rfl rfl rfl rfl rfl rfl (by first | rfl | (simp [GS.one]; done)) (by decide) rfl) ?_;rintro _ rfl;refine TO.things (hs' := .row b7 7 [iv (a14.mark_class), iv (a14.mark_number), sv a14.mark_suffix, iv (a14.wide), iv (a14.high), iv (a14.heavy), iv (a14.shelf)] :: ownL false v26 encI [(r_Shelves.length : Int)] :: ownL false v8 encI [(r_Classes.length : Int)] :: .row b1 3 [v_r_Classes, v_r_Shelves, v_r_Books] :: C) rfl ?_;refine TO.nil ?_;refine T.seq ?_;refine T.text rfl ?_;refine TO.val rfl rfl rfl (Val.move rfl) ?_;refine TO.val rfl rfl rfl (Val.move rfl) ?_;refine TO.val rfl rfl rfl (Val.load_rows (p := 0) (c := [_, _, _, _, _, _, _]) rfl ⟨⟨_, rfl, rfl⟩, rfl, by decide⟩ rfl rfl rfl rfl) ?_;refine TO.callJ (W := Unit) (fun (j : Int) (w : Unit) => iv (j)) (fun (j : Int) (w : Unit) => .row b7 7 [iv (a14.mark_class), iv (a14.mark_number), sv a14.mark_suffix, iv (a14.wide), iv (a14.high), iv (a14.heavy), iv (a14.shelf)] :: ownL false v26 encI [(r_Shelves.length : Int)] :: ownL false v8 encI [(r_Classes.length : Int)] :: .row b1 3 [v_r_Classes, v_r_Shelves, v_r_Books] :: C) h rfl rfl rfl rfl rfl rfl (orcN rfl) ?_ ?_
           ·intro j h;refine TF.enter (fn := Go.Proofs.Tryz.f70) rfl rfl rfl rfl rfl ?_;refine T.seq ?_;refine T.text rfl ?_;refine TO.box (k := 7) (cells := [_, _, _, _, _, _, _]) rfl rfl rfl rfl rfl rfl rfl (fun b4 => ?_);refine TO.val rfl rfl rfl (Val.assign rfl) ?_;refine TO.nil ?_;refine T.seq ?_;refine T.drawE (l1 := [0, 1, 2, 3, 4, 5, 6]) (l2 := [7, 8]) (by kernel_rfl) (by kernel_rfl) ?_;refine TD1.read rfl rfl rfl rfl (Val.load_rows (p := 4) (c := [_, _, _]) rfl ⟨⟨_, rfl, rfl⟩, rfl, by decide⟩ rfl rfl rfl rfl) ?_;refine TD1.light rfl rfl rfl rfl (Val.buildC (cs := [_, _, _]) (vs := [(_, _)]) (ws := [(_, [_, _, _])]) rfl rfl (CellsL.cons rfl CellsL.nil) rfl) ?_;refine TD1.read rfl rfl rfl rfl (Val.load_rows (p := 0) (c := [_, _, _, _, _, _, _]) rfl ⟨⟨_, rfl, rfl⟩, rfl, by decide⟩ rfl rfl rfl rfl) ?_;refine TD1.light rfl rfl rfl rfl (Val.faddr_ptr (fo := 2) rfl rfl rfl) ?_;refine TD1.read rfl rfl rfl rfl (Val.load_row (p := 4) rfl ⟨_, rfl, rfl⟩ rfl rfl rfl) ?_;refine TD1.light rfl rfl rfl rfl (Val.move rfl) ?_;obtain ⟨hk13, h⟩ := chk_some h;obtain ⟨w13, htw13, hgw13, hvw13⟩ := slice_T ht_r_Books hk13
            have hw13 : Rdl C enc_api_SfBook w13 (List.take (x11 - (0 : Int)).toNat (List.drop ((0 : Int) : Int).toNat r_Books)) := RdT.rdl htw13;refine TD1.read rfl rfl rfl rfl (hvw13 ⟨rfl, rfl⟩ rfl .no (.some rfl)) ?_;refine TD1.over (fun v => sameC_refl v) (all_cons (⟨_, rfl, (hvw13 ⟨rfl, rfl⟩ rfl .no (.some rfl))⟩) (all_cons (⟨_, rfl, (Val.load_row (p := 4) rfl ⟨_, rfl, rfl⟩ rfl rfl rfl)⟩) (all_cons (⟨_, rfl, (Val.load_rows (p := 0) (c := [_, _, _, _, _, _, _]) rfl ⟨⟨_, rfl, rfl⟩, rfl, by decide⟩ rfl rfl rfl rfl)⟩) (all_cons (⟨_, rfl, (Val.load_rows (p := 4) (c := [_, _, _]) rfl ⟨⟨_, rfl, rfl⟩, rfl, by decide⟩ rfl rfl rfl rfl)⟩) all_nil)))) ?_;obtain ⟨y14_3, hr14, h⟩ := andx_some h;refine TD2.heavy (fun v => sameC_refl v) rfl (by decide) rfl rfl (OpS.callV rfl rfl rfl rfl (orcN rfl) (RepF.conv (tf_s9_book (by first | decide | omega) (Rdl.mono h_r_Classes (memS (memS (memS (memS (memS (mem0))))))) (Rdl.mono h_r_Shelves (memS (memS (memS (memS (memS (mem0))))))) (Rdl.mono h_r_Books (memS (memS (memS (memS (memS (mem0))))))) (Rdl.mono hw13 (memS (memS (memS (memS (memS (mem0))))))) hr14))) ?_;rintro _ _ ⟨_, rfl, rfl⟩;refine ⟨(all_cons (.inl (by kernel_rfl)) (all_cons (.inl (by kernel_rfl)) (all_cons (.inl (by kernel_rfl)) (all_cons (.inl (by kernel_rfl)) all_nil)))), all_nil, ?_⟩;refine TD2.things (hs' := .row b4 7 [iv (a14.mark_class), iv (a14.mark_number), sv a14.mark_suffix, iv (a14.wide), iv (a14.high), iv (a14.heavy), iv (a14.shelf)] :: .row b7 7 [iv (a14.mark_class), iv (a14.mark_number), sv a14.mark_suffix, iv (a14.wide), iv (a14.high), iv (a14.heavy), iv (a14.shelf)] :: ownL false v26 encI [(r_Shelves.length : Int)] :: ownL false v8 encI [(r_Classes.length : Int)] :: .row b1 3 [v_r_Classes, v_r_Shelves, v_r_Books] :: C) rfl ?_;refine TD2.light rfl rfl rfl rfl (Val.assign rfl) ?_;refine TD2.nil ?_
            show T _ _ _ _ _ _;apply T.join (r := j) (W := Unit) (fun (j : Unit) (w : Unit) => ⟨[], [], .row b4 7 [iv (a14.mark_class), iv (a14.mark_number), sv a14.mark_suffix, iv (a14.wide), iv (a14.high), iv (a14.heavy), iv (a14.shelf)] :: .row b7 7 [iv (a14.mark_class), iv (a14.mark_number), sv a14.mark_suffix, iv (a14.wide), iv (a14.high), iv (a14.heavy), iv (a14.shelf)] :: ownL false v26 encI [(r_Shelves.length : Int)] :: ownL false v8 encI [(r_Classes.length : Int)] :: .row b1 3 [v_r_Classes, v_r_Shelves, v_r_Books] :: C⟩) h
            ·intro j h;refine T.block ?_;refine T.seq ?_;refine T.text rfl ?_;refine TO.val rfl rfl rfl (Val.move rfl) ?_;obtain ⟨c17, hc17⟩ : ∃ c : Bool, c = decide (¬ y14_3 = 0) := ⟨_, rfl⟩;refine TO.val rfl rfl rfl (Val.neq hc17 rfl rfl) ?_;refine TO.val rfl rfl rfl (Val.assign rfl) ?_;refine TO.nil ?_;cases c17 with
             | true =>
              replace hc17 := of_decide_eq_true hc17.symm;rw [if_pos hc17] at h;refine T.condT (fun a ha => ha.ev (.tmp 15) _ rfl) ?_;refine T.seq ?_;refine T.text rfl ?_;refine TO.val rfl rfl rfl (Val.move rfl) ?_;refine TO.val rfl rfl rfl (Val.assign rfl) ?_;refine TO.nil ?_;refine T.ret ?_;cases h;exact ⟨ret_ne, ⟨rfl, _, rfl, ⟨(), rfl, (.pick (p := 1) rfl (.pick (p := 1) rfl (.pick (p := 1) rfl (.pick (p := 1) rfl (.drop .refl)))))⟩⟩⟩
             | false =>
              replace hc17 := of_decide_eq_false hc17.symm;rw [if_neg hc17] at h;refine T.condF (fun a ha => ha.ev (.tmp 15) _ rfl) ?_;refine T.seq ?_;refine T.text rfl ?_;refine TO.val rfl rfl rfl (Val.faddr_ptr (fo := 1) rfl rfl rfl) ?_;refine TO.val rfl rfl rfl (Val.load_row (p := 4) rfl ⟨_, rfl, rfl⟩ rfl rfl rfl) ?_;refine TO.val rfl rfl rfl (Val.len_l h_r_Shelves (memS (memS (memS (memS (memS (mem0)))))) rfl rfl) ?_;obtain ⟨hk23, h⟩ := chk_some h;refine TO.val rfl rfl rfl (Val.sub rfl rfl hk23) ?_;refine TO.val rfl rfl rfl (Val.faddr_ptr (fo := 6) rfl rfl rfl) ?_;refine TO.val rfl rfl rfl (Val.load_row (p := 0) rfl ⟨_, rfl, rfl⟩ rfl rfl rfl) ?_;refine TO.build1 (en := encI) (a := a14.shelf) rfl rfl rfl ⟨rfl, rfl⟩ ⟨_, rfl, rfl⟩ (by decide) (by decide) rfl rfl (fun v26_2 => ?_);obtain ⟨y27_2, hr27_2, h⟩ := andx_some h;refine TO.callT (first := []) (cap := []) (vs := [iv (0), iv (((r_Shelves.length : Int) - 1)), v26_2]) rfl rfl rfl rfl rfl rfl (orcN rfl) (tf_s9_out (by first | decide | omega) (Rdl.mono (Rdl.own (C := ownL false v26_2 encI [a14.shelf] :: .row b4 7 [iv (a14.mark_class), iv (a14.mark_number), sv a14.mark_suffix, iv (a14.wide), iv (a14.high), iv (a14.heavy), iv (a14.shelf)] :: .row b7 7 [iv (a14.mark_class), iv (a14.mark_number), sv a14.mark_suffix, iv (a14.wide), iv (a14.high), iv (a14.heavy), iv (a14.shelf)] :: ownL false v26 encI [(r_Shelves.length : Int)] :: ownL false v8 encI [(r_Classes.length : Int)] :: .row b1 3 [v_r_Classes, v_r_Shelves, v_r_Books] :: C) (p := 0) rfl) mem0) hr27_2) ?_;rintro _;refine TO.things (hs' := ownL false v26_2 encI [a14.shelf] :: .row b4 7 [iv (a14.mark_class), iv (a14.mark_number), sv a14.mark_suffix, iv (a14.wide), iv (a14.high), iv (a14.heavy), iv (a14.shelf)] :: .row b7 7 [iv (a14.mark_class), iv (a14.mark_number), sv a14.mark_suffix, iv (a14.wide), iv (a14.high), iv (a14.heavy), iv (a14.shelf)] :: ownL false v26 encI [(r_Shelves.length : Int)] :: ownL false v8 encI [(r_Classes.length : Int)] :: .row b1 3 [v_r_Classes, v_r_Shelves, v_r_Books] :: C) rfl ?_;refine TO.val rfl rfl rfl (Val.assign rfl) ?_;refine TO.nil ?_;cases y27_2 with
              | true =>
               rw [if_pos rfl] at h;refine T.condT (fun a ha => ha.ev (.tmp 19) _ rfl) ?_;refine T.seq ?_;refine T.text rfl ?_;refine TO.val rfl rfl rfl (Val.assign rfl) ?_;refine TO.nil ?_;refine T.ret ?_;cases h;exact ⟨ret_ne, ⟨rfl, _, rfl, ⟨(), rfl, (.pick (p := 2) rfl (.pick (p := 2) rfl (.pick (p := 2) rfl (.pick (p := 2) rfl (.drop (.drop .refl))))))⟩⟩⟩
              | false =>
               rw [if_neg Bool.false_ne_true] at h;refine T.condF (fun a ha => ha.ev (.tmp 19) _ rfl) ?_
               show T _ _ _ _ _ _;apply T.joinA (r := j) (W := Unit) (fun (j : Bool) (w : Unit) => ⟨[], [(28, bv j)], ownL false v26_2 encI [a14.shelf] :: .row b4 7 [iv (a14.mark_class), iv (a14.mark_number), sv a14.mark_suffix, iv (a14.wide), iv (a14.high), iv (a14.heavy), iv (a14.shelf)] :: .row b7 7 [iv (a14.mark_class), iv (a14.mark_number), sv a14.mark_suffix, iv (a14.wide), iv (a14.high), iv (a14.heavy), iv (a14.shelf)] :: ownL false v26 encI [(r_Shelves.length : Int)] :: ownL false v8 encI [(r_Classes.length : Int)] :: .row b1 3 [v_r_Classes, v_r_Shelves, v_r_Books] :: C⟩) h
               ·intro j h;refine T.draw (fun v => sameC_refl v) (l1 := [0, 1, 2, 3, 4, 5, 6, 7, 8, 9, 10, 11, 12, 13, 14]) (l2 := []) (by kernel_rfl) (by kernel_rfl) ?_;refine TO.val rfl rfl rfl (Val.move rfl) ?_;obtain ⟨c30, hc30⟩ : ∃ c : Bool, c = decide (x11 > 0) := ⟨_, rfl⟩;refine TO.val rfl rfl rfl (Val.gtr hc30 rfl rfl) ?_;refine TO.val rfl rfl rfl (Val.move rfl) ?_;cases c30 with
                | true =>
                 replace hc30 := of_decide_eq_true hc30.symm;rw [if_pos hc30] at h;refine TO.val rfl rfl rfl (Val.faddr_ptr (fo := 6) rfl rfl rfl) ?_;refine TO.val rfl rfl rfl (Val.load_row (p := 1) rfl ⟨_, rfl, rfl⟩ rfl rfl rfl) ?_;refine TO.val rfl rfl rfl (Val.faddr_ptr (fo := 2) rfl rfl rfl) ?_;refine TO.val rfl rfl rfl (Val.load_row (p := 5) rfl ⟨_, rfl, rfl⟩ rfl rfl rfl) ?_;refine TO.val rfl rfl rfl (Val.move rfl) ?_;obtain ⟨hk37, h⟩ := chk_some h;refine TO.val rfl rfl rfl (Val.sub rfl rfl hk37) ?_;obtain ⟨a38, hia38, ea38, h⟩ := el_some h;refine TO.fact (rdl_at h_r_Books (memS (memS (memS (memS (memS (memS (mem0))))))) hia38 ea38) (fun hp => ?_);obtain ⟨pa38, hpa38, hva38⟩ := hp;refine TO.val rfl rfl rfl (hva38 ⟨rfl, rfl⟩ rfl rfl) ?_;refine TO.val rfl rfl rfl (Val.faddr_e (fo := 6) hpa38 rfl rfl rfl) ?_;refine TO.val rfl rfl rfl (Val.load_e (PtE.add hpa38 (by decide)) (memS (memS (memS (memS (memS (memS (mem0))))))) ⟨_, rfl, rfl⟩ rfl rfl) ?_;obtain ⟨c41, hc41⟩ : ∃ c : Bool, c = decide (a14.shelf < a38.shelf) := ⟨_, rfl⟩;refine TO.val rfl rfl rfl (Val.lss hc41 rfl rfl) ?_;refine TO.val rfl rfl rfl (Val.pick rfl rfl rfl) ?_;refine TO.val rfl rfl rfl (Val.assign rfl) ?_;refine TO.nil ?_;subst hc41;cases h;exact ⟨rfl, (), ⟨rfl, (keep_cons rfl keep_nil), (.pick (p := 0) rfl (.pick (p := 0) rfl (.pick (p := 0) rfl (.pick (p := 0) rfl (.pick (p := 0) rfl (.pick (p := 0) rfl .refl))))))⟩⟩
                | false =>
                 replace hc30 := of_decide_eq_false hc30.symm;rw [if_neg hc30] at h;refine TO.off rfl rfl rfl ?_;refine TO.off rfl rfl rfl ?_;refine TO.off rfl rfl rfl ?_;refine TO.off rfl rfl rfl ?_;refine TO.off rfl rfl rfl ?_;refine TO.off rfl rfl rfl ?_;refine TO.off rfl rfl rfl ?_;refine TO.off rfl rfl rfl ?_;refine TO.off rfl rfl rfl ?_;refine TO.off rfl rfl rfl ?_;refine TO.val rfl rfl rfl (Val.pick rfl rfl rfl) ?_;refine TO.val rfl rfl rfl (Val.assign rfl) ?_;refine TO.nil ?_;cases h;exact ⟨rfl, (), ⟨rfl, (keep_cons rfl keep_nil), (.pick (p := 0) rfl (.pick (p := 0) rfl (.pick (p := 0) rfl (.pick (p := 0) rfl (.pick (p := 0) rfl (.pick (p := 0) rfl .refl))))))⟩⟩
               ·rintro x28 _ h;skip;refine T.at (s' := ⟨[], [(28, bv x28)], ownL false v26_2 encI [a14.shelf] :: .row b4 7 [iv (a14.mark_class), iv (a14.mark_number), sv a14.mark_suffix, iv (a14.wide), iv (a14.high), iv (a14.heavy), iv (a14.shelf)] :: .row b7 7 [iv (a14.mark_class), iv (a14.mark_number), sv a14.mark_suffix, iv (a14.wide), iv (a14.high), iv (a14.heavy), iv (a14.shelf)] :: ownL false v26 encI [(r_Shelves.length : Int)] :: ownL false v8 encI [(r_Classes.length : Int)] :: .row b1 3 [v_r_Classes, v_r_Shelves, v_r_Books] :: C⟩) rfl ?_;cases x28 with
                | true =>
                 rw [if_pos rfl] at h;refine T.condT (fun a ha => ha.ev (.tmp 28) _ rfl) ?_;refine T.seq ?_;refine T.text rfl ?_;refine TO.val rfl rfl rfl (Val.assign rfl) ?_;refine TO.nil ?_;refine T.ret ?_;cases h;exact ⟨ret_ne, ⟨rfl, _, rfl, ⟨(), rfl, (.pick (p := 2) rfl (.pick (p := 2) rfl (.pick (p := 2) rfl (.pick (p := 2) rfl (.drop (.drop .refl))))))⟩⟩⟩
                | false =>
                 rw [if_neg Bool.false_ne_true] at h;refine T.condF (fun a ha => ha.ev (.tmp 28) _ rfl) ?_;refine T.skip ?_;cases h;exact ⟨rfl, (), ⟨rfl, keep_nil, (.pick (p := 1) rfl (.pick (p := 1) rfl (.pick (p := 1) rfl (.pick (p := 1) rfl (.pick (p := 1) rfl (.drop .refl))))))⟩⟩
            ·rintro _ _ h;skip;refine T.at (s' := ⟨[], [], .row b4 7 [iv (a14.mark_class), iv (a14.mark_number), sv a14.mark_suffix, iv (a14.wide), iv (a14.high), iv (a14.heavy), iv (a14.shelf)] :: .row b7 7 [iv (a14.mark_class), iv (a14.mark_number), sv a14.mark_suffix, iv (a14.wide), iv (a14.high), iv (a14.heavy), iv (a14.shelf)] :: ownL false v26 encI [(r_Shelves.length : Int)] :: ownL false v8 encI [(r_Classes.length : Int)] :: .row b1 3 [v_r_Classes, v_r_Shelves, v_r_Books] :: C⟩) rfl ?_;refine T.seq ?_;refine T.text rfl ?_;refine TO.val rfl rfl rfl (Val.assign rfl) ?_;refine TO.nil ?_;refine T.ret ?_;cases h;exact ⟨rfl, _, rfl, ⟨(), rfl, (.pick (p := 1) rfl (.pick (p := 1) rfl (.pick (p := 1) rfl (.pick (p := 1) rfl (.drop .refl)))))⟩⟩
           ·rintro y19 _ h;refine TO.things (hs' := .row b7 7 [iv (a14.mark_class), iv (a14.mark_number), sv a14.mark_suffix, iv (a14.wide), iv (a14.high), iv (a14.heavy), iv (a14.shelf)] :: ownL false v26 encI [(r_Shelves.length : Int)] :: ownL false v8 encI [(r_Classes.length : Int)] :: .row b1 3 [v_r_Classes, v_r_Shelves, v_r_Books] :: C) rfl ?_;refine TO.val rfl rfl rfl (Val.assign rfl) ?_;refine TO.nil ?_;refine T.seq ?_;refine T.text rfl ?_;refine TO.val rfl rfl rfl (Val.move rfl) ?_;obtain ⟨c21, hc21⟩ : ∃ c : Bool, c = decide (¬ y19 = 0) := ⟨_, rfl⟩;refine TO.val rfl rfl rfl (Val.neq hc21 rfl rfl) ?_;refine TO.nil ?_;cases c21 with
            | true =>
             replace hc21 := of_decide_eq_true hc21.symm;rw [if_pos hc21] at h;refine T.condT (fun a ha => ha.ev (.tmp 21) _ rfl) ?_;refine T.seq ?_;refine T.text rfl ?_;refine TO.val rfl rfl rfl (Val.move rfl) ?_;refine TO.val rfl rfl rfl (Val.move rfl) ?_;refine TO.val rfl rfl rfl (Val.assign rfl) ?_;refine TO.val rfl rfl rfl (Val.assign rfl) ?_;refine TO.nil ?_;refine T.ret ?_;cases h;exact ⟨ret_ne, ⟨ret_ne, ⟨rfl, _, rfl, ⟨(), rfl, (.pick (p := 1) rfl (.pick (p := 1) rfl (.pick (p := 1) rfl (.drop .refl))))⟩⟩⟩⟩
            | false =>
             replace hc21 := of_decide_eq_false hc21.symm;rw [if_neg hc21] at h;refine T.condF (fun a ha => ha.ev (.tmp 21) _ rfl) ?_;refine T.skip ?_;refine T.text rfl ?_;obtain ⟨hk24, h⟩ := chk_some h;refine TO.val rfl rfl rfl (Val.add rfl rfl hk24) ?_;refine TO.val rfl rfl rfl (Val.move rfl) ?_;refine TO.nil ?_;cases h;exact ⟨rfl, (), ⟨rfl, (keep_cons rfl (keep_cons rfl (keep_cons rfl (keep_cons rfl keep_nil)))), (.pick (p := 1) rfl (.pick (p := 1) rfl (.pick (p := 1) rfl (.drop .refl))))⟩⟩
          | false =>
           replace hc12 := of_decide_eq_false hc12.symm;rw [if_neg hc12] at h;refine T.condF (fun a ha => ha.ev (.tmp 12) _ rfl) ?_;refine T.exit ?_;cases h;exact ⟨ex_ne, ⟨rfl, (), ⟨rfl, keep_nil, (.pick (p := 0) rfl (.pick (p := 0) rfl (.pick (p := 0) rfl .refl)))⟩⟩⟩
         ·rintro _ _ h;skip;refine T.at (s' := ⟨[], [], ownL false v26 encI [(r_Shelves.length : Int)] :: ownL false v8 encI [(r_Classes.length : Int)] :: .row b1 3 [v_r_Classes, v_r_Shelves, v_r_Books] :: C⟩) rfl ?_;refine T.seq ?_;refine T.text rfl ?_;refine TO.val rfl rfl rfl (Val.assign rfl) ?_;refine TO.val rfl rfl rfl (Val.assign rfl) ?_;refine TO.nil ?_;refine T.ret ?_;cases h;exact ⟨rfl, _, rfl, ⟨(), rfl, (.pick (p := 0) rfl (.pick (p := 0) rfl (.pick (p := 0) rfl .refl)))⟩⟩
        ·rintro ⟨y48, y48_2⟩ _ h;dsimp only at h;refine TO.things (hs' := ownL false v26 encI [(r_Shelves.length : Int)] :: ownL false v8 encI [(r_Classes.length : Int)] :: .row b1 3 [v_r_Classes, v_r_Shelves, v_r_Books] :: C) rfl ?_;refine TO.val rfl rfl rfl (Val.move rfl) ?_;refine TO.val rfl rfl rfl (Val.extract rfl rfl) ?_;refine TO.val rfl rfl rfl (Val.extract rfl rfl) ?_;refine TO.val rfl rfl rfl (Val.assign rfl) ?_;refine TO.val rfl rfl rfl (Val.assign rfl) ?_;refine TO.nil ?_;refine T.seq ?_;refine T.seq ?_;refine T.text rfl ?_;refine TO.val rfl rfl rfl (Val.move rfl) ?_;obtain ⟨c52, hc52⟩ : ∃ c : Bool, c = decide (¬ y48_2 = 0) := ⟨_, rfl⟩;refine TO.val rfl rfl rfl (Val.neq hc52 rfl rfl) ?_;refine TO.nil ?_;cases c52 with
         | true =>
          replace hc52 := of_decide_eq_true hc52.symm;rw [if_pos hc52] at h;refine T.condT (fun a ha => ha.ev (.tmp 52) _ rfl) ?_;refine T.seq ?_;refine T.text rfl ?_;refine TO.val rfl rfl rfl (Val.move rfl) ?_;refine TO.val rfl rfl rfl (Val.move rfl) ?_;refine TO.val rfl rfl rfl (Val.assign rfl) ?_;refine TO.val rfl rfl rfl (Val.assign rfl) ?_;refine TO.val rfl rfl rfl (Val.assign rfl) ?_;refine TO.nil ?_;refine T.ret ?_;cases h;exact ⟨rfl, _, rfl, ⟨(), rfl, (.drop (.drop (.drop .refl)))⟩⟩
         | false =>
          replace hc52 := of_decide_eq_false hc52.symm;rw [if_neg hc52] at h;refine T.condF (fun a ha => ha.ev (.tmp 52) _ rfl) ?_;refine T.skip ?_;refine T.seq ?_;refine T.text rfl ?_;refine TO.val rfl rfl rfl (Val.faddr_ptr (fo := 1) rfl rfl rfl) ?_;refine TO.val rfl rfl rfl (Val.load_row (p := 2) rfl ⟨_, rfl, rfl⟩ rfl rfl rfl) ?_;refine TO.val rfl rfl rfl (Val.makeFunc rfl rfl) ?_;refine TO.callJ (W := Unit) (fun (j : Int × Int) (w : Unit) => .tuple [iv (j.1), iv (j.2)]) (fun (j : Int × Int) (w : Unit) => ownL false v26 encI [(r_Shelves.length : Int)] :: ownL false v8 encI [(r_Classes.length : Int)] :: .row b1 3 [v_r_Classes, v_r_Shelves, v_r_Books] :: C) h rfl rfl rfl rfl rfl rfl (orcN rfl) ?_ ?_
          ·intro j h;refine TF.enter (fn := Go.Proofs.Tryz.f67) rfl rfl rfl rfl rfl ?_;refine T.seq ?_;refine T.text rfl ?_;refine TO.val rfl rfl rfl (Val.assign rfl) ?_;refine TO.val rfl rfl rfl (Val.assign rfl) ?_;refine TO.nil ?_
           show T _ _ _ _ _ _;apply T.join (r := j) (W := Unit) (fun (j : Unit) (w : Unit) => ⟨[], [], ownL false v26 encI [(r_Shelves.length : Int)] :: ownL false v8 encI [(r_Classes.length : Int)] :: .row b1 3 [v_r_Classes, v_r_Shelves, v_r_Books] :: C⟩) h
           ·intro j h;refine T.seq ?_;refine T.text rfl ?_;refine TO.val rfl rfl rfl (Val.move rfl) ?_;refine TO.val rfl rfl rfl (Val.len_l h_r_Shelves (memS (memS (memS (mem0)))) rfl rfl) ?_;refine TO.val rfl rfl rfl (Val.move rfl) ?_;refine TO.nil ?_;refine T.block ?_
            show T _ _ _ _ _ _;apply T.iter (r := j) (W := Unit) (fun (j : Int) (w : Unit) => ⟨[], [(1, .func 72 [] [.ptr b1 0 3]), (9, v_r_Shelves), (10, iv ((r_Shelves.length : Int))), (11, iv (j))], ownL false v26 encI [(r_Shelves.length : Int)] :: ownL false v8 encI [(r_Classes.length : Int)] :: .row b1 3 [v_r_Classes, v_r_Shelves, v_r_Books] :: C⟩) (w0 := ()) h
            ·exact ⟨rfl, (keep_cons rfl (keep_cons rfl (keep_cons rfl (keep_cons rfl keep_nil)))), (.pick (p := 0) rfl (.pick (p := 0) rfl (.pick (p := 0) rfl .refl)))⟩
            rintro x11 _ a h;unfold P_s9_Check_L5 at h;refine T.at (s' := ⟨[], [(1, .func 72 [] [.ptr b1 0 3]), (9, v_r_Shelves), (10, iv ((r_Shelves.length : Int))), (11, iv (x11))], ownL false v26 encI [(r_Shelves.length : Int)] :: ownL false v8 encI [(r_Classes.length : Int)] :: .row b1 3 [v_r_Classes, v_r_Shelves, v_r_Books] :: C⟩) rfl ?_;refine T.seq ?_;refine T.text rfl ?_;obtain ⟨c12, hc12⟩ : ∃ c : Bool, c = decide (x11 < (r_Shelves.length : Int)) := ⟨_, rfl⟩;refine TO.val rfl rfl rfl (Val.lss hc12 rfl rfl) ?_;refine TO.nil ?_;refine T.seq ?_;cases c12 with
            | true =>
             replace hc12 := of_decide_eq_true hc12.symm;rw [if_pos hc12] at h;refine T.condT (fun a ha => ha.ev (.tmp 12) _ rfl) ?_;refine T.skip ?_;refine T.seq ?_;refine T.block ?_;refine T.seq ?_;refine T.text rfl ?_;refine TO.val rfl rfl rfl (Val.move rfl) ?_;obtain ⟨a14, hia14, ea14, h⟩ := el_some h;refine TO.fact (rdl_at h_r_Shelves (memS (memS (memS (mem0)))) hia14 ea14) (fun hp => ?_);obtain ⟨pa14, hpa14, hva14⟩ := hp;refine TO.val rfl rfl rfl (hva14 ⟨rfl, rfl⟩ rfl rfl) ?_;refine TO.val rfl rfl rfl (Val.load_es (c := [_, _, _, _]) hpa14 (memS (memS (memS (mem0)))) ⟨⟨_, rfl, rfl⟩, rfl, by decide⟩ rfl rfl rfl) ?_;refine TO.alloc (k := 4) (cells := [_, _, _, _]) rfl rfl rfl rfl rfl rfl rfl (fun b7 => ?_);refine TO.val rfl rfl rfl (Val.assign rfl) ?_;refine TO.eff0 rfl rfl (Eff.store_row (p := 0) (cv := [_, _, _, _]) (cells' := [_, _, _, _]) rfl rfl rfl rfl rfl rfl rfl rfl (by first | rfl | (simp [GS.one]; done)) (by decide) rfl) ?_;rintro _ rfl;refine TO.things (hs' := .row b7 4 [iv (a14.away), iv (a14.climb), iv (a14.wide), iv (a14.high)] :: ownL false v26 encI [(r_Shelves.length : Int)] :: ownL false v8 encI [(r_Classes.length : Int)] :: .row b1 3 [v_r_Classes, v_r_Shelves, v_r_Books] :: C) rfl ?_;refine TO.nil ?_;refine T.seq ?_;refine T.text rfl ?_;refine TO.val rfl rfl rfl (Val.move rfl) ?_;refine TO.val rfl rfl rfl (Val.move rfl) ?_;refine TO.val rfl rfl rfl (Val.load_rows (p := 0) (c := [_, _, _, _]) rfl ⟨⟨_, rfl, rfl⟩, rfl, by decide⟩ rfl rfl rfl rfl) ?_;refine TO.callJ (W := Unit) (fun (j : Int) (w : Unit) => iv (j)) (fun (j : Int) (w : Unit) => .row b7 4 [iv (a14.away), iv (a14.climb), iv (a14.wide), iv (a14.high)] :: ownL false v26 encI [(r_Shelves.length : Int)] :: ownL false v8 encI [(r_Classes.length : Int)] :: .row b1 3 [v_r_Classes, v_r_Shelves, v_r_Books] :: C) h rfl rfl rfl rfl rfl rfl (orcN rfl) ?_ ?_
             ·intro j h;refine TF.enter (fn := Go.Proofs.Tryz.f72) rfl rfl rfl rfl rfl ?_;refine T.seq ?_;refine T.text rfl ?_;refine TO.box (k := 4) (cells := [_, _, _, _]) rfl rfl rfl rfl rfl rfl rfl (fun b4 => ?_);refine TO.val rfl rfl rfl (Val.assign rfl) ?_;refine TO.nil ?_
              show T _ _ _ _ _ _;apply T.join (r := j) (W := Unit) (fun (j : Int) (w : Unit) => ⟨[], [], .row b4 4 [iv (a14.away), iv (a14.climb), iv (j), iv (a14.high)] :: .row b7 4 [iv (a14.away), iv (a14.climb), iv (a14.wide), iv (a14.high)] :: ownL false v26 encI [(r_Shelves.length : Int)] :: ownL false v8 encI [(r_Classes.length : Int)] :: .row b1 3 [v_r_Classes, v_r_Shelves, v_r_Books] :: C⟩) h
              ·intro j h;refine T.seq ?_;refine T.text rfl ?_;refine TO.val rfl rfl rfl (Val.faddr_ptr (fo := 2) rfl rfl rfl) ?_;refine TO.val rfl rfl rfl (Val.load_row (p := 4) rfl ⟨_, rfl, rfl⟩ rfl rfl rfl) ?_;refine TO.val rfl rfl rfl (Val.len_l h_r_Books (memS (memS (memS (memS (memS (mem0)))))) rfl rfl) ?_;refine TO.val rfl rfl rfl (Val.move rfl) ?_;refine TO.nil ?_;refine T.block ?_
               show T _ _ _ _ _ _;apply T.iter (r := j) (W := Unit) (fun (j : Int × Int) (w : Unit) => ⟨[], [(0, iv (x11)), (4, .ptr b4 0 4), (9, v_r_Books), (10, iv ((r_Books.length : Int))), (11, iv (j.1))], .row b4 4 [iv (a14.away), iv (a14.climb), iv (j.2), iv (a14.high)] :: .row b7 4 [iv (a14.away), iv (a14.climb), iv (a14.wide), iv (a14.high)] :: ownL false v26 encI [(r_Shelves.length : Int)] :: ownL false v8 encI [(r_Classes.length : Int)] :: .row b1 3 [v_r_Classes, v_r_Shelves, v_r_Books] :: C⟩) (w0 := ()) h
               ·exact ⟨rfl, (keep_cons rfl (keep_cons rfl (keep_cons rfl (keep_cons rfl (keep_cons rfl keep_nil))))), (.pick (p := 0) rfl (.pick (p := 0) rfl (.pick (p := 0) rfl (.pick (p := 0) rfl (.pick (p := 0) rfl .refl)))))⟩
               rintro ⟨x11_2, s_Wide⟩ _ a h;unfold P_s9_Check_L6 at h;dsimp only at h;refine T.at (s' := ⟨[], [(0, iv (x11)), (4, .ptr b4 0 4), (9, v_r_Books), (10, iv ((r_Books.length : Int))), (11, iv (x11_2))], .row b4 4 [iv (a14.away), iv (a14.climb), iv (s_Wide), iv (a14.high)] :: .row b7 4 [iv (a14.away), iv (a14.climb), iv (a14.wide), iv (a14.high)] :: ownL false v26 encI [(r_Shelves.length : Int)] :: ownL false v8 encI [(r_Classes.length : Int)] :: .row b1 3 [v_r_Classes, v_r_Shelves, v_r_Books] :: C⟩) rfl ?_;refine T.seq ?_;refine T.text rfl ?_;obtain ⟨c12_2, hc12_2⟩ : ∃ c : Bool, c = decide (x11_2 < (r_Books.length : Int)) := ⟨_, rfl⟩;refine TO.val rfl rfl rfl (Val.lss hc12_2 rfl rfl) ?_;refine TO.nil ?_;refine T.seq ?_;cases c12_2 with
               | true =>
                replace hc12_2 := of_decide_eq_true hc12_2.symm;rw [if_pos hc12_2] at h;refine T.condT (fun a ha => ha.ev (.tmp 12) _ rfl) ?_;refine T.skip ?_
                show T _ _ _ _ _ _;apply T.join (r := a) (W := Unit) (fun (j : Int) (w : Unit) => ⟨[], [(0, iv (x11)), (4, .ptr b4 0 4), (9, v_r_Books), (10, iv ((r_Books.length : Int))), (11, iv (x11_2))], .row b4 4 [iv (a14.away), iv (a14.climb), iv (j), iv (a14.high)] :: .row b7 4 [iv (a14.away), iv (a14.climb), iv (a14.wide), iv (a14.high)] :: ownL false v26 encI [(r_Shelves.length : Int)] :: ownL false v8 encI [(r_Classes.length : Int)] :: .row b1 3 [v_r_Classes, v_r_Shelves, v_r_Books] :: C⟩) h
                ·intro j h;refine T.block ?_;refine T.seq ?_;refine T.text rfl ?_;obtain ⟨a13, hia13, ea13, h⟩ := el_some h;refine TO.fact (rdl_at h_r_Books (memS (memS (memS (memS (memS (mem0)))))) hia13 ea13) (fun hp => ?_);obtain ⟨pa13, hpa13, hva13⟩ := hp;refine TO.val rfl rfl rfl (hva13 ⟨rfl, rfl⟩ rfl rfl) ?_;refine TO.val rfl rfl rfl (Val.load_es (c := [_, _, _, _, _, _, _]) hpa13 (memS (memS (memS (memS (memS (mem0)))))) ⟨⟨_, rfl, rfl⟩, rfl, by decide⟩ rfl rfl rfl) ?_;refine TO.alloc (k := 7) (cells := [_, _, _, _, _, _, _]) rfl rfl rfl rfl rfl rfl rfl (fun b7_2 => ?_);refine TO.eff0 rfl rfl (Eff.store_row (p := 0) (cv := [_, _, _, _, _, _, _]) (cells' := [_, _, _, _, _, _, _]) rfl rfl rfl rfl rfl rfl rfl rfl (by first | rfl | (simp [GS.one]; done)) (by decide) rfl) ?_;rintro _ rfl;refine TO.things (hs' := .row b7_2 7 [iv (a13.mark_class), iv (a13.mark_number), sv a13.mark_suffix, iv (a13.wide), iv (a13.high), iv (a13.heavy), iv (a13.shelf)] :: .row b4 4 [iv (a14.away), iv (a14.climb), iv (s_Wide), iv (a14.high)] :: .row b7 4 [iv (a14.away), iv (a14.climb), iv (a14.wide), iv (a14.high)] :: ownL false v26 encI [(r_Shelves.length : Int)] :: ownL false v8 encI [(r_Classes.length : Int)] :: .row b1 3 [v_r_Classes, v_r_Shelves, v_r_Books] :: C) rfl ?_;refine TO.nil ?_;refine T.seq ?_;refine T.seq ?_;refine T.text rfl ?_;refine TO.val rfl rfl rfl (Val.faddr_ptr (fo := 6) rfl rfl rfl) ?_;refine TO.val rfl rfl rfl (Val.load_row (p := 0) rfl ⟨_, rfl, rfl⟩ rfl rfl rfl) ?_;refine TO.val rfl rfl rfl (Val.move rfl) ?_;obtain ⟨c18, hc18⟩ : ∃ c : Bool, c = decide (¬ a13.shelf = x11) := ⟨_, rfl⟩;refine TO.val rfl rfl rfl (Val.neq hc18 rfl rfl) ?_;refine TO.nil ?_;cases c18 with
                 | true =>
                  replace hc18 := of_decide_eq_true hc18.symm;rw [if_pos hc18] at h;refine T.condT (fun a ha => ha.ev (.tmp 18) _ rfl) ?_;refine T.exit ?_;cases h;exact ⟨rfl, (), ⟨rfl, (keep_cons rfl (keep_cons rfl (keep_cons rfl (keep_cons rfl (keep_cons rfl keep_nil))))), (.pick (p := 1) rfl (.pick (p := 1) rfl (.pick (p := 1) rfl (.pick (p := 1) rfl (.pick (p := 1) rfl (.drop .refl))))))⟩⟩
                 | false =>
                  replace hc18 := of_decide_eq_false hc18.symm;rw [if_neg hc18] at h;refine T.condF (fun a ha => ha.ev (.tmp 18) _ rfl) ?_;refine T.skip ?_;refine T.seq ?_;refine T.text rfl ?_;refine TO.val rfl rfl rfl (Val.faddr_ptr (fo := 2) rfl rfl rfl) ?_;refine TO.val rfl rfl rfl (Val.load_row (p := 1) rfl ⟨_, rfl, rfl⟩ rfl rfl rfl) ?_;refine TO.val rfl rfl rfl (Val.faddr_ptr (fo := 3) rfl rfl rfl) ?_;refine TO.val rfl rfl rfl (Val.load_row (p := 0) rfl ⟨_, rfl, rfl⟩ rfl rfl rfl) ?_;obtain ⟨hk23, h⟩ := chk_some h;refine TO.val rfl rfl rfl (Val.sub rfl rfl hk23) ?_;refine TO.val rfl rfl rfl (Val.faddr_ptr (fo := 2) rfl rfl rfl) ?_;refine TO.eff0 rfl rfl (Eff.store_row (p := 1) (cv := [_]) (cells' := [_, _, _, _]) rfl rfl rfl rfl rfl rfl rfl rfl (by first | rfl | (simp [GS.one]; done)) (by decide) rfl) ?_;rintro _ rfl;refine TO.things (hs' := .row b7_2 7 [iv (a13.mark_class), iv (a13.mark_number), sv a13.mark_suffix, iv (a13.wide), iv (a13.high), iv (a13.heavy), iv (a13.shelf)] :: .row b4 4 [iv (a14.away), iv (a14.climb), iv ((s_Wide - a13.wide)), iv (a14.high)] :: .row b7 4 [iv (a14.away), iv (a14.climb), iv (a14.wide), iv (a14.high)] :: ownL false v26 encI [(r_Shelves.length : Int)] :: ownL false v8 encI [(r_Classes.length : Int)] :: .row b1 3 [v_r_Classes, v_r_Shelves, v_r_Books] :: C) rfl ?_;refine TO.nil ?_
                  show T _ _ _ _ _ _;apply T.joinA (r := j) (W := Unit) (fun (j : Bool) (w : Unit) => ⟨[], [(0, iv (x11)), (4, .ptr b4 0 4), (9, v_r_Books), (10, iv ((r_Books.length : Int))), (11, iv (x11_2)), (34, bv j)], .row b7_2 7 [iv (a13.mark_class), iv (a13.mark_number), sv a13.mark_suffix, iv (a13.wide), iv (a13.high), iv (a13.heavy), iv (a13.shelf)] :: .row b4 4 [iv (a14.away), iv (a14.climb), iv ((s_Wide - a13.wide)), iv (a14.high)] :: .row b7 4 [iv (a14.away), iv (a14.climb), iv (a14.wide), iv (a14.high)] :: ownL false v26 encI [(r_Shelves.length : Int)] :: ownL false v8 encI [(r_Classes.length : Int)] :: .row b1 3 [v_r_Classes, v_r_Shelves, v_r_Books] :: C⟩) h
                  ·intro j h;refine T.text rfl ?_;refine TO.val rfl rfl rfl (Val.faddr_ptr (fo := 2) rfl rfl rfl) ?_;refine TO.val rfl rfl rfl (Val.load_row (p := 1) rfl ⟨_, rfl, rfl⟩ rfl rfl rfl) ?_;obtain ⟨c27, hc27⟩ : ∃ c : Bool, c = decide ((s_Wide - a13.wide) < 0) := ⟨_, rfl⟩;refine TO.val rfl rfl rfl (Val.lss hc27 rfl rfl) ?_;refine TO.val rfl rfl rfl (Val.move rfl) ?_;cases c27 with
                   | true =>
                    replace hc27 := of_decide_eq_true hc27.symm;rw [if_pos hc27] at h;refine TO.off rfl rfl rfl ?_;refine TO.off rfl rfl rfl ?_;refine TO.off rfl rfl rfl ?_;refine TO.off rfl rfl rfl ?_;refine TO.off rfl rfl rfl ?_;refine TO.val rfl rfl rfl (Val.pick rfl rfl rfl) ?_;refine TO.nil ?_;cases h;exact ⟨rfl, (), ⟨rfl, (keep_cons rfl (keep_cons rfl (keep_cons rfl (keep_cons rfl (keep_cons rfl (keep_cons rfl keep_nil)))))), (.pick (p := 0) rfl (.pick (p := 0) rfl (.pick (p := 0) rfl (.pick (p := 0) rfl (.pick (p := 0) rfl (.pick (p := 0) rfl .refl))))))⟩⟩
                   | false =>
                    replace hc27 := of_decide_eq_false hc27.symm;rw [if_neg hc27] at h;refine TO.val rfl rfl rfl (Val.faddr_ptr (fo := 4) rfl rfl rfl) ?_;refine TO.val rfl rfl rfl (Val.load_row (p := 0) rfl ⟨_, rfl, rfl⟩ rfl rfl rfl) ?_;refine TO.val rfl rfl rfl (Val.faddr_ptr (fo := 3) rfl rfl rfl) ?_;refine TO.val rfl rfl rfl (Val.load_row (p := 1) rfl ⟨_, rfl, rfl⟩ rfl rfl rfl) ?_;obtain ⟨c33, hc33⟩ : ∃ c : Bool, c = decide (a13.high > a14.high) := ⟨_, rfl⟩;refine TO.val rfl rfl rfl (Val.gtr hc33 rfl rfl) ?_;refine TO.val rfl rfl rfl (Val.pick rfl rfl rfl) ?_;refine TO.nil ?_;subst hc33;cases h;exact ⟨rfl, (), ⟨rfl, (keep_cons rfl (keep_cons rfl (keep_cons rfl (keep_cons rfl (keep_cons rfl (keep_cons rfl keep_nil)))))), (.pick (p := 0) rfl (.pick (p := 0) rfl (.pick (p := 0) rfl (.pick (p := 0) rfl (.pick (p := 0) rfl (.pick (p := 0) rfl .refl))))))⟩⟩
                  ·rintro x34 _ h;skip;refine T.at (s' := ⟨[], [(0, iv (x11)), (4, .ptr b4 0 4), (9, v_r_Books), (10, iv ((r_Books.length : Int))), (11, iv (x11_2)), (34, bv x34)], .row b7_2 7 [iv (a13.mark_class), iv (a13.mark_number), sv a13.mark_suffix, iv (a13.wide), iv (a13.high), iv (a13.heavy), iv (a13.shelf)] :: .row b4 4 [iv (a14.away), iv (a14.climb), iv ((s_Wide - a13.wide)), iv (a14.high)] :: .row b7 4 [iv (a14.away), iv (a14.climb), iv (a14.wide), iv (a14.high)] :: ownL false v26 encI [(r_Shelves.length : Int)] :: ownL false v8 encI [(r_Classes.length : Int)] :: .row b1 3 [v_r_Classes, v_r_Shelves, v_r_Books] :: C⟩) rfl ?_;cases x34 with
                   | true =>
                    rw [if_pos rfl] at h;refine T.condT (fun a ha => ha.ev (.tmp 34) _ rfl) ?_;refine T.seq ?_;refine T.text rfl ?_;refine TO.val rfl rfl rfl (Val.assign rfl) ?_;refine TO.nil ?_;refine T.ret ?_;cases h;exact ⟨ret_ne, ⟨ret_ne, ⟨ret_ne, ⟨rfl, _, rfl, ⟨(), rfl, (.pick (p := 2) rfl (.pick (p := 2) rfl (.pick (p := 2) rfl (.pick (p := 2) rfl (.drop (.drop .refl))))))⟩⟩⟩⟩⟩
                   | false =>
                    rw [if_neg Bool.false_ne_true] at h;refine T.condF (fun a ha => ha.ev (.tmp 34) _ rfl) ?_;refine T.skip ?_;cases h;exact ⟨rfl, (), ⟨rfl, (keep_cons rfl (keep_cons rfl (keep_cons rfl (keep_cons rfl (keep_cons rfl keep_nil))))), (.pick (p := 1) rfl (.pick (p := 1) rfl (.pick (p := 1) rfl (.pick (p := 1) rfl (.pick (p := 1) rfl (.drop .refl))))))⟩⟩
                ·rintro s_Wide_2 _ h;skip;refine T.at (s' := ⟨[], [(0, iv (x11)), (4, .ptr b4 0 4), (9, v_r_Books), (10, iv ((r_Books.length : Int))), (11, iv (x11_2))], .row b4 4 [iv (a14.away), iv (a14.climb), iv (s_Wide_2), iv (a14.high)] :: .row b7 4 [iv (a14.away), iv (a14.climb), iv (a14.wide), iv (a14.high)] :: ownL false v26 encI [(r_Shelves.length : Int)] :: ownL false v8 encI [(r_Classes.length : Int)] :: .row b1 3 [v_r_Classes, v_r_Shelves, v_r_Books] :: C⟩) rfl ?_;refine T.text rfl ?_;obtain ⟨hk35, h⟩ := chk_some h;refine TO.val rfl rfl rfl (Val.add rfl rfl hk35) ?_;refine TO.val rfl rfl rfl (Val.move rfl) ?_;refine TO.nil ?_;cases h;exact ⟨rfl, (), ⟨rfl, (keep_cons rfl (keep_cons rfl (keep_cons rfl (keep_cons rfl (keep_cons rfl keep_nil))))), (.pick (p := 0) rfl (.pick (p := 0) rfl (.pick (p := 0) rfl (.pick (p := 0) rfl (.pick (p := 0) rfl .refl)))))⟩⟩
               | false =>
                replace hc12_2 := of_decide_eq_false hc12_2.symm;rw [if_neg hc12_2] at h;refine T.condF (fun a ha => ha.ev (.tmp 12) _ rfl) ?_;refine T.exit ?_;cases h;exact ⟨ex_ne, ⟨rfl, (), ⟨rfl, keep_nil, (.pick (p := 0) rfl (.pick (p := 0) rfl (.pick (p := 0) rfl (.pick (p := 0) rfl (.pick (p := 0) rfl .refl)))))⟩⟩⟩
              ·rintro s_Wide _ h;skip;refine T.at (s' := ⟨[], [], .row b4 4 [iv (a14.away), iv (a14.climb), iv (s_Wide), iv (a14.high)] :: .row b7 4 [iv (a14.away), iv (a14.climb), iv (a14.wide), iv (a14.high)] :: ownL false v26 encI [(r_Shelves.length : Int)] :: ownL false v8 encI [(r_Classes.length : Int)] :: .row b1 3 [v_r_Classes, v_r_Shelves, v_r_Books] :: C⟩) rfl ?_;refine T.seq ?_;refine T.text rfl ?_;refine TO.val rfl rfl rfl (Val.assign rfl) ?_;refine TO.nil ?_;refine T.ret ?_;cases h;exact ⟨rfl, _, rfl, ⟨(), rfl, (.pick (p := 1) rfl (.pick (p := 1) rfl (.pick (p := 1) rfl (.pick (p := 1) rfl (.drop .refl)))))⟩⟩
             ·rintro y19 _ h;refine TO.things (hs' := .row b7 4 [iv (a14.away), iv (a14.climb), iv (a14.wide), iv (a14.high)] :: ownL false v26 encI [(r_Shelves.length : Int)] :: ownL false v8 encI [(r_Classes.length : Int)] :: .row b1 3 [v_r_Classes, v_r_Shelves, v_r_Books] :: C) rfl ?_;refine TO.val rfl rfl rfl (Val.assign rfl) ?_;refine TO.nil ?_;refine T.seq ?_;refine T.text rfl ?_;refine TO.val rfl rfl rfl (Val.move rfl) ?_;obtain ⟨c21, hc21⟩ : ∃ c : Bool, c = decide (¬ y19 = 0) := ⟨_, rfl⟩;refine TO.val rfl rfl rfl (Val.neq hc21 rfl rfl) ?_;refine TO.nil ?_;cases c21 with
              | true =>
               replace hc21 := of_decide_eq_true hc21.symm;rw [if_pos hc21] at h;refine T.condT (fun a ha => ha.ev (.tmp 21) _ rfl) ?_;refine T.seq ?_;refine T.text rfl ?_;refine TO.val rfl rfl rfl (Val.move rfl) ?_;refine TO.val rfl rfl rfl (Val.move rfl) ?_;refine TO.val rfl rfl rfl (Val.assign rfl) ?_;refine TO.val rfl rfl rfl (Val.assign rfl) ?_;refine TO.nil ?_;refine T.ret ?_;cases h;exact ⟨ret_ne, ⟨ret_ne, ⟨rfl, _, rfl, ⟨(), rfl, (.pick (p := 1) rfl (.pick (p := 1) rfl (.pick (p := 1) rfl (.drop .refl))))⟩⟩⟩⟩
              | false =>
               replace hc21 := of_decide_eq_false hc21.symm;rw [if_neg hc21] at h;refine T.condF (fun a ha => ha.ev (.tmp 21) _ rfl) ?_;refine T.skip ?_;refine T.text rfl ?_;obtain ⟨hk24, h⟩ := chk_some h;refine TO.val rfl rfl rfl (Val.add rfl rfl hk24) ?_;refine TO.val rfl rfl rfl (Val.move rfl) ?_;refine TO.nil ?_;cases h;exact ⟨rfl, (), ⟨rfl, (keep_cons rfl (keep_cons rfl (keep_cons rfl (keep_cons rfl keep_nil)))), (.pick (p := 1) rfl (.pick (p := 1) rfl (.pick (p := 1) rfl (.drop .refl))))⟩⟩
            | false =>
             replace hc12 := of_decide_eq_false hc12.symm;rw [if_neg hc12] at h;refine T.condF (fun a ha => ha.ev (.tmp 12) _ rfl) ?_;refine T.exit ?_;cases h;exact ⟨ex_ne, ⟨rfl, (), ⟨rfl, keep_nil, (.pick (p := 0) rfl (.pick (p := 0) rfl (.pick (p := 0) rfl .refl)))⟩⟩⟩
           ·rintro _ _ h;skip;refine T.at (s' := ⟨[], [], ownL false v26 encI [(r_Shelves.length : Int)] :: ownL false v8 encI [(r_Classes.length : Int)] :: .row b1 3 [v_r_Classes, v_r_Shelves, v_r_Books] :: C⟩) rfl ?_;refine T.seq ?_;refine T.text rfl ?_;refine TO.val rfl rfl rfl (Val.assign rfl) ?_;refine TO.val rfl rfl rfl (Val.assign rfl) ?_;refine TO.nil ?_;refine T.ret ?_;cases h;exact ⟨rfl, _, rfl, ⟨(), rfl, (.pick (p := 0) rfl (.pick (p := 0) rfl (.pick (p := 0) rfl .refl)))⟩⟩
          ·rintro ⟨y59, y59_2⟩ _ h;dsimp only at h;refine TO.things (hs' := ownL false v26 encI [(r_Shelves.length : Int)] :: ownL false v8 encI [(r_Classes.length : Int)] :: .row b1 3 [v_r_Classes, v_r_Shelves, v_r_Books] :: C) rfl ?_;refine TO.val rfl rfl rfl (Val.move rfl) ?_;refine TO.val rfl rfl rfl (Val.extract rfl rfl) ?_;refine TO.val rfl rfl rfl (Val.extract rfl rfl) ?_;refine TO.val rfl rfl rfl (Val.assign rfl) ?_;refine TO.val rfl rfl rfl (Val.assign rfl) ?_;refine TO.nil ?_;refine T.seq ?_;refine T.seq ?_;refine T.text rfl ?_;refine TO.val rfl rfl rfl (Val.move rfl) ?_;obtain ⟨c63, hc63⟩ : ∃ c : Bool, c = decide (¬ y59_2 = 0) := ⟨_, rfl⟩;refine TO.val rfl rfl rfl (Val.neq hc63 rfl rfl) ?_;refine TO.nil ?_;cases c63 with
           | true =>
            replace hc63 := of_decide_eq_true hc63.symm;rw [if_pos hc63] at h;refine T.condT (fun a ha => ha.ev (.tmp 63) _ rfl) ?_;refine T.seq ?_;refine T.text rfl ?_;refine TO.val rfl rfl rfl (Val.move rfl) ?_;refine TO.val rfl rfl rfl (Val.move rfl) ?_;refine TO.val rfl rfl rfl (Val.assign rfl) ?_;refine TO.val rfl rfl rfl (Val.assign rfl) ?_;refine TO.val rfl rfl rfl (Val.assign rfl) ?_;refine TO.nil ?_;refine T.ret ?_;cases h;exact ⟨rfl, _, rfl, ⟨(), rfl, (.drop (.drop (.drop .refl)))⟩⟩
           | false =>
            replace hc63 := of_decide_eq_false hc63.symm;rw [if_neg hc63] at h;refine T.condF (fun a ha => ha.ev (.tmp 63) _ rfl) ?_;refine T.skip ?_;refine T.seq ?_;refine T.text rfl ?_;refine TO.val rfl rfl rfl (Val.assign rfl) ?_;refine TO.val rfl rfl rfl (Val.assign rfl) ?_;refine TO.val rfl rfl rfl (Val.assign rfl) ?_;refine TO.nil ?_;refine T.ret ?_;cases h;exact ⟨rfl, _, rfl, ⟨(), rfl, (.drop (.drop (.drop .refl)))⟩⟩
theorem w_s9_Check (r_Classes : GS encStr) (r_Shelves : GS enc_api_SfShelf) (r_Books : GS enc_api_SfBook) (r : Int × Int × Int) (h : P_s9_Check r_Classes.l r_Shelves.l r_Books.l = some r) : Comes (EL 0) 16 [.agg [r_Classes.v, r_Shelves.v, r_Books.v]] (.tuple [iv r.1, iv r.2.1, iv r.2.2]) :=
 TF.run (tf_s9_Check (Nat.le_refl _) (RdT.gs r_Classes) (RdT.gs r_Shelves) (RdT.gs r_Books) h) fun w => (.tuple (.cons .lit (.cons .lit (.cons .lit .nil))))
set_option maxRecDepth 10000 in
theorem tf_s9_open {k : Nat} (hk : 1 ≤ k) {C : List Thing} {v_r_Classes : AV} {r_Classes : List Str} {v_r_Shelves : AV} {r_Shelves : List S_api_SfShelf} {v_r_Books : AV} {r_Books : List S_api_SfBook} (h_r_Classes : Rdl C encStr v_r_Classes r_Classes) (h_r_Shelves : Rdl C enc_api_SfShelf v_r_Shelves r_Shelves) (h_r_Books : Rdl C enc_api_SfBook v_r_Books r_Books) {r : Int} (h : P_s9_open r_Classes r_Shelves r_Books = some r) :
  TF (EL k) 77 [.agg [v_r_Classes, v_r_Shelves, v_r_Books]] C (RepF (fun (w : Unit) => .tuple [.agg [v_r_Classes, v_r_Shelves, v_r_Books], iv r]) (fun (w : Unit) => C)) := by
 unfold P_s9_open at h;refine TF.enterG (fn := Go.Proofs.Tryz.f77) rfl rfl rfl rfl rfl ?_;refine T.seq ?_;refine T.text rfl ?_;refine TO.box (k := 3) (cells := [_, _, _]) rfl rfl rfl rfl rfl rfl rfl (fun b1 => ?_);refine TO.alloc (k := 3) (cells := [_, _, _]) rfl rfl rfl rfl rfl rfl rfl (fun b2 => ?_);refine TO.val rfl rfl rfl (Val.assign rfl) ?_;refine TO.nil ?_;refine T.seq ?_;refine T.text rfl ?_;refine TO.val rfl rfl rfl (Val.load_rows (p := 1) (c := [_, _, _]) rfl ⟨⟨_, rfl, rfl⟩, rfl, by decide⟩ rfl rfl rfl rfl) ?_;obtain ⟨⟨y9, y9_2, y9_3⟩, hr9, h⟩ := andx_some h;dsimp only at h;obtain ⟨g, hgg, hrg⟩ := Rdl.reif (hs := .row b2 3 [nilS, nilS, nilS] :: .row b1 3 [v_r_Classes, v_r_Shelves, v_r_Books] :: C) h_r_Classes (memS (memS (mem0))) (ReifL.flat encStr_tr);obtain ⟨g_2, hgg_2, hrg_2⟩ := Rdl.reif (hs := .row b2 3 [nilS, nilS, nilS] :: .row b1 3 [v_r_Classes, v_r_Shelves, v_r_Books] :: C) h_r_Shelves (memS (memS (mem0))) (ReifL.flat enc_api_SfShelf_tr);obtain ⟨g_3, hgg_3, hrg_3⟩ := Rdl.reif (hs := .row b2 3 [nilS, nilS, nilS] :: .row b1 3 [v_r_Classes, v_r_Shelves, v_r_Books] :: C) h_r_Books (memS (memS (mem0))) (ReifL.flat enc_api_SfBook_tr);refine TO.call rfl rfl rfl rfl rfl (orcL rfl (by first | decide | omega)) (.cons (.agg (.cons (hrg _) (.cons (hrg_2 _) (.cons (hrg_3 _) .nil)))) .nil) (sem_of (w_s9_Check g g_2 g_3 _ (by try rw [hgg]; try rw [hgg_2]; try rw [hgg_3]; exact hr9))) ?_;refine TO.val rfl rfl rfl (Val.move rfl) ?_;refine TO.val rfl rfl rfl (Val.extract rfl rfl) ?_;refine TO.val rfl rfl rfl (Val.extract rfl rfl) ?_;refine TO.val rfl rfl rfl (Val.extract rfl rfl) ?_;refine TO.val rfl rfl rfl (Val.assign rfl) ?_;refine TO.val rfl rfl rfl (Val.assign rfl) ?_;refine TO.val rfl rfl rfl (Val.assign rfl) ?_;refine TO.nil ?_;refine T.seq ?_;refine T.text rfl ?_;refine TO.val rfl rfl rfl (Val.load_rows (p := 1) (c := [_, _, _]) rfl ⟨⟨_, rfl, rfl⟩, rfl, by decide⟩ rfl rfl rfl rfl) ?_;refine TO.val rfl rfl rfl (Val.buildC (cs := [_, _, _]) (vs := [(_, _)]) (ws := [(_, [_, _, _])]) rfl rfl (CellsL.cons rfl CellsL.nil) rfl) ?_;refine TO.val rfl rfl rfl (Val.move rfl) ?_;refine TO.fact (rdl_cellS h_r_Classes (memS (memS (mem0)))) (fun hor_Classes => ?_);refine TO.fact (rdl_cellS h_r_Shelves (memS (memS (mem0)))) (fun hor_Shelves => ?_);refine TO.fact (rdl_cellS h_r_Books (memS (memS (mem0)))) (fun hor_Books => ?_);refine TO.eff0 rfl rfl (Eff.store_row (p := 0) (cv := [_, _, _]) (cells' := [_, _, _]) rfl rfl rfl rfl rfl rfl rfl rfl (by first | rfl | (simp [GS.one, hor_Classes.2, hor_Shelves.2, hor_Books.2]; done) | (simp [GS.one, hor_Classes.2, hor_Shelves.2, hor_Books.2]; (repeat' apply And.intro) <;> rfl)) (by decide) rfl) ?_;rintro _ rfl;refine TO.things (hs' := .row b2 3 [v_r_Classes, v_r_Shelves, v_r_Books] :: .row b1 3 [v_r_Classes, v_r_Shelves, v_r_Books] :: C) rfl ?_;refine TO.val rfl rfl rfl (Val.assign rfl) ?_;refine TO.nil ?_;refine T.ret ?_;cases h;exact ⟨rfl, _, rfl, [_, _], ⟨⟨_, rfl, LoadR.rows (p := 0) (c := [_, _, _]) rfl ⟨⟨_, rfl, rfl⟩, rfl, by decide⟩ rfl rfl rfl⟩, ⟨rfl, trivial⟩⟩, ⟨(), rfl, (.drop (.drop .refl))⟩⟩
set_option maxRecDepth 10000 in
theorem tf_law9_valid {k : Nat} (hk : 1 ≤ k) {C : List Thing} {v_r_Classes : AV} {r_Classes : List Str} {v_r_Shelves : AV} {r_Shelves : List S_api_SfShelf} {v_r_Books : AV} {r_Books : List S_api_SfBook} (h_r_Classes : Rdl C encStr v_r_Classes r_Classes) (h_r_Shelves : Rdl C enc_api_SfShelf v_r_Shelves r_Shelves) (h_r_Books : Rdl C enc_api_SfBook v_r_Books r_Books) {r : Bool} (h : P_law9_valid r_Classes r_Shelves r_Books = some r) :
  TF (EL k) 43 [.agg [v_r_Classes, v_r_Shelves, v_r_Books]] C (RepF (fun (w : Unit) => bv r) (fun (w : Unit) => C)) := by
 unfold P_law9_valid at h;refine TF.enter (fn := Go.Proofs.Tryz.f43) rfl rfl rfl rfl rfl ?_;refine T.seq ?_;refine T.text rfl ?_;refine TO.box (k := 3) (cells := [_, _, _]) rfl rfl rfl rfl rfl rfl rfl (fun b1 => ?_);refine TO.val rfl rfl rfl (Val.assign rfl) ?_;refine TO.nil ?_;refine T.seq ?_;refine T.text rfl ?_;refine TO.val rfl rfl rfl (Val.load_rows (p := 0) (c := [_, _, _]) rfl ⟨⟨_, rfl, rfl⟩, rfl, by decide⟩ rfl rfl rfl rfl) ?_;obtain ⟨⟨y8, y8_2, y8_3⟩, hr8, h⟩ := andx_some h;dsimp only at h;obtain ⟨g, hgg, hrg⟩ := Rdl.reif (hs := .row b1 3 [v_r_Classes, v_r_Shelves, v_r_Books] :: C) h_r_Classes (memS (mem0)) (ReifL.flat encStr_tr);obtain ⟨g_2, hgg_2, hrg_2⟩ := Rdl.reif (hs := .row b1 3 [v_r_Classes, v_r_Shelves, v_r_Books] :: C) h_r_Shelves (memS (mem0)) (ReifL.flat enc_api_SfShelf_tr);obtain ⟨g_3, hgg_3, hrg_3⟩ := Rdl.reif (hs := .row b1 3 [v_r_Classes, v_r_Shelves, v_r_Books] :: C) h_r_Books (memS (mem0)) (ReifL.flat enc_api_SfBook_tr);refine TO.call rfl rfl rfl rfl rfl (orcL rfl (by first | decide | omega)) (.cons (.agg (.cons (hrg _) (.cons (hrg_2 _) (.cons (hrg_3 _) .nil)))) .nil) (sem_of (w_r9_Check g g_2 g_3 _ (by try rw [hgg]; try rw [hgg_2]; try rw [hgg_3]; exact hr8))) ?_;refine TO.val rfl rfl rfl (Val.move rfl) ?_;refine TO.val rfl rfl rfl (Val.extract rfl rfl) ?_;refine TO.val rfl rfl rfl (Val.extract rfl rfl) ?_;refine TO.val rfl rfl rfl (Val.extract rfl rfl) ?_;refine TO.val rfl rfl rfl (Val.assign rfl) ?_;refine TO.val rfl rfl rfl (Val.assign rfl) ?_;refine TO.val rfl rfl rfl (Val.assign rfl) ?_;refine TO.nil ?_;refine T.seq ?_;refine T.text rfl ?_;refine TO.val rfl rfl rfl (Val.move rfl) ?_;obtain ⟨c13, hc13⟩ : ∃ c : Bool, c = decide (y8_3 = 0) := ⟨_, rfl⟩;refine TO.val rfl rfl rfl (Val.eql hc13 rfl rfl) ?_;refine TO.val rfl rfl rfl (Val.assign rfl) ?_;refine TO.nil ?_;refine T.ret ?_;subst hc13;cases h;exact ⟨rfl, _, rfl, ⟨(), rfl, (.drop .refl)⟩⟩
end Go.Am.YtiaolgbmbhldgaaGreatDoor
end
section
namespace Go.Am
set_option linter.unusedVariables false
noncomputable def P_cmpOr_L1 (vals : List Int) : Int → Option (Stp Int (Ex Unit Int)) := fun x8 =>
  if x8 < (vals.length : Int) then
    el vals x8 fun a10 =>
    if ¬ a10 = 0 then
      some (Stp.dn (Ex.rt a10))
    else
      chk (I64 (x8 + 1)) (
        some (Stp.ag (x8 + 1)))
  else
    some (Stp.dn (Ex.nx ()))
noncomputable def P_cmpOr (vals : List Int) : Option Int :=
  seqx (
    iter (P_cmpOr_L1 vals) 0) fun _ =>
    some 0
noncomputable def P_cmpInt (x : Int) (y : Int) : Option Int :=
 if ¬ x = x then
  if ¬ y = y then
   some 0
  else
   some (-1)
 else
  if ¬ y = y then
   some 1
  else
   if x < y then
    some (-1)
   else
    if x > y then
     some 1
    else
     some 0
noncomputable def P_s9_compare (a_Class : Int) (a_Number : Int) (a_Suffix : Str) (b_Class : Int) (b_Number : Int) (b_Suffix : Str) : Option Int :=
  if a_Class = b_Class ∧ a_Number = b_Number ∧ a_Suffix = b_Suffix then
    some 0
  else
    chk (I64 (a_Class - b_Class)) (
      chk (I64 (a_Number - b_Number)) (
        chk (I64 ((a_Suffix.length : Int) - (b_Suffix.length : Int))) (
          andx (P_cmpOr [(a_Class - b_Class), (a_Number - b_Number), ((a_Suffix.length : Int) - (b_Suffix.length : Int)), (cmpS a_Suffix b_Suffix)]) fun y31 =>
            some y31)))
noncomputable def P_s9_Before_L1 (r_Classes : List Str) (r_Shelves : List S_api_SfShelf) (r_Books : List S_api_SfBook) (a_Class : Int) (a_Number : Int) (a_Suffix : Str) (b_Class : Int) (b_Number : Int) (b_Suffix : Str) : (Int × Int) → Option (Stp (Int × Int) Int) := fun (e, x21) =>
  if x21 < ([(⟨a_Class, a_Number, a_Suffix⟩ : S_api_SfMark), (⟨b_Class, b_Number, b_Suffix⟩ : S_api_SfMark)].length : Int) then
    andx (
      el [(⟨a_Class, a_Number, a_Suffix⟩ : S_api_SfMark), (⟨b_Class, b_Number, b_Suffix⟩ : S_api_SfMark)] x21 fun a23 =>
      if e = 0 then
        andx (P_s9_mark r_Classes r_Shelves r_Books a23.classv a23.number a23.suffix) fun y29 =>
          some y29
      else
        some e) fun e_2 =>
      chk (I64 (x21 + 1)) (
        some (Stp.ag (e_2, (x21 + 1))))
  else
    some (Stp.dn e)
noncomputable def P_s9_Before (r_Classes : List Str) (r_Shelves : List S_api_SfShelf) (r_Books : List S_api_SfBook) (a_Class : Int) (a_Number : Int) (a_Suffix : Str) (b_Class : Int) (b_Number : Int) (b_Suffix : Str) : Option (Int × Int) :=
  andx (P_s9_open r_Classes r_Shelves r_Books) fun y14 =>
    andx (
      iter (P_s9_Before_L1 r_Classes r_Shelves r_Books a_Class a_Number a_Suffix b_Class b_Number b_Suffix) (y14, 0)) fun e =>
      if ¬ e = 0 then
        some (0, e)
      else
        andx (P_s9_compare a_Class a_Number a_Suffix b_Class b_Number b_Suffix) fun y36 =>
          andx (P_cmpInt y36 0) fun y37 =>
            some (y37, 0)
noncomputable def P_law_ShelfOrder (r_Classes : List Str) (r_Shelves : List S_api_SfShelf) (r_Books : List S_api_SfBook) (x_0_Class : Int) (x_0_Number : Int) (x_0_Suffix : Str) (x_1_Class : Int) (x_1_Number : Int) (x_1_Suffix : Str) (x_2_Class : Int) (x_2_Number : Int) (x_2_Suffix : Str) : Option Bool :=
  andx (P_s9_Before r_Classes r_Shelves r_Books x_0_Class x_0_Number x_0_Suffix x_1_Class x_1_Number x_1_Suffix) fun (y19, y19_2) =>
    andx (P_s9_Before r_Classes r_Shelves r_Books x_1_Class x_1_Number x_1_Suffix x_0_Class x_0_Number x_0_Suffix) fun (y28, y28_2) =>
      andx (P_s9_Before r_Classes r_Shelves r_Books x_1_Class x_1_Number x_1_Suffix x_2_Class x_2_Number x_2_Suffix) fun (y37, y37_2) =>
        andx (P_s9_Before r_Classes r_Shelves r_Books x_0_Class x_0_Number x_0_Suffix x_2_Class x_2_Number x_2_Suffix) fun (y46, y46_2) =>
          seqx (
            andx (
              andx (P_law9_valid r_Classes r_Shelves r_Books) fun y50 =>
                if y50 = true then
                  some (decide (¬ y19_2 = 0))
                else
                  some true) fun x55 =>
              if x55 = true then
                andx (
                  if ¬ y19_2 = 0 then
                    if ¬ y28_2 = 0 then
                      if y19 = 0 then
                        if y28 = 0 then
                          some true
                        else
                          some false
                      else
                        some false
                    else
                      some false
                  else
                    some false) fun x4 =>
                  some (Ex.rt x4)
              else
                some (Ex.nx ())) fun _ =>
            seqx (
              andx (
                if ¬ y28_2 = 0 then
                  some true
                else
                  chk (I64 (-y28)) (
                    if ¬ y19 = (-y28) then
                      some true
                    else
                      if ¬ ((decide (y19 = 0)) = (decide (x_0_Class = x_1_Class ∧ x_0_Number = x_1_Number ∧ x_0_Suffix = x_1_Suffix))) then
                        some true
                      else
                        if y19 < (-1) then
                          some true
                        else
                          some (decide (y19 > 1)))) fun x98 =>
                if x98 = true then
                  some (Ex.rt false)
                else
                  some (Ex.nx ())) fun _ =>
              andx (
                if ¬ y37_2 = 0 then
                  some true
                else
                  if y46_2 = 0 then
                    if ¬ y19 = (-1) then
                      some true
                    else
                      if ¬ y37 = (-1) then
                        some true
                      else
                        if y46 = (-1) then
                          some true
                        else
                          some false
                  else
                    some false) fun x4 =>
                some x4
end Go.Am
end
