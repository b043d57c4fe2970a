/- Part 10. -/
import Derived.Test.YtiaolgbmbhldgaaGreatDoorShelfSpareP1
import Derived.Test.YtiaolgbmbhldgaaGreatDoorShelfSpareP2
import Derived.Test.YtiaolgbmbhldgaaGreatDoorShelfSpareP9
section
namespace Go.Am.YtiaolgbmbhldgaaGreatDoor
open Go.Am Go.RowKit
def lev : Nat → Option Nat
 | 15 => some 2
 | 16 => some 0
 | 17 => some 0
 | 28 => some 1
 | _ => none
noncomputable def baseE : Orc' := fun f => match f with | 24 => some (table [([], .lit (.bool true))]) | _ => none
theorem baseE_ok : ∀ f g, baseE f = some g → Meets Go.Proofs.Tryz.prog f g := fun f g h => by
 unfold baseE at h;split at h
 ·cases h; exact Closed.awake_meets
 ·cases h
noncomputable def EL (k : Nat) : Env := envS (orsB baseE envS lev k)
theorem EL_good (k : Nat) : EnvGood (EL k) := orsB_good (P := Go.Proofs.Tryz.prog) (fun _ => rfl) (fun _ => rfl) baseE_ok (fun _ h => goodS h) (fun _ => rfl) k
theorem orcL {f j k : Nat} (h : lev f = some j) (hk : j < k) : (EL k).orc f = some (sem (EL j) f) := orsLB (fun _ => rfl) h hk
theorem orcN {f k : Nat} (h : levB baseE lev f = none) : (EL k).orc f = none := orsNB (fun _ => rfl) h
theorem orcA {k : Nat} : (EL k).orc 24 = some (table [([], .lit (.bool true))]) := by
 show orsB baseE envS lev k 24 = _;rw [orsB_base rfl];rfl
theorem bo_ty4 {k : Nat} : pureVal (EL k).P (underlying 4) = some .bool := show pureVal Go.Proofs.Tryz.prog (underlying 4) = some .bool by kernel_rfl
theorem hu_cv2 : pureVal Go.Proofs.Tryz.prog (underlying 2) = some Go.Proofs.Tryz.t2.desc := by kernel_rfl
theorem hu_cv3 : pureVal Go.Proofs.Tryz.prog (underlying 3) = some Go.Proofs.Tryz.t3.desc := by kernel_rfl
theorem hu_cv5 : pureVal Go.Proofs.Tryz.prog (underlying 5) = some Go.Proofs.Tryz.t5.desc := by kernel_rfl
theorem hu_cv65 : pureVal Go.Proofs.Tryz.prog (underlying 65) = some Go.Proofs.Tryz.t65.desc := by kernel_rfl
theorem hu_cv172 : pureVal Go.Proofs.Tryz.prog (underlying 172) = some Go.Proofs.Tryz.t172.desc := by kernel_rfl
theorem hu_cv194 : pureVal Go.Proofs.Tryz.prog (underlying 194) = some Go.Proofs.Tryz.t194.desc := by kernel_rfl
theorem hu_cv196 : pureVal Go.Proofs.Tryz.prog (underlying 196) = some Go.Proofs.Tryz.t196.desc := by kernel_rfl
theorem hu_cv207 : pureVal Go.Proofs.Tryz.prog (underlying 207) = some Go.Proofs.Tryz.t196.desc := by kernel_rfl
theorem cv_ty5_3 {k : Nat} {a : Int} (h : -9223372036854775808 ≤ a ∧ a < 9223372036854775808) : pureVal (EL k).P (convert 5 3 (.int .u8 a)) = some (.int .i64 a) := pure_conv (P := Go.Proofs.Tryz.prog) hu_cv5 hu_cv3 (wrap_id h.1 h.2)
theorem cv_ty65_3 {k : Nat} {a : Int} (h : -9223372036854775808 ≤ a ∧ a < 9223372036854775808) : pureVal (EL k).P (convert 65 3 (.int .u16 a)) = some (.int .i64 a) := pure_conv (P := Go.Proofs.Tryz.prog) hu_cv65 hu_cv3 (wrap_id h.1 h.2)
theorem cv_ty172_3 {k : Nat} {a : Int} (h : -9223372036854775808 ≤ a ∧ a < 9223372036854775808) : pureVal (EL k).P (convert 172 3 (.int .u64 a)) = some (.int .i64 a) := pure_conv (P := Go.Proofs.Tryz.prog) hu_cv172 hu_cv3 (wrap_id h.1 h.2)
theorem cv_ty196_2 {k : Nat} {a : Int} (h : -9223372036854775808 ≤ a ∧ a < 9223372036854775808) : pureVal (EL k).P (convert 196 2 (.int .u64 a)) = some (.int .i64 a) := pure_conv (P := Go.Proofs.Tryz.prog) hu_cv196 hu_cv2 (wrap_id h.1 h.2)
theorem hu_ty28 : pureVal Go.Proofs.Tryz.prog (underlying 28) = some Go.Proofs.Tryz.t27.desc := by kernel_rfl
theorem eql_ty28 {k : Nat} (x y : Operand) (a0 : Int) (a1 : Int) (a2 : Str) (b0 : Int) (b1 : Int) (b2 : Str) : abin (EL k) .eql 28 x y (.agg [iv a0, iv a1, sv a2]) (.agg [iv b0, iv b1, sv b2]) = .ok (bv (a0 == b0 && a1 == b1 && a2 == b2)) ∧ ((a0 == b0 && a1 == b1 && a2 == b2) = true ↔ a0 = b0 ∧ a1 = b1 ∧ a2 = b2) := by
 refine ⟨abin_agg (A := .agg #[.int .i64 a0, .int .i64 a1, .string ⟨a2.toArray⟩]) (B := .agg #[.int .i64 b0, .int .i64 b1, .string ⟨b2.toArray⟩]) (by simp) rfl rfl ?_ (bin_eql (pure_eqF3 (hu_ty28) ?_ (.int (by decide) ⟨.i64, by kernel_rfl⟩ (by kernel_rfl) (by kernel_rfl)) (.int (by decide) ⟨.i64, by kernel_rfl⟩ (by kernel_rfl) (by kernel_rfl)) (.str (by decide) (by kernel_rfl) (by kernel_rfl) (by kernel_rfl)))), by by_cases h0 : a0 = b0 <;> by_cases h1 : a1 = b1 <;> by_cases h2 : a2 = b2 <;> simp [h0, h1, h2]⟩
 all_goals kernel_rfl
theorem neq_ty28 {k : Nat} (x y : Operand) (a0 : Int) (a1 : Int) (a2 : Str) (b0 : Int) (b1 : Int) (b2 : Str) : abin (EL k) .neq 28 x y (.agg [iv a0, iv a1, sv a2]) (.agg [iv b0, iv b1, sv b2]) = .ok (bv (!(a0 == b0 && a1 == b1 && a2 == b2))) ∧ ((!(a0 == b0 && a1 == b1 && a2 == b2)) = true ↔ ¬ (a0 = b0 ∧ a1 = b1 ∧ a2 = b2)) := by
 refine ⟨abin_agg (A := .agg #[.int .i64 a0, .int .i64 a1, .string ⟨a2.toArray⟩]) (B := .agg #[.int .i64 b0, .int .i64 b1, .string ⟨b2.toArray⟩]) (by simp) rfl rfl ?_ (bin_neq (pure_eqF3 (hu_ty28) ?_ (.int (by decide) ⟨.i64, by kernel_rfl⟩ (by kernel_rfl) (by kernel_rfl)) (.int (by decide) ⟨.i64, by kernel_rfl⟩ (by kernel_rfl) (by kernel_rfl)) (.str (by decide) (by kernel_rfl) (by kernel_rfl) (by kernel_rfl)))), by by_cases h0 : a0 = b0 <;> by_cases h1 : a1 = b1 <;> by_cases h2 : a2 = b2 <;> simp [h0, h1, h2]⟩
 all_goals kernel_rfl
end Go.Am.YtiaolgbmbhldgaaGreatDoor
end
section
namespace Go.Am
set_option linter.unusedVariables false
structure S_api_SfShelf where
 away : Int
 climb : Int
 wide : Int
 high : Int
def enc_api_SfShelf : En S_api_SfShelf := ⟨4, fun x => [iv x.away, iv x.climb, iv x.wide, iv x.high], fun _ => rfl⟩
theorem enc_api_SfShelf_tr : enc_api_SfShelf.Tr := fun _ _ _ => .cons .lit (.cons .lit (.cons .lit (.cons .lit (.nil))))
structure S_api_SfBook where
 mark_class : Int
 mark_number : Int
 mark_suffix : Str
 wide : Int
 high : Int
 heavy : Int
 shelf : Int
def enc_api_SfBook : En S_api_SfBook := ⟨7, fun x => [iv x.mark_class, iv x.mark_number, sv x.mark_suffix, iv x.wide, iv x.high, iv x.heavy, iv x.shelf], fun _ => rfl⟩
theorem enc_api_SfBook_tr : enc_api_SfBook.Tr := fun _ _ _ => .cons .lit (.cons .lit (.cons .lit (.cons .lit (.cons .lit (.cons .lit (.cons .lit (.nil)))))))
end Go.Am
end
section
namespace Go.Am
set_option linter.unusedVariables false
noncomputable def P_r9_in (n : Int) (low : Int) (high : Int) : Option Bool :=
  andx (
    if low ≤ n then
      some (decide (n ≤ high))
    else
      some false) fun x6 =>
    some x6
noncomputable def P_r9_letters_L1 (s : Str) : Int → Option (Stp Int (Ex Unit Bool)) := fun i =>
  if i < (s.length : Int) then
    seqx (
      andx (
        chk (0 ≤ i ∧ i < (s.length : Int)) (
          if (byteAt s i) < 97 then
            some true
          else
            chk (0 ≤ i ∧ i < (s.length : Int)) (
              some (decide ((byteAt s i) > 122))))) fun x19 =>
        if x19 = true then
          some (Ex.rt (Stp.dn (Ex.rt false)))
        else
          some (Ex.nx ())) fun _ =>
      chk (I64 (i + 1)) (
        some (Stp.ag (i + 1)))
  else
    some (Stp.dn (Ex.nx ()))
noncomputable def P_r9_letters (s : Str) : Option Bool :=
  seqx (
    iter (P_r9_letters_L1 s) 0) fun _ =>
    some true
noncomputable def P_r1_Name_L1 (s : Str) : Int → Option (Stp Int (Ex Unit Bool)) := fun i =>
  if i < (s.length : Int) then
    seqx (
      andx (
        chk (0 ≤ i ∧ i < (s.length : Int)) (
          andx (
            if (byteAt s i) ≥ 97 then
              some (decide ((byteAt s i) ≤ 122))
            else
              some false) fun x2 =>
            if x2 = true then
              some false
            else
              if i = 0 then
                some true
              else
                chk (0 ≤ i ∧ i < (s.length : Int)) (
                  andx (
                    if (byteAt s i) ≥ 48 then
                      some (decide ((byteAt s i) ≤ 57))
                    else
                      some false) fun x2_2 =>
                    if x2_2 = true then
                      some false
                    else
                      chk (0 ≤ i ∧ i < (s.length : Int)) (
                        some (decide (¬ (byteAt s i) = 46)))))) fun x39 =>
        if x39 = true then
          some (Ex.rt (Stp.dn (Ex.rt false)))
        else
          some (Ex.nx ())) fun _ =>
      chk (I64 (i + 1)) (
        some (Stp.ag (i + 1)))
  else
    some (Stp.dn (Ex.nx ()))
noncomputable def P_r1_Name (s : Str) : Option Bool :=
  seqx (
    andx (
      if (s.length : Int) = 0 then
        some true
      else
        some (decide ((s.length : Int) > 16))) fun x11 =>
      if x11 = true then
        some (Ex.rt false)
      else
        some (Ex.nx ())) fun _ =>
    seqx (
      iter (P_r1_Name_L1 s) 0) fun _ =>
      some true
noncomputable def P_r1_Place_L1 (list : List Str) (word : Str) : Int → Option (Stp Int Int) := fun at_ =>
  seqx (
    andx (
      if at_ ≥ 0 then
        el list at_ fun a15 =>
        some (decide (¬ a15 = word))
      else
        some false) fun x19 =>
      if x19 = true then
        some (Ex.nx ())
      else
        some (Ex.rt (Stp.dn at_))) fun _ =>
    chk (I64 (at_ - 1)) (
      some (Stp.ag (at_ - 1)))
noncomputable def P_r1_Place_L2 (list : List Str) (word : Str) (at_ : Int) : Int → Option (Stp Int (Ex Unit Int)) := fun i =>
  if i < at_ then
    el list i fun a29 =>
    if a29 = word then
      some (Stp.dn (Ex.rt i))
    else
      chk (I64 (i + 1)) (
        some (Stp.ag (i + 1)))
  else
    some (Stp.dn (Ex.nx ()))
noncomputable def P_r1_Place (list : List Str) (word : Str) : Option Int :=
  chk (I64 ((list.length : Int) - 1)) (
    andx (
      iter (P_r1_Place_L1 list word) ((list.length : Int) - 1)) fun at_ =>
      seqx (
        iter (P_r1_Place_L2 list word at_) 0) fun _ =>
        some at_)
noncomputable def P_r1_Fresh (word : Str) (others : List Str) : Option Int :=
  andx (
    andx (P_r1_Place others word) fun y8 =>
      if y8 ≥ 0 then
        some 5
      else
        some 0) fun e =>
    andx (
      andx (P_r1_Name word) fun y11 =>
        if y11 = true then
          some e
        else
          some 6) fun e_2 =>
      some e_2
noncomputable def P_r9_Mark (r_Classes : List Str) (r_Shelves : List S_api_SfShelf) (r_Books : List S_api_SfBook) (m_Class : Int) (m_Number : Int) (m_Suffix : Str) : Option Int :=
  chk (I64 ((r_Classes.length : Int) - 1)) (
    andx (P_r9_in m_Class 0 ((r_Classes.length : Int) - 1)) fun y11 =>
      if y11 = true then
        andx (P_r9_in m_Number 1 9999) fun y15 =>
          if y15 = true then
            seqx (
              andx (
                if (m_Suffix.length : Int) > 2 then
                  some true
                else
                  andx (P_r9_letters m_Suffix) fun y24 =>
                    some (!y24)) fun x26 =>
                if x26 = true then
                  some (Ex.rt 6)
                else
                  some (Ex.nx ())) fun _ =>
              some 0
          else
            some 7
      else
        some 4)
noncomputable def P_r9_Own_L1 (books : List S_api_SfBook) : (Int × (List Int)) → Option (Stp (Int × (List Int)) (List Int)) := fun (i, out) =>
  if i < (books.length : Int) then
    el books i fun a14 =>
    chk (out.length + [a14.shelf].length < 1000000000) (
      chk (I64 (i + 1)) (
        some (Stp.ag ((i + 1), out ++ [a14.shelf]))))
  else
    some (Stp.dn out)
noncomputable def P_r9_Own (books : List S_api_SfBook) : Option (List Int) :=
  andx (
    iter (P_r9_Own_L1 books) (0, [])) fun out =>
    some out
noncomputable def P_r9_Book_L1 (b_Mark_Class : Int) (b_Mark_Number : Int) (b_Mark_Suffix : Str) (before : List S_api_SfBook) : (Int × Int) → Option (Stp (Int × Int) Int) := fun (e_2, i) =>
  seqx (
    andx (
      if i < (before.length : Int) then
        some (decide (e_2 = 0))
      else
        some false) fun x40 =>
      if x40 = true then
        some (Ex.nx ())
      else
        some (Ex.rt (Stp.dn e_2))) fun _ =>
    andx (
      el before i fun a45 =>
      if a45.mark_class = b_Mark_Class ∧ a45.mark_number = b_Mark_Number ∧ a45.mark_suffix = b_Mark_Suffix then
        some 5
      else
        some e_2) fun e_3 =>
      chk (I64 (i + 1)) (
        some (Stp.ag (e_3, (i + 1))))
noncomputable def P_r9_Book (r_Classes : List Str) (r_Shelves : List S_api_SfShelf) (r_Books : List S_api_SfBook) (b_Mark_Class : Int) (b_Mark_Number : Int) (b_Mark_Suffix : Str) (b_Wide : Int) (b_High : Int) (b_Heavy : Int) (b_Shelf : Int) (before : List S_api_SfBook) : Option Int :=
  andx (P_r9_Mark r_Classes r_Shelves r_Books b_Mark_Class b_Mark_Number b_Mark_Suffix) fun y12 =>
    andx (
      andx (
        if y12 = 0 then
          andx (P_r9_in b_Wide 1 2000) fun y18 =>
            if y18 = true then
              andx (P_r9_in b_High 1 2000) fun y23 =>
                if y23 = true then
                  andx (P_r9_in b_Heavy 1 100) fun y29 =>
                    some (!y29)
                else
                  some true
            else
              some true
        else
          some false) fun x32 =>
        if x32 = true then
          some 7
        else
          some y12) fun e =>
      andx (
        iter (P_r9_Book_L1 b_Mark_Class b_Mark_Number b_Mark_Suffix before) (e, 0)) fun e_2 =>
        some e_2
noncomputable def P_r9_Filled_L1 (r_Shelves : List S_api_SfShelf) (books : List S_api_SfBook) (shelves : List Int) (shelf : Int) : (Int × Int) → Option (Stp (Int × Int) (Ex Int Int)) := fun (n, i) =>
  if i < (books.length : Int) then
    seqx (
      el shelves i fun a19 =>
      if ¬ a19 = shelf then
        some (Ex.nx n)
      else
        el books i fun a25 =>
        el r_Shelves shelf fun a31 =>
        if a25.high > a31.high then
          some (Ex.rt (Stp.dn (Ex.rt (-1))))
        else
          el books i fun a38 =>
          chk (I64 (n + a38.wide)) (
            some (Ex.nx (n + a38.wide)))) fun n_2 =>
      chk (I64 (i + 1)) (
        some (Stp.ag (n_2, (i + 1))))
  else
    some (Stp.dn (Ex.nx n))
noncomputable def P_r9_Filled (r_Classes : List Str) (r_Shelves : List S_api_SfShelf) (r_Books : List S_api_SfBook) (books : List S_api_SfBook) (shelves : List Int) (shelf : Int) : Option Int :=
  seqx (
    iter (P_r9_Filled_L1 r_Shelves books shelves shelf) (0, 0)) fun n =>
    some n
noncomputable def P_r9_fit (r_Classes : List Str) (r_Shelves : List S_api_SfShelf) (r_Books : List S_api_SfBook) (books : List S_api_SfBook) (shelves : List Int) (shelf : Int) : Option Bool :=
 el r_Shelves shelf fun a17 =>
 andx (P_r9_Filled r_Classes r_Shelves r_Books books shelves shelf) fun y13 =>
  andx (P_r9_in y13 0 a17.wide) fun y20 =>
   some y20
noncomputable def P_r9_Check_L1 (r_Classes : List Str) : Int → Option (Stp Int (Ex Unit (Int × Int × Int))) := fun i =>
  if i < (r_Classes.length : Int) then
    el r_Classes i fun a28 =>
    chk (0 ≤ (0 : Int) ∧ (0 : Int) ≤ i ∧ i ≤ (r_Classes.length : Int)) (
      andx (P_r1_Fresh a28 (List.take (i - (0 : Int)).toNat (List.drop ((0 : Int) : Int).toNat r_Classes))) fun y34 =>
        if ¬ y34 = 0 then
          some (Stp.dn (Ex.rt (1, i, y34)))
        else
          chk (I64 (i + 1)) (
            some (Stp.ag (i + 1))))
  else
    some (Stp.dn (Ex.nx ()))
noncomputable def P_r9_Check_L2 (r_Shelves : List S_api_SfShelf) : Int → Option (Stp Int (Ex Unit (Int × Int × Int))) := fun i =>
  if i < (r_Shelves.length : Int) then
    seqx (
      el r_Shelves i fun a54 =>
      andx (
        andx (P_r9_in a54.away 0 1000) fun y58 =>
          if y58 = true then
            andx (P_r9_in a54.climb 0 1000) fun y63 =>
              if y63 = true then
                andx (P_r9_in a54.wide 1 2000) fun y69 =>
                  if y69 = true then
                    andx (P_r9_in a54.high 1 2000) fun y75 =>
                      some (!y75)
                  else
                    some true
              else
                some true
          else
            some true) fun x77 =>
        if x77 = true then
          some (Ex.rt (Stp.dn (Ex.rt (2, i, 7))))
        else
          some (Ex.nx ())) fun _ =>
      chk (I64 (i + 1)) (
        some (Stp.ag (i + 1)))
  else
    some (Stp.dn (Ex.nx ()))
noncomputable def P_r9_Check_L3 (r_Classes : List Str) (r_Shelves : List S_api_SfShelf) (r_Books : List S_api_SfBook) : Int → Option (Stp Int (Ex Unit (Int × Int × Int))) := fun i =>
  if i < (r_Books.length : Int) then
    seqx (
      el r_Books i fun a93 =>
      chk (0 ≤ (0 : Int) ∧ (0 : Int) ≤ i ∧ i ≤ (r_Books.length : Int)) (
        andx (P_r9_Book r_Classes r_Shelves r_Books a93.mark_class a93.mark_number a93.mark_suffix a93.wide a93.high a93.heavy a93.shelf (List.take (i - (0 : Int)).toNat (List.drop ((0 : Int) : Int).toNat r_Books))) fun y101 =>
          andx (
            andx (
              if y101 = 0 then
                chk (I64 ((r_Shelves.length : Int) - 1)) (
                  andx (P_r9_in a93.shelf 0 ((r_Shelves.length : Int) - 1)) fun y111 =>
                    some (!y111))
              else
                some false) fun x113 =>
              if x113 = true then
                some 4
              else
                some y101) fun e =>
            andx (
              andx (
                if e = 0 then
                  if i > 0 then
                    chk (I64 (i - 1)) (
                      el r_Books (i - 1) fun a127 =>
                      some (decide (a93.shelf < a127.shelf)))
                  else
                    some false
                else
                  some false) fun x131 =>
                if x131 = true then
                  some 2
                else
                  some e) fun e_2 =>
              if ¬ e_2 = 0 then
                some (Ex.rt (Stp.dn (Ex.rt (3, i, e_2))))
              else
                some (Ex.nx ()))) fun _ =>
      chk (I64 (i + 1)) (
        some (Stp.ag (i + 1)))
  else
    some (Stp.dn (Ex.nx ()))
noncomputable def P_r9_Check_L4 (r_Classes : List Str) (r_Shelves : List S_api_SfShelf) (r_Books : List S_api_SfBook) : Int → Option (Stp Int (Ex Unit (Int × Int × Int))) := fun i =>
  if i < (r_Shelves.length : Int) then
    andx (P_r9_Own r_Books) fun y148 =>
      andx (P_r9_fit r_Classes r_Shelves r_Books r_Books y148 i) fun y150 =>
        if y150 = true then
          chk (I64 (i + 1)) (
            some (Stp.ag (i + 1)))
        else
          some (Stp.dn (Ex.rt (4, i, 9)))
  else
    some (Stp.dn (Ex.nx ()))
noncomputable def P_r9_Check (r_Classes : List Str) (r_Shelves : List S_api_SfShelf) (r_Books : List S_api_SfBook) : Option (Int × Int × Int) :=
  andx (P_r9_in (r_Classes.length : Int) 1 6) fun y16 =>
    if y16 = true then
      seqx (
        iter (P_r9_Check_L1 r_Classes) 0) fun _ =>
        andx (P_r9_in (r_Shelves.length : Int) 1 4) fun y42 =>
          if y42 = true then
            seqx (
              iter (P_r9_Check_L2 r_Shelves) 0) fun _ =>
              if (r_Books.length : Int) > 10 then
                some (3, 0, 3)
              else
                seqx (
                  iter (P_r9_Check_L3 r_Classes r_Shelves r_Books) 0) fun _ =>
                  seqx (
                    iter (P_r9_Check_L4 r_Classes r_Shelves r_Books) 0) fun _ =>
                    some (0, 0, 0)
          else
            some (2, 0, 3)
    else
      some (1, 0, 3)
noncomputable def P_q_Name_L1 (s : Str) : Nat → Option (Stp Nat (Ex Unit Bool)) := fun pos =>
  if pos < s.length then
    andx (
      if (runeAt s pos) ≥ 97 then
        some (decide ((runeAt s pos) ≤ 122))
      else
        some false) fun x11 =>
      if x11 = true then
        some (Stp.ag (pos + runeLen s pos))
      else
        andx (
          if (pos : Int) > 0 then
            if (runeAt s pos) ≥ 48 then
              if (runeAt s pos) ≤ 57 then
                some true
              else
                some (decide ((runeAt s pos) = 46))
            else
              some (decide ((runeAt s pos) = 46))
          else
            some false) fun x18 =>
          if x18 = true then
            some (Stp.ag (pos + runeLen s pos))
          else
            some (Stp.dn (Ex.rt false))
  else
    some (Stp.dn (Ex.nx ()))
noncomputable def P_q_Name (s : Str) : Option Bool :=
  seqx (
    iter (P_q_Name_L1 s) 0) fun _ =>
    andx (
      if ¬ s = ([] : Str) then
        some (decide ((s.length : Int) ≤ 16))
      else
        some false) fun x2 =>
      some x2
noncomputable def P_s9_out_L1 (lo : Int) (hi : Int) (numbers : List Int) : Int → Option (Stp Int (Ex Unit Int)) := fun x8 =>
  if x8 < (numbers.length : Int) then
    el numbers x8 fun a14 =>
    andx (
      if a14 < lo then
        some true
      else
        some (decide (a14 > hi))) fun x4 =>
      if x4 = true then
        some (Stp.dn (Ex.rt x8))
      else
        chk (I64 (x8 + 1)) (
          some (Stp.ag (x8 + 1)))
  else
    some (Stp.dn (Ex.nx ()))
noncomputable def P_s9_out (lo : Int) (hi : Int) (numbers : List Int) : Option Bool :=
  andx (
    seqx (
      iter (P_s9_out_L1 lo hi numbers) 0) fun _ =>
      some (-1)) fun y7 =>
    some (decide (y7 ≥ 0))
noncomputable def P_s9_mark_L1 (m_Suffix : Str) : Nat → Option (Stp Nat (Ex Unit Int)) := fun pos =>
  if pos < m_Suffix.length then
    andx (
      if (runeAt m_Suffix pos) < 97 then
        some true
      else
        some (decide ((runeAt m_Suffix pos) > 122))) fun x38 =>
      if x38 = true then
        some (Stp.dn (Ex.rt 6))
      else
        some (Stp.ag (pos + runeLen m_Suffix pos))
  else
    some (Stp.dn (Ex.nx ()))
noncomputable def P_s9_mark (r_SfRoom_Classes : List Str) (r_SfRoom_Shelves : List S_api_SfShelf) (r_SfRoom_Books : List S_api_SfBook) (m_Class : Int) (m_Number : Int) (m_Suffix : Str) : Option Int :=
  chk (I64 ((r_SfRoom_Classes.length : Int) - 1)) (
    andx (P_s9_out 0 ((r_SfRoom_Classes.length : Int) - 1) [m_Class]) fun y16 =>
      if y16 = true then
        some 4
      else
        andx (P_s9_out 1 9999 [m_Number]) fun y21 =>
          if y21 = true then
            some 7
          else
            if (m_Suffix.length : Int) > 2 then
              some 6
            else
              seqx (
                iter (P_s9_mark_L1 m_Suffix) 0) fun _ =>
                some 0)
noncomputable def P_s9_book_L1 (b_Mark_Class : Int) (b_Mark_Number : Int) (b_Mark_Suffix : Str) (others : List S_api_SfBook) : Int → Option (Stp Int (Ex Unit Int)) := fun x8 =>
  if x8 < (others.length : Int) then
    el others x8 fun a14 =>
    if a14.mark_class = b_Mark_Class ∧ a14.mark_number = b_Mark_Number ∧ a14.mark_suffix = b_Mark_Suffix then
      some (Stp.dn (Ex.rt x8))
    else
      chk (I64 (x8 + 1)) (
        some (Stp.ag (x8 + 1)))
  else
    some (Stp.dn (Ex.nx ()))
noncomputable def P_s9_book (r_SfRoom_Classes : List Str) (r_SfRoom_Shelves : List S_api_SfShelf) (r_SfRoom_Books : List S_api_SfBook) (b_Mark_Class : Int) (b_Mark_Number : Int) (b_Mark_Suffix : Str) (b_Wide : Int) (b_High : Int) (b_Heavy : Int) (b_Shelf : Int) (others : List S_api_SfBook) : Option Int :=
  andx (P_s9_mark r_SfRoom_Classes r_SfRoom_Shelves r_SfRoom_Books b_Mark_Class b_Mark_Number b_Mark_Suffix) fun y11 =>
    if ¬ y11 = 0 then
      some y11
    else
      seqx (
        andx (
          andx (P_s9_out 1 2000 [b_Wide, b_High]) fun y21 =>
            if y21 = true then
              some true
            else
              andx (P_s9_out 1 100 [b_Heavy]) fun y26 =>
                some y26) fun x15 =>
          if x15 = true then
            some (Ex.rt 7)
          else
            andx (
              seqx (
                iter (P_s9_book_L1 b_Mark_Class b_Mark_Number b_Mark_Suffix others) 0) fun _ =>
                some (-1)) fun y7 =>
              if y7 ≥ 0 then
                some (Ex.rt 5)
              else
                some (Ex.nx ())) fun _ =>
        some 0
noncomputable def P_s9_Check_L2 (r_Classes : List Str) (x11 : Int) (a14 : Str) : Int → Option (Stp Int (Ex Unit Int)) := fun x8 =>
  if x8 < ((List.take (x11 - (0 : Int)).toNat (List.drop ((0 : Int) : Int).toNat r_Classes)).length : Int) then
    el (List.take (x11 - (0 : Int)).toNat (List.drop ((0 : Int) : Int).toNat r_Classes)) x8 fun a14_2 =>
    if a14 = a14_2 then
      some (Stp.dn (Ex.rt x8))
    else
      chk (I64 (x8 + 1)) (
        some (Stp.ag (x8 + 1)))
  else
    some (Stp.dn (Ex.nx ()))
noncomputable def P_s9_Check_L1 (r_Classes : List Str) : Int → Option (Stp Int (Ex Unit (Int × Int))) := fun x11 =>
  if x11 < (r_Classes.length : Int) then
    el r_Classes x11 fun a14 =>
    andx (
      andx (P_q_Name a14) fun y8 =>
        if y8 = true then
          chk (0 ≤ (0 : Int) ∧ (0 : Int) ≤ x11 ∧ x11 ≤ (r_Classes.length : Int)) (
            andx (
              seqx (
                iter (P_s9_Check_L2 r_Classes x11 a14) 0) fun _ =>
                some (-1)) fun y7 =>
              if y7 ≥ 0 then
                some 5
              else
                some 0)
        else
          some 6) fun y19 =>
      if ¬ y19 = 0 then
        some (Stp.dn (Ex.rt (x11, y19)))
      else
        chk (I64 (x11 + 1)) (
          some (Stp.ag (x11 + 1)))
  else
    some (Stp.dn (Ex.nx ()))
noncomputable def P_s9_Check_L3 (r_Shelves : List S_api_SfShelf) : Int → Option (Stp Int (Ex Unit (Int × Int))) := fun x11 =>
  if x11 < (r_Shelves.length : Int) then
    el r_Shelves x11 fun a14 =>
    andx (
      seqx (
        andx (
          andx (P_s9_out 0 1000 [a14.away, a14.climb]) fun y10 =>
            if y10 = true then
              some true
            else
              andx (P_s9_out 1 2000 [a14.wide, a14.high]) fun y17 =>
                some y17) fun x18 =>
          if x18 = true then
            some (Ex.rt 7)
          else
            some (Ex.nx ())) fun _ =>
        some 0) fun y19 =>
      if ¬ y19 = 0 then
        some (Stp.dn (Ex.rt (x11, y19)))
      else
        chk (I64 (x11 + 1)) (
          some (Stp.ag (x11 + 1)))
  else
    some (Stp.dn (Ex.nx ()))
noncomputable def P_s9_Check_L4 (r_Classes : List Str) (r_Shelves : List S_api_SfShelf) (r_Books : List S_api_SfBook) : Int → Option (Stp Int (Ex Unit (Int × Int))) := fun x11 =>
  if x11 < (r_Books.length : Int) then
    el r_Books x11 fun a14 =>
    andx (
      chk (0 ≤ (0 : Int) ∧ (0 : Int) ≤ x11 ∧ x11 ≤ (r_Books.length : Int)) (
        andx (P_s9_book r_Classes r_Shelves r_Books a14.mark_class a14.mark_number a14.mark_suffix a14.wide a14.high a14.heavy a14.shelf (List.take (x11 - (0 : Int)).toNat (List.drop ((0 : Int) : Int).toNat r_Books))) fun y14_3 =>
          seqx (
            if ¬ y14_3 = 0 then
              some (Ex.rt y14_3)
            else
              chk (I64 ((r_Shelves.length : Int) - 1)) (
                andx (P_s9_out 0 ((r_Shelves.length : Int) - 1) [a14.shelf]) fun y27_2 =>
                  if y27_2 = true then
                    some (Ex.rt 4)
                  else
                    andx (
                      if x11 > 0 then
                        chk (I64 (x11 - 1)) (
                          el r_Books (x11 - 1) fun a38 =>
                          some (decide (a14.shelf < a38.shelf)))
                      else
                        some false) fun x28 =>
                      if x28 = true then
                        some (Ex.rt 2)
                      else
                        some (Ex.nx ()))) fun _ =>
            some 0)) fun y19 =>
      if ¬ y19 = 0 then
        some (Stp.dn (Ex.rt (x11, y19)))
      else
        chk (I64 (x11 + 1)) (
          some (Stp.ag (x11 + 1)))
  else
    some (Stp.dn (Ex.nx ()))
noncomputable def P_s9_Check_L6 (r_Books : List S_api_SfBook) (x11 : Int) (a14 : S_api_SfShelf) : (Int × Int) → Option (Stp (Int × Int) (Ex Int Int)) := fun (x11_2, s_Wide) =>
  if x11_2 < (r_Books.length : Int) then
    seqx (
      el r_Books x11_2 fun a13 =>
      if ¬ a13.shelf = x11 then
        some (Ex.nx s_Wide)
      else
        chk (I64 (s_Wide - a13.wide)) (
          andx (
            if (s_Wide - a13.wide) < 0 then
              some true
            else
              some (decide (a13.high > a14.high))) fun x34 =>
            if x34 = true then
              some (Ex.rt (Stp.dn (Ex.rt 9)))
            else
              some (Ex.nx (s_Wide - a13.wide)))) fun s_Wide_2 =>
      chk (I64 (x11_2 + 1)) (
        some (Stp.ag ((x11_2 + 1), s_Wide_2)))
  else
    some (Stp.dn (Ex.nx s_Wide))
noncomputable def P_s9_Check_L5 (r_Shelves : List S_api_SfShelf) (r_Books : List S_api_SfBook) : Int → Option (Stp Int (Ex Unit (Int × Int))) := fun x11 =>
  if x11 < (r_Shelves.length : Int) then
    el r_Shelves x11 fun a14 =>
    andx (
      seqx (
        iter (P_s9_Check_L6 r_Books x11 a14) (0, a14.wide)) fun s_Wide =>
        some 0) fun y19 =>
      if ¬ y19 = 0 then
        some (Stp.dn (Ex.rt (x11, y19)))
      else
        chk (I64 (x11 + 1)) (
          some (Stp.ag (x11 + 1)))
  else
    some (Stp.dn (Ex.nx ()))
noncomputable def P_s9_Check (r_Classes : List Str) (r_Shelves : List S_api_SfShelf) (r_Books : List S_api_SfBook) : Option (Int × Int × Int) :=
  andx (P_s9_out 1 6 [(r_Classes.length : Int)]) fun y9 =>
    if y9 = true then
      some (1, 0, 3)
    else
      andx (
        seqx (
          iter (P_s9_Check_L1 r_Classes) 0) fun _ =>
          some (0, 0)) fun (y14, y14_2) =>
        if ¬ y14_2 = 0 then
          some (1, y14, y14_2)
        else
          andx (P_s9_out 1 4 [(r_Shelves.length : Int)]) fun y27 =>
            if y27 = true then
              some (2, 0, 3)
            else
              andx (
                seqx (
                  iter (P_s9_Check_L3 r_Shelves) 0) fun _ =>
                  some (0, 0)) fun (y31, y31_2) =>
                if ¬ y31_2 = 0 then
                  some (2, y31, y31_2)
                else
                  if (r_Books.length : Int) > 10 then
                    some (3, 0, 3)
                  else
                    andx (
                      seqx (
                        iter (P_s9_Check_L4 r_Classes r_Shelves r_Books) 0) fun _ =>
                        some (0, 0)) fun (y48, y48_2) =>
                      if ¬ y48_2 = 0 then
                        some (3, y48, y48_2)
                      else
                        andx (
                          seqx (
                            iter (P_s9_Check_L5 r_Shelves r_Books) 0) fun _ =>
                            some (0, 0)) fun (y59, y59_2) =>
                          if ¬ y59_2 = 0 then
                            some (4, y59, y59_2)
                          else
                            some (0, 0, 0)
noncomputable def P_s9_open (r_Classes : List Str) (r_Shelves : List S_api_SfShelf) (r_Books : List S_api_SfBook) : Option Int :=
 andx (P_s9_Check r_Classes r_Shelves r_Books) fun (y9, y9_2, y9_3) =>
  some y9_3
noncomputable def P_s9_Spare_L1 (r_Shelves : List S_api_SfShelf) : (Int × (List Int)) → Option (Stp (Int × (List Int)) (List Int)) := fun (x21, l) =>
  if x21 < (r_Shelves.length : Int) then
    el r_Shelves x21 fun a23 =>
    chk (l.length + [a23.wide].length < 1000000000) (
      chk (I64 (x21 + 1)) (
        some (Stp.ag ((x21 + 1), l ++ [a23.wide]))))
  else
    some (Stp.dn l)
noncomputable def P_s9_Spare_L2 (r_Books : List S_api_SfBook) : (Int × (List Int)) → Option (Stp (Int × (List Int)) (List Int)) := fun (x35, l_2) =>
  if x35 < (r_Books.length : Int) then
    el r_Books x35 fun a37 =>
    el l_2 a37.shelf fun a42 =>
    chk (I64 (a42 - a37.wide)) (
      el l_2 a37.shelf fun a47 =>
      chk (I64 (x35 + 1)) (
        some (Stp.ag ((x35 + 1), List.set l_2 a37.shelf.toNat (a42 - a37.wide)))))
  else
    some (Stp.dn l_2)
noncomputable def P_s9_Spare (r_Classes : List Str) (r_Shelves : List S_api_SfShelf) (r_Books : List S_api_SfBook) : Option ((List Int) × Int) :=
  andx (P_s9_open r_Classes r_Shelves r_Books) fun y11 =>
    if ¬ y11 = 0 then
      some ([], y11)
    else
      andx (
        iter (P_s9_Spare_L1 r_Shelves) (0, [])) fun l =>
        andx (
          iter (P_s9_Spare_L2 r_Books) (0, l)) fun l_2 =>
          some (l_2, 0)
noncomputable def P_law9_valid (r_Classes : List Str) (r_Shelves : List S_api_SfShelf) (r_Books : List S_api_SfBook) : Option Bool :=
 andx (P_r9_Check r_Classes r_Shelves r_Books) fun (y8, y8_2, y8_3) =>
  some (decide (y8_3 = 0))
noncomputable def P_law_ShelfSpare_L1 (r_Shelves : List S_api_SfShelf) (y10 : List Int) : (Int × Int) → Option (Stp (Int × Int) (Ex Int Bool)) := fun (sum, i) =>
  if i < (y10.length : Int) then
    el y10 i fun a44 =>
    if a44 < 0 then
      some (Stp.dn (Ex.rt false))
    else
      el y10 i fun a50 =>
      chk (I64 (sum + a50)) (
        el r_Shelves i fun a56 =>
        chk (I64 ((sum + a50) - a56.wide)) (
          chk (I64 (i + 1)) (
            some (Stp.ag (((sum + a50) - a56.wide), (i + 1))))))
  else
    some (Stp.dn (Ex.nx sum))
noncomputable def P_law_ShelfSpare_L2 (r_Books : List S_api_SfBook) : (Int × Int) → Option (Stp (Int × Int) Int) := fun (sum_2, i) =>
  if i < (r_Books.length : Int) then
    el r_Books i fun a71 =>
    chk (I64 (sum_2 + a71.wide)) (
      chk (I64 (i + 1)) (
        some (Stp.ag ((sum_2 + a71.wide), (i + 1)))))
  else
    some (Stp.dn sum_2)
noncomputable def P_law_ShelfSpare (r_Classes : List Str) (r_Shelves : List S_api_SfShelf) (r_Books : List S_api_SfBook) : Option Bool :=
  andx (P_s9_Spare r_Classes r_Shelves r_Books) fun (y10, y10_2) =>
    andx (P_law9_valid r_Classes r_Shelves r_Books) fun y14 =>
      if y14 = true then
        seqx (
          andx (
            if ¬ y10_2 = 0 then
              some true
            else
              some (decide (¬ (y10.length : Int) = (r_Shelves.length : Int)))) fun x35 =>
            if x35 = true then
              some (Ex.rt false)
            else
              some (Ex.nx ())) fun _ =>
          seqx (
            iter (P_law_ShelfSpare_L1 r_Shelves y10) (0, 0)) fun sum =>
            andx (
              iter (P_law_ShelfSpare_L2 r_Books) (sum, 0)) fun sum_2 =>
              andx (
                if sum_2 = 0 then
                  some true
                else
                  some false) fun x2 =>
                some x2
      else
        andx (
          if ¬ y10_2 = 0 then
            if (y10.length : Int) = 0 then
              some true
            else
              some false
          else
            some false) fun x2 =>
          some x2
end Go.Am
end
