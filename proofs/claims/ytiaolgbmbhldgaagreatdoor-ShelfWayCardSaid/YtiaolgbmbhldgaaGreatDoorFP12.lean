/- Part 12. -/
import Derived.Test.YtiaolgbmbhldgaaGreatDoorFP1
import Derived.Test.YtiaolgbmbhldgaaGreatDoorFP2
import Derived.Test.YtiaolgbmbhldgaaGreatDoorFP9
import Derived.Test.YtiaolgbmbhldgaaGreatDoorFP11
import Derived.Test.YtiaolgbmbhldgaaGreatDoorFP10
import Derived.Shelf.SlSortCmp.Whole1
import Derived.Shelf.SlSortCmp.NoneTotal
import Derived.Shelf.Lay
import Derived.Shelf.SlGeneric
import Derived.Ground.SlsfProg
section
namespace Go.Am.YtiaolgbmbhldgaaGreatDoor.Q
open Go.Am Go.RowKit
def lev : Nat → Option Nat
 | 90 => some 0
 | _ => none
noncomputable def baseE : Orc' := fun f => match f with | 24 => some (table [([], .lit (.bool true))]) | 130 => some cmpT | _ => none
theorem baseE_ok : ∀ f g, baseE f = some g → Meets Go.Proofs.Tryz.prog f g := fun f g h => by
 unfold baseE at h;split at h
 ·cases h; exact Closed.awake_meets
 ·cases h; exact cmp_meets
 ·cases h
noncomputable def EL (k : Nat) : Env := envS (orsB baseE envS lev k)
theorem EL_good (k : Nat) : EnvGood (EL k) := orsB_good (P := Go.Proofs.Tryz.prog) (fun _ => rfl) (fun _ => rfl) baseE_ok (fun _ h => goodS h) (fun _ => rfl) k
theorem orcL {f j k : Nat} (h : lev f = some j) (hk : j < k) : (EL k).orc f = some (sem (EL j) f) := orsLB (fun _ => rfl) h hk
theorem orcN {f k : Nat} (h : levB baseE lev f = none) : (EL k).orc f = none := orsNB (fun _ => rfl) h
theorem orcA {k : Nat} : (EL k).orc 24 = some (table [([], .lit (.bool true))]) := by
 show orsB baseE envS lev k 24 = _;rw [orsB_base rfl];rfl
theorem orcC {k : Nat} : (EL k).orc 130 = some cmpT := by
 show orsB baseE envS lev k 130 = _;rw [orsB_base rfl];rfl
theorem bo_ty4 {k : Nat} : pureVal (EL k).P (underlying 4) = some .bool := show pureVal Go.Proofs.Tryz.prog (underlying 4) = some .bool by kernel_rfl
theorem hu_cv2 : pureVal Go.Proofs.Tryz.prog (underlying 2) = some Go.Proofs.Tryz.t2.desc := by kernel_rfl
theorem hu_cv3 : pureVal Go.Proofs.Tryz.prog (underlying 3) = some Go.Proofs.Tryz.t3.desc := by kernel_rfl
theorem hu_cv5 : pureVal Go.Proofs.Tryz.prog (underlying 5) = some Go.Proofs.Tryz.t5.desc := by kernel_rfl
theorem hu_cv65 : pureVal Go.Proofs.Tryz.prog (underlying 65) = some Go.Proofs.Tryz.t65.desc := by kernel_rfl
theorem hu_cv172 : pureVal Go.Proofs.Tryz.prog (underlying 172) = some Go.Proofs.Tryz.t172.desc := by kernel_rfl
theorem hu_cv194 : pureVal Go.Proofs.Tryz.prog (underlying 194) = some Go.Proofs.Tryz.t194.desc := by kernel_rfl
theorem hu_cv196 : pureVal Go.Proofs.Tryz.prog (underlying 196) = some Go.Proofs.Tryz.t196.desc := by kernel_rfl
theorem hu_cv207 : pureVal Go.Proofs.Tryz.prog (underlying 207) = some Go.Proofs.Tryz.t196.desc := by kernel_rfl
theorem cv_ty5_3 {k : Nat} {a : Int} (h : -9223372036854775808 ≤ a ∧ a < 9223372036854775808) : pureVal (EL k).P (convert 5 3 (.int .u8 a)) = some (.int .i64 a) := pure_conv (P := Go.Proofs.Tryz.prog) hu_cv5 hu_cv3 (wrap_id h.1 h.2)
theorem cv_ty65_3 {k : Nat} {a : Int} (h : -9223372036854775808 ≤ a ∧ a < 9223372036854775808) : pureVal (EL k).P (convert 65 3 (.int .u16 a)) = some (.int .i64 a) := pure_conv (P := Go.Proofs.Tryz.prog) hu_cv65 hu_cv3 (wrap_id h.1 h.2)
theorem cv_ty172_3 {k : Nat} {a : Int} (h : -9223372036854775808 ≤ a ∧ a < 9223372036854775808) : pureVal (EL k).P (convert 172 3 (.int .u64 a)) = some (.int .i64 a) := pure_conv (P := Go.Proofs.Tryz.prog) hu_cv172 hu_cv3 (wrap_id h.1 h.2)
theorem cv_ty196_2 {k : Nat} {a : Int} (h : -9223372036854775808 ≤ a ∧ a < 9223372036854775808) : pureVal (EL k).P (convert 196 2 (.int .u64 a)) = some (.int .i64 a) := pure_conv (P := Go.Proofs.Tryz.prog) hu_cv196 hu_cv2 (wrap_id h.1 h.2)
theorem hu_ty28 : pureVal Go.Proofs.Tryz.prog (underlying 28) = some Go.Proofs.Tryz.t27.desc := by kernel_rfl
theorem eql_ty28 {k : Nat} (x y : Operand) (a0 : Int) (a1 : Int) (a2 : Str) (b0 : Int) (b1 : Int) (b2 : Str) : abin (EL k) .eql 28 x y (.agg [iv a0, iv a1, sv a2]) (.agg [iv b0, iv b1, sv b2]) = .ok (bv (a0 == b0 && a1 == b1 && a2 == b2)) ∧ ((a0 == b0 && a1 == b1 && a2 == b2) = true ↔ a0 = b0 ∧ a1 = b1 ∧ a2 = b2) := by
 refine ⟨abin_agg (A := .agg #[.int .i64 a0, .int .i64 a1, .string ⟨a2.toArray⟩]) (B := .agg #[.int .i64 b0, .int .i64 b1, .string ⟨b2.toArray⟩]) (by simp) rfl rfl ?_ (bin_eql (pure_eqF3 (hu_ty28) ?_ (.int (by decide) ⟨.i64, by kernel_rfl⟩ (by kernel_rfl) (by kernel_rfl)) (.int (by decide) ⟨.i64, by kernel_rfl⟩ (by kernel_rfl) (by kernel_rfl)) (.str (by decide) (by kernel_rfl) (by kernel_rfl) (by kernel_rfl)))), by by_cases h0 : a0 = b0 <;> by_cases h1 : a1 = b1 <;> by_cases h2 : a2 = b2 <;> simp [h0, h1, h2]⟩
 all_goals kernel_rfl
theorem neq_ty28 {k : Nat} (x y : Operand) (a0 : Int) (a1 : Int) (a2 : Str) (b0 : Int) (b1 : Int) (b2 : Str) : abin (EL k) .neq 28 x y (.agg [iv a0, iv a1, sv a2]) (.agg [iv b0, iv b1, sv b2]) = .ok (bv (!(a0 == b0 && a1 == b1 && a2 == b2))) ∧ ((!(a0 == b0 && a1 == b1 && a2 == b2)) = true ↔ ¬ (a0 = b0 ∧ a1 = b1 ∧ a2 = b2)) := by
 refine ⟨abin_agg (A := .agg #[.int .i64 a0, .int .i64 a1, .string ⟨a2.toArray⟩]) (B := .agg #[.int .i64 b0, .int .i64 b1, .string ⟨b2.toArray⟩]) (by simp) rfl rfl ?_ (bin_neq (pure_eqF3 (hu_ty28) ?_ (.int (by decide) ⟨.i64, by kernel_rfl⟩ (by kernel_rfl) (by kernel_rfl)) (.int (by decide) ⟨.i64, by kernel_rfl⟩ (by kernel_rfl) (by kernel_rfl)) (.str (by decide) (by kernel_rfl) (by kernel_rfl) (by kernel_rfl)))), by by_cases h0 : a0 = b0 <;> by_cases h1 : a1 = b1 <;> by_cases h2 : a2 = b2 <;> simp [h0, h1, h2]⟩
 all_goals kernel_rfl
end Go.Am.YtiaolgbmbhldgaaGreatDoor.Q
end
section
namespace Go.Am
set_option linter.unusedVariables false
structure qH where
 away : Int
 climb : Int
 wide : Int
 high : Int
def qU : En qH := ⟨4, fun x => [iv x.away, iv x.climb, iv x.wide, iv x.high], fun _ => rfl⟩
theorem qAb : qU.Tr := fun _ _ _ => .cons .lit (.cons .lit (.cons .lit (.cons .lit (.nil))))
structure qA where
 qR : Int
 qS : Int
 qT : Str
 wide : Int
 high : Int
 heavy : Int
 shelf : Int
def qN : En qA := ⟨7, fun x => [iv x.qR, iv x.qS, sv x.qT, iv x.wide, iv x.high, iv x.heavy, iv x.shelf], fun _ => rfl⟩
theorem qAa : qN.Tr := fun _ _ _ => .cons .lit (.cons .lit (.cons .lit (.cons .lit (.cons .lit (.cons .lit (.cons .lit (.nil)))))))
end Go.Am
end
section
namespace Go.Am
set_option linter.unusedVariables false
noncomputable def P_r9_in (n : Int) (low : Int) (high : Int) : Option Bool :=
  andx (
    if low ≤ n then
      some (decide (n ≤ high))
    else
      some false) fun x6 =>
    some x6
noncomputable def P_r9_letters_L1 (s : Str) : Int → Option (Stp Int (Ex Unit Bool)) := fun i =>
  if i < (s.length : Int) then
    seqx (
      andx (
        chk (0 ≤ i ∧ i < (s.length : Int)) (
          if (byteAt s i) < 97 then
            some true
          else
            chk (0 ≤ i ∧ i < (s.length : Int)) (
              some (decide ((byteAt s i) > 122))))) fun x19 =>
        if x19 = true then
          some (Ex.rt (Stp.dn (Ex.rt false)))
        else
          some (Ex.nx ())) fun _ =>
      chk (I64 (i + 1)) (
        some (Stp.ag (i + 1)))
  else
    some (Stp.dn (Ex.nx ()))
noncomputable def P_r9_letters (s : Str) : Option Bool :=
  seqx (
    iter (P_r9_letters_L1 s) 0) fun _ =>
    some true
noncomputable def P_r1_Name_L1 (s : Str) : Int → Option (Stp Int (Ex Unit Bool)) := fun i =>
  if i < (s.length : Int) then
    seqx (
      andx (
        chk (0 ≤ i ∧ i < (s.length : Int)) (
          andx (
            if (byteAt s i) ≥ 97 then
              some (decide ((byteAt s i) ≤ 122))
            else
              some false) fun x2 =>
            if x2 = true then
              some false
            else
              if i = 0 then
                some true
              else
                chk (0 ≤ i ∧ i < (s.length : Int)) (
                  andx (
                    if (byteAt s i) ≥ 48 then
                      some (decide ((byteAt s i) ≤ 57))
                    else
                      some false) fun x2_2 =>
                    if x2_2 = true then
                      some false
                    else
                      chk (0 ≤ i ∧ i < (s.length : Int)) (
                        some (decide (¬ (byteAt s i) = 46)))))) fun x39 =>
        if x39 = true then
          some (Ex.rt (Stp.dn (Ex.rt false)))
        else
          some (Ex.nx ())) fun _ =>
      chk (I64 (i + 1)) (
        some (Stp.ag (i + 1)))
  else
    some (Stp.dn (Ex.nx ()))
noncomputable def P_r1_Name (s : Str) : Option Bool :=
  seqx (
    andx (
      if (s.length : Int) = 0 then
        some true
      else
        some (decide ((s.length : Int) > 16))) fun x11 =>
      if x11 = true then
        some (Ex.rt false)
      else
        some (Ex.nx ())) fun _ =>
    seqx (
      iter (P_r1_Name_L1 s) 0) fun _ =>
      some true
noncomputable def P_r1_Place_L1 (list : List Str) (word : Str) : Int → Option (Stp Int Int) := fun at_ =>
  seqx (
    andx (
      if at_ ≥ 0 then
        el list at_ fun a15 =>
        some (decide (¬ a15 = word))
      else
        some false) fun x19 =>
      if x19 = true then
        some (Ex.nx ())
      else
        some (Ex.rt (Stp.dn at_))) fun _ =>
    chk (I64 (at_ - 1)) (
      some (Stp.ag (at_ - 1)))
noncomputable def P_r1_Place_L2 (list : List Str) (word : Str) (at_ : Int) : Int → Option (Stp Int (Ex Unit Int)) := fun i =>
  if i < at_ then
    el list i fun a29 =>
    if a29 = word then
      some (Stp.dn (Ex.rt i))
    else
      chk (I64 (i + 1)) (
        some (Stp.ag (i + 1)))
  else
    some (Stp.dn (Ex.nx ()))
noncomputable def P_r1_Place (list : List Str) (word : Str) : Option Int :=
  chk (I64 ((list.length : Int) - 1)) (
    andx (
      iter (P_r1_Place_L1 list word) ((list.length : Int) - 1)) fun at_ =>
      seqx (
        iter (P_r1_Place_L2 list word at_) 0) fun _ =>
        some at_)
noncomputable def P_r1_Fresh (word : Str) (others : List Str) : Option Int :=
  andx (
    andx (P_r1_Place others word) fun y8 =>
      if y8 ≥ 0 then
        some 5
      else
        some 0) fun e =>
    andx (
      andx (P_r1_Name word) fun y11 =>
        if y11 = true then
          some e
        else
          some 6) fun e_2 =>
      some e_2
noncomputable def P_r9_Mark (qF : List Str) (qE : List qH) (qG : List qA) (m_Class : Int) (m_Number : Int) (m_Suffix : Str) : Option Int :=
  chk (I64 ((qF.length : Int) - 1)) (
    andx (P_r9_in m_Class 0 ((qF.length : Int) - 1)) fun y11 =>
      if y11 = true then
        andx (P_r9_in m_Number 1 9999) fun y15 =>
          if y15 = true then
            seqx (
              andx (
                if (m_Suffix.length : Int) > 2 then
                  some true
                else
                  andx (P_r9_letters m_Suffix) fun y24 =>
                    some (!y24)) fun x26 =>
                if x26 = true then
                  some (Ex.rt 6)
                else
                  some (Ex.nx ())) fun _ =>
              some 0
          else
            some 7
      else
        some 4)
noncomputable def P_r9_Own_L1 (books : List qA) : (Int × (List Int)) → Option (Stp (Int × (List Int)) (List Int)) := fun (i, out) =>
  if i < (books.length : Int) then
    el books i fun a14 =>
    chk (out.length + [a14.shelf].length < 1000000000) (
      chk (I64 (i + 1)) (
        some (Stp.ag ((i + 1), out ++ [a14.shelf]))))
  else
    some (Stp.dn out)
noncomputable def P_r9_Own (books : List qA) : Option (List Int) :=
  andx (
    iter (P_r9_Own_L1 books) (0, [])) fun out =>
    some out
noncomputable def P_r9_Book_L1 (qO : Int) (qP : Int) (qQ : Str) (before : List qA) : (Int × Int) → Option (Stp (Int × Int) Int) := fun (e_2, i) =>
  seqx (
    andx (
      if i < (before.length : Int) then
        some (decide (e_2 = 0))
      else
        some false) fun x40 =>
      if x40 = true then
        some (Ex.nx ())
      else
        some (Ex.rt (Stp.dn e_2))) fun _ =>
    andx (
      el before i fun a45 =>
      if a45.qR = qO ∧ a45.qS = qP ∧ a45.qT = qQ then
        some 5
      else
        some e_2) fun e_3 =>
      chk (I64 (i + 1)) (
        some (Stp.ag (e_3, (i + 1))))
noncomputable def P_r9_Book (qF : List Str) (qE : List qH) (qG : List qA) (qO : Int) (qP : Int) (qQ : Str) (qM : Int) (qL : Int) (qV : Int) (qW : Int) (before : List qA) : Option Int :=
  andx (P_r9_Mark qF qE qG qO qP qQ) fun y12 =>
    andx (
      andx (
        if y12 = 0 then
          andx (P_r9_in qM 1 2000) fun y18 =>
            if y18 = true then
              andx (P_r9_in qL 1 2000) fun y23 =>
                if y23 = true then
                  andx (P_r9_in qV 1 100) fun y29 =>
                    some (!y29)
                else
                  some true
            else
              some true
        else
          some false) fun x32 =>
        if x32 = true then
          some 7
        else
          some y12) fun e =>
      andx (
        iter (P_r9_Book_L1 qO qP qQ before) (e, 0)) fun e_2 =>
        some e_2
noncomputable def P_r9_Filled_L1 (qE : List qH) (books : List qA) (shelves : List Int) (shelf : Int) : (Int × Int) → Option (Stp (Int × Int) (Ex Int Int)) := fun (n, i) =>
  if i < (books.length : Int) then
    seqx (
      el shelves i fun a19 =>
      if ¬ a19 = shelf then
        some (Ex.nx n)
      else
        el books i fun a25 =>
        el qE shelf fun a31 =>
        if a25.high > a31.high then
          some (Ex.rt (Stp.dn (Ex.rt (-1))))
        else
          el books i fun a38 =>
          chk (I64 (n + a38.wide)) (
            some (Ex.nx (n + a38.wide)))) fun n_2 =>
      chk (I64 (i + 1)) (
        some (Stp.ag (n_2, (i + 1))))
  else
    some (Stp.dn (Ex.nx n))
noncomputable def P_r9_Filled (qF : List Str) (qE : List qH) (qG : List qA) (books : List qA) (shelves : List Int) (shelf : Int) : Option Int :=
  seqx (
    iter (P_r9_Filled_L1 qE books shelves shelf) (0, 0)) fun n =>
    some n
noncomputable def P_r9_fit (qF : List Str) (qE : List qH) (qG : List qA) (books : List qA) (shelves : List Int) (shelf : Int) : Option Bool :=
 el qE shelf fun a17 =>
 andx (P_r9_Filled qF qE qG books shelves shelf) fun y13 =>
  andx (P_r9_in y13 0 a17.wide) fun y20 =>
   some y20
noncomputable def P_r9_Check_L1 (qF : List Str) : Int → Option (Stp Int (Ex Unit (Int × Int × Int))) := fun i =>
  if i < (qF.length : Int) then
    el qF i fun a28 =>
    chk (0 ≤ (0 : Int) ∧ (0 : Int) ≤ i ∧ i ≤ (qF.length : Int)) (
      andx (P_r1_Fresh a28 (List.take (i - (0 : Int)).toNat (List.drop ((0 : Int) : Int).toNat qF))) fun y34 =>
        if ¬ y34 = 0 then
          some (Stp.dn (Ex.rt (1, i, y34)))
        else
          chk (I64 (i + 1)) (
            some (Stp.ag (i + 1))))
  else
    some (Stp.dn (Ex.nx ()))
noncomputable def P_r9_Check_L2 (qE : List qH) : Int → Option (Stp Int (Ex Unit (Int × Int × Int))) := fun i =>
  if i < (qE.length : Int) then
    seqx (
      el qE i fun a54 =>
      andx (
        andx (P_r9_in a54.away 0 1000) fun y58 =>
          if y58 = true then
            andx (P_r9_in a54.climb 0 1000) fun y63 =>
              if y63 = true then
                andx (P_r9_in a54.wide 1 2000) fun y69 =>
                  if y69 = true then
                    andx (P_r9_in a54.high 1 2000) fun y75 =>
                      some (!y75)
                  else
                    some true
              else
                some true
          else
            some true) fun x77 =>
        if x77 = true then
          some (Ex.rt (Stp.dn (Ex.rt (2, i, 7))))
        else
          some (Ex.nx ())) fun _ =>
      chk (I64 (i + 1)) (
        some (Stp.ag (i + 1)))
  else
    some (Stp.dn (Ex.nx ()))
noncomputable def P_r9_Check_L3 (qF : List Str) (qE : List qH) (qG : List qA) : Int → Option (Stp Int (Ex Unit (Int × Int × Int))) := fun i =>
  if i < (qG.length : Int) then
    seqx (
      el qG i fun a93 =>
      chk (0 ≤ (0 : Int) ∧ (0 : Int) ≤ i ∧ i ≤ (qG.length : Int)) (
        andx (P_r9_Book qF qE qG a93.qR a93.qS a93.qT a93.wide a93.high a93.heavy a93.shelf (List.take (i - (0 : Int)).toNat (List.drop ((0 : Int) : Int).toNat qG))) fun y101 =>
          andx (
            andx (
              if y101 = 0 then
                chk (I64 ((qE.length : Int) - 1)) (
                  andx (P_r9_in a93.shelf 0 ((qE.length : Int) - 1)) fun y111 =>
                    some (!y111))
              else
                some false) fun x113 =>
              if x113 = true then
                some 4
              else
                some y101) fun e =>
            andx (
              andx (
                if e = 0 then
                  if i > 0 then
                    chk (I64 (i - 1)) (
                      el qG (i - 1) fun a127 =>
                      some (decide (a93.shelf < a127.shelf)))
                  else
                    some false
                else
                  some false) fun x131 =>
                if x131 = true then
                  some 2
                else
                  some e) fun e_2 =>
              if ¬ e_2 = 0 then
                some (Ex.rt (Stp.dn (Ex.rt (3, i, e_2))))
              else
                some (Ex.nx ()))) fun _ =>
      chk (I64 (i + 1)) (
        some (Stp.ag (i + 1)))
  else
    some (Stp.dn (Ex.nx ()))
noncomputable def P_r9_Check_L4 (qF : List Str) (qE : List qH) (qG : List qA) : Int → Option (Stp Int (Ex Unit (Int × Int × Int))) := fun i =>
  if i < (qE.length : Int) then
    andx (P_r9_Own qG) fun y148 =>
      andx (P_r9_fit qF qE qG qG y148 i) fun y150 =>
        if y150 = true then
          chk (I64 (i + 1)) (
            some (Stp.ag (i + 1)))
        else
          some (Stp.dn (Ex.rt (4, i, 9)))
  else
    some (Stp.dn (Ex.nx ()))
noncomputable def P_r9_Check (qF : List Str) (qE : List qH) (qG : List qA) : Option (Int × Int × Int) :=
  andx (P_r9_in (qF.length : Int) 1 6) fun y16 =>
    if y16 = true then
      seqx (
        iter (P_r9_Check_L1 qF) 0) fun _ =>
        andx (P_r9_in (qE.length : Int) 1 4) fun y42 =>
          if y42 = true then
            seqx (
              iter (P_r9_Check_L2 qE) 0) fun _ =>
              if (qG.length : Int) > 10 then
                some (3, 0, 3)
              else
                seqx (
                  iter (P_r9_Check_L3 qF qE qG) 0) fun _ =>
                  seqx (
                    iter (P_r9_Check_L4 qF qE qG) 0) fun _ =>
                    some (0, 0, 0)
          else
            some (2, 0, 3)
    else
      some (1, 0, 3)
noncomputable def P_q_Name_L1 (s : Str) : Nat → Option (Stp Nat (Ex Unit Bool)) := fun pos =>
  if pos < s.length then
    andx (
      if (runeAt s pos) ≥ 97 then
        some (decide ((runeAt s pos) ≤ 122))
      else
        some false) fun x11 =>
      if x11 = true then
        some (Stp.ag (pos + runeLen s pos))
      else
        andx (
          if (pos : Int) > 0 then
            if (runeAt s pos) ≥ 48 then
              if (runeAt s pos) ≤ 57 then
                some true
              else
                some (decide ((runeAt s pos) = 46))
            else
              some (decide ((runeAt s pos) = 46))
          else
            some false) fun x18 =>
          if x18 = true then
            some (Stp.ag (pos + runeLen s pos))
          else
            some (Stp.dn (Ex.rt false))
  else
    some (Stp.dn (Ex.nx ()))
noncomputable def P_q_Name (s : Str) : Option Bool :=
  seqx (
    iter (P_q_Name_L1 s) 0) fun _ =>
    andx (
      if ¬ s = ([] : Str) then
        some (decide ((s.length : Int) ≤ 16))
      else
        some false) fun x2 =>
      some x2
noncomputable def P_s9_out_L1 (lo : Int) (hi : Int) (numbers : List Int) : Int → Option (Stp Int (Ex Unit Int)) := fun x8 =>
  if x8 < (numbers.length : Int) then
    el numbers x8 fun a14 =>
    andx (
      if a14 < lo then
        some true
      else
        some (decide (a14 > hi))) fun x4 =>
      if x4 = true then
        some (Stp.dn (Ex.rt x8))
      else
        chk (I64 (x8 + 1)) (
          some (Stp.ag (x8 + 1)))
  else
    some (Stp.dn (Ex.nx ()))
noncomputable def P_s9_out (lo : Int) (hi : Int) (numbers : List Int) : Option Bool :=
  andx (
    seqx (
      iter (P_s9_out_L1 lo hi numbers) 0) fun _ =>
      some (-1)) fun y7 =>
    some (decide (y7 ≥ 0))
noncomputable def P_s9_mark_L1 (m_Suffix : Str) : Nat → Option (Stp Nat (Ex Unit Int)) := fun pos =>
  if pos < m_Suffix.length then
    andx (
      if (runeAt m_Suffix pos) < 97 then
        some true
      else
        some (decide ((runeAt m_Suffix pos) > 122))) fun x38 =>
      if x38 = true then
        some (Stp.dn (Ex.rt 6))
      else
        some (Stp.ag (pos + runeLen m_Suffix pos))
  else
    some (Stp.dn (Ex.nx ()))
noncomputable def P_s9_mark (r_SfRoom_Classes : List Str) (r_SfRoom_Shelves : List qH) (r_SfRoom_Books : List qA) (m_Class : Int) (m_Number : Int) (m_Suffix : Str) : Option Int :=
  chk (I64 ((r_SfRoom_Classes.length : Int) - 1)) (
    andx (P_s9_out 0 ((r_SfRoom_Classes.length : Int) - 1) [m_Class]) fun y16 =>
      if y16 = true then
        some 4
      else
        andx (P_s9_out 1 9999 [m_Number]) fun y21 =>
          if y21 = true then
            some 7
          else
            if (m_Suffix.length : Int) > 2 then
              some 6
            else
              seqx (
                iter (P_s9_mark_L1 m_Suffix) 0) fun _ =>
                some 0)
noncomputable def P_s9_book_L1 (qO : Int) (qP : Int) (qQ : Str) (others : List qA) : Int → Option (Stp Int (Ex Unit Int)) := fun x8 =>
  if x8 < (others.length : Int) then
    el others x8 fun a14 =>
    if a14.qR = qO ∧ a14.qS = qP ∧ a14.qT = qQ then
      some (Stp.dn (Ex.rt x8))
    else
      chk (I64 (x8 + 1)) (
        some (Stp.ag (x8 + 1)))
  else
    some (Stp.dn (Ex.nx ()))
noncomputable def P_s9_book (r_SfRoom_Classes : List Str) (r_SfRoom_Shelves : List qH) (r_SfRoom_Books : List qA) (qO : Int) (qP : Int) (qQ : Str) (qM : Int) (qL : Int) (qV : Int) (qW : Int) (others : List qA) : Option Int :=
  andx (P_s9_mark r_SfRoom_Classes r_SfRoom_Shelves r_SfRoom_Books qO qP qQ) fun y11 =>
    if ¬ y11 = 0 then
      some y11
    else
      seqx (
        andx (
          andx (P_s9_out 1 2000 [qM, qL]) fun y21 =>
            if y21 = true then
              some true
            else
              andx (P_s9_out 1 100 [qV]) fun y26 =>
                some y26) fun x15 =>
          if x15 = true then
            some (Ex.rt 7)
          else
            andx (
              seqx (
                iter (P_s9_book_L1 qO qP qQ others) 0) fun _ =>
                some (-1)) fun y7 =>
              if y7 ≥ 0 then
                some (Ex.rt 5)
              else
                some (Ex.nx ())) fun _ =>
        some 0
noncomputable def P_s9_Check_L2 (qF : List Str) (x11 : Int) (a14 : Str) : Int → Option (Stp Int (Ex Unit Int)) := fun x8 =>
  if x8 < ((List.take (x11 - (0 : Int)).toNat (List.drop ((0 : Int) : Int).toNat qF)).length : Int) then
    el (List.take (x11 - (0 : Int)).toNat (List.drop ((0 : Int) : Int).toNat qF)) x8 fun a14_2 =>
    if a14 = a14_2 then
      some (Stp.dn (Ex.rt x8))
    else
      chk (I64 (x8 + 1)) (
        some (Stp.ag (x8 + 1)))
  else
    some (Stp.dn (Ex.nx ()))
noncomputable def P_s9_Check_L1 (qF : List Str) : Int → Option (Stp Int (Ex Unit (Int × Int))) := fun x11 =>
  if x11 < (qF.length : Int) then
    el qF x11 fun a14 =>
    andx (
      andx (P_q_Name a14) fun y8 =>
        if y8 = true then
          chk (0 ≤ (0 : Int) ∧ (0 : Int) ≤ x11 ∧ x11 ≤ (qF.length : Int)) (
            andx (
              seqx (
                iter (P_s9_Check_L2 qF x11 a14) 0) fun _ =>
                some (-1)) fun y7 =>
              if y7 ≥ 0 then
                some 5
              else
                some 0)
        else
          some 6) fun y19 =>
      if ¬ y19 = 0 then
        some (Stp.dn (Ex.rt (x11, y19)))
      else
        chk (I64 (x11 + 1)) (
          some (Stp.ag (x11 + 1)))
  else
    some (Stp.dn (Ex.nx ()))
noncomputable def P_s9_Check_L3 (qE : List qH) : Int → Option (Stp Int (Ex Unit (Int × Int))) := fun x11 =>
  if x11 < (qE.length : Int) then
    el qE x11 fun a14 =>
    andx (
      seqx (
        andx (
          andx (P_s9_out 0 1000 [a14.away, a14.climb]) fun y10 =>
            if y10 = true then
              some true
            else
              andx (P_s9_out 1 2000 [a14.wide, a14.high]) fun y17 =>
                some y17) fun x18 =>
          if x18 = true then
            some (Ex.rt 7)
          else
            some (Ex.nx ())) fun _ =>
        some 0) fun y19 =>
      if ¬ y19 = 0 then
        some (Stp.dn (Ex.rt (x11, y19)))
      else
        chk (I64 (x11 + 1)) (
          some (Stp.ag (x11 + 1)))
  else
    some (Stp.dn (Ex.nx ()))
noncomputable def P_s9_Check_L4 (qF : List Str) (qE : List qH) (qG : List qA) : Int → Option (Stp Int (Ex Unit (Int × Int))) := fun x11 =>
  if x11 < (qG.length : Int) then
    el qG x11 fun a14 =>
    andx (
      chk (0 ≤ (0 : Int) ∧ (0 : Int) ≤ x11 ∧ x11 ≤ (qG.length : Int)) (
        andx (P_s9_book qF qE qG a14.qR a14.qS a14.qT a14.wide a14.high a14.heavy a14.shelf (List.take (x11 - (0 : Int)).toNat (List.drop ((0 : Int) : Int).toNat qG))) fun y14_3 =>
          seqx (
            if ¬ y14_3 = 0 then
              some (Ex.rt y14_3)
            else
              chk (I64 ((qE.length : Int) - 1)) (
                andx (P_s9_out 0 ((qE.length : Int) - 1) [a14.shelf]) fun y27_2 =>
                  if y27_2 = true then
                    some (Ex.rt 4)
                  else
                    andx (
                      if x11 > 0 then
                        chk (I64 (x11 - 1)) (
                          el qG (x11 - 1) fun a38 =>
                          some (decide (a14.shelf < a38.shelf)))
                      else
                        some false) fun x28 =>
                      if x28 = true then
                        some (Ex.rt 2)
                      else
                        some (Ex.nx ()))) fun _ =>
            some 0)) fun y19 =>
      if ¬ y19 = 0 then
        some (Stp.dn (Ex.rt (x11, y19)))
      else
        chk (I64 (x11 + 1)) (
          some (Stp.ag (x11 + 1)))
  else
    some (Stp.dn (Ex.nx ()))
noncomputable def P_s9_Check_L6 (qG : List qA) (x11 : Int) (a14 : qH) : (Int × Int) → Option (Stp (Int × Int) (Ex Int Int)) := fun (x11_2, s_Wide) =>
  if x11_2 < (qG.length : Int) then
    seqx (
      el qG x11_2 fun a13 =>
      if ¬ a13.shelf = x11 then
        some (Ex.nx s_Wide)
      else
        chk (I64 (s_Wide - a13.wide)) (
          andx (
            if (s_Wide - a13.wide) < 0 then
              some true
            else
              some (decide (a13.high > a14.high))) fun x34 =>
            if x34 = true then
              some (Ex.rt (Stp.dn (Ex.rt 9)))
            else
              some (Ex.nx (s_Wide - a13.wide)))) fun s_Wide_2 =>
      chk (I64 (x11_2 + 1)) (
        some (Stp.ag ((x11_2 + 1), s_Wide_2)))
  else
    some (Stp.dn (Ex.nx s_Wide))
noncomputable def P_s9_Check_L5 (qE : List qH) (qG : List qA) : Int → Option (Stp Int (Ex Unit (Int × Int))) := fun x11 =>
  if x11 < (qE.length : Int) then
    el qE x11 fun a14 =>
    andx (
      seqx (
        iter (P_s9_Check_L6 qG x11 a14) (0, a14.wide)) fun s_Wide =>
        some 0) fun y19 =>
      if ¬ y19 = 0 then
        some (Stp.dn (Ex.rt (x11, y19)))
      else
        chk (I64 (x11 + 1)) (
          some (Stp.ag (x11 + 1)))
  else
    some (Stp.dn (Ex.nx ()))
noncomputable def P_s9_Check (qF : List Str) (qE : List qH) (qG : List qA) : Option (Int × Int × Int) :=
  andx (P_s9_out 1 6 [(qF.length : Int)]) fun y9 =>
    if y9 = true then
      some (1, 0, 3)
    else
      andx (
        seqx (
          iter (P_s9_Check_L1 qF) 0) fun _ =>
          some (0, 0)) fun (y14, y14_2) =>
        if ¬ y14_2 = 0 then
          some (1, y14, y14_2)
        else
          andx (P_s9_out 1 4 [(qE.length : Int)]) fun y27 =>
            if y27 = true then
              some (2, 0, 3)
            else
              andx (
                seqx (
                  iter (P_s9_Check_L3 qE) 0) fun _ =>
                  some (0, 0)) fun (y31, y31_2) =>
                if ¬ y31_2 = 0 then
                  some (2, y31, y31_2)
                else
                  if (qG.length : Int) > 10 then
                    some (3, 0, 3)
                  else
                    andx (
                      seqx (
                        iter (P_s9_Check_L4 qF qE qG) 0) fun _ =>
                        some (0, 0)) fun (y48, y48_2) =>
                      if ¬ y48_2 = 0 then
                        some (3, y48, y48_2)
                      else
                        andx (
                          seqx (
                            iter (P_s9_Check_L5 qE qG) 0) fun _ =>
                            some (0, 0)) fun (y59, y59_2) =>
                          if ¬ y59_2 = 0 then
                            some (4, y59, y59_2)
                          else
                            some (0, 0, 0)
noncomputable def P_s9_open (qF : List Str) (qE : List qH) (qG : List qA) : Option Int :=
 andx (P_s9_Check qF qE qG) fun (y9, y9_2, y9_3) =>
  some y9_3
noncomputable def P_law9_valid (qF : List Str) (qE : List qH) (qG : List qA) : Option Bool :=
 andx (P_r9_Check qF qE qG) fun (y8, y8_2, y8_3) =>
  some (decide (y8_3 = 0))
end Go.Am
end
section
namespace Go.Am
set_option linter.unusedVariables false
end Go.Am
end
section
namespace Go.Am.YtiaolgbmbhldgaaGreatDoor.Q
open Go.Am Go.RowKit
set_option linter.unusedVariables false
set_option linter.unusedSimpArgs false
end Go.Am.YtiaolgbmbhldgaaGreatDoor.Q
end
section
namespace Go.Am
open Go.RowKit Go.Sort Go.Proofs
set_option linter.unusedVariables false
def ivs (l : List Int) : List AV := l.map fun x => .lit (.int .i64 x)
def St.put (S : St) (id : Nat) (l : List Int) (ver : Nat) : St := { heap := S.heap.set id (.row (ivs l) 1 ver), next := S.next, low := S.next, glb := S.glb }
structure Ord (N : Int) (cf : Int → Int → Int) : Prop where
 irrefl : ∀ x, 0 ≤ x → x < N → ¬ cf x x < 0
 trans : ∀ x y z, 0 ≤ x → x < N → 0 ≤ y → y < N → 0 ≤ z → z < N → cf x y < 0 → cf y z < 0 → cf x z < 0
 ntrans : ∀ x y z, 0 ≤ x → x < N → 0 ≤ y → y < N → 0 ≤ z → z < N → ¬ cf x y < 0 → ¬ cf y z < 0 → ¬ cf x z < 0
def SortAt (E0 : Env) (args : List AV) (S S' : St) : Prop :=
  (∃ s f, args = [s, f] ∧ (s = .lit (.slice none 0 0) ∨ ∃ id off ver ex cap, s = .slice id off ver ex 0 cap) ∧ S' = S) ∨
  ∃ (id fl cap : Nat) (ex : Bool) (c : FuncId) (caps : List AV) (l l' : List Int) (N : Int) (cf : Int → Int → Int),
    args = [.slice id 0 l.length ex l.length cap, .func c [] caps] ∧ S.heap.get id = some (.row (ivs l) 1 fl) ∧ fl ≤ l.length ∧ l ≠ [] ∧ l.length < 4611686018427387904 ∧
    (∃ fn, E0.fn c = some fn) ∧ (∀ x ∈ l, 0 ≤ x ∧ x < N) ∧ Ord N cf ∧
    (∀ l2 : List Int, l2.length = l.length → (∀ x ∈ l2, 0 ≤ x ∧ x < N) → ∀ x y, 0 ≤ x → x < N → 0 ≤ y → y < N →
      ∃ n, ∀ m, n ≤ m → run E0 m (.call c ([.lit (.int .i64 x), .lit (.int .i64 y)] ++ caps)) (S.put id l2 l.length) = .ok (.ret (.lit (.int .i64 (cf x y))), S.put id l2 l.length)) ∧
    l'.Perm l ∧ l'.Pairwise (fun x y => cf x y < 0) ∧ S' = S.write id (.row (ivs l') 1 l.length)
open Classical in
noncomputable def sortDeed (E0 : Env) (args : List AV) (S : St) : Option (AV × St) := if h : ∃ S', SortAt E0 args S S' then some (undefA, h.choose) else none
theorem ivs_get {l : List Int} {i : Nat} {v : AV} (h : (ivs l)[i]? = some v) : ∃ x, l[i]? = some x ∧ v = .lit (.int .i64 x) := by
 unfold ivs at h;rw [List.getElem?_map, Option.map_eq_some_iff] at h;obtain ⟨x, h1, h2⟩ := h;exact ⟨x, h1, h2.symm⟩
theorem ivs_len (l : List Int) : (ivs l).length = l.length := by simp [ivs]
theorem ivs_inj {l l' : List Int} (h : ivs l = ivs l') : l = l' := by
 refine List.map_inj_right (f := fun x : Int => AV.lit (.int .i64 x)) (fun x y e => ?_) |>.1 h
 injection e with e
 injection e with _ e
theorem RelW.same {r : Ren} {S : St} {w w' : World} (h : RelW r S w) (hs : w.heap.size ≤ w'.heap.size) (hb : ∀ b, b < w.heap.size → w'.heap[b]? = w.heap[b]?) : RelW r S w' := by
 refine ⟨fun id ver x hx => ⟨(h.dom _ _ _ hx).1, Nat.lt_of_lt_of_le (h.dom _ _ _ hx).2 hs⟩, h.inj, fun b c hc => ?_, fun id o hg v b n u hx => ?_, h.low, h.glb⟩
 ·obtain ⟨⟨e, fz, h1⟩, h2⟩ := h.imm b c hc;exact ⟨⟨e, fz, by rw [hb b (Array.getElem?_eq_some_iff.1 h1).1]; exact h1⟩, h2⟩
 ·exact (h.obj id o hg v b n u hx).world (hb b (h.dom _ _ _ hx).2)
theorem Ext.same {r : Ren} {S : St} {w w' : World} (h : RelW r S w) (hs : w.heap.size ≤ w'.heap.size) (hb : ∀ b, b < w.heap.size → w'.heap[b]? = w.heap[b]?) (h1 : w'.os = w.os) (h2 : w'.tape = w.tape) (h3 : w'.output = w.output) (h4 : w.drawn ≤ w'.drawn) : Ext r S w r S w' :=
 ⟨.refl r, h.same hs hb, rfl, Nat.le_refl _, Nat.le_refl _, fun _ _ _ => rfl, hs, h1, h2, h3, fun b hlt => .inl (hb b hlt), fun _ _ _ h => .inl h, fun _ _ h => .inl h, fun _ _ _ h => .inr ⟨_, _, h⟩, h4⟩
section
variable {E0 : Env} {r : Ren} {S : St} {w : World}
abbrev Low (N : Int) := { x : Int // 0 ≤ x ∧ x < N }
def encLow (N : Int) (x : Low N) : Value := .int .i64 x.1
theorem putRow_put {N : Int} [Inhabited (Low N)] {b : Nat} {c : Array Value} {e : TypeId} (hb : w.heap[b]? = some (.cells c e (0, 0))) (d : Array (Low N)) : putRow (encLow N) w b 0 d = w.putObj b (.cells (putCells (encLow N) 0 d c) e (0, 0)) := by
 have hlt : b < w.heap.size := (Array.getElem?_eq_some_iff.1 hb).1;unfold putRow mapBlock World.putObj
 congr 1
 refine Array.ext_getElem? fun k => ?_
 rw [Array.getElem?_modify, Array.getElem?_setIfInBounds]
 by_cases hk : b = k
 ·subst hk;rw [if_pos rfl, if_pos rfl, if_pos hlt, hb];rfl
 ·rw [if_neg hk, if_neg hk]
theorem put_ext {N : Int} [Inhabited (Low N)] (hw : RelW r S w) {id fl b n u : Nat} {l : List Int} (hr : r.row id l.length = some (b, n, u)) (hS : S.heap.get id = some (.row (ivs l) 1 fl)) (hfl : fl ≤ l.length) (d : Array (Low N)) (hd : d.size = l.length) :
  Ext r S w r (S.write id (.row (ivs (d.toList.map (·.1))) 1 l.length)) (putRow (encLow N) w b 0 d) := by
 obtain ⟨h1, h2, h3⟩ := hw.obj _ _ hS _ _ _ _ hr;obtain ⟨c, e, k1, k2, k3, k4⟩ := h3 hfl;rw [putRow_put k1]
 have hlt : b < w.heap.size := (hw.dom _ _ _ hr).2;refine hw.write hr _ _ fun ver b1 n1 u1 hr1 => ?_
 obtain ⟨g1, g2, g3⟩ := hw.obj _ _ hS _ _ _ _ hr1
 have hl : (ivs (d.toList.map (·.1))).length = l.length := by rw [ivs_len, List.length_map, Array.length_toList, hd]
 rw [ivs_len] at g2;refine ⟨g1, by rw [hl]; exact g2, fun hle => ?_⟩
 have : ver = l.length := by omega
 subst this;rw [hr] at hr1;cases hr1;refine ⟨putCells (encLow N) 0 d c, e, by rw [World.putObj_get hlt, if_pos rfl], by simp [putCells, k2], k3, fun i v x hi hv hx => ?_⟩;obtain ⟨y, hy, rfl⟩ := ivs_get hv;rw [List.getElem?_map, Option.map_eq_some_iff] at hy;obtain ⟨z, hz, rfl⟩ := hy;rw [putCells, Array.getElem?_mapIdx, Option.map_eq_some_iff] at hx;obtain ⟨a, ha, rfl⟩ := hx;rw [if_pos ⟨Nat.zero_le _, by omega⟩]
 have e1 : d[i - 0]! = z := by
  rw [Nat.sub_zero, getElem!_pos d i (by omega)];rw [Array.getElem?_toList, Array.getElem?_eq_getElem (by omega)] at hz;exact Option.some.inj hz
 rw [e1];exact .lit _
theorem sort_world {N : Int} [Inhabited (Low N)] (hw : RelW r S w) {id fl b n u : Nat} {l : List Int} (hr : r.row id l.length = some (b, n, u)) (hS : S.heap.get id = some (.row (ivs l) 1 fl)) (hfl : fl ≤ l.length) (d : Array (Low N)) (hd : d.size = l.length) (m : Nat) (os : Array Obj) :
  Ext r S w r (S.write id (.row (ivs (d.toList.map (·.1))) 1 l.length)) (sortWorld (encLow N) w b 0 m d os) := by
 have h1 := put_ext hw hr hS hfl d hd;refine h1.trans (Ext.same h1.rel ?_ (fun k hk => ?_) rfl rfl rfl ?_)
 ·simp [sortWorld, grow, putRow_ahead]
 ·unfold sortWorld;rw [putRow_ahead, heap_grow_old _ _ (by simpa using hk)];rfl
 ·simp [sortWorld, grow, putRow_ahead]
theorem perm_sorted {N : Int} {cf : Int → Int → Int} (hO : Ord N cf) : ∀ {l1 l2 : List Int}, l1.Perm l2 → (∀ x ∈ l1, 0 ≤ x ∧ x < N) → l1.Pairwise (fun x y => cf x y < 0) → l2.Pairwise (fun x y => ¬ cf y x < 0) → l1 = l2 := by
 intro l1
 induction l1 with
 | nil => intro l2 hp _ _ _; exact hp.nil_eq
 | cons a l1 ih =>
  intro l2 hp hr h1 h2;cases l2 with
  | nil => exact absurd hp.symm.nil_eq (by simp)
  | cons b l2 =>
   have ha := hr a List.mem_cons_self
   have hab : a = b := by
    have hm : a ∈ b :: l2 := hp.mem_iff.1 List.mem_cons_self
    have hm' : b ∈ a :: l1 := hp.mem_iff.2 List.mem_cons_self
    rcases List.mem_cons.1 hm with e | hm
    ·exact e
    ·rcases List.mem_cons.1 hm' with e | hm'
     ·exact e.symm
     ·have k1 := (List.pairwise_cons.1 h1).1 b hm'
      have k2 := (List.pairwise_cons.1 h2).1 a hm;exact absurd k1 k2
   subst hab;rw [ih (List.perm_cons a |>.1 hp) (fun x hx => hr x (List.mem_cons_of_mem _ hx)) (List.pairwise_cons.1 h1).2 (List.pairwise_cons.1 h2).2]
theorem ord_unique {N : Int} {cf : Int → Int → Int} (hO : Ord N cf) {l1 l2 : List Int} (hp : l1.Perm l2) (hr : ∀ x ∈ l1, 0 ≤ x ∧ x < N) (h1 : l1.Pairwise (fun x y => cf x y < 0)) (h2 : l2.Pairwise (fun x y => cf x y < 0)) : l1 = l2 := by
 refine perm_sorted hO hp hr h1 (List.Pairwise.imp_of_mem (fun {x y} hx hy h k => ?_) h2)
 have rx := hr x (hp.mem_iff.2 hx)
 have ry := hr y (hp.mem_iff.2 hy);exact hO.irrefl x rx.1 rx.2 (hO.trans x y x rx.1 rx.2 ry.1 ry.2 rx.1 rx.2 h k)
theorem rel_list {r : Ren} {a b : AV} {xs : List Value} (h : RelL r [a, b] xs) : ∃ x y, xs = [x, y] ∧ RelV r a x ∧ RelV r b y := by
 obtain ⟨x, xs, rfl, h1, h2⟩ := h.cons_inv;obtain ⟨y, ys, rfl, h3, h4⟩ := h2.cons_inv;rw [h4.nil_inv];exact ⟨x, y, rfl, h1, h3⟩
theorem slice_inv' {r : Ren} {id off ver len cap : Nat} {ex : Bool} {x : Value} (h : RelV r (.slice id off ver ex len cap) x) :
  ∃ b n u cap', x = .slice (some ⟨b, off, none⟩) len cap' ∧ r.row id ver = some (b, n, u) ∧ off + cap' * u ≤ n ∧ len ≤ cap ∧ cap ≤ cap' := by
 cases h with
 | slice h1 h2 h3 h4 h5 => exact ⟨_, _, _, _, rfl, h1, h2, h3, h4⟩
theorem func_inv' {r : Ren} {c : FuncId} {caps : List AV} {y : Value} (h : RelV r (.func c [] caps) y) :
  ∃ ys : List Value, y = .func (.func c) [].toArray ys.toArray ∧ caps.length = ys.length ∧ ∀ (i : Nat) (v : AV) (x : Value), caps[i]? = some v → ys[i]? = some x → RelV r v x := by
 cases h with
 | func g1 g2 gx gy =>
  rename_i zs ys
  have hzs : zs = [] := List.eq_nil_of_length_eq_zero g1.symm;subst hzs;exact ⟨ys, rfl, g2, gy⟩
theorem sort_effs {E0 : Env} (hG : EnvGood E0) {ρ : Shelf.Ren} (L : SlLaysF.n6 E0.P ρ) : Effs E0.P (ρ.f 6) (sortDeed E0) := by
  intro r S w args xs v S' hw ha hg
  unfold sortDeed at hg
  split at hg
  · rename_i hex
    obtain ⟨rfl, rfl⟩ := Prod.mk.inj (Option.some.inj hg)
    have hat := hex.choose_spec
    generalize hex.choose = S' at hat
    refine callsIn_wide.2 ?_
    rcases hat with ⟨s, f, rfl, hs, rfl⟩ | ⟨id, fl, cap, ex, c, caps, l, l', N, cf, rfl, hS, hfl, hne, hsz, ⟨fn, hfn⟩, hin, hO, hrun, hperm, hsort, rfl⟩
    · obtain ⟨x, y, rfl, hx, hy⟩ := rel_list ha
      have : ∃ p cap, x = .slice p 0 cap := by
        rcases hs with rfl | ⟨id, off, ver, ex, cap, rfl⟩
        · exact ⟨none, 0, hx.lit_inv⟩
        · cases hx with
          | slice h1 h2 h3 h4 h5 => exact ⟨_, _, rfl⟩
      obtain ⟨p, cap, rfl⟩ := this
      exact (AnyF.slices_SortFunc_none { L with } p cap y w).mono fun e w' ⟨he, hw'⟩ => ⟨_, r, he, by rw [hw']; exact .refl hw, undef_rel r⟩
    · obtain ⟨x, y, rfl, hx, hy⟩ := rel_list ha
      obtain ⟨b, n, u, cap', rfl, hr, h2, h3, h4⟩ := slice_inv' hx
      obtain ⟨ys, rfl, g2, gy⟩ := func_inv' hy
      have hx0 : ∃ x0 : Int, 0 ≤ x0 ∧ x0 < N := by
        cases l with
        | nil => exact absurd rfl hne
        | cons a l => exact ⟨a, hin a List.mem_cons_self⟩
      have : Inhabited (Low N) := ⟨⟨hx0.choose, hx0.choose_spec⟩⟩
      let d : Array (Low N) := (l.attachWith (fun x => 0 ≤ x ∧ x < N) hin).toArray
      have hdl : d.toList.map (·.1) = l := by simp [d]
      have hds : d.size = l.length := by simp [d]
      obtain ⟨w1, w2, w3⟩ := hw.obj _ _ hS _ _ _ _ hr
      obtain ⟨ce, e, k1, k2, k3, k4⟩ := w3 hfl
      have hlt := (hw.dom _ _ _ hr).2
      have hget : ∀ j, j < d.size → l[j]? = some (d[j]!).1 := fun j hj => by
        rw [← hdl, List.getElem?_map, Array.getElem?_toList, Array.getElem?_eq_getElem hj, getElem!_pos d j hj]
        rfl
      have hH : Holds (encLow N) w b 0 d := fun j hj => by
        have hjc : j < ce.size := by omega
        have hcell : w.cell? ⟨b, 0 + j, none⟩ = some ce[j] := by simp [World.cell?, k1, Array.getElem?_eq_getElem hjc]
        have hrel := k4 j (.lit (.int .i64 (d[j]!).1)) ce[j] (by omega) (by unfold ivs; rw [List.getElem?_map, hget j hj]; rfl) (Array.getElem?_eq_getElem hjc)
        refine ⟨by rw [hcell, hrel.lit_inv]; rfl, ?_⟩
        simp [World.frozen?, k1]
      have hSWO : SWO (ltOf fun x y : Low N => cf x.1 y.1) := by
        refine ⟨fun x => ?_, fun x y z h1 h2 => ?_, fun x y z h1 h2 => ?_⟩
        · simpa [ltOf] using hO.irrefl x.1 x.2.1 x.2.2
        · have := hO.trans x.1 y.1 z.1 x.2.1 x.2.2 y.2.1 y.2.2 z.2.1 z.2.2 (of_decide_eq_true h1) (of_decide_eq_true h2)
          exact decide_eq_true this
        · have := hO.ntrans x.1 y.1 z.1 x.2.1 x.2.2 y.2.1 y.2.2 z.2.1 z.2.2 (of_decide_eq_false h1) (of_decide_eq_false h2)
          exact decide_eq_false this
      have hcmp : CmpLays1 E0.P c ys.toArray (encLow N) (fun x y => cf x.1 y.1) b 0 d.size w := by
        intro m os dk hdk x y
        have hdk : dk.size = l.length := by omega
        have hx := sort_world (N := N) hw hr hS hfl dk hdk m os
        obtain ⟨nn, hrn⟩ := hrun (dk.toList.map (·.1)) (by simp [hdk]) (fun z hz => by
          obtain ⟨q, _, rfl⟩ := List.mem_map.1 hz
          exact q.2) x.1 y.1 x.2.1 x.2.2 y.2.1 y.2.2
        have hrel : RelW r (S.put id (dk.toList.map (·.1)) l.length) (sortWorld (encLow N) w b 0 m dk os) :=
          ⟨hx.rel.dom, hx.rel.inj, hx.rel.imm, hx.rel.obj, Nat.le_refl _, hx.rel.glb⟩
        have hargs : RelL r ([.lit (.int .i64 x.1), .lit (.int .i64 y.1)] ++ caps) ([encLow N x, encLow N y] ++ ys) := RelL.append (.cons (.lit _) (.cons (.lit _) (.nil r))) ⟨g2, gy⟩
        have := callsIn_wide.1 ((run_sound hG nn).call c _ _ _ _ (hrn nn (Nat.le_refl _)) r _ _ hrel hargs)
        have ea : ([encLow N x, encLow N y] ++ ys).toArray = #[encLow N x, encLow N y] ++ ys.toArray := by simp
        rw [ea] at this
        refine this.mono fun e w' ⟨z, r', he, hxt, hv⟩ => ⟨by rw [he, hv.lit_inv], ?_⟩
        have hfr : ∀ k, k < (sortWorld (encLow N) w b 0 m dk os).heap.size → w'.heap[k]? = (sortWorld (encLow N) w b 0 m dk os).heap[k]? := fun k hk => by
          rcases hxt.frame k hk with h | ⟨i, ver, y, q1, q2, q3⟩
          · exact h
          · have := (hrel.dom _ _ _ q1).1
            simp only [St.put] at q3 this
            omega
        generalize sortWorld (encLow N) w b 0 m dk os = W at hxt hfr
        refine ⟨w'.drawn - W.drawn, w'.heap.extract W.heap.size w'.heap.size, ?_⟩
        obtain ⟨h', t', dr', os', ou'⟩ := w'
        obtain ⟨hW, tW, drW, osW, ouW⟩ := W
        have q1 := hxt.os; have q2 := hxt.tape; have q3 := hxt.output; have q4 := hxt.draws; have q5 := hxt.size
        simp only at q1 q2 q3 q4 q5 hfr
        subst q1 q2 q3
        simp only [grow, World.drewN, World.mk.injEq, true_and]
        refine ⟨Array.ext_getElem? fun k => ?_, (by show dr' = drW + (dr' - drW); omega), trivial⟩
        rw [Array.getElem?_append]
        by_cases hk : k < hW.size
        · rw [if_pos hk]; exact hfr k hk
        · rw [if_neg hk, Array.getElem?_extract]
          by_cases hk2 : k < h'.size
          · rw [if_pos (by simp; omega), show hW.size + (k - hW.size) = k by omega]
          · rw [if_neg (by simp; omega), Array.getElem?_eq_none (by omega)]
      have eg := (hG.ok.fn c fn hfn).2
      have hcon := Any.slices_SortFunc L (encLow N) (fun _ => rfl) (fun x y : Low N => cf x.1 y.1) hSWO c ys.toArray b 0 cap' d w eg hcmp hH hlt (by omega)
      rw [hds] at hcon
      have ea : #[Value.slice (some ⟨b, 0, none⟩) l.length cap', .func (.func c) [].toArray ys.toArray] = [Value.slice (some ⟨b, 0, none⟩) l.length cap', .func (.func c) [].toArray ys.toArray].toArray := rfl
      refine Calls.mono (R := _) (by rw [← ea]; exact hcon) ?_
      rintro e w' ⟨he, d', m, os, hp, hsd, rfl⟩
      have hd's : d'.size = l.length := by rw [hp.1, hds]
      have hpl : d'.toList.Perm d.toList := by
        have := hp.2.2
        rw [← hds] at this
        rw [Array.extract_size] at this
        rwa [show d'.extract 0 d.size = d' by rw [← hp.1]; exact Array.extract_size] at this
      have hsl : (d'.toList.map (·.1)).Pairwise (fun x y => ¬ cf y x < 0) := by
        rw [List.pairwise_map, List.pairwise_iff_getElem]
        intro i j hi hj hij
        have := hsd i j (Nat.zero_le _) hij (by simpa [hd's] using hj)
        rw [getElem!_pos d' j (by simpa using hj), getElem!_pos d' i (by simpa using hi)] at this
        simpa [ltOf] using this
      have heq : l' = d'.toList.map (·.1) := by
        refine perm_sorted hO ?_ (fun x hx => hin x (hperm.mem_iff.1 hx)) hsort hsl
        refine hperm.trans ?_
        have := (hpl.map (·.1)).symm
        rwa [hdl] at this
      subst heq
      exact ⟨_, r, he, sort_world hw hr hS hfl d' hd's m os, undef_rel r⟩
  · cases hg
end
end Go.Am
end
section
namespace Go.Am
open Go.RowKit
set_option linter.unusedVariables false
variable {E : Env} {n : Nat} {rnd : Option Nat} {s : Sy} {Q : Exit → Sy → Prop}
def CS (E : Env) (n : Nat) (rnd : Option Nat) (c : Code) (s : Sy) (Q : Exit → Sy → Prop) : Prop :=
 ∀ a S, Is n rnd a S s → ∃ e a' s', (∃ k, ∀ m, k ≤ m → run E m (.code c a) S = .ok (.exit e a', S)) ∧ Is n rnd a' S s' ∧ Q e s'
theorem CS.of_step {c : Code} (h : ∀ a S, Is n rnd a S s → ∃ e a' s', (∃ k, ∀ m, k ≤ m → runCode (run E m) E c a S = .ok (.exit e a', S)) ∧ Is n rnd a' S s' ∧ Q e s') : CS E n rnd c s Q := fun a S hi => by
 obtain ⟨e, a', s', ⟨k, hk⟩, h1, h2⟩ := h a S hi;refine ⟨e, a', s', ⟨k + 1, fun m hm => ?_⟩, h1, h2⟩;cases m with
 | zero => omega
 | succ m => exact hk m (by omega)
theorem CS.ret (h : Q .ret s) : CS E n rnd .ret s Q := .of_step fun a S hi => ⟨_, _, _, ⟨0, fun _ _ => rfl⟩, hi, h⟩
def ThenC (E : Env) (n : Nat) (rnd : Option Nat) (y : Code) (Q : Exit → Sy → Prop) : Exit → Sy → Prop
 | .normal, s => CS E n rnd y s Q
 | _, _ => False
theorem CS.seq {x y : Code} (h : CS E n rnd x s (ThenC E n rnd y Q)) : CS E n rnd (.seq x y) s Q := .of_step fun a S hi => by
 obtain ⟨e, a1, s1, ⟨k1, h1⟩, h2, h3⟩ := h a S hi
 have he : e = .normal := by cases e <;> first | rfl | exact h3.elim
 subst he;obtain ⟨e, a2, s2, ⟨k2, h4⟩, h5, h6⟩ := h3 a1 S h2;refine ⟨e, a2, s2, ⟨max k1 k2, fun m hm => ?_⟩, h5, h6⟩
 show runSeq _ _ _ _ _ = _;unfold runSeq;rw [h1 m (by omega)];exact h4 m (by omega)
theorem CS.text {id : Nat} {ops : Array Oper} {l : List Nat} (hl : List.range ops.size = l) (h : TO E true n rnd ops l s (Q .normal)) : CS E n rnd (.region id ops false) s Q := .of_step fun a S hi => by
 subst hl;obtain ⟨a', hc, s', h1, h2⟩ := h a S hi;refine ⟨_, a', s', ?_, h1, h2⟩
 have key : ∀ (l : List Nat) (a a' : AAct), Chain E ops S l a a' → ∃ k, ∀ m, k ≤ m → opSteps (run E m) E ops l a S = .ok (a', S) := by
  intro l
  induction l with
  | nil => intro a a' h; cases h; exact ⟨0, fun m _ => rfl⟩
  | cons i l ih =>
   intro a a' ⟨v, a1, ⟨k, hk⟩, h2, h3⟩;obtain ⟨k', hk'⟩ := ih a1 a' h3;refine ⟨max k k', fun m hm => ?_⟩;unfold opSteps opStep;rw [hk m (by omega)];simp only [Except.bind, h2];exact hk' m (by omega)
 obtain ⟨k, hk⟩ := key _ _ _ hc;refine ⟨k, fun m hm => ?_⟩
 show runRegion _ _ _ _ _ _ = _;unfold runRegion;simp only [cond_false, xSteps_of_opSteps (hk m hm), Except.bind]
theorem CS.draw (hE : ∀ v, E.same.1 v v = true) {id : Nat} {ops : Array Oper} {l1 l2 : List Nat} (h1 : firstPass ops (CheckFast.beforeL ops.toList 0 []) = l1) (h2 : secondPass ops (CheckFast.beforeL ops.toList 0 []) = l2)
  (h : TO E true n rnd ops (l1 ++ l2) s (Q .normal)) : CS E n rnd (.region id ops true) s Q := .of_step fun a S hi => by
 obtain ⟨a', hc, s', hi', hq⟩ := h a S hi;obtain ⟨a1, hc1, hc2⟩ := hc.append
 have hk : ∀ i ∈ l1, ∀ o, ops[i]? = some o → kindOf o ≠ 2 := by
  intro i hi o ho;rw [← h1] at hi;unfold firstPass at hi;rw [CheckFast.force_eq] at hi
  have := (List.mem_filter.1 hi).2;unfold isFirst at this;rw [ho] at this;simp only [Bool.and_eq_true, Bool.not_eq_true'] at this;exact beq_false.1 this.1
 obtain ⟨n1, seen, k1, k2⟩ := hc1.first hE (seen := []) hk (fun x hx => by simp at hx);obtain ⟨n2, k3⟩ := hc2.second hE (masks := CheckFast.beforeL ops.toList 0 []) (past := []) k2 (fun g hg => by simp at hg);refine ⟨_, a', s', ⟨max n1 n2, fun m hm => ?_⟩, hi', hq⟩
 show runRegion _ _ _ _ _ _ = _;unfold runRegion;simp only [cond_true, forceL_eq];unfold drawRun;rw [h1, h2, k1 m (by omega)]
 have : seen.all (agrees E ops S) = true := List.all_eq_true.2 k2;simp only [Except.bind, this, cond_true, k3 m (by omega)]
def Still (E : Env) (f : FuncId) (args : List AV) (hs : List Thing) (v : AV) : Prop := ∀ S, HasS S hs → ∃ n, ∀ m, n ≤ m → run E m (.call f args) S = .ok (.ret v, S)
theorem Still.enter {f : FuncId} {args : List AV} {hs : List Thing} {fn : Func} {c : Code} {n : Nat} {v : AV} {σ : Sl} {rs : List ResultVar} (hf : E.fn f = some fn) (hb : fn.body = some c) (hn : args.length + (fn.ntmps - args.length) = n) (hσ : zipN 0 args = σ)
  (hr : fn.results.toList = rs) (h : CS E n none c ⟨[], σ, hs⟩ (Ret rs fun u _ => u = v)) (he0 : E.eff f = none := by rfl) : Still E f args hs v := by
 intro S hS
 have ha : HasA (enterAct fn args) n none [] σ := by
  refine ⟨hn, rfl, rfl, fun t v hv => ?_⟩;rw [← hσ] at hv;simp only [enterAct, AAct.get, enter_get _ _ _ _ _ hv]
 obtain ⟨e, a', s', ⟨m0, hm⟩, hi, hq⟩ := h _ S ⟨ha, hS⟩
 have hq' : isEnd e = true ∧ s'.ms = [] ∧ ∃ vs, resS s'.sl rs = some vs ∧ oneOrTuple vs = v := by
  cases e with
  | normal => exact ⟨rfl, hq⟩
  | ret => exact ⟨rfl, hq⟩
  | _ => exact hq.elim
 obtain ⟨he, hms, vs, hv, hk⟩ := hq';refine ⟨m0 + 1, fun m hm' => ?_⟩;cases m with
 | zero => omega
 | succ m =>
  have hm := hm m (by omega)
  have hmk : a'.marks = [] := hi.act.marks.trans hms;rw [run_succ];simp only [runStep, runCall, he0, hf, hb, ofOpt, Except.bind, hm, modeOf_end he, hmk, leaveD, hr, resS_ok hi.act rs vs hv, hk]
theorem HasS.low {S : St} {hs : List Thing} (h : HasS S hs) (k : Nat) : HasS { heap := S.heap, next := S.next, low := k, glb := S.glb } hs :=
 ⟨h.wf, fun x hx => by have := h.ok x hx; cases x <;> exact this, h.apart⟩
theorem TF.sort {E0 : Env} {f : FuncId} (he : E.eff f = some (sortDeed E0)) {hs : List Thing} {p : Nat} {z : Bool} {v : AV} {l l' : List Int} (hp : hs[p]? = some (ownL z v encI l)) {c : FuncId} {caps : List AV} {N : Int} {cf : Int → Int → Int}
  (hsz : l.length < 1000000000) (hfn : ∃ fn, E0.fn c = some fn) (hin : ∀ x ∈ l, 0 ≤ x ∧ x < N) (hO : Ord N cf)
  (hrun : ∀ l2 : List Int, l2.length = l.length → (∀ x ∈ l2, 0 ≤ x ∧ x < N) → ∀ x y, 0 ≤ x → x < N → 0 ≤ y → y < N → Still E0 c ([iv x, iv y] ++ caps) (hs.set p (ownL z v encI l2)) (iv (cf x y)))
  (hperm : l'.Perm l) (hsort : l'.Pairwise (fun x y => cf x y < 0)) : TF E f [v, .func c [] caps] hs fun u hs' => u = undefA ∧ hs' = hs.set p (ownL z v encI l') := by
 intro S hS
 have hown := hS.own (p := p) (u := 1) hp
 have fin : ∀ S1, (∃ S', SortAt E0 [v, .func c [] caps] S S') → (∀ S', SortAt E0 [v, .func c [] caps] S S' → S' = S1) → HasS S1 (hs.set p (ownL z v encI l')) →
   Evt E (fun rec => rec (.call f [v, .func c [] caps]) S) fun r => ∃ w S' hs', r = (.ret w, S') ∧ HasS S' hs' ∧ (w = undefA ∧ hs' = hs.set p (ownL z v encI l')) := by
  intro S1 h1 h2 h3;refine Evt.task ⟨(.ret undefA, S1), ⟨0, fun m _ => ?_⟩, _, _, _, rfl, h3, rfl, rfl⟩
  have hd : sortDeed E0 [v, .func c [] caps] S = some (undefA, S1) := by
   unfold sortDeed;rw [dif_pos h1, h2 _ h1.choose_spec]
  simp only [runStep, runCall, he, hd, ofOpt, Except.bind]
 have hflat : ∀ l : List Int, l.flatMap encI.f = ivs l := fun l => flat_ints l
 by_cases hl : l = []
 ·subst hl
  have hl' : l' = [] := hperm.eq_nil;subst hl'
  have hset : hs.set p (ownL z v encI []) = hs := by
   refine List.ext_getElem? fun i => ?_
   rw [List.getElem?_set];split
   ·rename_i e; subst e
    rw [if_pos (List.getElem?_eq_some_iff.1 hp).1, hp]
   ·rfl
  have hv : v = .lit (.slice none 0 0) ∨ ∃ id off ver ex cap, v = .slice id off ver ex 0 cap := by
   rcases hown with ⟨_, h, _⟩ | ⟨id, ex, h, _⟩
   ·exact .inl h
   ·exact .inr ⟨_, _, _, _, _, h⟩
  refine fin S ⟨S, .inl ⟨_, _, rfl, hv, rfl⟩⟩ ?_ (by rw [hset]; exact hS);rintro S' (⟨s, g, e, _, rfl⟩ | ⟨id, fl, cap, ex, c', caps', l2, l2', N2, cf2, e, _, _, hne, _⟩)
  ·rfl
  ·exfalso
   injection e with e _
   rcases hv with rfl | ⟨id, off, ver, ex, cap, rfl⟩
   ·cases e
   ·injection e with _ _ _ _ e _
    exact hne (List.eq_nil_of_length_eq_zero e.symm)
 ·rcases hown with ⟨_, _, h, _⟩ | ⟨id, ex, rfl, hcl, hzn, fl, hfl, hget⟩
  ·exact absurd (List.eq_nil_of_length_eq_zero h) hl
  ·rw [hflat] at hcl hfl hget;rw [ivs_len] at hcl hfl
   have hcells : (l.flatMap encI.f).length = l.length := by rw [hflat, ivs_len]
   rw [hcells] at fin hp hrun ⊢
   have hid : ∀ l2 : List Int, Thing.id (ownL z (.slice id 0 l.length ex l.length l.length) encI l2) = some id := fun l2 => rfl
   have hok : ∀ (l2 : List Int) (k : Nat), l2.length = l.length → Thing.ok { heap := S.heap.set id (.row (ivs l2) 1 l.length), next := S.next, low := k, glb := S.glb } (ownL z (.slice id 0 l.length ex l.length l.length) encI l2) := fun l2 k h2 => by
    refine .inr ⟨id, ex, ?_, ?_, fun _ => ?_, l.length, ?_, ?_⟩
    ·rw [hflat, ivs_len, h2]
    ·rw [hflat, ivs_len, h2]; simp [encI]
    ·rw [h2]; exact fun h => hl (List.eq_nil_of_length_eq_zero h)
    ·rw [hflat, ivs_len, h2]; exact Nat.le_refl _
    ·rw [hflat]; exact Trie.get_set_same _ _ _
   have hput : ∀ l2 : List Int, l2.length = l.length → (∀ x ∈ l2, 0 ≤ x ∧ x < N) → ∀ x y, 0 ≤ x → x < N → 0 ≤ y → y < N →
     ∃ n, ∀ m, n ≤ m → Go.Am.run E0 m (.call c ([.lit (.int .i64 x), .lit (.int .i64 y)] ++ caps)) (S.put id l2 l.length) = .ok (.ret (.lit (.int .i64 (cf x y))), S.put id l2 l.length) := by
    intro l2 h2 h3 x y a1 a2 a3 a4
    have := hS.writeAt (i := id) (o := .row (ivs l2) 1 l.length) (y := ownL z (.slice id 0 l.length ex l.length l.length) encI l2) hp (hid l) (hid l2) (hok l2 _ h2);exact hrun l2 h2 h3 x y a1 a2 a3 a4 (S.put id l2 l.length) (this.low S.next)
   refine fin (S.write id (.row (ivs l') 1 l.length)) ⟨_, .inr ⟨id, fl, l.length, ex, c, caps, l, l', N, cf, rfl, hget, hfl, hl, by omega, hfn, hin, hO, hput, hperm, hsort, rfl⟩⟩ ?_ ?_
   ·rintro S' (⟨s, g, e, hs, rfl⟩ | ⟨id2, fl2, cap2, ex2, c2, caps2, l2, l2', N2, cf2, e, hget2, _, hne2, _, _, hin2, hO2, hrun2, hperm2, hsort2, rfl⟩)
    ·exfalso
     injection e with e _
     rcases hs with rfl | ⟨_, _, _, _, _, rfl⟩
     ·cases e
     ·injection e with _ _ _ _ e _
      exact hl (List.eq_nil_of_length_eq_zero e)
    ·injection e with e1 e2
     injection e2 with e2 _
     injection e1 with e1 _ _ _ _ _
     injection e2 with e2 _ e3
     subst e1 e2 e3;rw [hget] at hget2
     injection hget2 with hget2
     injection hget2 with hget2 _ _
     have := ivs_inj hget2;subst this
     have hcf : ∀ x ∈ l, ∀ y ∈ l, cf2 x y = cf x y := fun x hx y hy => by
      obtain ⟨n1, k1⟩ := hput l rfl hin x y (hin x hx).1 (hin x hx).2 (hin y hy).1 (hin y hy).2;obtain ⟨n2, k2⟩ := hrun2 l rfl hin2 x y (hin2 x hx).1 (hin2 x hx).2 (hin2 y hy).1 (hin2 y hy).2
      have a := k1 (max n1 n2) (by omega)
      have b := k2 (max n1 n2) (by omega);rw [a] at b
      injection b with b
      injection b with b _
      injection b with b
      injection b with b
      injection b with _ b
      exact b.symm
     have := ord_unique hO (hperm2.trans hperm.symm) (fun x hx => hin x (hperm2.mem_iff.1 hx)) (hsort2.imp_of_mem fun {x y} hx hy h => by rwa [hcf x (hperm2.mem_iff.1 hx) y (hperm2.mem_iff.1 hy)] at h) hsort;rw [this]
   ·exact hS.writeAt (i := id) hp (hid l) (hid l') (hok l' _ hperm.length_eq)
end Go.Am
end
section
namespace Go.Proofs
open Go.Shelf
shelf_lay_g SlLaysF.n6 Slsf 6 at Tryz 103 as Tryz.sortInt
end Go.Proofs
namespace Go.Am.YtiaolgbmbhldgaaGreatDoor
open Go.Am Go.RowKit
noncomputable def env0 : Env := Q.EL 1
theorem good_env0 : EnvGood env0 := Q.EL_good 1
noncomputable def effE (f : Nat) : Option (List AV → St → Option (AV × St)) := bif Nat.beq f 103 then some (sortDeed env0) else none
theorem effE_ok (f : Nat) (g : List AV → St → Option (AV × St)) (h : effE f = some g) : Effs env0.P f g := by
 unfold effE at h;cases hb : Nat.beq f 103 with
 | true =>
  rw [hb] at h;cases h
  have := Nat.eq_of_beq_eq_true hb;subst this;exact sort_effs good_env0 Go.Proofs.Tryz.sortInt
 | false => rw [hb] at h; cases h
noncomputable def envT (orc : Orc') : Env := { envS orc with eff := effE }
theorem goodT {orc : Orc'} (h : ∀ f g, orc f = some g → Meets Go.Proofs.Tryz.prog f g) : EnvGood (envT orc) :=
 ⟨⟨(goodS h).ok.und, (goodS h).ok.info, (goodS h).ok.byt, (goodS h).ok.zro, (goodS h).ok.fn, (goodS h).ok.ext⟩, (goodS h).orc, (goodS h).body, (goodS h).mixed, effE_ok⟩
end Go.Am.YtiaolgbmbhldgaaGreatDoor
end
section
namespace Go.Am.YtiaolgbmbhldgaaGreatDoor
open Go.Am Go.RowKit
def lev : Nat → Option Nat
 | 4 => some 3
 | 5 => some 2
 | 6 => some 3
 | 9 => some 2
 | 10 => some 2
 | 11 => some 2
 | 12 => some 2
 | 13 => some 2
 | 14 => some 2
 | 15 => some 2
 | 16 => some 0
 | 17 => some 0
 | 22 => some 1
 | 23 => some 1
 | 25 => some 1
 | 26 => some 1
 | 28 => some 1
 | 29 => some 1
 | 30 => some 1
 | 31 => some 2
 | 32 => some 1
 | 33 => some 2
 | 34 => some 1
 | 35 => some 1
 | 36 => some 1
 | 37 => some 1
 | 38 => some 1
 | 39 => some 2
 | 49 => some 1
 | 112 => some 1
 | _ => none
noncomputable def baseE : Orc' := fun f => match f with | 24 => some (table [([], .lit (.bool true))]) | 130 => some cmpT | _ => none
theorem baseE_ok : ∀ f g, baseE f = some g → Meets Go.Proofs.Tryz.prog f g := fun f g h => by
 unfold baseE at h;split at h
 ·cases h; exact Closed.awake_meets
 ·cases h; exact cmp_meets
 ·cases h
noncomputable def EL (k : Nat) : Env := envT (orsB baseE envT lev k)
theorem EL_good (k : Nat) : EnvGood (EL k) := orsB_good (P := Go.Proofs.Tryz.prog) (fun _ => rfl) (fun _ => rfl) baseE_ok (fun _ h => goodT h) (fun _ => rfl) k
theorem orcL {f j k : Nat} (h : lev f = some j) (hk : j < k) : (EL k).orc f = some (sem (EL j) f) := orsLB (fun _ => rfl) h hk
theorem orcN {f k : Nat} (h : levB baseE lev f = none) : (EL k).orc f = none := orsNB (fun _ => rfl) h
theorem orcA {k : Nat} : (EL k).orc 24 = some (table [([], .lit (.bool true))]) := by
 show orsB baseE envT lev k 24 = _;rw [orsB_base rfl];rfl
theorem orcC {k : Nat} : (EL k).orc 130 = some cmpT := by
 show orsB baseE envT lev k 130 = _;rw [orsB_base rfl];rfl
theorem bo_ty4 {k : Nat} : pureVal (EL k).P (underlying 4) = some .bool := show pureVal Go.Proofs.Tryz.prog (underlying 4) = some .bool by kernel_rfl
theorem hu_cv2 : pureVal Go.Proofs.Tryz.prog (underlying 2) = some Go.Proofs.Tryz.t2.desc := by kernel_rfl
theorem hu_cv3 : pureVal Go.Proofs.Tryz.prog (underlying 3) = some Go.Proofs.Tryz.t3.desc := by kernel_rfl
theorem hu_cv5 : pureVal Go.Proofs.Tryz.prog (underlying 5) = some Go.Proofs.Tryz.t5.desc := by kernel_rfl
theorem hu_cv65 : pureVal Go.Proofs.Tryz.prog (underlying 65) = some Go.Proofs.Tryz.t65.desc := by kernel_rfl
theorem hu_cv172 : pureVal Go.Proofs.Tryz.prog (underlying 172) = some Go.Proofs.Tryz.t172.desc := by kernel_rfl
theorem hu_cv194 : pureVal Go.Proofs.Tryz.prog (underlying 194) = some Go.Proofs.Tryz.t194.desc := by kernel_rfl
theorem hu_cv196 : pureVal Go.Proofs.Tryz.prog (underlying 196) = some Go.Proofs.Tryz.t196.desc := by kernel_rfl
theorem hu_cv207 : pureVal Go.Proofs.Tryz.prog (underlying 207) = some Go.Proofs.Tryz.t196.desc := by kernel_rfl
theorem cv_ty5_3 {k : Nat} {a : Int} (h : -9223372036854775808 ≤ a ∧ a < 9223372036854775808) : pureVal (EL k).P (convert 5 3 (.int .u8 a)) = some (.int .i64 a) := pure_conv (P := Go.Proofs.Tryz.prog) hu_cv5 hu_cv3 (wrap_id h.1 h.2)
theorem cv_ty65_3 {k : Nat} {a : Int} (h : -9223372036854775808 ≤ a ∧ a < 9223372036854775808) : pureVal (EL k).P (convert 65 3 (.int .u16 a)) = some (.int .i64 a) := pure_conv (P := Go.Proofs.Tryz.prog) hu_cv65 hu_cv3 (wrap_id h.1 h.2)
theorem cv_ty172_3 {k : Nat} {a : Int} (h : -9223372036854775808 ≤ a ∧ a < 9223372036854775808) : pureVal (EL k).P (convert 172 3 (.int .u64 a)) = some (.int .i64 a) := pure_conv (P := Go.Proofs.Tryz.prog) hu_cv172 hu_cv3 (wrap_id h.1 h.2)
theorem cv_ty196_2 {k : Nat} {a : Int} (h : -9223372036854775808 ≤ a ∧ a < 9223372036854775808) : pureVal (EL k).P (convert 196 2 (.int .u64 a)) = some (.int .i64 a) := pure_conv (P := Go.Proofs.Tryz.prog) hu_cv196 hu_cv2 (wrap_id h.1 h.2)
theorem hu_ty28 : pureVal Go.Proofs.Tryz.prog (underlying 28) = some Go.Proofs.Tryz.t27.desc := by kernel_rfl
theorem eql_ty28 {k : Nat} (x y : Operand) (a0 : Int) (a1 : Int) (a2 : Str) (b0 : Int) (b1 : Int) (b2 : Str) : abin (EL k) .eql 28 x y (.agg [iv a0, iv a1, sv a2]) (.agg [iv b0, iv b1, sv b2]) = .ok (bv (a0 == b0 && a1 == b1 && a2 == b2)) ∧ ((a0 == b0 && a1 == b1 && a2 == b2) = true ↔ a0 = b0 ∧ a1 = b1 ∧ a2 = b2) := by
 refine ⟨abin_agg (A := .agg #[.int .i64 a0, .int .i64 a1, .string ⟨a2.toArray⟩]) (B := .agg #[.int .i64 b0, .int .i64 b1, .string ⟨b2.toArray⟩]) (by simp) rfl rfl ?_ (bin_eql (pure_eqF3 (hu_ty28) ?_ (.int (by decide) ⟨.i64, by kernel_rfl⟩ (by kernel_rfl) (by kernel_rfl)) (.int (by decide) ⟨.i64, by kernel_rfl⟩ (by kernel_rfl) (by kernel_rfl)) (.str (by decide) (by kernel_rfl) (by kernel_rfl) (by kernel_rfl)))), by by_cases h0 : a0 = b0 <;> by_cases h1 : a1 = b1 <;> by_cases h2 : a2 = b2 <;> simp [h0, h1, h2]⟩
 all_goals kernel_rfl
theorem neq_ty28 {k : Nat} (x y : Operand) (a0 : Int) (a1 : Int) (a2 : Str) (b0 : Int) (b1 : Int) (b2 : Str) : abin (EL k) .neq 28 x y (.agg [iv a0, iv a1, sv a2]) (.agg [iv b0, iv b1, sv b2]) = .ok (bv (!(a0 == b0 && a1 == b1 && a2 == b2))) ∧ ((!(a0 == b0 && a1 == b1 && a2 == b2)) = true ↔ ¬ (a0 = b0 ∧ a1 = b1 ∧ a2 = b2)) := by
 refine ⟨abin_agg (A := .agg #[.int .i64 a0, .int .i64 a1, .string ⟨a2.toArray⟩]) (B := .agg #[.int .i64 b0, .int .i64 b1, .string ⟨b2.toArray⟩]) (by simp) rfl rfl ?_ (bin_neq (pure_eqF3 (hu_ty28) ?_ (.int (by decide) ⟨.i64, by kernel_rfl⟩ (by kernel_rfl) (by kernel_rfl)) (.int (by decide) ⟨.i64, by kernel_rfl⟩ (by kernel_rfl) (by kernel_rfl)) (.str (by decide) (by kernel_rfl) (by kernel_rfl) (by kernel_rfl)))), by by_cases h0 : a0 = b0 <;> by_cases h1 : a1 = b1 <;> by_cases h2 : a2 = b2 <;> simp [h0, h1, h2]⟩
 all_goals kernel_rfl
end Go.Am.YtiaolgbmbhldgaaGreatDoor
end
section
namespace Go.Am.YtiaolgbmbhldgaaGreatDoor
open Go.Am Go.RowKit
set_option linter.unusedVariables false
set_option linter.unusedSimpArgs false
set_option maxRecDepth 10000 in
theorem tf_r9_in {k : Nat} (hk : 0 ≤ k) {C : List Thing} {n : Int} {low : Int} {high : Int} {r : Bool} (h : P_r9_in n low high = some r) :
  TF (EL k) 73 [iv (n), iv (low), iv (high)] C (RepF (fun (w : Unit) => bv r) (fun (w : Unit) => C)) := by
 unfold P_r9_in at h;refine TF.enter (fn := Go.Proofs.Tryz.f73) rfl rfl rfl rfl rfl (zU rfl (zA R4 (zN ?_)))
 show T _ _ _ _ _ _;apply T.joinA (r := r) (W := Unit) (fun j w => ⟨[], [(6, bv j)], C⟩) h
 ·intro j h;refine zT rfl (zM R4 (zM R4 ?_));obtain ⟨c9, hc9⟩ := zY (low ≤ n);refine zV R3 (Val.leq hc9 rfl rfl) (zM R4 ?_);obtain ⟨rfl, hc9, h⟩ | ⟨rfl, hc9, h⟩ := zI hc9 h
  ·refine zM R4 (zM R4 ?_);obtain ⟨c13, hc13⟩ := zY (n ≤ high);refine zV R3 (Val.leq hc13 rfl rfl) (zP R6 (zA R4 (zN ?_)));subst hc13;cases h;exact ⟨rfl, (), (sb .refl)⟩
  refine zO R3 (zO R3 (zO R3 (zP R6 (zA R4 (zN ?_)))));cases h;exact ⟨rfl, (), (sb .refl)⟩
 ·rintro x6 _ h;refine zR ?_;cases h;exact ⟨rfl, _, rfl, ⟨(), rfl, .refl⟩⟩
set_option maxRecDepth 10000 in
theorem tf_r9_letters {k : Nat} (hk : 0 ≤ k) {C : List Thing} {s : Str} {r : Bool} (h : P_r9_letters s = some r) :
  TF (EL k) 122 [sv s] C (RepF (fun (w : Unit) => bv r) (fun (w : Unit) => C)) := by
 unfold P_r9_letters at h;refine TF.enter (fn := Go.Proofs.Tryz.f122) rfl rfl rfl rfl rfl (zU rfl (zA R4 (zN ?_)))
 show T _ _ _ _ _ _;apply T.join (r := r) (W := Unit) (fun j w => ⟨[], [], C⟩) h
 ·intro j h;refine zU rfl (zA R4 (zN (zB ?_)))
  show T _ _ _ _ _ _;apply T.iter (r := j) (W := Unit) (fun j w => ⟨[], [(0, sv s), (3, iv (j))], C⟩) (w0 := ()) h
  ·exact (sb .refl)
  rintro i _ a h;unfold P_r9_letters_L1 at h;refine zS (zU rfl (zM R4 (zM R4 (zV R3 (Val.len_str rfl rfl) ?_))));obtain ⟨c7, hc7⟩ := zY (i < (s.length : Int));refine zV R3 (Val.lss hc7 rfl rfl) (zN ?_);obtain ⟨rfl, hc7, h⟩ | ⟨rfl, hc7, h⟩ := zI hc7 h
  ·refine zC rfl (zK ?_)
   show T _ _ _ _ _ _;apply T.join (r := a) (W := Unit) (fun j w => ⟨[], [(0, sv s), (3, iv (i))], C⟩) h
   ·intro j h;refine zB ?_
    show T _ _ _ _ _ _;apply T.joinA (r := j) (W := Unit) (fun j w => ⟨[], [(0, sv s), (3, iv (i)), (19, bv j)], C⟩) h
    ·intro j h;refine zT rfl (zM R4 (zM R4 ?_));obtain ⟨hk12, h⟩ := chk_some h;refine zV R3 (Val.index_str rfl rfl rfl hk12) ?_;obtain ⟨c13, hc13⟩ := zY ((byteAt s i) < 97);refine zV R3 (Val.lssK hc13 rfl rfl) (zM R4 ?_);obtain ⟨rfl, hc13, h⟩ | ⟨rfl, hc13, h⟩ := zI hc13 h
     ·refine zO R3 (zO R3 (zO R3 (zO R3 (zP R6 (zN ?_)))));cases h;exact ⟨rfl, (), (sb .refl)⟩
     refine zM R4 (zM R4 ?_);obtain ⟨hk17, h⟩ := chk_some h;refine zV R3 (Val.index_str rfl rfl rfl hk17) ?_;obtain ⟨c18, hc18⟩ := zY ((byteAt s i) > 122);refine zV R3 (Val.gtrK hc18 rfl rfl) (zP R6 (zN ?_));subst hc18;cases h;exact ⟨rfl, (), (sb .refl)⟩
    ·rintro x19 _ h;obtain ⟨rfl, h⟩ | ⟨rfl, h⟩ := zZ h
     ·refine zC rfl (zU rfl (zA R4 (zN (zR ?_))));cases h;exact ⟨ret_ne, ⟨ret_ne, ⟨ret_ne, ⟨rfl, _, rfl, ⟨(), rfl, .refl⟩⟩⟩⟩⟩
     refine zD rfl (zK ?_);cases h;exact ⟨rfl, (), (sb .refl)⟩
   ·rintro _ _ h;refine zT rfl (zM R4 ?_);obtain ⟨hk9, h⟩ := chk_some h;refine zV R3 (Val.add rfl rfl hk9) (zA R4 (zN ?_));cases h;exact ⟨rfl, (), (sb .refl)⟩
  refine zD rfl (zE ?_);cases h;exact ⟨ex_ne, ⟨rfl, (), (sb .refl)⟩⟩
 ·rintro _ _ h;refine zU rfl (zA R4 (zN (zR ?_)));cases h;exact ⟨rfl, _, rfl, ⟨(), rfl, .refl⟩⟩
set_option maxRecDepth 10000 in
theorem tf_r1_Name {k : Nat} (hk : 0 ≤ k) {C : List Thing} {s : Str} {r : Bool} (h : P_r1_Name s = some r) :
  TF (EL k) 120 [sv s] C (RepF (fun (w : Unit) => bv r) (fun (w : Unit) => C)) := by
 unfold P_r1_Name at h;refine TF.enter (fn := Go.Proofs.Tryz.f120) rfl rfl rfl rfl rfl (zU rfl (zA R4 (zN ?_)))
 show T _ _ _ _ _ _;apply T.join (r := r) (W := Unit) (fun j w => ⟨[], [(0, sv s)], C⟩) h
 ·intro j h
  show T _ _ _ _ _ _;apply T.joinA (r := j) (W := Unit) (fun j w => ⟨[], [(0, sv s), (11, bv j)], C⟩) h
  ·intro j h;refine zT rfl (zM R4 (zV R3 (Val.len_str rfl rfl) ?_));obtain ⟨c6, hc6⟩ := zY ((s.length : Int) = 0);refine zV R3 (Val.eql hc6 rfl rfl) (zM R4 ?_);obtain ⟨rfl, hc6, h⟩ | ⟨rfl, hc6, h⟩ := zI hc6 h
   ·refine zO R3 (zO R3 (zO R3 (zP R6 (zN ?_))));cases h;exact ⟨rfl, (), (sb .refl)⟩
   refine zM R4 (zV R3 (Val.len_str rfl rfl) ?_);obtain ⟨c10, hc10⟩ := zY ((s.length : Int) > 16);refine zV R3 (Val.gtr hc10 rfl rfl) (zP R6 (zN ?_));subst hc10;cases h;exact ⟨rfl, (), (sb .refl)⟩
  ·rintro x11 _ h;obtain ⟨rfl, h⟩ | ⟨rfl, h⟩ := zZ h
   ·refine zC rfl (zU rfl (zA R4 (zN (zR ?_))));cases h;exact ⟨ret_ne, ⟨rfl, _, rfl, ⟨(), rfl, .refl⟩⟩⟩
   refine zD rfl (zK ?_);cases h;exact ⟨rfl, (), (sb .refl)⟩
 ·rintro _ _ h
  show T _ _ _ _ _ _;apply T.join (r := r) (W := Unit) (fun j w => ⟨[], [], C⟩) h
  ·intro j h;refine zU rfl (zA R4 (zN (zB ?_)))
   show T _ _ _ _ _ _;apply T.iter (r := j) (W := Unit) (fun j w => ⟨[], [(0, sv s), (3, iv (j))], C⟩) (w0 := ()) h
   ·exact (sb .refl)
   rintro i _ a h;unfold P_r1_Name_L1 at h;refine zS (zU rfl (zM R4 (zM R4 (zV R3 (Val.len_str rfl rfl) ?_))));obtain ⟨c15, hc15⟩ := zY (i < (s.length : Int));refine zV R3 (Val.lss hc15 rfl rfl) (zN ?_);obtain ⟨rfl, hc15, h⟩ | ⟨rfl, hc15, h⟩ := zI hc15 h
   ·refine zC rfl (zK ?_)
    show T _ _ _ _ _ _;apply T.join (r := a) (W := Unit) (fun j w => ⟨[], [(0, sv s), (3, iv (i))], C⟩) h
    ·intro j h;refine zB ?_
     show T _ _ _ _ _ _;apply T.joinA (r := j) (W := Unit) (fun j w => ⟨[], [(0, sv s), (3, iv (i)), (39, bv j)], C⟩) h
     ·intro j h;refine zT rfl (zM R4 (zM R4 ?_));obtain ⟨hk20, h⟩ := chk_some h;refine zV R3 (Val.index_str rfl rfl rfl hk20) (TO.callIn rfl rfl rfl rfl rfl rfl (orcN rfl) (TF.enter (fn := Go.Proofs.Tryz.f143) rfl rfl rfl rfl rfl (zU rfl (zA R4 (zN ?_)))))
      show T _ _ _ _ _ _;apply T.joinA (r := j) (W := Unit) (fun j w => ⟨[], [(2, bv j)], C⟩) h
      ·intro j h;refine zT rfl (zM R4 ?_);obtain ⟨c4, hc4⟩ := zY ((byteAt s i) ≥ 97);refine zV R3 (Val.geqK hc4 rfl rfl) (zM R4 ?_);obtain ⟨rfl, hc4, h⟩ | ⟨rfl, hc4, h⟩ := zI hc4 h
       ·refine zM R4 ?_;obtain ⟨c7, hc7⟩ := zY ((byteAt s i) ≤ 122);refine zV R3 (Val.leqK hc7 rfl rfl) (zP R6 (zA R4 (zN ?_)));subst hc7;cases h;exact ⟨rfl, (), (sb .refl)⟩
       refine zO R3 (zO R3 (zP R6 (zA R4 (zN ?_))));cases h;exact ⟨rfl, (), (sb .refl)⟩
      ·rintro x2 _ h;refine zR ?_;refine ⟨rfl, _, rfl, ?_⟩;refine zV R3 (Val.not rfl) (zM R4 ?_);obtain ⟨rfl, h⟩ | ⟨rfl, h⟩ := zZ h
       ·refine zO R3 (zO R3 (zO R3 (zO R3 (zO R3 (zO R3 (zO R3 (zO R3 (zO R3 (zO R3 (zO R3 (zO R3 (zO R3 (zO R3 (zO R3 (zP R6 (zN ?_))))))))))))))));cases h;exact ⟨rfl, (), (sb .refl)⟩
       refine zM R4 ?_;obtain ⟨c25, hc25⟩ := zY (i = 0);refine zV R3 (Val.eql hc25 rfl rfl) (zM R4 ?_);obtain ⟨rfl, hc25, h⟩ | ⟨rfl, hc25, h⟩ := zI hc25 h
       ·refine zO R3 (zO R3 (zO R3 (zO R3 (zO R3 (zO R3 (zO R3 (zO R3 (zO R3 (zO R3 (zO R3 (zP R6 (zP R6 (zN ?_)))))))))))));cases h;exact ⟨rfl, (), (sb .refl)⟩
       refine zM R4 (zM R4 ?_);obtain ⟨hk29, h⟩ := chk_some h;refine zV R3 (Val.index_str rfl rfl rfl hk29) (TO.callIn rfl rfl rfl rfl rfl rfl (orcN rfl) (TF.enter (fn := Go.Proofs.Tryz.f144) rfl rfl rfl rfl rfl (zU rfl (zA R4 (zN ?_)))))
       show T _ _ _ _ _ _;apply T.joinA (r := j) (W := Unit) (fun j w => ⟨[], [(2, bv j)], C⟩) h
       ·intro j h;refine zT rfl (zM R4 ?_);obtain ⟨c4, hc4⟩ := zY ((byteAt s i) ≥ 48);refine zV R3 (Val.geqK hc4 rfl rfl) (zM R4 ?_);obtain ⟨rfl, hc4, h⟩ | ⟨rfl, hc4, h⟩ := zI hc4 h
        ·refine zM R4 ?_;obtain ⟨c7, hc7⟩ := zY ((byteAt s i) ≤ 57);refine zV R3 (Val.leqK hc7 rfl rfl) (zP R6 (zA R4 (zN ?_)));subst hc7;cases h;exact ⟨rfl, (), (sb .refl)⟩
        refine zO R3 (zO R3 (zP R6 (zA R4 (zN ?_))));cases h;exact ⟨rfl, (), (sb .refl)⟩
       ·rintro x2_2 _ h;refine zR ?_;refine ⟨rfl, _, rfl, ?_⟩;refine zV R3 (Val.not rfl) (zM R4 ?_);obtain ⟨rfl, h⟩ | ⟨rfl, h⟩ := zZ h
        ·refine zO R3 (zO R3 (zO R3 (zO R3 (zP R6 (zP R6 (zP R6 (zN ?_)))))));cases h;exact ⟨rfl, (), (sb .refl)⟩
        refine zM R4 (zM R4 ?_);obtain ⟨hk35, h⟩ := chk_some h;refine zV R3 (Val.index_str rfl rfl rfl hk35) ?_;obtain ⟨c36, hc36⟩ := zY (¬ (byteAt s i) = 46);refine zV R3 (Val.neqK hc36 rfl rfl) (zP R6 (zP R6 (zP R6 (zN ?_))));subst hc36;cases h;exact ⟨rfl, (), (sb .refl)⟩
     ·rintro x39 _ h;obtain ⟨rfl, h⟩ | ⟨rfl, h⟩ := zZ h
      ·refine zC rfl (zU rfl (zA R4 (zN (zR ?_))));cases h;exact ⟨ret_ne, ⟨ret_ne, ⟨ret_ne, ⟨rfl, _, rfl, ⟨(), rfl, .refl⟩⟩⟩⟩⟩
      refine zD rfl (zK ?_);cases h;exact ⟨rfl, (), (sb .refl)⟩
    ·rintro _ _ h;refine zT rfl (zM R4 ?_);obtain ⟨hk17, h⟩ := chk_some h;refine zV R3 (Val.add rfl rfl hk17) (zA R4 (zN ?_));cases h;exact ⟨rfl, (), (sb .refl)⟩
   refine zD rfl (zE ?_);cases h;exact ⟨ex_ne, ⟨rfl, (), (sb .refl)⟩⟩
  ·rintro _ _ h;refine zU rfl (zA R4 (zN (zR ?_)));cases h;exact ⟨rfl, _, rfl, ⟨(), rfl, .refl⟩⟩
set_option maxRecDepth 10000 in
theorem tf_r1_Place {k : Nat} (hk : 0 ≤ k) {C : List Thing} {v_list : AV} {list : List Str} {word : Str} (h_list : Rdl C encStr v_list list) {r : Int} (h : P_r1_Place list word = some r) :
  TF (EL k) 88 [v_list, sv word] C (RepF (fun (w : Unit) => iv r) (fun (w : Unit) => C)) := by
 unfold P_r1_Place at h;refine TF.enter (fn := Go.Proofs.Tryz.f88) rfl rfl rfl rfl rfl (zU rfl (zA R4 (zN (zU rfl (zM R4 (zV R3 (Val.len_l h_list mem0 rfl rfl) ?_))))));obtain ⟨hk9, h⟩ := chk_some h;refine zV R3 (Val.sub rfl rfl hk9) (zA R4 (zN ?_))
 show T _ _ _ _ _ _;apply T.joinA (r := r) (W := Unit) (fun j w => ⟨[], [(0, v_list), (1, sv word), (5, iv (j))], C⟩) h
 ·intro j h;refine zB ?_
  show T _ _ _ _ _ _;apply T.iter (r := j) (W := Unit) (fun j w => ⟨[], [(0, v_list), (1, sv word), (5, iv (j))], C⟩) (w0 := ()) h
  ·exact (sb .refl)
  rintro at_ _ a h;unfold P_r1_Place_L1 at h
  show T _ _ _ _ _ _;apply T.join (r := a) (W := Unit) (fun j w => ⟨[], [(0, v_list), (1, sv word), (5, iv (at_))], C⟩) h
  ·intro j h
   show T _ _ _ _ _ _;apply T.joinA (r := j) (W := Unit) (fun j w => ⟨[], [(0, v_list), (1, sv word), (5, iv (at_)), (19, bv j)], C⟩) h
   ·intro j h;refine zT rfl (zM R4 ?_);obtain ⟨c11, hc11⟩ := zY (at_ ≥ 0);refine zV R3 (Val.geq hc11 rfl rfl) (zM R4 ?_);obtain ⟨rfl, hc11, h⟩ | ⟨rfl, hc11, h⟩ := zI hc11 h
    ·refine zM R4 (zM R4 ?_);obtain ⟨a15, hia15, ea15, h⟩ := el_some h;refine TO.fact (rdl_at h_list mem0 hia15 ea15) (fun hp=>?_);obtain ⟨pa15, hpa15, hva15⟩ := hp;refine zV R3 (hva15 ⟨rfl, rfl⟩ rfl rfl) (zV R3 (Val.load_e hpa15 mem0 ⟨_, rfl, rfl⟩ rfl rfl) (zM R4 ?_));obtain ⟨c18, hc18⟩ := zY (¬ a15 = word);refine zV R3 (Val.neq_str hc18 rfl rfl) (zP R6 (zN ?_));subst hc18;cases h;exact ⟨rfl, (), (sb .refl)⟩
    refine zO R3 (zO R3 (zO R3 (zO R3 (zO R3 (zO R3 (zP R6 (zN ?_)))))));cases h;exact ⟨rfl, (), (sb .refl)⟩
   ·rintro x19 _ h;obtain ⟨rfl, h⟩ | ⟨rfl, h⟩ := zZ h
    ·refine zC rfl (zK ?_);cases h;exact ⟨rfl, (), (sb .refl)⟩
    refine zD rfl (zE ?_);cases h;exact ⟨ex_ne, ⟨ex_ne, ⟨rfl, (), (sb .refl)⟩⟩⟩
  ·rintro _ _ h;refine zB (zT rfl (zM R4 ?_));obtain ⟨hk21, h⟩ := chk_some h;refine zV R3 (Val.sub rfl rfl hk21) (zA R4 (zN ?_));cases h;exact ⟨rfl, (), (sb .refl)⟩
 ·rintro at_ _ h
  show T _ _ _ _ _ _;apply T.join (r := r) (W := Unit) (fun j w => ⟨[], [(5, iv (at_))], C⟩) h
  ·intro j h;refine zU rfl (zA R4 (zN (zB ?_)))
   show T _ _ _ _ _ _;apply T.iter (r := j) (W := Unit) (fun j w => ⟨[], [(0, v_list), (1, sv word), (5, iv (at_)), (6, iv (j))], C⟩) (w0 := ()) h
   ·exact (sb .refl)
   rintro i _ a h;unfold P_r1_Place_L2 at h;refine zS (zU rfl (zM R4 (zM R4 ?_)));obtain ⟨c24, hc24⟩ := zY (i < at_);refine zV R3 (Val.lss hc24 rfl rfl) (zN ?_);obtain ⟨rfl, hc24, h⟩ | ⟨rfl, hc24, h⟩ := zI hc24 h
   ·refine zC rfl (zK (zS (zB (zU rfl (zM R4 (zM R4 ?_))))));obtain ⟨a29, hia29, ea29, h⟩ := el_some h;refine TO.fact (rdl_at h_list mem0 hia29 ea29) (fun hp=>?_);obtain ⟨pa29, hpa29, hva29⟩ := hp;refine zV R3 (hva29 ⟨rfl, rfl⟩ rfl rfl) (zV R3 (Val.load_e hpa29 mem0 ⟨_, rfl, rfl⟩ rfl rfl) (zM R4 ?_));obtain ⟨c32, hc32⟩ := zY (a29 = word);refine zV R3 (Val.eql_str hc32 rfl rfl) (zN ?_);obtain ⟨rfl, hc32, h⟩ | ⟨rfl, hc32, h⟩ := zI hc32 h
    ·refine zC rfl (zU rfl (zM R4 (zA R4 (zN (zR ?_)))));cases h;exact ⟨ret_ne, ⟨ret_ne, ⟨rfl, _, rfl, ⟨(), rfl, .refl⟩⟩⟩⟩
    refine zD rfl (zK (zT rfl (zM R4 ?_)));obtain ⟨hk26, h⟩ := chk_some h;refine zV R3 (Val.add rfl rfl hk26) (zA R4 (zN ?_));cases h;exact ⟨rfl, (), (sb .refl)⟩
   refine zD rfl (zE ?_);cases h;exact ⟨ex_ne, ⟨rfl, (), (sb .refl)⟩⟩
  ·rintro _ _ h;refine zU rfl (zM R4 (zA R4 (zN (zR ?_))));cases h;exact ⟨rfl, _, rfl, ⟨(), rfl, .refl⟩⟩
set_option maxRecDepth 10000 in
theorem tf_r1_Fresh {k : Nat} (hk : 0 ≤ k) {C : List Thing} {word : Str} {v_others : AV} {others : List Str} (h_others : Rdl C encStr v_others others) {r : Int} (h : P_r1_Fresh word others = some r) :
  TF (EL k) 74 [sv word, v_others] C (RepF (fun (w : Unit) => iv r) (fun (w : Unit) => C)) := by
 unfold P_r1_Fresh at h;refine TF.enter (fn := Go.Proofs.Tryz.f74) rfl rfl rfl rfl rfl (zU rfl (zA R4 (zN (zU rfl (zA R4 (zN ?_))))))
 show T _ _ _ _ _ _;apply T.joinA (r := r) (W := Unit) (fun j w => ⟨[], [(0, sv word), (5, iv (j))], C⟩) h
 ·intro j h;refine zU rfl (zM R4 (zM R4 ?_));obtain ⟨y8, hr8, h⟩ := andx_some h;refine TO.callT (first := []) (cap := []) (vs := [v_others, sv word]) rfl rfl rfl rfl rfl rfl (orcN rfl) (tf_r1_Place aD (Rdl.mono h_others mem0) hr8) ?_;rintro _;refine zG (C) rfl ?_;obtain ⟨c9, hc9⟩ := zY (y8 ≥ 0);refine zV R3 (Val.geq hc9 rfl rfl) (zN ?_);obtain ⟨rfl, hc9, h⟩ | ⟨rfl, hc9, h⟩ := zI hc9 h
  ·refine zC rfl (zT rfl (zA R4 (zN ?_)));cases h;exact ⟨rfl, (), (sb .refl)⟩
  refine zD rfl (zK ?_);cases h;exact ⟨rfl, (), (sb .refl)⟩
 ·rintro e _ h
  show T _ _ _ _ _ _;apply T.joinA (r := r) (W := Unit) (fun j w => ⟨[], [(5, iv (j))], C⟩) h
  ·intro j h;refine zU rfl (zM R4 ?_);obtain ⟨y11, hr11, h⟩ := andx_some h;refine TO.callT (first := []) (cap := []) (vs := [sv word]) rfl rfl rfl rfl rfl rfl (orcN rfl) (tf_r1_Name aD hr11) ?_;rintro _;refine zG (C) rfl (zV R3 (Val.not rfl) (zN ?_));obtain ⟨rfl, h⟩ | ⟨rfl, h⟩ := zZ h
   ·refine zD rfl (zK ?_);cases h;exact ⟨rfl, (), (sb .refl)⟩
   refine zC rfl (zT rfl (zA R4 (zN ?_)));cases h;exact ⟨rfl, (), (sb .refl)⟩
  ·rintro e_2 _ h;refine zU rfl (zM R4 (zA R4 (zN (zR ?_))));cases h;exact ⟨rfl, _, rfl, ⟨(), rfl, .refl⟩⟩
set_option maxRecDepth 10000 in
theorem tf_r9_Mark {k : Nat} (hk : 0 ≤ k) {C : List Thing} {qD : AV} {qF : List Str} {qC : AV} {qE : List qH} {qB : AV} {qG : List qA} {m_Class : Int} {m_Number : Int} {m_Suffix : Str} (qK : Rdl C encStr qD qF) (qJ : Rdl C qU qC qE) (qI : Rdl C qN qB qG) {r : Int} (h : P_r9_Mark qF qE qG m_Class m_Number m_Suffix = some r) :
  TF (EL k) 80 [.agg [qD, qC, qB], .agg [iv (m_Class), iv (m_Number), sv m_Suffix]] C (RepF (fun (w : Unit) => iv r) (fun (w : Unit) => C)) := by
 unfold P_r9_Mark at h;refine TF.enter (fn := Go.Proofs.Tryz.f80) rfl rfl rfl rfl rfl (zU rfl (zQ 3 [_,_,_] R7 (fun b2=>zQ 3 [_,_,_] R7 (fun b3=>zA R4 (zN (zS (zU rfl (zF 0 R6 (zL 0 R3 R6 (zF 0 R6 (zL 1 R3 R6 (zV R3 (Val.len_l qK M2 rfl rfl) ?_))))))))))));obtain ⟨hk10, h⟩ := chk_some h;refine zV R3 (Val.sub rfl rfl hk10) ?_;obtain ⟨y11, hr11, h⟩ := andx_some h;refine TO.callT (first := []) (cap := []) (vs := [iv (m_Class), iv (0), iv (((qF.length : Int) - 1))]) rfl rfl rfl rfl rfl rfl (orcN rfl) (tf_r9_in aD hr11) ?_;rintro _;refine zG (_::_::C) rfl (zV R3 (Val.not rfl) (zN ?_));obtain ⟨rfl, h⟩ | ⟨rfl, h⟩ := zZ h
 ·refine zD rfl (zK (zS (zU rfl (zF 1 R6 (zL 0 R3 R6 ?_)))));obtain ⟨y15, hr15, h⟩ := andx_some h;refine TO.callT (first := []) (cap := []) (vs := [iv (m_Number), iv (1), iv (9999)]) rfl rfl rfl rfl rfl rfl (orcN rfl) (tf_r9_in aD hr15) ?_;rintro _;refine zG (_::_::C) rfl (zV R3 (Val.not rfl) (zN ?_));obtain ⟨rfl, h⟩ | ⟨rfl, h⟩ := zZ h
  ·refine zD rfl (zK ?_)
   show T _ _ _ _ _ _;apply T.join (r := r) (W := Unit) (fun j w => ⟨[], [], .row b3 3 [iv (m_Class), iv (m_Number), sv m_Suffix] :: .row b2 3 [qD, qC, qB] :: C⟩) h
   ·intro j h
    show T _ _ _ _ _ _;apply T.joinA (r := j) (W := Unit) (fun j w => ⟨[], [(26, bv j)], .row b3 3 [iv (m_Class), iv (m_Number), sv m_Suffix] :: .row b2 3 [qD, qC, qB] :: C⟩) h
    ·intro j h;refine zT rfl (zF 2 R6 (zL 0 R3 R6 (zV R3 (Val.len_str rfl rfl) ?_)));obtain ⟨c20, hc20⟩ := zY ((m_Suffix.length : Int) > 2);refine zV R3 (Val.gtr hc20 rfl rfl) (zM R4 ?_);obtain ⟨rfl, hc20, h⟩ | ⟨rfl, hc20, h⟩ := zI hc20 h
     ·refine zO R3 (zO R3 (zO R3 (zO R3 (zP R6 (zN ?_)))));cases h;exact ⟨rfl, (), (sb .refl)⟩
     refine zF 2 R6 (zL 0 R3 R6 ?_);obtain ⟨y24, hr24, h⟩ := andx_some h;refine TO.callT (first := []) (cap := []) (vs := [sv m_Suffix]) rfl rfl rfl rfl rfl rfl (orcN rfl) (tf_r9_letters aD hr24) ?_;rintro _;refine zG (_::_::C) rfl (zV R3 (Val.not rfl) (zP R6 (zN ?_)));cases h;exact ⟨rfl, (), (sb .refl)⟩
    ·rintro x26 _ h;obtain ⟨rfl, h⟩ | ⟨rfl, h⟩ := zZ h
     ·refine zC rfl (zU rfl (zA R4 (zN (zR ?_))));cases h;exact ⟨ret_ne, ⟨rfl, _, rfl, ⟨(), rfl, (pk [98,98] rfl)⟩⟩⟩
     refine zD rfl (zK ?_);cases h;exact ⟨rfl, (), (sb .refl)⟩
   ·rintro _ _ h;refine zU rfl (zA R4 (zN (zR ?_)));cases h;exact ⟨rfl, _, rfl, ⟨(), rfl, (pk [98,98] rfl)⟩⟩
  refine zC rfl (zU rfl (zA R4 (zN (zR ?_))));cases h;exact ⟨rfl, _, rfl, ⟨(), rfl, (pk [98,98] rfl)⟩⟩
 refine zC rfl (zU rfl (zA R4 (zN (zR ?_))));cases h;exact ⟨rfl, _, rfl, ⟨(), rfl, (pk [98,98] rfl)⟩⟩
set_option maxRecDepth 10000 in
theorem tf_r9_Own {k : Nat} (hk : 0 ≤ k) {C : List Thing} {v_books : AV} {books : List qA} (h_books : Rdl C qN v_books books) {r : (List Int)} (h : P_r9_Own books = some r) :
  TF (EL k) 51 [v_books] C (RepF (fun (w : AV) => w) (fun (w : AV) => ownL true w encI r :: C)) := by
 unfold P_r9_Own at h;refine TF.enter (fn := Go.Proofs.Tryz.f51) rfl rfl rfl rfl rfl (zU rfl (zA R4 (zN (zU rfl (zA R4 (zN ?_))))))
 show T _ _ _ _ _ _;apply T.joinA (r := r) (W := AV) (fun j w => ⟨[], [(3, w)], ownL true w encI j :: C⟩) h
 ·intro j h;refine zU rfl (zA R4 (zN (zB (T.nilown (u := encI.u) ?_))))
  show T _ _ _ _ _ _;apply T.iter (r := j) (W := AV) (fun j w => ⟨[], [(0, v_books), (3, w), (4, iv (j.1))], ownL true w encI j.2 :: C⟩) (w0 := nilS) h
  ·exact (sb .refl)
  rintro ⟨i, out⟩ v1 a h;unfold P_r9_Own_L1 at h;dsimp only at h;dsimp only;refine zS (zU rfl (zM R4 (zM R4 (zV R3 (Val.len_l h_books M1 rfl rfl) ?_))));obtain ⟨c8, hc8⟩ := zY (i < (books.length : Int));refine zV R3 (Val.lss hc8 rfl rfl) (zN ?_);obtain ⟨rfl, hc8, h⟩ | ⟨rfl, hc8, h⟩ := zI hc8 h
  ·refine zC rfl (zK (zS (zB (zT rfl (zM R4 (zM R4 (zM R4 ?_)))))));obtain ⟨a14, hia14, ea14, h⟩ := el_some h;refine TO.fact (rdl_at h_books M1 hia14 ea14) (fun hp=>?_);obtain ⟨pa14, hpa14, hva14⟩ := hp;refine zV R3 (hva14 ⟨rfl, rfl⟩ rfl rfl) (zV R3 (Val.faddr_e (fo := 6) hpa14 rfl rfl rfl) (zV R3 (Val.load_e (PtE.add hpa14 (by decide)) M1 ⟨_, rfl, rfl⟩ rfl rfl) (TO.build1 (en := encI) (a := a14.shelf) rfl rfl rfl ⟨rfl, rfl⟩ ⟨_, rfl, rfl⟩ (by decide) (by decide) rfl rfl (fun v17=>?_))));obtain ⟨hk18, h⟩ := chk_some h;refine TO.eff rfl rfl rfl (Eff.append_own (b := 8) (en := encI) (l := out) (l2 := [a14.shelf]) (p := 1) (q := 0) ⟨rfl, rfl, rfl, ⟨_, rfl, rfl⟩, by decide, by decide⟩ rfl rfl rfl rfl rfl rfl (flat_ones _) (by decide) hk18) ?_;rintro v18 _ rfl;refine zG (_::_::C) rfl (zA R4 (zN (zT rfl (zM R4 ?_))));obtain ⟨hk10, h⟩ := chk_some h;refine zV R3 (Val.add rfl rfl hk10) (zA R4 (zN ?_));cases h;exact ⟨rfl, v18, (sb (pk [1,98] rfl))⟩
  refine zD rfl (zE ?_);cases h;exact ⟨ex_ne, ⟨rfl, v1, (sb .refl)⟩⟩
 ·rintro out v1 h;refine zU rfl (zM R4 (zA R4 (zN (zR ?_))));cases h;exact ⟨rfl, _, rfl, ⟨v1, rfl, .refl⟩⟩
set_option maxRecDepth 10000 in
theorem tf_r9_Book {k : Nat} (hk : 0 ≤ k) {C : List Thing} {qD : AV} {qF : List Str} {qC : AV} {qE : List qH} {qB : AV} {qG : List qA} {qO : Int} {qP : Int} {qQ : Str} {qM : Int} {qL : Int} {qV : Int} {qW : Int} {v_before : AV} {before : List qA} (qK : Rdl C encStr qD qF) (qJ : Rdl C qU qC qE) (qI : Rdl C qN qB qG) (h_before : Rdl C qN v_before before) {r : Int} (h : P_r9_Book qF qE qG qO qP qQ qM qL qV qW before = some r) :
  TF (EL k) 75 [.agg [qD, qC, qB], .agg [iv (qO), iv (qP), sv qQ, iv (qM), iv (qL), iv (qV), iv (qW)], v_before] C (RepF (fun (w : Unit) => iv r) (fun (w : Unit) => C)) := by
 unfold P_r9_Book at h;refine TF.enter (fn := Go.Proofs.Tryz.f75) rfl rfl rfl rfl rfl (zU rfl (zQ 3 [_,_,_] R7 (fun b3=>zQ 7 [_,_,_,_,_,_,_] R7 (fun b4=>zA R4 (zN (zU rfl (zV R3 (vW 1 [_,_,_] R5 R4) (zF 0 R6 (zV R3 (vW 0 [_,_,_] R5 R4) ?_)))))))));obtain ⟨y12, hr12, h⟩ := andx_some h;refine TO.callT (first := []) (cap := []) (vs := [.agg [qD, qC, qB], .agg [iv (qO), iv (qP), sv qQ]]) rfl rfl rfl rfl rfl rfl (orcN rfl) (tf_r9_Mark aD (Rdl.mono qK M2) (Rdl.mono qJ M2) (Rdl.mono qI M2) hr12) ?_;rintro _;refine zG (_::_::C) rfl (zA R4 (zN ?_))
 show T _ _ _ _ _ _;apply T.joinA (r := r) (W := Unit) (fun j w => ⟨[], [(2, v_before), (4, .ptr b4 0 7), (7, iv (j))], .row b4 7 [iv (qO), iv (qP), sv qQ, iv (qM), iv (qL), iv (qV), iv (qW)] :: .row b3 3 [qD, qC, qB] :: C⟩) h
 ·intro j h
  show T _ _ _ _ _ _;apply T.joinA (r := j) (W := Unit) (fun j w => ⟨[], [(2, v_before), (4, .ptr b4 0 7), (7, iv (y12)), (32, bv j)], .row b4 7 [iv (qO), iv (qP), sv qQ, iv (qM), iv (qL), iv (qV), iv (qW)] :: .row b3 3 [qD, qC, qB] :: C⟩) h
  ·intro j h;refine zT rfl (zM R4 ?_);obtain ⟨c14, hc14⟩ := zY (y12 = 0);refine zV R3 (Val.eql hc14 rfl rfl) (zM R4 ?_);obtain ⟨rfl, hc14, h⟩ | ⟨rfl, hc14, h⟩ := zI hc14 h
   ·refine zF 3 R6 (zL 0 R3 R6 ?_);obtain ⟨y18, hr18, h⟩ := andx_some h;refine TO.callT (first := []) (cap := []) (vs := [iv (qM), iv (1), iv (2000)]) rfl rfl rfl rfl rfl rfl (orcN rfl) (tf_r9_in aD hr18) ?_;rintro _;refine zG (_::_::C) rfl (zV R3 (Val.not rfl) (zM R4 ?_));obtain ⟨rfl, h⟩ | ⟨rfl, h⟩ := zZ h
    ·refine zF 4 R6 (zL 0 R3 R6 ?_);obtain ⟨y23, hr23, h⟩ := andx_some h;refine TO.callT (first := []) (cap := []) (vs := [iv (qL), iv (1), iv (2000)]) rfl rfl rfl rfl rfl rfl (orcN rfl) (tf_r9_in aD hr23) ?_;rintro _;refine zG (_::_::C) rfl (zV R3 (Val.not rfl) (zP R6 (zM R4 ?_)));obtain ⟨rfl, h⟩ | ⟨rfl, h⟩ := zZ h
     ·refine zF 5 R6 (zL 0 R3 R6 ?_);obtain ⟨y29, hr29, h⟩ := andx_some h;refine TO.callT (first := []) (cap := []) (vs := [iv (qV), iv (1), iv (100)]) rfl rfl rfl rfl rfl rfl (orcN rfl) (tf_r9_in aD hr29) ?_;rintro _;refine zG (_::_::C) rfl (zV R3 (Val.not rfl) (zP R6 (zP R6 (zN ?_))));cases h;exact ⟨rfl, (), (sb .refl)⟩
     refine zO R3 (zO R3 (zO R3 (zO R3 (zP R6 (zP R6 (zN ?_))))));cases h;exact ⟨rfl, (), (sb .refl)⟩
    refine zO R3 (zO R3 (zO R3 (zO R3 (zP R6 (zM R4 (zO R3 (zO R3 (zO R3 (zO R3 (zP R6 (zP R6 (zN ?_))))))))))));cases h;exact ⟨rfl, (), (sb .refl)⟩
   refine zO R3 (zO R3 (zO R3 (zO R3 (zO R3 (zO R3 (zO R3 (zO R3 (zO R3 (zO R3 (zO R3 (zO R3 (zO R3 (zO R3 (zO R3 (zO R3 (zP R6 (zN ?_)))))))))))))))));cases h;exact ⟨rfl, (), (sb .refl)⟩
  ·rintro x32 _ h;obtain ⟨rfl, h⟩ | ⟨rfl, h⟩ := zZ h
   ·refine zC rfl (zT rfl (zA R4 (zN ?_)));cases h;exact ⟨rfl, (), (sb .refl)⟩
   refine zD rfl (zK ?_);cases h;exact ⟨rfl, (), (sb .refl)⟩
 ·rintro e _ h
  show T _ _ _ _ _ _;apply T.joinA (r := r) (W := Unit) (fun j w => ⟨[], [(7, iv (j))], .row b4 7 [iv (qO), iv (qP), sv qQ, iv (qM), iv (qL), iv (qV), iv (qW)] :: C⟩) h
  ·intro j h;refine zU rfl (zA R4 (zN (zB ?_)))
   show T _ _ _ _ _ _;apply T.iter (r := j) (W := Unit) (fun j w => ⟨[], [(2, v_before), (4, .ptr b4 0 7), (7, iv (j.1)), (8, iv (j.2))], .row b4 7 [iv (qO), iv (qP), sv qQ, iv (qM), iv (qL), iv (qV), iv (qW)] :: C⟩) (w0 := ()) h
   ·exact (sb (pk [0,98] rfl))
   rintro ⟨e_2, i⟩ _ a h;unfold P_r9_Book_L1 at h;dsimp only at h;dsimp only
   show T _ _ _ _ _ _;apply T.join (r := a) (W := Unit) (fun j w => ⟨[], [(2, v_before), (4, .ptr b4 0 7), (7, iv (e_2)), (8, iv (i))], .row b4 7 [iv (qO), iv (qP), sv qQ, iv (qM), iv (qL), iv (qV), iv (qW)] :: C⟩) h
   ·intro j h
    show T _ _ _ _ _ _;apply T.joinA (r := j) (W := Unit) (fun j w => ⟨[], [(2, v_before), (4, .ptr b4 0 7), (7, iv (e_2)), (8, iv (i)), (40, bv j)], .row b4 7 [iv (qO), iv (qP), sv qQ, iv (qM), iv (qL), iv (qV), iv (qW)] :: C⟩) h
    ·intro j h;refine zT rfl (zM R4 (zM R4 (zV R3 (Val.len_l h_before M1 rfl rfl) ?_)));obtain ⟨c36, hc36⟩ := zY (i < (before.length : Int));refine zV R3 (Val.lss hc36 rfl rfl) (zM R4 ?_);obtain ⟨rfl, hc36, h⟩ | ⟨rfl, hc36, h⟩ := zI hc36 h
     ·refine zM R4 ?_;obtain ⟨c39, hc39⟩ := zY (e_2 = 0);refine zV R3 (Val.eql hc39 rfl rfl) (zP R6 (zN ?_));subst hc39;cases h;exact ⟨rfl, (), (sb .refl)⟩
     refine zO R3 (zO R3 (zP R6 (zN ?_)));cases h;exact ⟨rfl, (), (sb .refl)⟩
    ·rintro x40 _ h;obtain ⟨rfl, h⟩ | ⟨rfl, h⟩ := zZ h
     ·refine zC rfl (zK ?_);cases h;exact ⟨rfl, (), (sb .refl)⟩
     refine zD rfl (zE ?_);cases h;exact ⟨ex_ne, ⟨ex_ne, ⟨rfl, (), (sb .refl)⟩⟩⟩
   ·rintro _ _ h
    show T _ _ _ _ _ _;apply T.joinA (r := a) (W := Unit) (fun j w => ⟨[], [(2, v_before), (4, .ptr b4 0 7), (7, iv (j)), (8, iv (i))], .row b4 7 [iv (qO), iv (qP), sv qQ, iv (qM), iv (qL), iv (qV), iv (qW)] :: C⟩) h
    ·intro j h;refine zB (zS (T.draw (fun v => sameC_refl v) (l1 := [0, 1, 2, 3, 4, 5, 6, 7]) (l2 := []) (by kernel_rfl) (by kernel_rfl) (zM R4 (zM R4 ?_))));obtain ⟨a45, hia45, ea45, h⟩ := el_some h;refine TO.fact (rdl_at h_before M1 hia45 ea45) (fun hp=>?_);obtain ⟨pa45, hpa45, hva45⟩ := hp;refine zV R3 (hva45 ⟨rfl, rfl⟩ rfl rfl) (zV R3 (Val.faddr_e (fo := 0) hpa45 rfl rfl rfl) (zV R3 (Val.load_es (c := [_, _, _]) (PtE.add hpa45 (by decide)) M1 ⟨⟨_, rfl, rfl⟩, rfl, by decide⟩ rfl rfl rfl) (zF 0 R6 (zV R3 (vW 0 [_,_,_] R5 R4) ?_))));obtain ⟨c50, hc50⟩ := zY (a45.qR = qO ∧ a45.qS = qP ∧ a45.qT = qQ);refine zV R3 (Val.binD hc50 rfl rfl (eql_ty28 _ _ _ _ _ _ _ _)) (zN ?_);obtain ⟨rfl, hc50, h⟩ | ⟨rfl, hc50, h⟩ := zI hc50 h
     ·refine zC rfl (zT rfl (zA R4 (zN ?_)));cases h;exact ⟨rfl, (), (sb .refl)⟩
     refine zD rfl (zK ?_);cases h;exact ⟨rfl, (), (sb .refl)⟩
    ·rintro e_3 _ h;refine zT rfl (zM R4 ?_);obtain ⟨hk42, h⟩ := chk_some h;refine zV R3 (Val.add rfl rfl hk42) (zA R4 (zN ?_));cases h;exact ⟨rfl, (), (sb .refl)⟩
  ·rintro e_2 _ h;refine zU rfl (zM R4 (zA R4 (zN (zR ?_))));cases h;exact ⟨rfl, _, rfl, ⟨(), rfl, (pk [98] rfl)⟩⟩
set_option maxRecDepth 10000 in
theorem tf_r9_Filled {k : Nat} (hk : 0 ≤ k) {C : List Thing} {qD : AV} {qF : List Str} {qC : AV} {qE : List qH} {qB : AV} {qG : List qA} {v_books : AV} {books : List qA} {v_shelves : AV} {shelves : List Int} {shelf : Int} (qK : Rdl C encStr qD qF) (qJ : Rdl C qU qC qE) (qI : Rdl C qN qB qG) (h_books : Rdl C qN v_books books) (h_shelves : Rdl C encI v_shelves shelves) {r : Int} (h : P_r9_Filled qF qE qG books shelves shelf = some r) :
  TF (EL k) 95 [.agg [qD, qC, qB], v_books, v_shelves, iv (shelf)] C (RepF (fun (w : Unit) => iv r) (fun (w : Unit) => C)) := by
 unfold P_r9_Filled at h;refine TF.enter (fn := Go.Proofs.Tryz.f95) rfl rfl rfl rfl rfl (zU rfl (zQ 3 [_,_,_] R7 (fun b4=>zA R4 (zN (zU rfl (zA R4 (zN ?_)))))))
 show T _ _ _ _ _ _;apply T.join (r := r) (W := Unit) (fun j w => ⟨[], [(9, iv (j))], .row b4 3 [qD, qC, qB] :: C⟩) h
 ·intro j h;refine zU rfl (zA R4 (zN (zB ?_)))
  show T _ _ _ _ _ _;apply T.iter (r := j) (W := Unit) (fun j w => ⟨[], [(1, v_books), (2, v_shelves), (3, iv (shelf)), (4, .ptr b4 0 3), (9, iv (j.1)), (10, iv (j.2))], .row b4 3 [qD, qC, qB] :: C⟩) (w0 := ()) h
  ·exact (sb .refl)
  rintro ⟨n, i⟩ _ a h;unfold P_r9_Filled_L1 at h;dsimp only at h;dsimp only;refine zS (zU rfl (zM R4 (zM R4 (zV R3 (Val.len_l h_books M1 rfl rfl) ?_))));obtain ⟨c14, hc14⟩ := zY (i < (books.length : Int));refine zV R3 (Val.lss hc14 rfl rfl) (zN ?_);obtain ⟨rfl, hc14, h⟩ | ⟨rfl, hc14, h⟩ := zI hc14 h
  ·refine zC rfl (zK ?_)
   show T _ _ _ _ _ _;apply T.join (r := a) (W := Unit) (fun j w => ⟨[], [(1, v_books), (2, v_shelves), (3, iv (shelf)), (4, .ptr b4 0 3), (9, iv (j)), (10, iv (i))], .row b4 3 [qD, qC, qB] :: C⟩) h
   ·intro j h;refine zB (zS (zU rfl (zM R4 (zM R4 ?_))));obtain ⟨a19, hia19, ea19, h⟩ := el_some h;refine TO.fact (rdl_at h_shelves M1 hia19 ea19) (fun hp=>?_);obtain ⟨pa19, hpa19, hva19⟩ := hp;refine zV R3 (hva19 ⟨rfl, rfl⟩ rfl rfl) (zV R3 (Val.load_e hpa19 M1 ⟨_, rfl, rfl⟩ rfl rfl) (zM R4 ?_));obtain ⟨c22, hc22⟩ := zY (¬ a19 = shelf);refine zV R3 (Val.neq hc22 rfl rfl) (zN ?_);obtain ⟨rfl, hc22, h⟩ | ⟨rfl, hc22, h⟩ := zI hc22 h
    ·refine zC rfl (zE ?_);cases h;exact ⟨rfl, (), (sb .refl)⟩
    refine zD rfl (zK (zS (zS (T.draw (fun v => sameC_refl v) (l1 := [0, 1, 2, 3, 4, 5, 6, 7, 8, 9, 10, 11]) (l2 := []) (by kernel_rfl) (by kernel_rfl) (zM R4 (zM R4 ?_))))));obtain ⟨a25, hia25, ea25, h⟩ := el_some h;refine TO.fact (rdl_at h_books M1 hia25 ea25) (fun hp=>?_);obtain ⟨pa25, hpa25, hva25⟩ := hp;refine zV R3 (hva25 ⟨rfl, rfl⟩ rfl rfl) (zV R3 (Val.faddr_e (fo := 4) hpa25 rfl rfl rfl) (zV R3 (Val.load_e (PtE.add hpa25 (by decide)) M1 ⟨_, rfl, rfl⟩ rfl rfl) (zF 1 R6 (zL 0 R3 R6 (zM R4 ?_)))));obtain ⟨a31, hia31, ea31, h⟩ := el_some h;refine TO.fact (rdl_at qJ M1 hia31 ea31) (fun hp=>?_);obtain ⟨pa31, hpa31, hva31⟩ := hp;refine zV R3 (hva31 ⟨rfl, rfl⟩ rfl rfl) (zV R3 (Val.faddr_e (fo := 3) hpa31 rfl rfl rfl) (zV R3 (Val.load_e (PtE.add hpa31 (by decide)) M1 ⟨_, rfl, rfl⟩ rfl rfl) ?_));obtain ⟨c34, hc34⟩ := zY (a25.high > a31.high);refine zV R3 (Val.gtr hc34 rfl rfl) (zN ?_);obtain ⟨rfl, hc34, h⟩ | ⟨rfl, hc34, h⟩ := zI hc34 h
    ·refine zC rfl (zU rfl (zA R4 (zN (zR ?_))));cases h;exact ⟨ret_ne, ⟨ret_ne, ⟨ret_ne, ⟨rfl, _, rfl, ⟨(), rfl, (pk [98] rfl)⟩⟩⟩⟩⟩
    refine zD rfl (zK (zT rfl (zM R4 (zM R4 (zM R4 ?_)))));obtain ⟨a38, hia38, ea38, h⟩ := el_some h;refine TO.fact (rdl_at h_books M1 hia38 ea38) (fun hp=>?_);obtain ⟨pa38, hpa38, hva38⟩ := hp;refine zV R3 (hva38 ⟨rfl, rfl⟩ rfl rfl) (zV R3 (Val.faddr_e (fo := 3) hpa38 rfl rfl rfl) (zV R3 (Val.load_e (PtE.add hpa38 (by decide)) M1 ⟨_, rfl, rfl⟩ rfl rfl) ?_));obtain ⟨hk41, h⟩ := chk_some h;refine zV R3 (Val.add rfl rfl hk41) (zA R4 (zN ?_));cases h;exact ⟨rfl, (), (sb .refl)⟩
   ·rintro n_2 _ h;refine zT rfl (zM R4 ?_);obtain ⟨hk16, h⟩ := chk_some h;refine zV R3 (Val.add rfl rfl hk16) (zA R4 (zN ?_));cases h;exact ⟨rfl, (), (sb .refl)⟩
  refine zD rfl (zE ?_);cases h;exact ⟨ex_ne, ⟨rfl, (), (sb .refl)⟩⟩
 ·rintro n _ h;refine zU rfl (zM R4 (zA R4 (zN (zR ?_))));cases h;exact ⟨rfl, _, rfl, ⟨(), rfl, (pk [98] rfl)⟩⟩
set_option maxRecDepth 10000 in
theorem tf_r9_fit {k : Nat} (hk : 0 ≤ k) {C : List Thing} {qD : AV} {qF : List Str} {qC : AV} {qE : List qH} {qB : AV} {qG : List qA} {v_books : AV} {books : List qA} {v_shelves : AV} {shelves : List Int} {shelf : Int} (qK : Rdl C encStr qD qF) (qJ : Rdl C qU qC qE) (qI : Rdl C qN qB qG) (h_books : Rdl C qN v_books books) (h_shelves : Rdl C encI v_shelves shelves) {r : Bool} (h : P_r9_fit qF qE qG books shelves shelf = some r) :
  TF (EL k) 76 [.agg [qD, qC, qB], v_books, v_shelves, iv (shelf)] C (RepF (fun (w : Unit) => bv r) (fun (w : Unit) => C)) := by
 unfold P_r9_fit at h;refine TF.enter (fn := Go.Proofs.Tryz.f76) rfl rfl rfl rfl rfl (zU rfl (zQ 3 [_,_,_] R7 (fun b4=>zA R4 (zN (zS (T.drawE (l1 := [0, 1, 2, 3, 5, 6, 7, 8, 9, 10]) (l2 := [4, 11, 12]) (by kernel_rfl) (by kernel_rfl) (yR R4 (vW 0 [_,_,_] R5 R4) (yL R4 (Val.move rfl) (yL R4 (Val.move rfl) (yL R4 (Val.move rfl) (yL R4 (Val.faddr_ptr (fo := 1) rfl rfl rfl) (yR R4 (vR (p := 0) R6) (yL R4 (Val.move rfl) ?_)))))))))))));obtain ⟨a17, hia17, ea17, h⟩ := el_some h;refine TD1.fact (rdl_at qJ M1 hia17 ea17) (fun hp=>?_);obtain ⟨pa17, hpa17, hva17⟩ := hp;refine yL R4 (hva17 ⟨rfl, rfl⟩ rfl rfl) (yL R4 (Val.faddr_e (fo := 2) hpa17 rfl rfl rfl) (yR R4 (Val.load_e (PtE.add hpa17 (by decide)) M1 ⟨_, rfl, rfl⟩ rfl rfl) (TD1.over (fun v => sameC_refl v) (all_cons (⟨_, rfl, (Val.load_e (PtE.add hpa17 (by decide)) M1 ⟨_, rfl, rfl⟩ rfl rfl)⟩) (all_cons (⟨_, rfl, (vR (p := 0) R6)⟩) (all_cons (⟨_, rfl, (vW 0 [_,_,_] R5 R4)⟩) all_nil))) ?_)));obtain ⟨y13, hr13, h⟩ := andx_some h;refine TD2.heavy (fun v => sameC_refl v) rfl (by decide) rfl rfl (OpS.callV rfl rfl rfl rfl (orcN rfl) (RepF.conv (tf_r9_Filled aD (Rdl.mono qK M1) (Rdl.mono qJ M1) (Rdl.mono qI M1) (Rdl.mono h_books M1) (Rdl.mono h_shelves M1) hr13))) ?_;rintro _ hs_ ⟨_, rfl, he_⟩;subst hs_;refine ⟨(all_cons (.inr ⟨_, rfl, (Val.load_e (PtE.add hpa17 (by decide)) M1 ⟨_, rfl, rfl⟩ rfl rfl)⟩) (all_cons (.inr ⟨_, rfl, (vR (p := 0) R6)⟩) (all_cons (.inl (by kernel_rfl)) all_nil))), all_nil, ?_⟩;refine yG (_::C) rfl ?_;obtain ⟨y20, hr20, h⟩ := andx_some h;refine TD2.heavy (fun v => sameC_refl v) rfl (by decide) rfl rfl (OpS.callV rfl rfl rfl rfl (orcN rfl) (RepF.conv (tf_r9_in aD hr20))) ?_;rintro _ hs_ ⟨_, rfl, he_⟩;subst hs_;refine ⟨(all_cons (.inl (by kernel_rfl)) (all_cons (.inl (by kernel_rfl)) (all_cons (.inl (by kernel_rfl)) all_nil))), all_nil, ?_⟩;refine yG (_::C) rfl (yM R4 (Val.assign rfl) (TD2.nil (zR ?_)));cases h;exact ⟨rfl, _, rfl, ⟨(), rfl, (pk [98] rfl)⟩⟩
set_option maxRecDepth 10000 in
theorem tf_r9_Check {k : Nat} (hk : 0 ≤ k) {C : List Thing} {qD : AV} {qF : List Str} {qC : AV} {qE : List qH} {qB : AV} {qG : List qA} (qY : RdT encStr qD qF) (qZ : RdT qU qC qE) (qX : RdT qN qB qG) {r : Int × Int × Int} (h : P_r9_Check qF qE qG = some r) :
  TF (EL k) 17 [.agg [qD, qC, qB]] C (RepF (fun (w : Unit) => .tuple [iv r.1, iv r.2.1, iv r.2.2]) (fun (w : Unit) => C)) := by
 unfold P_r9_Check at h
 have qK : Rdl C encStr qD qF := RdT.rdl qY
 have qJ : Rdl C qU qC qE := RdT.rdl qZ
 have qI : Rdl C qN qB qG := RdT.rdl qX;refine TF.enter (fn := Go.Proofs.Tryz.f17) rfl rfl rfl rfl rfl (zU rfl (zQ 3 [_,_,_] R7 (fun b1=>zA R4 (zA R4 (zA R4 (zN (zS (zU rfl (zF 0 R6 (zL 0 R3 R6 (zV R3 (Val.len_l qK M1 rfl rfl) ?_)))))))))));obtain ⟨y16, hr16, h⟩ := andx_some h;refine TO.callT (first := []) (cap := []) (vs := [iv ((qF.length : Int)), iv (1), iv (6)]) rfl rfl rfl rfl rfl rfl (orcN rfl) (tf_r9_in aD hr16) ?_;rintro _;refine zG (_::C) rfl (zV R3 (Val.not rfl) (zN ?_));obtain ⟨rfl, h⟩ | ⟨rfl, h⟩ := zZ h
 ·refine zD rfl (zK ?_)
  show T _ _ _ _ _ _;apply T.join (r := r) (W := Unit) (fun j w => ⟨[], [(1, .ptr b1 0 3)], .row b1 3 [qD, qC, qB] :: C⟩) h
  ·intro j h;refine zU rfl (zA R4 (zN (zB ?_)))
   show T _ _ _ _ _ _;apply T.iter (r := j) (W := Unit) (fun j w => ⟨[], [(1, .ptr b1 0 3), (5, iv (j))], .row b1 3 [qD, qC, qB] :: C⟩) (w0 := ()) h
   ·exact (sb .refl)
   rintro i _ a h;unfold P_r9_Check_L1 at h;refine zS (zU rfl (zM R4 (zF 0 R6 (zL 0 R3 R6 (zV R3 (Val.len_l qK M1 rfl rfl) ?_)))));obtain ⟨c22, hc22⟩ := zY (i < (qF.length : Int));refine zV R3 (Val.lss hc22 rfl rfl) (zN ?_);obtain ⟨rfl, hc22, h⟩ | ⟨rfl, hc22, h⟩ := zI hc22 h
   ·refine zC rfl (zK (zS (zB (zS (T.drawE (l1 := [0, 1, 2, 3, 4, 5, 6, 7, 8]) (l2 := [9, 10]) (by kernel_rfl) (by kernel_rfl) (yL R4 (Val.faddr_ptr (fo := 0) rfl rfl rfl) (yR R4 (vR (p := 0) R6) (yL R4 (Val.move rfl) ?_))))))));obtain ⟨a28, hia28, ea28, h⟩ := el_some h;refine TD1.fact (rdl_at qK M1 hia28 ea28) (fun hp=>?_);obtain ⟨pa28, hpa28, hva28⟩ := hp;refine yL R4 (hva28 ⟨rfl, rfl⟩ rfl rfl) (yR R4 (Val.load_e hpa28 M1 ⟨_, rfl, rfl⟩ rfl rfl) (yL R4 (Val.faddr_ptr (fo := 0) rfl rfl rfl) (yR R4 (vR (p := 0) R6) (yL R4 (Val.move rfl) ?_))));obtain ⟨hk33, h⟩ := chk_some h;obtain ⟨w33, htw33, hgw33, hvw33⟩ := slice_T qY hk33
    have hw33 : Rdl C encStr w33 (List.take (i - (0 : Int)).toNat (List.drop ((0 : Int) : Int).toNat qF)) := RdT.rdl htw33;refine yR R4 (hvw33 ⟨rfl, rfl⟩ rfl .no (.some rfl)) (TD1.over (fun v => sameC_refl v) (all_cons (⟨_, rfl, (hvw33 ⟨rfl, rfl⟩ rfl .no (.some rfl))⟩) (all_cons (⟨_, rfl, (vR (p := 0) R6)⟩) (all_cons (⟨_, rfl, (Val.load_e hpa28 M1 ⟨_, rfl, rfl⟩ rfl rfl)⟩) (all_cons (⟨_, rfl, (vR (p := 0) R6)⟩) all_nil)))) ?_);obtain ⟨y34, hr34, h⟩ := andx_some h;refine TD2.heavy (fun v => sameC_refl v) rfl (by decide) rfl rfl (OpS.callV rfl rfl rfl rfl (orcN rfl) (RepF.conv (tf_r1_Fresh aD (Rdl.mono hw33 M1) hr34))) ?_;rintro _ hs_ ⟨_, rfl, he_⟩;subst hs_;refine ⟨(all_cons (.inl (by kernel_rfl)) (all_cons (.inl (by kernel_rfl)) (all_cons (.inl (by kernel_rfl)) (all_cons (.inl (by kernel_rfl)) all_nil)))), all_nil, ?_⟩;refine yG (_::C) rfl (yM R4 (Val.assign rfl) (TD2.nil (zU rfl (zM R4 ?_))));obtain ⟨c36, hc36⟩ := zY (¬ y34 = 0);refine zV R3 (Val.neq hc36 rfl rfl) (zN ?_);obtain ⟨rfl, hc36, h⟩ | ⟨rfl, hc36, h⟩ := zI hc36 h
    ·refine zC rfl (zU rfl (zM R4 (zM R4 (zA R4 (zA R4 (zA R4 (zN (zR ?_))))))));cases h;exact ⟨ret_ne, ⟨ret_ne, ⟨rfl, _, rfl, ⟨(), rfl, (pk [98] rfl)⟩⟩⟩⟩
    refine zD rfl (zK (zT rfl (zM R4 ?_)));obtain ⟨hk24, h⟩ := chk_some h;refine zV R3 (Val.add rfl rfl hk24) (zA R4 (zN ?_));cases h;exact ⟨rfl, (), (sb .refl)⟩
   refine zD rfl (zE ?_);cases h;exact ⟨ex_ne, ⟨rfl, (), (sb .refl)⟩⟩
  ·rintro _ _ h;refine zS (zU rfl (zF 1 R6 (zL 0 R3 R6 (zV R3 (Val.len_l qJ M1 rfl rfl) ?_))));obtain ⟨y42, hr42, h⟩ := andx_some h;refine TO.callT (first := []) (cap := []) (vs := [iv ((qE.length : Int)), iv (1), iv (4)]) rfl rfl rfl rfl rfl rfl (orcN rfl) (tf_r9_in aD hr42) ?_;rintro _;refine zG (_::C) rfl (zV R3 (Val.not rfl) (zN ?_));obtain ⟨rfl, h⟩ | ⟨rfl, h⟩ := zZ h
   ·refine zD rfl (zK ?_)
    show T _ _ _ _ _ _;apply T.join (r := r) (W := Unit) (fun j w => ⟨[], [(1, .ptr b1 0 3)], .row b1 3 [qD, qC, qB] :: C⟩) h
    ·intro j h;refine zU rfl (zA R4 (zN (zB ?_)))
     show T _ _ _ _ _ _;apply T.iter (r := j) (W := Unit) (fun j w => ⟨[], [(1, .ptr b1 0 3), (7, iv (j))], .row b1 3 [qD, qC, qB] :: C⟩) (w0 := ()) h
     ·exact (sb .refl)
     rintro i _ a h;unfold P_r9_Check_L2 at h;refine zS (zU rfl (zM R4 (zF 1 R6 (zL 0 R3 R6 (zV R3 (Val.len_l qJ M1 rfl rfl) ?_)))));obtain ⟨c48, hc48⟩ := zY (i < (qE.length : Int));refine zV R3 (Val.lss hc48 rfl rfl) (zN ?_);obtain ⟨rfl, hc48, h⟩ | ⟨rfl, hc48, h⟩ := zI hc48 h
     ·refine zC rfl (zK ?_)
      show T _ _ _ _ _ _;apply T.join (r := a) (W := Unit) (fun j w => ⟨[], [(1, .ptr b1 0 3), (7, iv (i))], .row b1 3 [qD, qC, qB] :: C⟩) h
      ·intro j h;refine zB (zU rfl (zF 1 R6 (zL 0 R3 R6 (zM R4 ?_))));obtain ⟨a54, hia54, ea54, h⟩ := el_some h;refine TO.fact (rdl_at qJ M1 hia54 ea54) (fun hp=>?_);obtain ⟨pa54, hpa54, hva54⟩ := hp;refine zV R3 (hva54 ⟨rfl, rfl⟩ rfl rfl) (zV R3 (Val.load_es (c := [_, _, _, _]) hpa54 M1 ⟨⟨_, rfl, rfl⟩, rfl, by decide⟩ rfl rfl rfl) (zJ 4 [_,_,_,_] R7 (fun b8=>TO.eff0 rfl rfl (Eff.store_row (p := 0) (cv := [_, _, _, _]) (cells' := [_, _, _, _]) rfl rfl rfl rfl rfl rfl rfl rfl aG (by decide) rfl) ?_)));rintro _ rfl;refine zG (_::_::C) rfl (zN ?_)
       show T _ _ _ _ _ _;apply T.joinA (r := j) (W := Unit) (fun j w => ⟨[], [(1, .ptr b1 0 3), (7, iv (i)), (77, bv j)], .row b8 4 [iv (a54.away), iv (a54.climb), iv (a54.wide), iv (a54.high)] :: .row b1 3 [qD, qC, qB] :: C⟩) h
       ·intro j h;refine zT rfl (zF 0 R6 (zL 0 R3 R6 ?_));obtain ⟨y58, hr58, h⟩ := andx_some h;refine TO.callT (first := []) (cap := []) (vs := [iv (a54.away), iv (0), iv (1000)]) rfl rfl rfl rfl rfl rfl (orcN rfl) (tf_r9_in aD hr58) ?_;rintro _;refine zG (_::_::C) rfl (zV R3 (Val.not rfl) (zM R4 ?_));obtain ⟨rfl, h⟩ | ⟨rfl, h⟩ := zZ h
        ·refine zF 1 R6 (zL 0 R3 R6 ?_);obtain ⟨y63, hr63, h⟩ := andx_some h;refine TO.callT (first := []) (cap := []) (vs := [iv (a54.climb), iv (0), iv (1000)]) rfl rfl rfl rfl rfl rfl (orcN rfl) (tf_r9_in aD hr63) ?_;rintro _;refine zG (_::_::C) rfl (zV R3 (Val.not rfl) (zP R6 (zM R4 ?_)));obtain ⟨rfl, h⟩ | ⟨rfl, h⟩ := zZ h
         ·refine zF 2 R6 (zL 0 R3 R6 ?_);obtain ⟨y69, hr69, h⟩ := andx_some h;refine TO.callT (first := []) (cap := []) (vs := [iv (a54.wide), iv (1), iv (2000)]) rfl rfl rfl rfl rfl rfl (orcN rfl) (tf_r9_in aD hr69) ?_;rintro _;refine zG (_::_::C) rfl (zV R3 (Val.not rfl) (zP R6 (zM R4 ?_)));obtain ⟨rfl, h⟩ | ⟨rfl, h⟩ := zZ h
          ·refine zF 3 R6 (zL 0 R3 R6 ?_);obtain ⟨y75, hr75, h⟩ := andx_some h;refine TO.callT (first := []) (cap := []) (vs := [iv (a54.high), iv (1), iv (2000)]) rfl rfl rfl rfl rfl rfl (orcN rfl) (tf_r9_in aD hr75) ?_;rintro _;refine zG (_::_::C) rfl (zV R3 (Val.not rfl) (zP R6 (zN ?_)));cases h;exact ⟨rfl, (), (sb .refl)⟩
          refine zO R3 (zO R3 (zO R3 (zO R3 (zP R6 (zN ?_)))));cases h;exact ⟨rfl, (), (sb .refl)⟩
         refine zO R3 (zO R3 (zO R3 (zO R3 (zP R6 (zM R4 (zO R3 (zO R3 (zO R3 (zO R3 (zP R6 (zN ?_)))))))))));cases h;exact ⟨rfl, (), (sb .refl)⟩
        refine zO R3 (zO R3 (zO R3 (zO R3 (zP R6 (zM R4 (zO R3 (zO R3 (zO R3 (zO R3 (zP R6 (zM R4 (zO R3 (zO R3 (zO R3 (zO R3 (zP R6 (zN ?_)))))))))))))))));cases h;exact ⟨rfl, (), (sb .refl)⟩
       ·rintro x77 _ h;obtain ⟨rfl, h⟩ | ⟨rfl, h⟩ := zZ h
        ·refine zC rfl (zU rfl (zM R4 (zA R4 (zA R4 (zA R4 (zN (zR ?_)))))));cases h;exact ⟨ret_ne, ⟨ret_ne, ⟨ret_ne, ⟨rfl, _, rfl, ⟨(), rfl, (pk [98,98] rfl)⟩⟩⟩⟩⟩
        refine zD rfl (zK ?_);cases h;exact ⟨rfl, (), (sb (pk [1,98] rfl))⟩
      ·rintro _ _ h;refine zT rfl (zM R4 ?_);obtain ⟨hk50, h⟩ := chk_some h;refine zV R3 (Val.add rfl rfl hk50) (zA R4 (zN ?_));cases h;exact ⟨rfl, (), (sb .refl)⟩
     refine zD rfl (zE ?_);cases h;exact ⟨ex_ne, ⟨rfl, (), (sb .refl)⟩⟩
    ·rintro _ _ h;refine zS (zU rfl (zF 2 R6 (zL 0 R3 R6 (zV R3 (Val.len_l qI M1 rfl rfl) ?_))));obtain ⟨c82, hc82⟩ := zY ((qG.length : Int) > 10);refine zV R3 (Val.gtr hc82 rfl rfl) (zN ?_);obtain ⟨rfl, hc82, h⟩ | ⟨rfl, hc82, h⟩ := zI hc82 h
     ·refine zC rfl (zU rfl (zA R4 (zA R4 (zA R4 (zN (zR ?_))))));cases h;exact ⟨rfl, _, rfl, ⟨(), rfl, (pk [98] rfl)⟩⟩
     refine zD rfl (zK ?_)
     show T _ _ _ _ _ _;apply T.join (r := r) (W := Unit) (fun j w => ⟨[], [(1, .ptr b1 0 3)], .row b1 3 [qD, qC, qB] :: C⟩) h
     ·intro j h;refine zU rfl (zA R4 (zN (zB ?_)))
      show T _ _ _ _ _ _;apply T.iter (r := j) (W := Unit) (fun j w => ⟨[], [(1, .ptr b1 0 3), (9, iv (j))], .row b1 3 [qD, qC, qB] :: C⟩) (w0 := ()) h
      ·exact (sb .refl)
      rintro i _ a h;unfold P_r9_Check_L3 at h;refine zS (zU rfl (zM R4 (zF 2 R6 (zL 0 R3 R6 (zV R3 (Val.len_l qI M1 rfl rfl) ?_)))));obtain ⟨c87, hc87⟩ := zY (i < (qG.length : Int));refine zV R3 (Val.lss hc87 rfl rfl) (zN ?_);obtain ⟨rfl, hc87, h⟩ | ⟨rfl, hc87, h⟩ := zI hc87 h
      ·refine zC rfl (zK ?_)
       show T _ _ _ _ _ _;apply T.join (r := a) (W := Unit) (fun j w => ⟨[], [(1, .ptr b1 0 3), (9, iv (i))], .row b1 3 [qD, qC, qB] :: C⟩) h
       ·intro j h;refine zB (zU rfl (zF 2 R6 (zL 0 R3 R6 (zM R4 ?_))));obtain ⟨a93, hia93, ea93, h⟩ := el_some h;refine TO.fact (rdl_at qI M1 hia93 ea93) (fun hp=>?_);obtain ⟨pa93, hpa93, hva93⟩ := hp;refine zV R3 (hva93 ⟨rfl, rfl⟩ rfl rfl) (zV R3 (Val.load_es (c := [_, _, _, _, _, _, _]) hpa93 M1 ⟨⟨_, rfl, rfl⟩, rfl, by decide⟩ rfl rfl rfl) (zJ 7 [_,_,_,_,_,_,_] R7 (fun b10=>TO.eff0 rfl rfl (Eff.store_row (p := 0) (cv := [_, _, _, _, _, _, _]) (cells' := [_, _, _, _, _, _, _]) rfl rfl rfl rfl rfl rfl rfl rfl aG (by decide) rfl) ?_)));rintro _ rfl;refine zG (_::_::C) rfl (zN (zS (T.drawE (l1 := [0, 1, 2, 3, 4, 5]) (l2 := [6, 7]) (by kernel_rfl) (by kernel_rfl) (yR R4 (vW 1 [_,_,_] R5 R4) (yR R4 (vW 0 [_,_,_,_,_,_,_] R5 R4) (yL R4 (Val.faddr_ptr (fo := 2) rfl rfl rfl) (yR R4 (vR (p := 1) R6) (yL R4 (Val.move rfl) ?_))))))));obtain ⟨hk100, h⟩ := chk_some h;obtain ⟨w100, htw100, hgw100, hvw100⟩ := slice_T qX hk100
        have hw100 : Rdl C qN w100 (List.take (i - (0 : Int)).toNat (List.drop ((0 : Int) : Int).toNat qG)) := RdT.rdl htw100;refine yR R4 (hvw100 ⟨rfl, rfl⟩ rfl .no (.some rfl)) (TD1.over (fun v => sameC_refl v) (all_cons (⟨_, rfl, (hvw100 ⟨rfl, rfl⟩ rfl .no (.some rfl))⟩) (all_cons (⟨_, rfl, (vR (p := 1) R6)⟩) (all_cons (⟨_, rfl, (vW 0 [_,_,_,_,_,_,_] R5 R4)⟩) (all_cons (⟨_, rfl, (vW 1 [_,_,_] R5 R4)⟩) all_nil)))) ?_);obtain ⟨y101, hr101, h⟩ := andx_some h;refine TD2.heavy (fun v => sameC_refl v) rfl (by decide) rfl rfl (OpS.callV rfl rfl rfl rfl (orcN rfl) (RepF.conv (tf_r9_Book aD (Rdl.mono qK M2) (Rdl.mono qJ M2) (Rdl.mono qI M2) (Rdl.mono hw100 M2) hr101))) ?_;rintro _ hs_ ⟨_, rfl, he_⟩;subst hs_;refine ⟨(all_cons (.inl (by kernel_rfl)) (all_cons (.inl (by kernel_rfl)) (all_cons (.inl (by kernel_rfl)) (all_cons (.inl (by kernel_rfl)) all_nil)))), all_nil, ?_⟩;refine yG (_::_::C) rfl (yM R4 (Val.assign rfl) (TD2.nil ?_))
        show T _ _ _ _ _ _;apply T.joinA (r := j) (W := Unit) (fun j w => ⟨[], [(1, .ptr b1 0 3), (9, iv (i)), (10, .ptr b10 0 7), (11, iv (j))], .row b10 7 [iv (a93.qR), iv (a93.qS), sv a93.qT, iv (a93.wide), iv (a93.high), iv (a93.heavy), iv (a93.shelf)] :: .row b1 3 [qD, qC, qB] :: C⟩) h
        ·intro j h
         show T _ _ _ _ _ _;apply T.joinA (r := j) (W := Unit) (fun j w => ⟨[], [(1, .ptr b1 0 3), (9, iv (i)), (10, .ptr b10 0 7), (11, iv (y101)), (113, bv j)], .row b10 7 [iv (a93.qR), iv (a93.qS), sv a93.qT, iv (a93.wide), iv (a93.high), iv (a93.heavy), iv (a93.shelf)] :: .row b1 3 [qD, qC, qB] :: C⟩) h
         ·intro j h;refine zT rfl (zM R4 ?_);obtain ⟨c103, hc103⟩ := zY (y101 = 0);refine zV R3 (Val.eql hc103 rfl rfl) (zM R4 ?_);obtain ⟨rfl, hc103, h⟩ | ⟨rfl, hc103, h⟩ := zI hc103 h
          ·refine zF 6 R6 (zL 0 R3 R6 (zF 1 R6 (zL 1 R3 R6 (zV R3 (Val.len_l qJ M2 rfl rfl) ?_))));obtain ⟨hk110, h⟩ := chk_some h;refine zV R3 (Val.sub rfl rfl hk110) ?_;obtain ⟨y111, hr111, h⟩ := andx_some h;refine TO.callT (first := []) (cap := []) (vs := [iv (a93.shelf), iv (0), iv (((qE.length : Int) - 1))]) rfl rfl rfl rfl rfl rfl (orcN rfl) (tf_r9_in aD hr111) ?_;rintro _;refine zG (_::_::C) rfl (zV R3 (Val.not rfl) (zP R6 (zN ?_)));cases h;exact ⟨rfl, (), (sb .refl)⟩
          refine zO R3 (zO R3 (zO R3 (zO R3 (zO R3 (zO R3 (zO R3 (zO R3 (zP R6 (zN ?_)))))))));cases h;exact ⟨rfl, (), (sb .refl)⟩
         ·rintro x113 _ h;obtain ⟨rfl, h⟩ | ⟨rfl, h⟩ := zZ h
          ·refine zC rfl (zT rfl (zA R4 (zN ?_)));cases h;exact ⟨rfl, (), (sb .refl)⟩
          refine zD rfl (zK ?_);cases h;exact ⟨rfl, (), (sb .refl)⟩
        ·rintro e _ h
         show T _ _ _ _ _ _;apply T.joinA (r := j) (W := Unit) (fun j w => ⟨[], [(1, .ptr b1 0 3), (9, iv (i)), (11, iv (j))], .row b10 7 [iv (a93.qR), iv (a93.qS), sv a93.qT, iv (a93.wide), iv (a93.high), iv (a93.heavy), iv (a93.shelf)] :: .row b1 3 [qD, qC, qB] :: C⟩) h
         ·intro j h
          show T _ _ _ _ _ _;apply T.joinA (r := j) (W := Unit) (fun j w => ⟨[], [(1, .ptr b1 0 3), (9, iv (i)), (11, iv (e)), (131, bv j)], .row b10 7 [iv (a93.qR), iv (a93.qS), sv a93.qT, iv (a93.wide), iv (a93.high), iv (a93.heavy), iv (a93.shelf)] :: .row b1 3 [qD, qC, qB] :: C⟩) h
          ·intro j h;refine T.draw (fun v => sameC_refl v) (l1 := [0, 1, 2, 3, 4, 5, 6, 7, 8, 9, 10, 11, 12, 13, 14, 15, 16, 17]) (l2 := []) (by kernel_rfl) (by kernel_rfl) (zM R4 ?_);obtain ⟨c115, hc115⟩ := zY (e = 0);refine zV R3 (Val.eql hc115 rfl rfl) (zM R4 ?_);obtain ⟨rfl, hc115, h⟩ | ⟨rfl, hc115, h⟩ := zI hc115 h
           ·refine zM R4 ?_;obtain ⟨c118, hc118⟩ := zY (i > 0);refine zV R3 (Val.gtr hc118 rfl rfl) (zP R6 (zM R4 ?_));obtain ⟨rfl, hc118, h⟩ | ⟨rfl, hc118, h⟩ := zI hc118 h
            ·refine zF 6 R6 (zL 0 R3 R6 (zF 2 R6 (zL 1 R3 R6 (zM R4 ?_))));obtain ⟨hk126, h⟩ := chk_some h;refine zV R3 (Val.sub rfl rfl hk126) ?_;obtain ⟨a127, hia127, ea127, h⟩ := el_some h;refine TO.fact (rdl_at qI M2 hia127 ea127) (fun hp=>?_);obtain ⟨pa127, hpa127, hva127⟩ := hp;refine zV R3 (hva127 ⟨rfl, rfl⟩ rfl rfl) (zV R3 (Val.faddr_e (fo := 6) hpa127 rfl rfl rfl) (zV R3 (Val.load_e (PtE.add hpa127 (by decide)) M2 ⟨_, rfl, rfl⟩ rfl rfl) ?_));obtain ⟨c130, hc130⟩ := zY (a93.shelf < a127.shelf);refine zV R3 (Val.lss hc130 rfl rfl) (zP R6 (zN ?_));subst hc130;cases h;exact ⟨rfl, (), (sb .refl)⟩
            refine zO R3 (zO R3 (zO R3 (zO R3 (zO R3 (zO R3 (zO R3 (zO R3 (zO R3 (zO R3 (zP R6 (zN ?_)))))))))));cases h;exact ⟨rfl, (), (sb .refl)⟩
           refine zO R3 (zO R3 (zP R6 (zM R4 (zO R3 (zO R3 (zO R3 (zO R3 (zO R3 (zO R3 (zO R3 (zO R3 (zO R3 (zO R3 (zP R6 (zN ?_)))))))))))))));cases h;exact ⟨rfl, (), (sb .refl)⟩
          ·rintro x131 _ h;obtain ⟨rfl, h⟩ | ⟨rfl, h⟩ := zZ h
           ·refine zC rfl (zT rfl (zA R4 (zN ?_)));cases h;exact ⟨rfl, (), (sb .refl)⟩
           refine zD rfl (zK ?_);cases h;exact ⟨rfl, (), (sb .refl)⟩
         ·rintro e_2 _ h;refine zU rfl (zM R4 ?_);obtain ⟨c133, hc133⟩ := zY (¬ e_2 = 0);refine zV R3 (Val.neq hc133 rfl rfl) (zN ?_);obtain ⟨rfl, hc133, h⟩ | ⟨rfl, hc133, h⟩ := zI hc133 h
          ·refine zC rfl (zU rfl (zM R4 (zM R4 (zA R4 (zA R4 (zA R4 (zN (zR ?_))))))));cases h;exact ⟨ret_ne, ⟨ret_ne, ⟨ret_ne, ⟨rfl, _, rfl, ⟨(), rfl, (pk [98,98] rfl)⟩⟩⟩⟩⟩
          refine zD rfl (zK ?_);cases h;exact ⟨rfl, (), (sb (pk [1,98] rfl))⟩
       ·rintro _ _ h;refine zT rfl (zM R4 ?_);obtain ⟨hk89, h⟩ := chk_some h;refine zV R3 (Val.add rfl rfl hk89) (zA R4 (zN ?_));cases h;exact ⟨rfl, (), (sb .refl)⟩
      refine zD rfl (zE ?_);cases h;exact ⟨ex_ne, ⟨rfl, (), (sb .refl)⟩⟩
     ·rintro _ _ h
      show T _ _ _ _ _ _;apply T.join (r := r) (W := Unit) (fun j w => ⟨[], [], .row b1 3 [qD, qC, qB] :: C⟩) h
      ·intro j h;refine zU rfl (zA R4 (zN (zB ?_)))
       show T _ _ _ _ _ _;apply T.iter (r := j) (W := Unit) (fun j w => ⟨[], [(1, .ptr b1 0 3), (12, iv (j))], .row b1 3 [qD, qC, qB] :: C⟩) (w0 := ()) h
       ·exact (sb .refl)
       rintro i _ a h;unfold P_r9_Check_L4 at h;refine zS (zU rfl (zM R4 (zF 1 R6 (zL 0 R3 R6 (zV R3 (Val.len_l qJ M1 rfl rfl) ?_)))));obtain ⟨c140, hc140⟩ := zY (i < (qE.length : Int));refine zV R3 (Val.lss hc140 rfl rfl) (zN ?_);obtain ⟨rfl, hc140, h⟩ | ⟨rfl, hc140, h⟩ := zI hc140 h
       ·refine zC rfl (zK (zS (zB (zS (T.drawE (l1 := [0, 1, 2, 3, 4, 6]) (l2 := [5, 7, 8]) (by kernel_rfl) (by kernel_rfl) (yR R4 (vW 0 [_,_,_] R5 R4) (yL R4 (Val.faddr_ptr (fo := 2) rfl rfl rfl) (yR R4 (vR (p := 0) R6) (yL R4 (Val.faddr_ptr (fo := 2) rfl rfl rfl) (yR R4 (vR (p := 0) R6) (yL R4 (Val.move rfl) (TD1.over (fun v => sameC_refl v) (all_cons (⟨_, rfl, (vR (p := 0) R6)⟩) (all_cons (⟨_, rfl, (vR (p := 0) R6)⟩) (all_cons (⟨_, rfl, (vW 0 [_,_,_] R5 R4)⟩) all_nil))) ?_))))))))))));obtain ⟨y148, hr148, h⟩ := andx_some h;refine TD2.heavy (fun v => sameC_refl v) rfl (by decide) rfl rfl (OpS.callV rfl rfl rfl rfl (orcN rfl) (RepF.conv (tf_r9_Own aD (Rdl.mono qI M1) hr148))) ?_;rintro w148 hs_ ⟨w148, rfl, he_⟩;subst hs_;refine ⟨(all_cons (.inl (by kernel_rfl)) (all_cons (.inr ⟨_, rfl, (vR (p := 1) R6)⟩) (all_cons (.inr ⟨_, rfl, (vW 1 [_,_,_] R5 R4)⟩) all_nil))), all_nil, ?_⟩;refine yG (_::_::C) rfl ?_;obtain ⟨y150, hr150, h⟩ := andx_some h;refine TD2.heavy (fun v => sameC_refl v) rfl (by decide) rfl rfl (OpS.callV rfl rfl rfl rfl (orcN rfl) (RepF.conv (tf_r9_fit aD (Rdl.mono qK M2) (Rdl.mono qJ M2) (Rdl.mono qI M2) (Rdl.mono qI M2) (Rdl.mono (Rdl.own (C := ownL true w148 encI y148 :: .row b1 3 [qD, qC, qB] :: C) (p := 0) rfl) mem0) hr150))) ?_;rintro _ hs_ ⟨_, rfl, he_⟩;subst hs_;refine ⟨(all_cons (.inl (by kernel_rfl)) (all_cons (.inl (by kernel_rfl)) (all_cons (.inl (by kernel_rfl)) all_nil))), all_nil, ?_⟩;refine yG (_::_::C) rfl (yM R4 (Val.not rfl) (TD2.nil ?_));obtain ⟨rfl, h⟩ | ⟨rfl, h⟩ := zZ h
        ·refine zD rfl (zK (zT rfl (zM R4 ?_)));obtain ⟨hk142, h⟩ := chk_some h;refine zV R3 (Val.add rfl rfl hk142) (zA R4 (zN ?_));cases h;exact ⟨rfl, (), (sb (pk [1,98] rfl))⟩
        refine zC rfl (zU rfl (zM R4 (zA R4 (zA R4 (zA R4 (zN (zR ?_)))))));cases h;exact ⟨ret_ne, ⟨ret_ne, ⟨rfl, _, rfl, ⟨(), rfl, (pk [98,98] rfl)⟩⟩⟩⟩
       refine zD rfl (zE ?_);cases h;exact ⟨ex_ne, ⟨rfl, (), (sb .refl)⟩⟩
      ·rintro _ _ h;refine zU rfl (zA R4 (zA R4 (zA R4 (zN (zR ?_)))));cases h;exact ⟨rfl, _, rfl, ⟨(), rfl, (pk [98] rfl)⟩⟩
   refine zC rfl (zU rfl (zA R4 (zA R4 (zA R4 (zN (zR ?_))))));cases h;exact ⟨rfl, _, rfl, ⟨(), rfl, (pk [98] rfl)⟩⟩
 refine zC rfl (zU rfl (zA R4 (zA R4 (zA R4 (zN (zR ?_))))));cases h;exact ⟨rfl, _, rfl, ⟨(), rfl, (pk [98] rfl)⟩⟩
theorem w_r9_Check (qF : GS encStr) (qE : GS qU) (qG : GS qN) (r : Int × Int × Int) (h : P_r9_Check qF.l qE.l qG.l = some r) : Comes (EL 0) 17 [.agg [qF.v, qE.v, qG.v]] (.tuple [iv r.1, iv r.2.1, iv r.2.2]) :=
 TF.run (tf_r9_Check (Nat.le_refl _) (RdT.gs qF) (RdT.gs qE) (RdT.gs qG) h) fun w => (.tuple (.cons .lit (.cons .lit (.cons .lit .nil))))
set_option maxRecDepth 10000 in
theorem tf_q_Name {k : Nat} (hk : 0 ≤ k) {C : List Thing} {s : Str} {r : Bool} (h : P_q_Name s = some r) :
  TF (EL k) 65 [sv s] C (RepF (fun (w : Unit) => bv r) (fun (w : Unit) => C)) := by
 unfold P_q_Name at h;refine TF.enter (fn := Go.Proofs.Tryz.f65) rfl rfl rfl rfl rfl (zU rfl (zA R4 (zN ?_)))
 show T _ _ _ _ _ _;apply T.join (r := r) (W := Unit) (fun j w => ⟨[], [(0, sv s)], C⟩) h
 ·intro j h;refine zU rfl (zM R4 (TO.eff rfl rfl rfl (Eff.range_str rfl rfl) ?_));rintro _ _ ⟨it6, rfl, rfl⟩;refine zN (zB ?_)
  show T _ _ _ _ _ _;apply T.iter (r := j) (W := Unit) (fun j w => ⟨[], [(0, sv s), (6, .ptr it6 0 0)], strL it6 s j :: C⟩) (w0 := ()) h
  ·exact (sb .refl)
  rintro pos _ a h;unfold P_q_Name_L1 at h;refine zU rfl ?_;obtain ⟨c7, hc7⟩ := zY (pos < s.length);obtain ⟨rfl, hc7, h⟩ | ⟨rfl, hc7, h⟩ := zI hc7 h
  ·refine TO.eff rfl rfl rfl (Eff.next_str (p := 0) rfl rfl hc7) ?_;rintro _ _ ⟨rfl, rfl⟩;refine zG (_::C) rfl (zX R5 (zN (zS (zC rfl (zK (zB (zU rfl (zX R5 (zX R5 (zA R4 (zA R4 (zN (zB ?_)))))))))))))
   show T _ _ _ _ _ _;apply T.joinA (r := a) (W := Unit) (fun j w => ⟨[], [(0, sv s), (3, iv ((pos : Int))), (4, ivk .i32 ((runeAt s pos))), (6, .ptr it6 0 0), (11, bv j)], strL it6 s (pos + runeLen s pos) :: C⟩) h
   ·intro j h;refine zT rfl (zM R4 ?_);obtain ⟨c13, hc13⟩ := zY ((runeAt s pos) ≥ 97);refine zV R3 (Val.geqK hc13 rfl rfl) (zM R4 ?_);obtain ⟨rfl, hc13, h⟩ | ⟨rfl, hc13, h⟩ := zI hc13 h
    ·refine zM R4 ?_;obtain ⟨c16, hc16⟩ := zY ((runeAt s pos) ≤ 122);refine zV R3 (Val.leqK hc16 rfl rfl) (zP R6 (zA R4 (zN ?_)));subst hc16;cases h;exact ⟨rfl, (), (sb .refl)⟩
    refine zO R3 (zO R3 (zP R6 (zA R4 (zN ?_))));cases h;exact ⟨rfl, (), (sb .refl)⟩
   ·rintro x11 _ h;obtain ⟨rfl, h⟩ | ⟨rfl, h⟩ := zZ h
    ·refine zC rfl (zK ?_);cases h;exact ⟨rfl, (), (sb .refl)⟩
    refine zD rfl ?_
    show T _ _ _ _ _ _;apply T.joinA (r := a) (W := Unit) (fun j w => ⟨[], [(0, sv s), (6, .ptr it6 0 0), (18, bv j)], strL it6 s (pos + runeLen s pos) :: C⟩) h
    ·intro j h;refine zT rfl (zM R4 ?_);obtain ⟨c20, hc20⟩ := zY ((pos : Int) > 0);refine zV R3 (Val.gtr hc20 rfl rfl) (zM R4 ?_);obtain ⟨rfl, hc20, h⟩ | ⟨rfl, hc20, h⟩ := zI hc20 h
     ·refine zM R4 ?_;obtain ⟨c23, hc23⟩ := zY ((runeAt s pos) ≥ 48);refine zV R3 (Val.geqK hc23 rfl rfl) (zM R4 ?_);obtain ⟨rfl, hc23, h⟩ | ⟨rfl, hc23, h⟩ := zI hc23 h
      ·refine zM R4 ?_;obtain ⟨c26, hc26⟩ := zY ((runeAt s pos) ≤ 57);refine zV R3 (Val.leqK hc26 rfl rfl) (zP R6 (zM R4 ?_));obtain ⟨rfl, hc26, h⟩ | ⟨rfl, hc26, h⟩ := zI hc26 h
       ·refine zO R3 (zO R3 (zP R6 (zP R6 (zA R4 (zN ?_)))));cases h;exact ⟨rfl, (), (sb .refl)⟩
       refine zM R4 ?_;obtain ⟨c30, hc30⟩ := zY ((runeAt s pos) = 46);refine zV R3 (Val.eqlK hc30 rfl rfl) (zP R6 (zP R6 (zA R4 (zN ?_))));subst hc30;cases h;exact ⟨rfl, (), (sb .refl)⟩
      refine zO R3 (zO R3 (zP R6 (zM R4 (zM R4 ?_))));obtain ⟨c30, hc30⟩ := zY ((runeAt s pos) = 46);refine zV R3 (Val.eqlK hc30 rfl rfl) (zP R6 (zP R6 (zA R4 (zN ?_))));subst hc30;cases h;exact ⟨rfl, (), (sb .refl)⟩
     refine zO R3 (zO R3 (zO R3 (zO R3 (zO R3 (zO R3 (zO R3 (zO R3 (zO R3 (zO R3 (zP R6 (zA R4 (zN ?_))))))))))));cases h;exact ⟨rfl, (), (sb .refl)⟩
    ·rintro x18 _ h;obtain ⟨rfl, h⟩ | ⟨rfl, h⟩ := zZ h
     ·refine zC rfl (zK ?_);cases h;exact ⟨rfl, (), (sb .refl)⟩
     refine zD rfl (zU rfl (zA R4 (zN (zR ?_))));cases h;exact ⟨ret_ne, ⟨ret_ne, ⟨rfl, _, rfl, ⟨(), rfl, (pk [98] rfl)⟩⟩⟩⟩
  refine TO.eff rfl rfl rfl (Eff.next_end (p := 0) rfl rfl hc7) ?_;rintro _ _ ⟨rfl, rfl⟩;refine zG (_::C) rfl (zX R5 (zN (zS (zD rfl (zE ?_)))));cases h;exact ⟨ex_ne, ⟨rfl, (), (sb (pk [98] rfl))⟩⟩
 ·rintro _ _ h
  show T _ _ _ _ _ _;apply T.joinA (r := r) (W := Unit) (fun j w => ⟨[], [(2, bv j)], C⟩) h
  ·intro j h;refine zT rfl (zM R4 ?_);obtain ⟨c34, hc34⟩ := zY (¬ s = ([] : Str));refine zV R3 (Val.neq_str hc34 rfl rfl) (zM R4 ?_);obtain ⟨rfl, hc34, h⟩ | ⟨rfl, hc34, h⟩ := zI hc34 h
   ·refine zM R4 (zV R3 (Val.len_str rfl rfl) ?_);obtain ⟨c38, hc38⟩ := zY ((s.length : Int) ≤ 16);refine zV R3 (Val.leq hc38 rfl rfl) (zP R6 (zA R4 (zN ?_)));subst hc38;cases h;exact ⟨rfl, (), (sb .refl)⟩
   refine zO R3 (zO R3 (zO R3 (zP R6 (zA R4 (zN ?_)))));cases h;exact ⟨rfl, (), (sb .refl)⟩
  ·rintro x2 _ h;refine zR ?_;cases h;exact ⟨rfl, _, rfl, ⟨(), rfl, .refl⟩⟩
set_option maxRecDepth 10000 in
theorem tf_s9_out {k : Nat} (hk : 0 ≤ k) {C : List Thing} {lo : Int} {hi : Int} {v_numbers : AV} {numbers : List Int} (h_numbers : Rdl C encI v_numbers numbers) {r : Bool} (h : P_s9_out lo hi numbers = some r) :
  TF (EL k) 62 [iv (lo), iv (hi), v_numbers] C (RepF (fun (w : Unit) => bv r) (fun (w : Unit) => C)) := by
 unfold P_s9_out at h;refine TF.enter (fn := Go.Proofs.Tryz.f62) rfl rfl rfl rfl rfl (zU rfl (zQ 1 [_] R7 (fun b3=>zQ 1 [_] R7 (fun b4=>zA R4 (zN (zU rfl (zM R4 (zV R3 (Val.makeFunc rfl rfl) (TO.callIn rfl rfl rfl rfl rfl rfl (orcN rfl) (TF.enter (fn := Go.Proofs.Tryz.f116) rfl rfl rfl rfl rfl (zU rfl (zA R4 (zN (zU rfl (zM R4 (zM R4 ?_))))))))))))))));refine TO.callJ (W := Unit) (fun (j : Int) (w : Unit) => iv (j)) (fun (j : Int) (w : Unit) => .row b4 1 [iv (hi)] :: .row b3 1 [iv (lo)] :: C) h rfl rfl rfl rfl rfl rfl (orcN rfl) ?_ ?_
 ·intro j h;refine TF.enter (fn := Go.Proofs.Tryz.f141) rfl rfl rfl rfl rfl (zU rfl (zA R4 (zN ?_)))
  show T _ _ _ _ _ _;apply T.join (r := j) (W := Unit) (fun j w => ⟨[], [], .row b4 1 [iv (hi)] :: .row b3 1 [iv (lo)] :: C⟩) h
  ·intro j h;refine zU rfl (zM R4 (zV R3 (Val.len_l h_numbers M2 rfl rfl) (zM R4 (zN (zB ?_)))))
   show T _ _ _ _ _ _;apply T.iter (r := j) (W := Unit) (fun j w => ⟨[], [(0, v_numbers), (1, .func 117 [] [.ptr b3 0 1, .ptr b4 0 1]), (7, iv ((numbers.length : Int))), (8, iv (j))], .row b4 1 [iv (hi)] :: .row b3 1 [iv (lo)] :: C⟩) (w0 := ()) h
   ·exact (sb .refl)
   rintro x8 _ a h;unfold P_s9_out_L1 at h;refine zU rfl ?_;obtain ⟨c9, hc9⟩ := zY (x8 < (numbers.length : Int));refine zV R3 (Val.lss hc9 rfl rfl) (zN (zS ?_));obtain ⟨rfl, hc9, h⟩ | ⟨rfl, hc9, h⟩ := zI hc9 h
   ·refine zC rfl (zK (zS (zB (zU rfl (zM R4 (zA R4 (zN (zU rfl (zM R4 (zM R4 (zM R4 ?_)))))))))));obtain ⟨a14, hia14, ea14, h⟩ := el_some h;refine TO.fact (rdl_at h_numbers M2 hia14 ea14) (fun hp=>?_);obtain ⟨pa14, hpa14, hva14⟩ := hp;refine zV R3 (hva14 ⟨rfl, rfl⟩ rfl rfl) (zV R3 (Val.load_e hpa14 M2 ⟨_, rfl, rfl⟩ rfl rfl) (TO.callIn rfl rfl rfl rfl rfl rfl (orcN rfl) (TF.enter (fn := Go.Proofs.Tryz.f117) rfl rfl rfl rfl rfl (zU rfl (zA R4 (zN ?_))))))
    show T _ _ _ _ _ _;apply T.joinA (r := a) (W := Unit) (fun j w => ⟨[], [(4, bv j)], .row b4 1 [iv (hi)] :: .row b3 1 [iv (lo)] :: C⟩) h
    ·intro j h;refine zT rfl (zM R4 (zL 1 R3 R6 ?_));obtain ⟨c7, hc7⟩ := zY (a14 < lo);refine zV R3 (Val.lss hc7 rfl rfl) (zM R4 ?_);obtain ⟨rfl, hc7, h⟩ | ⟨rfl, hc7, h⟩ := zI hc7 h
     ·refine zO R3 (zO R3 (zO R3 (zP R6 (zA R4 (zN ?_)))));cases h;exact ⟨rfl, (), (sb .refl)⟩
     refine zM R4 (zL 0 R3 R6 ?_);obtain ⟨c11, hc11⟩ := zY (a14 > hi);refine zV R3 (Val.gtr hc11 rfl rfl) (zP R6 (zA R4 (zN ?_)));subst hc11;cases h;exact ⟨rfl, (), (sb .refl)⟩
    ·rintro x4 _ h;refine zR ?_;refine ⟨rfl, _, rfl, ?_⟩;refine zN ?_;obtain ⟨rfl, h⟩ | ⟨rfl, h⟩ := zZ h
     ·refine zC rfl (zU rfl (zM R4 (zA R4 (zN (zR ?_)))));cases h;exact ⟨ret_ne, ⟨ret_ne, ⟨rfl, _, rfl, ⟨(), rfl, .refl⟩⟩⟩⟩
     refine zD rfl (zK (zT rfl ?_));obtain ⟨hk18, h⟩ := chk_some h;refine zV R3 (Val.add rfl rfl hk18) (zM R4 (zN ?_));cases h;exact ⟨rfl, (), (sb .refl)⟩
   refine zD rfl (zE ?_);cases h;exact ⟨ex_ne, ⟨rfl, (), (sb .refl)⟩⟩
  ·rintro _ _ h;refine zU rfl (zA R4 (zN (zR ?_)));cases h;exact ⟨rfl, _, rfl, ⟨(), rfl, .refl⟩⟩
 ·rintro y7 _ h;refine zG (_::_::C) rfl ?_;obtain ⟨c8, hc8⟩ := zY (y7 ≥ 0);refine zV R3 (Val.geq hc8 rfl rfl) (zA R4 (zN (zR ?_)));refine ⟨rfl, _, rfl, ?_⟩;refine zA R4 (zN (zR ?_));subst hc8;cases h;exact ⟨rfl, _, rfl, ⟨(), rfl, (pk [98,98] rfl)⟩⟩
set_option maxRecDepth 10000 in
theorem tf_s9_mark {k : Nat} (hk : 0 ≤ k) {C : List Thing} {v_r_SfRoom_Classes : AV} {r_SfRoom_Classes : List Str} {v_r_SfRoom_Shelves : AV} {r_SfRoom_Shelves : List qH} {v_r_SfRoom_Books : AV} {r_SfRoom_Books : List qA} {m_Class : Int} {m_Number : Int} {m_Suffix : Str} (h_r_SfRoom_Classes : Rdl C encStr v_r_SfRoom_Classes r_SfRoom_Classes) (h_r_SfRoom_Shelves : Rdl C qU v_r_SfRoom_Shelves r_SfRoom_Shelves) (h_r_SfRoom_Books : Rdl C qN v_r_SfRoom_Books r_SfRoom_Books) {r : Int} (h : P_s9_mark r_SfRoom_Classes r_SfRoom_Shelves r_SfRoom_Books m_Class m_Number m_Suffix = some r) :
  TF (EL k) 78 [.agg [v_r_SfRoom_Classes, v_r_SfRoom_Shelves, v_r_SfRoom_Books], .agg [iv (m_Class), iv (m_Number), sv m_Suffix]] C (RepF (fun (w : Unit) => iv r) (fun (w : Unit) => C)) := by
 unfold P_s9_mark at h;refine TF.enter (fn := Go.Proofs.Tryz.f78) rfl rfl rfl rfl rfl (zU rfl (zQ 3 [_,_,_] R7 (fun b2=>zQ 3 [_,_,_] R7 (fun b3=>zA R4 (zN (zS (zB (zU rfl (zF 0 R6 (zF 0 R6 (zL 1 R3 R6 (zV R3 (Val.len_l h_r_SfRoom_Classes M2 rfl rfl) ?_))))))))))));obtain ⟨hk12, h⟩ := chk_some h;refine zV R3 (Val.sub rfl rfl hk12) (zF 0 R6 (zL 0 R3 R6 (TO.build1 (en := encI) (a := m_Class) rfl rfl rfl ⟨rfl, rfl⟩ ⟨_, rfl, rfl⟩ (by decide) (by decide) rfl rfl (fun v15=>?_))));obtain ⟨y16, hr16, h⟩ := andx_some h;refine TO.callT (first := []) (cap := []) (vs := [iv (0), iv (((r_SfRoom_Classes.length : Int) - 1)), v15]) rfl rfl rfl rfl rfl rfl (orcN rfl) (tf_s9_out aD (Rdl.mono (Rdl.own (C := ownL false v15 encI [m_Class] :: .row b3 3 [iv (m_Class), iv (m_Number), sv m_Suffix] :: .row b2 3 [v_r_SfRoom_Classes, v_r_SfRoom_Shelves, v_r_SfRoom_Books] :: C) (p := 0) rfl) mem0) hr16) ?_;rintro _;refine zG (_::_::_::C) rfl (zA R4 (zN ?_));obtain ⟨rfl, h⟩ | ⟨rfl, h⟩ := zZ h
 ·refine zC rfl (zU rfl (zA R4 (zN (zR ?_))));cases h;exact ⟨rfl, _, rfl, ⟨(), rfl, (pk [98,98,98] rfl)⟩⟩
 refine zD rfl (zU rfl (zF 1 R6 (zL 1 R3 R6 (TO.build1 (en := encI) (a := m_Number) rfl rfl rfl ⟨rfl, rfl⟩ ⟨_, rfl, rfl⟩ (by decide) (by decide) rfl rfl (fun v20=>?_)))));obtain ⟨y21, hr21, h⟩ := andx_some h;refine TO.callT (first := []) (cap := []) (vs := [iv (1), iv (9999), v20]) rfl rfl rfl rfl rfl rfl (orcN rfl) (tf_s9_out aD (Rdl.mono (Rdl.own (C := ownL false v20 encI [m_Number] :: ownL false v15 encI [m_Class] :: .row b3 3 [iv (m_Class), iv (m_Number), sv m_Suffix] :: .row b2 3 [v_r_SfRoom_Classes, v_r_SfRoom_Shelves, v_r_SfRoom_Books] :: C) (p := 0) rfl) mem0) hr21) ?_;rintro _;refine zG (_::_::_::_::C) rfl (zA R4 (zN ?_));obtain ⟨rfl, h⟩ | ⟨rfl, h⟩ := zZ h
 ·refine zC rfl (zU rfl (zA R4 (zN (zR ?_))));cases h;exact ⟨rfl, _, rfl, ⟨(), rfl, (pk [98,98,98,98] rfl)⟩⟩
 refine zD rfl (zU rfl (zF 2 R6 (zL 2 R3 R6 (zV R3 (Val.len_str rfl rfl) ?_))));obtain ⟨c26, hc26⟩ := zY ((m_Suffix.length : Int) > 2);refine zV R3 (Val.gtr hc26 rfl rfl) (zA R4 (zN ?_));obtain ⟨rfl, hc26, h⟩ | ⟨rfl, hc26, h⟩ := zI hc26 h
 ·refine zC rfl (zU rfl (zA R4 (zN (zR ?_))));cases h;exact ⟨rfl, _, rfl, ⟨(), rfl, (pk [98,98,98,98] rfl)⟩⟩
 refine zD rfl (zK ?_)
 show T _ _ _ _ _ _;apply T.join (r := r) (W := Unit) (fun j w => ⟨[], [], C⟩) h
 ·intro j h;refine zU rfl (zF 2 R6 (zL 2 R3 R6 (TO.eff rfl rfl rfl (Eff.range_str rfl rfl) ?_)));rintro _ _ ⟨it29, rfl, rfl⟩;refine zN (zB ?_)
  show T _ _ _ _ _ _;apply T.iter (r := j) (W := Unit) (fun j w => ⟨[], [(29, .ptr it29 0 0)], strL it29 m_Suffix j :: C⟩) (w0 := ()) h
  ·exact (sb (pk [0,98,98,98,98] rfl))
  rintro pos _ a h;unfold P_s9_mark_L1 at h;refine zU rfl ?_;obtain ⟨c30, hc30⟩ := zY (pos < m_Suffix.length);obtain ⟨rfl, hc30, h⟩ | ⟨rfl, hc30, h⟩ := zI hc30 h
  ·refine TO.eff rfl rfl rfl (Eff.next_str (p := 0) rfl rfl hc30) ?_;rintro _ _ ⟨rfl, rfl⟩;refine zG (_::C) rfl (zX R5 (zN (zS (zC rfl (zK (zB (zU rfl (zX R5 (zA R4 (zN ?_))))))))))
   show T _ _ _ _ _ _;apply T.joinA (r := a) (W := Unit) (fun j w => ⟨[], [(29, .ptr it29 0 0), (38, bv j)], strL it29 m_Suffix (pos + runeLen m_Suffix pos) :: C⟩) h
   ·intro j h;refine zT rfl (zM R4 ?_);obtain ⟨c34, hc34⟩ := zY ((runeAt m_Suffix pos) < 97);refine zV R3 (Val.lssK hc34 rfl rfl) (zM R4 ?_);obtain ⟨rfl, hc34, h⟩ | ⟨rfl, hc34, h⟩ := zI hc34 h
    ·refine zO R3 (zO R3 (zP R6 (zN ?_)));cases h;exact ⟨rfl, (), (sb .refl)⟩
    refine zM R4 ?_;obtain ⟨c37, hc37⟩ := zY ((runeAt m_Suffix pos) > 122);refine zV R3 (Val.gtrK hc37 rfl rfl) (zP R6 (zN ?_));subst hc37;cases h;exact ⟨rfl, (), (sb .refl)⟩
   ·rintro x38 _ h;obtain ⟨rfl, h⟩ | ⟨rfl, h⟩ := zZ h
    ·refine zC rfl (zU rfl (zA R4 (zN (zR ?_))));cases h;exact ⟨ret_ne, ⟨ret_ne, ⟨rfl, _, rfl, ⟨(), rfl, (pk [98] rfl)⟩⟩⟩⟩
    refine zD rfl (zK ?_);cases h;exact ⟨rfl, (), (sb .refl)⟩
  refine TO.eff rfl rfl rfl (Eff.next_end (p := 0) rfl rfl hc30) ?_;rintro _ _ ⟨rfl, rfl⟩;refine zG (_::C) rfl (zX R5 (zN (zS (zD rfl (zE ?_)))));cases h;exact ⟨ex_ne, ⟨rfl, (), (sb (pk [98] rfl))⟩⟩
 ·rintro _ _ h;refine zU rfl (zA R4 (zN (zR ?_)));cases h;exact ⟨rfl, _, rfl, ⟨(), rfl, .refl⟩⟩
set_option maxRecDepth 10000 in
theorem tf_s9_book {k : Nat} (hk : 0 ≤ k) {C : List Thing} {v_r_SfRoom_Classes : AV} {r_SfRoom_Classes : List Str} {v_r_SfRoom_Shelves : AV} {r_SfRoom_Shelves : List qH} {v_r_SfRoom_Books : AV} {r_SfRoom_Books : List qA} {qO : Int} {qP : Int} {qQ : Str} {qM : Int} {qL : Int} {qV : Int} {qW : Int} {v_others : AV} {others : List qA} (h_r_SfRoom_Classes : Rdl C encStr v_r_SfRoom_Classes r_SfRoom_Classes) (h_r_SfRoom_Shelves : Rdl C qU v_r_SfRoom_Shelves r_SfRoom_Shelves) (h_r_SfRoom_Books : Rdl C qN v_r_SfRoom_Books r_SfRoom_Books) (h_others : Rdl C qN v_others others) {r : Int} (h : P_s9_book r_SfRoom_Classes r_SfRoom_Shelves r_SfRoom_Books qO qP qQ qM qL qV qW others = some r) :
  TF (EL k) 71 [.agg [v_r_SfRoom_Classes, v_r_SfRoom_Shelves, v_r_SfRoom_Books], .agg [iv (qO), iv (qP), sv qQ, iv (qM), iv (qL), iv (qV), iv (qW)], v_others] C (RepF (fun (w : Unit) => iv r) (fun (w : Unit) => C)) := by
 unfold P_s9_book at h;refine TF.enter (fn := Go.Proofs.Tryz.f71) rfl rfl rfl rfl rfl (zU rfl (zQ 3 [_,_,_] R7 (fun b3=>zQ 7 [_,_,_,_,_,_,_] R7 (fun b4=>zA R4 (zN (zS (zU rfl (zV R3 (vW 1 [_,_,_] R5 R4) (zF 0 R6 (zV R3 (vW 0 [_,_,_] R5 R4) ?_))))))))));obtain ⟨y11, hr11, h⟩ := andx_some h;refine TO.callT (first := []) (cap := []) (vs := [.agg [v_r_SfRoom_Classes, v_r_SfRoom_Shelves, v_r_SfRoom_Books], .agg [iv (qO), iv (qP), sv qQ]]) rfl rfl rfl rfl rfl rfl (orcN rfl) (tf_s9_mark aD (Rdl.mono h_r_SfRoom_Classes M2) (Rdl.mono h_r_SfRoom_Shelves M2) (Rdl.mono h_r_SfRoom_Books M2) hr11) ?_;rintro _;refine zG (_::_::C) rfl (zA R4 (zN (zU rfl (zM R4 ?_))));obtain ⟨c13, hc13⟩ := zY (¬ y11 = 0);refine zV R3 (Val.neq hc13 rfl rfl) (zN ?_);obtain ⟨rfl, hc13, h⟩ | ⟨rfl, hc13, h⟩ := zI hc13 h
 ·refine zC rfl (zU rfl (zM R4 (zA R4 (zN (zR ?_)))));cases h;exact ⟨rfl, _, rfl, ⟨(), rfl, (pk [98,98] rfl)⟩⟩
 refine zD rfl (zK ?_)
 show T _ _ _ _ _ _;apply T.join (r := r) (W := Unit) (fun j w => ⟨[], [], .row b4 7 [iv (qO), iv (qP), sv qQ, iv (qM), iv (qL), iv (qV), iv (qW)] :: C⟩) h
 ·intro j h;refine zB ?_
  show T _ _ _ _ _ _;apply T.joinA (r := j) (W := Unit) (fun j w => ⟨[], [(2, v_others), (4, .ptr b4 0 7), (15, bv j)], .row b4 7 [iv (qO), iv (qP), sv qQ, iv (qM), iv (qL), iv (qV), iv (qW)] :: .row b3 3 [v_r_SfRoom_Classes, v_r_SfRoom_Shelves, v_r_SfRoom_Books] :: C⟩) h
  ·intro j h;refine zT rfl (zF 3 R6 (zL 0 R3 R6 (zF 4 R6 (zL 0 R3 R6 (TO.eff rfl rfl rfl (Eff.new (New.buildSlice (en := encI) (l := [qM, qL]) (vs := [(_, _), (_, _)]) (ws := [(_, [_]), (_, [_])]) ⟨rfl, rfl⟩ rfl rfl rfl rfl (CellsL.cons rfl (CellsL.cons rfl CellsL.nil)) rfl rfl)) ?_)))));rintro _ _ ⟨v20, rfl, rfl⟩;refine TO.less (Less.rowOwn (en := encI) (l := [qM, qL]) (p := 0) rfl) (zG (_::_::_::C) rfl ?_);obtain ⟨y21, hr21, h⟩ := andx_some h;refine TO.callT (first := []) (cap := []) (vs := [iv (1), iv (2000), (.slice v20 0 (List.flatMap encI.f [qM, qL]).length true (List.length [qM, qL]) (List.length [qM, qL]))]) rfl rfl rfl rfl rfl rfl (orcN rfl) (tf_s9_out aD (Rdl.mono (Rdl.own (C := ownL false (.slice v20 0 (List.flatMap encI.f [qM, qL]).length true (List.length [qM, qL]) (List.length [qM, qL])) encI [qM, qL] :: .row b4 7 [iv (qO), iv (qP), sv qQ, iv (qM), iv (qL), iv (qV), iv (qW)] :: .row b3 3 [v_r_SfRoom_Classes, v_r_SfRoom_Shelves, v_r_SfRoom_Books] :: C) (p := 0) rfl) mem0) hr21) ?_;rintro _;refine zG (_::_::_::C) rfl (zM R4 ?_);obtain ⟨rfl, h⟩ | ⟨rfl, h⟩ := zZ h
   ·refine zO R3 (zO R3 (zO R3 (zO R3 (zP R6 (zA R4 (zN ?_))))));cases h;exact ⟨rfl, (), (sb (pk [1,1,98] rfl))⟩
   refine zF 5 R6 (zL 1 R3 R6 (TO.build1 (en := encI) (a := qV) rfl rfl rfl ⟨rfl, rfl⟩ ⟨_, rfl, rfl⟩ (by decide) (by decide) rfl rfl (fun v25=>?_)));obtain ⟨y26, hr26, h⟩ := andx_some h;refine TO.callT (first := []) (cap := []) (vs := [iv (1), iv (100), v25]) rfl rfl rfl rfl rfl rfl (orcN rfl) (tf_s9_out aD (Rdl.mono (Rdl.own (C := ownL false v25 encI [qV] :: ownL false (.slice v20 0 (List.flatMap encI.f [qM, qL]).length true (List.length [qM, qL]) (List.length [qM, qL])) encI [qM, qL] :: .row b4 7 [iv (qO), iv (qP), sv qQ, iv (qM), iv (qL), iv (qV), iv (qW)] :: .row b3 3 [v_r_SfRoom_Classes, v_r_SfRoom_Shelves, v_r_SfRoom_Books] :: C) (p := 0) rfl) mem0) hr26) ?_;rintro _;refine zG (_::_::_::_::C) rfl (zP R6 (zA R4 (zN ?_)));cases h;exact ⟨rfl, (), (sb (pk [2,2,98,98] rfl))⟩
  ·rintro x15 _ h;obtain ⟨rfl, h⟩ | ⟨rfl, h⟩ := zZ h
   ·refine zC rfl (zU rfl (zA R4 (zN (zR ?_))));cases h;exact ⟨ret_ne, ⟨rfl, _, rfl, ⟨(), rfl, (pk [98,98] rfl)⟩⟩⟩
   refine zD rfl (zU rfl (zM R4 (zV R3 (Val.makeFunc rfl rfl) (TO.callIn rfl rfl rfl rfl rfl rfl (orcN rfl) (TF.enter (fn := Go.Proofs.Tryz.f118) rfl rfl rfl rfl rfl (zU rfl (zA R4 (zN (zU rfl (zM R4 (zM R4 ?_)))))))))));refine TO.callJ (W := Unit) (fun (j : Int) (w : Unit) => iv (j)) (fun (j : Int) (w : Unit) => .row b4 7 [iv (qO), iv (qP), sv qQ, iv (qM), iv (qL), iv (qV), iv (qW)] :: C) h rfl rfl rfl rfl rfl rfl (orcN rfl) ?_ ?_
   ·intro j h;refine TF.enter (fn := Go.Proofs.Tryz.f142) rfl rfl rfl rfl rfl (zU rfl (zA R4 (zN ?_)))
    show T _ _ _ _ _ _;apply T.join (r := j) (W := Unit) (fun j w => ⟨[], [], .row b4 7 [iv (qO), iv (qP), sv qQ, iv (qM), iv (qL), iv (qV), iv (qW)] :: C⟩) h
    ·intro j h;refine zU rfl (zM R4 (zV R3 (Val.len_l h_others M2 rfl rfl) (zM R4 (zN (zB ?_)))))
     show T _ _ _ _ _ _;apply T.iter (r := j) (W := Unit) (fun j w => ⟨[], [(0, v_others), (1, .func 119 [] [.ptr b4 0 7]), (7, iv ((others.length : Int))), (8, iv (j))], .row b4 7 [iv (qO), iv (qP), sv qQ, iv (qM), iv (qL), iv (qV), iv (qW)] :: C⟩) (w0 := ()) h
     ·exact (sb (pk [0,98] rfl))
     rintro x8 _ a h;unfold P_s9_book_L1 at h;refine zU rfl ?_;obtain ⟨c9, hc9⟩ := zY (x8 < (others.length : Int));refine zV R3 (Val.lss hc9 rfl rfl) (zN (zS ?_));obtain ⟨rfl, hc9, h⟩ | ⟨rfl, hc9, h⟩ := zI hc9 h
     ·refine zC rfl (zK (zS (zB (zU rfl (zM R4 (zA R4 (zN (zU rfl (zM R4 (zM R4 (zM R4 ?_)))))))))));obtain ⟨a14, hia14, ea14, h⟩ := el_some h;refine TO.fact (rdl_at h_others M1 hia14 ea14) (fun hp=>?_);obtain ⟨pa14, hpa14, hva14⟩ := hp;refine zV R3 (hva14 ⟨rfl, rfl⟩ rfl rfl) (zV R3 (Val.load_es (c := [_, _, _, _, _, _, _]) hpa14 M1 ⟨⟨_, rfl, rfl⟩, rfl, by decide⟩ rfl rfl rfl) (TO.callIn rfl rfl rfl rfl rfl rfl (orcN rfl) (TF.enter (fn := Go.Proofs.Tryz.f119) rfl rfl rfl rfl rfl (zU rfl (zQ 7 [_,_,_,_,_,_,_] R7 (fun b2=>zA R4 (zN (zU rfl (zF 0 R6 (zV R3 (vW 0 [_,_,_] R5 R4) (zF 0 R6 (zV R3 (vW 1 [_,_,_] R5 R4) ?_))))))))))));obtain ⟨c8, hc8⟩ := zY (a14.qR = qO ∧ a14.qS = qP ∧ a14.qT = qQ);refine zV R3 (Val.binD hc8 rfl rfl (eql_ty28 _ _ _ _ _ _ _ _)) (zA R4 (zN (zR ?_)));refine ⟨rfl, _, rfl, ?_⟩;refine zN ?_;obtain ⟨rfl, hc8, h⟩ | ⟨rfl, hc8, h⟩ := zI hc8 h
      ·refine zC rfl (zU rfl (zM R4 (zA R4 (zN (zR ?_)))));cases h;exact ⟨ret_ne, ⟨ret_ne, ⟨rfl, _, rfl, ⟨(), rfl, (pk [1,98] rfl)⟩⟩⟩⟩
      refine zD rfl (zK (zT rfl ?_));obtain ⟨hk18, h⟩ := chk_some h;refine zV R3 (Val.add rfl rfl hk18) (zM R4 (zN ?_));cases h;exact ⟨rfl, (), (sb (pk [1,98] rfl))⟩
     refine zD rfl (zE ?_);cases h;exact ⟨ex_ne, ⟨rfl, (), (sb .refl)⟩⟩
    ·rintro _ _ h;refine zU rfl (zA R4 (zN (zR ?_)));cases h;exact ⟨rfl, _, rfl, ⟨(), rfl, .refl⟩⟩
   ·rintro y7 _ h;refine zG (_::C) rfl ?_;obtain ⟨c8, hc8⟩ := zY (y7 ≥ 0);refine zV R3 (Val.geq hc8 rfl rfl) (zA R4 (zN (zR ?_)));refine ⟨rfl, _, rfl, ?_⟩;refine zA R4 (zN ?_);obtain ⟨rfl, hc8, h⟩ | ⟨rfl, hc8, h⟩ := zI hc8 h
    ·refine zC rfl (zU rfl (zA R4 (zN (zR ?_))));cases h;exact ⟨ret_ne, ⟨rfl, _, rfl, ⟨(), rfl, (pk [98] rfl)⟩⟩⟩
    refine zD rfl (zK ?_);cases h;exact ⟨rfl, (), (sb .refl)⟩
 ·rintro _ _ h;refine zU rfl (zA R4 (zN (zR ?_)));cases h;exact ⟨rfl, _, rfl, ⟨(), rfl, (pk [98] rfl)⟩⟩
set_option maxRecDepth 10000 in
theorem tf_s9_Check {k : Nat} (hk : 0 ≤ k) {C : List Thing} {qD : AV} {qF : List Str} {qC : AV} {qE : List qH} {qB : AV} {qG : List qA} (qY : RdT encStr qD qF) (qZ : RdT qU qC qE) (qX : RdT qN qB qG) {r : Int × Int × Int} (h : P_s9_Check qF qE qG = some r) :
  TF (EL k) 16 [.agg [qD, qC, qB]] C (RepF (fun (w : Unit) => .tuple [iv r.1, iv r.2.1, iv r.2.2]) (fun (w : Unit) => C)) := by
 unfold P_s9_Check at h
 have qK : Rdl C encStr qD qF := RdT.rdl qY
 have qJ : Rdl C qU qC qE := RdT.rdl qZ
 have qI : Rdl C qN qB qG := RdT.rdl qX;refine TF.enter (fn := Go.Proofs.Tryz.f16) rfl rfl rfl rfl rfl (zU rfl (zQ 3 [_,_,_] R7 (fun b1=>zA R4 (zA R4 (zA R4 (zN (zS (zU rfl (zF 0 R6 (zL 0 R3 R6 (zV R3 (Val.len_l qK M1 rfl rfl) (TO.build1 (en := encI) (a := (qF.length : Int)) rfl rfl rfl ⟨rfl, rfl⟩ ⟨_, rfl, rfl⟩ (by decide) (by decide) rfl rfl (fun v8=>?_)))))))))))));obtain ⟨y9, hr9, h⟩ := andx_some h;refine TO.callT (first := []) (cap := []) (vs := [iv (1), iv (6), v8]) rfl rfl rfl rfl rfl rfl (orcN rfl) (tf_s9_out aD (Rdl.mono (Rdl.own (C := ownL false v8 encI [(qF.length : Int)] :: .row b1 3 [qD, qC, qB] :: C) (p := 0) rfl) mem0) hr9) ?_;rintro _;refine zG (_::_::C) rfl (zN ?_);obtain ⟨rfl, h⟩ | ⟨rfl, h⟩ := zZ h
 ·refine zC rfl (zU rfl (zA R4 (zA R4 (zA R4 (zN (zR ?_))))));cases h;exact ⟨rfl, _, rfl, ⟨(), rfl, (pk [98,98] rfl)⟩⟩
 refine zD rfl (zK (zU rfl (zF 0 R6 (zL 1 R3 R6 (zV R3 (Val.makeFunc rfl rfl) ?_)))));refine TO.callJ (W := Unit) (fun (j : Int × Int) (w : Unit) => .tuple [iv (j.1), iv (j.2)]) (fun (j : Int × Int) (w : Unit) => ownL false v8 encI [(qF.length : Int)] :: .row b1 3 [qD, qC, qB] :: C) h rfl rfl rfl rfl rfl rfl (orcN rfl) ?_ ?_
 ·intro j h;refine TF.enter (fn := Go.Proofs.Tryz.f63) rfl rfl rfl rfl rfl (zU rfl (zA R4 (zA R4 (zN ?_))))
  show T _ _ _ _ _ _;apply T.join (r := j) (W := Unit) (fun j w => ⟨[], [], ownL false v8 encI [(qF.length : Int)] :: .row b1 3 [qD, qC, qB] :: C⟩) h
  ·intro j h;refine zU rfl (zM R4 (zV R3 (Val.len_l qK M2 rfl rfl) (zM R4 (zN (zB ?_)))))
   show T _ _ _ _ _ _;apply T.iter (r := j) (W := Unit) (fun j w => ⟨[], [(1, .func 64 [] [.ptr b1 0 3]), (9, qD), (10, iv ((qF.length : Int))), (11, iv (j))], ownL false v8 encI [(qF.length : Int)] :: .row b1 3 [qD, qC, qB] :: C⟩) (w0 := ()) h
   ·exact (sb .refl)
   rintro x11 _ a h;unfold P_s9_Check_L1 at h;refine zU rfl ?_;obtain ⟨c12, hc12⟩ := zY (x11 < (qF.length : Int));refine zV R3 (Val.lss hc12 rfl rfl) (zN (zS ?_));obtain ⟨rfl, hc12, h⟩ | ⟨rfl, hc12, h⟩ := zI hc12 h
   ·refine zC rfl (zK (zS (zB (zU rfl (zM R4 ?_)))));obtain ⟨a14, hia14, ea14, h⟩ := el_some h;refine TO.fact (rdl_at qK M2 hia14 ea14) (fun hp=>?_);obtain ⟨pa14, hpa14, hva14⟩ := hp;refine zV R3 (hva14 ⟨rfl, rfl⟩ rfl rfl) (zV R3 (Val.load_e hpa14 M2 ⟨_, rfl, rfl⟩ rfl rfl) (zA R4 (zA R4 (zN (zU rfl (zM R4 (zM R4 (zM R4 ?_))))))));refine TO.callJ (W := Unit) (fun (j : Int) (w : Unit) => iv (j)) (fun (j : Int) (w : Unit) => ownL false v8 encI [(qF.length : Int)] :: .row b1 3 [qD, qC, qB] :: C) h rfl rfl rfl rfl rfl rfl (orcN rfl) ?_ ?_
    ·intro j h;refine TF.enter (fn := Go.Proofs.Tryz.f64) rfl rfl rfl rfl rfl (zU rfl (zA R4 (zN (zS (zB (zU rfl (zM R4 ?_)))))));obtain ⟨y8, hr8, h⟩ := andx_some h;refine TO.callT (first := []) (cap := []) (vs := [sv a14]) rfl rfl rfl rfl rfl rfl (orcN rfl) (tf_q_Name aD hr8) ?_;rintro _;refine zG (_::_::C) rfl (zV R3 (Val.not rfl) (zA R4 (zN ?_)));obtain ⟨rfl, h⟩ | ⟨rfl, h⟩ := zZ h
     ·refine zD rfl (zU rfl (zF 0 R6 (zL 1 R3 R6 (zM R4 ?_))));obtain ⟨hk14, h⟩ := chk_some h;obtain ⟨w14, htw14, hgw14, hvw14⟩ := slice_T qY hk14
      have hw14 : Rdl C encStr w14 (List.take (x11 - (0 : Int)).toNat (List.drop ((0 : Int) : Int).toNat qF)) := RdT.rdl htw14;refine zV R3 (hvw14 ⟨rfl, rfl⟩ rfl .no (.some rfl)) (zM R4 (TO.callIn rfl rfl rfl rfl rfl rfl (orcN rfl) (TF.enter (fn := Go.Proofs.Tryz.f66) rfl rfl rfl rfl rfl (zU rfl (zA R4 (zN (zU rfl (zM R4 (zM R4 ?_)))))))));refine TO.callJ (W := Unit) (fun (j : Int) (w : Unit) => iv (j)) (fun (j : Int) (w : Unit) => ownL false v8 encI [(qF.length : Int)] :: .row b1 3 [qD, qC, qB] :: C) h rfl rfl rfl rfl rfl rfl (orcN rfl) ?_ ?_
      ·intro j h;refine TF.enter (fn := Go.Proofs.Tryz.f86) rfl rfl rfl rfl rfl (zU rfl (zA R4 (zN ?_)))
       show T _ _ _ _ _ _;apply T.join (r := j) (W := Unit) (fun j w => ⟨[], [], ownL false v8 encI [(qF.length : Int)] :: .row b1 3 [qD, qC, qB] :: C⟩) h
       ·intro j h;refine zU rfl (zM R4 (zV R3 (Val.len_l hw14 M2 rfl rfl) (zM R4 (zN (zB ?_)))))
        show T _ _ _ _ _ _;apply T.iter (r := j) (W := Unit) (fun j w => ⟨[], [(0, w14), (1, sv a14), (7, iv (((List.take (x11 - (0 : Int)).toNat (List.drop ((0 : Int) : Int).toNat qF)).length : Int))), (8, iv (j))], ownL false v8 encI [(qF.length : Int)] :: .row b1 3 [qD, qC, qB] :: C⟩) (w0 := ()) h
        ·exact (sb .refl)
        rintro x8 _ a h;unfold P_s9_Check_L2 at h;refine zU rfl ?_;obtain ⟨c9, hc9⟩ := zY (x8 < ((List.take (x11 - (0 : Int)).toNat (List.drop ((0 : Int) : Int).toNat qF)).length : Int));refine zV R3 (Val.lss hc9 rfl rfl) (zN (zS ?_));obtain ⟨rfl, hc9, h⟩ | ⟨rfl, hc9, h⟩ := zI hc9 h
        ·refine zC rfl (zK (zS (zB (zU rfl (zM R4 (zA R4 (zN (zU rfl (zM R4 (zM R4 (zM R4 ?_)))))))))));obtain ⟨a14_2, hia14_2, ea14_2, h⟩ := el_some h;refine TO.fact (rdl_at hw14 M2 hia14_2 ea14_2) (fun hp=>?_);obtain ⟨pa14_2, hpa14_2, hva14_2⟩ := hp;refine zV R3 (hva14_2 ⟨rfl, rfl⟩ rfl rfl) (zV R3 (Val.load_e hpa14_2 M2 ⟨_, rfl, rfl⟩ rfl rfl) ?_);obtain ⟨c16, hc16⟩ := zY (a14 = a14_2);refine zV R3 (Val.eql_str hc16 rfl rfl) (zN ?_);obtain ⟨rfl, hc16, h⟩ | ⟨rfl, hc16, h⟩ := zI hc16 h
         ·refine zC rfl (zU rfl (zM R4 (zA R4 (zN (zR ?_)))));cases h;exact ⟨ret_ne, ⟨ret_ne, ⟨rfl, _, rfl, ⟨(), rfl, .refl⟩⟩⟩⟩
         refine zD rfl (zK (zT rfl ?_));obtain ⟨hk18, h⟩ := chk_some h;refine zV R3 (Val.add rfl rfl hk18) (zM R4 (zN ?_));cases h;exact ⟨rfl, (), (sb .refl)⟩
        refine zD rfl (zE ?_);cases h;exact ⟨ex_ne, ⟨rfl, (), (sb .refl)⟩⟩
       ·rintro _ _ h;refine zU rfl (zA R4 (zN (zR ?_)));cases h;exact ⟨rfl, _, rfl, ⟨(), rfl, .refl⟩⟩
      ·rintro y7 _ h;refine zG (_::_::C) rfl ?_;obtain ⟨c8, hc8⟩ := zY (y7 ≥ 0);refine zV R3 (Val.geq hc8 rfl rfl) (zA R4 (zN (zR ?_)));refine ⟨rfl, _, rfl, ?_⟩;refine zA R4 (zN ?_);obtain ⟨rfl, hc8, h⟩ | ⟨rfl, hc8, h⟩ := zI hc8 h
       ·refine zC rfl (zU rfl (zA R4 (zN (zR ?_))));cases h;exact ⟨rfl, _, rfl, ⟨(), rfl, .refl⟩⟩
       refine zD rfl (zK (zU rfl (zA R4 (zN (zR ?_)))));cases h;exact ⟨rfl, _, rfl, ⟨(), rfl, .refl⟩⟩
     refine zC rfl (zU rfl (zA R4 (zN (zR ?_))));cases h;exact ⟨rfl, _, rfl, ⟨(), rfl, .refl⟩⟩
    ·rintro y19 _ h;refine zG (_::_::C) rfl (zA R4 (zN (zU rfl (zM R4 ?_))));obtain ⟨c21, hc21⟩ := zY (¬ y19 = 0);refine zV R3 (Val.neq hc21 rfl rfl) (zN ?_);obtain ⟨rfl, hc21, h⟩ | ⟨rfl, hc21, h⟩ := zI hc21 h
     ·refine zC rfl (zU rfl (zM R4 (zM R4 (zA R4 (zA R4 (zN (zR ?_)))))));cases h;exact ⟨ret_ne, ⟨ret_ne, ⟨rfl, _, rfl, ⟨(), rfl, .refl⟩⟩⟩⟩
     refine zD rfl (zK (zT rfl ?_));obtain ⟨hk24, h⟩ := chk_some h;refine zV R3 (Val.add rfl rfl hk24) (zM R4 (zN ?_));cases h;exact ⟨rfl, (), (sb .refl)⟩
   refine zD rfl (zE ?_);cases h;exact ⟨ex_ne, ⟨rfl, (), (sb .refl)⟩⟩
  ·rintro _ _ h;refine zU rfl (zA R4 (zA R4 (zN (zR ?_))));cases h;exact ⟨rfl, _, rfl, ⟨(), rfl, .refl⟩⟩
 ·rintro ⟨y14, y14_2⟩ _ h;dsimp only at h;refine zG (_::_::C) rfl (zM R4 (zX R5 (zX R5 (zA R4 (zA R4 (zN (zS (zB (zU rfl (zM R4 ?_))))))))));obtain ⟨c19, hc19⟩ := zY (¬ y14_2 = 0);refine zV R3 (Val.neq hc19 rfl rfl) (zA R4 (zN ?_));obtain ⟨rfl, hc19, h⟩ | ⟨rfl, hc19, h⟩ := zI hc19 h
  ·refine zC rfl (zU rfl (zM R4 (zM R4 (zA R4 (zA R4 (zA R4 (zN (zR ?_))))))));cases h;exact ⟨rfl, _, rfl, ⟨(), rfl, (pk [98,98] rfl)⟩⟩
  refine zD rfl (zU rfl (zF 1 R6 (zL 1 R3 R6 (zV R3 (Val.len_l qJ M2 rfl rfl) (TO.build1 (en := encI) (a := (qE.length : Int)) rfl rfl rfl ⟨rfl, rfl⟩ ⟨_, rfl, rfl⟩ (by decide) (by decide) rfl rfl (fun v26=>?_))))));obtain ⟨y27, hr27, h⟩ := andx_some h;refine TO.callT (first := []) (cap := []) (vs := [iv (1), iv (4), v26]) rfl rfl rfl rfl rfl rfl (orcN rfl) (tf_s9_out aD (Rdl.mono (Rdl.own (C := ownL false v26 encI [(qE.length : Int)] :: ownL false v8 encI [(qF.length : Int)] :: .row b1 3 [qD, qC, qB] :: C) (p := 0) rfl) mem0) hr27) ?_;rintro _;refine zG (_::_::_::C) rfl (zA R4 (zN ?_));obtain ⟨rfl, h⟩ | ⟨rfl, h⟩ := zZ h
  ·refine zC rfl (zU rfl (zA R4 (zA R4 (zA R4 (zN (zR ?_))))));cases h;exact ⟨rfl, _, rfl, ⟨(), rfl, (pk [98,98,98] rfl)⟩⟩
  refine zD rfl (zK (zU rfl (zF 1 R6 (zL 2 R3 R6 ?_))));refine TO.callJ (W := Unit) (fun (j : Int × Int) (w : Unit) => .tuple [iv (j.1), iv (j.2)]) (fun (j : Int × Int) (w : Unit) => ownL false v26 encI [(qE.length : Int)] :: ownL false v8 encI [(qF.length : Int)] :: .row b1 3 [qD, qC, qB] :: C) h rfl rfl rfl rfl rfl rfl (orcN rfl) ?_ ?_
  ·intro j h;refine TF.enter (fn := Go.Proofs.Tryz.f67) rfl rfl rfl rfl rfl (zU rfl (zA R4 (zA R4 (zN ?_))))
   show T _ _ _ _ _ _;apply T.join (r := j) (W := Unit) (fun j w => ⟨[], [], ownL false v26 encI [(qE.length : Int)] :: ownL false v8 encI [(qF.length : Int)] :: .row b1 3 [qD, qC, qB] :: C⟩) h
   ·intro j h;refine zU rfl (zM R4 (zV R3 (Val.len_l qJ M3 rfl rfl) (zM R4 (zN (zB ?_)))))
    show T _ _ _ _ _ _;apply T.iter (r := j) (W := Unit) (fun j w => ⟨[], [(1, .func 68 [] []), (9, qC), (10, iv ((qE.length : Int))), (11, iv (j))], ownL false v26 encI [(qE.length : Int)] :: ownL false v8 encI [(qF.length : Int)] :: .row b1 3 [qD, qC, qB] :: C⟩) (w0 := ()) h
    ·exact (sb .refl)
    rintro x11 _ a h;unfold P_s9_Check_L3 at h;refine zU rfl ?_;obtain ⟨c12, hc12⟩ := zY (x11 < (qE.length : Int));refine zV R3 (Val.lss hc12 rfl rfl) (zN (zS ?_));obtain ⟨rfl, hc12, h⟩ | ⟨rfl, hc12, h⟩ := zI hc12 h
    ·refine zC rfl (zK (zS (zB (zU rfl (zM R4 ?_)))));obtain ⟨a14, hia14, ea14, h⟩ := el_some h;refine TO.fact (rdl_at qJ M3 hia14 ea14) (fun hp=>?_);obtain ⟨pa14, hpa14, hva14⟩ := hp;refine zV R3 (hva14 ⟨rfl, rfl⟩ rfl rfl) (zV R3 (Val.load_es (c := [_, _, _, _]) hpa14 M3 ⟨⟨_, rfl, rfl⟩, rfl, by decide⟩ rfl rfl rfl) (zJ 4 [_,_,_,_] R7 (fun b7=>zA R4 (TO.eff0 rfl rfl (Eff.store_row (p := 0) (cv := [_, _, _, _]) (cells' := [_, _, _, _]) rfl rfl rfl rfl rfl rfl rfl rfl aG (by decide) rfl) ?_))));rintro _ rfl;refine zG (_::_::_::_::C) rfl (zN (zU rfl (zM R4 (zM R4 (zV R3 (vW 0 [_,_,_,_] R5 R4) ?_)))));refine TO.callJ (W := Unit) (fun (j : Int) (w : Unit) => iv (j)) (fun (j : Int) (w : Unit) => .row b7 4 [iv (a14.away), iv (a14.climb), iv (a14.wide), iv (a14.high)] :: ownL false v26 encI [(qE.length : Int)] :: ownL false v8 encI [(qF.length : Int)] :: .row b1 3 [qD, qC, qB] :: C) h rfl rfl rfl rfl rfl rfl (orcN rfl) ?_ ?_
     ·intro j h;refine TF.enter (fn := Go.Proofs.Tryz.f68) rfl rfl rfl rfl rfl (zU rfl (zQ 4 [_,_,_,_] R7 (fun b3=>zA R4 (zN ?_))))
      show T _ _ _ _ _ _;apply T.join (r := j) (W := Unit) (fun j w => ⟨[], [], .row b3 4 [iv (a14.away), iv (a14.climb), iv (a14.wide), iv (a14.high)] :: .row b7 4 [iv (a14.away), iv (a14.climb), iv (a14.wide), iv (a14.high)] :: ownL false v26 encI [(qE.length : Int)] :: ownL false v8 encI [(qF.length : Int)] :: .row b1 3 [qD, qC, qB] :: C⟩) h
      ·intro j h
       show T _ _ _ _ _ _;apply T.joinA (r := j) (W := Unit) (fun j w => ⟨[], [(18, bv j)], .row b3 4 [iv (a14.away), iv (a14.climb), iv (a14.wide), iv (a14.high)] :: .row b7 4 [iv (a14.away), iv (a14.climb), iv (a14.wide), iv (a14.high)] :: ownL false v26 encI [(qE.length : Int)] :: ownL false v8 encI [(qF.length : Int)] :: .row b1 3 [qD, qC, qB] :: C⟩) h
       ·intro j h;refine zT rfl (zF 0 R6 (zL 0 R3 R6 (zF 1 R6 (zL 0 R3 R6 (TO.eff rfl rfl rfl (Eff.new (New.buildSlice (en := encI) (l := [a14.away, a14.climb]) (vs := [(_, _), (_, _)]) (ws := [(_, [_]), (_, [_])]) ⟨rfl, rfl⟩ rfl rfl rfl rfl (CellsL.cons rfl (CellsL.cons rfl CellsL.nil)) rfl rfl)) ?_)))));rintro _ _ ⟨v9, rfl, rfl⟩;refine TO.less (Less.rowOwn (en := encI) (l := [a14.away, a14.climb]) (p := 0) rfl) (zG (_::_::_::_::_::_::C) rfl ?_);obtain ⟨y10, hr10, h⟩ := andx_some h;refine TO.callT (first := []) (cap := []) (vs := [iv (0), iv (1000), (.slice v9 0 (List.flatMap encI.f [a14.away, a14.climb]).length true (List.length [a14.away, a14.climb]) (List.length [a14.away, a14.climb]))]) rfl rfl rfl rfl rfl rfl (orcN rfl) (tf_s9_out aD (Rdl.mono (Rdl.own (C := ownL false (.slice v9 0 (List.flatMap encI.f [a14.away, a14.climb]).length true (List.length [a14.away, a14.climb]) (List.length [a14.away, a14.climb])) encI [a14.away, a14.climb] :: .row b3 4 [iv (a14.away), iv (a14.climb), iv (a14.wide), iv (a14.high)] :: .row b7 4 [iv (a14.away), iv (a14.climb), iv (a14.wide), iv (a14.high)] :: ownL false v26 encI [(qE.length : Int)] :: ownL false v8 encI [(qF.length : Int)] :: .row b1 3 [qD, qC, qB] :: C) (p := 0) rfl) mem0) hr10) ?_;rintro _;refine zG (_::_::_::_::_::_::C) rfl (zM R4 ?_);obtain ⟨rfl, h⟩ | ⟨rfl, h⟩ := zZ h
        ·refine zO R3 (zO R3 (zO R3 (zO R3 (zO R3 (zO R3 (zP R6 (zN ?_)))))));cases h;exact ⟨rfl, (), (sb (pk [1,1,1,1,1,98] rfl))⟩
        refine zF 2 R6 (zL 1 R3 R6 (zF 3 R6 (zL 1 R3 R6 (TO.eff rfl rfl rfl (Eff.new (New.buildSlice (en := encI) (l := [a14.wide, a14.high]) (vs := [(_, _), (_, _)]) (ws := [(_, [_]), (_, [_])]) ⟨rfl, rfl⟩ rfl rfl rfl rfl (CellsL.cons rfl (CellsL.cons rfl CellsL.nil)) rfl rfl)) ?_))));rintro _ _ ⟨v16, rfl, rfl⟩;refine TO.less (Less.rowOwn (en := encI) (l := [a14.wide, a14.high]) (p := 0) rfl) (zG (_::_::_::_::_::_::_::C) rfl ?_);obtain ⟨y17, hr17, h⟩ := andx_some h;refine TO.callT (first := []) (cap := []) (vs := [iv (1), iv (2000), (.slice v16 0 (List.flatMap encI.f [a14.wide, a14.high]).length true (List.length [a14.wide, a14.high]) (List.length [a14.wide, a14.high]))]) rfl rfl rfl rfl rfl rfl (orcN rfl) (tf_s9_out aD (Rdl.mono (Rdl.own (C := ownL false (.slice v16 0 (List.flatMap encI.f [a14.wide, a14.high]).length true (List.length [a14.wide, a14.high]) (List.length [a14.wide, a14.high])) encI [a14.wide, a14.high] :: ownL false (.slice v9 0 (List.flatMap encI.f [a14.away, a14.climb]).length true (List.length [a14.away, a14.climb]) (List.length [a14.away, a14.climb])) encI [a14.away, a14.climb] :: .row b3 4 [iv (a14.away), iv (a14.climb), iv (a14.wide), iv (a14.high)] :: .row b7 4 [iv (a14.away), iv (a14.climb), iv (a14.wide), iv (a14.high)] :: ownL false v26 encI [(qE.length : Int)] :: ownL false v8 encI [(qF.length : Int)] :: .row b1 3 [qD, qC, qB] :: C) (p := 0) rfl) mem0) hr17) ?_;rintro _;refine zG (_::_::_::_::_::_::_::C) rfl (zP R6 (zN ?_));cases h;exact ⟨rfl, (), (sb (pk [2,2,2,2,2,98,98] rfl))⟩
       ·rintro x18 _ h;obtain ⟨rfl, h⟩ | ⟨rfl, h⟩ := zZ h
        ·refine zC rfl (zU rfl (zA R4 (zN (zR ?_))));cases h;exact ⟨ret_ne, ⟨rfl, _, rfl, ⟨(), rfl, (pk [1,1,1,1,98] rfl)⟩⟩⟩
        refine zD rfl (zK ?_);cases h;exact ⟨rfl, (), (sb .refl)⟩
      ·rintro _ _ h;refine zU rfl (zA R4 (zN (zR ?_)));cases h;exact ⟨rfl, _, rfl, ⟨(), rfl, (pk [1,1,1,1,98] rfl)⟩⟩
     ·rintro y19 _ h;refine zG (_::_::_::_::C) rfl (zA R4 (zN (zU rfl (zM R4 ?_))));obtain ⟨c21, hc21⟩ := zY (¬ y19 = 0);refine zV R3 (Val.neq hc21 rfl rfl) (zN ?_);obtain ⟨rfl, hc21, h⟩ | ⟨rfl, hc21, h⟩ := zI hc21 h
      ·refine zC rfl (zU rfl (zM R4 (zM R4 (zA R4 (zA R4 (zN (zR ?_)))))));cases h;exact ⟨ret_ne, ⟨ret_ne, ⟨rfl, _, rfl, ⟨(), rfl, (pk [1,1,1,98] rfl)⟩⟩⟩⟩
      refine zD rfl (zK (zT rfl ?_));obtain ⟨hk24, h⟩ := chk_some h;refine zV R3 (Val.add rfl rfl hk24) (zM R4 (zN ?_));cases h;exact ⟨rfl, (), (sb (pk [1,1,1,98] rfl))⟩
    refine zD rfl (zE ?_);cases h;exact ⟨ex_ne, ⟨rfl, (), (sb .refl)⟩⟩
   ·rintro _ _ h;refine zU rfl (zA R4 (zA R4 (zN (zR ?_))));cases h;exact ⟨rfl, _, rfl, ⟨(), rfl, .refl⟩⟩
  ·rintro ⟨y31, y31_2⟩ _ h;dsimp only at h;refine zG (_::_::_::C) rfl (zM R4 (zX R5 (zX R5 (zA R4 (zA R4 (zN (zS (zB (zU rfl (zM R4 ?_))))))))));obtain ⟨c36, hc36⟩ := zY (¬ y31_2 = 0);refine zV R3 (Val.neq hc36 rfl rfl) (zA R4 (zN ?_));obtain ⟨rfl, hc36, h⟩ | ⟨rfl, hc36, h⟩ := zI hc36 h
   ·refine zC rfl (zU rfl (zM R4 (zM R4 (zA R4 (zA R4 (zA R4 (zN (zR ?_))))))));cases h;exact ⟨rfl, _, rfl, ⟨(), rfl, (pk [98,98,98] rfl)⟩⟩
   refine zD rfl (zU rfl (zF 2 R6 (zL 2 R3 R6 (zV R3 (Val.len_l qI M3 rfl rfl) ?_))));obtain ⟨c43, hc43⟩ := zY ((qG.length : Int) > 10);refine zV R3 (Val.gtr hc43 rfl rfl) (zA R4 (zN ?_));obtain ⟨rfl, hc43, h⟩ | ⟨rfl, hc43, h⟩ := zI hc43 h
   ·refine zC rfl (zU rfl (zA R4 (zA R4 (zA R4 (zN (zR ?_))))));cases h;exact ⟨rfl, _, rfl, ⟨(), rfl, (pk [98,98,98] rfl)⟩⟩
   refine zD rfl (zK (zU rfl (zF 2 R6 (zL 2 R3 R6 (zV R3 (Val.makeFunc rfl rfl) ?_)))));refine TO.callJ (W := Unit) (fun (j : Int × Int) (w : Unit) => .tuple [iv (j.1), iv (j.2)]) (fun (j : Int × Int) (w : Unit) => ownL false v26 encI [(qE.length : Int)] :: ownL false v8 encI [(qF.length : Int)] :: .row b1 3 [qD, qC, qB] :: C) h rfl rfl rfl rfl rfl rfl (orcN rfl) ?_ ?_
   ·intro j h;refine TF.enter (fn := Go.Proofs.Tryz.f69) rfl rfl rfl rfl rfl (zU rfl (zA R4 (zA R4 (zN ?_))))
    show T _ _ _ _ _ _;apply T.join (r := j) (W := Unit) (fun j w => ⟨[], [], ownL false v26 encI [(qE.length : Int)] :: ownL false v8 encI [(qF.length : Int)] :: .row b1 3 [qD, qC, qB] :: C⟩) h
    ·intro j h;refine zU rfl (zM R4 (zV R3 (Val.len_l qI M3 rfl rfl) (zM R4 (zN (zB ?_)))))
     show T _ _ _ _ _ _;apply T.iter (r := j) (W := Unit) (fun j w => ⟨[], [(1, .func 70 [] [.ptr b1 0 3]), (9, qB), (10, iv ((qG.length : Int))), (11, iv (j))], ownL false v26 encI [(qE.length : Int)] :: ownL false v8 encI [(qF.length : Int)] :: .row b1 3 [qD, qC, qB] :: C⟩) (w0 := ()) h
     ·exact (sb .refl)
     rintro x11 _ a h;unfold P_s9_Check_L4 at h;refine zU rfl ?_;obtain ⟨c12, hc12⟩ := zY (x11 < (qG.length : Int));refine zV R3 (Val.lss hc12 rfl rfl) (zN (zS ?_));obtain ⟨rfl, hc12, h⟩ | ⟨rfl, hc12, h⟩ := zI hc12 h
     ·refine zC rfl (zK (zS (zB (zU rfl (zM R4 ?_)))));obtain ⟨a14, hia14, ea14, h⟩ := el_some h;refine TO.fact (rdl_at qI M3 hia14 ea14) (fun hp=>?_);obtain ⟨pa14, hpa14, hva14⟩ := hp;refine zV R3 (hva14 ⟨rfl, rfl⟩ rfl rfl) (zV R3 (Val.load_es (c := [_, _, _, _, _, _, _]) hpa14 M3 ⟨⟨_, rfl, rfl⟩, rfl, by decide⟩ rfl rfl rfl) (zJ 7 [_,_,_,_,_,_,_] R7 (fun b7=>zA R4 (TO.eff0 rfl rfl (Eff.store_row (p := 0) (cv := [_, _, _, _, _, _, _]) (cells' := [_, _, _, _, _, _, _]) rfl rfl rfl rfl rfl rfl rfl rfl aG (by decide) rfl) ?_))));rintro _ rfl;refine zG (_::_::_::_::C) rfl (zN (zU rfl (zM R4 (zM R4 (zV R3 (vW 0 [_,_,_,_,_,_,_] R5 R4) ?_)))));refine TO.callJ (W := Unit) (fun (j : Int) (w : Unit) => iv (j)) (fun (j : Int) (w : Unit) => .row b7 7 [iv (a14.qR), iv (a14.qS), sv a14.qT, iv (a14.wide), iv (a14.high), iv (a14.heavy), iv (a14.shelf)] :: ownL false v26 encI [(qE.length : Int)] :: ownL false v8 encI [(qF.length : Int)] :: .row b1 3 [qD, qC, qB] :: C) h rfl rfl rfl rfl rfl rfl (orcN rfl) ?_ ?_
      ·intro j h;refine TF.enter (fn := Go.Proofs.Tryz.f70) rfl rfl rfl rfl rfl (zU rfl (zQ 7 [_,_,_,_,_,_,_] R7 (fun b4=>zA R4 (zN (zS (T.drawE (l1 := [0, 1, 2, 3, 4, 5, 6]) (l2 := [7, 8]) (by kernel_rfl) (by kernel_rfl) (yR R4 (vW 4 [_,_,_] R5 R4) (yL R4 (Val.buildC (cs := [_, _, _]) (vs := [(_, _)]) (ws := [(_, [_, _, _])]) rfl rfl (CellsL.cons rfl CellsL.nil) rfl) (yR R4 (vW 0 [_,_,_,_,_,_,_] R5 R4) (yL R4 (Val.faddr_ptr (fo := 2) rfl rfl rfl) (yR R4 (vR (p := 4) R6) (yL R4 (Val.move rfl) ?_))))))))))));obtain ⟨hk13, h⟩ := chk_some h;obtain ⟨w13, htw13, hgw13, hvw13⟩ := slice_T qX hk13
       have hw13 : Rdl C qN w13 (List.take (x11 - (0 : Int)).toNat (List.drop ((0 : Int) : Int).toNat qG)) := RdT.rdl htw13;refine yR R4 (hvw13 ⟨rfl, rfl⟩ rfl .no (.some rfl)) (TD1.over (fun v => sameC_refl v) (all_cons (⟨_, rfl, (hvw13 ⟨rfl, rfl⟩ rfl .no (.some rfl))⟩) (all_cons (⟨_, rfl, (vR (p := 4) R6)⟩) (all_cons (⟨_, rfl, (vW 0 [_,_,_,_,_,_,_] R5 R4)⟩) (all_cons (⟨_, rfl, (vW 4 [_,_,_] R5 R4)⟩) all_nil)))) ?_);obtain ⟨y14_3, hr14, h⟩ := andx_some h;refine TD2.heavy (fun v => sameC_refl v) rfl (by decide) rfl rfl (OpS.callV rfl rfl rfl rfl (orcN rfl) (RepF.conv (tf_s9_book aD (Rdl.mono qK M5) (Rdl.mono qJ M5) (Rdl.mono qI M5) (Rdl.mono hw13 M5) hr14))) ?_;rintro _ hs_ ⟨_, rfl, he_⟩;subst hs_;refine ⟨(all_cons (.inl (by kernel_rfl)) (all_cons (.inl (by kernel_rfl)) (all_cons (.inl (by kernel_rfl)) (all_cons (.inl (by kernel_rfl)) all_nil)))), all_nil, ?_⟩;refine yG (_::_::_::_::_::C) rfl (yM R4 (Val.assign rfl) (TD2.nil ?_))
       show T _ _ _ _ _ _;apply T.join (r := j) (W := Unit) (fun j w => ⟨[], [], .row b4 7 [iv (a14.qR), iv (a14.qS), sv a14.qT, iv (a14.wide), iv (a14.high), iv (a14.heavy), iv (a14.shelf)] :: .row b7 7 [iv (a14.qR), iv (a14.qS), sv a14.qT, iv (a14.wide), iv (a14.high), iv (a14.heavy), iv (a14.shelf)] :: ownL false v26 encI [(qE.length : Int)] :: ownL false v8 encI [(qF.length : Int)] :: .row b1 3 [qD, qC, qB] :: C⟩) h
       ·intro j h;refine zB (zU rfl (zM R4 ?_));obtain ⟨c17, hc17⟩ := zY (¬ y14_3 = 0);refine zV R3 (Val.neq hc17 rfl rfl) (zA R4 (zN ?_));obtain ⟨rfl, hc17, h⟩ | ⟨rfl, hc17, h⟩ := zI hc17 h
        ·refine zC rfl (zU rfl (zM R4 (zA R4 (zN (zR ?_)))));cases h;exact ⟨ret_ne, ⟨rfl, _, rfl, ⟨(), rfl, (pk [1,1,1,1,98] rfl)⟩⟩⟩
        refine zD rfl (zU rfl (zF 1 R6 (zL 4 R3 R6 (zV R3 (Val.len_l qJ M5 rfl rfl) ?_))));obtain ⟨hk23, h⟩ := chk_some h;refine zV R3 (Val.sub rfl rfl hk23) (zF 6 R6 (zL 0 R3 R6 (TO.build1 (en := encI) (a := a14.shelf) rfl rfl rfl ⟨rfl, rfl⟩ ⟨_, rfl, rfl⟩ (by decide) (by decide) rfl rfl (fun v26_2=>?_))));obtain ⟨y27_2, hr27_2, h⟩ := andx_some h;refine TO.callT (first := []) (cap := []) (vs := [iv (0), iv (((qE.length : Int) - 1)), v26_2]) rfl rfl rfl rfl rfl rfl (orcN rfl) (tf_s9_out aD (Rdl.mono (Rdl.own (C := ownL false v26_2 encI [a14.shelf] :: .row b4 7 [iv (a14.qR), iv (a14.qS), sv a14.qT, iv (a14.wide), iv (a14.high), iv (a14.heavy), iv (a14.shelf)] :: .row b7 7 [iv (a14.qR), iv (a14.qS), sv a14.qT, iv (a14.wide), iv (a14.high), iv (a14.heavy), iv (a14.shelf)] :: ownL false v26 encI [(qE.length : Int)] :: ownL false v8 encI [(qF.length : Int)] :: .row b1 3 [qD, qC, qB] :: C) (p := 0) rfl) mem0) hr27_2) ?_;rintro _;refine zG (_::_::_::_::_::_::C) rfl (zA R4 (zN ?_));obtain ⟨rfl, h⟩ | ⟨rfl, h⟩ := zZ h
        ·refine zC rfl (zU rfl (zA R4 (zN (zR ?_))));cases h;exact ⟨ret_ne, ⟨rfl, _, rfl, ⟨(), rfl, (pk [2,2,2,2,98,98] rfl)⟩⟩⟩
        refine zD rfl ?_
        show T _ _ _ _ _ _;apply T.joinA (r := j) (W := Unit) (fun j w => ⟨[], [(28, bv j)], ownL false v26_2 encI [a14.shelf] :: .row b4 7 [iv (a14.qR), iv (a14.qS), sv a14.qT, iv (a14.wide), iv (a14.high), iv (a14.heavy), iv (a14.shelf)] :: .row b7 7 [iv (a14.qR), iv (a14.qS), sv a14.qT, iv (a14.wide), iv (a14.high), iv (a14.heavy), iv (a14.shelf)] :: ownL false v26 encI [(qE.length : Int)] :: ownL false v8 encI [(qF.length : Int)] :: .row b1 3 [qD, qC, qB] :: C⟩) h
        ·intro j h;refine T.draw (fun v => sameC_refl v) (l1 := [0, 1, 2, 3, 4, 5, 6, 7, 8, 9, 10, 11, 12, 13, 14]) (l2 := []) (by kernel_rfl) (by kernel_rfl) (zM R4 ?_);obtain ⟨c30, hc30⟩ := zY (x11 > 0);refine zV R3 (Val.gtr hc30 rfl rfl) (zM R4 ?_);obtain ⟨rfl, hc30, h⟩ | ⟨rfl, hc30, h⟩ := zI hc30 h
         ·refine zF 6 R6 (zL 1 R3 R6 (zF 2 R6 (zL 5 R3 R6 (zM R4 ?_))));obtain ⟨hk37, h⟩ := chk_some h;refine zV R3 (Val.sub rfl rfl hk37) ?_;obtain ⟨a38, hia38, ea38, h⟩ := el_some h;refine TO.fact (rdl_at qI M6 hia38 ea38) (fun hp=>?_);obtain ⟨pa38, hpa38, hva38⟩ := hp;refine zV R3 (hva38 ⟨rfl, rfl⟩ rfl rfl) (zV R3 (Val.faddr_e (fo := 6) hpa38 rfl rfl rfl) (zV R3 (Val.load_e (PtE.add hpa38 (by decide)) M6 ⟨_, rfl, rfl⟩ rfl rfl) ?_));obtain ⟨c41, hc41⟩ := zY (a14.shelf < a38.shelf);refine zV R3 (Val.lss hc41 rfl rfl) (zP R6 (zA R4 (zN ?_)));subst hc41;cases h;exact ⟨rfl, (), (sb .refl)⟩
         refine zO R3 (zO R3 (zO R3 (zO R3 (zO R3 (zO R3 (zO R3 (zO R3 (zO R3 (zO R3 (zP R6 (zA R4 (zN ?_))))))))))));cases h;exact ⟨rfl, (), (sb .refl)⟩
        ·rintro x28 _ h;obtain ⟨rfl, h⟩ | ⟨rfl, h⟩ := zZ h
         ·refine zC rfl (zU rfl (zA R4 (zN (zR ?_))));cases h;exact ⟨ret_ne, ⟨rfl, _, rfl, ⟨(), rfl, (pk [2,2,2,2,98,98] rfl)⟩⟩⟩
         refine zD rfl (zK ?_);cases h;exact ⟨rfl, (), (sb (pk [1,1,1,1,1,98] rfl))⟩
       ·rintro _ _ h;refine zU rfl (zA R4 (zN (zR ?_)));cases h;exact ⟨rfl, _, rfl, ⟨(), rfl, (pk [1,1,1,1,98] rfl)⟩⟩
      ·rintro y19 _ h;refine zG (_::_::_::_::C) rfl (zA R4 (zN (zU rfl (zM R4 ?_))));obtain ⟨c21, hc21⟩ := zY (¬ y19 = 0);refine zV R3 (Val.neq hc21 rfl rfl) (zN ?_);obtain ⟨rfl, hc21, h⟩ | ⟨rfl, hc21, h⟩ := zI hc21 h
       ·refine zC rfl (zU rfl (zM R4 (zM R4 (zA R4 (zA R4 (zN (zR ?_)))))));cases h;exact ⟨ret_ne, ⟨ret_ne, ⟨rfl, _, rfl, ⟨(), rfl, (pk [1,1,1,98] rfl)⟩⟩⟩⟩
       refine zD rfl (zK (zT rfl ?_));obtain ⟨hk24, h⟩ := chk_some h;refine zV R3 (Val.add rfl rfl hk24) (zM R4 (zN ?_));cases h;exact ⟨rfl, (), (sb (pk [1,1,1,98] rfl))⟩
     refine zD rfl (zE ?_);cases h;exact ⟨ex_ne, ⟨rfl, (), (sb .refl)⟩⟩
    ·rintro _ _ h;refine zU rfl (zA R4 (zA R4 (zN (zR ?_))));cases h;exact ⟨rfl, _, rfl, ⟨(), rfl, .refl⟩⟩
   ·rintro ⟨y48, y48_2⟩ _ h;dsimp only at h;refine zG (_::_::_::C) rfl (zM R4 (zX R5 (zX R5 (zA R4 (zA R4 (zN (zS (zU rfl (zM R4 ?_)))))))));obtain ⟨c52, hc52⟩ := zY (¬ y48_2 = 0);refine zV R3 (Val.neq hc52 rfl rfl) (zN ?_);obtain ⟨rfl, hc52, h⟩ | ⟨rfl, hc52, h⟩ := zI hc52 h
    ·refine zC rfl (zU rfl (zM R4 (zM R4 (zA R4 (zA R4 (zA R4 (zN (zR ?_))))))));cases h;exact ⟨rfl, _, rfl, ⟨(), rfl, (pk [98,98,98] rfl)⟩⟩
    refine zD rfl (zK (zU rfl (zF 1 R6 (zL 2 R3 R6 (zV R3 (Val.makeFunc rfl rfl) ?_)))));refine TO.callJ (W := Unit) (fun (j : Int × Int) (w : Unit) => .tuple [iv (j.1), iv (j.2)]) (fun (j : Int × Int) (w : Unit) => ownL false v26 encI [(qE.length : Int)] :: ownL false v8 encI [(qF.length : Int)] :: .row b1 3 [qD, qC, qB] :: C) h rfl rfl rfl rfl rfl rfl (orcN rfl) ?_ ?_
    ·intro j h;refine TF.enter (fn := Go.Proofs.Tryz.f67) rfl rfl rfl rfl rfl (zU rfl (zA R4 (zA R4 (zN ?_))))
     show T _ _ _ _ _ _;apply T.join (r := j) (W := Unit) (fun j w => ⟨[], [], ownL false v26 encI [(qE.length : Int)] :: ownL false v8 encI [(qF.length : Int)] :: .row b1 3 [qD, qC, qB] :: C⟩) h
     ·intro j h;refine zU rfl (zM R4 (zV R3 (Val.len_l qJ M3 rfl rfl) (zM R4 (zN (zB ?_)))))
      show T _ _ _ _ _ _;apply T.iter (r := j) (W := Unit) (fun j w => ⟨[], [(1, .func 72 [] [.ptr b1 0 3]), (9, qC), (10, iv ((qE.length : Int))), (11, iv (j))], ownL false v26 encI [(qE.length : Int)] :: ownL false v8 encI [(qF.length : Int)] :: .row b1 3 [qD, qC, qB] :: C⟩) (w0 := ()) h
      ·exact (sb .refl)
      rintro x11 _ a h;unfold P_s9_Check_L5 at h;refine zU rfl ?_;obtain ⟨c12, hc12⟩ := zY (x11 < (qE.length : Int));refine zV R3 (Val.lss hc12 rfl rfl) (zN (zS ?_));obtain ⟨rfl, hc12, h⟩ | ⟨rfl, hc12, h⟩ := zI hc12 h
      ·refine zC rfl (zK (zS (zB (zU rfl (zM R4 ?_)))));obtain ⟨a14, hia14, ea14, h⟩ := el_some h;refine TO.fact (rdl_at qJ M3 hia14 ea14) (fun hp=>?_);obtain ⟨pa14, hpa14, hva14⟩ := hp;refine zV R3 (hva14 ⟨rfl, rfl⟩ rfl rfl) (zV R3 (Val.load_es (c := [_, _, _, _]) hpa14 M3 ⟨⟨_, rfl, rfl⟩, rfl, by decide⟩ rfl rfl rfl) (zJ 4 [_,_,_,_] R7 (fun b7=>zA R4 (TO.eff0 rfl rfl (Eff.store_row (p := 0) (cv := [_, _, _, _]) (cells' := [_, _, _, _]) rfl rfl rfl rfl rfl rfl rfl rfl aG (by decide) rfl) ?_))));rintro _ rfl;refine zG (_::_::_::_::C) rfl (zN (zU rfl (zM R4 (zM R4 (zV R3 (vW 0 [_,_,_,_] R5 R4) ?_)))));refine TO.callJ (W := Unit) (fun (j : Int) (w : Unit) => iv (j)) (fun (j : Int) (w : Unit) => .row b7 4 [iv (a14.away), iv (a14.climb), iv (a14.wide), iv (a14.high)] :: ownL false v26 encI [(qE.length : Int)] :: ownL false v8 encI [(qF.length : Int)] :: .row b1 3 [qD, qC, qB] :: C) h rfl rfl rfl rfl rfl rfl (orcN rfl) ?_ ?_
       ·intro j h;refine TF.enter (fn := Go.Proofs.Tryz.f72) rfl rfl rfl rfl rfl (zU rfl (zQ 4 [_,_,_,_] R7 (fun b4=>zA R4 (zN ?_))))
        show T _ _ _ _ _ _;apply T.join (r := j) (W := Unit) (fun j w => ⟨[], [], .row b4 4 [iv (a14.away), iv (a14.climb), iv (j), iv (a14.high)] :: .row b7 4 [iv (a14.away), iv (a14.climb), iv (a14.wide), iv (a14.high)] :: ownL false v26 encI [(qE.length : Int)] :: ownL false v8 encI [(qF.length : Int)] :: .row b1 3 [qD, qC, qB] :: C⟩) h
        ·intro j h;refine zU rfl (zF 2 R6 (zL 4 R3 R6 (zV R3 (Val.len_l qI M5 rfl rfl) (zM R4 (zN (zB ?_))))))
         show T _ _ _ _ _ _;apply T.iter (r := j) (W := Unit) (fun j w => ⟨[], [(0, iv (x11)), (4, .ptr b4 0 4), (9, qB), (10, iv ((qG.length : Int))), (11, iv (j.1))], .row b4 4 [iv (a14.away), iv (a14.climb), iv (j.2), iv (a14.high)] :: .row b7 4 [iv (a14.away), iv (a14.climb), iv (a14.wide), iv (a14.high)] :: ownL false v26 encI [(qE.length : Int)] :: ownL false v8 encI [(qF.length : Int)] :: .row b1 3 [qD, qC, qB] :: C⟩) (w0 := ()) h
         ·exact (sb .refl)
         rintro ⟨x11_2, s_Wide⟩ _ a h;unfold P_s9_Check_L6 at h;dsimp only at h;dsimp only;refine zU rfl ?_;obtain ⟨c12_2, hc12_2⟩ := zY (x11_2 < (qG.length : Int));refine zV R3 (Val.lss hc12_2 rfl rfl) (zN (zS ?_));obtain ⟨rfl, hc12_2, h⟩ | ⟨rfl, hc12_2, h⟩ := zI hc12_2 h
         ·refine zC rfl (zK ?_)
          show T _ _ _ _ _ _;apply T.join (r := a) (W := Unit) (fun j w => ⟨[], [(0, iv (x11)), (4, .ptr b4 0 4), (9, qB), (10, iv ((qG.length : Int))), (11, iv (x11_2))], .row b4 4 [iv (a14.away), iv (a14.climb), iv (j), iv (a14.high)] :: .row b7 4 [iv (a14.away), iv (a14.climb), iv (a14.wide), iv (a14.high)] :: ownL false v26 encI [(qE.length : Int)] :: ownL false v8 encI [(qF.length : Int)] :: .row b1 3 [qD, qC, qB] :: C⟩) h
          ·intro j h;refine zB (zU rfl ?_);obtain ⟨a13, hia13, ea13, h⟩ := el_some h;refine TO.fact (rdl_at qI M5 hia13 ea13) (fun hp=>?_);obtain ⟨pa13, hpa13, hva13⟩ := hp;refine zV R3 (hva13 ⟨rfl, rfl⟩ rfl rfl) (zV R3 (Val.load_es (c := [_, _, _, _, _, _, _]) hpa13 M5 ⟨⟨_, rfl, rfl⟩, rfl, by decide⟩ rfl rfl rfl) (zJ 7 [_,_,_,_,_,_,_] R7 (fun b7_2=>TO.eff0 rfl rfl (Eff.store_row (p := 0) (cv := [_, _, _, _, _, _, _]) (cells' := [_, _, _, _, _, _, _]) rfl rfl rfl rfl rfl rfl rfl rfl aG (by decide) rfl) ?_)));rintro _ rfl;refine zG (_::_::_::_::_::_::C) rfl (zN (zS (zU rfl (zF 6 R6 (zL 0 R3 R6 (zM R4 ?_))))));obtain ⟨c18, hc18⟩ := zY (¬ a13.shelf = x11);refine zV R3 (Val.neq hc18 rfl rfl) (zN ?_);obtain ⟨rfl, hc18, h⟩ | ⟨rfl, hc18, h⟩ := zI hc18 h
           ·refine zC rfl (zE ?_);cases h;exact ⟨rfl, (), (sb (pk [1,1,1,1,1,98] rfl))⟩
           refine zD rfl (zK (zU rfl (zF 2 R6 (zL 1 R3 R6 (zF 3 R6 (zL 0 R3 R6 ?_))))));obtain ⟨hk23, h⟩ := chk_some h;refine zV R3 (Val.sub rfl rfl hk23) (zF 2 R6 (TO.eff0 rfl rfl (Eff.store_row (p := 1) (cv := [_]) (cells' := [_, _, _, _]) rfl rfl rfl rfl rfl rfl rfl rfl aG (by decide) rfl) ?_));rintro _ rfl;refine zG (_::_::_::_::_::_::C) rfl (zN ?_)
           show T _ _ _ _ _ _;apply T.joinA (r := j) (W := Unit) (fun j w => ⟨[], [(0, iv (x11)), (4, .ptr b4 0 4), (9, qB), (10, iv ((qG.length : Int))), (11, iv (x11_2)), (34, bv j)], .row b7_2 7 [iv (a13.qR), iv (a13.qS), sv a13.qT, iv (a13.wide), iv (a13.high), iv (a13.heavy), iv (a13.shelf)] :: .row b4 4 [iv (a14.away), iv (a14.climb), iv ((s_Wide - a13.wide)), iv (a14.high)] :: .row b7 4 [iv (a14.away), iv (a14.climb), iv (a14.wide), iv (a14.high)] :: ownL false v26 encI [(qE.length : Int)] :: ownL false v8 encI [(qF.length : Int)] :: .row b1 3 [qD, qC, qB] :: C⟩) h
           ·intro j h;refine zT rfl (zF 2 R6 (zL 1 R3 R6 ?_));obtain ⟨c27, hc27⟩ := zY ((s_Wide - a13.wide) < 0);refine zV R3 (Val.lss hc27 rfl rfl) (zM R4 ?_);obtain ⟨rfl, hc27, h⟩ | ⟨rfl, hc27, h⟩ := zI hc27 h
            ·refine zO R3 (zO R3 (zO R3 (zO R3 (zO R3 (zP R6 (zN ?_))))));cases h;exact ⟨rfl, (), (sb .refl)⟩
            refine zF 4 R6 (zL 0 R3 R6 (zF 3 R6 (zL 1 R3 R6 ?_)));obtain ⟨c33, hc33⟩ := zY (a13.high > a14.high);refine zV R3 (Val.gtr hc33 rfl rfl) (zP R6 (zN ?_));subst hc33;cases h;exact ⟨rfl, (), (sb .refl)⟩
           ·rintro x34 _ h;obtain ⟨rfl, h⟩ | ⟨rfl, h⟩ := zZ h
            ·refine zC rfl (zU rfl (zA R4 (zN (zR ?_))));cases h;exact ⟨ret_ne, ⟨ret_ne, ⟨ret_ne, ⟨rfl, _, rfl, ⟨(), rfl, (pk [2,2,2,2,98,98] rfl)⟩⟩⟩⟩⟩
            refine zD rfl (zK ?_);cases h;exact ⟨rfl, (), (sb (pk [1,1,1,1,1,98] rfl))⟩
          ·rintro s_Wide_2 _ h;refine zT rfl ?_;obtain ⟨hk35, h⟩ := chk_some h;refine zV R3 (Val.add rfl rfl hk35) (zM R4 (zN ?_));cases h;exact ⟨rfl, (), (sb .refl)⟩
         refine zD rfl (zE ?_);cases h;exact ⟨ex_ne, ⟨rfl, (), (sb .refl)⟩⟩
        ·rintro s_Wide _ h;refine zU rfl (zA R4 (zN (zR ?_)));cases h;exact ⟨rfl, _, rfl, ⟨(), rfl, (pk [1,1,1,1,98] rfl)⟩⟩
       ·rintro y19 _ h;refine zG (_::_::_::_::C) rfl (zA R4 (zN (zU rfl (zM R4 ?_))));obtain ⟨c21, hc21⟩ := zY (¬ y19 = 0);refine zV R3 (Val.neq hc21 rfl rfl) (zN ?_);obtain ⟨rfl, hc21, h⟩ | ⟨rfl, hc21, h⟩ := zI hc21 h
        ·refine zC rfl (zU rfl (zM R4 (zM R4 (zA R4 (zA R4 (zN (zR ?_)))))));cases h;exact ⟨ret_ne, ⟨ret_ne, ⟨rfl, _, rfl, ⟨(), rfl, (pk [1,1,1,98] rfl)⟩⟩⟩⟩
        refine zD rfl (zK (zT rfl ?_));obtain ⟨hk24, h⟩ := chk_some h;refine zV R3 (Val.add rfl rfl hk24) (zM R4 (zN ?_));cases h;exact ⟨rfl, (), (sb (pk [1,1,1,98] rfl))⟩
      refine zD rfl (zE ?_);cases h;exact ⟨ex_ne, ⟨rfl, (), (sb .refl)⟩⟩
     ·rintro _ _ h;refine zU rfl (zA R4 (zA R4 (zN (zR ?_))));cases h;exact ⟨rfl, _, rfl, ⟨(), rfl, .refl⟩⟩
    ·rintro ⟨y59, y59_2⟩ _ h;dsimp only at h;refine zG (_::_::_::C) rfl (zM R4 (zX R5 (zX R5 (zA R4 (zA R4 (zN (zS (zU rfl (zM R4 ?_)))))))));obtain ⟨c63, hc63⟩ := zY (¬ y59_2 = 0);refine zV R3 (Val.neq hc63 rfl rfl) (zN ?_);obtain ⟨rfl, hc63, h⟩ | ⟨rfl, hc63, h⟩ := zI hc63 h
     ·refine zC rfl (zU rfl (zM R4 (zM R4 (zA R4 (zA R4 (zA R4 (zN (zR ?_))))))));cases h;exact ⟨rfl, _, rfl, ⟨(), rfl, (pk [98,98,98] rfl)⟩⟩
     refine zD rfl (zK (zU rfl (zA R4 (zA R4 (zA R4 (zN (zR ?_)))))));cases h;exact ⟨rfl, _, rfl, ⟨(), rfl, (pk [98,98,98] rfl)⟩⟩
theorem w_s9_Check (qF : GS encStr) (qE : GS qU) (qG : GS qN) (r : Int × Int × Int) (h : P_s9_Check qF.l qE.l qG.l = some r) : Comes (EL 0) 16 [.agg [qF.v, qE.v, qG.v]] (.tuple [iv r.1, iv r.2.1, iv r.2.2]) :=
 TF.run (tf_s9_Check (Nat.le_refl _) (RdT.gs qF) (RdT.gs qE) (RdT.gs qG) h) fun w => (.tuple (.cons .lit (.cons .lit (.cons .lit .nil))))
set_option maxRecDepth 10000 in
theorem tf_s9_open {k : Nat} (hk : 1 ≤ k) {C : List Thing} {qD : AV} {qF : List Str} {qC : AV} {qE : List qH} {qB : AV} {qG : List qA} (qK : Rdl C encStr qD qF) (qJ : Rdl C qU qC qE) (qI : Rdl C qN qB qG) {r : Int} (h : P_s9_open qF qE qG = some r) :
  TF (EL k) 77 [.agg [qD, qC, qB]] C (RepF (fun (w : Unit) => .tuple [.agg [qD, qC, qB], iv r]) (fun (w : Unit) => C)) := by
 unfold P_s9_open at h;refine TF.enterG (fn := Go.Proofs.Tryz.f77) rfl rfl rfl rfl rfl (zU rfl (zQ 3 [_,_,_] R7 (fun b1=>zJ 3 [_,_,_] R7 (fun b2=>zA R4 (zN (zU rfl (zV R3 (vW 1 [_,_,_] R5 R4) ?_)))))));obtain ⟨⟨y9, y9_2, y9_3⟩, hr9, h⟩ := andx_some h;dsimp only at h;obtain ⟨g, hgg, hrg⟩ := Rdl.reif (hs := .row b2 3 [nilS, nilS, nilS] :: .row b1 3 [qD, qC, qB] :: C) qK M2 (ReifL.flat encStr_tr);obtain ⟨g_2, hgg_2, hrg_2⟩ := Rdl.reif (hs := .row b2 3 [nilS, nilS, nilS] :: .row b1 3 [qD, qC, qB] :: C) qJ M2 (ReifL.flat qAb);obtain ⟨g_3, hgg_3, hrg_3⟩ := Rdl.reif (hs := .row b2 3 [nilS, nilS, nilS] :: .row b1 3 [qD, qC, qB] :: C) qI M2 (ReifL.flat qAa);refine TO.call rfl rfl rfl rfl rfl (orcL rfl aD) (.cons (.agg (.cons (hrg _) (.cons (hrg_2 _) (.cons (hrg_3 _) .nil)))) .nil) (sem_of (w_s9_Check g g_2 g_3 _ (by try rw [hgg]; try rw [hgg_2]; try rw [hgg_3]; exact hr9))) (zM R4 (zX R5 (zX R5 (zX R5 (zA R4 (zA R4 (zA R4 (zN (zU rfl (zV R3 (vW 1 [_,_,_] R5 R4) (zV R3 (Val.buildC (cs := [_, _, _]) (vs := [(_, _)]) (ws := [(_, [_, _, _])]) rfl rfl (CellsL.cons rfl CellsL.nil) rfl) (zM R4 (TO.fact (rdl_cellS qK M2) (fun qAd=>TO.fact (rdl_cellS qJ M2) (fun qAe=>TO.fact (rdl_cellS qI M2) (fun qAc=>TO.eff0 rfl rfl (Eff.store_row (p := 0) (cv := [_, _, _]) (cells' := [_, _, _]) rfl rfl rfl rfl rfl rfl rfl rfl (by first | rfl | (simp [GS.one, qAd.2, qAe.2, qAc.2]; done) | (simp [GS.one, qAd.2, qAe.2, qAc.2]; (repeat' apply And.intro) <;> rfl)) (by decide) rfl) ?_))))))))))))))));rintro _ rfl;refine zG (_::_::C) rfl (zA R4 (zN (zR ?_)));cases h;exact ⟨rfl, _, rfl, [_, _], ⟨⟨_, rfl, LoadR.rows (p := 0) (c := [_, _, _]) rfl ⟨⟨_, rfl, rfl⟩, rfl, by decide⟩ rfl rfl rfl⟩, ⟨rfl, trivial⟩⟩, ⟨(), rfl, (pk [98,98] rfl)⟩⟩
set_option maxRecDepth 10000 in
theorem tf_law9_valid {k : Nat} (hk : 1 ≤ k) {C : List Thing} {qD : AV} {qF : List Str} {qC : AV} {qE : List qH} {qB : AV} {qG : List qA} (qK : Rdl C encStr qD qF) (qJ : Rdl C qU qC qE) (qI : Rdl C qN qB qG) {r : Bool} (h : P_law9_valid qF qE qG = some r) :
  TF (EL k) 43 [.agg [qD, qC, qB]] C (RepF (fun (w : Unit) => bv r) (fun (w : Unit) => C)) := by
 unfold P_law9_valid at h;refine TF.enter (fn := Go.Proofs.Tryz.f43) rfl rfl rfl rfl rfl (zU rfl (zQ 3 [_,_,_] R7 (fun b1=>zA R4 (zN (zU rfl (zV R3 (vW 0 [_,_,_] R5 R4) ?_))))));obtain ⟨⟨y8, y8_2, y8_3⟩, hr8, h⟩ := andx_some h;dsimp only at h;obtain ⟨g, hgg, hrg⟩ := Rdl.reif (hs := .row b1 3 [qD, qC, qB] :: C) qK M1 (ReifL.flat encStr_tr);obtain ⟨g_2, hgg_2, hrg_2⟩ := Rdl.reif (hs := .row b1 3 [qD, qC, qB] :: C) qJ M1 (ReifL.flat qAb);obtain ⟨g_3, hgg_3, hrg_3⟩ := Rdl.reif (hs := .row b1 3 [qD, qC, qB] :: C) qI M1 (ReifL.flat qAa);refine TO.call rfl rfl rfl rfl rfl (orcL rfl aD) (.cons (.agg (.cons (hrg _) (.cons (hrg_2 _) (.cons (hrg_3 _) .nil)))) .nil) (sem_of (w_r9_Check g g_2 g_3 _ (by try rw [hgg]; try rw [hgg_2]; try rw [hgg_3]; exact hr8))) (zM R4 (zX R5 (zX R5 (zX R5 (zA R4 (zA R4 (zA R4 (zN (zU rfl (zM R4 ?_))))))))));obtain ⟨c13, hc13⟩ := zY (y8_3 = 0);refine zV R3 (Val.eql hc13 rfl rfl) (zA R4 (zN (zR ?_)));subst hc13;cases h;exact ⟨rfl, _, rfl, ⟨(), rfl, (pk [98] rfl)⟩⟩
end Go.Am.YtiaolgbmbhldgaaGreatDoor
end
section
namespace Go.Am.YtiaolgbmbhldgaaGreatDoor
open Go.Am Go.RowKit
set_option linter.unusedVariables false
set_option linter.unusedSimpArgs false
end Go.Am.YtiaolgbmbhldgaaGreatDoor
end
section
namespace Go.Am
open Go.RowKit
set_option linter.unusedVariables false
set_option linter.unusedSimpArgs false
section
variable {E : Env} {d : Bool} {n : Nat} {rnd : Option Nat} {ops : Array Oper} {i : Nat} {ns : List Nat} {ms : List Dfr} {σ : Sl} {hs hs' : List Thing} {Q : Sy → Prop} {t : Tmp} {op : Op} {ty : TypeId} {pos : String} {af : Array Edge} {g : Option (Nat × Bool)} {C : List Thing}
end
end Go.Am
end
section
namespace Go.Am
set_option linter.unusedVariables false
noncomputable def P_w1_Has_L1 (list : List Int) (n : Int) : Int → Option (Stp Int (Ex Unit Bool)) := fun i =>
  if i < (list.length : Int) then
    el list i fun a14 =>
    if a14 = n then
      some (Stp.dn (Ex.rt true))
    else
      chk (I64 (i + 1)) (
        some (Stp.ag (i + 1)))
  else
    some (Stp.dn (Ex.nx ()))
noncomputable def P_w1_Has (list : List Int) (n : Int) : Option Bool :=
  seqx (
    iter (P_w1_Has_L1 list n) 0) fun _ =>
    some false
noncomputable def P_w1_Before_L1 (a_ : List Int) (b : List Int) : Int → Option (Stp Int (Ex Unit Bool)) := fun i =>
  seqx (
    andx (
      if i < (a_.length : Int) then
        some (decide (i < (b.length : Int)))
      else
        some false) fun x15 =>
      if x15 = true then
        some (Ex.nx ())
      else
        some (Ex.rt (Stp.dn (Ex.nx ())))) fun _ =>
    el a_ i fun a20 =>
    el b i fun a24 =>
    if ¬ a20 = a24 then
      el a_ i fun a29 =>
      el b i fun a33 =>
      some (Stp.dn (Ex.rt (decide (a29 < a33))))
    else
      chk (I64 (i + 1)) (
        some (Stp.ag (i + 1)))
noncomputable def P_w1_Before (a_ : List Int) (b : List Int) : Option Bool :=
  seqx (
    iter (P_w1_Before_L1 a_ b) 0) fun _ =>
    some (decide ((a_.length : Int) < (b.length : Int)))
noncomputable def P_r9_Trip_L2 (qE : List qH) (qG : List qA) (books : List Int) (trips : List Int) (trip : Int) (away : Int) (heavy : Int) (s : Int) : (Int × Int × Int × Int) → Option (Stp (Int × Int × Int × Int) (Int × Int × Int)) := fun (away_2, heavy_2, some_, i) =>
  if i < (books.length : Int) then
    andx (
      el books i fun a34 =>
      el qG a34 fun a36 =>
      andx (
        el trips i fun a40 =>
        if a40 = trip then
          some (decide (a36.shelf = s))
        else
          some false) fun x49 =>
        if x49 = true then
          chk (I64 (heavy_2 + a36.heavy)) (
            el qE s fun a58 =>
            some ((max away_2 a58.away), (heavy_2 + a36.heavy), 1))
        else
          some (away_2, heavy_2, some_)) fun (away_3, heavy_3, some__2) =>
      chk (I64 (i + 1)) (
        some (Stp.ag (away_3, heavy_3, some__2, (i + 1))))
  else
    some (Stp.dn (away_2, heavy_2, some_))
noncomputable def P_r9_Trip_L1 (qE : List qH) (qG : List qA) (books : List Int) (trips : List Int) (trip : Int) : (Int × Int × Int × Int) → Option (Stp (Int × Int × Int × Int) (Int × Int × Int)) := fun (away, climb, heavy, s) =>
  if s < (qE.length : Int) then
    andx (
      andx (
        iter (P_r9_Trip_L2 qE qG books trips trip away heavy s) (away, heavy, 0, 0)) fun (away_2, heavy_2, some_) =>
        el qE s fun a67 =>
        chk (I64 (some_ * a67.climb)) (
          chk (I64 (climb + (some_ * a67.climb))) (
            some (away_2, (climb + (some_ * a67.climb)), heavy_2)))) fun (away_2, climb_2, heavy_2) =>
      chk (I64 (s + 1)) (
        some (Stp.ag (away_2, climb_2, heavy_2, (s + 1))))
  else
    some (Stp.dn (away, climb, heavy))
noncomputable def P_r9_Trip (qF : List Str) (qE : List qH) (qG : List qA) (books : List Int) (trips : List Int) (trip : Int) : Option (Int × Int) :=
  andx (
    iter (P_r9_Trip_L1 qE qG books trips trip) (0, 0, 0, 0)) fun (away, climb, heavy) =>
    chk (I64 (2 * away)) (
      chk (I64 (2 * climb)) (
        chk (I64 ((2 * away) + (2 * climb))) (
          some (((2 * away) + (2 * climb)), heavy))))
noncomputable def P_r9_Way_L1 (qF : List Str) (qE : List qH) (qG : List qA) (books : List Int) (trips : List Int) (carry : Int) : (Int × Int) → Option (Stp (Int × Int) (Ex Int (Int × Bool))) := fun (sum, n) =>
  if n < (books.length : Int) then
    andx (P_r9_Trip qF qE qG books trips n) fun (y25, y25_2) =>
      if y25_2 > carry then
        some (Stp.dn (Ex.rt (0, false)))
      else
        chk (I64 (sum + y25)) (
          chk (I64 (n + 1)) (
            some (Stp.ag ((sum + y25), (n + 1)))))
  else
    some (Stp.dn (Ex.nx sum))
noncomputable def P_r9_Way (qF : List Str) (qE : List qH) (qG : List qA) (books : List Int) (trips : List Int) (carry : Int) : Option (Int × Bool) :=
  seqx (
    iter (P_r9_Way_L1 qF qE qG books trips carry) (0, 0)) fun sum =>
    some (sum, true)
noncomputable def P_law9_turn (l : List UInt8) (n : Int) : Option Int :=
  if (l.length : Int) = 0 then
    some 0
  else
    chk ((0 : Int) < (l.length : Int)) (
      el l (Int.tmod n (l.length : Int)) fun a13 =>
      chk (-9223372036854775808 ≤ (a13.toNat : Int) ∧ (a13.toNat : Int) < 9223372036854775808) (
        some (a13.toNat : Int)))
noncomputable def P_law9_List_L1 (qG : List qA) (x : List UInt8) : (Int × (List Int)) → Option (Stp (Int × (List Int)) (List Int)) := fun (i, out) =>
  seqx (
    andx (
      if i < (x.length : Int) then
        if (out.length : Int) < 6 then
          some (decide ((qG.length : Int) > 0))
        else
          some false
      else
        some false) fun x22 =>
      if x22 = true then
        some (Ex.nx ())
      else
        some (Ex.rt (Stp.dn out))) fun _ =>
    andx (
      el x i fun a27 =>
      chk (-9223372036854775808 ≤ (a27.toNat : Int) ∧ (a27.toNat : Int) < 9223372036854775808) (
        chk ((0 : Int) < (qG.length : Int)) (
          andx (P_w1_Has out (Int.tmod (a27.toNat : Int) (qG.length : Int))) fun y36 =>
            if y36 = true then
              some out
            else
              chk (out.length + [(Int.tmod (a27.toNat : Int) (qG.length : Int))].length < 1000000000) (
                some (out ++ [(Int.tmod (a27.toNat : Int) (qG.length : Int))]))))) fun out_2 =>
      chk (I64 (i + 1)) (
        some (Stp.ag ((i + 1), out_2)))
noncomputable def P_law9_List (qF : List Str) (qE : List qH) (qG : List qA) (x : List UInt8) : Option (List Int) :=
  andx (
    iter (P_law9_List_L1 qG x) (0, [])) fun out =>
    some out
noncomputable def P_s9_trip_L1 (r_SfRoom_Shelves : List qH) (r_SfRoom_Books : List qA) (books : List Int) (set : Int) : (Int × Int × Int × Int) → Option (Stp (Int × Int × Int × Int) (Int × Int × Int)) := fun (way, heavy, seen, x16) =>
  if x16 < (books.length : Int) then
    andx (
      el books x16 fun a19 =>
      chk (0 ≤ x16 ∧ x16 < 64) (
        if (andI (shrI set x16) 1) = 0 then
          some (way, heavy, seen)
        else
          el r_SfRoom_Books a19 fun a30 =>
          chk (I64 (heavy + a30.heavy)) (
            el r_SfRoom_Shelves a30.shelf fun a42 =>
            chk ((0 ≤ a30.shelf ∧ a30.shelf < 64) ∧ I64 (shlI 1 a30.shelf)) (
              some ((max way a42.away), (heavy + a30.heavy), (orI seen (shlI 1 a30.shelf))))))) fun (way_2, heavy_2, seen_2) =>
      chk (I64 (x16 + 1)) (
        some (Stp.ag (way_2, heavy_2, seen_2, (x16 + 1))))
  else
    some (Stp.dn (way, heavy, seen))
noncomputable def P_s9_trip_L2 (r_SfRoom_Shelves : List qH) (seen : Int) : (Int × Int) → Option (Stp (Int × Int) Int) := fun (way_2, x56) =>
  if x56 < (r_SfRoom_Shelves.length : Int) then
    el r_SfRoom_Shelves x56 fun a59 =>
    chk (0 ≤ x56 ∧ x56 < 64) (
      chk (I64 ((andI (shrI seen x56) 1) * a59.climb)) (
        chk (I64 (way_2 + ((andI (shrI seen x56) 1) * a59.climb))) (
          chk (I64 (x56 + 1)) (
            some (Stp.ag ((way_2 + ((andI (shrI seen x56) 1) * a59.climb)), (x56 + 1)))))))
  else
    some (Stp.dn way_2)
noncomputable def P_s9_trip (r_SfRoom_Classes : List Str) (r_SfRoom_Shelves : List qH) (r_SfRoom_Books : List qA) (books : List Int) (set : Int) : Option (Int × Int) :=
  andx (
    iter (P_s9_trip_L1 r_SfRoom_Shelves r_SfRoom_Books books set) (0, 0, 0, 0)) fun (way, heavy, seen) =>
    andx (
      iter (P_s9_trip_L2 r_SfRoom_Shelves seen) (way, 0)) fun way_2 =>
      chk (I64 (2 * way_2)) (
        some ((2 * way_2), heavy))
end Go.Am
end
section
namespace Go.Am.YtiaolgbmbhldgaaGreatDoor
open Go.Am Go.RowKit
set_option linter.unusedVariables false
set_option linter.unusedSimpArgs false
set_option maxRecDepth 10000 in
theorem tf_w1_Has {k : Nat} (hk : 0 ≤ k) {C : List Thing} {v_list : AV} {list : List Int} {n : Int} (h_list : Rdl C encI v_list list) {r : Bool} (h : P_w1_Has list n = some r) :
  TF (EL k) 47 [v_list, iv (n)] C (RepF (fun (w : Unit) => bv r) (fun (w : Unit) => C)) := by
 unfold P_w1_Has at h;refine TF.enter (fn := Go.Proofs.Tryz.f47) rfl rfl rfl rfl rfl (zU rfl (zA R4 (zN ?_)))
 show T _ _ _ _ _ _;apply T.join (r := r) (W := Unit) (fun j w => ⟨[], [], C⟩) h
 ·intro j h;refine zU rfl (zA R4 (zN (zB ?_)))
  show T _ _ _ _ _ _;apply T.iter (r := j) (W := Unit) (fun j w => ⟨[], [(0, v_list), (1, iv (n)), (5, iv (j))], C⟩) (w0 := ()) h
  ·exact (sb .refl)
  rintro i _ a h;unfold P_w1_Has_L1 at h;refine zS (zU rfl (zM R4 (zM R4 (zV R3 (Val.len_l h_list mem0 rfl rfl) ?_))));obtain ⟨c9, hc9⟩ := zY (i < (list.length : Int));refine zV R3 (Val.lss hc9 rfl rfl) (zN ?_);obtain ⟨rfl, hc9, h⟩ | ⟨rfl, hc9, h⟩ := zI hc9 h
  ·refine zC rfl (zK (zS (zB (zU rfl (zM R4 (zM R4 ?_))))));obtain ⟨a14, hia14, ea14, h⟩ := el_some h;refine TO.fact (rdl_at h_list mem0 hia14 ea14) (fun hp=>?_);obtain ⟨pa14, hpa14, hva14⟩ := hp;refine zV R3 (hva14 ⟨rfl, rfl⟩ rfl rfl) (zV R3 (Val.load_e hpa14 mem0 ⟨_, rfl, rfl⟩ rfl rfl) (zM R4 ?_));obtain ⟨c17, hc17⟩ := zY (a14 = n);refine zV R3 (Val.eql hc17 rfl rfl) (zN ?_);obtain ⟨rfl, hc17, h⟩ | ⟨rfl, hc17, h⟩ := zI hc17 h
   ·refine zC rfl (zU rfl (zA R4 (zN (zR ?_))));cases h;exact ⟨ret_ne, ⟨ret_ne, ⟨rfl, _, rfl, ⟨(), rfl, .refl⟩⟩⟩⟩
   refine zD rfl (zK (zT rfl (zM R4 ?_)));obtain ⟨hk11, h⟩ := chk_some h;refine zV R3 (Val.add rfl rfl hk11) (zA R4 (zN ?_));cases h;exact ⟨rfl, (), (sb .refl)⟩
  refine zD rfl (zE ?_);cases h;exact ⟨ex_ne, ⟨rfl, (), (sb .refl)⟩⟩
 ·rintro _ _ h;refine zU rfl (zA R4 (zN (zR ?_)));cases h;exact ⟨rfl, _, rfl, ⟨(), rfl, .refl⟩⟩
set_option maxRecDepth 10000 in
theorem tf_w1_Before {k : Nat} (hk : 0 ≤ k) {C : List Thing} {v_a : AV} {a_ : List Int} {v_b : AV} {b : List Int} (h_a : Rdl C encI v_a a_) (h_b : Rdl C encI v_b b) {r : Bool} (h : P_w1_Before a_ b = some r) :
  TF (EL k) 61 [v_a, v_b] C (RepF (fun (w : Unit) => bv r) (fun (w : Unit) => C)) := by
 unfold P_w1_Before at h;refine TF.enter (fn := Go.Proofs.Tryz.f61) rfl rfl rfl rfl rfl (zU rfl (zA R4 (zN ?_)))
 show T _ _ _ _ _ _;apply T.join (r := r) (W := Unit) (fun j w => ⟨[], [(0, v_a), (1, v_b)], C⟩) h
 ·intro j h;refine zU rfl (zA R4 (zN (zB ?_)))
  show T _ _ _ _ _ _;apply T.iter (r := j) (W := Unit) (fun j w => ⟨[], [(0, v_a), (1, v_b), (5, iv (j))], C⟩) (w0 := ()) h
  ·exact (sb .refl)
  rintro i _ a h;unfold P_w1_Before_L1 at h
  show T _ _ _ _ _ _;apply T.join (r := a) (W := Unit) (fun j w => ⟨[], [(0, v_a), (1, v_b), (5, iv (i))], C⟩) h
  ·intro j h
   show T _ _ _ _ _ _;apply T.joinA (r := j) (W := Unit) (fun j w => ⟨[], [(0, v_a), (1, v_b), (5, iv (i)), (15, bv j)], C⟩) h
   ·intro j h;refine zT rfl (zM R4 (zM R4 (zV R3 (Val.len_l h_a mem0 rfl rfl) ?_)));obtain ⟨c9, hc9⟩ := zY (i < (a_.length : Int));refine zV R3 (Val.lss hc9 rfl rfl) (zM R4 ?_);obtain ⟨rfl, hc9, h⟩ | ⟨rfl, hc9, h⟩ := zI hc9 h
    ·refine zM R4 (zM R4 (zV R3 (Val.len_l h_b mem0 rfl rfl) ?_));obtain ⟨c14, hc14⟩ := zY (i < (b.length : Int));refine zV R3 (Val.lss hc14 rfl rfl) (zP R6 (zN ?_));subst hc14;cases h;exact ⟨rfl, (), (sb .refl)⟩
    refine zO R3 (zO R3 (zO R3 (zO R3 (zP R6 (zN ?_)))));cases h;exact ⟨rfl, (), (sb .refl)⟩
   ·rintro x15 _ h;obtain ⟨rfl, h⟩ | ⟨rfl, h⟩ := zZ h
    ·refine zC rfl (zK ?_);cases h;exact ⟨rfl, (), (sb .refl)⟩
    refine zD rfl (zE ?_);cases h;exact ⟨ex_ne, ⟨ex_ne, ⟨rfl, (), (sb .refl)⟩⟩⟩
  ·rintro _ _ h;refine zS (zB (zS (T.draw (fun v => sameC_refl v) (l1 := [0, 1, 2, 3, 4, 5, 6, 7, 8]) (l2 := []) (by kernel_rfl) (by kernel_rfl) (zM R4 (zM R4 ?_)))));obtain ⟨a20, hia20, ea20, h⟩ := el_some h;refine TO.fact (rdl_at h_a mem0 hia20 ea20) (fun hp=>?_);obtain ⟨pa20, hpa20, hva20⟩ := hp;refine zV R3 (hva20 ⟨rfl, rfl⟩ rfl rfl) (zV R3 (Val.load_e hpa20 mem0 ⟨_, rfl, rfl⟩ rfl rfl) (zM R4 (zM R4 ?_)));obtain ⟨a24, hia24, ea24, h⟩ := el_some h;refine TO.fact (rdl_at h_b mem0 hia24 ea24) (fun hp=>?_);obtain ⟨pa24, hpa24, hva24⟩ := hp;refine zV R3 (hva24 ⟨rfl, rfl⟩ rfl rfl) (zV R3 (Val.load_e hpa24 mem0 ⟨_, rfl, rfl⟩ rfl rfl) ?_);obtain ⟨c26, hc26⟩ := zY (¬ a20 = a24);refine zV R3 (Val.neq hc26 rfl rfl) (zN ?_);obtain ⟨rfl, hc26, h⟩ | ⟨rfl, hc26, h⟩ := zI hc26 h
   ·refine zC rfl (zS (T.draw (fun v => sameC_refl v) (l1 := [0, 1, 2, 3, 4, 5, 6, 7, 8, 9]) (l2 := []) (by kernel_rfl) (by kernel_rfl) (zM R4 (zM R4 ?_))));obtain ⟨a29, hia29, ea29, h⟩ := el_some h;refine TO.fact (rdl_at h_a mem0 hia29 ea29) (fun hp=>?_);obtain ⟨pa29, hpa29, hva29⟩ := hp;refine zV R3 (hva29 ⟨rfl, rfl⟩ rfl rfl) (zV R3 (Val.load_e hpa29 mem0 ⟨_, rfl, rfl⟩ rfl rfl) (zM R4 (zM R4 ?_)));obtain ⟨a33, hia33, ea33, h⟩ := el_some h;refine TO.fact (rdl_at h_b mem0 hia33 ea33) (fun hp=>?_);obtain ⟨pa33, hpa33, hva33⟩ := hp;refine zV R3 (hva33 ⟨rfl, rfl⟩ rfl rfl) (zV R3 (Val.load_e hpa33 mem0 ⟨_, rfl, rfl⟩ rfl rfl) ?_);obtain ⟨c35, hc35⟩ := zY (a29 < a33);refine zV R3 (Val.lss hc35 rfl rfl) (zA R4 (zN (zR ?_)));subst hc35;cases h;exact ⟨ret_ne, ⟨ret_ne, ⟨rfl, _, rfl, ⟨(), rfl, .refl⟩⟩⟩⟩
   refine zD rfl (zK (zT rfl (zM R4 ?_)));obtain ⟨hk17, h⟩ := chk_some h;refine zV R3 (Val.add rfl rfl hk17) (zA R4 (zN ?_));cases h;exact ⟨rfl, (), (sb .refl)⟩
 ·rintro _ _ h;refine zU rfl (zM R4 (zV R3 (Val.len_l h_a mem0 rfl rfl) (zM R4 (zV R3 (Val.len_l h_b mem0 rfl rfl) ?_))));obtain ⟨c40, hc40⟩ := zY ((a_.length : Int) < (b.length : Int));refine zV R3 (Val.lss hc40 rfl rfl) (zA R4 (zN (zR ?_)));subst hc40;cases h;exact ⟨rfl, _, rfl, ⟨(), rfl, .refl⟩⟩
set_option maxRecDepth 10000 in
theorem tf_r9_Trip {k : Nat} (hk : 0 ≤ k) {C : List Thing} {qD : AV} {qF : List Str} {qC : AV} {qE : List qH} {qB : AV} {qG : List qA} {v_books : AV} {books : List Int} {v_trips : AV} {trips : List Int} {trip : Int} (qK : Rdl C encStr qD qF) (qJ : Rdl C qU qC qE) (qI : Rdl C qN qB qG) (h_books : Rdl C encI v_books books) (h_trips : Rdl C encI v_trips trips) {r : Int × Int} (h : P_r9_Trip qF qE qG books trips trip = some r) :
  TF (EL k) 115 [.agg [qD, qC, qB], v_books, v_trips, iv (trip)] C (RepF (fun (w : Unit) => .tuple [iv r.1, iv r.2]) (fun (w : Unit) => C)) := by
 unfold P_r9_Trip at h;refine TF.enter (fn := Go.Proofs.Tryz.f115) rfl rfl rfl rfl rfl (zU rfl (zQ 3 [_,_,_] R7 (fun b4=>zA R4 (zA R4 (zN (zU rfl (zA R4 (zA R4 (zA R4 (zN ?_))))))))))
 show T _ _ _ _ _ _;apply T.joinA (r := r) (W := Unit) (fun j w => ⟨[], [(10, iv (j.1)), (11, iv (j.2.1)), (12, iv (j.2.2))], .row b4 3 [qD, qC, qB] :: C⟩) h
 ·intro j h;refine zU rfl (zA R4 (zN (zB ?_)))
  show T _ _ _ _ _ _;apply T.iter (r := j) (W := Unit) (fun j w => ⟨[], [(1, v_books), (2, v_trips), (3, iv (trip)), (4, .ptr b4 0 3), (10, iv (j.1)), (11, iv (j.2.1)), (12, iv (j.2.2.1)), (13, iv (j.2.2.2))], .row b4 3 [qD, qC, qB] :: C⟩) (w0 := ()) h
  ·exact (sb .refl)
  rintro ⟨away, climb, heavy, s⟩ _ a h;unfold P_r9_Trip_L1 at h;dsimp only at h;dsimp only;refine zS (zU rfl (zM R4 (zF 1 R6 (zL 0 R3 R6 (zV R3 (Val.len_l qJ M1 rfl rfl) ?_)))));obtain ⟨c21, hc21⟩ := zY (s < (qE.length : Int));refine zV R3 (Val.lss hc21 rfl rfl) (zN ?_);obtain ⟨rfl, hc21, h⟩ | ⟨rfl, hc21, h⟩ := zI hc21 h
  ·refine zC rfl (zK ?_)
   show T _ _ _ _ _ _;apply T.joinA (r := a) (W := Unit) (fun j w => ⟨[], [(1, v_books), (2, v_trips), (3, iv (trip)), (4, .ptr b4 0 3), (10, iv (j.1)), (11, iv (j.2.1)), (12, iv (j.2.2)), (13, iv (s))], .row b4 3 [qD, qC, qB] :: C⟩) h
   ·intro j h;refine zB (zU rfl (zA R4 (zN ?_)))
    show T _ _ _ _ _ _;apply T.joinA (r := j) (W := Unit) (fun j w => ⟨[], [(1, v_books), (2, v_trips), (3, iv (trip)), (4, .ptr b4 0 3), (10, iv (j.1)), (11, iv (climb)), (12, iv (j.2.1)), (13, iv (s)), (14, iv (j.2.2))], .row b4 3 [qD, qC, qB] :: C⟩) h
    ·intro j h;refine zU rfl (zA R4 (zN (zB ?_)))
     show T _ _ _ _ _ _;apply T.iter (r := j) (W := Unit) (fun j w => ⟨[], [(1, v_books), (2, v_trips), (3, iv (trip)), (4, .ptr b4 0 3), (10, iv (j.1)), (11, iv (climb)), (12, iv (j.2.1)), (13, iv (s)), (14, iv (j.2.2.1)), (15, iv (j.2.2.2))], .row b4 3 [qD, qC, qB] :: C⟩) (w0 := ()) h
     ·exact (sb .refl)
     rintro ⟨away_2, heavy_2, some_, i⟩ _ a h;unfold P_r9_Trip_L2 at h;dsimp only at h;dsimp only;refine zS (zU rfl (zM R4 (zM R4 (zV R3 (Val.len_l h_books M1 rfl rfl) ?_))));obtain ⟨c27, hc27⟩ := zY (i < (books.length : Int));refine zV R3 (Val.lss hc27 rfl rfl) (zN ?_);obtain ⟨rfl, hc27, h⟩ | ⟨rfl, hc27, h⟩ := zI hc27 h
     ·refine zC rfl (zK ?_)
      show T _ _ _ _ _ _;apply T.joinA (r := a) (W := Unit) (fun j w => ⟨[], [(1, v_books), (2, v_trips), (3, iv (trip)), (4, .ptr b4 0 3), (10, iv (j.1)), (11, iv (climb)), (12, iv (j.2.1)), (13, iv (s)), (14, iv (j.2.2)), (15, iv (i))], .row b4 3 [qD, qC, qB] :: C⟩) h
      ·intro j h;refine zB (zS (T.drawE (l1 := [0, 1, 2, 3, 4, 5, 6, 7, 8]) (l2 := [9]) (by kernel_rfl) (by kernel_rfl) (yL R4 (Val.faddr_ptr (fo := 2) rfl rfl rfl) (yR R4 (vR (p := 0) R6) (yL R4 (Val.move rfl) (yL R4 (Val.move rfl) ?_))))));obtain ⟨a34, hia34, ea34, h⟩ := el_some h;refine TD1.fact (rdl_at h_books M1 hia34 ea34) (fun hp=>?_);obtain ⟨pa34, hpa34, hva34⟩ := hp;refine yL R4 (hva34 ⟨rfl, rfl⟩ rfl rfl) (yR R4 (Val.load_e hpa34 M1 ⟨_, rfl, rfl⟩ rfl rfl) ?_);obtain ⟨a36, hia36, ea36, h⟩ := el_some h;refine TD1.fact (rdl_at qI M1 hia36 ea36) (fun hp=>?_);obtain ⟨pa36, hpa36, hva36⟩ := hp;refine yL R4 (hva36 ⟨rfl, rfl⟩ rfl rfl) (yR R4 (Val.load_es (c := [_, _, _, _, _, _, _]) hpa36 M1 ⟨⟨_, rfl, rfl⟩, rfl, by decide⟩ rfl rfl rfl) (TD1.floatN rfl rfl rfl rfl (New.alloc (k := 7) (cells := [_, _, _, _, _, _, _]) rfl rfl rfl rfl) (fun b16=>TD1.over (fun v => sameC_refl v) (all_cons (⟨_, rfl, (Val.load_es (c := [_, _, _, _, _, _, _]) hpa36 M2 ⟨⟨_, rfl, rfl⟩, rfl, by decide⟩ rfl rfl rfl)⟩) (all_cons (⟨_, rfl, (Val.load_e hpa34 M2 ⟨_, rfl, rfl⟩ rfl rfl)⟩) (all_cons (⟨_, rfl, (vR (p := 1) R6)⟩) all_nil))) (TD2.less (Less.floatRow (p := 0) rfl) (yG (_::_::C) rfl (TD2.heavy (fun v => sameC_refl v) rfl (by decide) rfl rfl (OpS.eff (Eff.store_row (p := 0) (cv := [_, _, _, _, _, _, _]) (cells' := [_, _, _, _, _, _, _]) rfl rfl rfl rfl rfl rfl rfl rfl aG (by decide) rfl)) ?_))))));rintro _ _ rfl;refine ⟨(all_cons (.inl (by kernel_rfl)) (all_cons (.inl (by kernel_rfl)) (all_cons (.inl (by kernel_rfl)) all_nil))), (all_cons (.inl (by kernel_rfl)) all_nil), ?_⟩;refine yG (_::_::C) rfl (TD2.nil ?_)
       show T _ _ _ _ _ _;apply T.joinA (r := j) (W := Unit) (fun j w => ⟨[], [(1, v_books), (2, v_trips), (3, iv (trip)), (4, .ptr b4 0 3), (10, iv (away_2)), (11, iv (climb)), (12, iv (heavy_2)), (13, iv (s)), (14, iv (some_)), (15, iv (i)), (16, .ptr b16 0 7), (49, bv j)], .row b16 7 [iv (a36.qR), iv (a36.qS), sv a36.qT, iv (a36.wide), iv (a36.high), iv (a36.heavy), iv (a36.shelf)] :: .row b4 3 [qD, qC, qB] :: C⟩) h
       ·intro j h;refine zT rfl (zM R4 (zM R4 ?_));obtain ⟨a40, hia40, ea40, h⟩ := el_some h;refine TO.fact (rdl_at h_trips M2 hia40 ea40) (fun hp=>?_);obtain ⟨pa40, hpa40, hva40⟩ := hp;refine zV R3 (hva40 ⟨rfl, rfl⟩ rfl rfl) (zV R3 (Val.load_e hpa40 M2 ⟨_, rfl, rfl⟩ rfl rfl) (zM R4 ?_));obtain ⟨c43, hc43⟩ := zY (a40 = trip);refine zV R3 (Val.eql hc43 rfl rfl) (zM R4 ?_);obtain ⟨rfl, hc43, h⟩ | ⟨rfl, hc43, h⟩ := zI hc43 h
        ·refine zF 6 R6 (zL 0 R3 R6 (zM R4 ?_));obtain ⟨c48, hc48⟩ := zY (a36.shelf = s);refine zV R3 (Val.eql hc48 rfl rfl) (zP R6 (zN ?_));subst hc48;cases h;exact ⟨rfl, (), (sb .refl)⟩
        refine zO R3 (zO R3 (zO R3 (zO R3 (zP R6 (zN ?_)))));cases h;exact ⟨rfl, (), (sb .refl)⟩
       ·rintro x49 _ h;obtain ⟨rfl, h⟩ | ⟨rfl, h⟩ := zZ h
        ·refine zC rfl (zS (T.draw (fun v => sameC_refl v) (l1 := [0, 1, 2, 3, 4, 5]) (l2 := []) (by kernel_rfl) (by kernel_rfl) (zM R4 (zF 5 R6 (zL 0 R3 R6 ?_)))));obtain ⟨hk53, h⟩ := chk_some h;refine zV R3 (Val.add rfl rfl hk53) (zA R4 (zA R4 (zN (zT rfl (zM R4 (zF 1 R6 (zL 1 R3 R6 (zM R4 ?_))))))));obtain ⟨a58, hia58, ea58, h⟩ := el_some h;refine TO.fact (rdl_at qJ M2 hia58 ea58) (fun hp=>?_);obtain ⟨pa58, hpa58, hva58⟩ := hp;refine zV R3 (hva58 ⟨rfl, rfl⟩ rfl rfl) (zV R3 (Val.faddr_e (fo := 0) hpa58 rfl rfl rfl) (zV R3 (Val.load_e (PtE.add hpa58 (by decide)) M2 ⟨_, rfl, rfl⟩ rfl rfl) (zV R3 (Val.bmax rfl rfl) (zA R4 (zN ?_)))));cases h;exact ⟨rfl, (), (sb (pk [1,98] rfl))⟩
        refine zD rfl (zK ?_);cases h;exact ⟨rfl, (), (sb (pk [1,98] rfl))⟩
      ·rintro ⟨away_3, heavy_3, some__2⟩ _ h;dsimp only at h;dsimp only;refine zT rfl (zM R4 ?_);obtain ⟨hk29, h⟩ := chk_some h;refine zV R3 (Val.add rfl rfl hk29) (zA R4 (zN ?_));cases h;exact ⟨rfl, (), (sb .refl)⟩
     refine zD rfl (zE ?_);cases h;exact ⟨ex_ne, ⟨rfl, (), (sb .refl)⟩⟩
    ·rintro ⟨away_2, heavy_2, some_⟩ _ h;dsimp only at h;dsimp only;refine zT rfl (zM R4 (zM R4 (zF 1 R6 (zL 0 R3 R6 (zM R4 ?_)))));obtain ⟨a67, hia67, ea67, h⟩ := el_some h;refine TO.fact (rdl_at qJ M1 hia67 ea67) (fun hp=>?_);obtain ⟨pa67, hpa67, hva67⟩ := hp;refine zV R3 (hva67 ⟨rfl, rfl⟩ rfl rfl) (zV R3 (Val.faddr_e (fo := 1) hpa67 rfl rfl rfl) (zV R3 (Val.load_e (PtE.add hpa67 (by decide)) M1 ⟨_, rfl, rfl⟩ rfl rfl) ?_));obtain ⟨hk70, h⟩ := chk_some h;refine zV R3 (Val.mul rfl rfl hk70) ?_;obtain ⟨hk71, h⟩ := chk_some h;refine zV R3 (Val.add rfl rfl hk71) (zA R4 (zN ?_));cases h;exact ⟨rfl, (), (sb .refl)⟩
   ·rintro ⟨away_2, climb_2, heavy_2⟩ _ h;dsimp only at h;dsimp only;refine zT rfl (zM R4 ?_);obtain ⟨hk23, h⟩ := chk_some h;refine zV R3 (Val.add rfl rfl hk23) (zA R4 (zN ?_));cases h;exact ⟨rfl, (), (sb .refl)⟩
  refine zD rfl (zE ?_);cases h;exact ⟨ex_ne, ⟨rfl, (), (sb .refl)⟩⟩
 ·rintro ⟨away, climb, heavy⟩ _ h;dsimp only at h;dsimp only;refine zU rfl (zM R4 ?_);obtain ⟨hk73, h⟩ := chk_some h;refine zV R3 (Val.mul rfl rfl hk73) (zM R4 ?_);obtain ⟨hk75, h⟩ := chk_some h;refine zV R3 (Val.mul rfl rfl hk75) ?_;obtain ⟨hk76, h⟩ := chk_some h;refine zV R3 (Val.add rfl rfl hk76) (zM R4 (zA R4 (zA R4 (zN (zR ?_)))));cases h;exact ⟨rfl, _, rfl, ⟨(), rfl, (pk [98] rfl)⟩⟩
set_option maxRecDepth 10000 in
theorem tf_r9_Way {k : Nat} (hk : 0 ≤ k) {C : List Thing} {qD : AV} {qF : List Str} {qC : AV} {qE : List qH} {qB : AV} {qG : List qA} {v_books : AV} {books : List Int} {v_trips : AV} {trips : List Int} {carry : Int} (qK : Rdl C encStr qD qF) (qJ : Rdl C qU qC qE) (qI : Rdl C qN qB qG) (h_books : Rdl C encI v_books books) (h_trips : Rdl C encI v_trips trips) {r : Int × Bool} (h : P_r9_Way qF qE qG books trips carry = some r) :
  TF (EL k) 59 [.agg [qD, qC, qB], v_books, v_trips, iv (carry)] C (RepF (fun (w : Unit) => .tuple [iv r.1, bv r.2]) (fun (w : Unit) => C)) := by
 unfold P_r9_Way at h;refine TF.enter (fn := Go.Proofs.Tryz.f59) rfl rfl rfl rfl rfl (zU rfl (zQ 3 [_,_,_] R7 (fun b4=>zA R4 (zA R4 (zN (zU rfl (zA R4 (zN ?_))))))))
 show T _ _ _ _ _ _;apply T.join (r := r) (W := Unit) (fun j w => ⟨[], [(10, iv (j))], .row b4 3 [qD, qC, qB] :: C⟩) h
 ·intro j h;refine zU rfl (zA R4 (zN (zB ?_)))
  show T _ _ _ _ _ _;apply T.iter (r := j) (W := Unit) (fun j w => ⟨[], [(1, v_books), (2, v_trips), (3, iv (carry)), (4, .ptr b4 0 3), (10, iv (j.1)), (11, iv (j.2))], .row b4 3 [qD, qC, qB] :: C⟩) (w0 := ()) h
  ·exact (sb .refl)
  rintro ⟨sum, n⟩ _ a h;unfold P_r9_Way_L1 at h;dsimp only at h;dsimp only;refine zS (zU rfl (zM R4 (zM R4 (zV R3 (Val.len_l h_books M1 rfl rfl) ?_))));obtain ⟨c17, hc17⟩ := zY (n < (books.length : Int));refine zV R3 (Val.lss hc17 rfl rfl) (zN ?_);obtain ⟨rfl, hc17, h⟩ | ⟨rfl, hc17, h⟩ := zI hc17 h
  ·refine zC rfl (zK (zS (zB (zU rfl (zV R3 (vW 0 [_,_,_] R5 R4) (zM R4 (zM R4 (zM R4 ?_))))))));obtain ⟨⟨y25, y25_2⟩, hr25, h⟩ := andx_some h;dsimp only at h;refine TO.callT (first := []) (cap := []) (vs := [.agg [qD, qC, qB], v_books, v_trips, iv (n)]) rfl rfl rfl rfl rfl rfl (orcN rfl) (tf_r9_Trip aD (Rdl.mono qK M1) (Rdl.mono qJ M1) (Rdl.mono qI M1) (Rdl.mono h_books M1) (Rdl.mono h_trips M1) hr25) ?_;rintro _;refine zG (_::C) rfl (zM R4 (zX R5 (zX R5 (zA R4 (zA R4 (zN (zS (zU rfl (zM R4 (zM R4 ?_))))))))));obtain ⟨c30, hc30⟩ := zY (y25_2 > carry);refine zV R3 (Val.gtr hc30 rfl rfl) (zN ?_);obtain ⟨rfl, hc30, h⟩ | ⟨rfl, hc30, h⟩ := zI hc30 h
   ·refine zC rfl (zU rfl (zA R4 (zA R4 (zN (zR ?_)))));cases h;exact ⟨ret_ne, ⟨ret_ne, ⟨rfl, _, rfl, ⟨(), rfl, (pk [98] rfl)⟩⟩⟩⟩
   refine zD rfl (zK (zT rfl (zM R4 (zM R4 ?_))));obtain ⟨hk33, h⟩ := chk_some h;refine zV R3 (Val.add rfl rfl hk33) (zA R4 (zN (zT rfl (zM R4 ?_))));obtain ⟨hk19, h⟩ := chk_some h;refine zV R3 (Val.add rfl rfl hk19) (zA R4 (zN ?_));cases h;exact ⟨rfl, (), (sb .refl)⟩
  refine zD rfl (zE ?_);cases h;exact ⟨ex_ne, ⟨rfl, (), (sb .refl)⟩⟩
 ·rintro sum _ h;refine zU rfl (zM R4 (zA R4 (zA R4 (zN (zR ?_)))));cases h;exact ⟨rfl, _, rfl, ⟨(), rfl, (pk [98] rfl)⟩⟩
set_option maxRecDepth 10000 in
theorem tf_law9_turn {k : Nat} (hk : 0 ≤ k) {C : List Thing} {v_l : AV} {l : List UInt8} {n : Int} (h_l : Rdl C encU8 v_l l) {r : Int} (h : P_law9_turn l n = some r) :
  TF (EL k) 60 [v_l, iv (n)] C (RepF (fun (w : Unit) => iv r) (fun (w : Unit) => C)) := by
 unfold P_law9_turn at h;refine TF.enter (fn := Go.Proofs.Tryz.f60) rfl rfl rfl rfl rfl (zU rfl (zA R4 (zN (zS (zU rfl (zM R4 (zV R3 (Val.len_l h_l mem0 rfl rfl) ?_)))))));obtain ⟨c7, hc7⟩ := zY ((l.length : Int) = 0);refine zV R3 (Val.eql hc7 rfl rfl) (zN ?_);obtain ⟨rfl, hc7, h⟩ | ⟨rfl, hc7, h⟩ := zI hc7 h
 ·refine zC rfl (zU rfl (zA R4 (zN (zR ?_))));cases h;exact ⟨rfl, _, rfl, ⟨(), rfl, .refl⟩⟩
 refine zD rfl (zK (zU rfl (zM R4 (zM R4 (zM R4 (zV R3 (Val.len_l h_l mem0 rfl rfl) ?_))))));obtain ⟨hk12, h⟩ := chk_some h;refine zV R3 (Val.rem rfl rfl hk12) ?_;obtain ⟨a13, hia13, ea13, h⟩ := el_some h;refine TO.fact (rdl_at h_l mem0 hia13 ea13) (fun hp=>?_);obtain ⟨pa13, hpa13, hva13⟩ := hp;refine zV R3 (hva13 ⟨rfl, rfl⟩ rfl rfl) (zV R3 (Val.load_e hpa13 mem0 ⟨_, rfl, rfl⟩ rfl rfl) ?_);obtain ⟨hk15, h⟩ := chk_some h;refine zV R3 (Val.conv (cv_ty5_3 hk15) rfl) (zA R4 (zN (zR ?_)));cases h;exact ⟨rfl, _, rfl, ⟨(), rfl, .refl⟩⟩
set_option maxRecDepth 10000 in
theorem tf_law9_List {k : Nat} (hk : 0 ≤ k) {C : List Thing} {qD : AV} {qF : List Str} {qC : AV} {qE : List qH} {qB : AV} {qG : List qA} {v_x : AV} {x : List UInt8} (qK : Rdl C encStr qD qF) (qJ : Rdl C qU qC qE) (qI : Rdl C qN qB qG) (h_x : Rdl C encU8 v_x x) {r : (List Int)} (h : P_law9_List qF qE qG x = some r) :
  TF (EL k) 58 [.agg [qD, qC, qB], v_x] C (RepF (fun (w : AV) => w) (fun (w : AV) => ownL true w encI r :: C)) := by
 unfold P_law9_List at h;refine TF.enter (fn := Go.Proofs.Tryz.f58) rfl rfl rfl rfl rfl (zU rfl (zQ 3 [_,_,_] R7 (fun b2=>zA R4 (zN (zU rfl (zA R4 (zN ?_)))))))
 show T _ _ _ _ _ _;apply T.joinA (r := r) (W := AV) (fun j w => ⟨[], [(5, w)], ownL true w encI j :: .row b2 3 [qD, qC, qB] :: C⟩) h
 ·intro j h;refine zU rfl (zA R4 (zN (zB (T.nilown (u := encI.u) ?_))))
  show T _ _ _ _ _ _;apply T.iter (r := j) (W := AV) (fun j w => ⟨[], [(1, v_x), (2, .ptr b2 0 3), (5, w), (6, iv (j.1))], ownL true w encI j.2 :: .row b2 3 [qD, qC, qB] :: C⟩) (w0 := nilS) h
  ·exact (sb .refl)
  rintro ⟨i, out⟩ v2 a h;unfold P_law9_List_L1 at h;dsimp only at h;dsimp only
  show T _ _ _ _ _ _;apply T.join (r := a) (W := Unit) (fun j w => ⟨[], [(1, v_x), (2, .ptr b2 0 3), (5, v2), (6, iv (i))], ownL true v2 encI out :: .row b2 3 [qD, qC, qB] :: C⟩) h
  ·intro j h
   show T _ _ _ _ _ _;apply T.joinA (r := j) (W := Unit) (fun j w => ⟨[], [(1, v_x), (2, .ptr b2 0 3), (5, v2), (6, iv (i)), (22, bv j)], ownL true v2 encI out :: .row b2 3 [qD, qC, qB] :: C⟩) h
   ·intro j h;refine zT rfl (zM R4 (zM R4 (zV R3 (Val.len_l h_x M2 rfl rfl) ?_)));obtain ⟨c11, hc11⟩ := zY (i < (x.length : Int));refine zV R3 (Val.lss hc11 rfl rfl) (zM R4 ?_);obtain ⟨rfl, hc11, h⟩ | ⟨rfl, hc11, h⟩ := zI hc11 h
    ·refine zM R4 (zV R3 (Val.len_own (p := 0) rfl rfl rfl) ?_);obtain ⟨c15, hc15⟩ := zY ((out.length : Int) < 6);refine zV R3 (Val.lss hc15 rfl rfl) (zP R6 (zM R4 ?_));obtain ⟨rfl, hc15, h⟩ | ⟨rfl, hc15, h⟩ := zI hc15 h
     ·refine zF 2 R6 (zL 1 R3 R6 (zV R3 (Val.len_l qI M2 rfl rfl) ?_));obtain ⟨c21, hc21⟩ := zY ((qG.length : Int) > 0);refine zV R3 (Val.gtr hc21 rfl rfl) (zP R6 (zN ?_));subst hc21;cases h;exact ⟨rfl, (), (sb .refl)⟩
     refine zO R3 (zO R3 (zO R3 (zO R3 (zP R6 (zN ?_)))));cases h;exact ⟨rfl, (), (sb .refl)⟩
    refine zO R3 (zO R3 (zO R3 (zP R6 (zM R4 (zO R3 (zO R3 (zO R3 (zO R3 (zP R6 (zN ?_))))))))));cases h;exact ⟨rfl, (), (sb .refl)⟩
   ·rintro x22 _ h;obtain ⟨rfl, h⟩ | ⟨rfl, h⟩ := zZ h
    ·refine zC rfl (zK ?_);cases h;exact ⟨rfl, (), (sb .refl)⟩
    refine zD rfl (zE ?_);cases h;exact ⟨ex_ne, ⟨ex_ne, ⟨rfl, v2, (sb .refl)⟩⟩⟩
  ·rintro _ _ h
   show T _ _ _ _ _ _;apply T.joinA (r := a) (W := AV) (fun j w => ⟨[], [(1, v_x), (2, .ptr b2 0 3), (5, w), (6, iv (i))], ownL true w encI j :: .row b2 3 [qD, qC, qB] :: C⟩) h
   ·intro j h;refine zB (zS (T.draw (fun v => sameC_refl v) (l1 := [0, 1, 2, 3, 4, 5, 6, 7, 8, 9]) (l2 := []) (by kernel_rfl) (by kernel_rfl) (zM R4 (zM R4 ?_))));obtain ⟨a27, hia27, ea27, h⟩ := el_some h;refine TO.fact (rdl_at h_x M2 hia27 ea27) (fun hp=>?_);obtain ⟨pa27, hpa27, hva27⟩ := hp;refine zV R3 (hva27 ⟨rfl, rfl⟩ rfl rfl) (zV R3 (Val.load_e hpa27 M2 ⟨_, rfl, rfl⟩ rfl rfl) ?_);obtain ⟨hk29, h⟩ := chk_some h;refine zV R3 (Val.conv (cv_ty5_3 hk29) rfl) (zF 2 R6 (zL 1 R3 R6 (zV R3 (Val.len_l qI M2 rfl rfl) ?_)));obtain ⟨hk33, h⟩ := chk_some h;refine zV R3 (Val.rem rfl rfl hk33) (zA R4 (zN (zU rfl (zM R4 (zM R4 ?_)))));obtain ⟨y36, hr36, h⟩ := andx_some h;refine TO.callT (first := []) (cap := []) (vs := [v2, iv ((Int.tmod (a27.toNat : Int) (qG.length : Int)))]) rfl rfl rfl rfl rfl rfl (orcN rfl) (tf_w1_Has aD (Rdl.mono (Rdl.own (C := ownL true v2 encI out :: .row b2 3 [qD, qC, qB] :: C) (p := 0) rfl) mem0) hr36) ?_;rintro _;refine zG (_::_::C) rfl (zV R3 (Val.not rfl) (zN ?_));obtain ⟨rfl, h⟩ | ⟨rfl, h⟩ := zZ h
    ·refine zD rfl (zK ?_);cases h;exact ⟨rfl, v2, (sb .refl)⟩
    refine zC rfl (zT rfl (zM R4 (zM R4 (TO.build1 (en := encI) (a := (Int.tmod (a27.toNat : Int) (qG.length : Int))) rfl rfl rfl ⟨rfl, rfl⟩ ⟨_, rfl, rfl⟩ (by decide) (by decide) rfl rfl (fun v40=>?_)))));obtain ⟨hk41, h⟩ := chk_some h;refine TO.eff rfl rfl rfl (Eff.append_own (b := 8) (en := encI) (l := out) (l2 := [(Int.tmod (a27.toNat : Int) (qG.length : Int))]) (p := 1) (q := 0) ⟨rfl, rfl, rfl, ⟨_, rfl, rfl⟩, by decide, by decide⟩ rfl rfl rfl rfl rfl rfl (flat_ones _) (by decide) hk41) ?_;rintro v41 _ rfl;refine zG (_::_::_::C) rfl (zA R4 (zN ?_));cases h;exact ⟨rfl, v41, (sb (pk [1,1,98] rfl))⟩
   ·rintro out_2 v2_2 h;refine zT rfl (zM R4 ?_);obtain ⟨hk24, h⟩ := chk_some h;refine zV R3 (Val.add rfl rfl hk24) (zA R4 (zN ?_));cases h;exact ⟨rfl, v2_2, (sb .refl)⟩
 ·rintro out v2 h;refine zU rfl (zM R4 (zA R4 (zN (zR ?_))));cases h;exact ⟨rfl, _, rfl, ⟨v2, rfl, (pk [0,98] rfl)⟩⟩
set_option maxRecDepth 10000 in
theorem tf_s9_trip {k : Nat} (hk : 0 ≤ k) {C : List Thing} {v_r_SfRoom_Classes : AV} {r_SfRoom_Classes : List Str} {v_r_SfRoom_Shelves : AV} {r_SfRoom_Shelves : List qH} {v_r_SfRoom_Books : AV} {r_SfRoom_Books : List qA} {v_books : AV} {books : List Int} {set : Int} (h_r_SfRoom_Classes : Rdl C encStr v_r_SfRoom_Classes r_SfRoom_Classes) (h_r_SfRoom_Shelves : Rdl C qU v_r_SfRoom_Shelves r_SfRoom_Shelves) (h_r_SfRoom_Books : Rdl C qN v_r_SfRoom_Books r_SfRoom_Books) (h_books : Rdl C encI v_books books) {r : Int × Int} (h : P_s9_trip r_SfRoom_Classes r_SfRoom_Shelves r_SfRoom_Books books set = some r) :
  TF (EL k) 111 [.agg [v_r_SfRoom_Classes, v_r_SfRoom_Shelves, v_r_SfRoom_Books], v_books, iv (set)] C (RepF (fun (w : Unit) => .tuple [iv r.1, iv r.2]) (fun (w : Unit) => C)) := by
 unfold P_s9_trip at h;refine TF.enter (fn := Go.Proofs.Tryz.f111) rfl rfl rfl rfl rfl (zU rfl (zQ 3 [_,_,_] R7 (fun b3=>zA R4 (zA R4 (zN (zU rfl (zA R4 (zN ?_))))))))
 show T _ _ _ _ _ _;apply T.joinA (r := r) (W := Unit) (fun j w => ⟨[], [(3, .ptr b3 0 3), (6, iv (j.1)), (7, iv (j.2.1)), (8, iv (j.2.2))], .row b3 3 [v_r_SfRoom_Classes, v_r_SfRoom_Shelves, v_r_SfRoom_Books] :: C⟩) h
 ·intro j h;refine zU rfl (zM R4 (zV R3 (Val.len_l h_books M1 rfl rfl) (zM R4 (zN (zB ?_)))))
  show T _ _ _ _ _ _;apply T.iter (r := j) (W := Unit) (fun j w => ⟨[], [(2, iv (set)), (3, .ptr b3 0 3), (6, iv (j.1)), (7, iv (j.2.1)), (8, iv (j.2.2.1)), (14, v_books), (15, iv ((books.length : Int))), (16, iv (j.2.2.2))], .row b3 3 [v_r_SfRoom_Classes, v_r_SfRoom_Shelves, v_r_SfRoom_Books] :: C⟩) (w0 := ()) h
  ·exact (sb .refl)
  rintro ⟨way, heavy, seen, x16⟩ _ a h;unfold P_s9_trip_L1 at h;dsimp only at h;dsimp only;refine zU rfl ?_;obtain ⟨c17, hc17⟩ := zY (x16 < (books.length : Int));refine zV R3 (Val.lss hc17 rfl rfl) (zN (zS ?_));obtain ⟨rfl, hc17, h⟩ | ⟨rfl, hc17, h⟩ := zI hc17 h
  ·refine zC rfl (zK ?_)
   show T _ _ _ _ _ _;apply T.joinA (r := a) (W := Unit) (fun j w => ⟨[], [(2, iv (set)), (3, .ptr b3 0 3), (6, iv (j.1)), (7, iv (j.2.1)), (8, iv (j.2.2)), (14, v_books), (15, iv ((books.length : Int))), (16, iv (x16))], .row b3 3 [v_r_SfRoom_Classes, v_r_SfRoom_Shelves, v_r_SfRoom_Books] :: C⟩) h
   ·intro j h;refine zB (zU rfl (zM R4 ?_));obtain ⟨a19, hia19, ea19, h⟩ := el_some h;refine TO.fact (rdl_at h_books M1 hia19 ea19) (fun hp=>?_);obtain ⟨pa19, hpa19, hva19⟩ := hp;refine zV R3 (hva19 ⟨rfl, rfl⟩ rfl rfl) (zV R3 (Val.load_e hpa19 M1 ⟨_, rfl, rfl⟩ rfl rfl) (zA R4 (zA R4 (zN (zS (zU rfl (zM R4 (zM R4 ?_))))))));obtain ⟨hk23, h⟩ := chk_some h;refine zV R3 (Val.shr rfl rfl hk23) (zV R3 (Val.and rfl rfl) ?_);obtain ⟨c25, hc25⟩ := zY ((andI (shrI set x16) 1) = 0);refine zV R3 (Val.eql hc25 rfl rfl) (zN ?_);obtain ⟨rfl, hc25, h⟩ | ⟨rfl, hc25, h⟩ := zI hc25 h
    ·refine zC rfl (zE ?_);cases h;exact ⟨rfl, (), (sb .refl)⟩
    refine zD rfl (zK (zU rfl (zF 0 R6 (zF 2 R6 (zL 0 R3 R6 (zM R4 ?_))))));obtain ⟨a30, hia30, ea30, h⟩ := el_some h;refine TO.fact (rdl_at h_r_SfRoom_Books M1 hia30 ea30) (fun hp=>?_);obtain ⟨pa30, hpa30, hva30⟩ := hp;refine zV R3 (hva30 ⟨rfl, rfl⟩ rfl rfl) (zV R3 (Val.load_es (c := [_, _, _, _, _, _, _]) hpa30 M1 ⟨⟨_, rfl, rfl⟩, rfl, by decide⟩ rfl rfl rfl) (zJ 7 [_,_,_,_,_,_,_] R7 (fun b11=>TO.eff0 rfl rfl (Eff.store_row (p := 0) (cv := [_, _, _, _, _, _, _]) (cells' := [_, _, _, _, _, _, _]) rfl rfl rfl rfl rfl rfl rfl rfl aG (by decide) rfl) ?_)));rintro _ rfl;refine zG (_::_::C) rfl (zN (zU rfl (zM R4 (zF 5 R6 (zL 0 R3 R6 ?_)))));obtain ⟨hk35, h⟩ := chk_some h;refine zV R3 (Val.add rfl rfl hk35) (zA R4 (zN (zU rfl (zM R4 (zF 0 R6 (zF 1 R6 (zL 1 R3 R6 (zF 6 R6 (zL 0 R3 R6 ?_)))))))));obtain ⟨a42, hia42, ea42, h⟩ := el_some h;refine TO.fact (rdl_at h_r_SfRoom_Shelves M2 hia42 ea42) (fun hp=>?_);obtain ⟨pa42, hpa42, hva42⟩ := hp;refine zV R3 (hva42 ⟨rfl, rfl⟩ rfl rfl) (zV R3 (Val.faddr_e (fo := 0) hpa42 rfl rfl rfl) (zV R3 (Val.load_e (PtE.add hpa42 (by decide)) M2 ⟨_, rfl, rfl⟩ rfl rfl) (zV R3 (Val.bmax rfl rfl) (zA R4 (zN (zT rfl (zM R4 (zF 6 R6 (zL 0 R3 R6 ?_)))))))));obtain ⟨hk49, h⟩ := chk_some h;refine zV R3 (Val.shl rfl rfl hk49) (zV R3 (Val.or rfl rfl) (zA R4 (zN ?_)));cases h;exact ⟨rfl, (), (sb (pk [1,98] rfl))⟩
   ·rintro ⟨way_2, heavy_2, seen_2⟩ _ h;dsimp only at h;dsimp only;refine zT rfl ?_;obtain ⟨hk51, h⟩ := chk_some h;refine zV R3 (Val.add rfl rfl hk51) (zM R4 (zN ?_));cases h;exact ⟨rfl, (), (sb .refl)⟩
  refine zD rfl (zE ?_);cases h;exact ⟨ex_ne, ⟨rfl, (), (sb .refl)⟩⟩
 ·rintro ⟨way, heavy, seen⟩ _ h;dsimp only at h;dsimp only
  show T _ _ _ _ _ _;apply T.joinA (r := r) (W := Unit) (fun j w => ⟨[], [(6, iv (j)), (7, iv (heavy))], C⟩) h
  ·intro j h;refine zU rfl (zF 0 R6 (zF 1 R6 (zL 0 R3 R6 (zV R3 (Val.len_l h_r_SfRoom_Shelves M1 rfl rfl) (zM R4 (zN (zB ?_)))))))
   show T _ _ _ _ _ _;apply T.iter (r := j) (W := Unit) (fun j w => ⟨[], [(6, iv (j.1)), (7, iv (heavy)), (8, iv (seen)), (54, v_r_SfRoom_Shelves), (55, iv ((r_SfRoom_Shelves.length : Int))), (56, iv (j.2))], C⟩) (w0 := ()) h
   ·exact (sb (pk [98] rfl))
   rintro ⟨way_2, x56⟩ _ a h;unfold P_s9_trip_L2 at h;dsimp only at h;dsimp only;refine zU rfl ?_;obtain ⟨c57, hc57⟩ := zY (x56 < (r_SfRoom_Shelves.length : Int));refine zV R3 (Val.lss hc57 rfl rfl) (zN (zS ?_));obtain ⟨rfl, hc57, h⟩ | ⟨rfl, hc57, h⟩ := zI hc57 h
   ·refine zC rfl (zK (zS (zB (zU rfl (zM R4 ?_)))));obtain ⟨a59, hia59, ea59, h⟩ := el_some h;refine TO.fact (rdl_at h_r_SfRoom_Shelves mem0 hia59 ea59) (fun hp=>?_);obtain ⟨pa59, hpa59, hva59⟩ := hp;refine zV R3 (hva59 ⟨rfl, rfl⟩ rfl rfl) (zV R3 (Val.load_es (c := [_, _, _, _]) hpa59 mem0 ⟨⟨_, rfl, rfl⟩, rfl, by decide⟩ rfl rfl rfl) (zJ 4 [_,_,_,_] R7 (fun b13=>zA R4 (TO.eff0 rfl rfl (Eff.store_row (p := 0) (cv := [_, _, _, _]) (cells' := [_, _, _, _]) rfl rfl rfl rfl rfl rfl rfl rfl aG (by decide) rfl) ?_))));rintro _ rfl;refine zG (_::C) rfl (zN (T.draw (fun v => sameC_refl v) (l1 := [0, 1, 2, 3, 4, 5, 6, 7, 8, 9]) (l2 := []) (by kernel_rfl) (by kernel_rfl) (zM R4 (zM R4 (zM R4 ?_)))));obtain ⟨hk64, h⟩ := chk_some h;refine zV R3 (Val.shr rfl rfl hk64) (zV R3 (Val.and rfl rfl) (zF 1 R6 (zL 0 R3 R6 ?_)));obtain ⟨hk68, h⟩ := chk_some h;refine zV R3 (Val.mul rfl rfl hk68) ?_;obtain ⟨hk69, h⟩ := chk_some h;refine zV R3 (Val.add rfl rfl hk69) (zA R4 (zN (zT rfl ?_)));obtain ⟨hk70, h⟩ := chk_some h;refine zV R3 (Val.add rfl rfl hk70) (zM R4 (zN ?_));cases h;exact ⟨rfl, (), (sb (pk [98] rfl))⟩
   refine zD rfl (zE ?_);cases h;exact ⟨ex_ne, ⟨rfl, (), (sb .refl)⟩⟩
  ·rintro way_2 _ h;refine zU rfl (zM R4 ?_);obtain ⟨hk72, h⟩ := chk_some h;refine zV R3 (Val.mul rfl rfl hk72) (zM R4 (zA R4 (zA R4 (zN (zR ?_)))));cases h;exact ⟨rfl, _, rfl, ⟨(), rfl, .refl⟩⟩
end Go.Am.YtiaolgbmbhldgaaGreatDoor
end
section
namespace Go.Am
open Go.RowKit
set_option linter.unusedVariables false
set_option linter.unusedSimpArgs false
abbrev K3 := Int × Int × Int
def keyV (k : K3) : Value := .agg #[.int .i64 k.1, .int .i64 k.2.1, .int .i64 k.2.2]
def entM : List (K3 × AV) → Nat → List (Value × AV × Nat)
 | [], _ => []
 | e :: r, i => (keyV e.1, e.2, i) :: entM r (i + 1)
def memT (id : Nat) (m : List (K3 × AV)) : Thing := .obj id (.map (entM m 0) m.length)
section
variable {E : Env} {d : Bool} {n : Nat} {rnd : Option Nat} {ops : Array Oper} {i : Nat} {ns : List Nat} {ms : List Dfr} {σ : Sl} {hs hs' : List Thing} {Q : Sy → Prop} {t : Tmp} {op : Op} {ty : TypeId} {pos : String} {af : Array Edge} {g : Option (Nat × Bool)}
end
end Go.Am
end
section
namespace Go.Am
open Go.RowKit
set_option linter.unusedVariables false
set_option linter.unusedSimpArgs false
section
variable {E : Env} {σ : Sl} {hs hs' : List Thing} {bt : TypeId} {x y : Operand} {p id u k m : Nat} {n a : Int} {l l' : List Int}
end
end Go.Am
end
section
namespace Go.Am
end Go.Am
end
section
namespace Go.Am
open Go.RowKit
set_option linter.unusedVariables false
set_option linter.unusedSimpArgs false
def nelL {α : Type} (ls : List (List α)) (i : Nat) : List α := ls.getD i []
theorem nelL_of {α : Type} {ls : List (List α)} {i : Nat} {l : List α} (h : ls[i]? = some l) : nelL ls i = l := by
 unfold nelL;rw [List.getD_eq_getElem?_getD, h];rfl
section
variable {E : Env} {hs hs' C : List Thing}
end
end Go.Am
end
section
namespace Go.Am
set_option linter.unusedVariables false
end Go.Am
end
section
namespace Go.Am.YtiaolgbmbhldgaaGreatDoor
open Go.Am Go.RowKit
set_option linter.unusedVariables false
set_option linter.unusedSimpArgs false
end Go.Am.YtiaolgbmbhldgaaGreatDoor
end
section
namespace Go.Am
set_option linter.unusedVariables false
theorem i64_small {x : Int} (h : -4000000000000000000 ≤ x ∧ x ≤ 4000000000000000000) : I64 x := by unfold I64; omega
section
variable {σ ε J A β : Type}
def CountQ (idx : σ → Int) (I : Nat → σ → Prop) (k : Nat) (Q : ε → Prop) : Stp σ ε → Prop
 | .ag s => idx s = k + 1 ∧ I (k + 1) s
 | .dn e => Q e
def FinQ (Q : ε → Prop) : Stp σ ε → Prop
 | .ag _ => False
 | .dn e => Q e
theorem Ok.count (idx : σ → Int) (n : Nat) (I : Nat → σ → Prop) {body : σ → Option (Stp σ ε)} {s0 : σ} {Q : ε → Prop} (h0 : idx s0 = 0) (hI : I 0 s0)
  (step : ∀ k s, k < n → idx s = k → I k s → Ok (body s) (CountQ idx I k Q)) (fin : ∀ s, idx s = n → I n s → Ok (body s) (FinQ Q)) : Ok (Am.iter body s0) Q := by
 refine Ok.iter (fun s => ∃ k : Nat, k ≤ n ∧ idx s = k ∧ I k s) (fun s => n - (idx s).toNat) ⟨0, Nat.zero_le _, h0, hI⟩ ?_;rintro s ⟨k, hk, hx, hi⟩
 by_cases hlt : k < n
 ·refine (step k s hlt hx hi).mono fun x hq => ?_
  cases x with
  | ag s' =>
   have h1 : idx s' = k + 1 := hq.1;exact ⟨⟨k + 1, by omega, by rw [h1]; rfl, hq.2⟩, by show n - (idx s').toNat < n - (idx s).toNat; rw [h1, hx]; omega⟩
  | dn e => exact hq
 ·have : k = n := by omega
  subst this;refine (fin s hx hi).mono fun x hq => ?_
  cases x with
  | ag s' => exact hq.elim
  | dn e => exact hq
end
end Go.Am
end
section
namespace Go.Am
set_option linter.unusedVariables false
set_option linter.unusedSimpArgs false
open Classical in
noncomputable def scanX {A : Type} (f : Nat → Option A) (n : Nat) : Ex Unit A := match (List.range n).findSome? f with | some a => .rt a | none => .nx ()
theorem find_range {A : Type} {f : Nat → Option A} {a : A} : ∀ {n k : Nat}, k < n → (∀ j, j < k → f j = none) → f k = some a → (List.range n).findSome? f = some a := by
 intro n
 induction n with
 | zero => intro k hk; omega
 | succ n ih =>
  intro k hk h0 h1;rw [List.range_succ, List.findSome?_append]
  by_cases hkn : k = n
  ·subst hkn
   have : (List.range k).findSome? f = none := by
    rw [List.findSome?_eq_none_iff];intro x hx;exact h0 x (List.mem_range.1 hx)
   rw [this];simp [h1]
  ·rw [ih (by omega) h0 h1]; rfl
theorem find_none {A : Type} {f : Nat → Option A} {n : Nat} (h : ∀ j, j < n → f j = none) : (List.range n).findSome? f = none := by
 rw [List.findSome?_eq_none_iff];intro x hx;exact h x (List.mem_range.1 hx)
theorem of_find_none {A : Type} {f : Nat → Option A} {n : Nat} (h : (List.range n).findSome? f = none) : ∀ j, j < n → f j = none := by
 rw [List.findSome?_eq_none_iff] at h;exact fun j hj => h j (List.mem_range.2 hj)
def scanS {A : Type} {σ : Type} (s : σ) : Option A → Stp σ (Ex Unit A)
 | none => .ag s
 | some a => .dn (.rt a)
theorem iter_scan {A σ : Type} (idx : Nat → σ) (f : Nat → Option A) (n : Nat) {body : σ → Option (Stp σ (Ex Unit A))} (inj : ∀ k, idx k = idx k)
  (step : ∀ k : Nat, k < n → (∀ j, j < k → f j = none) → body (idx k) = some (scanS (idx (k + 1)) (f k)))
  (fin : (∀ j, j < n → f j = none) → body (idx n) = some (.dn (.nx ()))) : iter body (idx 0) = some (scanX f n) := by
 have key : ∀ m k : Nat, m = n - k → k ≤ n → (∀ j, j < k → f j = none) → iter body (idx k) = some (scanX f n) := by
  intro m
  induction m with
  | zero =>
   intro k hm hk h0
   have : k = n := by omega
   subst this;refine iter_eq.2 (.inr ?_);rw [fin h0];simp [scanX, find_none h0]
  | succ m ih =>
   intro k hm hk h0;cases hf : f k with
   | none =>
    refine iter_eq.2 (.inl ⟨idx (k + 1), ?_, ih (k + 1) (by omega) (by omega) fun j hj => ?_⟩)
    ·rw [step k (by omega) h0, hf]; rfl
    ·by_cases e : j = k
     ·rw [e]; exact hf
     ·exact h0 j (by omega)
   | some a =>
    refine iter_eq.2 (.inr ?_);rw [step k (by omega) h0, hf];simp [scanS, scanX, find_range (show k < n by omega) h0 hf]
 exact key n 0 (by omega) (by omega) (fun j hj => by omega)
theorem iter_scanI {A : Type} (f : Nat → Option A) (n : Nat) {body : Int → Option (Stp Int (Ex Unit A))}
  (step : ∀ k : Nat, k < n → (∀ j, j < k → f j = none) → body (k : Int) = some (scanS ((k : Int) + 1) (f k)))
  (fin : (∀ j, j < n → f j = none) → body (n : Int) = some (.dn (.nx ()))) : iter body 0 = some (scanX f n) :=
 iter_scan (fun k => (k : Int)) f n (fun _ => rfl) (fun k hk h => step k hk h) fin
theorem seqx_scan {A : Type} {f : Nat → Option A} {n : Nat} {k : Unit → Option A} : seqx (some (scanX f n)) k = match (List.range n).findSome? f with | some a => some a | none => k () := by
 unfold scanX;cases (List.range n).findSome? f <;> rfl
theorem el_at {α β : Type} {l : List α} {k : Nat} {a : α} {g : α → Option β} (h : l[k]? = some a) : el l (k : Int) g = g a := by
 unfold el;simp [h]
theorem get!_mk (l : Str) (i : Nat) : (⟨l.toArray⟩ : ByteArray).get! i = l.getD i 0 := by
 show l.toArray[i]! = _;rw [getElem!_def];simp [List.getD];cases l[i]? <;> rfl
theorem rune_ascii {l : Str} {p : Nat} {b : UInt8} (hb : l[p]? = some b) (h : b.toNat < 128) : runeAt l p = b.toNat ∧ runeLen l p = 1 := by
 have e : (⟨l.toArray⟩ : ByteArray).get! (p + 0) = b := by rw [get!_mk]; simp [List.getD, hb]
 unfold runeAt runeLen Utf8.decode;simp only [e];rw [if_pos h];exact ⟨rfl, rfl⟩
theorem rune_high {l : Str} {p : Nat} {b : UInt8} (hb : l[p]? = some b) (h : 128 ≤ b.toNat) : 128 ≤ runeAt l p := by
 have e : (⟨l.toArray⟩ : ByteArray).get! (p + 0) = b := by rw [get!_mk]; simp [List.getD, hb]
 unfold runeAt Utf8.decode;simp only [e, Utf8.runeError];rw [if_neg (by omega)];split
 ·split
  ·rename_i h1 h2; simp only [ge_iff_le] at h2; simp only; omega
  ·simp only; omega
 ·split
  ·split
   ·rename_i h1 h2; simp only [ge_iff_le, Bool.and_eq_true, decide_eq_true_eq] at h2; simp only; omega
   ·simp only; omega
  ·split
   ·split
    ·rename_i h1 h2; simp only [ge_iff_le, Bool.and_eq_true, decide_eq_true_eq] at h2; simp only; omega
    ·simp only; omega
   ·simp only; omega
def lowerN (x : Int) : Prop := 97 ≤ x ∧ x ≤ 122
def nameN (i : Nat) (x : Int) : Prop := lowerN x ∨ (0 < i ∧ ((48 ≤ x ∧ x ≤ 57) ∨ x = 46))
def isName (s : Str) : Prop := 0 < s.length ∧ s.length ≤ 16 ∧ ∀ i, i < s.length → nameN i (byteAt s i)
def isLow (s : Str) : Prop := ∀ i, i < s.length → lowerN (byteAt s i)
theorem byteAt_of {l : Str} {k : Nat} {b : UInt8} (h : l[k]? = some b) : byteAt l (k : Int) = b.toNat := by
 simp [byteAt, List.getD, h]
theorem get_some {α : Type} {l : List α} {k : Nat} (h : k < l.length) : ∃ a, l[k]? = some a := ⟨l[k], List.getElem?_eq_getElem h⟩
theorem byteAt_lt (l : Str) (k : Int) : 0 ≤ byteAt l k ∧ byteAt l k < 256 := by
 have := (l.getD k.toNat 0).toNat_lt;unfold byteAt;omega
theorem rune_low {l : Str} {p : Nat} (hp : p < l.length) : (runeAt l p = byteAt l p ∧ runeLen l p = 1) ∨ (128 ≤ runeAt l p ∧ 128 ≤ byteAt l p) := by
 obtain ⟨b, hb⟩ := get_some hp;rw [byteAt_of hb]
 by_cases h : b.toNat < 128
 ·exact .inl (rune_ascii hb h)
 ·exact .inr ⟨rune_high hb (by omega), by omega⟩
open Classical in
theorem find_if {A : Type} {P : Nat → Prop} {a : A} {n : Nat} : (List.range n).findSome? (fun i => if P i then none else some a) = if ∀ j, j < n → P j then none else some a := by
 by_cases h : ∀ j, j < n → P j
 ·rw [if_pos h, find_none fun j hj => if_pos (h j hj)]
 ·rw [if_neg h];cases hf : (List.range n).findSome? (fun i => if P i then none else some a) with
  | none =>
   refine absurd (fun i hi => ?_) h
   have := of_find_none hf i hi
   by_cases hl : P i
   ·exact hl
   ·rw [if_neg hl] at this; cases this
  | some b =>
   obtain ⟨x, hx, hx'⟩ := List.exists_of_findSome?_eq_some hf;split at hx'
   ·cases hx'
   ·exact hx'.symm
open Classical in
theorem r9_letters_eq (s : Str) (hs : s.length ≤ 1000) : P_r9_letters s = some (decide (isLow s)) := by
 unfold P_r9_letters;rw [iter_scanI (fun i => if lowerN (byteAt s i) then none else some false) s.length, seqx_scan, find_if]
 ·by_cases h : ∀ j, j < s.length → lowerN (byteAt s j)
  ·rw [if_pos h, decide_eq_true (show isLow s from h)]
  ·rw [if_neg h, decide_eq_false (show ¬ isLow s from h)]
 ·intro k hk h0;unfold P_r9_letters_L1;rw [if_pos (by omega), chk_pos (by omega), chk_pos (by omega), chk_pos (i64_small (by omega))];unfold lowerN;generalize byteAt s (k : Int) = x
  by_cases h1 : x < 97
  ·rw [if_pos h1, if_neg (by omega)]; rfl
  ·rw [if_neg h1]
   by_cases h2 : x > 122
   ·rw [if_neg (by omega), decide_eq_true h2]; rfl
   ·rw [if_pos (by omega), decide_eq_false h2]; rfl
 ·intro h0;unfold P_r9_letters_L1;rw [if_neg (by omega)]
theorem andx_some' {α β : Type} {a : α} {k : α → Option β} : andx (some a) k = k a := rfl
open Classical in
theorem r1_Name_eq (s : Str) : P_r1_Name s = some (decide (isName s)) := by
  unfold P_r1_Name
  by_cases h0 : s.length = 0
  · have : ¬ isName s := fun h => by have := h.1; omega
    rw [if_pos (by omega)]; simp [seqx, andx, this]
  by_cases h1 : 16 < s.length
  · have : ¬ isName s := fun h => by have := h.2.1; omega
    rw [if_neg (by omega), decide_eq_true (by omega)]; simp [seqx, andx, this]
  rw [if_neg (by omega), decide_eq_false (by omega)]
  show seqx (iter _ _) _ = _
  rw [iter_scanI (fun i => if nameN i (byteAt s i) then none else some false) s.length, seqx_scan, find_if]
  · by_cases h : ∀ j, j < s.length → nameN j (byteAt s j)
    · rw [if_pos h, decide_eq_true ⟨by omega, by omega, h⟩]
    · rw [if_neg h, decide_eq_false fun k => h k.2.2]
  · intro k hk hj
    unfold P_r1_Name_L1
    rw [if_pos (by omega)]
    simp only [chk_pos (show 0 ≤ (k : Int) ∧ (k : Int) < (s.length : Int) by omega), chk_pos (show I64 ((k : Int) + 1) from i64_small (by omega))]
    unfold nameN lowerN
    generalize byteAt s (k : Int) = x
    by_cases a1 : x ≥ 97 <;> by_cases a2 : x ≤ 122 <;> by_cases a3 : k = 0 <;> by_cases a4 : x ≥ 48 <;> by_cases a5 : x ≤ 57 <;> by_cases a6 : x = 46 <;>
      first
      | (exfalso; omega)
      | (rw [if_pos (show (97 ≤ x ∧ x ≤ 122) ∨ (0 < k ∧ ((48 ≤ x ∧ x ≤ 57) ∨ x = 46)) by omega)]; simp [andx, seqx, scanS, a1, a2, a3, a4, a5, a6]; done)
      | (rw [if_neg (show ¬ ((97 ≤ x ∧ x ≤ 122) ∨ (0 < k ∧ ((48 ≤ x ∧ x ≤ 57) ∨ x = 46))) by omega)]; simp [andx, seqx, scanS, a1, a2, a3, a4, a5, a6]; done)
  · intro hj
    unfold P_r1_Name_L1
    rw [if_neg (by omega)]
open Classical in
theorem q_Name_eq (s : Str) : P_q_Name s = some (decide (isName s)) := by
  unfold P_q_Name
  rw [iter_scan (fun k : Nat => k) (fun i => if nameN i (byteAt s i) then none else some false) s.length (fun _ => rfl), seqx_scan, find_if]
  · by_cases h : ∀ j, j < s.length → nameN j (byteAt s j)
    · rw [if_pos h]
      show andx _ _ = _
      by_cases h0 : s = []
      · subst h0
        have : ¬ isName [] := fun h => absurd h.1 (by simp)
        simp [andx, this]
      · have hpos : 0 < s.length := List.length_pos_iff.2 h0
        rw [if_pos h0]
        show some _ = some _
        congr 1
        by_cases h1 : s.length ≤ 16
        · rw [decide_eq_true (by omega), decide_eq_true ⟨hpos, h1, h⟩]
        · rw [decide_eq_false (by omega), decide_eq_false fun k => h1 k.2.1]
    · rw [if_neg h, decide_eq_false (show ¬ isName s from fun k => h k.2.2)]
  · intro k hk hj
    unfold P_q_Name_L1
    rw [if_pos hk]
    show _ = some (scanS (k + 1) _)
    have hb := byteAt_lt s (k : Int)
    unfold nameN lowerN
    rcases rune_low hk with ⟨h1, h2⟩ | ⟨h1, h2⟩
    · rw [h1, h2]
      generalize byteAt s (k : Int) = x
      by_cases a1 : x ≥ 97 <;> by_cases a2 : x ≤ 122 <;> by_cases a3 : 0 < k <;> by_cases a4 : x ≥ 48 <;> by_cases a5 : x ≤ 57 <;> by_cases a6 : x = 46 <;>
        first
        | (exfalso; omega)
        | (rw [if_pos (show (97 ≤ x ∧ x ≤ 122) ∨ (0 < k ∧ ((48 ≤ x ∧ x ≤ 57) ∨ x = 46)) by omega)]; simp [andx, scanS, a1, a2, a3, a4, a5, a6]; done)
        | (rw [if_neg (show ¬ ((97 ≤ x ∧ x ≤ 122) ∨ (0 < k ∧ ((48 ≤ x ∧ x ≤ 57) ∨ x = 46))) by omega)]; simp [andx, scanS, a1, a2, a3, a4, a5, a6]; done)
    · generalize byteAt s (k : Int) = x at *
      generalize runeAt s k = y at *
      rw [if_neg (show ¬ ((97 ≤ x ∧ x ≤ 122) ∨ (0 < k ∧ ((48 ≤ x ∧ x ≤ 57) ∨ x = 46))) by omega)]
      have a1 : y ≥ 97 := by omega
      have a2 : ¬ y ≤ 122 := by omega
      have a4 : y ≥ 48 := by omega
      have a5 : ¬ y ≤ 57 := by omega
      have a6 : ¬ y = 46 := by omega
      by_cases a3 : 0 < k <;> simp [andx, scanS, a1, a2, a3, a4, a5, a6]
  · intro hj
    unfold P_q_Name_L1
    rw [if_neg (by omega)]
end Go.Am
end
section
namespace Go.Am
set_option linter.unusedVariables false
set_option linter.unusedSimpArgs false
open Classical in
theorem r9_in_eq (n a b : Int) : P_r9_in n a b = some (decide (a ≤ n ∧ n ≤ b)) := by
 unfold P_r9_in
 by_cases h : a ≤ n
 ·rw [if_pos h]
  by_cases h2 : n ≤ b
  ·simp [andx, h, h2]
  ·simp [andx, h2]
 ·rw [if_neg h]; simp [andx, h]
open Classical in
theorem find_idx {P : Nat → Prop} {n : Nat} : ((∀ j, j < n → P j) ∧ (List.range n).findSome? (fun i => if P i then none else some (i : Int)) = none) ∨ ((¬ ∀ j, j < n → P j) ∧ ∃ k : Int, 0 ≤ k ∧ (List.range n).findSome? (fun i => if P i then none else some (i : Int)) = some k) := by
 by_cases h : ∀ j, j < n → P j
 ·exact .inl ⟨h, find_none fun j hj => if_pos (h j hj)⟩
 ·refine .inr ⟨h, ?_⟩;cases hf : (List.range n).findSome? (fun i => if P i then none else some (i : Int)) with
  | none =>
   refine absurd (fun i hi => ?_) h
   have := of_find_none hf i hi
   by_cases hl : P i
   ·exact hl
   ·rw [if_neg hl] at this; cases this
  | some k =>
   obtain ⟨x, hx, hx'⟩ := List.exists_of_findSome?_eq_some hf;split at hx'
   ·cases hx'
   ·cases hx'; exact ⟨_, by omega, rfl⟩
def btw (lo hi x : Int) : Prop := lo ≤ x ∧ x ≤ hi
def btwAt (lo hi : Int) (l : List Int) (i : Nat) : Prop := ∀ x, l[i]? = some x → btw lo hi x
open Classical in
theorem s9_out_eq (lo hi : Int) (l : List Int) (hl : l.length ≤ 1000) : P_s9_out lo hi l = some (decide (¬ ∀ j, j < l.length → btwAt lo hi l j)) := by
 unfold P_s9_out;rw [iter_scanI (fun i => if btwAt lo hi l i then none else some (i : Int)) l.length, seqx_scan]
 ·rcases find_idx (P := btwAt lo hi l) (n := l.length) with ⟨h, e⟩ | ⟨h, k, hk, e⟩
  ·rw [e]
   have : ¬ ¬ ∀ j, j < l.length → btwAt lo hi l j := fun hn => hn h
   simp only [andx];rw [decide_eq_false this]; rfl
  ·rw [e];simp only [andx];rw [decide_eq_true h, decide_eq_true hk]
 ·intro k hk _;unfold P_s9_out_L1;obtain ⟨a, ha⟩ := get_some hk;rw [if_pos (by omega), el_at ha, chk_pos (i64_small (by omega))]
  have e : btwAt lo hi l k ↔ (lo ≤ a ∧ a ≤ hi) := by
   unfold btwAt; rw [ha]; exact ⟨fun h => h a rfl, fun h x hx => by cases hx; exact h⟩
  by_cases h1 : a < lo
  ·rw [if_pos h1, if_neg (fun h => by have := e.1 h; omega)]; rfl
  ·rw [if_neg h1]
   by_cases h2 : a > hi
   ·rw [decide_eq_true h2, if_neg (fun h => by have := e.1 h; omega)]; rfl
   ·rw [decide_eq_false h2, if_pos (e.2 (by omega))]; rfl
 ·intro _;unfold P_s9_out_L1;rw [if_neg (by omega)]
open Classical in
theorem s9_out1 (lo hi a : Int) : P_s9_out lo hi [a] = some (decide (¬ btw lo hi a)) := by
 rw [s9_out_eq _ _ _ (by simp)]
 congr 1
 refine decide_eq_decide.2 ?_;refine not_congr ⟨fun h => h 0 (by simp) a rfl, fun h j hj x hx => ?_⟩
 match j with
 | 0 => cases hx; exact h
open Classical in
theorem s9_out2 (lo hi a b : Int) : P_s9_out lo hi [a, b] = some (decide (¬ (btw lo hi a ∧ btw lo hi b))) := by
 rw [s9_out_eq _ _ _ (by simp)]
 congr 1
 refine decide_eq_decide.2 ?_;refine not_congr ⟨fun h => ⟨h 0 (by simp) a rfl, h 1 (by simp) b rfl⟩, fun h j hj x hx => ?_⟩
 match j with
 | 0 => cases hx; exact h.1
 | 1 => cases hx; exact h.2
theorem r1_Place_ok (l : List Str) (w : Str) (hl : l.length ≤ 1000) : Ok (P_r1_Place l w) fun r => (0 ≤ r ↔ w ∈ l) := by
 unfold P_r1_Place;refine .chk (i64_small (by omega)) ?_;refine Ok.andx (P := fun at_ : Int => (0 ≤ at_ ↔ w ∈ l) ∧ at_ < l.length) ?_ ?_
 ·refine Ok.iter (fun at_ : Int => (-1 ≤ at_ ∧ at_ < l.length) ∧ ∀ j : Nat, at_ < j → l[j]? ≠ some w) (fun at_ : Int => (at_ + 1).toNat) ⟨by omega, fun j hj hj' => ?_⟩ ?_
  ·have := (List.getElem?_eq_some_iff.1 hj').1;omega
  ·rintro at_ ⟨h1, h2⟩;unfold P_r1_Place_L1
   by_cases h3 : at_ ≥ 0
   ·rw [if_pos h3];obtain ⟨k, rfl⟩ := Int.eq_ofNat_of_zero_le h3;obtain ⟨a, ha⟩ := get_some (l := l) (k := k) (by omega);rw [el_at ha]
    by_cases h4 : a = w
    ·simp only [h4, not_true, decide_false, andx, seqx];refine .some ⟨⟨fun _ => h4 ▸ List.mem_of_getElem? ha, fun _ => h3⟩, h1.2⟩
    ·simp only [h4, not_false_iff, decide_true, andx, seqx, if_true];refine .chk (i64_small (by omega)) (.some ⟨⟨by omega, fun j hj => ?_⟩, by show ((k : Int) - 1 + 1).toNat < ((k : Int) + 1).toNat; omega⟩)
     by_cases hjk : j = k
     ·subst hjk; rw [ha]; exact fun e => h4 (by cases e; rfl)
     ·exact h2 j (by omega)
   ·rw [if_neg h3];simp only [andx, seqx];refine .some ⟨⟨fun h => absurd h h3, fun h => ?_⟩, h1.2⟩;obtain ⟨j, hj⟩ := List.getElem?_of_mem h;exact absurd hj (h2 j (by omega))
 ·rintro at_ ⟨h1, h2⟩;refine Ok.seqx ?_
  by_cases h0 : 0 ≤ at_
  ·refine Ok.count id at_.toNat (fun _ _ => True) rfl trivial ?_ ?_
   ·rintro k x hk hx _;simp only [id] at hx;subst hx;unfold P_r1_Place_L2;obtain ⟨a, ha⟩ := get_some (l := l) (k := k) (by omega);rw [if_pos (by omega), el_at ha];refine .ite (fun h => .some ?_) (fun h => .chk (i64_small (by omega)) (.some ⟨rfl, trivial⟩))
    show (0 ≤ (k : Int) ↔ w ∈ l);exact ⟨fun _ => h1.1 h0, fun _ => by omega⟩
   ·rintro x hx _;simp only [id] at hx;unfold P_r1_Place_L2;rw [if_neg (by omega)];exact .some (.some h1)
  ·refine Ok.count id 0 (fun _ _ => True) rfl trivial (fun k x hk => by omega) ?_;rintro x hx _;simp only [id] at hx;unfold P_r1_Place_L2;rw [if_neg (by omega)];exact .some (.some h1)
open Classical in
noncomputable def clErr (cl : List Str) (i : Nat) (a : Str) : Int := if isName a then (if a ∈ cl.take i then 5 else 0) else 6
open Classical in
theorem r1_Fresh_eq (w : Str) (cl : List Str) (i : Nat) (hl : cl.length ≤ 1000) : P_r1_Fresh w (cl.take i) = some (clErr cl i w) := by
 refine Ok.get ?_;unfold P_r1_Fresh;refine Ok.andx (P := fun e => e = if w ∈ cl.take i then 5 else 0) ((r1_Place_ok _ w (by rw [List.length_take]; omega)).andx fun r hr => ?_) ?_
 ·refine .ite (fun h => .some ?_) (fun h => .some ?_)
  ·rw [if_pos (hr.1 h)]
  ·rw [if_neg fun h' => h (hr.2 h')]
 ·rintro e he;rw [r1_Name_eq];unfold clErr;subst he
  by_cases h : isName w
  ·simp only [h, decide_true, andx, if_true]; exact .some rfl
  ·simp only [h, decide_false, andx, if_false, Bool.false_eq_true]; exact .some rfl
end Go.Am
end
section
namespace Go.Am
set_option linter.unusedVariables false
set_option linter.unusedSimpArgs false
def shOk (a : qH) : Prop := (btw 0 1000 a.away ∧ btw 0 1000 a.climb) ∧ (btw 1 2000 a.wide ∧ btw 1 2000 a.high)
open Classical in
noncomputable def shErr (a : qH) : Int := if shOk a then 0 else 7
open Classical in
noncomputable def mkErr (ncl : Nat) (c n : Int) (s : Str) : Int :=
 if btw 0 ((ncl : Int) - 1) c then (if btw 1 9999 n then (if s.length ≤ 2 then (if isLow s then 0 else 6) else 6) else 7) else 4
open Classical in
theorem r9_Mark_eq {cl : List Str} {sh : List qH} {bs : List qA} {c n : Int} {s : Str} (hl : cl.length ≤ 1000) : P_r9_Mark cl sh bs c n s = some (mkErr cl.length c n s) := by
 unfold P_r9_Mark;rw [chk_pos (i64_small (by omega)), r9_in_eq, r9_in_eq, andx_some'];unfold mkErr
 by_cases h1 : btw 0 ((cl.length : Int) - 1) c
 ·rw [if_pos h1, decide_eq_true (show _ ∧ _ from h1), if_pos rfl, andx_some']
  by_cases h2 : btw 1 9999 n
  ·rw [if_pos h2, decide_eq_true (show _ ∧ _ from h2), if_pos rfl]
   by_cases h3 : s.length ≤ 2
   ·rw [if_neg (by omega), r9_letters_eq s (by omega), if_pos h3]
    by_cases h4 : isLow s
    ·rw [if_pos h4, decide_eq_true h4]; rfl
    ·rw [if_neg h4, decide_eq_false h4]; rfl
   ·rw [if_pos (by omega), if_neg h3]; rfl
  ·rw [if_neg h2, decide_eq_false (show ¬ (_ ∧ _) from h2), if_neg (by decide)]
 ·rw [if_neg h1, decide_eq_false (show ¬ (_ ∧ _) from h1), if_neg (by decide)]
open Classical in
theorem s9_mark_eq {cl : List Str} {sh : List qH} {bs : List qA} {c n : Int} {s : Str} (hl : cl.length ≤ 1000) : P_s9_mark cl sh bs c n s = some (mkErr cl.length c n s) := by
 unfold P_s9_mark;rw [chk_pos (i64_small (by omega)), s9_out1, s9_out1, andx_some'];unfold mkErr
 by_cases h1 : btw 0 ((cl.length : Int) - 1) c
 ·rw [if_pos h1, decide_eq_false (not_not_intro h1), if_neg (by decide), andx_some']
  by_cases h2 : btw 1 9999 n
  ·rw [if_pos h2, decide_eq_false (not_not_intro h2), if_neg (by decide)]
   by_cases h3 : s.length ≤ 2
   ·rw [if_neg (by omega), if_pos h3];rw [iter_scan (fun k : Nat => k) (fun i => if lowerN (byteAt s i) then none else some 6) s.length (fun _ => rfl), seqx_scan, find_if]
    ·by_cases h : ∀ j, j < s.length → lowerN (byteAt s j)
     ·rw [if_pos h, if_pos (show isLow s from h)]
     ·rw [if_neg h, if_neg (show ¬ isLow s from h)]
    ·intro k hk hj;unfold P_s9_mark_L1;rw [if_pos hk]
     show _ = some (scanS (k + 1) _)
     have hb := byteAt_lt s (k : Int);unfold lowerN
     rcases rune_low hk with ⟨h1, h2⟩ | ⟨h1, h2⟩
     ·rw [h1, h2];generalize byteAt s (k : Int) = x
      by_cases a1 : x < 97
      ·rw [if_pos a1, if_neg (show ¬ (97 ≤ x ∧ x ≤ 122) by omega)]; rfl
      ·rw [if_neg a1]
       by_cases a2 : x > 122
       ·rw [if_neg (show ¬ (97 ≤ x ∧ x ≤ 122) by omega), decide_eq_true a2]; rfl
       ·rw [if_pos (show (97 ≤ x ∧ x ≤ 122) by omega), decide_eq_false a2]; rfl
     ·generalize byteAt s (k : Int) = x at *;generalize runeAt s k = y at *;rw [if_neg (show ¬ (97 ≤ x ∧ x ≤ 122) by omega), if_neg (show ¬ y < 97 by omega), decide_eq_true (show y > 122 by omega)]; rfl
    ·intro hj;unfold P_s9_mark_L1;rw [if_neg (by omega)]
   ·rw [if_pos (by omega), if_neg h3]
  ·rw [if_neg h2, decide_eq_true h2, if_pos rfl]
 ·rw [if_neg h1, decide_eq_true h1, if_pos rfl]
def sameMark (a : qA) (c n : Int) (s : Str) : Prop := a.qR = c ∧ a.qS = n ∧ a.qT = s
def twice (l : List qA) (c n : Int) (s : Str) : Prop := ∃ j, j < l.length ∧ ∃ a, l[j]? = some a ∧ sameMark a c n s
def bkRange (w h y : Int) : Prop := btw 1 2000 w ∧ btw 1 2000 h ∧ btw 1 100 y
open Classical in
noncomputable def bkErr1 (ncl : Nat) (c n : Int) (s : Str) (w h y : Int) (before : List qA) : Int :=
 if mkErr ncl c n s = 0 then (if bkRange w h y then (if twice before c n s then 5 else 0) else 7) else mkErr ncl c n s
open Classical in
theorem r9_Book_eq {cl : List Str} {sh : List qH} {bs : List qA} {c n : Int} {s : Str} {w h y p : Int} {before : List qA} (hl : cl.length ≤ 1000) (hb : before.length ≤ 1000) :
  P_r9_Book cl sh bs c n s w h y p before = some (bkErr1 cl.length c n s w h y before) := by
 refine Ok.get ?_;unfold P_r9_Book;rw [r9_Mark_eq hl, andx_some'];simp only [r9_in_eq];generalize he : mkErr cl.length c n s = e0;refine Ok.andx (P := fun e => e = if e0 = 0 then (if bkRange w h y then 0 else 7) else e0) ?_ ?_
 ·by_cases h0 : e0 = 0
  ·simp only [h0, if_true, andx]
   by_cases h1 : btw 1 2000 w
   ·have h1' : 1 ≤ w ∧ w ≤ 2000 := h1;simp only [h1', and_self, decide_true, if_true]
    by_cases h2 : btw 1 2000 h
    ·have h2' : 1 ≤ h ∧ h ≤ 2000 := h2;simp only [h2', and_self, decide_true, if_true]
     by_cases h3 : btw 1 100 y
     ·have h3' : 1 ≤ y ∧ y ≤ 100 := h3;simp only [h3', and_self, decide_true, Bool.not_true, Bool.false_eq_true, if_false];refine .some ?_;rw [if_pos (show bkRange w h y from ⟨h1, h2, h3⟩)]
     ·have h3' : ¬ (1 ≤ y ∧ y ≤ 100) := h3;simp only [h3', decide_false, Bool.not_false, if_true];refine .some ?_;rw [if_neg (show ¬ bkRange w h y from fun k => h3 k.2.2)]
    ·have h2' : ¬ (1 ≤ h ∧ h ≤ 2000) := h2;simp only [h2', decide_false, Bool.false_eq_true, if_false, if_true];refine .some ?_;rw [if_neg (show ¬ bkRange w h y from fun k => h2 k.2.1)]
   ·have h1' : ¬ (1 ≤ w ∧ w ≤ 2000) := h1;simp only [h1', decide_false, Bool.false_eq_true, if_false, if_true];refine .some ?_;rw [if_neg (show ¬ bkRange w h y from fun k => h1 k.1)]
  ·simp only [h0, if_false, andx, Bool.false_eq_true];exact .some rfl
 ·rintro e hee;refine Ok.andx (P := fun r => r = bkErr1 cl.length c n s w h y before) ?_ (fun r hr => .some hr)
  have fin : bkErr1 cl.length c n s w h y before = if e = 0 then (if twice before c n s then 5 else 0) else e := by
   unfold bkErr1;rw [he]
   by_cases h0 : e0 = 0
   ·rw [if_pos h0]
    by_cases h1 : bkRange w h y
    ·rw [if_pos h1, hee, if_pos h0, if_pos h1, if_pos rfl]
    ·rw [if_neg h1, hee, if_pos h0, if_neg h1]; rfl
   ·rw [if_neg h0, hee, if_neg h0, if_neg h0]
  rw [fin];refine Ok.iter (fun (x : Int × Int) => 0 ≤ x.2 ∧ x.2 ≤ before.length ∧ ((x.1 = e ∧ (e ≠ 0 ∨ ∀ j : Nat, j < x.2 → ∀ a, before[j]? = some a → ¬ sameMark a c n s)) ∨ (e = 0 ∧ x.1 = 5 ∧ twice before c n s))) (fun x => (before.length - x.2).toNat) ⟨by simp, by simp, .inl ⟨rfl, .inr fun j hj => by simp at hj; omega⟩⟩ ?_;rintro ⟨e2, i⟩ ⟨h1, h2, h3⟩;obtain ⟨k, hk⟩ := Int.eq_ofNat_of_zero_le h1;simp only at hk h1 h2 h3;subst hk;unfold P_r9_Book_L1
  show Ok (seqx _ _) _;refine Ok.seqx ?_
  by_cases hlt : (k : Int) < before.length
  ·rw [if_pos hlt]
   by_cases he2 : e2 = 0
   ·rw [decide_eq_true he2];refine .some ?_
    show Ok (andx _ _) _;obtain ⟨a, ha⟩ := get_some (l := before) (k := k) (by omega);refine Ok.andx (P := fun e3 => (sameMark a c n s ∧ e3 = 5) ∨ (¬ sameMark a c n s ∧ e3 = e2)) ?_ ?_
    ·rw [el_at ha];exact .ite (fun h => .some (.inl ⟨h, rfl⟩)) (fun h => .some (.inr ⟨h, rfl⟩))
    ·rintro e3 h4;refine .chk (i64_small (by omega)) (.some ⟨⟨by show (0:Int) ≤ (k : Int) + 1; omega, by show (k : Int) + 1 ≤ _; omega, ?_⟩, by show ((before.length : Int) - ((k : Int) + 1)).toNat < ((before.length : Int) - (k : Int)).toNat; omega⟩)
     rcases h3 with ⟨h5, h6⟩ | ⟨h5, h6, h7⟩
     ·have e00 : e = 0 := h5.symm.trans he2
      rcases h4 with ⟨h8, h9⟩ | ⟨h8, h9⟩
      ·exact .inr ⟨e00, h9, k, by omega, a, ha, h8⟩
      ·refine .inl ⟨h9.trans h5, .inr fun j hj a' ha' => ?_⟩
       by_cases hjk : j = k
       ·subst hjk; rw [ha] at ha'; cases ha'; exact h8
       ·rcases h6 with h6 | h6
        ·exact absurd e00 h6
        ·exact h6 j (by simp only at hj; omega) a' ha'
     ·exact absurd (h6.symm.trans he2) (by decide)
   ·rw [decide_eq_false he2];refine .some ?_
    show e2 = _
    rcases h3 with ⟨h5, h6⟩ | ⟨h5, h6, h7⟩
    ·rw [if_neg (fun h => he2 (h5.trans h)), h5]
    ·rw [if_pos h5, if_pos h7, h6]
  ·rw [if_neg hlt];refine .some ?_
   show e2 = _
   rcases h3 with ⟨h5, h6⟩ | ⟨h5, h6, h7⟩
   ·by_cases he0 : e = 0
    ·rw [if_pos he0, if_neg, h5, he0];rintro ⟨j, hj, a, ha, hs⟩
     rcases h6 with h6 | h6
     ·exact h6 he0
     ·exact h6 j (by omega) a ha hs
    ·rw [if_neg he0, h5]
   ·rw [if_pos h5, if_pos h7, h6]
def bookHit (l : List qA) (c n : Int) (s : Str) (i : Nat) : Prop := ∃ a, l[i]? = some a ∧ sameMark a c n s
def bookMiss (l : List qA) (c n : Int) (s : Str) (i : Nat) : Prop := ¬ bookHit l c n s i
open Classical in
theorem s9_book_eq {cl : List Str} {sh : List qH} {bs : List qA} {c n : Int} {s : Str} {w h y p : Int} {before : List qA} (hl : cl.length ≤ 1000) (hb : before.length ≤ 1000) :
  P_s9_book cl sh bs c n s w h y p before = some (bkErr1 cl.length c n s w h y before) := by
 unfold P_s9_book;rw [s9_mark_eq hl, andx_some'];unfold bkErr1
 by_cases h0 : mkErr cl.length c n s = 0
 ·rw [if_pos h0, if_neg (not_not_intro h0), s9_out2, s9_out1, andx_some', andx_some']
  by_cases h1 : btw 1 2000 w ∧ btw 1 2000 h
  ·rw [decide_eq_false (not_not_intro h1), if_neg (by decide), andx_some']
   by_cases h2 : btw 1 100 y
   ·rw [decide_eq_false (not_not_intro h2), if_neg (by decide), if_pos (show bkRange w h y from ⟨h1.1, h1.2, h2⟩)];rw [iter_scanI (fun i => if bookMiss before c n s i then none else some (i : Int)) before.length, seqx_scan]
    ·rcases find_idx (P := bookMiss before c n s) (n := before.length) with ⟨h, e⟩ | ⟨h, k, hk, e⟩
     ·rw [e, if_neg (show ¬ twice before c n s from fun ⟨j, hj, a, ha, hs⟩ => h j hj ⟨a, ha, hs⟩)];rfl
     ·rw [e, if_pos (show twice before c n s from ?_)]
      ·show seqx (if k ≥ 0 then _ else _) _ = _;rw [if_pos (by omega)]; rfl
      ·refine Classical.byContradiction fun hn => h fun j hj ⟨a, ha, hs⟩ => hn ⟨j, hj, a, ha, hs⟩
    ·intro k hk _;unfold P_s9_book_L1;obtain ⟨a, ha⟩ := get_some hk;rw [if_pos (by omega), el_at ha, chk_pos (i64_small (by omega))]
     by_cases hs : sameMark a c n s
     ·rw [if_pos (show _ ∧ _ from hs), if_neg (show ¬ bookMiss before c n s k from not_not_intro ⟨a, ha, hs⟩)]; rfl
     ·rw [if_neg (show ¬ (_ ∧ _) from hs), if_pos (show bookMiss before c n s k from fun ⟨a', ha', hs'⟩ => by rw [ha] at ha'; cases ha'; exact hs hs')]; rfl
    ·intro _;unfold P_s9_book_L1;rw [if_neg (by omega)]
   ·rw [decide_eq_true h2, if_pos rfl, if_neg (show ¬ bkRange w h y from fun k => h2 k.2.2)]; rfl
  ·rw [decide_eq_true h1, if_pos rfl, andx_some', if_pos rfl, if_neg (show ¬ bkRange w h y from fun k => h1 ⟨k.1, k.2.1⟩)]; rfl
 ·rw [if_neg h0, if_pos h0]
end Go.Am
end
section
namespace Go.Am
set_option linter.unusedVariables false
set_option linter.unusedSimpArgs false
noncomputable def errAt {α : Type} (l : List α) (g : Nat → α → Int) (i : Nat) : Int := match l[i]? with | some a => g i a | none => 0
theorem errAt_of {α : Type} {l : List α} {g : Nat → α → Int} {i : Nat} {a : α} (h : l[i]? = some a) : errAt l g i = g i a := by unfold errAt; rw [h]
noncomputable def errF (f : Nat → Int) (i : Nat) : Option (Int × Int) := if f i = 0 then none else some ((i : Int), f i)
noncomputable def errG (c : Int) (f : Nat → Int) (i : Nat) : Option (Int × Int × Int) := if f i = 0 then none else some (c, (i : Int), f i)
noncomputable def firstE (f : Nat → Int) (n : Nat) : Option (Int × Int) := (List.range n).findSome? (errF f)
theorem first_fail {f : Nat → Int} : ∀ n : Nat, (∀ j, j < n → f j = 0) ∨ ∃ k, k < n ∧ f k ≠ 0 ∧ ∀ j, j < k → f j = 0 := by
 intro n
 induction n with
 | zero => exact .inl fun j hj => by omega
 | succ n ih =>
  rcases ih with h | ⟨k, h1, h2, h3⟩
  ·by_cases hn : f n = 0
   ·exact .inl fun j hj => by
     by_cases e : j = n
     ·rw [e]; exact hn
     ·exact h j (by omega)
   ·exact .inr ⟨n, by omega, hn, h⟩
  ·exact .inr ⟨k, by omega, h2, h3⟩
theorem firstE_cases (f : Nat → Int) (n : Nat) : (firstE f n = none ∧ (∀ c, (List.range n).findSome? (errG c f) = none) ∧ ∀ j, j < n → f j = 0) ∨
  ∃ k, k < n ∧ f k ≠ 0 ∧ firstE f n = some ((k : Int), f k) ∧ (∀ c, (List.range n).findSome? (errG c f) = some (c, (k : Int), f k)) := by
 rcases first_fail (f := f) n with h | ⟨k, h1, h2, h3⟩
 ·exact .inl ⟨find_none fun j hj => if_pos (h j hj), fun c => find_none fun j hj => if_pos (h j hj), h⟩
 ·exact .inr ⟨k, h1, h2, find_range h1 (fun j hj => if_pos (h3 j hj)) (if_neg h2), fun c => find_range h1 (fun j hj => if_pos (h3 j hj)) (if_neg h2)⟩
theorem loopR {c : Int} {f : Nat → Int} {n : Nat} {k : Unit → Option (Int × Int × Int)} : seqx (some (scanX (errG c f) n)) k = match firstE f n with | some p => some (c, p.1, p.2) | none => k () := by
 rw [seqx_scan]
 rcases firstE_cases f n with ⟨h1, h2, h3⟩ | ⟨i, h1, h2, h3, h4⟩
 ·rw [h1, h2 c]
 ·rw [h3, h4 c]
theorem loopS {c : Int} {f : Nat → Int} {n : Nat} {k : Option (Int × Int × Int)} {K : Int × Int → Option (Int × Int × Int)} (hK : ∀ p, K p = if ¬ p.2 = 0 then some (c, p.1, p.2) else k) :
  andx (seqx (some (scanX (errF f) n)) fun _ => some (0, 0)) K = match firstE f n with | some p => some (c, p.1, p.2) | none => k := by
 rw [seqx_scan]
 rcases firstE_cases f n with ⟨h1, h2, h3⟩ | ⟨i, h1, h2, h3, h4⟩
 ·rw [h1, show (List.range n).findSome? (errF f) = none from h1]
  show K (0, 0) = k;rw [hK, if_neg (not_not_intro rfl)]
 ·rw [h3, show (List.range n).findSome? (errF f) = _ from h3]
  show K _ = _;rw [hK, if_pos h2]
theorem body_err {A : Type} {e : Int} {v : A} {k : Nat} (hk : k ≤ 1000) : (if ¬ e = 0 then some (Stp.dn (Ex.rt v)) else chk (I64 ((k : Int) + 1)) (some (Stp.ag ((k : Int) + 1)))) = some (scanS ((k : Int) + 1) (if e = 0 then (none : Option A) else some v)) := by
 rw [chk_pos (i64_small (by omega))]
 by_cases h : e = 0
 ·rw [if_neg (not_not_intro h), if_pos h]; rfl
 ·rw [if_pos h, if_neg h]; rfl
theorem take_sub {α : Type} (l : List α) (k : Nat) : List.take ((k : Int) - (0 : Int)).toNat (List.drop ((0 : Int) : Int).toNat l) = l.take k := by
 simp
theorem r9_L1_eq {cl : List Str} (hl : cl.length ≤ 1000) : iter (P_r9_Check_L1 cl) 0 = some (scanX (errG 1 (errAt cl (clErr cl))) cl.length) := by
 refine iter_scanI _ _ (fun k hk _ => ?_) (fun _ => ?_)
 ·unfold P_r9_Check_L1;obtain ⟨a, ha⟩ := get_some hk;rw [if_pos (by omega), el_at ha, chk_pos (by omega), take_sub, r1_Fresh_eq _ _ _ hl, andx_some', body_err (by omega)];unfold errG;rw [errAt_of ha]
 ·unfold P_r9_Check_L1;rw [if_neg (by omega)]
def clHit (l : List Str) (w : Str) (i : Nat) : Prop := ∃ a, l[i]? = some a ∧ w = a
def clMiss (l : List Str) (w : Str) (i : Nat) : Prop := ¬ clHit l w i
open Classical in
theorem s9_L2_eq {cl : List Str} {k : Nat} {w : Str} (hl : cl.length ≤ 1000) : iter (P_s9_Check_L2 cl (k : Int) w) 0 = some (scanX (fun i => if clMiss (cl.take k) w i then none else some (i : Int)) (cl.take k).length) := by
 have hle : (cl.take k).length ≤ 1000 := by rw [List.length_take]; omega
 refine iter_scanI _ _ (fun j hj _ => ?_) (fun _ => ?_)
 ·unfold P_s9_Check_L2;rw [take_sub];obtain ⟨a, ha⟩ := get_some hj;rw [if_pos (by omega), el_at ha, chk_pos (i64_small (by omega))]
  by_cases h : w = a
  ·rw [if_pos h, if_neg (show ¬ clMiss _ _ _ from not_not_intro ⟨a, ha, h⟩)]; rfl
  ·rw [if_neg h, if_pos (show clMiss _ _ _ from fun ⟨a', ha', hs'⟩ => by rw [ha] at ha'; cases ha'; exact h hs')]; rfl
 ·unfold P_s9_Check_L2;rw [take_sub, if_neg (by omega)]
open Classical in
theorem s9_L1_eq {cl : List Str} (hl : cl.length ≤ 1000) : iter (P_s9_Check_L1 cl) 0 = some (scanX (errF (errAt cl (clErr cl))) cl.length) := by
 refine iter_scanI _ _ (fun k hk _ => ?_) (fun _ => ?_)
 ·unfold P_s9_Check_L1;obtain ⟨a, ha⟩ := get_some hk;rw [if_pos (by omega), el_at ha]
  have e : (andx (P_q_Name a) fun y8 => if y8 = true then chk (0 ≤ (0 : Int) ∧ (0 : Int) ≤ (k : Int) ∧ (k : Int) ≤ (cl.length : Int)) (andx (seqx (iter (P_s9_Check_L2 cl (k : Int) a) 0) fun _ => some (-1)) fun y7 => if y7 ≥ 0 then some 5 else some 0) else some 6) = some (clErr cl k a) := by
   rw [q_Name_eq, andx_some'];unfold clErr
   by_cases hn : isName a
   ·rw [decide_eq_true hn, if_pos rfl, if_pos hn, chk_pos (by omega), s9_L2_eq hl, seqx_scan]
    rcases find_idx (P := clMiss (cl.take k) a) (n := (cl.take k).length) with ⟨h, e⟩ | ⟨h, i, hi, e⟩
    ·rw [e, if_neg]
     ·rfl
     ·intro hm;obtain ⟨j, hj⟩ := List.getElem?_of_mem hm;exact h j (List.getElem?_eq_some_iff.1 hj).1 ⟨a, hj, rfl⟩
    ·rw [e, if_pos]
     ·show (if i ≥ 0 then _ else _) = _;rw [if_pos (by omega)]
     ·refine Classical.byContradiction fun hn => h fun j hj ⟨a', ha', hs⟩ => hn ?_
      rw [hs];exact List.mem_of_getElem? ha'
   ·rw [decide_eq_false hn, if_neg (by decide), if_neg hn]
  rw [e, andx_some', body_err (by omega)];unfold errF;rw [errAt_of ha]
 ·unfold P_s9_Check_L1;rw [if_neg (by omega)]
open Classical in
theorem r9_L2_eq {sh : List qH} (hl : sh.length ≤ 1000) : iter (P_r9_Check_L2 sh) 0 = some (scanX (errG 2 (errAt sh fun _ => shErr)) sh.length) := by
 refine iter_scanI _ _ (fun k hk _ => ?_) (fun _ => ?_)
 ·unfold P_r9_Check_L2;obtain ⟨a, ha⟩ := get_some hk;rw [if_pos (by omega), el_at ha, chk_pos (i64_small (by omega))];simp only [r9_in_eq];unfold errG;rw [errAt_of ha];unfold shErr
  by_cases h1 : 0 ≤ a.away ∧ a.away ≤ 1000
  ·by_cases h2 : 0 ≤ a.climb ∧ a.climb ≤ 1000
   ·by_cases h3 : 1 ≤ a.wide ∧ a.wide ≤ 2000
    ·by_cases h4 : 1 ≤ a.high ∧ a.high ≤ 2000
     ·rw [if_pos (show shOk a from ⟨⟨h1, h2⟩, h3, h4⟩)];simp [andx, seqx, scanS, h1, h2, h3, h4]
     ·rw [if_neg (show ¬ shOk a from fun h => h4 h.2.2)];simp only [andx, seqx, scanS, decide_eq_true h1, decide_eq_true h2, decide_eq_true h3, decide_eq_false h4]; rfl
    ·rw [if_neg (show ¬ shOk a from fun h => h3 h.2.1)];simp only [andx, seqx, scanS, decide_eq_true h1, decide_eq_true h2, decide_eq_false h3]; rfl
   ·rw [if_neg (show ¬ shOk a from fun h => h2 h.1.2)];simp only [andx, seqx, scanS, decide_eq_true h1, decide_eq_false h2]; rfl
  ·rw [if_neg (show ¬ shOk a from fun h => h1 h.1.1)];simp only [andx, seqx, scanS, decide_eq_false h1]; rfl
 ·unfold P_r9_Check_L2;rw [if_neg (by omega)]
open Classical in
theorem s9_L3_eq {sh : List qH} (hl : sh.length ≤ 1000) : iter (P_s9_Check_L3 sh) 0 = some (scanX (errF (errAt sh fun _ => shErr)) sh.length) := by
 refine iter_scanI _ _ (fun k hk _ => ?_) (fun _ => ?_)
 ·unfold P_s9_Check_L3;obtain ⟨a, ha⟩ := get_some hk;rw [if_pos (by omega), el_at ha];simp only [s9_out2, andx_some'];rw [show (seqx (andx (if decide (¬ (btw 0 1000 a.away ∧ btw 0 1000 a.climb)) = true then some true else some (decide (¬ (btw 1 2000 a.wide ∧ btw 1 2000 a.high)))) fun x18 => if x18 = true then some (Ex.rt 7) else some (Ex.nx ())) fun _ => some 0) = some (shErr a) from ?_, andx_some', body_err (by omega)]
  ·unfold errF;rw [errAt_of ha]
  ·unfold shErr
   by_cases h1 : btw 0 1000 a.away ∧ btw 0 1000 a.climb
   ·rw [decide_eq_false (not_not_intro h1), if_neg (by decide)]
    by_cases h2 : btw 1 2000 a.wide ∧ btw 1 2000 a.high
    ·rw [decide_eq_false (not_not_intro h2), if_pos (show shOk a from ⟨h1, h2⟩)]; rfl
    ·rw [decide_eq_true h2, if_neg (show ¬ shOk a from fun h => h2 h.2)]; rfl
   ·rw [decide_eq_true h1, if_pos rfl, if_neg (show ¬ shOk a from fun h => h1 h.1)]; rfl
 ·unfold P_s9_Check_L3;rw [if_neg (by omega)]
def below (bs : List qA) (i : Nat) (b : qA) : Prop := 0 < i ∧ ∃ c, bs[i - 1]? = some c ∧ b.shelf < c.shelf
noncomputable def bkE0 (ncl : Nat) (bs : List qA) (i : Nat) (b : qA) : Int := bkErr1 ncl b.qR b.qS b.qT b.wide b.high b.heavy (bs.take i)
open Classical in
noncomputable def bkErr (ncl nsh : Nat) (bs : List qA) (i : Nat) (b : qA) : Int :=
 if bkE0 ncl bs i b = 0 then (if btw 0 ((nsh : Int) - 1) b.shelf then (if below bs i b then 2 else 0) else 4) else bkE0 ncl bs i b
open Classical in
theorem below_eq {bs : List qA} {k : Nat} {b : qA} (hl : bs.length ≤ 1000) (hk : k < bs.length) :
  (if (k : Int) > 0 then chk (I64 ((k : Int) - 1)) (el bs ((k : Int) - 1) fun a => some (decide (b.shelf < a.shelf))) else some false) = some (decide (below bs k b)) := by
 by_cases h : (k : Int) > 0
 ·rw [if_pos h, chk_pos (i64_small (by omega))];obtain ⟨a, ha⟩ := get_some (l := bs) (k := k - 1) (by omega)
  have e : (k : Int) - 1 = ((k - 1 : Nat) : Int) := by omega
  rw [e, el_at ha]
  congr 1
  refine decide_eq_decide.2 ⟨fun h' => ⟨by omega, a, ha, h'⟩, fun ⟨_, c, hc, h'⟩ => by rw [ha] at hc; cases hc; exact h'⟩
 ·rw [if_neg h, decide_eq_false];exact fun h' => h (by have := h'.1; omega)
open Classical in
theorem r9_L3_eq {cl : List Str} {sh : List qH} {bs : List qA} (hc : cl.length ≤ 1000) (hs : sh.length ≤ 1000) (hl : bs.length ≤ 1000) :
  iter (P_r9_Check_L3 cl sh bs) 0 = some (scanX (errG 3 (errAt bs (bkErr cl.length sh.length bs))) bs.length) := by
 refine iter_scanI _ _ (fun k hk _ => ?_) (fun _ => ?_)
 ·unfold P_r9_Check_L3;obtain ⟨b, hb⟩ := get_some hk;rw [if_pos (by omega), el_at hb, chk_pos (by omega), take_sub, r9_Book_eq hc (by rw [List.length_take]; omega), andx_some', chk_pos (show I64 ((sh.length : Int) - 1) from i64_small (by omega)), chk_pos (show I64 ((k : Int) + 1) from i64_small (by omega))];rw [below_eq hl hk];unfold errG;rw [errAt_of hb];unfold bkErr
  change _ = some (scanS _ _)
  rw [show bkErr1 cl.length b.qR b.qS b.qT b.wide b.high b.heavy (bs.take k) = bkE0 cl.length bs k b from rfl];simp only [r9_in_eq];generalize bkE0 cl.length bs k b = e0
  by_cases h0 : e0 = 0
  ·subst h0
   by_cases h1 : btw 0 ((sh.length : Int) - 1) b.shelf
   ·have h1' : 0 ≤ b.shelf ∧ b.shelf ≤ (sh.length : Int) - 1 := h1
    by_cases h2 : below bs k b
    ·simp only [h1, h1', h2, if_true, andx, seqx, decide_true, Bool.not_true, Bool.false_eq_true, if_false, scanS, and_self]; rfl
    ·simp only [h1, h1', h2, if_true, andx, seqx, decide_true, decide_false, Bool.not_true, Bool.false_eq_true, if_false, scanS, and_self]; rfl
   ·have h1' : ¬ (0 ≤ b.shelf ∧ b.shelf ≤ (sh.length : Int) - 1) := h1;simp only [h1, h1', if_true, andx, seqx, decide_false, Bool.not_false, Bool.false_eq_true, if_false, scanS]; rfl
  ·simp only [h0, if_false, andx, seqx, Bool.false_eq_true, not_false_iff, if_true, scanS]
 ·unfold P_r9_Check_L3;rw [if_neg (by omega)]
open Classical in
theorem s9_L4_eq {cl : List Str} {sh : List qH} {bs : List qA} (hc : cl.length ≤ 1000) (hs : sh.length ≤ 1000) (hl : bs.length ≤ 1000) :
  iter (P_s9_Check_L4 cl sh bs) 0 = some (scanX (errF (errAt bs (bkErr cl.length sh.length bs))) bs.length) := by
 refine iter_scanI _ _ (fun k hk _ => ?_) (fun _ => ?_)
 ·unfold P_s9_Check_L4;obtain ⟨b, hb⟩ := get_some hk;rw [if_pos (by omega), el_at hb, chk_pos (by omega), take_sub, s9_book_eq hc (by rw [List.length_take]; omega), andx_some', chk_pos (i64_small (by omega)), s9_out1, andx_some'];rw [below_eq hl hk]
  have e : (seqx (if ¬ bkE0 cl.length bs k b = 0 then some (Ex.rt (bkE0 cl.length bs k b)) else if decide (¬ btw 0 ((sh.length : Int) - 1) b.shelf) = true then some (Ex.rt 4) else andx (some (decide (below bs k b))) fun x28 => if x28 = true then some (Ex.rt 2) else some (Ex.nx ())) fun (_ : Unit) => some 0) = some (bkErr cl.length sh.length bs k b) := by
   unfold bkErr;generalize bkE0 cl.length bs k b = e0
   by_cases h0 : e0 = 0
   ·rw [if_neg (not_not_intro h0), if_pos h0]
    by_cases h1 : btw 0 ((sh.length : Int) - 1) b.shelf
    ·rw [decide_eq_false (not_not_intro h1), if_neg (by decide), if_pos h1]
     by_cases h2 : below bs k b
     ·rw [decide_eq_true h2, if_pos h2]; rfl
     ·rw [decide_eq_false h2, if_neg h2]; rfl
    ·rw [decide_eq_true h1, if_pos rfl, if_neg h1]; rfl
   ·rw [if_pos h0, if_neg h0]; rfl
  refine (congrArg (fun z => andx z _) e).trans ?_;rw [andx_some', body_err (by omega)];unfold errF;rw [errAt_of hb]
 ·unfold P_s9_Check_L4;rw [if_neg (by omega)]
end Go.Am
end
