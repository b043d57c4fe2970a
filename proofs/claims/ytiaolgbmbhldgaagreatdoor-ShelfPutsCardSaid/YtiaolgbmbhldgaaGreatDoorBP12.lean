/- Part 12. -/
import Derived.Test.YtiaolgbmbhldgaaGreatDoorBP1
import Derived.Test.YtiaolgbmbhldgaaGreatDoorBP2
import Derived.Test.YtiaolgbmbhldgaaGreatDoorBP9
import Derived.Test.YtiaolgbmbhldgaaGreatDoorBP11
import Derived.Test.YtiaolgbmbhldgaaGreatDoorBP10
import Derived.Shelf.SlSortCmp.Whole1
import Derived.Shelf.SlSortCmp.NoneTotal
import Derived.Shelf.Lay
import Derived.Shelf.SlGeneric
import Derived.Ground.SlsfProg
section
namespace Go.Am.YtiaolgbmbhldgaaGreatDoor.Q
open Go.Am Go.RowKit
def lev : Nat → Option Nat
 | 90 => some 0
 | _ => none
noncomputable def baseE : Orc' := fun f => match f with | 24 => some (table [([], .lit (.bool true))]) | 130 => some cmpT | _ => none
theorem baseE_ok : ∀ f g, baseE f = some g → Meets Go.Proofs.Tryz.prog f g := fun f g h => by
 unfold baseE at h;split at h
 ·cases h; exact Closed.awake_meets
 ·cases h; exact cmp_meets
 ·cases h
noncomputable def EL (k : Nat) : Env := envS (orsB baseE envS lev k)
theorem EL_good (k : Nat) : EnvGood (EL k) := orsB_good (P := Go.Proofs.Tryz.prog) (fun _ => rfl) (fun _ => rfl) baseE_ok (fun _ h => goodS h) (fun _ => rfl) k
theorem orcL {f j k : Nat} (h : lev f = some j) (hk : j < k) : (EL k).orc f = some (sem (EL j) f) := orsLB (fun _ => rfl) h hk
theorem orcN {f k : Nat} (h : levB baseE lev f = none) : (EL k).orc f = none := orsNB (fun _ => rfl) h
theorem orcA {k : Nat} : (EL k).orc 24 = some (table [([], .lit (.bool true))]) := by
 show orsB baseE envS lev k 24 = _;rw [orsB_base rfl];rfl
theorem orcC {k : Nat} : (EL k).orc 130 = some cmpT := by
 show orsB baseE envS lev k 130 = _;rw [orsB_base rfl];rfl
theorem bo_ty4 {k : Nat} : pureVal (EL k).P (underlying 4) = some .bool := show pureVal Go.Proofs.Tryz.prog (underlying 4) = some .bool by kernel_rfl
theorem hu_cv2 : pureVal Go.Proofs.Tryz.prog (underlying 2) = some Go.Proofs.Tryz.t2.desc := by kernel_rfl
theorem hu_cv3 : pureVal Go.Proofs.Tryz.prog (underlying 3) = some Go.Proofs.Tryz.t3.desc := by kernel_rfl
theorem hu_cv5 : pureVal Go.Proofs.Tryz.prog (underlying 5) = some Go.Proofs.Tryz.t5.desc := by kernel_rfl
theorem hu_cv65 : pureVal Go.Proofs.Tryz.prog (underlying 65) = some Go.Proofs.Tryz.t65.desc := by kernel_rfl
theorem hu_cv172 : pureVal Go.Proofs.Tryz.prog (underlying 172) = some Go.Proofs.Tryz.t172.desc := by kernel_rfl
theorem hu_cv194 : pureVal Go.Proofs.Tryz.prog (underlying 194) = some Go.Proofs.Tryz.t194.desc := by kernel_rfl
theorem hu_cv196 : pureVal Go.Proofs.Tryz.prog (underlying 196) = some Go.Proofs.Tryz.t196.desc := by kernel_rfl
theorem hu_cv207 : pureVal Go.Proofs.Tryz.prog (underlying 207) = some Go.Proofs.Tryz.t196.desc := by kernel_rfl
theorem cv_ty5_3 {k : Nat} {a : Int} (h : -9223372036854775808 ≤ a ∧ a < 9223372036854775808) : pureVal (EL k).P (convert 5 3 (.int .u8 a)) = some (.int .i64 a) := pure_conv (P := Go.Proofs.Tryz.prog) hu_cv5 hu_cv3 (wrap_id h.1 h.2)
theorem cv_ty65_3 {k : Nat} {a : Int} (h : -9223372036854775808 ≤ a ∧ a < 9223372036854775808) : pureVal (EL k).P (convert 65 3 (.int .u16 a)) = some (.int .i64 a) := pure_conv (P := Go.Proofs.Tryz.prog) hu_cv65 hu_cv3 (wrap_id h.1 h.2)
theorem cv_ty172_3 {k : Nat} {a : Int} (h : -9223372036854775808 ≤ a ∧ a < 9223372036854775808) : pureVal (EL k).P (convert 172 3 (.int .u64 a)) = some (.int .i64 a) := pure_conv (P := Go.Proofs.Tryz.prog) hu_cv172 hu_cv3 (wrap_id h.1 h.2)
theorem cv_ty196_2 {k : Nat} {a : Int} (h : -9223372036854775808 ≤ a ∧ a < 9223372036854775808) : pureVal (EL k).P (convert 196 2 (.int .u64 a)) = some (.int .i64 a) := pure_conv (P := Go.Proofs.Tryz.prog) hu_cv196 hu_cv2 (wrap_id h.1 h.2)
theorem hu_ty28 : pureVal Go.Proofs.Tryz.prog (underlying 28) = some Go.Proofs.Tryz.t27.desc := by kernel_rfl
theorem eql_ty28 {k : Nat} (x y : Operand) (a0 : Int) (a1 : Int) (a2 : Str) (b0 : Int) (b1 : Int) (b2 : Str) : abin (EL k) .eql 28 x y (.agg [iv a0, iv a1, sv a2]) (.agg [iv b0, iv b1, sv b2]) = .ok (bv (a0 == b0 && a1 == b1 && a2 == b2)) ∧ ((a0 == b0 && a1 == b1 && a2 == b2) = true ↔ a0 = b0 ∧ a1 = b1 ∧ a2 = b2) := by
 refine ⟨abin_agg (A := .agg #[.int .i64 a0, .int .i64 a1, .string ⟨a2.toArray⟩]) (B := .agg #[.int .i64 b0, .int .i64 b1, .string ⟨b2.toArray⟩]) (by simp) rfl rfl ?_ (bin_eql (pure_eqF3 (hu_ty28) ?_ (.int (by decide) ⟨.i64, by kernel_rfl⟩ (by kernel_rfl) (by kernel_rfl)) (.int (by decide) ⟨.i64, by kernel_rfl⟩ (by kernel_rfl) (by kernel_rfl)) (.str (by decide) (by kernel_rfl) (by kernel_rfl) (by kernel_rfl)))), by by_cases h0 : a0 = b0 <;> by_cases h1 : a1 = b1 <;> by_cases h2 : a2 = b2 <;> simp [h0, h1, h2]⟩
 all_goals kernel_rfl
theorem neq_ty28 {k : Nat} (x y : Operand) (a0 : Int) (a1 : Int) (a2 : Str) (b0 : Int) (b1 : Int) (b2 : Str) : abin (EL k) .neq 28 x y (.agg [iv a0, iv a1, sv a2]) (.agg [iv b0, iv b1, sv b2]) = .ok (bv (!(a0 == b0 && a1 == b1 && a2 == b2))) ∧ ((!(a0 == b0 && a1 == b1 && a2 == b2)) = true ↔ ¬ (a0 = b0 ∧ a1 = b1 ∧ a2 = b2)) := by
 refine ⟨abin_agg (A := .agg #[.int .i64 a0, .int .i64 a1, .string ⟨a2.toArray⟩]) (B := .agg #[.int .i64 b0, .int .i64 b1, .string ⟨b2.toArray⟩]) (by simp) rfl rfl ?_ (bin_neq (pure_eqF3 (hu_ty28) ?_ (.int (by decide) ⟨.i64, by kernel_rfl⟩ (by kernel_rfl) (by kernel_rfl)) (.int (by decide) ⟨.i64, by kernel_rfl⟩ (by kernel_rfl) (by kernel_rfl)) (.str (by decide) (by kernel_rfl) (by kernel_rfl) (by kernel_rfl)))), by by_cases h0 : a0 = b0 <;> by_cases h1 : a1 = b1 <;> by_cases h2 : a2 = b2 <;> simp [h0, h1, h2]⟩
 all_goals kernel_rfl
end Go.Am.YtiaolgbmbhldgaaGreatDoor.Q
end
section
namespace Go.Am
set_option linter.unusedVariables false
structure qH where
 away : Int
 climb : Int
 wide : Int
 high : Int
def qW : En qH := ⟨4, fun x => [iv x.away, iv x.climb, iv x.wide, iv x.high], fun _ => rfl⟩
theorem qAe : qW.Tr := fun _ _ _ => .cons .lit (.cons .lit (.cons .lit (.cons .lit (.nil))))
structure qA where
 qR : Int
 qS : Int
 qQ : Str
 wide : Int
 high : Int
 heavy : Int
 shelf : Int
def qP : En qA := ⟨7, fun x => [iv x.qR, iv x.qS, sv x.qQ, iv x.wide, iv x.high, iv x.heavy, iv x.shelf], fun _ => rfl⟩
theorem qAf : qP.Ones := fun x => by simp [qP, sv, oneCell]
theorem qAd : qP.Tr := fun _ _ _ => .cons .lit (.cons .lit (.cons .lit (.cons .lit (.cons .lit (.cons .lit (.cons .lit (.nil)))))))
end Go.Am
end
section
namespace Go.Am
set_option linter.unusedVariables false
noncomputable def P_r9_in (n : Int) (low : Int) (high : Int) : Option Bool :=
  andx (
    if low ≤ n then
      some (decide (n ≤ high))
    else
      some false) fun x6 =>
    some x6
noncomputable def P_r9_letters_L1 (s : Str) : Int → Option (Stp Int (Ex Unit Bool)) := fun i =>
  if i < (s.length : Int) then
    seqx (
      andx (
        chk (0 ≤ i ∧ i < (s.length : Int)) (
          if (byteAt s i) < 97 then
            some true
          else
            chk (0 ≤ i ∧ i < (s.length : Int)) (
              some (decide ((byteAt s i) > 122))))) fun x19 =>
        if x19 = true then
          some (Ex.rt (Stp.dn (Ex.rt false)))
        else
          some (Ex.nx ())) fun _ =>
      chk (I64 (i + 1)) (
        some (Stp.ag (i + 1)))
  else
    some (Stp.dn (Ex.nx ()))
noncomputable def P_r9_letters (s : Str) : Option Bool :=
  seqx (
    iter (P_r9_letters_L1 s) 0) fun _ =>
    some true
noncomputable def P_r1_Name_L1 (s : Str) : Int → Option (Stp Int (Ex Unit Bool)) := fun i =>
  if i < (s.length : Int) then
    seqx (
      andx (
        chk (0 ≤ i ∧ i < (s.length : Int)) (
          andx (
            if (byteAt s i) ≥ 97 then
              some (decide ((byteAt s i) ≤ 122))
            else
              some false) fun x2 =>
            if x2 = true then
              some false
            else
              if i = 0 then
                some true
              else
                chk (0 ≤ i ∧ i < (s.length : Int)) (
                  andx (
                    if (byteAt s i) ≥ 48 then
                      some (decide ((byteAt s i) ≤ 57))
                    else
                      some false) fun x2_2 =>
                    if x2_2 = true then
                      some false
                    else
                      chk (0 ≤ i ∧ i < (s.length : Int)) (
                        some (decide (¬ (byteAt s i) = 46)))))) fun x39 =>
        if x39 = true then
          some (Ex.rt (Stp.dn (Ex.rt false)))
        else
          some (Ex.nx ())) fun _ =>
      chk (I64 (i + 1)) (
        some (Stp.ag (i + 1)))
  else
    some (Stp.dn (Ex.nx ()))
noncomputable def P_r1_Name (s : Str) : Option Bool :=
  seqx (
    andx (
      if (s.length : Int) = 0 then
        some true
      else
        some (decide ((s.length : Int) > 16))) fun x11 =>
      if x11 = true then
        some (Ex.rt false)
      else
        some (Ex.nx ())) fun _ =>
    seqx (
      iter (P_r1_Name_L1 s) 0) fun _ =>
      some true
noncomputable def P_r1_Place_L1 (list : List Str) (word : Str) : Int → Option (Stp Int Int) := fun at_ =>
  seqx (
    andx (
      if at_ ≥ 0 then
        el list at_ fun a15 =>
        some (decide (¬ a15 = word))
      else
        some false) fun x19 =>
      if x19 = true then
        some (Ex.nx ())
      else
        some (Ex.rt (Stp.dn at_))) fun _ =>
    chk (I64 (at_ - 1)) (
      some (Stp.ag (at_ - 1)))
noncomputable def P_r1_Place_L2 (list : List Str) (word : Str) (at_ : Int) : Int → Option (Stp Int (Ex Unit Int)) := fun i =>
  if i < at_ then
    el list i fun a29 =>
    if a29 = word then
      some (Stp.dn (Ex.rt i))
    else
      chk (I64 (i + 1)) (
        some (Stp.ag (i + 1)))
  else
    some (Stp.dn (Ex.nx ()))
noncomputable def P_r1_Place (list : List Str) (word : Str) : Option Int :=
  chk (I64 ((list.length : Int) - 1)) (
    andx (
      iter (P_r1_Place_L1 list word) ((list.length : Int) - 1)) fun at_ =>
      seqx (
        iter (P_r1_Place_L2 list word at_) 0) fun _ =>
        some at_)
noncomputable def P_r1_Fresh (word : Str) (others : List Str) : Option Int :=
  andx (
    andx (P_r1_Place others word) fun y8 =>
      if y8 ≥ 0 then
        some 5
      else
        some 0) fun e =>
    andx (
      andx (P_r1_Name word) fun y11 =>
        if y11 = true then
          some e
        else
          some 6) fun e_2 =>
      some e_2
noncomputable def P_r9_Mark (qG : List Str) (qC : List qH) (qB : List qA) (m_Class : Int) (m_Number : Int) (m_Suffix : Str) : Option Int :=
  chk (I64 ((qG.length : Int) - 1)) (
    andx (P_r9_in m_Class 0 ((qG.length : Int) - 1)) fun y11 =>
      if y11 = true then
        andx (P_r9_in m_Number 1 9999) fun y15 =>
          if y15 = true then
            seqx (
              andx (
                if (m_Suffix.length : Int) > 2 then
                  some true
                else
                  andx (P_r9_letters m_Suffix) fun y24 =>
                    some (!y24)) fun x26 =>
                if x26 = true then
                  some (Ex.rt 6)
                else
                  some (Ex.nx ())) fun _ =>
              some 0
          else
            some 7
      else
        some 4)
noncomputable def P_r9_Own_L1 (books : List qA) : (Int × (List Int)) → Option (Stp (Int × (List Int)) (List Int)) := fun (i, out) =>
  if i < (books.length : Int) then
    el books i fun a14 =>
    chk (out.length + [a14.shelf].length < 1000000000) (
      chk (I64 (i + 1)) (
        some (Stp.ag ((i + 1), out ++ [a14.shelf]))))
  else
    some (Stp.dn out)
noncomputable def P_r9_Own (books : List qA) : Option (List Int) :=
  andx (
    iter (P_r9_Own_L1 books) (0, [])) fun out =>
    some out
noncomputable def P_r9_Book_L1 (qK : Int) (qL : Int) (qM : Str) (before : List qA) : (Int × Int) → Option (Stp (Int × Int) Int) := fun (e_2, i) =>
  seqx (
    andx (
      if i < (before.length : Int) then
        some (decide (e_2 = 0))
      else
        some false) fun x40 =>
      if x40 = true then
        some (Ex.nx ())
      else
        some (Ex.rt (Stp.dn e_2))) fun _ =>
    andx (
      el before i fun a45 =>
      if a45.qR = qK ∧ a45.qS = qL ∧ a45.qQ = qM then
        some 5
      else
        some e_2) fun e_3 =>
      chk (I64 (i + 1)) (
        some (Stp.ag (e_3, (i + 1))))
noncomputable def P_r9_Book (qG : List Str) (qC : List qH) (qB : List qA) (qK : Int) (qL : Int) (qM : Str) (qJ : Int) (qI : Int) (qN : Int) (qO : Int) (before : List qA) : Option Int :=
  andx (P_r9_Mark qG qC qB qK qL qM) fun y12 =>
    andx (
      andx (
        if y12 = 0 then
          andx (P_r9_in qJ 1 2000) fun y18 =>
            if y18 = true then
              andx (P_r9_in qI 1 2000) fun y23 =>
                if y23 = true then
                  andx (P_r9_in qN 1 100) fun y29 =>
                    some (!y29)
                else
                  some true
            else
              some true
        else
          some false) fun x32 =>
        if x32 = true then
          some 7
        else
          some y12) fun e =>
      andx (
        iter (P_r9_Book_L1 qK qL qM before) (e, 0)) fun e_2 =>
        some e_2
noncomputable def P_r9_Filled_L1 (qC : List qH) (books : List qA) (shelves : List Int) (shelf : Int) : (Int × Int) → Option (Stp (Int × Int) (Ex Int Int)) := fun (n, i) =>
  if i < (books.length : Int) then
    seqx (
      el shelves i fun a19 =>
      if ¬ a19 = shelf then
        some (Ex.nx n)
      else
        el books i fun a25 =>
        el qC shelf fun a31 =>
        if a25.high > a31.high then
          some (Ex.rt (Stp.dn (Ex.rt (-1))))
        else
          el books i fun a38 =>
          chk (I64 (n + a38.wide)) (
            some (Ex.nx (n + a38.wide)))) fun n_2 =>
      chk (I64 (i + 1)) (
        some (Stp.ag (n_2, (i + 1))))
  else
    some (Stp.dn (Ex.nx n))
noncomputable def P_r9_Filled (qG : List Str) (qC : List qH) (qB : List qA) (books : List qA) (shelves : List Int) (shelf : Int) : Option Int :=
  seqx (
    iter (P_r9_Filled_L1 qC books shelves shelf) (0, 0)) fun n =>
    some n
noncomputable def P_r9_fit (qG : List Str) (qC : List qH) (qB : List qA) (books : List qA) (shelves : List Int) (shelf : Int) : Option Bool :=
 el qC shelf fun a17 =>
 andx (P_r9_Filled qG qC qB books shelves shelf) fun y13 =>
  andx (P_r9_in y13 0 a17.wide) fun y20 =>
   some y20
noncomputable def P_r9_Check_L1 (qG : List Str) : Int → Option (Stp Int (Ex Unit (Int × Int × Int))) := fun i =>
  if i < (qG.length : Int) then
    el qG i fun a28 =>
    chk (0 ≤ (0 : Int) ∧ (0 : Int) ≤ i ∧ i ≤ (qG.length : Int)) (
      andx (P_r1_Fresh a28 (List.take (i - (0 : Int)).toNat (List.drop ((0 : Int) : Int).toNat qG))) fun y34 =>
        if ¬ y34 = 0 then
          some (Stp.dn (Ex.rt (1, i, y34)))
        else
          chk (I64 (i + 1)) (
            some (Stp.ag (i + 1))))
  else
    some (Stp.dn (Ex.nx ()))
noncomputable def P_r9_Check_L2 (qC : List qH) : Int → Option (Stp Int (Ex Unit (Int × Int × Int))) := fun i =>
  if i < (qC.length : Int) then
    seqx (
      el qC i fun a54 =>
      andx (
        andx (P_r9_in a54.away 0 1000) fun y58 =>
          if y58 = true then
            andx (P_r9_in a54.climb 0 1000) fun y63 =>
              if y63 = true then
                andx (P_r9_in a54.wide 1 2000) fun y69 =>
                  if y69 = true then
                    andx (P_r9_in a54.high 1 2000) fun y75 =>
                      some (!y75)
                  else
                    some true
              else
                some true
          else
            some true) fun x77 =>
        if x77 = true then
          some (Ex.rt (Stp.dn (Ex.rt (2, i, 7))))
        else
          some (Ex.nx ())) fun _ =>
      chk (I64 (i + 1)) (
        some (Stp.ag (i + 1)))
  else
    some (Stp.dn (Ex.nx ()))
noncomputable def P_r9_Check_L3 (qG : List Str) (qC : List qH) (qB : List qA) : Int → Option (Stp Int (Ex Unit (Int × Int × Int))) := fun i =>
  if i < (qB.length : Int) then
    seqx (
      el qB i fun a93 =>
      chk (0 ≤ (0 : Int) ∧ (0 : Int) ≤ i ∧ i ≤ (qB.length : Int)) (
        andx (P_r9_Book qG qC qB a93.qR a93.qS a93.qQ a93.wide a93.high a93.heavy a93.shelf (List.take (i - (0 : Int)).toNat (List.drop ((0 : Int) : Int).toNat qB))) fun y101 =>
          andx (
            andx (
              if y101 = 0 then
                chk (I64 ((qC.length : Int) - 1)) (
                  andx (P_r9_in a93.shelf 0 ((qC.length : Int) - 1)) fun y111 =>
                    some (!y111))
              else
                some false) fun x113 =>
              if x113 = true then
                some 4
              else
                some y101) fun e =>
            andx (
              andx (
                if e = 0 then
                  if i > 0 then
                    chk (I64 (i - 1)) (
                      el qB (i - 1) fun a127 =>
                      some (decide (a93.shelf < a127.shelf)))
                  else
                    some false
                else
                  some false) fun x131 =>
                if x131 = true then
                  some 2
                else
                  some e) fun e_2 =>
              if ¬ e_2 = 0 then
                some (Ex.rt (Stp.dn (Ex.rt (3, i, e_2))))
              else
                some (Ex.nx ()))) fun _ =>
      chk (I64 (i + 1)) (
        some (Stp.ag (i + 1)))
  else
    some (Stp.dn (Ex.nx ()))
noncomputable def P_r9_Check_L4 (qG : List Str) (qC : List qH) (qB : List qA) : Int → Option (Stp Int (Ex Unit (Int × Int × Int))) := fun i =>
  if i < (qC.length : Int) then
    andx (P_r9_Own qB) fun y148 =>
      andx (P_r9_fit qG qC qB qB y148 i) fun y150 =>
        if y150 = true then
          chk (I64 (i + 1)) (
            some (Stp.ag (i + 1)))
        else
          some (Stp.dn (Ex.rt (4, i, 9)))
  else
    some (Stp.dn (Ex.nx ()))
noncomputable def P_r9_Check (qG : List Str) (qC : List qH) (qB : List qA) : Option (Int × Int × Int) :=
  andx (P_r9_in (qG.length : Int) 1 6) fun y16 =>
    if y16 = true then
      seqx (
        iter (P_r9_Check_L1 qG) 0) fun _ =>
        andx (P_r9_in (qC.length : Int) 1 4) fun y42 =>
          if y42 = true then
            seqx (
              iter (P_r9_Check_L2 qC) 0) fun _ =>
              if (qB.length : Int) > 10 then
                some (3, 0, 3)
              else
                seqx (
                  iter (P_r9_Check_L3 qG qC qB) 0) fun _ =>
                  seqx (
                    iter (P_r9_Check_L4 qG qC qB) 0) fun _ =>
                    some (0, 0, 0)
          else
            some (2, 0, 3)
    else
      some (1, 0, 3)
noncomputable def P_q_Name_L1 (s : Str) : Nat → Option (Stp Nat (Ex Unit Bool)) := fun pos =>
  if pos < s.length then
    andx (
      if (runeAt s pos) ≥ 97 then
        some (decide ((runeAt s pos) ≤ 122))
      else
        some false) fun x11 =>
      if x11 = true then
        some (Stp.ag (pos + runeLen s pos))
      else
        andx (
          if (pos : Int) > 0 then
            if (runeAt s pos) ≥ 48 then
              if (runeAt s pos) ≤ 57 then
                some true
              else
                some (decide ((runeAt s pos) = 46))
            else
              some (decide ((runeAt s pos) = 46))
          else
            some false) fun x18 =>
          if x18 = true then
            some (Stp.ag (pos + runeLen s pos))
          else
            some (Stp.dn (Ex.rt false))
  else
    some (Stp.dn (Ex.nx ()))
noncomputable def P_q_Name (s : Str) : Option Bool :=
  seqx (
    iter (P_q_Name_L1 s) 0) fun _ =>
    andx (
      if ¬ s = ([] : Str) then
        some (decide ((s.length : Int) ≤ 16))
      else
        some false) fun x2 =>
      some x2
noncomputable def P_s9_out_L1 (lo : Int) (hi : Int) (numbers : List Int) : Int → Option (Stp Int (Ex Unit Int)) := fun x8 =>
  if x8 < (numbers.length : Int) then
    el numbers x8 fun a14 =>
    andx (
      if a14 < lo then
        some true
      else
        some (decide (a14 > hi))) fun x4 =>
      if x4 = true then
        some (Stp.dn (Ex.rt x8))
      else
        chk (I64 (x8 + 1)) (
          some (Stp.ag (x8 + 1)))
  else
    some (Stp.dn (Ex.nx ()))
noncomputable def P_s9_out (lo : Int) (hi : Int) (numbers : List Int) : Option Bool :=
  andx (
    seqx (
      iter (P_s9_out_L1 lo hi numbers) 0) fun _ =>
      some (-1)) fun y7 =>
    some (decide (y7 ≥ 0))
noncomputable def P_s9_mark_L1 (m_Suffix : Str) : Nat → Option (Stp Nat (Ex Unit Int)) := fun pos =>
  if pos < m_Suffix.length then
    andx (
      if (runeAt m_Suffix pos) < 97 then
        some true
      else
        some (decide ((runeAt m_Suffix pos) > 122))) fun x38 =>
      if x38 = true then
        some (Stp.dn (Ex.rt 6))
      else
        some (Stp.ag (pos + runeLen m_Suffix pos))
  else
    some (Stp.dn (Ex.nx ()))
noncomputable def P_s9_mark (r_SfRoom_Classes : List Str) (r_SfRoom_Shelves : List qH) (r_SfRoom_Books : List qA) (m_Class : Int) (m_Number : Int) (m_Suffix : Str) : Option Int :=
  chk (I64 ((r_SfRoom_Classes.length : Int) - 1)) (
    andx (P_s9_out 0 ((r_SfRoom_Classes.length : Int) - 1) [m_Class]) fun y16 =>
      if y16 = true then
        some 4
      else
        andx (P_s9_out 1 9999 [m_Number]) fun y21 =>
          if y21 = true then
            some 7
          else
            if (m_Suffix.length : Int) > 2 then
              some 6
            else
              seqx (
                iter (P_s9_mark_L1 m_Suffix) 0) fun _ =>
                some 0)
noncomputable def P_s9_book_L1 (qK : Int) (qL : Int) (qM : Str) (others : List qA) : Int → Option (Stp Int (Ex Unit Int)) := fun x8 =>
  if x8 < (others.length : Int) then
    el others x8 fun a14 =>
    if a14.qR = qK ∧ a14.qS = qL ∧ a14.qQ = qM then
      some (Stp.dn (Ex.rt x8))
    else
      chk (I64 (x8 + 1)) (
        some (Stp.ag (x8 + 1)))
  else
    some (Stp.dn (Ex.nx ()))
noncomputable def P_s9_book (r_SfRoom_Classes : List Str) (r_SfRoom_Shelves : List qH) (r_SfRoom_Books : List qA) (qK : Int) (qL : Int) (qM : Str) (qJ : Int) (qI : Int) (qN : Int) (qO : Int) (others : List qA) : Option Int :=
  andx (P_s9_mark r_SfRoom_Classes r_SfRoom_Shelves r_SfRoom_Books qK qL qM) fun y11 =>
    if ¬ y11 = 0 then
      some y11
    else
      seqx (
        andx (
          andx (P_s9_out 1 2000 [qJ, qI]) fun y21 =>
            if y21 = true then
              some true
            else
              andx (P_s9_out 1 100 [qN]) fun y26 =>
                some y26) fun x15 =>
          if x15 = true then
            some (Ex.rt 7)
          else
            andx (
              seqx (
                iter (P_s9_book_L1 qK qL qM others) 0) fun _ =>
                some (-1)) fun y7 =>
              if y7 ≥ 0 then
                some (Ex.rt 5)
              else
                some (Ex.nx ())) fun _ =>
        some 0
noncomputable def P_s9_Check_L2 (qG : List Str) (x11 : Int) (a14 : Str) : Int → Option (Stp Int (Ex Unit Int)) := fun x8 =>
  if x8 < ((List.take (x11 - (0 : Int)).toNat (List.drop ((0 : Int) : Int).toNat qG)).length : Int) then
    el (List.take (x11 - (0 : Int)).toNat (List.drop ((0 : Int) : Int).toNat qG)) x8 fun a14_2 =>
    if a14 = a14_2 then
      some (Stp.dn (Ex.rt x8))
    else
      chk (I64 (x8 + 1)) (
        some (Stp.ag (x8 + 1)))
  else
    some (Stp.dn (Ex.nx ()))
noncomputable def P_s9_Check_L1 (qG : List Str) : Int → Option (Stp Int (Ex Unit (Int × Int))) := fun x11 =>
  if x11 < (qG.length : Int) then
    el qG x11 fun a14 =>
    andx (
      andx (P_q_Name a14) fun y8 =>
        if y8 = true then
          chk (0 ≤ (0 : Int) ∧ (0 : Int) ≤ x11 ∧ x11 ≤ (qG.length : Int)) (
            andx (
              seqx (
                iter (P_s9_Check_L2 qG x11 a14) 0) fun _ =>
                some (-1)) fun y7 =>
              if y7 ≥ 0 then
                some 5
              else
                some 0)
        else
          some 6) fun y19 =>
      if ¬ y19 = 0 then
        some (Stp.dn (Ex.rt (x11, y19)))
      else
        chk (I64 (x11 + 1)) (
          some (Stp.ag (x11 + 1)))
  else
    some (Stp.dn (Ex.nx ()))
noncomputable def P_s9_Check_L3 (qC : List qH) : Int → Option (Stp Int (Ex Unit (Int × Int))) := fun x11 =>
  if x11 < (qC.length : Int) then
    el qC x11 fun a14 =>
    andx (
      seqx (
        andx (
          andx (P_s9_out 0 1000 [a14.away, a14.climb]) fun y10 =>
            if y10 = true then
              some true
            else
              andx (P_s9_out 1 2000 [a14.wide, a14.high]) fun y17 =>
                some y17) fun x18 =>
          if x18 = true then
            some (Ex.rt 7)
          else
            some (Ex.nx ())) fun _ =>
        some 0) fun y19 =>
      if ¬ y19 = 0 then
        some (Stp.dn (Ex.rt (x11, y19)))
      else
        chk (I64 (x11 + 1)) (
          some (Stp.ag (x11 + 1)))
  else
    some (Stp.dn (Ex.nx ()))
noncomputable def P_s9_Check_L4 (qG : List Str) (qC : List qH) (qB : List qA) : Int → Option (Stp Int (Ex Unit (Int × Int))) := fun x11 =>
  if x11 < (qB.length : Int) then
    el qB x11 fun a14 =>
    andx (
      chk (0 ≤ (0 : Int) ∧ (0 : Int) ≤ x11 ∧ x11 ≤ (qB.length : Int)) (
        andx (P_s9_book qG qC qB a14.qR a14.qS a14.qQ a14.wide a14.high a14.heavy a14.shelf (List.take (x11 - (0 : Int)).toNat (List.drop ((0 : Int) : Int).toNat qB))) fun y14_3 =>
          seqx (
            if ¬ y14_3 = 0 then
              some (Ex.rt y14_3)
            else
              chk (I64 ((qC.length : Int) - 1)) (
                andx (P_s9_out 0 ((qC.length : Int) - 1) [a14.shelf]) fun y27_2 =>
                  if y27_2 = true then
                    some (Ex.rt 4)
                  else
                    andx (
                      if x11 > 0 then
                        chk (I64 (x11 - 1)) (
                          el qB (x11 - 1) fun a38 =>
                          some (decide (a14.shelf < a38.shelf)))
                      else
                        some false) fun x28 =>
                      if x28 = true then
                        some (Ex.rt 2)
                      else
                        some (Ex.nx ()))) fun _ =>
            some 0)) fun y19 =>
      if ¬ y19 = 0 then
        some (Stp.dn (Ex.rt (x11, y19)))
      else
        chk (I64 (x11 + 1)) (
          some (Stp.ag (x11 + 1)))
  else
    some (Stp.dn (Ex.nx ()))
noncomputable def P_s9_Check_L6 (qB : List qA) (x11 : Int) (a14 : qH) : (Int × Int) → Option (Stp (Int × Int) (Ex Int Int)) := fun (x11_2, s_Wide) =>
  if x11_2 < (qB.length : Int) then
    seqx (
      el qB x11_2 fun a13 =>
      if ¬ a13.shelf = x11 then
        some (Ex.nx s_Wide)
      else
        chk (I64 (s_Wide - a13.wide)) (
          andx (
            if (s_Wide - a13.wide) < 0 then
              some true
            else
              some (decide (a13.high > a14.high))) fun x34 =>
            if x34 = true then
              some (Ex.rt (Stp.dn (Ex.rt 9)))
            else
              some (Ex.nx (s_Wide - a13.wide)))) fun s_Wide_2 =>
      chk (I64 (x11_2 + 1)) (
        some (Stp.ag ((x11_2 + 1), s_Wide_2)))
  else
    some (Stp.dn (Ex.nx s_Wide))
noncomputable def P_s9_Check_L5 (qC : List qH) (qB : List qA) : Int → Option (Stp Int (Ex Unit (Int × Int))) := fun x11 =>
  if x11 < (qC.length : Int) then
    el qC x11 fun a14 =>
    andx (
      seqx (
        iter (P_s9_Check_L6 qB x11 a14) (0, a14.wide)) fun s_Wide =>
        some 0) fun y19 =>
      if ¬ y19 = 0 then
        some (Stp.dn (Ex.rt (x11, y19)))
      else
        chk (I64 (x11 + 1)) (
          some (Stp.ag (x11 + 1)))
  else
    some (Stp.dn (Ex.nx ()))
noncomputable def P_s9_Check (qG : List Str) (qC : List qH) (qB : List qA) : Option (Int × Int × Int) :=
  andx (P_s9_out 1 6 [(qG.length : Int)]) fun y9 =>
    if y9 = true then
      some (1, 0, 3)
    else
      andx (
        seqx (
          iter (P_s9_Check_L1 qG) 0) fun _ =>
          some (0, 0)) fun (y14, y14_2) =>
        if ¬ y14_2 = 0 then
          some (1, y14, y14_2)
        else
          andx (P_s9_out 1 4 [(qC.length : Int)]) fun y27 =>
            if y27 = true then
              some (2, 0, 3)
            else
              andx (
                seqx (
                  iter (P_s9_Check_L3 qC) 0) fun _ =>
                  some (0, 0)) fun (y31, y31_2) =>
                if ¬ y31_2 = 0 then
                  some (2, y31, y31_2)
                else
                  if (qB.length : Int) > 10 then
                    some (3, 0, 3)
                  else
                    andx (
                      seqx (
                        iter (P_s9_Check_L4 qG qC qB) 0) fun _ =>
                        some (0, 0)) fun (y48, y48_2) =>
                      if ¬ y48_2 = 0 then
                        some (3, y48, y48_2)
                      else
                        andx (
                          seqx (
                            iter (P_s9_Check_L5 qC qB) 0) fun _ =>
                            some (0, 0)) fun (y59, y59_2) =>
                          if ¬ y59_2 = 0 then
                            some (4, y59, y59_2)
                          else
                            some (0, 0, 0)
noncomputable def P_s9_open (qG : List Str) (qC : List qH) (qB : List qA) : Option Int :=
 andx (P_s9_Check qG qC qB) fun (y9, y9_2, y9_3) =>
  some y9_3
noncomputable def P_s9_Spare_L1 (qC : List qH) : (Int × (List Int)) → Option (Stp (Int × (List Int)) (List Int)) := fun (x21, l) =>
  if x21 < (qC.length : Int) then
    el qC x21 fun a23 =>
    chk (l.length + [a23.wide].length < 1000000000) (
      chk (I64 (x21 + 1)) (
        some (Stp.ag ((x21 + 1), l ++ [a23.wide]))))
  else
    some (Stp.dn l)
noncomputable def P_s9_Spare_L2 (qB : List qA) : (Int × (List Int)) → Option (Stp (Int × (List Int)) (List Int)) := fun (x35, l_2) =>
  if x35 < (qB.length : Int) then
    el qB x35 fun a37 =>
    el l_2 a37.shelf fun a42 =>
    chk (I64 (a42 - a37.wide)) (
      el l_2 a37.shelf fun a47 =>
      chk (I64 (x35 + 1)) (
        some (Stp.ag ((x35 + 1), List.set l_2 a37.shelf.toNat (a42 - a37.wide)))))
  else
    some (Stp.dn l_2)
noncomputable def P_s9_Spare (qG : List Str) (qC : List qH) (qB : List qA) : Option ((List Int) × Int) :=
  andx (P_s9_open qG qC qB) fun y11 =>
    if ¬ y11 = 0 then
      some ([], y11)
    else
      andx (
        iter (P_s9_Spare_L1 qC) (0, [])) fun l =>
        andx (
          iter (P_s9_Spare_L2 qB) (0, l)) fun l_2 =>
          some (l_2, 0)
end Go.Am
end
section
namespace Go.Am
set_option linter.unusedVariables false
noncomputable def P_cmpOr_L1 (vals : List Int) : Int → Option (Stp Int (Ex Unit Int)) := fun x8 =>
  if x8 < (vals.length : Int) then
    el vals x8 fun a10 =>
    if ¬ a10 = 0 then
      some (Stp.dn (Ex.rt a10))
    else
      chk (I64 (x8 + 1)) (
        some (Stp.ag (x8 + 1)))
  else
    some (Stp.dn (Ex.nx ()))
noncomputable def P_cmpOr (vals : List Int) : Option Int :=
  seqx (
    iter (P_cmpOr_L1 vals) 0) fun _ =>
    some 0
noncomputable def P_cmpInt (x : Int) (y : Int) : Option Int :=
 if ¬ x = x then
  if ¬ y = y then
   some 0
  else
   some (-1)
 else
  if ¬ y = y then
   some 1
  else
   if x < y then
    some (-1)
   else
    if x > y then
     some 1
    else
     some 0
noncomputable def P_s9_compare (a_Class : Int) (a_Number : Int) (a_Suffix : Str) (b_Class : Int) (b_Number : Int) (b_Suffix : Str) : Option Int :=
  if a_Class = b_Class ∧ a_Number = b_Number ∧ a_Suffix = b_Suffix then
    some 0
  else
    chk (I64 (a_Class - b_Class)) (
      chk (I64 (a_Number - b_Number)) (
        chk (I64 ((a_Suffix.length : Int) - (b_Suffix.length : Int))) (
          andx (P_cmpOr [(a_Class - b_Class), (a_Number - b_Number), ((a_Suffix.length : Int) - (b_Suffix.length : Int)), (cmpS a_Suffix b_Suffix)]) fun y31 =>
            some y31)))
end Go.Am
end
section
namespace Go.Am.YtiaolgbmbhldgaaGreatDoor.Q
open Go.Am Go.RowKit
set_option linter.unusedVariables false
set_option linter.unusedSimpArgs false
set_option maxRecDepth 10000 in
theorem tf_cmpOr {k : Nat} (hk : 0 ≤ k) {C : List Thing} {v_vals : AV} {vals : List Int} (h_vals : Rdl C encI v_vals vals) {r : Int} (h : P_cmpOr vals = some r) :
  TF (EL k) 129 [v_vals] C (RepF (fun (w : Unit) => iv r) (fun (w : Unit) => C)) := by
 unfold P_cmpOr at h;refine TF.enter (fn := Go.Proofs.Tryz.f129) rfl rfl rfl rfl rfl (zU rfl (zA R4 (zN (zU rfl (zA R4 (zN ?_))))))
 show T _ _ _ _ _ _;apply T.join (r := r) (W := Unit) (fun j w => ⟨[], [(3, iv (0))], C⟩) h
 ·intro j h;refine zU rfl (zM R4 (zV R3 (Val.len_l h_vals mem0 rfl rfl) (zM R4 (zN (zB ?_)))))
  show T _ _ _ _ _ _;apply T.iter (r := j) (W := Unit) (fun j w => ⟨[], [(3, iv (0)), (6, v_vals), (7, iv ((vals.length : Int))), (8, iv (j))], C⟩) (w0 := ()) h
  ·exact (sb .refl)
  rintro x8 _ a h;unfold P_cmpOr_L1 at h;refine zU rfl ?_;obtain ⟨c9, hc9⟩ := zY (x8 < (vals.length : Int));refine zV R3 (Val.lss hc9 rfl rfl) (zN (zS ?_));obtain ⟨rfl, hc9, h⟩ | ⟨rfl, hc9, h⟩ := zI hc9 h
  ·refine zC rfl (zK (zS (zB (zU rfl ?_))));obtain ⟨a10, hia10, ea10, h⟩ := el_some h;refine TO.fact (rdl_at h_vals mem0 hia10 ea10) (fun hp=>?_);obtain ⟨pa10, hpa10, hva10⟩ := hp;refine zV R3 (hva10 ⟨rfl, rfl⟩ rfl rfl) (zV R3 (Val.load_e hpa10 mem0 ⟨_, rfl, rfl⟩ rfl rfl) (zA R4 (zN (zU rfl (zM R4 (zM R4 ?_))))));obtain ⟨c14, hc14⟩ := zY (¬ a10 = 0);refine zV R3 (Val.neq hc14 rfl rfl) (zN ?_);obtain ⟨rfl, hc14, h⟩ | ⟨rfl, hc14, h⟩ := zI hc14 h
   ·refine zC rfl (zU rfl (zM R4 (zA R4 (zN (zR ?_)))));cases h;exact ⟨ret_ne, ⟨ret_ne, ⟨rfl, _, rfl, ⟨(), rfl, .refl⟩⟩⟩⟩
   refine zD rfl (zK (zT rfl ?_));obtain ⟨hk16, h⟩ := chk_some h;refine zV R3 (Val.add rfl rfl hk16) (zM R4 (zN ?_));cases h;exact ⟨rfl, (), (sb .refl)⟩
  refine zD rfl (zE ?_);cases h;exact ⟨ex_ne, ⟨rfl, (), (sb .refl)⟩⟩
 ·rintro _ _ h;refine zU rfl (zM R4 (zA R4 (zN (zR ?_))));cases h;exact ⟨rfl, _, rfl, ⟨(), rfl, .refl⟩⟩
set_option maxRecDepth 10000 in
theorem tf_s9_compare {k : Nat} (hk : 0 ≤ k) {C : List Thing} {a_Class : Int} {a_Number : Int} {a_Suffix : Str} {b_Class : Int} {b_Number : Int} {b_Suffix : Str} {r : Int} (h : P_s9_compare a_Class a_Number a_Suffix b_Class b_Number b_Suffix = some r) :
  TF (EL k) 90 [.agg [iv (a_Class), iv (a_Number), sv a_Suffix], .agg [iv (b_Class), iv (b_Number), sv b_Suffix]] C (RepF (fun (w : Unit) => iv r) (fun (w : Unit) => C)) := by
 unfold P_s9_compare at h;refine TF.enter (fn := Go.Proofs.Tryz.f90) rfl rfl rfl rfl rfl (zU rfl (zQ 3 [_,_,_] R7 (fun b2=>zQ 3 [_,_,_] R7 (fun b3=>zA R4 (zN (zS (zU rfl (zV R3 (vW 1 [_,_,_] R5 R4) (zV R3 (vW 0 [_,_,_] R5 R4) ?_)))))))));obtain ⟨c7, hc7⟩ := zY (a_Class = b_Class ∧ a_Number = b_Number ∧ a_Suffix = b_Suffix);refine zV R3 (Val.binD hc7 rfl rfl (eql_ty28 _ _ _ _ _ _ _ _)) (zN ?_);obtain ⟨rfl, hc7, h⟩ | ⟨rfl, hc7, h⟩ := zI hc7 h
 ·refine zC rfl (zU rfl (zA R4 (zN (zR ?_))));cases h;exact ⟨rfl, _, rfl, ⟨(), rfl, (pk [98,98] rfl)⟩⟩
 refine zD rfl (zK (zS (T.drawE (l1 := [0, 1, 2, 3, 4, 5, 6, 7, 8, 9, 10, 11, 12, 13, 14, 15, 16, 17, 18, 19, 20]) (l2 := [21, 22, 23, 24]) (by kernel_rfl) (by kernel_rfl) (yL R4 (Val.faddr_ptr (fo := 0) rfl rfl rfl) (yR R4 (vR (p := 1) R6) (yL R4 (Val.faddr_ptr (fo := 0) rfl rfl rfl) (yR R4 (vR (p := 0) R6) ?_)))))));obtain ⟨hk12, h⟩ := chk_some h;refine yL R4 (Val.sub rfl rfl hk12) (yL R4 (Val.faddr_ptr (fo := 1) rfl rfl rfl) (yR R4 (vR (p := 1) R6) (yL R4 (Val.faddr_ptr (fo := 1) rfl rfl rfl) (yR R4 (vR (p := 0) R6) ?_))));obtain ⟨hk17, h⟩ := chk_some h;refine yL R4 (Val.sub rfl rfl hk17) (yL R4 (Val.faddr_ptr (fo := 2) rfl rfl rfl) (yR R4 (vR (p := 1) R6) (yR R4 (Val.len_str rfl rfl) (yL R4 (Val.faddr_ptr (fo := 2) rfl rfl rfl) (yR R4 (vR (p := 0) R6) (yR R4 (Val.len_str rfl rfl) ?_))))));obtain ⟨hk24, h⟩ := chk_some h;refine yL R4 (Val.sub rfl rfl hk24) (yL R4 (Val.faddr_ptr (fo := 2) rfl rfl rfl) (yR R4 (vR (p := 1) R6) (yL R4 (Val.faddr_ptr (fo := 2) rfl rfl rfl) (yR R4 (vR (p := 0) R6) (TD1.over (fun v => sameC_refl v) (all_cons (⟨_, rfl, (vR (p := 0) R6)⟩) (all_cons (⟨_, rfl, (vR (p := 1) R6)⟩) (all_cons (⟨_, rfl, (Val.len_str rfl rfl)⟩) (all_cons (⟨_, rfl, (vR (p := 0) R6)⟩) (all_cons (⟨_, rfl, (Val.len_str rfl rfl)⟩) (all_cons (⟨_, rfl, (vR (p := 1) R6)⟩) (all_cons (⟨_, rfl, (vR (p := 0) R6)⟩) (all_cons (⟨_, rfl, (vR (p := 1) R6)⟩) (all_cons (⟨_, rfl, (vR (p := 0) R6)⟩) (all_cons (⟨_, rfl, (vR (p := 1) R6)⟩) all_nil)))))))))) (TD2.heavy (fun v => sameC_refl v) rfl (by decide) rfl rfl (OpS.call (v := iv (cmpS a_Suffix b_Suffix)) rfl rfl rfl orcC (.cons .lit (.cons .lit .nil)) rfl) ?_))))));rintro _ _ ⟨rfl, rfl⟩;refine ⟨(all_cons (.inl (by kernel_rfl)) (all_cons (.inl (by kernel_rfl)) (all_cons (.inr ⟨_, rfl, (Val.len_str rfl rfl)⟩) (all_cons (.inr ⟨_, rfl, (vR (p := 0) R6)⟩) (all_cons (.inr ⟨_, rfl, (Val.len_str rfl rfl)⟩) (all_cons (.inr ⟨_, rfl, (vR (p := 1) R6)⟩) (all_cons (.inr ⟨_, rfl, (vR (p := 0) R6)⟩) (all_cons (.inr ⟨_, rfl, (vR (p := 1) R6)⟩) (all_cons (.inr ⟨_, rfl, (vR (p := 0) R6)⟩) (all_cons (.inr ⟨_, rfl, (vR (p := 1) R6)⟩) all_nil)))))))))), all_nil, ?_⟩;refine TD2.heavy (fun v => sameC_refl v) rfl (by decide) rfl rfl (OpS.eff (Eff.new (New.buildSlice (en := encI) (l := [(a_Class - b_Class), (a_Number - b_Number), ((a_Suffix.length : Int) - (b_Suffix.length : Int)), (cmpS a_Suffix b_Suffix)]) (vs := [(_, _), (_, _), (_, _), (_, _)]) (ws := [(_, [_]), (_, [_]), (_, [_]), (_, [_])]) ⟨rfl, rfl⟩ rfl rfl rfl rfl (CellsL.cons rfl (CellsL.cons rfl (CellsL.cons rfl (CellsL.cons rfl CellsL.nil)))) rfl rfl))) ?_;rintro _ _ ⟨v30, rfl, rfl⟩;refine ⟨(all_cons (.inl (by kernel_rfl)) (all_cons (.inl (by kernel_rfl)) (all_cons (.inl (by kernel_rfl)) (all_cons (.inl (by kernel_rfl)) (all_cons (.inl (by kernel_rfl)) (all_cons (.inl (by kernel_rfl)) (all_cons (.inl (by kernel_rfl)) (all_cons (.inl (by kernel_rfl)) (all_cons (.inl (by kernel_rfl)) (all_cons (.inl (by kernel_rfl)) all_nil)))))))))), all_nil, ?_⟩;refine TD2.less (Less.rowOwn (en := encI) (l := [(a_Class - b_Class), (a_Number - b_Number), ((a_Suffix.length : Int) - (b_Suffix.length : Int)), (cmpS a_Suffix b_Suffix)]) (p := 0) rfl) (yG (_::_::_::C) rfl ?_)
 obtain ⟨y31, hr31, h⟩ := andx_some h;refine TD2.heavy (fun v => sameC_refl v) rfl (by decide) rfl rfl (OpS.callV rfl rfl rfl rfl (orcN rfl) (RepF.conv (tf_cmpOr aD (Rdl.mono (Rdl.own (C := ownL false (.slice v30 0 (List.flatMap encI.f [(a_Class - b_Class), (a_Number - b_Number), ((a_Suffix.length : Int) - (b_Suffix.length : Int)), (cmpS a_Suffix b_Suffix)]).length true (List.length [(a_Class - b_Class), (a_Number - b_Number), ((a_Suffix.length : Int) - (b_Suffix.length : Int)), (cmpS a_Suffix b_Suffix)]) (List.length [(a_Class - b_Class), (a_Number - b_Number), ((a_Suffix.length : Int) - (b_Suffix.length : Int)), (cmpS a_Suffix b_Suffix)])) encI [(a_Class - b_Class), (a_Number - b_Number), ((a_Suffix.length : Int) - (b_Suffix.length : Int)), (cmpS a_Suffix b_Suffix)] :: .row b3 3 [iv (b_Class), iv (b_Number), sv b_Suffix] :: .row b2 3 [iv (a_Class), iv (a_Number), sv a_Suffix] :: C) (p := 0) rfl) mem0) hr31))) ?_;rintro _ hs_ ⟨_, rfl, he_⟩;subst hs_;refine ⟨(all_cons (.inl (by kernel_rfl)) (all_cons (.inl (by kernel_rfl)) (all_cons (.inl (by kernel_rfl)) (all_cons (.inl (by kernel_rfl)) (all_cons (.inl (by kernel_rfl)) (all_cons (.inl (by kernel_rfl)) (all_cons (.inl (by kernel_rfl)) (all_cons (.inl (by kernel_rfl)) (all_cons (.inl (by kernel_rfl)) (all_cons (.inl (by kernel_rfl)) all_nil)))))))))), all_nil, ?_⟩;refine yG (_::_::_::C) rfl (yM R4 (Val.assign rfl) (TD2.nil (zR ?_)));cases h;exact ⟨rfl, _, rfl, ⟨(), rfl, (pk [98,98,98] rfl)⟩⟩
end Go.Am.YtiaolgbmbhldgaaGreatDoor.Q
end
section
namespace Go.Am
open Go.RowKit Go.Sort Go.Proofs
set_option linter.unusedVariables false
def ivs (l : List Int) : List AV := l.map fun x => .lit (.int .i64 x)
def St.put (S : St) (id : Nat) (l : List Int) (ver : Nat) : St := { heap := S.heap.set id (.row (ivs l) 1 ver), next := S.next, low := S.next, glb := S.glb }
structure Ord (N : Int) (cf : Int → Int → Int) : Prop where
 irrefl : ∀ x, 0 ≤ x → x < N → ¬ cf x x < 0
 trans : ∀ x y z, 0 ≤ x → x < N → 0 ≤ y → y < N → 0 ≤ z → z < N → cf x y < 0 → cf y z < 0 → cf x z < 0
 ntrans : ∀ x y z, 0 ≤ x → x < N → 0 ≤ y → y < N → 0 ≤ z → z < N → ¬ cf x y < 0 → ¬ cf y z < 0 → ¬ cf x z < 0
def SortAt (E0 : Env) (args : List AV) (S S' : St) : Prop :=
  (∃ s f, args = [s, f] ∧ (s = .lit (.slice none 0 0) ∨ ∃ id off ver ex cap, s = .slice id off ver ex 0 cap) ∧ S' = S) ∨
  ∃ (id fl cap : Nat) (ex : Bool) (c : FuncId) (caps : List AV) (l l' : List Int) (N : Int) (cf : Int → Int → Int),
    args = [.slice id 0 l.length ex l.length cap, .func c [] caps] ∧ S.heap.get id = some (.row (ivs l) 1 fl) ∧ fl ≤ l.length ∧ l ≠ [] ∧ l.length < 4611686018427387904 ∧
    (∃ fn, E0.fn c = some fn) ∧ (∀ x ∈ l, 0 ≤ x ∧ x < N) ∧ Ord N cf ∧
    (∀ l2 : List Int, l2.length = l.length → (∀ x ∈ l2, 0 ≤ x ∧ x < N) → ∀ x y, 0 ≤ x → x < N → 0 ≤ y → y < N →
      ∃ n, ∀ m, n ≤ m → run E0 m (.call c ([.lit (.int .i64 x), .lit (.int .i64 y)] ++ caps)) (S.put id l2 l.length) = .ok (.ret (.lit (.int .i64 (cf x y))), S.put id l2 l.length)) ∧
    l'.Perm l ∧ l'.Pairwise (fun x y => cf x y < 0) ∧ S' = S.write id (.row (ivs l') 1 l.length)
open Classical in
noncomputable def sortDeed (E0 : Env) (args : List AV) (S : St) : Option (AV × St) := if h : ∃ S', SortAt E0 args S S' then some (undefA, h.choose) else none
theorem ivs_get {l : List Int} {i : Nat} {v : AV} (h : (ivs l)[i]? = some v) : ∃ x, l[i]? = some x ∧ v = .lit (.int .i64 x) := by
 unfold ivs at h;rw [List.getElem?_map, Option.map_eq_some_iff] at h;obtain ⟨x, h1, h2⟩ := h;exact ⟨x, h1, h2.symm⟩
theorem ivs_len (l : List Int) : (ivs l).length = l.length := by simp [ivs]
theorem ivs_inj {l l' : List Int} (h : ivs l = ivs l') : l = l' := by
 refine List.map_inj_right (f := fun x : Int => AV.lit (.int .i64 x)) (fun x y e => ?_) |>.1 h
 injection e with e
 injection e with _ e
theorem RelW.same {r : Ren} {S : St} {w w' : World} (h : RelW r S w) (hs : w.heap.size ≤ w'.heap.size) (hb : ∀ b, b < w.heap.size → w'.heap[b]? = w.heap[b]?) : RelW r S w' := by
 refine ⟨fun id ver x hx => ⟨(h.dom _ _ _ hx).1, Nat.lt_of_lt_of_le (h.dom _ _ _ hx).2 hs⟩, h.inj, fun b c hc => ?_, fun id o hg v b n u hx => ?_, h.low, h.glb⟩
 ·obtain ⟨⟨e, fz, h1⟩, h2⟩ := h.imm b c hc;exact ⟨⟨e, fz, by rw [hb b (Array.getElem?_eq_some_iff.1 h1).1]; exact h1⟩, h2⟩
 ·exact (h.obj id o hg v b n u hx).world (hb b (h.dom _ _ _ hx).2)
theorem Ext.same {r : Ren} {S : St} {w w' : World} (h : RelW r S w) (hs : w.heap.size ≤ w'.heap.size) (hb : ∀ b, b < w.heap.size → w'.heap[b]? = w.heap[b]?) (h1 : w'.os = w.os) (h2 : w'.tape = w.tape) (h3 : w'.output = w.output) (h4 : w.drawn ≤ w'.drawn) : Ext r S w r S w' :=
 ⟨.refl r, h.same hs hb, rfl, Nat.le_refl _, Nat.le_refl _, fun _ _ _ => rfl, hs, h1, h2, h3, fun b hlt => .inl (hb b hlt), fun _ _ _ h => .inl h, fun _ _ h => .inl h, fun _ _ _ h => .inr ⟨_, _, h⟩, h4⟩
section
variable {E0 : Env} {r : Ren} {S : St} {w : World}
abbrev Low (N : Int) := { x : Int // 0 ≤ x ∧ x < N }
def encLow (N : Int) (x : Low N) : Value := .int .i64 x.1
theorem putRow_put {N : Int} [Inhabited (Low N)] {b : Nat} {c : Array Value} {e : TypeId} (hb : w.heap[b]? = some (.cells c e (0, 0))) (d : Array (Low N)) : putRow (encLow N) w b 0 d = w.putObj b (.cells (putCells (encLow N) 0 d c) e (0, 0)) := by
 have hlt : b < w.heap.size := (Array.getElem?_eq_some_iff.1 hb).1;unfold putRow mapBlock World.putObj
 congr 1
 refine Array.ext_getElem? fun k => ?_
 rw [Array.getElem?_modify, Array.getElem?_setIfInBounds]
 by_cases hk : b = k
 ·subst hk;rw [if_pos rfl, if_pos rfl, if_pos hlt, hb];rfl
 ·rw [if_neg hk, if_neg hk]
theorem put_ext {N : Int} [Inhabited (Low N)] (hw : RelW r S w) {id fl b n u : Nat} {l : List Int} (hr : r.row id l.length = some (b, n, u)) (hS : S.heap.get id = some (.row (ivs l) 1 fl)) (hfl : fl ≤ l.length) (d : Array (Low N)) (hd : d.size = l.length) :
  Ext r S w r (S.write id (.row (ivs (d.toList.map (·.1))) 1 l.length)) (putRow (encLow N) w b 0 d) := by
 obtain ⟨h1, h2, h3⟩ := hw.obj _ _ hS _ _ _ _ hr;obtain ⟨c, e, k1, k2, k3, k4⟩ := h3 hfl;rw [putRow_put k1]
 have hlt : b < w.heap.size := (hw.dom _ _ _ hr).2;refine hw.write hr _ _ fun ver b1 n1 u1 hr1 => ?_
 obtain ⟨g1, g2, g3⟩ := hw.obj _ _ hS _ _ _ _ hr1
 have hl : (ivs (d.toList.map (·.1))).length = l.length := by rw [ivs_len, List.length_map, Array.length_toList, hd]
 rw [ivs_len] at g2;refine ⟨g1, by rw [hl]; exact g2, fun hle => ?_⟩
 have : ver = l.length := by omega
 subst this;rw [hr] at hr1;cases hr1;refine ⟨putCells (encLow N) 0 d c, e, by rw [World.putObj_get hlt, if_pos rfl], by simp [putCells, k2], k3, fun i v x hi hv hx => ?_⟩;obtain ⟨y, hy, rfl⟩ := ivs_get hv;rw [List.getElem?_map, Option.map_eq_some_iff] at hy;obtain ⟨z, hz, rfl⟩ := hy;rw [putCells, Array.getElem?_mapIdx, Option.map_eq_some_iff] at hx;obtain ⟨a, ha, rfl⟩ := hx;rw [if_pos ⟨Nat.zero_le _, by omega⟩]
 have e1 : d[i - 0]! = z := by
  rw [Nat.sub_zero, getElem!_pos d i (by omega)];rw [Array.getElem?_toList, Array.getElem?_eq_getElem (by omega)] at hz;exact Option.some.inj hz
 rw [e1];exact .lit _
theorem sort_world {N : Int} [Inhabited (Low N)] (hw : RelW r S w) {id fl b n u : Nat} {l : List Int} (hr : r.row id l.length = some (b, n, u)) (hS : S.heap.get id = some (.row (ivs l) 1 fl)) (hfl : fl ≤ l.length) (d : Array (Low N)) (hd : d.size = l.length) (m : Nat) (os : Array Obj) :
  Ext r S w r (S.write id (.row (ivs (d.toList.map (·.1))) 1 l.length)) (sortWorld (encLow N) w b 0 m d os) := by
 have h1 := put_ext hw hr hS hfl d hd;refine h1.trans (Ext.same h1.rel ?_ (fun k hk => ?_) rfl rfl rfl ?_)
 ·simp [sortWorld, grow, putRow_ahead]
 ·unfold sortWorld;rw [putRow_ahead, heap_grow_old _ _ (by simpa using hk)];rfl
 ·simp [sortWorld, grow, putRow_ahead]
theorem perm_sorted {N : Int} {cf : Int → Int → Int} (hO : Ord N cf) : ∀ {l1 l2 : List Int}, l1.Perm l2 → (∀ x ∈ l1, 0 ≤ x ∧ x < N) → l1.Pairwise (fun x y => cf x y < 0) → l2.Pairwise (fun x y => ¬ cf y x < 0) → l1 = l2 := by
 intro l1
 induction l1 with
 | nil => intro l2 hp _ _ _; exact hp.nil_eq
 | cons a l1 ih =>
  intro l2 hp hr h1 h2;cases l2 with
  | nil => exact absurd hp.symm.nil_eq (by simp)
  | cons b l2 =>
   have ha := hr a List.mem_cons_self
   have hab : a = b := by
    have hm : a ∈ b :: l2 := hp.mem_iff.1 List.mem_cons_self
    have hm' : b ∈ a :: l1 := hp.mem_iff.2 List.mem_cons_self
    rcases List.mem_cons.1 hm with e | hm
    ·exact e
    ·rcases List.mem_cons.1 hm' with e | hm'
     ·exact e.symm
     ·have k1 := (List.pairwise_cons.1 h1).1 b hm'
      have k2 := (List.pairwise_cons.1 h2).1 a hm;exact absurd k1 k2
   subst hab;rw [ih (List.perm_cons a |>.1 hp) (fun x hx => hr x (List.mem_cons_of_mem _ hx)) (List.pairwise_cons.1 h1).2 (List.pairwise_cons.1 h2).2]
theorem rel_list {r : Ren} {a b : AV} {xs : List Value} (h : RelL r [a, b] xs) : ∃ x y, xs = [x, y] ∧ RelV r a x ∧ RelV r b y := by
 obtain ⟨x, xs, rfl, h1, h2⟩ := h.cons_inv;obtain ⟨y, ys, rfl, h3, h4⟩ := h2.cons_inv;rw [h4.nil_inv];exact ⟨x, y, rfl, h1, h3⟩
theorem slice_inv' {r : Ren} {id off ver len cap : Nat} {ex : Bool} {x : Value} (h : RelV r (.slice id off ver ex len cap) x) :
  ∃ b n u cap', x = .slice (some ⟨b, off, none⟩) len cap' ∧ r.row id ver = some (b, n, u) ∧ off + cap' * u ≤ n ∧ len ≤ cap ∧ cap ≤ cap' := by
 cases h with
 | slice h1 h2 h3 h4 h5 => exact ⟨_, _, _, _, rfl, h1, h2, h3, h4⟩
theorem func_inv' {r : Ren} {c : FuncId} {caps : List AV} {y : Value} (h : RelV r (.func c [] caps) y) :
  ∃ ys : List Value, y = .func (.func c) [].toArray ys.toArray ∧ caps.length = ys.length ∧ ∀ (i : Nat) (v : AV) (x : Value), caps[i]? = some v → ys[i]? = some x → RelV r v x := by
 cases h with
 | func g1 g2 gx gy =>
  rename_i zs ys
  have hzs : zs = [] := List.eq_nil_of_length_eq_zero g1.symm;subst hzs;exact ⟨ys, rfl, g2, gy⟩
theorem sort_effs {E0 : Env} (hG : EnvGood E0) {ρ : Shelf.Ren} (L : SlLaysF.n6 E0.P ρ) : Effs E0.P (ρ.f 6) (sortDeed E0) := by
  intro r S w args xs v S' hw ha hg
  unfold sortDeed at hg
  split at hg
  · rename_i hex
    obtain ⟨rfl, rfl⟩ := Prod.mk.inj (Option.some.inj hg)
    have hat := hex.choose_spec
    generalize hex.choose = S' at hat
    refine callsIn_wide.2 ?_
    rcases hat with ⟨s, f, rfl, hs, rfl⟩ | ⟨id, fl, cap, ex, c, caps, l, l', N, cf, rfl, hS, hfl, hne, hsz, ⟨fn, hfn⟩, hin, hO, hrun, hperm, hsort, rfl⟩
    · obtain ⟨x, y, rfl, hx, hy⟩ := rel_list ha
      have : ∃ p cap, x = .slice p 0 cap := by
        rcases hs with rfl | ⟨id, off, ver, ex, cap, rfl⟩
        · exact ⟨none, 0, hx.lit_inv⟩
        · cases hx with
          | slice h1 h2 h3 h4 h5 => exact ⟨_, _, rfl⟩
      obtain ⟨p, cap, rfl⟩ := this
      exact (AnyF.slices_SortFunc_none { L with } p cap y w).mono fun e w' ⟨he, hw'⟩ => ⟨_, r, he, by rw [hw']; exact .refl hw, undef_rel r⟩
    · obtain ⟨x, y, rfl, hx, hy⟩ := rel_list ha
      obtain ⟨b, n, u, cap', rfl, hr, h2, h3, h4⟩ := slice_inv' hx
      obtain ⟨ys, rfl, g2, gy⟩ := func_inv' hy
      have hx0 : ∃ x0 : Int, 0 ≤ x0 ∧ x0 < N := by
        cases l with
        | nil => exact absurd rfl hne
        | cons a l => exact ⟨a, hin a List.mem_cons_self⟩
      have : Inhabited (Low N) := ⟨⟨hx0.choose, hx0.choose_spec⟩⟩
      let d : Array (Low N) := (l.attachWith (fun x => 0 ≤ x ∧ x < N) hin).toArray
      have hdl : d.toList.map (·.1) = l := by simp [d]
      have hds : d.size = l.length := by simp [d]
      obtain ⟨w1, w2, w3⟩ := hw.obj _ _ hS _ _ _ _ hr
      obtain ⟨ce, e, k1, k2, k3, k4⟩ := w3 hfl
      have hlt := (hw.dom _ _ _ hr).2
      have hget : ∀ j, j < d.size → l[j]? = some (d[j]!).1 := fun j hj => by
        rw [← hdl, List.getElem?_map, Array.getElem?_toList, Array.getElem?_eq_getElem hj, getElem!_pos d j hj]
        rfl
      have hH : Holds (encLow N) w b 0 d := fun j hj => by
        have hjc : j < ce.size := by omega
        have hcell : w.cell? ⟨b, 0 + j, none⟩ = some ce[j] := by simp [World.cell?, k1, Array.getElem?_eq_getElem hjc]
        have hrel := k4 j (.lit (.int .i64 (d[j]!).1)) ce[j] (by omega) (by unfold ivs; rw [List.getElem?_map, hget j hj]; rfl) (Array.getElem?_eq_getElem hjc)
        refine ⟨by rw [hcell, hrel.lit_inv]; rfl, ?_⟩
        simp [World.frozen?, k1]
      have hSWO : SWO (ltOf fun x y : Low N => cf x.1 y.1) := by
        refine ⟨fun x => ?_, fun x y z h1 h2 => ?_, fun x y z h1 h2 => ?_⟩
        · simpa [ltOf] using hO.irrefl x.1 x.2.1 x.2.2
        · have := hO.trans x.1 y.1 z.1 x.2.1 x.2.2 y.2.1 y.2.2 z.2.1 z.2.2 (of_decide_eq_true h1) (of_decide_eq_true h2)
          exact decide_eq_true this
        · have := hO.ntrans x.1 y.1 z.1 x.2.1 x.2.2 y.2.1 y.2.2 z.2.1 z.2.2 (of_decide_eq_false h1) (of_decide_eq_false h2)
          exact decide_eq_false this
      have hcmp : CmpLays1 E0.P c ys.toArray (encLow N) (fun x y => cf x.1 y.1) b 0 d.size w := by
        intro m os dk hdk x y
        have hdk : dk.size = l.length := by omega
        have hx := sort_world (N := N) hw hr hS hfl dk hdk m os
        obtain ⟨nn, hrn⟩ := hrun (dk.toList.map (·.1)) (by simp [hdk]) (fun z hz => by
          obtain ⟨q, _, rfl⟩ := List.mem_map.1 hz
          exact q.2) x.1 y.1 x.2.1 x.2.2 y.2.1 y.2.2
        have hrel : RelW r (S.put id (dk.toList.map (·.1)) l.length) (sortWorld (encLow N) w b 0 m dk os) :=
          ⟨hx.rel.dom, hx.rel.inj, hx.rel.imm, hx.rel.obj, Nat.le_refl _, hx.rel.glb⟩
        have hargs : RelL r ([.lit (.int .i64 x.1), .lit (.int .i64 y.1)] ++ caps) ([encLow N x, encLow N y] ++ ys) := RelL.append (.cons (.lit _) (.cons (.lit _) (.nil r))) ⟨g2, gy⟩
        have := callsIn_wide.1 ((run_sound hG nn).call c _ _ _ _ (hrn nn (Nat.le_refl _)) r _ _ hrel hargs)
        have ea : ([encLow N x, encLow N y] ++ ys).toArray = #[encLow N x, encLow N y] ++ ys.toArray := by simp
        rw [ea] at this
        refine this.mono fun e w' ⟨z, r', he, hxt, hv⟩ => ⟨by rw [he, hv.lit_inv], ?_⟩
        have hfr : ∀ k, k < (sortWorld (encLow N) w b 0 m dk os).heap.size → w'.heap[k]? = (sortWorld (encLow N) w b 0 m dk os).heap[k]? := fun k hk => by
          rcases hxt.frame k hk with h | ⟨i, ver, y, q1, q2, q3⟩
          · exact h
          · have := (hrel.dom _ _ _ q1).1
            simp only [St.put] at q3 this
            omega
        generalize sortWorld (encLow N) w b 0 m dk os = W at hxt hfr
        refine ⟨w'.drawn - W.drawn, w'.heap.extract W.heap.size w'.heap.size, ?_⟩
        obtain ⟨h', t', dr', os', ou'⟩ := w'
        obtain ⟨hW, tW, drW, osW, ouW⟩ := W
        have q1 := hxt.os; have q2 := hxt.tape; have q3 := hxt.output; have q4 := hxt.draws; have q5 := hxt.size
        simp only at q1 q2 q3 q4 q5 hfr
        subst q1 q2 q3
        simp only [grow, World.drewN, World.mk.injEq, true_and]
        refine ⟨Array.ext_getElem? fun k => ?_, (by show dr' = drW + (dr' - drW); omega), trivial⟩
        rw [Array.getElem?_append]
        by_cases hk : k < hW.size
        · rw [if_pos hk]; exact hfr k hk
        · rw [if_neg hk, Array.getElem?_extract]
          by_cases hk2 : k < h'.size
          · rw [if_pos (by simp; omega), show hW.size + (k - hW.size) = k by omega]
          · rw [if_neg (by simp; omega), Array.getElem?_eq_none (by omega)]
      have eg := (hG.ok.fn c fn hfn).2
      have hcon := Any.slices_SortFunc L (encLow N) (fun _ => rfl) (fun x y : Low N => cf x.1 y.1) hSWO c ys.toArray b 0 cap' d w eg hcmp hH hlt (by omega)
      rw [hds] at hcon
      have ea : #[Value.slice (some ⟨b, 0, none⟩) l.length cap', .func (.func c) [].toArray ys.toArray] = [Value.slice (some ⟨b, 0, none⟩) l.length cap', .func (.func c) [].toArray ys.toArray].toArray := rfl
      refine Calls.mono (R := _) (by rw [← ea]; exact hcon) ?_
      rintro e w' ⟨he, d', m, os, hp, hsd, rfl⟩
      have hd's : d'.size = l.length := by rw [hp.1, hds]
      have hpl : d'.toList.Perm d.toList := by
        have := hp.2.2
        rw [← hds] at this
        rw [Array.extract_size] at this
        rwa [show d'.extract 0 d.size = d' by rw [← hp.1]; exact Array.extract_size] at this
      have hsl : (d'.toList.map (·.1)).Pairwise (fun x y => ¬ cf y x < 0) := by
        rw [List.pairwise_map, List.pairwise_iff_getElem]
        intro i j hi hj hij
        have := hsd i j (Nat.zero_le _) hij (by simpa [hd's] using hj)
        rw [getElem!_pos d' j (by simpa using hj), getElem!_pos d' i (by simpa using hi)] at this
        simpa [ltOf] using this
      have heq : l' = d'.toList.map (·.1) := by
        refine perm_sorted hO ?_ (fun x hx => hin x (hperm.mem_iff.1 hx)) hsort hsl
        refine hperm.trans ?_
        have := (hpl.map (·.1)).symm
        rwa [hdl] at this
      subst heq
      exact ⟨_, r, he, sort_world hw hr hS hfl d' hd's m os, undef_rel r⟩
  · cases hg
end
end Go.Am
end
section
namespace Go.Am
open Go.RowKit
set_option linter.unusedVariables false
variable {E : Env} {n : Nat} {rnd : Option Nat} {s : Sy} {Q : Exit → Sy → Prop}
end Go.Am
end
section
namespace Go.Proofs
open Go.Shelf
shelf_lay_g SlLaysF.n6 Slsf 6 at Tryz 103 as Tryz.sortInt
end Go.Proofs
namespace Go.Am.YtiaolgbmbhldgaaGreatDoor
open Go.Am Go.RowKit
noncomputable def env0 : Env := Q.EL 1
theorem good_env0 : EnvGood env0 := Q.EL_good 1
noncomputable def effE (f : Nat) : Option (List AV → St → Option (AV × St)) := bif Nat.beq f 103 then some (sortDeed env0) else none
theorem effE_ok (f : Nat) (g : List AV → St → Option (AV × St)) (h : effE f = some g) : Effs env0.P f g := by
 unfold effE at h;cases hb : Nat.beq f 103 with
 | true =>
  rw [hb] at h;cases h
  have := Nat.eq_of_beq_eq_true hb;subst this;exact sort_effs good_env0 Go.Proofs.Tryz.sortInt
 | false => rw [hb] at h; cases h
noncomputable def envT (orc : Orc') : Env := { envS orc with eff := effE }
theorem goodT {orc : Orc'} (h : ∀ f g, orc f = some g → Meets Go.Proofs.Tryz.prog f g) : EnvGood (envT orc) :=
 ⟨⟨(goodS h).ok.und, (goodS h).ok.info, (goodS h).ok.byt, (goodS h).ok.zro, (goodS h).ok.fn, (goodS h).ok.ext⟩, (goodS h).orc, (goodS h).body, (goodS h).mixed, effE_ok⟩
end Go.Am.YtiaolgbmbhldgaaGreatDoor
end
section
namespace Go.Am.YtiaolgbmbhldgaaGreatDoor
open Go.Am Go.RowKit
def lev : Nat → Option Nat
 | 4 => some 3
 | 5 => some 2
 | 9 => some 2
 | 10 => some 2
 | 11 => some 2
 | 12 => some 2
 | 13 => some 2
 | 15 => some 2
 | 16 => some 0
 | 17 => some 0
 | 22 => some 1
 | 23 => some 1
 | 25 => some 1
 | 26 => some 1
 | 28 => some 1
 | 29 => some 1
 | 30 => some 1
 | 31 => some 2
 | 32 => some 1
 | 33 => some 2
 | 34 => some 1
 | 35 => some 1
 | 36 => some 1
 | 37 => some 1
 | 39 => some 2
 | 49 => some 1
 | 112 => some 1
 | _ => none
noncomputable def baseE : Orc' := fun f => match f with | 24 => some (table [([], .lit (.bool true))]) | 130 => some cmpT | _ => none
theorem baseE_ok : ∀ f g, baseE f = some g → Meets Go.Proofs.Tryz.prog f g := fun f g h => by
 unfold baseE at h;split at h
 ·cases h; exact Closed.awake_meets
 ·cases h; exact cmp_meets
 ·cases h
noncomputable def EL (k : Nat) : Env := envT (orsB baseE envT lev k)
theorem EL_good (k : Nat) : EnvGood (EL k) := orsB_good (P := Go.Proofs.Tryz.prog) (fun _ => rfl) (fun _ => rfl) baseE_ok (fun _ h => goodT h) (fun _ => rfl) k
theorem orcL {f j k : Nat} (h : lev f = some j) (hk : j < k) : (EL k).orc f = some (sem (EL j) f) := orsLB (fun _ => rfl) h hk
theorem orcN {f k : Nat} (h : levB baseE lev f = none) : (EL k).orc f = none := orsNB (fun _ => rfl) h
theorem orcA {k : Nat} : (EL k).orc 24 = some (table [([], .lit (.bool true))]) := by
 show orsB baseE envT lev k 24 = _;rw [orsB_base rfl];rfl
theorem orcC {k : Nat} : (EL k).orc 130 = some cmpT := by
 show orsB baseE envT lev k 130 = _;rw [orsB_base rfl];rfl
theorem bo_ty4 {k : Nat} : pureVal (EL k).P (underlying 4) = some .bool := show pureVal Go.Proofs.Tryz.prog (underlying 4) = some .bool by kernel_rfl
theorem hu_cv2 : pureVal Go.Proofs.Tryz.prog (underlying 2) = some Go.Proofs.Tryz.t2.desc := by kernel_rfl
theorem hu_cv3 : pureVal Go.Proofs.Tryz.prog (underlying 3) = some Go.Proofs.Tryz.t3.desc := by kernel_rfl
theorem hu_cv5 : pureVal Go.Proofs.Tryz.prog (underlying 5) = some Go.Proofs.Tryz.t5.desc := by kernel_rfl
theorem hu_cv65 : pureVal Go.Proofs.Tryz.prog (underlying 65) = some Go.Proofs.Tryz.t65.desc := by kernel_rfl
theorem hu_cv172 : pureVal Go.Proofs.Tryz.prog (underlying 172) = some Go.Proofs.Tryz.t172.desc := by kernel_rfl
theorem hu_cv194 : pureVal Go.Proofs.Tryz.prog (underlying 194) = some Go.Proofs.Tryz.t194.desc := by kernel_rfl
theorem hu_cv196 : pureVal Go.Proofs.Tryz.prog (underlying 196) = some Go.Proofs.Tryz.t196.desc := by kernel_rfl
theorem hu_cv207 : pureVal Go.Proofs.Tryz.prog (underlying 207) = some Go.Proofs.Tryz.t196.desc := by kernel_rfl
theorem cv_ty5_3 {k : Nat} {a : Int} (h : -9223372036854775808 ≤ a ∧ a < 9223372036854775808) : pureVal (EL k).P (convert 5 3 (.int .u8 a)) = some (.int .i64 a) := pure_conv (P := Go.Proofs.Tryz.prog) hu_cv5 hu_cv3 (wrap_id h.1 h.2)
theorem cv_ty65_3 {k : Nat} {a : Int} (h : -9223372036854775808 ≤ a ∧ a < 9223372036854775808) : pureVal (EL k).P (convert 65 3 (.int .u16 a)) = some (.int .i64 a) := pure_conv (P := Go.Proofs.Tryz.prog) hu_cv65 hu_cv3 (wrap_id h.1 h.2)
theorem cv_ty172_3 {k : Nat} {a : Int} (h : -9223372036854775808 ≤ a ∧ a < 9223372036854775808) : pureVal (EL k).P (convert 172 3 (.int .u64 a)) = some (.int .i64 a) := pure_conv (P := Go.Proofs.Tryz.prog) hu_cv172 hu_cv3 (wrap_id h.1 h.2)
theorem cv_ty196_2 {k : Nat} {a : Int} (h : -9223372036854775808 ≤ a ∧ a < 9223372036854775808) : pureVal (EL k).P (convert 196 2 (.int .u64 a)) = some (.int .i64 a) := pure_conv (P := Go.Proofs.Tryz.prog) hu_cv196 hu_cv2 (wrap_id h.1 h.2)
theorem hu_ty28 : pureVal Go.Proofs.Tryz.prog (underlying 28) = some Go.Proofs.Tryz.t27.desc := by kernel_rfl
theorem eql_ty28 {k : Nat} (x y : Operand) (a0 : Int) (a1 : Int) (a2 : Str) (b0 : Int) (b1 : Int) (b2 : Str) : abin (EL k) .eql 28 x y (.agg [iv a0, iv a1, sv a2]) (.agg [iv b0, iv b1, sv b2]) = .ok (bv (a0 == b0 && a1 == b1 && a2 == b2)) ∧ ((a0 == b0 && a1 == b1 && a2 == b2) = true ↔ a0 = b0 ∧ a1 = b1 ∧ a2 = b2) := by
 refine ⟨abin_agg (A := .agg #[.int .i64 a0, .int .i64 a1, .string ⟨a2.toArray⟩]) (B := .agg #[.int .i64 b0, .int .i64 b1, .string ⟨b2.toArray⟩]) (by simp) rfl rfl ?_ (bin_eql (pure_eqF3 (hu_ty28) ?_ (.int (by decide) ⟨.i64, by kernel_rfl⟩ (by kernel_rfl) (by kernel_rfl)) (.int (by decide) ⟨.i64, by kernel_rfl⟩ (by kernel_rfl) (by kernel_rfl)) (.str (by decide) (by kernel_rfl) (by kernel_rfl) (by kernel_rfl)))), by by_cases h0 : a0 = b0 <;> by_cases h1 : a1 = b1 <;> by_cases h2 : a2 = b2 <;> simp [h0, h1, h2]⟩
 all_goals kernel_rfl
theorem neq_ty28 {k : Nat} (x y : Operand) (a0 : Int) (a1 : Int) (a2 : Str) (b0 : Int) (b1 : Int) (b2 : Str) : abin (EL k) .neq 28 x y (.agg [iv a0, iv a1, sv a2]) (.agg [iv b0, iv b1, sv b2]) = .ok (bv (!(a0 == b0 && a1 == b1 && a2 == b2))) ∧ ((!(a0 == b0 && a1 == b1 && a2 == b2)) = true ↔ ¬ (a0 = b0 ∧ a1 = b1 ∧ a2 = b2)) := by
 refine ⟨abin_agg (A := .agg #[.int .i64 a0, .int .i64 a1, .string ⟨a2.toArray⟩]) (B := .agg #[.int .i64 b0, .int .i64 b1, .string ⟨b2.toArray⟩]) (by simp) rfl rfl ?_ (bin_neq (pure_eqF3 (hu_ty28) ?_ (.int (by decide) ⟨.i64, by kernel_rfl⟩ (by kernel_rfl) (by kernel_rfl)) (.int (by decide) ⟨.i64, by kernel_rfl⟩ (by kernel_rfl) (by kernel_rfl)) (.str (by decide) (by kernel_rfl) (by kernel_rfl) (by kernel_rfl)))), by by_cases h0 : a0 = b0 <;> by_cases h1 : a1 = b1 <;> by_cases h2 : a2 = b2 <;> simp [h0, h1, h2]⟩
 all_goals kernel_rfl
end Go.Am.YtiaolgbmbhldgaaGreatDoor
end
section
namespace Go.Am.YtiaolgbmbhldgaaGreatDoor
open Go.Am Go.RowKit
set_option linter.unusedVariables false
set_option linter.unusedSimpArgs false
set_option maxRecDepth 10000 in
theorem tf_r9_in {k : Nat} (hk : 0 ≤ k) {C : List Thing} {n : Int} {low : Int} {high : Int} {r : Bool} (h : P_r9_in n low high = some r) :
  TF (EL k) 73 [iv (n), iv (low), iv (high)] C (RepF (fun (w : Unit) => bv r) (fun (w : Unit) => C)) := by
 unfold P_r9_in at h;refine TF.enter (fn := Go.Proofs.Tryz.f73) rfl rfl rfl rfl rfl (zU rfl (zA R4 (zN ?_)))
 show T _ _ _ _ _ _;apply T.joinA (r := r) (W := Unit) (fun j w => ⟨[], [(6, bv j)], C⟩) h
 ·intro j h;refine zT rfl (zM R4 (zM R4 ?_));obtain ⟨c9, hc9⟩ := zY (low ≤ n);refine zV R3 (Val.leq hc9 rfl rfl) (zM R4 ?_);obtain ⟨rfl, hc9, h⟩ | ⟨rfl, hc9, h⟩ := zI hc9 h
  ·refine zM R4 (zM R4 ?_);obtain ⟨c13, hc13⟩ := zY (n ≤ high);refine zV R3 (Val.leq hc13 rfl rfl) (zP R6 (zA R4 (zN ?_)));subst hc13;cases h;exact ⟨rfl, (), (sb .refl)⟩
  refine zO R3 (zO R3 (zO R3 (zP R6 (zA R4 (zN ?_)))));cases h;exact ⟨rfl, (), (sb .refl)⟩
 ·rintro x6 _ h;refine zR ?_;cases h;exact ⟨rfl, _, rfl, ⟨(), rfl, .refl⟩⟩
set_option maxRecDepth 10000 in
theorem tf_r9_letters {k : Nat} (hk : 0 ≤ k) {C : List Thing} {s : Str} {r : Bool} (h : P_r9_letters s = some r) :
  TF (EL k) 122 [sv s] C (RepF (fun (w : Unit) => bv r) (fun (w : Unit) => C)) := by
 unfold P_r9_letters at h;refine TF.enter (fn := Go.Proofs.Tryz.f122) rfl rfl rfl rfl rfl (zU rfl (zA R4 (zN ?_)))
 show T _ _ _ _ _ _;apply T.join (r := r) (W := Unit) (fun j w => ⟨[], [], C⟩) h
 ·intro j h;refine zU rfl (zA R4 (zN (zB ?_)))
  show T _ _ _ _ _ _;apply T.iter (r := j) (W := Unit) (fun j w => ⟨[], [(0, sv s), (3, iv (j))], C⟩) (w0 := ()) h
  ·exact (sb .refl)
  rintro i _ a h;unfold P_r9_letters_L1 at h;refine zS (zU rfl (zM R4 (zM R4 (zV R3 (Val.len_str rfl rfl) ?_))));obtain ⟨c7, hc7⟩ := zY (i < (s.length : Int));refine zV R3 (Val.lss hc7 rfl rfl) (zN ?_);obtain ⟨rfl, hc7, h⟩ | ⟨rfl, hc7, h⟩ := zI hc7 h
  ·refine zC rfl (zK ?_)
   show T _ _ _ _ _ _;apply T.join (r := a) (W := Unit) (fun j w => ⟨[], [(0, sv s), (3, iv (i))], C⟩) h
   ·intro j h;refine zB ?_
    show T _ _ _ _ _ _;apply T.joinA (r := j) (W := Unit) (fun j w => ⟨[], [(0, sv s), (3, iv (i)), (19, bv j)], C⟩) h
    ·intro j h;refine zT rfl (zM R4 (zM R4 ?_));obtain ⟨hk12, h⟩ := chk_some h;refine zV R3 (Val.index_str rfl rfl rfl hk12) ?_;obtain ⟨c13, hc13⟩ := zY ((byteAt s i) < 97);refine zV R3 (Val.lssK hc13 rfl rfl) (zM R4 ?_);obtain ⟨rfl, hc13, h⟩ | ⟨rfl, hc13, h⟩ := zI hc13 h
     ·refine zO R3 (zO R3 (zO R3 (zO R3 (zP R6 (zN ?_)))));cases h;exact ⟨rfl, (), (sb .refl)⟩
     refine zM R4 (zM R4 ?_);obtain ⟨hk17, h⟩ := chk_some h;refine zV R3 (Val.index_str rfl rfl rfl hk17) ?_;obtain ⟨c18, hc18⟩ := zY ((byteAt s i) > 122);refine zV R3 (Val.gtrK hc18 rfl rfl) (zP R6 (zN ?_));subst hc18;cases h;exact ⟨rfl, (), (sb .refl)⟩
    ·rintro x19 _ h;obtain ⟨rfl, h⟩ | ⟨rfl, h⟩ := zZ h
     ·refine zC rfl (zU rfl (zA R4 (zN (zR ?_))));cases h;exact ⟨ret_ne, ⟨ret_ne, ⟨ret_ne, ⟨rfl, _, rfl, ⟨(), rfl, .refl⟩⟩⟩⟩⟩
     refine zD rfl (zK ?_);cases h;exact ⟨rfl, (), (sb .refl)⟩
   ·rintro _ _ h;refine zT rfl (zM R4 ?_);obtain ⟨hk9, h⟩ := chk_some h;refine zV R3 (Val.add rfl rfl hk9) (zA R4 (zN ?_));cases h;exact ⟨rfl, (), (sb .refl)⟩
  refine zD rfl (zE ?_);cases h;exact ⟨ex_ne, ⟨rfl, (), (sb .refl)⟩⟩
 ·rintro _ _ h;refine zU rfl (zA R4 (zN (zR ?_)));cases h;exact ⟨rfl, _, rfl, ⟨(), rfl, .refl⟩⟩
set_option maxRecDepth 10000 in
theorem tf_r1_Name {k : Nat} (hk : 0 ≤ k) {C : List Thing} {s : Str} {r : Bool} (h : P_r1_Name s = some r) :
  TF (EL k) 120 [sv s] C (RepF (fun (w : Unit) => bv r) (fun (w : Unit) => C)) := by
 unfold P_r1_Name at h;refine TF.enter (fn := Go.Proofs.Tryz.f120) rfl rfl rfl rfl rfl (zU rfl (zA R4 (zN ?_)))
 show T _ _ _ _ _ _;apply T.join (r := r) (W := Unit) (fun j w => ⟨[], [(0, sv s)], C⟩) h
 ·intro j h
  show T _ _ _ _ _ _;apply T.joinA (r := j) (W := Unit) (fun j w => ⟨[], [(0, sv s), (11, bv j)], C⟩) h
  ·intro j h;refine zT rfl (zM R4 (zV R3 (Val.len_str rfl rfl) ?_));obtain ⟨c6, hc6⟩ := zY ((s.length : Int) = 0);refine zV R3 (Val.eql hc6 rfl rfl) (zM R4 ?_);obtain ⟨rfl, hc6, h⟩ | ⟨rfl, hc6, h⟩ := zI hc6 h
   ·refine zO R3 (zO R3 (zO R3 (zP R6 (zN ?_))));cases h;exact ⟨rfl, (), (sb .refl)⟩
   refine zM R4 (zV R3 (Val.len_str rfl rfl) ?_);obtain ⟨c10, hc10⟩ := zY ((s.length : Int) > 16);refine zV R3 (Val.gtr hc10 rfl rfl) (zP R6 (zN ?_));subst hc10;cases h;exact ⟨rfl, (), (sb .refl)⟩
  ·rintro x11 _ h;obtain ⟨rfl, h⟩ | ⟨rfl, h⟩ := zZ h
   ·refine zC rfl (zU rfl (zA R4 (zN (zR ?_))));cases h;exact ⟨ret_ne, ⟨rfl, _, rfl, ⟨(), rfl, .refl⟩⟩⟩
   refine zD rfl (zK ?_);cases h;exact ⟨rfl, (), (sb .refl)⟩
 ·rintro _ _ h
  show T _ _ _ _ _ _;apply T.join (r := r) (W := Unit) (fun j w => ⟨[], [], C⟩) h
  ·intro j h;refine zU rfl (zA R4 (zN (zB ?_)))
   show T _ _ _ _ _ _;apply T.iter (r := j) (W := Unit) (fun j w => ⟨[], [(0, sv s), (3, iv (j))], C⟩) (w0 := ()) h
   ·exact (sb .refl)
   rintro i _ a h;unfold P_r1_Name_L1 at h;refine zS (zU rfl (zM R4 (zM R4 (zV R3 (Val.len_str rfl rfl) ?_))));obtain ⟨c15, hc15⟩ := zY (i < (s.length : Int));refine zV R3 (Val.lss hc15 rfl rfl) (zN ?_);obtain ⟨rfl, hc15, h⟩ | ⟨rfl, hc15, h⟩ := zI hc15 h
   ·refine zC rfl (zK ?_)
    show T _ _ _ _ _ _;apply T.join (r := a) (W := Unit) (fun j w => ⟨[], [(0, sv s), (3, iv (i))], C⟩) h
    ·intro j h;refine zB ?_
     show T _ _ _ _ _ _;apply T.joinA (r := j) (W := Unit) (fun j w => ⟨[], [(0, sv s), (3, iv (i)), (39, bv j)], C⟩) h
     ·intro j h;refine zT rfl (zM R4 (zM R4 ?_));obtain ⟨hk20, h⟩ := chk_some h;refine zV R3 (Val.index_str rfl rfl rfl hk20) (TO.callIn rfl rfl rfl rfl rfl rfl (orcN rfl) (TF.enter (fn := Go.Proofs.Tryz.f143) rfl rfl rfl rfl rfl (zU rfl (zA R4 (zN ?_)))))
      show T _ _ _ _ _ _;apply T.joinA (r := j) (W := Unit) (fun j w => ⟨[], [(2, bv j)], C⟩) h
      ·intro j h;refine zT rfl (zM R4 ?_);obtain ⟨c4, hc4⟩ := zY ((byteAt s i) ≥ 97);refine zV R3 (Val.geqK hc4 rfl rfl) (zM R4 ?_);obtain ⟨rfl, hc4, h⟩ | ⟨rfl, hc4, h⟩ := zI hc4 h
       ·refine zM R4 ?_;obtain ⟨c7, hc7⟩ := zY ((byteAt s i) ≤ 122);refine zV R3 (Val.leqK hc7 rfl rfl) (zP R6 (zA R4 (zN ?_)));subst hc7;cases h;exact ⟨rfl, (), (sb .refl)⟩
       refine zO R3 (zO R3 (zP R6 (zA R4 (zN ?_))));cases h;exact ⟨rfl, (), (sb .refl)⟩
      ·rintro x2 _ h;refine zR ?_;refine ⟨rfl, _, rfl, ?_⟩;refine zV R3 (Val.not rfl) (zM R4 ?_);obtain ⟨rfl, h⟩ | ⟨rfl, h⟩ := zZ h
       ·refine zO R3 (zO R3 (zO R3 (zO R3 (zO R3 (zO R3 (zO R3 (zO R3 (zO R3 (zO R3 (zO R3 (zO R3 (zO R3 (zO R3 (zO R3 (zP R6 (zN ?_))))))))))))))));cases h;exact ⟨rfl, (), (sb .refl)⟩
       refine zM R4 ?_;obtain ⟨c25, hc25⟩ := zY (i = 0);refine zV R3 (Val.eql hc25 rfl rfl) (zM R4 ?_);obtain ⟨rfl, hc25, h⟩ | ⟨rfl, hc25, h⟩ := zI hc25 h
       ·refine zO R3 (zO R3 (zO R3 (zO R3 (zO R3 (zO R3 (zO R3 (zO R3 (zO R3 (zO R3 (zO R3 (zP R6 (zP R6 (zN ?_)))))))))))));cases h;exact ⟨rfl, (), (sb .refl)⟩
       refine zM R4 (zM R4 ?_);obtain ⟨hk29, h⟩ := chk_some h;refine zV R3 (Val.index_str rfl rfl rfl hk29) (TO.callIn rfl rfl rfl rfl rfl rfl (orcN rfl) (TF.enter (fn := Go.Proofs.Tryz.f144) rfl rfl rfl rfl rfl (zU rfl (zA R4 (zN ?_)))))
       show T _ _ _ _ _ _;apply T.joinA (r := j) (W := Unit) (fun j w => ⟨[], [(2, bv j)], C⟩) h
       ·intro j h;refine zT rfl (zM R4 ?_);obtain ⟨c4, hc4⟩ := zY ((byteAt s i) ≥ 48);refine zV R3 (Val.geqK hc4 rfl rfl) (zM R4 ?_);obtain ⟨rfl, hc4, h⟩ | ⟨rfl, hc4, h⟩ := zI hc4 h
        ·refine zM R4 ?_;obtain ⟨c7, hc7⟩ := zY ((byteAt s i) ≤ 57);refine zV R3 (Val.leqK hc7 rfl rfl) (zP R6 (zA R4 (zN ?_)));subst hc7;cases h;exact ⟨rfl, (), (sb .refl)⟩
        refine zO R3 (zO R3 (zP R6 (zA R4 (zN ?_))));cases h;exact ⟨rfl, (), (sb .refl)⟩
       ·rintro x2_2 _ h;refine zR ?_;refine ⟨rfl, _, rfl, ?_⟩;refine zV R3 (Val.not rfl) (zM R4 ?_);obtain ⟨rfl, h⟩ | ⟨rfl, h⟩ := zZ h
        ·refine zO R3 (zO R3 (zO R3 (zO R3 (zP R6 (zP R6 (zP R6 (zN ?_)))))));cases h;exact ⟨rfl, (), (sb .refl)⟩
        refine zM R4 (zM R4 ?_);obtain ⟨hk35, h⟩ := chk_some h;refine zV R3 (Val.index_str rfl rfl rfl hk35) ?_;obtain ⟨c36, hc36⟩ := zY (¬ (byteAt s i) = 46);refine zV R3 (Val.neqK hc36 rfl rfl) (zP R6 (zP R6 (zP R6 (zN ?_))));subst hc36;cases h;exact ⟨rfl, (), (sb .refl)⟩
     ·rintro x39 _ h;obtain ⟨rfl, h⟩ | ⟨rfl, h⟩ := zZ h
      ·refine zC rfl (zU rfl (zA R4 (zN (zR ?_))));cases h;exact ⟨ret_ne, ⟨ret_ne, ⟨ret_ne, ⟨rfl, _, rfl, ⟨(), rfl, .refl⟩⟩⟩⟩⟩
      refine zD rfl (zK ?_);cases h;exact ⟨rfl, (), (sb .refl)⟩
    ·rintro _ _ h;refine zT rfl (zM R4 ?_);obtain ⟨hk17, h⟩ := chk_some h;refine zV R3 (Val.add rfl rfl hk17) (zA R4 (zN ?_));cases h;exact ⟨rfl, (), (sb .refl)⟩
   refine zD rfl (zE ?_);cases h;exact ⟨ex_ne, ⟨rfl, (), (sb .refl)⟩⟩
  ·rintro _ _ h;refine zU rfl (zA R4 (zN (zR ?_)));cases h;exact ⟨rfl, _, rfl, ⟨(), rfl, .refl⟩⟩
set_option maxRecDepth 10000 in
theorem tf_r1_Place {k : Nat} (hk : 0 ≤ k) {C : List Thing} {v_list : AV} {list : List Str} {word : Str} (h_list : Rdl C encStr v_list list) {r : Int} (h : P_r1_Place list word = some r) :
  TF (EL k) 88 [v_list, sv word] C (RepF (fun (w : Unit) => iv r) (fun (w : Unit) => C)) := by
 unfold P_r1_Place at h;refine TF.enter (fn := Go.Proofs.Tryz.f88) rfl rfl rfl rfl rfl (zU rfl (zA R4 (zN (zU rfl (zM R4 (zV R3 (Val.len_l h_list mem0 rfl rfl) ?_))))));obtain ⟨hk9, h⟩ := chk_some h;refine zV R3 (Val.sub rfl rfl hk9) (zA R4 (zN ?_))
 show T _ _ _ _ _ _;apply T.joinA (r := r) (W := Unit) (fun j w => ⟨[], [(0, v_list), (1, sv word), (5, iv (j))], C⟩) h
 ·intro j h;refine zB ?_
  show T _ _ _ _ _ _;apply T.iter (r := j) (W := Unit) (fun j w => ⟨[], [(0, v_list), (1, sv word), (5, iv (j))], C⟩) (w0 := ()) h
  ·exact (sb .refl)
  rintro at_ _ a h;unfold P_r1_Place_L1 at h
  show T _ _ _ _ _ _;apply T.join (r := a) (W := Unit) (fun j w => ⟨[], [(0, v_list), (1, sv word), (5, iv (at_))], C⟩) h
  ·intro j h
   show T _ _ _ _ _ _;apply T.joinA (r := j) (W := Unit) (fun j w => ⟨[], [(0, v_list), (1, sv word), (5, iv (at_)), (19, bv j)], C⟩) h
   ·intro j h;refine zT rfl (zM R4 ?_);obtain ⟨c11, hc11⟩ := zY (at_ ≥ 0);refine zV R3 (Val.geq hc11 rfl rfl) (zM R4 ?_);obtain ⟨rfl, hc11, h⟩ | ⟨rfl, hc11, h⟩ := zI hc11 h
    ·refine zM R4 (zM R4 ?_);obtain ⟨a15, hia15, ea15, h⟩ := el_some h;refine TO.fact (rdl_at h_list mem0 hia15 ea15) (fun hp=>?_);obtain ⟨pa15, hpa15, hva15⟩ := hp;refine zV R3 (hva15 ⟨rfl, rfl⟩ rfl rfl) (zV R3 (Val.load_e hpa15 mem0 ⟨_, rfl, rfl⟩ rfl rfl) (zM R4 ?_));obtain ⟨c18, hc18⟩ := zY (¬ a15 = word);refine zV R3 (Val.neq_str hc18 rfl rfl) (zP R6 (zN ?_));subst hc18;cases h;exact ⟨rfl, (), (sb .refl)⟩
    refine zO R3 (zO R3 (zO R3 (zO R3 (zO R3 (zO R3 (zP R6 (zN ?_)))))));cases h;exact ⟨rfl, (), (sb .refl)⟩
   ·rintro x19 _ h;obtain ⟨rfl, h⟩ | ⟨rfl, h⟩ := zZ h
    ·refine zC rfl (zK ?_);cases h;exact ⟨rfl, (), (sb .refl)⟩
    refine zD rfl (zE ?_);cases h;exact ⟨ex_ne, ⟨ex_ne, ⟨rfl, (), (sb .refl)⟩⟩⟩
  ·rintro _ _ h;refine zB (zT rfl (zM R4 ?_));obtain ⟨hk21, h⟩ := chk_some h;refine zV R3 (Val.sub rfl rfl hk21) (zA R4 (zN ?_));cases h;exact ⟨rfl, (), (sb .refl)⟩
 ·rintro at_ _ h
  show T _ _ _ _ _ _;apply T.join (r := r) (W := Unit) (fun j w => ⟨[], [(5, iv (at_))], C⟩) h
  ·intro j h;refine zU rfl (zA R4 (zN (zB ?_)))
   show T _ _ _ _ _ _;apply T.iter (r := j) (W := Unit) (fun j w => ⟨[], [(0, v_list), (1, sv word), (5, iv (at_)), (6, iv (j))], C⟩) (w0 := ()) h
   ·exact (sb .refl)
   rintro i _ a h;unfold P_r1_Place_L2 at h;refine zS (zU rfl (zM R4 (zM R4 ?_)));obtain ⟨c24, hc24⟩ := zY (i < at_);refine zV R3 (Val.lss hc24 rfl rfl) (zN ?_);obtain ⟨rfl, hc24, h⟩ | ⟨rfl, hc24, h⟩ := zI hc24 h
   ·refine zC rfl (zK (zS (zB (zU rfl (zM R4 (zM R4 ?_))))));obtain ⟨a29, hia29, ea29, h⟩ := el_some h;refine TO.fact (rdl_at h_list mem0 hia29 ea29) (fun hp=>?_);obtain ⟨pa29, hpa29, hva29⟩ := hp;refine zV R3 (hva29 ⟨rfl, rfl⟩ rfl rfl) (zV R3 (Val.load_e hpa29 mem0 ⟨_, rfl, rfl⟩ rfl rfl) (zM R4 ?_));obtain ⟨c32, hc32⟩ := zY (a29 = word);refine zV R3 (Val.eql_str hc32 rfl rfl) (zN ?_);obtain ⟨rfl, hc32, h⟩ | ⟨rfl, hc32, h⟩ := zI hc32 h
    ·refine zC rfl (zU rfl (zM R4 (zA R4 (zN (zR ?_)))));cases h;exact ⟨ret_ne, ⟨ret_ne, ⟨rfl, _, rfl, ⟨(), rfl, .refl⟩⟩⟩⟩
    refine zD rfl (zK (zT rfl (zM R4 ?_)));obtain ⟨hk26, h⟩ := chk_some h;refine zV R3 (Val.add rfl rfl hk26) (zA R4 (zN ?_));cases h;exact ⟨rfl, (), (sb .refl)⟩
   refine zD rfl (zE ?_);cases h;exact ⟨ex_ne, ⟨rfl, (), (sb .refl)⟩⟩
  ·rintro _ _ h;refine zU rfl (zM R4 (zA R4 (zN (zR ?_))));cases h;exact ⟨rfl, _, rfl, ⟨(), rfl, .refl⟩⟩
set_option maxRecDepth 10000 in
theorem tf_r1_Fresh {k : Nat} (hk : 0 ≤ k) {C : List Thing} {word : Str} {v_others : AV} {others : List Str} (h_others : Rdl C encStr v_others others) {r : Int} (h : P_r1_Fresh word others = some r) :
  TF (EL k) 74 [sv word, v_others] C (RepF (fun (w : Unit) => iv r) (fun (w : Unit) => C)) := by
 unfold P_r1_Fresh at h;refine TF.enter (fn := Go.Proofs.Tryz.f74) rfl rfl rfl rfl rfl (zU rfl (zA R4 (zN (zU rfl (zA R4 (zN ?_))))))
 show T _ _ _ _ _ _;apply T.joinA (r := r) (W := Unit) (fun j w => ⟨[], [(0, sv word), (5, iv (j))], C⟩) h
 ·intro j h;refine zU rfl (zM R4 (zM R4 ?_));obtain ⟨y8, hr8, h⟩ := andx_some h;refine TO.callT (first := []) (cap := []) (vs := [v_others, sv word]) rfl rfl rfl rfl rfl rfl (orcN rfl) (tf_r1_Place aD (Rdl.mono h_others mem0) hr8) ?_;rintro _;refine zG (C) rfl ?_;obtain ⟨c9, hc9⟩ := zY (y8 ≥ 0);refine zV R3 (Val.geq hc9 rfl rfl) (zN ?_);obtain ⟨rfl, hc9, h⟩ | ⟨rfl, hc9, h⟩ := zI hc9 h
  ·refine zC rfl (zT rfl (zA R4 (zN ?_)));cases h;exact ⟨rfl, (), (sb .refl)⟩
  refine zD rfl (zK ?_);cases h;exact ⟨rfl, (), (sb .refl)⟩
 ·rintro e _ h
  show T _ _ _ _ _ _;apply T.joinA (r := r) (W := Unit) (fun j w => ⟨[], [(5, iv (j))], C⟩) h
  ·intro j h;refine zU rfl (zM R4 ?_);obtain ⟨y11, hr11, h⟩ := andx_some h;refine TO.callT (first := []) (cap := []) (vs := [sv word]) rfl rfl rfl rfl rfl rfl (orcN rfl) (tf_r1_Name aD hr11) ?_;rintro _;refine zG (C) rfl (zV R3 (Val.not rfl) (zN ?_));obtain ⟨rfl, h⟩ | ⟨rfl, h⟩ := zZ h
   ·refine zD rfl (zK ?_);cases h;exact ⟨rfl, (), (sb .refl)⟩
   refine zC rfl (zT rfl (zA R4 (zN ?_)));cases h;exact ⟨rfl, (), (sb .refl)⟩
  ·rintro e_2 _ h;refine zU rfl (zM R4 (zA R4 (zN (zR ?_))));cases h;exact ⟨rfl, _, rfl, ⟨(), rfl, .refl⟩⟩
set_option maxRecDepth 10000 in
theorem tf_r9_Mark {k : Nat} (hk : 0 ≤ k) {C : List Thing} {qF : AV} {qG : List Str} {qD : AV} {qC : List qH} {qE : AV} {qB : List qA} {m_Class : Int} {m_Number : Int} {m_Suffix : Str} (qV : Rdl C encStr qF qG) (qU : Rdl C qW qD qC) (qT : Rdl C qP qE qB) {r : Int} (h : P_r9_Mark qG qC qB m_Class m_Number m_Suffix = some r) :
  TF (EL k) 80 [.agg [qF, qD, qE], .agg [iv (m_Class), iv (m_Number), sv m_Suffix]] C (RepF (fun (w : Unit) => iv r) (fun (w : Unit) => C)) := by
 unfold P_r9_Mark at h;refine TF.enter (fn := Go.Proofs.Tryz.f80) rfl rfl rfl rfl rfl (zU rfl (zQ 3 [_,_,_] R7 (fun b2=>zQ 3 [_,_,_] R7 (fun b3=>zA R4 (zN (zS (zU rfl (zF 0 R6 (zL 0 R3 R6 (zF 0 R6 (zL 1 R3 R6 (zV R3 (Val.len_l qV M2 rfl rfl) ?_))))))))))));obtain ⟨hk10, h⟩ := chk_some h;refine zV R3 (Val.sub rfl rfl hk10) ?_;obtain ⟨y11, hr11, h⟩ := andx_some h;refine TO.callT (first := []) (cap := []) (vs := [iv (m_Class), iv (0), iv (((qG.length : Int) - 1))]) rfl rfl rfl rfl rfl rfl (orcN rfl) (tf_r9_in aD hr11) ?_;rintro _;refine zG (_::_::C) rfl (zV R3 (Val.not rfl) (zN ?_));obtain ⟨rfl, h⟩ | ⟨rfl, h⟩ := zZ h
 ·refine zD rfl (zK (zS (zU rfl (zF 1 R6 (zL 0 R3 R6 ?_)))));obtain ⟨y15, hr15, h⟩ := andx_some h;refine TO.callT (first := []) (cap := []) (vs := [iv (m_Number), iv (1), iv (9999)]) rfl rfl rfl rfl rfl rfl (orcN rfl) (tf_r9_in aD hr15) ?_;rintro _;refine zG (_::_::C) rfl (zV R3 (Val.not rfl) (zN ?_));obtain ⟨rfl, h⟩ | ⟨rfl, h⟩ := zZ h
  ·refine zD rfl (zK ?_)
   show T _ _ _ _ _ _;apply T.join (r := r) (W := Unit) (fun j w => ⟨[], [], .row b3 3 [iv (m_Class), iv (m_Number), sv m_Suffix] :: .row b2 3 [qF, qD, qE] :: C⟩) h
   ·intro j h
    show T _ _ _ _ _ _;apply T.joinA (r := j) (W := Unit) (fun j w => ⟨[], [(26, bv j)], .row b3 3 [iv (m_Class), iv (m_Number), sv m_Suffix] :: .row b2 3 [qF, qD, qE] :: C⟩) h
    ·intro j h;refine zT rfl (zF 2 R6 (zL 0 R3 R6 (zV R3 (Val.len_str rfl rfl) ?_)));obtain ⟨c20, hc20⟩ := zY ((m_Suffix.length : Int) > 2);refine zV R3 (Val.gtr hc20 rfl rfl) (zM R4 ?_);obtain ⟨rfl, hc20, h⟩ | ⟨rfl, hc20, h⟩ := zI hc20 h
     ·refine zO R3 (zO R3 (zO R3 (zO R3 (zP R6 (zN ?_)))));cases h;exact ⟨rfl, (), (sb .refl)⟩
     refine zF 2 R6 (zL 0 R3 R6 ?_);obtain ⟨y24, hr24, h⟩ := andx_some h;refine TO.callT (first := []) (cap := []) (vs := [sv m_Suffix]) rfl rfl rfl rfl rfl rfl (orcN rfl) (tf_r9_letters aD hr24) ?_;rintro _;refine zG (_::_::C) rfl (zV R3 (Val.not rfl) (zP R6 (zN ?_)));cases h;exact ⟨rfl, (), (sb .refl)⟩
    ·rintro x26 _ h;obtain ⟨rfl, h⟩ | ⟨rfl, h⟩ := zZ h
     ·refine zC rfl (zU rfl (zA R4 (zN (zR ?_))));cases h;exact ⟨ret_ne, ⟨rfl, _, rfl, ⟨(), rfl, (pk [98,98] rfl)⟩⟩⟩
     refine zD rfl (zK ?_);cases h;exact ⟨rfl, (), (sb .refl)⟩
   ·rintro _ _ h;refine zU rfl (zA R4 (zN (zR ?_)));cases h;exact ⟨rfl, _, rfl, ⟨(), rfl, (pk [98,98] rfl)⟩⟩
  refine zC rfl (zU rfl (zA R4 (zN (zR ?_))));cases h;exact ⟨rfl, _, rfl, ⟨(), rfl, (pk [98,98] rfl)⟩⟩
 refine zC rfl (zU rfl (zA R4 (zN (zR ?_))));cases h;exact ⟨rfl, _, rfl, ⟨(), rfl, (pk [98,98] rfl)⟩⟩
set_option maxRecDepth 10000 in
theorem tf_r9_Own {k : Nat} (hk : 0 ≤ k) {C : List Thing} {v_books : AV} {books : List qA} (h_books : Rdl C qP v_books books) {r : (List Int)} (h : P_r9_Own books = some r) :
  TF (EL k) 51 [v_books] C (RepF (fun (w : AV) => w) (fun (w : AV) => ownL true w encI r :: C)) := by
 unfold P_r9_Own at h;refine TF.enter (fn := Go.Proofs.Tryz.f51) rfl rfl rfl rfl rfl (zU rfl (zA R4 (zN (zU rfl (zA R4 (zN ?_))))))
 show T _ _ _ _ _ _;apply T.joinA (r := r) (W := AV) (fun j w => ⟨[], [(3, w)], ownL true w encI j :: C⟩) h
 ·intro j h;refine zU rfl (zA R4 (zN (zB (T.nilown (u := encI.u) ?_))))
  show T _ _ _ _ _ _;apply T.iter (r := j) (W := AV) (fun j w => ⟨[], [(0, v_books), (3, w), (4, iv (j.1))], ownL true w encI j.2 :: C⟩) (w0 := nilS) h
  ·exact (sb .refl)
  rintro ⟨i, out⟩ v1 a h;unfold P_r9_Own_L1 at h;dsimp only at h;dsimp only;refine zS (zU rfl (zM R4 (zM R4 (zV R3 (Val.len_l h_books M1 rfl rfl) ?_))));obtain ⟨c8, hc8⟩ := zY (i < (books.length : Int));refine zV R3 (Val.lss hc8 rfl rfl) (zN ?_);obtain ⟨rfl, hc8, h⟩ | ⟨rfl, hc8, h⟩ := zI hc8 h
  ·refine zC rfl (zK (zS (zB (zT rfl (zM R4 (zM R4 (zM R4 ?_)))))));obtain ⟨a14, hia14, ea14, h⟩ := el_some h;refine TO.fact (rdl_at h_books M1 hia14 ea14) (fun hp=>?_);obtain ⟨pa14, hpa14, hva14⟩ := hp;refine zV R3 (hva14 ⟨rfl, rfl⟩ rfl rfl) (zV R3 (Val.faddr_e (fo := 6) hpa14 rfl rfl rfl) (zV R3 (Val.load_e (PtE.add hpa14 (by decide)) M1 ⟨_, rfl, rfl⟩ rfl rfl) (TO.build1 (en := encI) (a := a14.shelf) rfl rfl rfl ⟨rfl, rfl⟩ ⟨_, rfl, rfl⟩ (by decide) (by decide) rfl rfl (fun v17=>?_))));obtain ⟨hk18, h⟩ := chk_some h;refine TO.eff rfl rfl rfl (Eff.append_own (b := 8) (en := encI) (l := out) (l2 := [a14.shelf]) (p := 1) (q := 0) ⟨rfl, rfl, rfl, ⟨_, rfl, rfl⟩, by decide, by decide⟩ rfl rfl rfl rfl rfl rfl (flat_ones _) (by decide) hk18) ?_;rintro v18 _ rfl;refine zG (_::_::C) rfl (zA R4 (zN (zT rfl (zM R4 ?_))));obtain ⟨hk10, h⟩ := chk_some h;refine zV R3 (Val.add rfl rfl hk10) (zA R4 (zN ?_));cases h;exact ⟨rfl, v18, (sb (pk [1,98] rfl))⟩
  refine zD rfl (zE ?_);cases h;exact ⟨ex_ne, ⟨rfl, v1, (sb .refl)⟩⟩
 ·rintro out v1 h;refine zU rfl (zM R4 (zA R4 (zN (zR ?_))));cases h;exact ⟨rfl, _, rfl, ⟨v1, rfl, .refl⟩⟩
set_option maxRecDepth 10000 in
theorem tf_r9_Book {k : Nat} (hk : 0 ≤ k) {C : List Thing} {qF : AV} {qG : List Str} {qD : AV} {qC : List qH} {qE : AV} {qB : List qA} {qK : Int} {qL : Int} {qM : Str} {qJ : Int} {qI : Int} {qN : Int} {qO : Int} {v_before : AV} {before : List qA} (qV : Rdl C encStr qF qG) (qU : Rdl C qW qD qC) (qT : Rdl C qP qE qB) (h_before : Rdl C qP v_before before) {r : Int} (h : P_r9_Book qG qC qB qK qL qM qJ qI qN qO before = some r) :
  TF (EL k) 75 [.agg [qF, qD, qE], .agg [iv (qK), iv (qL), sv qM, iv (qJ), iv (qI), iv (qN), iv (qO)], v_before] C (RepF (fun (w : Unit) => iv r) (fun (w : Unit) => C)) := by
 unfold P_r9_Book at h;refine TF.enter (fn := Go.Proofs.Tryz.f75) rfl rfl rfl rfl rfl (zU rfl (zQ 3 [_,_,_] R7 (fun b3=>zQ 7 [_,_,_,_,_,_,_] R7 (fun b4=>zA R4 (zN (zU rfl (zV R3 (vW 1 [_,_,_] R5 R4) (zF 0 R6 (zV R3 (vW 0 [_,_,_] R5 R4) ?_)))))))));obtain ⟨y12, hr12, h⟩ := andx_some h;refine TO.callT (first := []) (cap := []) (vs := [.agg [qF, qD, qE], .agg [iv (qK), iv (qL), sv qM]]) rfl rfl rfl rfl rfl rfl (orcN rfl) (tf_r9_Mark aD (Rdl.mono qV M2) (Rdl.mono qU M2) (Rdl.mono qT M2) hr12) ?_;rintro _;refine zG (_::_::C) rfl (zA R4 (zN ?_))
 show T _ _ _ _ _ _;apply T.joinA (r := r) (W := Unit) (fun j w => ⟨[], [(2, v_before), (4, .ptr b4 0 7), (7, iv (j))], .row b4 7 [iv (qK), iv (qL), sv qM, iv (qJ), iv (qI), iv (qN), iv (qO)] :: .row b3 3 [qF, qD, qE] :: C⟩) h
 ·intro j h
  show T _ _ _ _ _ _;apply T.joinA (r := j) (W := Unit) (fun j w => ⟨[], [(2, v_before), (4, .ptr b4 0 7), (7, iv (y12)), (32, bv j)], .row b4 7 [iv (qK), iv (qL), sv qM, iv (qJ), iv (qI), iv (qN), iv (qO)] :: .row b3 3 [qF, qD, qE] :: C⟩) h
  ·intro j h;refine zT rfl (zM R4 ?_);obtain ⟨c14, hc14⟩ := zY (y12 = 0);refine zV R3 (Val.eql hc14 rfl rfl) (zM R4 ?_);obtain ⟨rfl, hc14, h⟩ | ⟨rfl, hc14, h⟩ := zI hc14 h
   ·refine zF 3 R6 (zL 0 R3 R6 ?_);obtain ⟨y18, hr18, h⟩ := andx_some h;refine TO.callT (first := []) (cap := []) (vs := [iv (qJ), iv (1), iv (2000)]) rfl rfl rfl rfl rfl rfl (orcN rfl) (tf_r9_in aD hr18) ?_;rintro _;refine zG (_::_::C) rfl (zV R3 (Val.not rfl) (zM R4 ?_));obtain ⟨rfl, h⟩ | ⟨rfl, h⟩ := zZ h
    ·refine zF 4 R6 (zL 0 R3 R6 ?_);obtain ⟨y23, hr23, h⟩ := andx_some h;refine TO.callT (first := []) (cap := []) (vs := [iv (qI), iv (1), iv (2000)]) rfl rfl rfl rfl rfl rfl (orcN rfl) (tf_r9_in aD hr23) ?_;rintro _;refine zG (_::_::C) rfl (zV R3 (Val.not rfl) (zP R6 (zM R4 ?_)));obtain ⟨rfl, h⟩ | ⟨rfl, h⟩ := zZ h
     ·refine zF 5 R6 (zL 0 R3 R6 ?_);obtain ⟨y29, hr29, h⟩ := andx_some h;refine TO.callT (first := []) (cap := []) (vs := [iv (qN), iv (1), iv (100)]) rfl rfl rfl rfl rfl rfl (orcN rfl) (tf_r9_in aD hr29) ?_;rintro _;refine zG (_::_::C) rfl (zV R3 (Val.not rfl) (zP R6 (zP R6 (zN ?_))));cases h;exact ⟨rfl, (), (sb .refl)⟩
     refine zO R3 (zO R3 (zO R3 (zO R3 (zP R6 (zP R6 (zN ?_))))));cases h;exact ⟨rfl, (), (sb .refl)⟩
    refine zO R3 (zO R3 (zO R3 (zO R3 (zP R6 (zM R4 (zO R3 (zO R3 (zO R3 (zO R3 (zP R6 (zP R6 (zN ?_))))))))))));cases h;exact ⟨rfl, (), (sb .refl)⟩
   refine zO R3 (zO R3 (zO R3 (zO R3 (zO R3 (zO R3 (zO R3 (zO R3 (zO R3 (zO R3 (zO R3 (zO R3 (zO R3 (zO R3 (zO R3 (zO R3 (zP R6 (zN ?_)))))))))))))))));cases h;exact ⟨rfl, (), (sb .refl)⟩
  ·rintro x32 _ h;obtain ⟨rfl, h⟩ | ⟨rfl, h⟩ := zZ h
   ·refine zC rfl (zT rfl (zA R4 (zN ?_)));cases h;exact ⟨rfl, (), (sb .refl)⟩
   refine zD rfl (zK ?_);cases h;exact ⟨rfl, (), (sb .refl)⟩
 ·rintro e _ h
  show T _ _ _ _ _ _;apply T.joinA (r := r) (W := Unit) (fun j w => ⟨[], [(7, iv (j))], .row b4 7 [iv (qK), iv (qL), sv qM, iv (qJ), iv (qI), iv (qN), iv (qO)] :: C⟩) h
  ·intro j h;refine zU rfl (zA R4 (zN (zB ?_)))
   show T _ _ _ _ _ _;apply T.iter (r := j) (W := Unit) (fun j w => ⟨[], [(2, v_before), (4, .ptr b4 0 7), (7, iv (j.1)), (8, iv (j.2))], .row b4 7 [iv (qK), iv (qL), sv qM, iv (qJ), iv (qI), iv (qN), iv (qO)] :: C⟩) (w0 := ()) h
   ·exact (sb (pk [0,98] rfl))
   rintro ⟨e_2, i⟩ _ a h;unfold P_r9_Book_L1 at h;dsimp only at h;dsimp only
   show T _ _ _ _ _ _;apply T.join (r := a) (W := Unit) (fun j w => ⟨[], [(2, v_before), (4, .ptr b4 0 7), (7, iv (e_2)), (8, iv (i))], .row b4 7 [iv (qK), iv (qL), sv qM, iv (qJ), iv (qI), iv (qN), iv (qO)] :: C⟩) h
   ·intro j h
    show T _ _ _ _ _ _;apply T.joinA (r := j) (W := Unit) (fun j w => ⟨[], [(2, v_before), (4, .ptr b4 0 7), (7, iv (e_2)), (8, iv (i)), (40, bv j)], .row b4 7 [iv (qK), iv (qL), sv qM, iv (qJ), iv (qI), iv (qN), iv (qO)] :: C⟩) h
    ·intro j h;refine zT rfl (zM R4 (zM R4 (zV R3 (Val.len_l h_before M1 rfl rfl) ?_)));obtain ⟨c36, hc36⟩ := zY (i < (before.length : Int));refine zV R3 (Val.lss hc36 rfl rfl) (zM R4 ?_);obtain ⟨rfl, hc36, h⟩ | ⟨rfl, hc36, h⟩ := zI hc36 h
     ·refine zM R4 ?_;obtain ⟨c39, hc39⟩ := zY (e_2 = 0);refine zV R3 (Val.eql hc39 rfl rfl) (zP R6 (zN ?_));subst hc39;cases h;exact ⟨rfl, (), (sb .refl)⟩
     refine zO R3 (zO R3 (zP R6 (zN ?_)));cases h;exact ⟨rfl, (), (sb .refl)⟩
    ·rintro x40 _ h;obtain ⟨rfl, h⟩ | ⟨rfl, h⟩ := zZ h
     ·refine zC rfl (zK ?_);cases h;exact ⟨rfl, (), (sb .refl)⟩
     refine zD rfl (zE ?_);cases h;exact ⟨ex_ne, ⟨ex_ne, ⟨rfl, (), (sb .refl)⟩⟩⟩
   ·rintro _ _ h
    show T _ _ _ _ _ _;apply T.joinA (r := a) (W := Unit) (fun j w => ⟨[], [(2, v_before), (4, .ptr b4 0 7), (7, iv (j)), (8, iv (i))], .row b4 7 [iv (qK), iv (qL), sv qM, iv (qJ), iv (qI), iv (qN), iv (qO)] :: C⟩) h
    ·intro j h;refine zB (zS (T.draw (fun v => sameC_refl v) (l1 := [0, 1, 2, 3, 4, 5, 6, 7]) (l2 := []) (by kernel_rfl) (by kernel_rfl) (zM R4 (zM R4 ?_))));obtain ⟨a45, hia45, ea45, h⟩ := el_some h;refine TO.fact (rdl_at h_before M1 hia45 ea45) (fun hp=>?_);obtain ⟨pa45, hpa45, hva45⟩ := hp;refine zV R3 (hva45 ⟨rfl, rfl⟩ rfl rfl) (zV R3 (Val.faddr_e (fo := 0) hpa45 rfl rfl rfl) (zV R3 (Val.load_es (c := [_, _, _]) (PtE.add hpa45 (by decide)) M1 ⟨⟨_, rfl, rfl⟩, rfl, by decide⟩ rfl rfl rfl) (zF 0 R6 (zV R3 (vW 0 [_,_,_] R5 R4) ?_))));obtain ⟨c50, hc50⟩ := zY (a45.qR = qK ∧ a45.qS = qL ∧ a45.qQ = qM);refine zV R3 (Val.binD hc50 rfl rfl (eql_ty28 _ _ _ _ _ _ _ _)) (zN ?_);obtain ⟨rfl, hc50, h⟩ | ⟨rfl, hc50, h⟩ := zI hc50 h
     ·refine zC rfl (zT rfl (zA R4 (zN ?_)));cases h;exact ⟨rfl, (), (sb .refl)⟩
     refine zD rfl (zK ?_);cases h;exact ⟨rfl, (), (sb .refl)⟩
    ·rintro e_3 _ h;refine zT rfl (zM R4 ?_);obtain ⟨hk42, h⟩ := chk_some h;refine zV R3 (Val.add rfl rfl hk42) (zA R4 (zN ?_));cases h;exact ⟨rfl, (), (sb .refl)⟩
  ·rintro e_2 _ h;refine zU rfl (zM R4 (zA R4 (zN (zR ?_))));cases h;exact ⟨rfl, _, rfl, ⟨(), rfl, (pk [98] rfl)⟩⟩
set_option maxRecDepth 10000 in
theorem tf_r9_Filled {k : Nat} (hk : 0 ≤ k) {C : List Thing} {qF : AV} {qG : List Str} {qD : AV} {qC : List qH} {qE : AV} {qB : List qA} {v_books : AV} {books : List qA} {v_shelves : AV} {shelves : List Int} {shelf : Int} (qV : Rdl C encStr qF qG) (qU : Rdl C qW qD qC) (qT : Rdl C qP qE qB) (h_books : Rdl C qP v_books books) (h_shelves : Rdl C encI v_shelves shelves) {r : Int} (h : P_r9_Filled qG qC qB books shelves shelf = some r) :
  TF (EL k) 95 [.agg [qF, qD, qE], v_books, v_shelves, iv (shelf)] C (RepF (fun (w : Unit) => iv r) (fun (w : Unit) => C)) := by
 unfold P_r9_Filled at h;refine TF.enter (fn := Go.Proofs.Tryz.f95) rfl rfl rfl rfl rfl (zU rfl (zQ 3 [_,_,_] R7 (fun b4=>zA R4 (zN (zU rfl (zA R4 (zN ?_)))))))
 show T _ _ _ _ _ _;apply T.join (r := r) (W := Unit) (fun j w => ⟨[], [(9, iv (j))], .row b4 3 [qF, qD, qE] :: C⟩) h
 ·intro j h;refine zU rfl (zA R4 (zN (zB ?_)))
  show T _ _ _ _ _ _;apply T.iter (r := j) (W := Unit) (fun j w => ⟨[], [(1, v_books), (2, v_shelves), (3, iv (shelf)), (4, .ptr b4 0 3), (9, iv (j.1)), (10, iv (j.2))], .row b4 3 [qF, qD, qE] :: C⟩) (w0 := ()) h
  ·exact (sb .refl)
  rintro ⟨n, i⟩ _ a h;unfold P_r9_Filled_L1 at h;dsimp only at h;dsimp only;refine zS (zU rfl (zM R4 (zM R4 (zV R3 (Val.len_l h_books M1 rfl rfl) ?_))));obtain ⟨c14, hc14⟩ := zY (i < (books.length : Int));refine zV R3 (Val.lss hc14 rfl rfl) (zN ?_);obtain ⟨rfl, hc14, h⟩ | ⟨rfl, hc14, h⟩ := zI hc14 h
  ·refine zC rfl (zK ?_)
   show T _ _ _ _ _ _;apply T.join (r := a) (W := Unit) (fun j w => ⟨[], [(1, v_books), (2, v_shelves), (3, iv (shelf)), (4, .ptr b4 0 3), (9, iv (j)), (10, iv (i))], .row b4 3 [qF, qD, qE] :: C⟩) h
   ·intro j h;refine zB (zS (zU rfl (zM R4 (zM R4 ?_))));obtain ⟨a19, hia19, ea19, h⟩ := el_some h;refine TO.fact (rdl_at h_shelves M1 hia19 ea19) (fun hp=>?_);obtain ⟨pa19, hpa19, hva19⟩ := hp;refine zV R3 (hva19 ⟨rfl, rfl⟩ rfl rfl) (zV R3 (Val.load_e hpa19 M1 ⟨_, rfl, rfl⟩ rfl rfl) (zM R4 ?_));obtain ⟨c22, hc22⟩ := zY (¬ a19 = shelf);refine zV R3 (Val.neq hc22 rfl rfl) (zN ?_);obtain ⟨rfl, hc22, h⟩ | ⟨rfl, hc22, h⟩ := zI hc22 h
    ·refine zC rfl (zE ?_);cases h;exact ⟨rfl, (), (sb .refl)⟩
    refine zD rfl (zK (zS (zS (T.draw (fun v => sameC_refl v) (l1 := [0, 1, 2, 3, 4, 5, 6, 7, 8, 9, 10, 11]) (l2 := []) (by kernel_rfl) (by kernel_rfl) (zM R4 (zM R4 ?_))))));obtain ⟨a25, hia25, ea25, h⟩ := el_some h;refine TO.fact (rdl_at h_books M1 hia25 ea25) (fun hp=>?_);obtain ⟨pa25, hpa25, hva25⟩ := hp;refine zV R3 (hva25 ⟨rfl, rfl⟩ rfl rfl) (zV R3 (Val.faddr_e (fo := 4) hpa25 rfl rfl rfl) (zV R3 (Val.load_e (PtE.add hpa25 (by decide)) M1 ⟨_, rfl, rfl⟩ rfl rfl) (zF 1 R6 (zL 0 R3 R6 (zM R4 ?_)))));obtain ⟨a31, hia31, ea31, h⟩ := el_some h;refine TO.fact (rdl_at qU M1 hia31 ea31) (fun hp=>?_);obtain ⟨pa31, hpa31, hva31⟩ := hp;refine zV R3 (hva31 ⟨rfl, rfl⟩ rfl rfl) (zV R3 (Val.faddr_e (fo := 3) hpa31 rfl rfl rfl) (zV R3 (Val.load_e (PtE.add hpa31 (by decide)) M1 ⟨_, rfl, rfl⟩ rfl rfl) ?_));obtain ⟨c34, hc34⟩ := zY (a25.high > a31.high);refine zV R3 (Val.gtr hc34 rfl rfl) (zN ?_);obtain ⟨rfl, hc34, h⟩ | ⟨rfl, hc34, h⟩ := zI hc34 h
    ·refine zC rfl (zU rfl (zA R4 (zN (zR ?_))));cases h;exact ⟨ret_ne, ⟨ret_ne, ⟨ret_ne, ⟨rfl, _, rfl, ⟨(), rfl, (pk [98] rfl)⟩⟩⟩⟩⟩
    refine zD rfl (zK (zT rfl (zM R4 (zM R4 (zM R4 ?_)))));obtain ⟨a38, hia38, ea38, h⟩ := el_some h;refine TO.fact (rdl_at h_books M1 hia38 ea38) (fun hp=>?_);obtain ⟨pa38, hpa38, hva38⟩ := hp;refine zV R3 (hva38 ⟨rfl, rfl⟩ rfl rfl) (zV R3 (Val.faddr_e (fo := 3) hpa38 rfl rfl rfl) (zV R3 (Val.load_e (PtE.add hpa38 (by decide)) M1 ⟨_, rfl, rfl⟩ rfl rfl) ?_));obtain ⟨hk41, h⟩ := chk_some h;refine zV R3 (Val.add rfl rfl hk41) (zA R4 (zN ?_));cases h;exact ⟨rfl, (), (sb .refl)⟩
   ·rintro n_2 _ h;refine zT rfl (zM R4 ?_);obtain ⟨hk16, h⟩ := chk_some h;refine zV R3 (Val.add rfl rfl hk16) (zA R4 (zN ?_));cases h;exact ⟨rfl, (), (sb .refl)⟩
  refine zD rfl (zE ?_);cases h;exact ⟨ex_ne, ⟨rfl, (), (sb .refl)⟩⟩
 ·rintro n _ h;refine zU rfl (zM R4 (zA R4 (zN (zR ?_))));cases h;exact ⟨rfl, _, rfl, ⟨(), rfl, (pk [98] rfl)⟩⟩
set_option maxRecDepth 10000 in
theorem tf_r9_fit {k : Nat} (hk : 0 ≤ k) {C : List Thing} {qF : AV} {qG : List Str} {qD : AV} {qC : List qH} {qE : AV} {qB : List qA} {v_books : AV} {books : List qA} {v_shelves : AV} {shelves : List Int} {shelf : Int} (qV : Rdl C encStr qF qG) (qU : Rdl C qW qD qC) (qT : Rdl C qP qE qB) (h_books : Rdl C qP v_books books) (h_shelves : Rdl C encI v_shelves shelves) {r : Bool} (h : P_r9_fit qG qC qB books shelves shelf = some r) :
  TF (EL k) 76 [.agg [qF, qD, qE], v_books, v_shelves, iv (shelf)] C (RepF (fun (w : Unit) => bv r) (fun (w : Unit) => C)) := by
 unfold P_r9_fit at h;refine TF.enter (fn := Go.Proofs.Tryz.f76) rfl rfl rfl rfl rfl (zU rfl (zQ 3 [_,_,_] R7 (fun b4=>zA R4 (zN (zS (T.drawE (l1 := [0, 1, 2, 3, 5, 6, 7, 8, 9, 10]) (l2 := [4, 11, 12]) (by kernel_rfl) (by kernel_rfl) (yR R4 (vW 0 [_,_,_] R5 R4) (yL R4 (Val.move rfl) (yL R4 (Val.move rfl) (yL R4 (Val.move rfl) (yL R4 (Val.faddr_ptr (fo := 1) rfl rfl rfl) (yR R4 (vR (p := 0) R6) (yL R4 (Val.move rfl) ?_)))))))))))));obtain ⟨a17, hia17, ea17, h⟩ := el_some h;refine TD1.fact (rdl_at qU M1 hia17 ea17) (fun hp=>?_);obtain ⟨pa17, hpa17, hva17⟩ := hp;refine yL R4 (hva17 ⟨rfl, rfl⟩ rfl rfl) (yL R4 (Val.faddr_e (fo := 2) hpa17 rfl rfl rfl) (yR R4 (Val.load_e (PtE.add hpa17 (by decide)) M1 ⟨_, rfl, rfl⟩ rfl rfl) (TD1.over (fun v => sameC_refl v) (all_cons (⟨_, rfl, (Val.load_e (PtE.add hpa17 (by decide)) M1 ⟨_, rfl, rfl⟩ rfl rfl)⟩) (all_cons (⟨_, rfl, (vR (p := 0) R6)⟩) (all_cons (⟨_, rfl, (vW 0 [_,_,_] R5 R4)⟩) all_nil))) ?_)));obtain ⟨y13, hr13, h⟩ := andx_some h;refine TD2.heavy (fun v => sameC_refl v) rfl (by decide) rfl rfl (OpS.callV rfl rfl rfl rfl (orcN rfl) (RepF.conv (tf_r9_Filled aD (Rdl.mono qV M1) (Rdl.mono qU M1) (Rdl.mono qT M1) (Rdl.mono h_books M1) (Rdl.mono h_shelves M1) hr13))) ?_;rintro _ hs_ ⟨_, rfl, he_⟩;subst hs_;refine ⟨(all_cons (.inr ⟨_, rfl, (Val.load_e (PtE.add hpa17 (by decide)) M1 ⟨_, rfl, rfl⟩ rfl rfl)⟩) (all_cons (.inr ⟨_, rfl, (vR (p := 0) R6)⟩) (all_cons (.inl (by kernel_rfl)) all_nil))), all_nil, ?_⟩;refine yG (_::C) rfl ?_;obtain ⟨y20, hr20, h⟩ := andx_some h;refine TD2.heavy (fun v => sameC_refl v) rfl (by decide) rfl rfl (OpS.callV rfl rfl rfl rfl (orcN rfl) (RepF.conv (tf_r9_in aD hr20))) ?_;rintro _ hs_ ⟨_, rfl, he_⟩;subst hs_;refine ⟨(all_cons (.inl (by kernel_rfl)) (all_cons (.inl (by kernel_rfl)) (all_cons (.inl (by kernel_rfl)) all_nil))), all_nil, ?_⟩;refine yG (_::C) rfl (yM R4 (Val.assign rfl) (TD2.nil (zR ?_)));cases h;exact ⟨rfl, _, rfl, ⟨(), rfl, (pk [98] rfl)⟩⟩
set_option maxRecDepth 10000 in
theorem tf_r9_Check {k : Nat} (hk : 0 ≤ k) {C : List Thing} {qF : AV} {qG : List Str} {qD : AV} {qC : List qH} {qE : AV} {qB : List qA} (qAa : RdT encStr qF qG) (qAb : RdT qW qD qC) (qZ : RdT qP qE qB) {r : Int × Int × Int} (h : P_r9_Check qG qC qB = some r) :
  TF (EL k) 17 [.agg [qF, qD, qE]] C (RepF (fun (w : Unit) => .tuple [iv r.1, iv r.2.1, iv r.2.2]) (fun (w : Unit) => C)) := by
 unfold P_r9_Check at h
 have qV : Rdl C encStr qF qG := RdT.rdl qAa
 have qU : Rdl C qW qD qC := RdT.rdl qAb
 have qT : Rdl C qP qE qB := RdT.rdl qZ;refine TF.enter (fn := Go.Proofs.Tryz.f17) rfl rfl rfl rfl rfl (zU rfl (zQ 3 [_,_,_] R7 (fun b1=>zA R4 (zA R4 (zA R4 (zN (zS (zU rfl (zF 0 R6 (zL 0 R3 R6 (zV R3 (Val.len_l qV M1 rfl rfl) ?_)))))))))));obtain ⟨y16, hr16, h⟩ := andx_some h;refine TO.callT (first := []) (cap := []) (vs := [iv ((qG.length : Int)), iv (1), iv (6)]) rfl rfl rfl rfl rfl rfl (orcN rfl) (tf_r9_in aD hr16) ?_;rintro _;refine zG (_::C) rfl (zV R3 (Val.not rfl) (zN ?_));obtain ⟨rfl, h⟩ | ⟨rfl, h⟩ := zZ h
 ·refine zD rfl (zK ?_)
  show T _ _ _ _ _ _;apply T.join (r := r) (W := Unit) (fun j w => ⟨[], [(1, .ptr b1 0 3)], .row b1 3 [qF, qD, qE] :: C⟩) h
  ·intro j h;refine zU rfl (zA R4 (zN (zB ?_)))
   show T _ _ _ _ _ _;apply T.iter (r := j) (W := Unit) (fun j w => ⟨[], [(1, .ptr b1 0 3), (5, iv (j))], .row b1 3 [qF, qD, qE] :: C⟩) (w0 := ()) h
   ·exact (sb .refl)
   rintro i _ a h;unfold P_r9_Check_L1 at h;refine zS (zU rfl (zM R4 (zF 0 R6 (zL 0 R3 R6 (zV R3 (Val.len_l qV M1 rfl rfl) ?_)))));obtain ⟨c22, hc22⟩ := zY (i < (qG.length : Int));refine zV R3 (Val.lss hc22 rfl rfl) (zN ?_);obtain ⟨rfl, hc22, h⟩ | ⟨rfl, hc22, h⟩ := zI hc22 h
   ·refine zC rfl (zK (zS (zB (zS (T.drawE (l1 := [0, 1, 2, 3, 4, 5, 6, 7, 8]) (l2 := [9, 10]) (by kernel_rfl) (by kernel_rfl) (yL R4 (Val.faddr_ptr (fo := 0) rfl rfl rfl) (yR R4 (vR (p := 0) R6) (yL R4 (Val.move rfl) ?_))))))));obtain ⟨a28, hia28, ea28, h⟩ := el_some h;refine TD1.fact (rdl_at qV M1 hia28 ea28) (fun hp=>?_);obtain ⟨pa28, hpa28, hva28⟩ := hp;refine yL R4 (hva28 ⟨rfl, rfl⟩ rfl rfl) (yR R4 (Val.load_e hpa28 M1 ⟨_, rfl, rfl⟩ rfl rfl) (yL R4 (Val.faddr_ptr (fo := 0) rfl rfl rfl) (yR R4 (vR (p := 0) R6) (yL R4 (Val.move rfl) ?_))));obtain ⟨hk33, h⟩ := chk_some h;obtain ⟨w33, htw33, hgw33, hvw33⟩ := slice_T qAa hk33
    have hw33 : Rdl C encStr w33 (List.take (i - (0 : Int)).toNat (List.drop ((0 : Int) : Int).toNat qG)) := RdT.rdl htw33;refine yR R4 (hvw33 ⟨rfl, rfl⟩ rfl .no (.some rfl)) (TD1.over (fun v => sameC_refl v) (all_cons (⟨_, rfl, (hvw33 ⟨rfl, rfl⟩ rfl .no (.some rfl))⟩) (all_cons (⟨_, rfl, (vR (p := 0) R6)⟩) (all_cons (⟨_, rfl, (Val.load_e hpa28 M1 ⟨_, rfl, rfl⟩ rfl rfl)⟩) (all_cons (⟨_, rfl, (vR (p := 0) R6)⟩) all_nil)))) ?_);obtain ⟨y34, hr34, h⟩ := andx_some h;refine TD2.heavy (fun v => sameC_refl v) rfl (by decide) rfl rfl (OpS.callV rfl rfl rfl rfl (orcN rfl) (RepF.conv (tf_r1_Fresh aD (Rdl.mono hw33 M1) hr34))) ?_;rintro _ hs_ ⟨_, rfl, he_⟩;subst hs_;refine ⟨(all_cons (.inl (by kernel_rfl)) (all_cons (.inl (by kernel_rfl)) (all_cons (.inl (by kernel_rfl)) (all_cons (.inl (by kernel_rfl)) all_nil)))), all_nil, ?_⟩;refine yG (_::C) rfl (yM R4 (Val.assign rfl) (TD2.nil (zU rfl (zM R4 ?_))));obtain ⟨c36, hc36⟩ := zY (¬ y34 = 0);refine zV R3 (Val.neq hc36 rfl rfl) (zN ?_);obtain ⟨rfl, hc36, h⟩ | ⟨rfl, hc36, h⟩ := zI hc36 h
    ·refine zC rfl (zU rfl (zM R4 (zM R4 (zA R4 (zA R4 (zA R4 (zN (zR ?_))))))));cases h;exact ⟨ret_ne, ⟨ret_ne, ⟨rfl, _, rfl, ⟨(), rfl, (pk [98] rfl)⟩⟩⟩⟩
    refine zD rfl (zK (zT rfl (zM R4 ?_)));obtain ⟨hk24, h⟩ := chk_some h;refine zV R3 (Val.add rfl rfl hk24) (zA R4 (zN ?_));cases h;exact ⟨rfl, (), (sb .refl)⟩
   refine zD rfl (zE ?_);cases h;exact ⟨ex_ne, ⟨rfl, (), (sb .refl)⟩⟩
  ·rintro _ _ h;refine zS (zU rfl (zF 1 R6 (zL 0 R3 R6 (zV R3 (Val.len_l qU M1 rfl rfl) ?_))));obtain ⟨y42, hr42, h⟩ := andx_some h;refine TO.callT (first := []) (cap := []) (vs := [iv ((qC.length : Int)), iv (1), iv (4)]) rfl rfl rfl rfl rfl rfl (orcN rfl) (tf_r9_in aD hr42) ?_;rintro _;refine zG (_::C) rfl (zV R3 (Val.not rfl) (zN ?_));obtain ⟨rfl, h⟩ | ⟨rfl, h⟩ := zZ h
   ·refine zD rfl (zK ?_)
    show T _ _ _ _ _ _;apply T.join (r := r) (W := Unit) (fun j w => ⟨[], [(1, .ptr b1 0 3)], .row b1 3 [qF, qD, qE] :: C⟩) h
    ·intro j h;refine zU rfl (zA R4 (zN (zB ?_)))
     show T _ _ _ _ _ _;apply T.iter (r := j) (W := Unit) (fun j w => ⟨[], [(1, .ptr b1 0 3), (7, iv (j))], .row b1 3 [qF, qD, qE] :: C⟩) (w0 := ()) h
     ·exact (sb .refl)
     rintro i _ a h;unfold P_r9_Check_L2 at h;refine zS (zU rfl (zM R4 (zF 1 R6 (zL 0 R3 R6 (zV R3 (Val.len_l qU M1 rfl rfl) ?_)))));obtain ⟨c48, hc48⟩ := zY (i < (qC.length : Int));refine zV R3 (Val.lss hc48 rfl rfl) (zN ?_);obtain ⟨rfl, hc48, h⟩ | ⟨rfl, hc48, h⟩ := zI hc48 h
     ·refine zC rfl (zK ?_)
      show T _ _ _ _ _ _;apply T.join (r := a) (W := Unit) (fun j w => ⟨[], [(1, .ptr b1 0 3), (7, iv (i))], .row b1 3 [qF, qD, qE] :: C⟩) h
      ·intro j h;refine zB (zU rfl (zF 1 R6 (zL 0 R3 R6 (zM R4 ?_))));obtain ⟨a54, hia54, ea54, h⟩ := el_some h;refine TO.fact (rdl_at qU M1 hia54 ea54) (fun hp=>?_);obtain ⟨pa54, hpa54, hva54⟩ := hp;refine zV R3 (hva54 ⟨rfl, rfl⟩ rfl rfl) (zV R3 (Val.load_es (c := [_, _, _, _]) hpa54 M1 ⟨⟨_, rfl, rfl⟩, rfl, by decide⟩ rfl rfl rfl) (zJ 4 [_,_,_,_] R7 (fun b8=>TO.eff0 rfl rfl (Eff.store_row (p := 0) (cv := [_, _, _, _]) (cells' := [_, _, _, _]) rfl rfl rfl rfl rfl rfl rfl rfl aG (by decide) rfl) ?_)));rintro _ rfl;refine zG (_::_::C) rfl (zN ?_)
       show T _ _ _ _ _ _;apply T.joinA (r := j) (W := Unit) (fun j w => ⟨[], [(1, .ptr b1 0 3), (7, iv (i)), (77, bv j)], .row b8 4 [iv (a54.away), iv (a54.climb), iv (a54.wide), iv (a54.high)] :: .row b1 3 [qF, qD, qE] :: C⟩) h
       ·intro j h;refine zT rfl (zF 0 R6 (zL 0 R3 R6 ?_));obtain ⟨y58, hr58, h⟩ := andx_some h;refine TO.callT (first := []) (cap := []) (vs := [iv (a54.away), iv (0), iv (1000)]) rfl rfl rfl rfl rfl rfl (orcN rfl) (tf_r9_in aD hr58) ?_;rintro _;refine zG (_::_::C) rfl (zV R3 (Val.not rfl) (zM R4 ?_));obtain ⟨rfl, h⟩ | ⟨rfl, h⟩ := zZ h
        ·refine zF 1 R6 (zL 0 R3 R6 ?_);obtain ⟨y63, hr63, h⟩ := andx_some h;refine TO.callT (first := []) (cap := []) (vs := [iv (a54.climb), iv (0), iv (1000)]) rfl rfl rfl rfl rfl rfl (orcN rfl) (tf_r9_in aD hr63) ?_;rintro _;refine zG (_::_::C) rfl (zV R3 (Val.not rfl) (zP R6 (zM R4 ?_)));obtain ⟨rfl, h⟩ | ⟨rfl, h⟩ := zZ h
         ·refine zF 2 R6 (zL 0 R3 R6 ?_);obtain ⟨y69, hr69, h⟩ := andx_some h;refine TO.callT (first := []) (cap := []) (vs := [iv (a54.wide), iv (1), iv (2000)]) rfl rfl rfl rfl rfl rfl (orcN rfl) (tf_r9_in aD hr69) ?_;rintro _;refine zG (_::_::C) rfl (zV R3 (Val.not rfl) (zP R6 (zM R4 ?_)));obtain ⟨rfl, h⟩ | ⟨rfl, h⟩ := zZ h
          ·refine zF 3 R6 (zL 0 R3 R6 ?_);obtain ⟨y75, hr75, h⟩ := andx_some h;refine TO.callT (first := []) (cap := []) (vs := [iv (a54.high), iv (1), iv (2000)]) rfl rfl rfl rfl rfl rfl (orcN rfl) (tf_r9_in aD hr75) ?_;rintro _;refine zG (_::_::C) rfl (zV R3 (Val.not rfl) (zP R6 (zN ?_)));cases h;exact ⟨rfl, (), (sb .refl)⟩
          refine zO R3 (zO R3 (zO R3 (zO R3 (zP R6 (zN ?_)))));cases h;exact ⟨rfl, (), (sb .refl)⟩
         refine zO R3 (zO R3 (zO R3 (zO R3 (zP R6 (zM R4 (zO R3 (zO R3 (zO R3 (zO R3 (zP R6 (zN ?_)))))))))));cases h;exact ⟨rfl, (), (sb .refl)⟩
        refine zO R3 (zO R3 (zO R3 (zO R3 (zP R6 (zM R4 (zO R3 (zO R3 (zO R3 (zO R3 (zP R6 (zM R4 (zO R3 (zO R3 (zO R3 (zO R3 (zP R6 (zN ?_)))))))))))))))));cases h;exact ⟨rfl, (), (sb .refl)⟩
       ·rintro x77 _ h;obtain ⟨rfl, h⟩ | ⟨rfl, h⟩ := zZ h
        ·refine zC rfl (zU rfl (zM R4 (zA R4 (zA R4 (zA R4 (zN (zR ?_)))))));cases h;exact ⟨ret_ne, ⟨ret_ne, ⟨ret_ne, ⟨rfl, _, rfl, ⟨(), rfl, (pk [98,98] rfl)⟩⟩⟩⟩⟩
        refine zD rfl (zK ?_);cases h;exact ⟨rfl, (), (sb (pk [1,98] rfl))⟩
      ·rintro _ _ h;refine zT rfl (zM R4 ?_);obtain ⟨hk50, h⟩ := chk_some h;refine zV R3 (Val.add rfl rfl hk50) (zA R4 (zN ?_));cases h;exact ⟨rfl, (), (sb .refl)⟩
     refine zD rfl (zE ?_);cases h;exact ⟨ex_ne, ⟨rfl, (), (sb .refl)⟩⟩
    ·rintro _ _ h;refine zS (zU rfl (zF 2 R6 (zL 0 R3 R6 (zV R3 (Val.len_l qT M1 rfl rfl) ?_))));obtain ⟨c82, hc82⟩ := zY ((qB.length : Int) > 10);refine zV R3 (Val.gtr hc82 rfl rfl) (zN ?_);obtain ⟨rfl, hc82, h⟩ | ⟨rfl, hc82, h⟩ := zI hc82 h
     ·refine zC rfl (zU rfl (zA R4 (zA R4 (zA R4 (zN (zR ?_))))));cases h;exact ⟨rfl, _, rfl, ⟨(), rfl, (pk [98] rfl)⟩⟩
     refine zD rfl (zK ?_)
     show T _ _ _ _ _ _;apply T.join (r := r) (W := Unit) (fun j w => ⟨[], [(1, .ptr b1 0 3)], .row b1 3 [qF, qD, qE] :: C⟩) h
     ·intro j h;refine zU rfl (zA R4 (zN (zB ?_)))
      show T _ _ _ _ _ _;apply T.iter (r := j) (W := Unit) (fun j w => ⟨[], [(1, .ptr b1 0 3), (9, iv (j))], .row b1 3 [qF, qD, qE] :: C⟩) (w0 := ()) h
      ·exact (sb .refl)
      rintro i _ a h;unfold P_r9_Check_L3 at h;refine zS (zU rfl (zM R4 (zF 2 R6 (zL 0 R3 R6 (zV R3 (Val.len_l qT M1 rfl rfl) ?_)))));obtain ⟨c87, hc87⟩ := zY (i < (qB.length : Int));refine zV R3 (Val.lss hc87 rfl rfl) (zN ?_);obtain ⟨rfl, hc87, h⟩ | ⟨rfl, hc87, h⟩ := zI hc87 h
      ·refine zC rfl (zK ?_)
       show T _ _ _ _ _ _;apply T.join (r := a) (W := Unit) (fun j w => ⟨[], [(1, .ptr b1 0 3), (9, iv (i))], .row b1 3 [qF, qD, qE] :: C⟩) h
       ·intro j h;refine zB (zU rfl (zF 2 R6 (zL 0 R3 R6 (zM R4 ?_))));obtain ⟨a93, hia93, ea93, h⟩ := el_some h;refine TO.fact (rdl_at qT M1 hia93 ea93) (fun hp=>?_);obtain ⟨pa93, hpa93, hva93⟩ := hp;refine zV R3 (hva93 ⟨rfl, rfl⟩ rfl rfl) (zV R3 (Val.load_es (c := [_, _, _, _, _, _, _]) hpa93 M1 ⟨⟨_, rfl, rfl⟩, rfl, by decide⟩ rfl rfl rfl) (zJ 7 [_,_,_,_,_,_,_] R7 (fun b10=>TO.eff0 rfl rfl (Eff.store_row (p := 0) (cv := [_, _, _, _, _, _, _]) (cells' := [_, _, _, _, _, _, _]) rfl rfl rfl rfl rfl rfl rfl rfl aG (by decide) rfl) ?_)));rintro _ rfl;refine zG (_::_::C) rfl (zN (zS (T.drawE (l1 := [0, 1, 2, 3, 4, 5]) (l2 := [6, 7]) (by kernel_rfl) (by kernel_rfl) (yR R4 (vW 1 [_,_,_] R5 R4) (yR R4 (vW 0 [_,_,_,_,_,_,_] R5 R4) (yL R4 (Val.faddr_ptr (fo := 2) rfl rfl rfl) (yR R4 (vR (p := 1) R6) (yL R4 (Val.move rfl) ?_))))))));obtain ⟨hk100, h⟩ := chk_some h;obtain ⟨w100, htw100, hgw100, hvw100⟩ := slice_T qZ hk100
        have hw100 : Rdl C qP w100 (List.take (i - (0 : Int)).toNat (List.drop ((0 : Int) : Int).toNat qB)) := RdT.rdl htw100;refine yR R4 (hvw100 ⟨rfl, rfl⟩ rfl .no (.some rfl)) (TD1.over (fun v => sameC_refl v) (all_cons (⟨_, rfl, (hvw100 ⟨rfl, rfl⟩ rfl .no (.some rfl))⟩) (all_cons (⟨_, rfl, (vR (p := 1) R6)⟩) (all_cons (⟨_, rfl, (vW 0 [_,_,_,_,_,_,_] R5 R4)⟩) (all_cons (⟨_, rfl, (vW 1 [_,_,_] R5 R4)⟩) all_nil)))) ?_);obtain ⟨y101, hr101, h⟩ := andx_some h;refine TD2.heavy (fun v => sameC_refl v) rfl (by decide) rfl rfl (OpS.callV rfl rfl rfl rfl (orcN rfl) (RepF.conv (tf_r9_Book aD (Rdl.mono qV M2) (Rdl.mono qU M2) (Rdl.mono qT M2) (Rdl.mono hw100 M2) hr101))) ?_;rintro _ hs_ ⟨_, rfl, he_⟩;subst hs_;refine ⟨(all_cons (.inl (by kernel_rfl)) (all_cons (.inl (by kernel_rfl)) (all_cons (.inl (by kernel_rfl)) (all_cons (.inl (by kernel_rfl)) all_nil)))), all_nil, ?_⟩;refine yG (_::_::C) rfl (yM R4 (Val.assign rfl) (TD2.nil ?_))
        show T _ _ _ _ _ _;apply T.joinA (r := j) (W := Unit) (fun j w => ⟨[], [(1, .ptr b1 0 3), (9, iv (i)), (10, .ptr b10 0 7), (11, iv (j))], .row b10 7 [iv (a93.qR), iv (a93.qS), sv a93.qQ, iv (a93.wide), iv (a93.high), iv (a93.heavy), iv (a93.shelf)] :: .row b1 3 [qF, qD, qE] :: C⟩) h
        ·intro j h
         show T _ _ _ _ _ _;apply T.joinA (r := j) (W := Unit) (fun j w => ⟨[], [(1, .ptr b1 0 3), (9, iv (i)), (10, .ptr b10 0 7), (11, iv (y101)), (113, bv j)], .row b10 7 [iv (a93.qR), iv (a93.qS), sv a93.qQ, iv (a93.wide), iv (a93.high), iv (a93.heavy), iv (a93.shelf)] :: .row b1 3 [qF, qD, qE] :: C⟩) h
         ·intro j h;refine zT rfl (zM R4 ?_);obtain ⟨c103, hc103⟩ := zY (y101 = 0);refine zV R3 (Val.eql hc103 rfl rfl) (zM R4 ?_);obtain ⟨rfl, hc103, h⟩ | ⟨rfl, hc103, h⟩ := zI hc103 h
          ·refine zF 6 R6 (zL 0 R3 R6 (zF 1 R6 (zL 1 R3 R6 (zV R3 (Val.len_l qU M2 rfl rfl) ?_))));obtain ⟨hk110, h⟩ := chk_some h;refine zV R3 (Val.sub rfl rfl hk110) ?_;obtain ⟨y111, hr111, h⟩ := andx_some h;refine TO.callT (first := []) (cap := []) (vs := [iv (a93.shelf), iv (0), iv (((qC.length : Int) - 1))]) rfl rfl rfl rfl rfl rfl (orcN rfl) (tf_r9_in aD hr111) ?_;rintro _;refine zG (_::_::C) rfl (zV R3 (Val.not rfl) (zP R6 (zN ?_)));cases h;exact ⟨rfl, (), (sb .refl)⟩
          refine zO R3 (zO R3 (zO R3 (zO R3 (zO R3 (zO R3 (zO R3 (zO R3 (zP R6 (zN ?_)))))))));cases h;exact ⟨rfl, (), (sb .refl)⟩
         ·rintro x113 _ h;obtain ⟨rfl, h⟩ | ⟨rfl, h⟩ := zZ h
          ·refine zC rfl (zT rfl (zA R4 (zN ?_)));cases h;exact ⟨rfl, (), (sb .refl)⟩
          refine zD rfl (zK ?_);cases h;exact ⟨rfl, (), (sb .refl)⟩
        ·rintro e _ h
         show T _ _ _ _ _ _;apply T.joinA (r := j) (W := Unit) (fun j w => ⟨[], [(1, .ptr b1 0 3), (9, iv (i)), (11, iv (j))], .row b10 7 [iv (a93.qR), iv (a93.qS), sv a93.qQ, iv (a93.wide), iv (a93.high), iv (a93.heavy), iv (a93.shelf)] :: .row b1 3 [qF, qD, qE] :: C⟩) h
         ·intro j h
          show T _ _ _ _ _ _;apply T.joinA (r := j) (W := Unit) (fun j w => ⟨[], [(1, .ptr b1 0 3), (9, iv (i)), (11, iv (e)), (131, bv j)], .row b10 7 [iv (a93.qR), iv (a93.qS), sv a93.qQ, iv (a93.wide), iv (a93.high), iv (a93.heavy), iv (a93.shelf)] :: .row b1 3 [qF, qD, qE] :: C⟩) h
          ·intro j h;refine T.draw (fun v => sameC_refl v) (l1 := [0, 1, 2, 3, 4, 5, 6, 7, 8, 9, 10, 11, 12, 13, 14, 15, 16, 17]) (l2 := []) (by kernel_rfl) (by kernel_rfl) (zM R4 ?_);obtain ⟨c115, hc115⟩ := zY (e = 0);refine zV R3 (Val.eql hc115 rfl rfl) (zM R4 ?_);obtain ⟨rfl, hc115, h⟩ | ⟨rfl, hc115, h⟩ := zI hc115 h
           ·refine zM R4 ?_;obtain ⟨c118, hc118⟩ := zY (i > 0);refine zV R3 (Val.gtr hc118 rfl rfl) (zP R6 (zM R4 ?_));obtain ⟨rfl, hc118, h⟩ | ⟨rfl, hc118, h⟩ := zI hc118 h
            ·refine zF 6 R6 (zL 0 R3 R6 (zF 2 R6 (zL 1 R3 R6 (zM R4 ?_))));obtain ⟨hk126, h⟩ := chk_some h;refine zV R3 (Val.sub rfl rfl hk126) ?_;obtain ⟨a127, hia127, ea127, h⟩ := el_some h;refine TO.fact (rdl_at qT M2 hia127 ea127) (fun hp=>?_);obtain ⟨pa127, hpa127, hva127⟩ := hp;refine zV R3 (hva127 ⟨rfl, rfl⟩ rfl rfl) (zV R3 (Val.faddr_e (fo := 6) hpa127 rfl rfl rfl) (zV R3 (Val.load_e (PtE.add hpa127 (by decide)) M2 ⟨_, rfl, rfl⟩ rfl rfl) ?_));obtain ⟨c130, hc130⟩ := zY (a93.shelf < a127.shelf);refine zV R3 (Val.lss hc130 rfl rfl) (zP R6 (zN ?_));subst hc130;cases h;exact ⟨rfl, (), (sb .refl)⟩
            refine zO R3 (zO R3 (zO R3 (zO R3 (zO R3 (zO R3 (zO R3 (zO R3 (zO R3 (zO R3 (zP R6 (zN ?_)))))))))));cases h;exact ⟨rfl, (), (sb .refl)⟩
           refine zO R3 (zO R3 (zP R6 (zM R4 (zO R3 (zO R3 (zO R3 (zO R3 (zO R3 (zO R3 (zO R3 (zO R3 (zO R3 (zO R3 (zP R6 (zN ?_)))))))))))))));cases h;exact ⟨rfl, (), (sb .refl)⟩
          ·rintro x131 _ h;obtain ⟨rfl, h⟩ | ⟨rfl, h⟩ := zZ h
           ·refine zC rfl (zT rfl (zA R4 (zN ?_)));cases h;exact ⟨rfl, (), (sb .refl)⟩
           refine zD rfl (zK ?_);cases h;exact ⟨rfl, (), (sb .refl)⟩
         ·rintro e_2 _ h;refine zU rfl (zM R4 ?_);obtain ⟨c133, hc133⟩ := zY (¬ e_2 = 0);refine zV R3 (Val.neq hc133 rfl rfl) (zN ?_);obtain ⟨rfl, hc133, h⟩ | ⟨rfl, hc133, h⟩ := zI hc133 h
          ·refine zC rfl (zU rfl (zM R4 (zM R4 (zA R4 (zA R4 (zA R4 (zN (zR ?_))))))));cases h;exact ⟨ret_ne, ⟨ret_ne, ⟨ret_ne, ⟨rfl, _, rfl, ⟨(), rfl, (pk [98,98] rfl)⟩⟩⟩⟩⟩
          refine zD rfl (zK ?_);cases h;exact ⟨rfl, (), (sb (pk [1,98] rfl))⟩
       ·rintro _ _ h;refine zT rfl (zM R4 ?_);obtain ⟨hk89, h⟩ := chk_some h;refine zV R3 (Val.add rfl rfl hk89) (zA R4 (zN ?_));cases h;exact ⟨rfl, (), (sb .refl)⟩
      refine zD rfl (zE ?_);cases h;exact ⟨ex_ne, ⟨rfl, (), (sb .refl)⟩⟩
     ·rintro _ _ h
      show T _ _ _ _ _ _;apply T.join (r := r) (W := Unit) (fun j w => ⟨[], [], .row b1 3 [qF, qD, qE] :: C⟩) h
      ·intro j h;refine zU rfl (zA R4 (zN (zB ?_)))
       show T _ _ _ _ _ _;apply T.iter (r := j) (W := Unit) (fun j w => ⟨[], [(1, .ptr b1 0 3), (12, iv (j))], .row b1 3 [qF, qD, qE] :: C⟩) (w0 := ()) h
       ·exact (sb .refl)
       rintro i _ a h;unfold P_r9_Check_L4 at h;refine zS (zU rfl (zM R4 (zF 1 R6 (zL 0 R3 R6 (zV R3 (Val.len_l qU M1 rfl rfl) ?_)))));obtain ⟨c140, hc140⟩ := zY (i < (qC.length : Int));refine zV R3 (Val.lss hc140 rfl rfl) (zN ?_);obtain ⟨rfl, hc140, h⟩ | ⟨rfl, hc140, h⟩ := zI hc140 h
       ·refine zC rfl (zK (zS (zB (zS (T.drawE (l1 := [0, 1, 2, 3, 4, 6]) (l2 := [5, 7, 8]) (by kernel_rfl) (by kernel_rfl) (yR R4 (vW 0 [_,_,_] R5 R4) (yL R4 (Val.faddr_ptr (fo := 2) rfl rfl rfl) (yR R4 (vR (p := 0) R6) (yL R4 (Val.faddr_ptr (fo := 2) rfl rfl rfl) (yR R4 (vR (p := 0) R6) (yL R4 (Val.move rfl) (TD1.over (fun v => sameC_refl v) (all_cons (⟨_, rfl, (vR (p := 0) R6)⟩) (all_cons (⟨_, rfl, (vR (p := 0) R6)⟩) (all_cons (⟨_, rfl, (vW 0 [_,_,_] R5 R4)⟩) all_nil))) ?_))))))))))));obtain ⟨y148, hr148, h⟩ := andx_some h;refine TD2.heavy (fun v => sameC_refl v) rfl (by decide) rfl rfl (OpS.callV rfl rfl rfl rfl (orcN rfl) (RepF.conv (tf_r9_Own aD (Rdl.mono qT M1) hr148))) ?_;rintro w148 hs_ ⟨w148, rfl, he_⟩;subst hs_;refine ⟨(all_cons (.inl (by kernel_rfl)) (all_cons (.inr ⟨_, rfl, (vR (p := 1) R6)⟩) (all_cons (.inr ⟨_, rfl, (vW 1 [_,_,_] R5 R4)⟩) all_nil))), all_nil, ?_⟩;refine yG (_::_::C) rfl ?_;obtain ⟨y150, hr150, h⟩ := andx_some h;refine TD2.heavy (fun v => sameC_refl v) rfl (by decide) rfl rfl (OpS.callV rfl rfl rfl rfl (orcN rfl) (RepF.conv (tf_r9_fit aD (Rdl.mono qV M2) (Rdl.mono qU M2) (Rdl.mono qT M2) (Rdl.mono qT M2) (Rdl.mono (Rdl.own (C := ownL true w148 encI y148 :: .row b1 3 [qF, qD, qE] :: C) (p := 0) rfl) mem0) hr150))) ?_;rintro _ hs_ ⟨_, rfl, he_⟩;subst hs_;refine ⟨(all_cons (.inl (by kernel_rfl)) (all_cons (.inl (by kernel_rfl)) (all_cons (.inl (by kernel_rfl)) all_nil))), all_nil, ?_⟩;refine yG (_::_::C) rfl (yM R4 (Val.not rfl) (TD2.nil ?_));obtain ⟨rfl, h⟩ | ⟨rfl, h⟩ := zZ h
        ·refine zD rfl (zK (zT rfl (zM R4 ?_)));obtain ⟨hk142, h⟩ := chk_some h;refine zV R3 (Val.add rfl rfl hk142) (zA R4 (zN ?_));cases h;exact ⟨rfl, (), (sb (pk [1,98] rfl))⟩
        refine zC rfl (zU rfl (zM R4 (zA R4 (zA R4 (zA R4 (zN (zR ?_)))))));cases h;exact ⟨ret_ne, ⟨ret_ne, ⟨rfl, _, rfl, ⟨(), rfl, (pk [98,98] rfl)⟩⟩⟩⟩
       refine zD rfl (zE ?_);cases h;exact ⟨ex_ne, ⟨rfl, (), (sb .refl)⟩⟩
      ·rintro _ _ h;refine zU rfl (zA R4 (zA R4 (zA R4 (zN (zR ?_)))));cases h;exact ⟨rfl, _, rfl, ⟨(), rfl, (pk [98] rfl)⟩⟩
   refine zC rfl (zU rfl (zA R4 (zA R4 (zA R4 (zN (zR ?_))))));cases h;exact ⟨rfl, _, rfl, ⟨(), rfl, (pk [98] rfl)⟩⟩
 refine zC rfl (zU rfl (zA R4 (zA R4 (zA R4 (zN (zR ?_))))));cases h;exact ⟨rfl, _, rfl, ⟨(), rfl, (pk [98] rfl)⟩⟩
theorem w_r9_Check (qG : GS encStr) (qC : GS qW) (qB : GS qP) (r : Int × Int × Int) (h : P_r9_Check qG.l qC.l qB.l = some r) : Comes (EL 0) 17 [.agg [qG.v, qC.v, qB.v]] (.tuple [iv r.1, iv r.2.1, iv r.2.2]) :=
 TF.run (tf_r9_Check (Nat.le_refl _) (RdT.gs qG) (RdT.gs qC) (RdT.gs qB) h) fun w => (.tuple (.cons .lit (.cons .lit (.cons .lit .nil))))
set_option maxRecDepth 10000 in
theorem tf_q_Name {k : Nat} (hk : 0 ≤ k) {C : List Thing} {s : Str} {r : Bool} (h : P_q_Name s = some r) :
  TF (EL k) 65 [sv s] C (RepF (fun (w : Unit) => bv r) (fun (w : Unit) => C)) := by
 unfold P_q_Name at h;refine TF.enter (fn := Go.Proofs.Tryz.f65) rfl rfl rfl rfl rfl (zU rfl (zA R4 (zN ?_)))
 show T _ _ _ _ _ _;apply T.join (r := r) (W := Unit) (fun j w => ⟨[], [(0, sv s)], C⟩) h
 ·intro j h;refine zU rfl (zM R4 (TO.eff rfl rfl rfl (Eff.range_str rfl rfl) ?_));rintro _ _ ⟨it6, rfl, rfl⟩;refine zN (zB ?_)
  show T _ _ _ _ _ _;apply T.iter (r := j) (W := Unit) (fun j w => ⟨[], [(0, sv s), (6, .ptr it6 0 0)], strL it6 s j :: C⟩) (w0 := ()) h
  ·exact (sb .refl)
  rintro pos _ a h;unfold P_q_Name_L1 at h;refine zU rfl ?_;obtain ⟨c7, hc7⟩ := zY (pos < s.length);obtain ⟨rfl, hc7, h⟩ | ⟨rfl, hc7, h⟩ := zI hc7 h
  ·refine TO.eff rfl rfl rfl (Eff.next_str (p := 0) rfl rfl hc7) ?_;rintro _ _ ⟨rfl, rfl⟩;refine zG (_::C) rfl (zX R5 (zN (zS (zC rfl (zK (zB (zU rfl (zX R5 (zX R5 (zA R4 (zA R4 (zN (zB ?_)))))))))))))
   show T _ _ _ _ _ _;apply T.joinA (r := a) (W := Unit) (fun j w => ⟨[], [(0, sv s), (3, iv ((pos : Int))), (4, ivk .i32 ((runeAt s pos))), (6, .ptr it6 0 0), (11, bv j)], strL it6 s (pos + runeLen s pos) :: C⟩) h
   ·intro j h;refine zT rfl (zM R4 ?_);obtain ⟨c13, hc13⟩ := zY ((runeAt s pos) ≥ 97);refine zV R3 (Val.geqK hc13 rfl rfl) (zM R4 ?_);obtain ⟨rfl, hc13, h⟩ | ⟨rfl, hc13, h⟩ := zI hc13 h
    ·refine zM R4 ?_;obtain ⟨c16, hc16⟩ := zY ((runeAt s pos) ≤ 122);refine zV R3 (Val.leqK hc16 rfl rfl) (zP R6 (zA R4 (zN ?_)));subst hc16;cases h;exact ⟨rfl, (), (sb .refl)⟩
    refine zO R3 (zO R3 (zP R6 (zA R4 (zN ?_))));cases h;exact ⟨rfl, (), (sb .refl)⟩
   ·rintro x11 _ h;obtain ⟨rfl, h⟩ | ⟨rfl, h⟩ := zZ h
    ·refine zC rfl (zK ?_);cases h;exact ⟨rfl, (), (sb .refl)⟩
    refine zD rfl ?_
    show T _ _ _ _ _ _;apply T.joinA (r := a) (W := Unit) (fun j w => ⟨[], [(0, sv s), (6, .ptr it6 0 0), (18, bv j)], strL it6 s (pos + runeLen s pos) :: C⟩) h
    ·intro j h;refine zT rfl (zM R4 ?_);obtain ⟨c20, hc20⟩ := zY ((pos : Int) > 0);refine zV R3 (Val.gtr hc20 rfl rfl) (zM R4 ?_);obtain ⟨rfl, hc20, h⟩ | ⟨rfl, hc20, h⟩ := zI hc20 h
     ·refine zM R4 ?_;obtain ⟨c23, hc23⟩ := zY ((runeAt s pos) ≥ 48);refine zV R3 (Val.geqK hc23 rfl rfl) (zM R4 ?_);obtain ⟨rfl, hc23, h⟩ | ⟨rfl, hc23, h⟩ := zI hc23 h
      ·refine zM R4 ?_;obtain ⟨c26, hc26⟩ := zY ((runeAt s pos) ≤ 57);refine zV R3 (Val.leqK hc26 rfl rfl) (zP R6 (zM R4 ?_));obtain ⟨rfl, hc26, h⟩ | ⟨rfl, hc26, h⟩ := zI hc26 h
       ·refine zO R3 (zO R3 (zP R6 (zP R6 (zA R4 (zN ?_)))));cases h;exact ⟨rfl, (), (sb .refl)⟩
       refine zM R4 ?_;obtain ⟨c30, hc30⟩ := zY ((runeAt s pos) = 46);refine zV R3 (Val.eqlK hc30 rfl rfl) (zP R6 (zP R6 (zA R4 (zN ?_))));subst hc30;cases h;exact ⟨rfl, (), (sb .refl)⟩
      refine zO R3 (zO R3 (zP R6 (zM R4 (zM R4 ?_))));obtain ⟨c30, hc30⟩ := zY ((runeAt s pos) = 46);refine zV R3 (Val.eqlK hc30 rfl rfl) (zP R6 (zP R6 (zA R4 (zN ?_))));subst hc30;cases h;exact ⟨rfl, (), (sb .refl)⟩
     refine zO R3 (zO R3 (zO R3 (zO R3 (zO R3 (zO R3 (zO R3 (zO R3 (zO R3 (zO R3 (zP R6 (zA R4 (zN ?_))))))))))));cases h;exact ⟨rfl, (), (sb .refl)⟩
    ·rintro x18 _ h;obtain ⟨rfl, h⟩ | ⟨rfl, h⟩ := zZ h
     ·refine zC rfl (zK ?_);cases h;exact ⟨rfl, (), (sb .refl)⟩
     refine zD rfl (zU rfl (zA R4 (zN (zR ?_))));cases h;exact ⟨ret_ne, ⟨ret_ne, ⟨rfl, _, rfl, ⟨(), rfl, (pk [98] rfl)⟩⟩⟩⟩
  refine TO.eff rfl rfl rfl (Eff.next_end (p := 0) rfl rfl hc7) ?_;rintro _ _ ⟨rfl, rfl⟩;refine zG (_::C) rfl (zX R5 (zN (zS (zD rfl (zE ?_)))));cases h;exact ⟨ex_ne, ⟨rfl, (), (sb (pk [98] rfl))⟩⟩
 ·rintro _ _ h
  show T _ _ _ _ _ _;apply T.joinA (r := r) (W := Unit) (fun j w => ⟨[], [(2, bv j)], C⟩) h
  ·intro j h;refine zT rfl (zM R4 ?_);obtain ⟨c34, hc34⟩ := zY (¬ s = ([] : Str));refine zV R3 (Val.neq_str hc34 rfl rfl) (zM R4 ?_);obtain ⟨rfl, hc34, h⟩ | ⟨rfl, hc34, h⟩ := zI hc34 h
   ·refine zM R4 (zV R3 (Val.len_str rfl rfl) ?_);obtain ⟨c38, hc38⟩ := zY ((s.length : Int) ≤ 16);refine zV R3 (Val.leq hc38 rfl rfl) (zP R6 (zA R4 (zN ?_)));subst hc38;cases h;exact ⟨rfl, (), (sb .refl)⟩
   refine zO R3 (zO R3 (zO R3 (zP R6 (zA R4 (zN ?_)))));cases h;exact ⟨rfl, (), (sb .refl)⟩
  ·rintro x2 _ h;refine zR ?_;cases h;exact ⟨rfl, _, rfl, ⟨(), rfl, .refl⟩⟩
set_option maxRecDepth 10000 in
theorem tf_s9_out {k : Nat} (hk : 0 ≤ k) {C : List Thing} {lo : Int} {hi : Int} {v_numbers : AV} {numbers : List Int} (h_numbers : Rdl C encI v_numbers numbers) {r : Bool} (h : P_s9_out lo hi numbers = some r) :
  TF (EL k) 62 [iv (lo), iv (hi), v_numbers] C (RepF (fun (w : Unit) => bv r) (fun (w : Unit) => C)) := by
 unfold P_s9_out at h;refine TF.enter (fn := Go.Proofs.Tryz.f62) rfl rfl rfl rfl rfl (zU rfl (zQ 1 [_] R7 (fun b3=>zQ 1 [_] R7 (fun b4=>zA R4 (zN (zU rfl (zM R4 (zV R3 (Val.makeFunc rfl rfl) (TO.callIn rfl rfl rfl rfl rfl rfl (orcN rfl) (TF.enter (fn := Go.Proofs.Tryz.f116) rfl rfl rfl rfl rfl (zU rfl (zA R4 (zN (zU rfl (zM R4 (zM R4 ?_))))))))))))))));refine TO.callJ (W := Unit) (fun (j : Int) (w : Unit) => iv (j)) (fun (j : Int) (w : Unit) => .row b4 1 [iv (hi)] :: .row b3 1 [iv (lo)] :: C) h rfl rfl rfl rfl rfl rfl (orcN rfl) ?_ ?_
 ·intro j h;refine TF.enter (fn := Go.Proofs.Tryz.f141) rfl rfl rfl rfl rfl (zU rfl (zA R4 (zN ?_)))
  show T _ _ _ _ _ _;apply T.join (r := j) (W := Unit) (fun j w => ⟨[], [], .row b4 1 [iv (hi)] :: .row b3 1 [iv (lo)] :: C⟩) h
  ·intro j h;refine zU rfl (zM R4 (zV R3 (Val.len_l h_numbers M2 rfl rfl) (zM R4 (zN (zB ?_)))))
   show T _ _ _ _ _ _;apply T.iter (r := j) (W := Unit) (fun j w => ⟨[], [(0, v_numbers), (1, .func 117 [] [.ptr b3 0 1, .ptr b4 0 1]), (7, iv ((numbers.length : Int))), (8, iv (j))], .row b4 1 [iv (hi)] :: .row b3 1 [iv (lo)] :: C⟩) (w0 := ()) h
   ·exact (sb .refl)
   rintro x8 _ a h;unfold P_s9_out_L1 at h;refine zU rfl ?_;obtain ⟨c9, hc9⟩ := zY (x8 < (numbers.length : Int));refine zV R3 (Val.lss hc9 rfl rfl) (zN (zS ?_));obtain ⟨rfl, hc9, h⟩ | ⟨rfl, hc9, h⟩ := zI hc9 h
   ·refine zC rfl (zK (zS (zB (zU rfl (zM R4 (zA R4 (zN (zU rfl (zM R4 (zM R4 (zM R4 ?_)))))))))));obtain ⟨a14, hia14, ea14, h⟩ := el_some h;refine TO.fact (rdl_at h_numbers M2 hia14 ea14) (fun hp=>?_);obtain ⟨pa14, hpa14, hva14⟩ := hp;refine zV R3 (hva14 ⟨rfl, rfl⟩ rfl rfl) (zV R3 (Val.load_e hpa14 M2 ⟨_, rfl, rfl⟩ rfl rfl) (TO.callIn rfl rfl rfl rfl rfl rfl (orcN rfl) (TF.enter (fn := Go.Proofs.Tryz.f117) rfl rfl rfl rfl rfl (zU rfl (zA R4 (zN ?_))))))
    show T _ _ _ _ _ _;apply T.joinA (r := a) (W := Unit) (fun j w => ⟨[], [(4, bv j)], .row b4 1 [iv (hi)] :: .row b3 1 [iv (lo)] :: C⟩) h
    ·intro j h;refine zT rfl (zM R4 (zL 1 R3 R6 ?_));obtain ⟨c7, hc7⟩ := zY (a14 < lo);refine zV R3 (Val.lss hc7 rfl rfl) (zM R4 ?_);obtain ⟨rfl, hc7, h⟩ | ⟨rfl, hc7, h⟩ := zI hc7 h
     ·refine zO R3 (zO R3 (zO R3 (zP R6 (zA R4 (zN ?_)))));cases h;exact ⟨rfl, (), (sb .refl)⟩
     refine zM R4 (zL 0 R3 R6 ?_);obtain ⟨c11, hc11⟩ := zY (a14 > hi);refine zV R3 (Val.gtr hc11 rfl rfl) (zP R6 (zA R4 (zN ?_)));subst hc11;cases h;exact ⟨rfl, (), (sb .refl)⟩
    ·rintro x4 _ h;refine zR ?_;refine ⟨rfl, _, rfl, ?_⟩;refine zN ?_;obtain ⟨rfl, h⟩ | ⟨rfl, h⟩ := zZ h
     ·refine zC rfl (zU rfl (zM R4 (zA R4 (zN (zR ?_)))));cases h;exact ⟨ret_ne, ⟨ret_ne, ⟨rfl, _, rfl, ⟨(), rfl, .refl⟩⟩⟩⟩
     refine zD rfl (zK (zT rfl ?_));obtain ⟨hk18, h⟩ := chk_some h;refine zV R3 (Val.add rfl rfl hk18) (zM R4 (zN ?_));cases h;exact ⟨rfl, (), (sb .refl)⟩
   refine zD rfl (zE ?_);cases h;exact ⟨ex_ne, ⟨rfl, (), (sb .refl)⟩⟩
  ·rintro _ _ h;refine zU rfl (zA R4 (zN (zR ?_)));cases h;exact ⟨rfl, _, rfl, ⟨(), rfl, .refl⟩⟩
 ·rintro y7 _ h;refine zG (_::_::C) rfl ?_;obtain ⟨c8, hc8⟩ := zY (y7 ≥ 0);refine zV R3 (Val.geq hc8 rfl rfl) (zA R4 (zN (zR ?_)));refine ⟨rfl, _, rfl, ?_⟩;refine zA R4 (zN (zR ?_));subst hc8;cases h;exact ⟨rfl, _, rfl, ⟨(), rfl, (pk [98,98] rfl)⟩⟩
set_option maxRecDepth 10000 in
theorem tf_s9_mark {k : Nat} (hk : 0 ≤ k) {C : List Thing} {v_r_SfRoom_Classes : AV} {r_SfRoom_Classes : List Str} {v_r_SfRoom_Shelves : AV} {r_SfRoom_Shelves : List qH} {v_r_SfRoom_Books : AV} {r_SfRoom_Books : List qA} {m_Class : Int} {m_Number : Int} {m_Suffix : Str} (h_r_SfRoom_Classes : Rdl C encStr v_r_SfRoom_Classes r_SfRoom_Classes) (h_r_SfRoom_Shelves : Rdl C qW v_r_SfRoom_Shelves r_SfRoom_Shelves) (h_r_SfRoom_Books : Rdl C qP v_r_SfRoom_Books r_SfRoom_Books) {r : Int} (h : P_s9_mark r_SfRoom_Classes r_SfRoom_Shelves r_SfRoom_Books m_Class m_Number m_Suffix = some r) :
  TF (EL k) 78 [.agg [v_r_SfRoom_Classes, v_r_SfRoom_Shelves, v_r_SfRoom_Books], .agg [iv (m_Class), iv (m_Number), sv m_Suffix]] C (RepF (fun (w : Unit) => iv r) (fun (w : Unit) => C)) := by
 unfold P_s9_mark at h;refine TF.enter (fn := Go.Proofs.Tryz.f78) rfl rfl rfl rfl rfl (zU rfl (zQ 3 [_,_,_] R7 (fun b2=>zQ 3 [_,_,_] R7 (fun b3=>zA R4 (zN (zS (zB (zU rfl (zF 0 R6 (zF 0 R6 (zL 1 R3 R6 (zV R3 (Val.len_l h_r_SfRoom_Classes M2 rfl rfl) ?_))))))))))));obtain ⟨hk12, h⟩ := chk_some h;refine zV R3 (Val.sub rfl rfl hk12) (zF 0 R6 (zL 0 R3 R6 (TO.build1 (en := encI) (a := m_Class) rfl rfl rfl ⟨rfl, rfl⟩ ⟨_, rfl, rfl⟩ (by decide) (by decide) rfl rfl (fun v15=>?_))));obtain ⟨y16, hr16, h⟩ := andx_some h;refine TO.callT (first := []) (cap := []) (vs := [iv (0), iv (((r_SfRoom_Classes.length : Int) - 1)), v15]) rfl rfl rfl rfl rfl rfl (orcN rfl) (tf_s9_out aD (Rdl.mono (Rdl.own (C := ownL false v15 encI [m_Class] :: .row b3 3 [iv (m_Class), iv (m_Number), sv m_Suffix] :: .row b2 3 [v_r_SfRoom_Classes, v_r_SfRoom_Shelves, v_r_SfRoom_Books] :: C) (p := 0) rfl) mem0) hr16) ?_;rintro _;refine zG (_::_::_::C) rfl (zA R4 (zN ?_));obtain ⟨rfl, h⟩ | ⟨rfl, h⟩ := zZ h
 ·refine zC rfl (zU rfl (zA R4 (zN (zR ?_))));cases h;exact ⟨rfl, _, rfl, ⟨(), rfl, (pk [98,98,98] rfl)⟩⟩
 refine zD rfl (zU rfl (zF 1 R6 (zL 1 R3 R6 (TO.build1 (en := encI) (a := m_Number) rfl rfl rfl ⟨rfl, rfl⟩ ⟨_, rfl, rfl⟩ (by decide) (by decide) rfl rfl (fun v20=>?_)))));obtain ⟨y21, hr21, h⟩ := andx_some h;refine TO.callT (first := []) (cap := []) (vs := [iv (1), iv (9999), v20]) rfl rfl rfl rfl rfl rfl (orcN rfl) (tf_s9_out aD (Rdl.mono (Rdl.own (C := ownL false v20 encI [m_Number] :: ownL false v15 encI [m_Class] :: .row b3 3 [iv (m_Class), iv (m_Number), sv m_Suffix] :: .row b2 3 [v_r_SfRoom_Classes, v_r_SfRoom_Shelves, v_r_SfRoom_Books] :: C) (p := 0) rfl) mem0) hr21) ?_;rintro _;refine zG (_::_::_::_::C) rfl (zA R4 (zN ?_));obtain ⟨rfl, h⟩ | ⟨rfl, h⟩ := zZ h
 ·refine zC rfl (zU rfl (zA R4 (zN (zR ?_))));cases h;exact ⟨rfl, _, rfl, ⟨(), rfl, (pk [98,98,98,98] rfl)⟩⟩
 refine zD rfl (zU rfl (zF 2 R6 (zL 2 R3 R6 (zV R3 (Val.len_str rfl rfl) ?_))));obtain ⟨c26, hc26⟩ := zY ((m_Suffix.length : Int) > 2);refine zV R3 (Val.gtr hc26 rfl rfl) (zA R4 (zN ?_));obtain ⟨rfl, hc26, h⟩ | ⟨rfl, hc26, h⟩ := zI hc26 h
 ·refine zC rfl (zU rfl (zA R4 (zN (zR ?_))));cases h;exact ⟨rfl, _, rfl, ⟨(), rfl, (pk [98,98,98,98] rfl)⟩⟩
 refine zD rfl (zK ?_)
 show T _ _ _ _ _ _;apply T.join (r := r) (W := Unit) (fun j w => ⟨[], [], C⟩) h
 ·intro j h;refine zU rfl (zF 2 R6 (zL 2 R3 R6 (TO.eff rfl rfl rfl (Eff.range_str rfl rfl) ?_)));rintro _ _ ⟨it29, rfl, rfl⟩;refine zN (zB ?_)
  show T _ _ _ _ _ _;apply T.iter (r := j) (W := Unit) (fun j w => ⟨[], [(29, .ptr it29 0 0)], strL it29 m_Suffix j :: C⟩) (w0 := ()) h
  ·exact (sb (pk [0,98,98,98,98] rfl))
  rintro pos _ a h;unfold P_s9_mark_L1 at h;refine zU rfl ?_;obtain ⟨c30, hc30⟩ := zY (pos < m_Suffix.length);obtain ⟨rfl, hc30, h⟩ | ⟨rfl, hc30, h⟩ := zI hc30 h
  ·refine TO.eff rfl rfl rfl (Eff.next_str (p := 0) rfl rfl hc30) ?_;rintro _ _ ⟨rfl, rfl⟩;refine zG (_::C) rfl (zX R5 (zN (zS (zC rfl (zK (zB (zU rfl (zX R5 (zA R4 (zN ?_))))))))))
   show T _ _ _ _ _ _;apply T.joinA (r := a) (W := Unit) (fun j w => ⟨[], [(29, .ptr it29 0 0), (38, bv j)], strL it29 m_Suffix (pos + runeLen m_Suffix pos) :: C⟩) h
   ·intro j h;refine zT rfl (zM R4 ?_);obtain ⟨c34, hc34⟩ := zY ((runeAt m_Suffix pos) < 97);refine zV R3 (Val.lssK hc34 rfl rfl) (zM R4 ?_);obtain ⟨rfl, hc34, h⟩ | ⟨rfl, hc34, h⟩ := zI hc34 h
    ·refine zO R3 (zO R3 (zP R6 (zN ?_)));cases h;exact ⟨rfl, (), (sb .refl)⟩
    refine zM R4 ?_;obtain ⟨c37, hc37⟩ := zY ((runeAt m_Suffix pos) > 122);refine zV R3 (Val.gtrK hc37 rfl rfl) (zP R6 (zN ?_));subst hc37;cases h;exact ⟨rfl, (), (sb .refl)⟩
   ·rintro x38 _ h;obtain ⟨rfl, h⟩ | ⟨rfl, h⟩ := zZ h
    ·refine zC rfl (zU rfl (zA R4 (zN (zR ?_))));cases h;exact ⟨ret_ne, ⟨ret_ne, ⟨rfl, _, rfl, ⟨(), rfl, (pk [98] rfl)⟩⟩⟩⟩
    refine zD rfl (zK ?_);cases h;exact ⟨rfl, (), (sb .refl)⟩
  refine TO.eff rfl rfl rfl (Eff.next_end (p := 0) rfl rfl hc30) ?_;rintro _ _ ⟨rfl, rfl⟩;refine zG (_::C) rfl (zX R5 (zN (zS (zD rfl (zE ?_)))));cases h;exact ⟨ex_ne, ⟨rfl, (), (sb (pk [98] rfl))⟩⟩
 ·rintro _ _ h;refine zU rfl (zA R4 (zN (zR ?_)));cases h;exact ⟨rfl, _, rfl, ⟨(), rfl, .refl⟩⟩
set_option maxRecDepth 10000 in
theorem tf_s9_book {k : Nat} (hk : 0 ≤ k) {C : List Thing} {v_r_SfRoom_Classes : AV} {r_SfRoom_Classes : List Str} {v_r_SfRoom_Shelves : AV} {r_SfRoom_Shelves : List qH} {v_r_SfRoom_Books : AV} {r_SfRoom_Books : List qA} {qK : Int} {qL : Int} {qM : Str} {qJ : Int} {qI : Int} {qN : Int} {qO : Int} {v_others : AV} {others : List qA} (h_r_SfRoom_Classes : Rdl C encStr v_r_SfRoom_Classes r_SfRoom_Classes) (h_r_SfRoom_Shelves : Rdl C qW v_r_SfRoom_Shelves r_SfRoom_Shelves) (h_r_SfRoom_Books : Rdl C qP v_r_SfRoom_Books r_SfRoom_Books) (h_others : Rdl C qP v_others others) {r : Int} (h : P_s9_book r_SfRoom_Classes r_SfRoom_Shelves r_SfRoom_Books qK qL qM qJ qI qN qO others = some r) :
  TF (EL k) 71 [.agg [v_r_SfRoom_Classes, v_r_SfRoom_Shelves, v_r_SfRoom_Books], .agg [iv (qK), iv (qL), sv qM, iv (qJ), iv (qI), iv (qN), iv (qO)], v_others] C (RepF (fun (w : Unit) => iv r) (fun (w : Unit) => C)) := by
 unfold P_s9_book at h;refine TF.enter (fn := Go.Proofs.Tryz.f71) rfl rfl rfl rfl rfl (zU rfl (zQ 3 [_,_,_] R7 (fun b3=>zQ 7 [_,_,_,_,_,_,_] R7 (fun b4=>zA R4 (zN (zS (zU rfl (zV R3 (vW 1 [_,_,_] R5 R4) (zF 0 R6 (zV R3 (vW 0 [_,_,_] R5 R4) ?_))))))))));obtain ⟨y11, hr11, h⟩ := andx_some h;refine TO.callT (first := []) (cap := []) (vs := [.agg [v_r_SfRoom_Classes, v_r_SfRoom_Shelves, v_r_SfRoom_Books], .agg [iv (qK), iv (qL), sv qM]]) rfl rfl rfl rfl rfl rfl (orcN rfl) (tf_s9_mark aD (Rdl.mono h_r_SfRoom_Classes M2) (Rdl.mono h_r_SfRoom_Shelves M2) (Rdl.mono h_r_SfRoom_Books M2) hr11) ?_;rintro _;refine zG (_::_::C) rfl (zA R4 (zN (zU rfl (zM R4 ?_))));obtain ⟨c13, hc13⟩ := zY (¬ y11 = 0);refine zV R3 (Val.neq hc13 rfl rfl) (zN ?_);obtain ⟨rfl, hc13, h⟩ | ⟨rfl, hc13, h⟩ := zI hc13 h
 ·refine zC rfl (zU rfl (zM R4 (zA R4 (zN (zR ?_)))));cases h;exact ⟨rfl, _, rfl, ⟨(), rfl, (pk [98,98] rfl)⟩⟩
 refine zD rfl (zK ?_)
 show T _ _ _ _ _ _;apply T.join (r := r) (W := Unit) (fun j w => ⟨[], [], .row b4 7 [iv (qK), iv (qL), sv qM, iv (qJ), iv (qI), iv (qN), iv (qO)] :: C⟩) h
 ·intro j h;refine zB ?_
  show T _ _ _ _ _ _;apply T.joinA (r := j) (W := Unit) (fun j w => ⟨[], [(2, v_others), (4, .ptr b4 0 7), (15, bv j)], .row b4 7 [iv (qK), iv (qL), sv qM, iv (qJ), iv (qI), iv (qN), iv (qO)] :: .row b3 3 [v_r_SfRoom_Classes, v_r_SfRoom_Shelves, v_r_SfRoom_Books] :: C⟩) h
  ·intro j h;refine zT rfl (zF 3 R6 (zL 0 R3 R6 (zF 4 R6 (zL 0 R3 R6 (TO.eff rfl rfl rfl (Eff.new (New.buildSlice (en := encI) (l := [qJ, qI]) (vs := [(_, _), (_, _)]) (ws := [(_, [_]), (_, [_])]) ⟨rfl, rfl⟩ rfl rfl rfl rfl (CellsL.cons rfl (CellsL.cons rfl CellsL.nil)) rfl rfl)) ?_)))));rintro _ _ ⟨v20, rfl, rfl⟩;refine TO.less (Less.rowOwn (en := encI) (l := [qJ, qI]) (p := 0) rfl) (zG (_::_::_::C) rfl ?_);obtain ⟨y21, hr21, h⟩ := andx_some h;refine TO.callT (first := []) (cap := []) (vs := [iv (1), iv (2000), (.slice v20 0 (List.flatMap encI.f [qJ, qI]).length true (List.length [qJ, qI]) (List.length [qJ, qI]))]) rfl rfl rfl rfl rfl rfl (orcN rfl) (tf_s9_out aD (Rdl.mono (Rdl.own (C := ownL false (.slice v20 0 (List.flatMap encI.f [qJ, qI]).length true (List.length [qJ, qI]) (List.length [qJ, qI])) encI [qJ, qI] :: .row b4 7 [iv (qK), iv (qL), sv qM, iv (qJ), iv (qI), iv (qN), iv (qO)] :: .row b3 3 [v_r_SfRoom_Classes, v_r_SfRoom_Shelves, v_r_SfRoom_Books] :: C) (p := 0) rfl) mem0) hr21) ?_;rintro _;refine zG (_::_::_::C) rfl (zM R4 ?_);obtain ⟨rfl, h⟩ | ⟨rfl, h⟩ := zZ h
   ·refine zO R3 (zO R3 (zO R3 (zO R3 (zP R6 (zA R4 (zN ?_))))));cases h;exact ⟨rfl, (), (sb (pk [1,1,98] rfl))⟩
   refine zF 5 R6 (zL 1 R3 R6 (TO.build1 (en := encI) (a := qN) rfl rfl rfl ⟨rfl, rfl⟩ ⟨_, rfl, rfl⟩ (by decide) (by decide) rfl rfl (fun v25=>?_)));obtain ⟨y26, hr26, h⟩ := andx_some h;refine TO.callT (first := []) (cap := []) (vs := [iv (1), iv (100), v25]) rfl rfl rfl rfl rfl rfl (orcN rfl) (tf_s9_out aD (Rdl.mono (Rdl.own (C := ownL false v25 encI [qN] :: ownL false (.slice v20 0 (List.flatMap encI.f [qJ, qI]).length true (List.length [qJ, qI]) (List.length [qJ, qI])) encI [qJ, qI] :: .row b4 7 [iv (qK), iv (qL), sv qM, iv (qJ), iv (qI), iv (qN), iv (qO)] :: .row b3 3 [v_r_SfRoom_Classes, v_r_SfRoom_Shelves, v_r_SfRoom_Books] :: C) (p := 0) rfl) mem0) hr26) ?_;rintro _;refine zG (_::_::_::_::C) rfl (zP R6 (zA R4 (zN ?_)));cases h;exact ⟨rfl, (), (sb (pk [2,2,98,98] rfl))⟩
  ·rintro x15 _ h;obtain ⟨rfl, h⟩ | ⟨rfl, h⟩ := zZ h
   ·refine zC rfl (zU rfl (zA R4 (zN (zR ?_))));cases h;exact ⟨ret_ne, ⟨rfl, _, rfl, ⟨(), rfl, (pk [98,98] rfl)⟩⟩⟩
   refine zD rfl (zU rfl (zM R4 (zV R3 (Val.makeFunc rfl rfl) (TO.callIn rfl rfl rfl rfl rfl rfl (orcN rfl) (TF.enter (fn := Go.Proofs.Tryz.f118) rfl rfl rfl rfl rfl (zU rfl (zA R4 (zN (zU rfl (zM R4 (zM R4 ?_)))))))))));refine TO.callJ (W := Unit) (fun (j : Int) (w : Unit) => iv (j)) (fun (j : Int) (w : Unit) => .row b4 7 [iv (qK), iv (qL), sv qM, iv (qJ), iv (qI), iv (qN), iv (qO)] :: C) h rfl rfl rfl rfl rfl rfl (orcN rfl) ?_ ?_
   ·intro j h;refine TF.enter (fn := Go.Proofs.Tryz.f142) rfl rfl rfl rfl rfl (zU rfl (zA R4 (zN ?_)))
    show T _ _ _ _ _ _;apply T.join (r := j) (W := Unit) (fun j w => ⟨[], [], .row b4 7 [iv (qK), iv (qL), sv qM, iv (qJ), iv (qI), iv (qN), iv (qO)] :: C⟩) h
    ·intro j h;refine zU rfl (zM R4 (zV R3 (Val.len_l h_others M2 rfl rfl) (zM R4 (zN (zB ?_)))))
     show T _ _ _ _ _ _;apply T.iter (r := j) (W := Unit) (fun j w => ⟨[], [(0, v_others), (1, .func 119 [] [.ptr b4 0 7]), (7, iv ((others.length : Int))), (8, iv (j))], .row b4 7 [iv (qK), iv (qL), sv qM, iv (qJ), iv (qI), iv (qN), iv (qO)] :: C⟩) (w0 := ()) h
     ·exact (sb (pk [0,98] rfl))
     rintro x8 _ a h;unfold P_s9_book_L1 at h;refine zU rfl ?_;obtain ⟨c9, hc9⟩ := zY (x8 < (others.length : Int));refine zV R3 (Val.lss hc9 rfl rfl) (zN (zS ?_));obtain ⟨rfl, hc9, h⟩ | ⟨rfl, hc9, h⟩ := zI hc9 h
     ·refine zC rfl (zK (zS (zB (zU rfl (zM R4 (zA R4 (zN (zU rfl (zM R4 (zM R4 (zM R4 ?_)))))))))));obtain ⟨a14, hia14, ea14, h⟩ := el_some h;refine TO.fact (rdl_at h_others M1 hia14 ea14) (fun hp=>?_);obtain ⟨pa14, hpa14, hva14⟩ := hp;refine zV R3 (hva14 ⟨rfl, rfl⟩ rfl rfl) (zV R3 (Val.load_es (c := [_, _, _, _, _, _, _]) hpa14 M1 ⟨⟨_, rfl, rfl⟩, rfl, by decide⟩ rfl rfl rfl) (TO.callIn rfl rfl rfl rfl rfl rfl (orcN rfl) (TF.enter (fn := Go.Proofs.Tryz.f119) rfl rfl rfl rfl rfl (zU rfl (zQ 7 [_,_,_,_,_,_,_] R7 (fun b2=>zA R4 (zN (zU rfl (zF 0 R6 (zV R3 (vW 0 [_,_,_] R5 R4) (zF 0 R6 (zV R3 (vW 1 [_,_,_] R5 R4) ?_))))))))))));obtain ⟨c8, hc8⟩ := zY (a14.qR = qK ∧ a14.qS = qL ∧ a14.qQ = qM);refine zV R3 (Val.binD hc8 rfl rfl (eql_ty28 _ _ _ _ _ _ _ _)) (zA R4 (zN (zR ?_)));refine ⟨rfl, _, rfl, ?_⟩;refine zN ?_;obtain ⟨rfl, hc8, h⟩ | ⟨rfl, hc8, h⟩ := zI hc8 h
      ·refine zC rfl (zU rfl (zM R4 (zA R4 (zN (zR ?_)))));cases h;exact ⟨ret_ne, ⟨ret_ne, ⟨rfl, _, rfl, ⟨(), rfl, (pk [1,98] rfl)⟩⟩⟩⟩
      refine zD rfl (zK (zT rfl ?_));obtain ⟨hk18, h⟩ := chk_some h;refine zV R3 (Val.add rfl rfl hk18) (zM R4 (zN ?_));cases h;exact ⟨rfl, (), (sb (pk [1,98] rfl))⟩
     refine zD rfl (zE ?_);cases h;exact ⟨ex_ne, ⟨rfl, (), (sb .refl)⟩⟩
    ·rintro _ _ h;refine zU rfl (zA R4 (zN (zR ?_)));cases h;exact ⟨rfl, _, rfl, ⟨(), rfl, .refl⟩⟩
   ·rintro y7 _ h;refine zG (_::C) rfl ?_;obtain ⟨c8, hc8⟩ := zY (y7 ≥ 0);refine zV R3 (Val.geq hc8 rfl rfl) (zA R4 (zN (zR ?_)));refine ⟨rfl, _, rfl, ?_⟩;refine zA R4 (zN ?_);obtain ⟨rfl, hc8, h⟩ | ⟨rfl, hc8, h⟩ := zI hc8 h
    ·refine zC rfl (zU rfl (zA R4 (zN (zR ?_))));cases h;exact ⟨ret_ne, ⟨rfl, _, rfl, ⟨(), rfl, (pk [98] rfl)⟩⟩⟩
    refine zD rfl (zK ?_);cases h;exact ⟨rfl, (), (sb .refl)⟩
 ·rintro _ _ h;refine zU rfl (zA R4 (zN (zR ?_)));cases h;exact ⟨rfl, _, rfl, ⟨(), rfl, (pk [98] rfl)⟩⟩
set_option maxRecDepth 10000 in
theorem tf_s9_Check {k : Nat} (hk : 0 ≤ k) {C : List Thing} {qF : AV} {qG : List Str} {qD : AV} {qC : List qH} {qE : AV} {qB : List qA} (qAa : RdT encStr qF qG) (qAb : RdT qW qD qC) (qZ : RdT qP qE qB) {r : Int × Int × Int} (h : P_s9_Check qG qC qB = some r) :
  TF (EL k) 16 [.agg [qF, qD, qE]] C (RepF (fun (w : Unit) => .tuple [iv r.1, iv r.2.1, iv r.2.2]) (fun (w : Unit) => C)) := by
 unfold P_s9_Check at h
 have qV : Rdl C encStr qF qG := RdT.rdl qAa
 have qU : Rdl C qW qD qC := RdT.rdl qAb
 have qT : Rdl C qP qE qB := RdT.rdl qZ;refine TF.enter (fn := Go.Proofs.Tryz.f16) rfl rfl rfl rfl rfl (zU rfl (zQ 3 [_,_,_] R7 (fun b1=>zA R4 (zA R4 (zA R4 (zN (zS (zU rfl (zF 0 R6 (zL 0 R3 R6 (zV R3 (Val.len_l qV M1 rfl rfl) (TO.build1 (en := encI) (a := (qG.length : Int)) rfl rfl rfl ⟨rfl, rfl⟩ ⟨_, rfl, rfl⟩ (by decide) (by decide) rfl rfl (fun v8=>?_)))))))))))));obtain ⟨y9, hr9, h⟩ := andx_some h;refine TO.callT (first := []) (cap := []) (vs := [iv (1), iv (6), v8]) rfl rfl rfl rfl rfl rfl (orcN rfl) (tf_s9_out aD (Rdl.mono (Rdl.own (C := ownL false v8 encI [(qG.length : Int)] :: .row b1 3 [qF, qD, qE] :: C) (p := 0) rfl) mem0) hr9) ?_;rintro _;refine zG (_::_::C) rfl (zN ?_);obtain ⟨rfl, h⟩ | ⟨rfl, h⟩ := zZ h
 ·refine zC rfl (zU rfl (zA R4 (zA R4 (zA R4 (zN (zR ?_))))));cases h;exact ⟨rfl, _, rfl, ⟨(), rfl, (pk [98,98] rfl)⟩⟩
 refine zD rfl (zK (zU rfl (zF 0 R6 (zL 1 R3 R6 (zV R3 (Val.makeFunc rfl rfl) ?_)))));refine TO.callJ (W := Unit) (fun (j : Int × Int) (w : Unit) => .tuple [iv (j.1), iv (j.2)]) (fun (j : Int × Int) (w : Unit) => ownL false v8 encI [(qG.length : Int)] :: .row b1 3 [qF, qD, qE] :: C) h rfl rfl rfl rfl rfl rfl (orcN rfl) ?_ ?_
 ·intro j h;refine TF.enter (fn := Go.Proofs.Tryz.f63) rfl rfl rfl rfl rfl (zU rfl (zA R4 (zA R4 (zN ?_))))
  show T _ _ _ _ _ _;apply T.join (r := j) (W := Unit) (fun j w => ⟨[], [], ownL false v8 encI [(qG.length : Int)] :: .row b1 3 [qF, qD, qE] :: C⟩) h
  ·intro j h;refine zU rfl (zM R4 (zV R3 (Val.len_l qV M2 rfl rfl) (zM R4 (zN (zB ?_)))))
   show T _ _ _ _ _ _;apply T.iter (r := j) (W := Unit) (fun j w => ⟨[], [(1, .func 64 [] [.ptr b1 0 3]), (9, qF), (10, iv ((qG.length : Int))), (11, iv (j))], ownL false v8 encI [(qG.length : Int)] :: .row b1 3 [qF, qD, qE] :: C⟩) (w0 := ()) h
   ·exact (sb .refl)
   rintro x11 _ a h;unfold P_s9_Check_L1 at h;refine zU rfl ?_;obtain ⟨c12, hc12⟩ := zY (x11 < (qG.length : Int));refine zV R3 (Val.lss hc12 rfl rfl) (zN (zS ?_));obtain ⟨rfl, hc12, h⟩ | ⟨rfl, hc12, h⟩ := zI hc12 h
   ·refine zC rfl (zK (zS (zB (zU rfl (zM R4 ?_)))));obtain ⟨a14, hia14, ea14, h⟩ := el_some h;refine TO.fact (rdl_at qV M2 hia14 ea14) (fun hp=>?_);obtain ⟨pa14, hpa14, hva14⟩ := hp;refine zV R3 (hva14 ⟨rfl, rfl⟩ rfl rfl) (zV R3 (Val.load_e hpa14 M2 ⟨_, rfl, rfl⟩ rfl rfl) (zA R4 (zA R4 (zN (zU rfl (zM R4 (zM R4 (zM R4 ?_))))))));refine TO.callJ (W := Unit) (fun (j : Int) (w : Unit) => iv (j)) (fun (j : Int) (w : Unit) => ownL false v8 encI [(qG.length : Int)] :: .row b1 3 [qF, qD, qE] :: C) h rfl rfl rfl rfl rfl rfl (orcN rfl) ?_ ?_
    ·intro j h;refine TF.enter (fn := Go.Proofs.Tryz.f64) rfl rfl rfl rfl rfl (zU rfl (zA R4 (zN (zS (zB (zU rfl (zM R4 ?_)))))));obtain ⟨y8, hr8, h⟩ := andx_some h;refine TO.callT (first := []) (cap := []) (vs := [sv a14]) rfl rfl rfl rfl rfl rfl (orcN rfl) (tf_q_Name aD hr8) ?_;rintro _;refine zG (_::_::C) rfl (zV R3 (Val.not rfl) (zA R4 (zN ?_)));obtain ⟨rfl, h⟩ | ⟨rfl, h⟩ := zZ h
     ·refine zD rfl (zU rfl (zF 0 R6 (zL 1 R3 R6 (zM R4 ?_))));obtain ⟨hk14, h⟩ := chk_some h;obtain ⟨w14, htw14, hgw14, hvw14⟩ := slice_T qAa hk14
      have hw14 : Rdl C encStr w14 (List.take (x11 - (0 : Int)).toNat (List.drop ((0 : Int) : Int).toNat qG)) := RdT.rdl htw14;refine zV R3 (hvw14 ⟨rfl, rfl⟩ rfl .no (.some rfl)) (zM R4 (TO.callIn rfl rfl rfl rfl rfl rfl (orcN rfl) (TF.enter (fn := Go.Proofs.Tryz.f66) rfl rfl rfl rfl rfl (zU rfl (zA R4 (zN (zU rfl (zM R4 (zM R4 ?_)))))))));refine TO.callJ (W := Unit) (fun (j : Int) (w : Unit) => iv (j)) (fun (j : Int) (w : Unit) => ownL false v8 encI [(qG.length : Int)] :: .row b1 3 [qF, qD, qE] :: C) h rfl rfl rfl rfl rfl rfl (orcN rfl) ?_ ?_
      ·intro j h;refine TF.enter (fn := Go.Proofs.Tryz.f86) rfl rfl rfl rfl rfl (zU rfl (zA R4 (zN ?_)))
       show T _ _ _ _ _ _;apply T.join (r := j) (W := Unit) (fun j w => ⟨[], [], ownL false v8 encI [(qG.length : Int)] :: .row b1 3 [qF, qD, qE] :: C⟩) h
       ·intro j h;refine zU rfl (zM R4 (zV R3 (Val.len_l hw14 M2 rfl rfl) (zM R4 (zN (zB ?_)))))
        show T _ _ _ _ _ _;apply T.iter (r := j) (W := Unit) (fun j w => ⟨[], [(0, w14), (1, sv a14), (7, iv (((List.take (x11 - (0 : Int)).toNat (List.drop ((0 : Int) : Int).toNat qG)).length : Int))), (8, iv (j))], ownL false v8 encI [(qG.length : Int)] :: .row b1 3 [qF, qD, qE] :: C⟩) (w0 := ()) h
        ·exact (sb .refl)
        rintro x8 _ a h;unfold P_s9_Check_L2 at h;refine zU rfl ?_;obtain ⟨c9, hc9⟩ := zY (x8 < ((List.take (x11 - (0 : Int)).toNat (List.drop ((0 : Int) : Int).toNat qG)).length : Int));refine zV R3 (Val.lss hc9 rfl rfl) (zN (zS ?_));obtain ⟨rfl, hc9, h⟩ | ⟨rfl, hc9, h⟩ := zI hc9 h
        ·refine zC rfl (zK (zS (zB (zU rfl (zM R4 (zA R4 (zN (zU rfl (zM R4 (zM R4 (zM R4 ?_)))))))))));obtain ⟨a14_2, hia14_2, ea14_2, h⟩ := el_some h;refine TO.fact (rdl_at hw14 M2 hia14_2 ea14_2) (fun hp=>?_);obtain ⟨pa14_2, hpa14_2, hva14_2⟩ := hp;refine zV R3 (hva14_2 ⟨rfl, rfl⟩ rfl rfl) (zV R3 (Val.load_e hpa14_2 M2 ⟨_, rfl, rfl⟩ rfl rfl) ?_);obtain ⟨c16, hc16⟩ := zY (a14 = a14_2);refine zV R3 (Val.eql_str hc16 rfl rfl) (zN ?_);obtain ⟨rfl, hc16, h⟩ | ⟨rfl, hc16, h⟩ := zI hc16 h
         ·refine zC rfl (zU rfl (zM R4 (zA R4 (zN (zR ?_)))));cases h;exact ⟨ret_ne, ⟨ret_ne, ⟨rfl, _, rfl, ⟨(), rfl, .refl⟩⟩⟩⟩
         refine zD rfl (zK (zT rfl ?_));obtain ⟨hk18, h⟩ := chk_some h;refine zV R3 (Val.add rfl rfl hk18) (zM R4 (zN ?_));cases h;exact ⟨rfl, (), (sb .refl)⟩
        refine zD rfl (zE ?_);cases h;exact ⟨ex_ne, ⟨rfl, (), (sb .refl)⟩⟩
       ·rintro _ _ h;refine zU rfl (zA R4 (zN (zR ?_)));cases h;exact ⟨rfl, _, rfl, ⟨(), rfl, .refl⟩⟩
      ·rintro y7 _ h;refine zG (_::_::C) rfl ?_;obtain ⟨c8, hc8⟩ := zY (y7 ≥ 0);refine zV R3 (Val.geq hc8 rfl rfl) (zA R4 (zN (zR ?_)));refine ⟨rfl, _, rfl, ?_⟩;refine zA R4 (zN ?_);obtain ⟨rfl, hc8, h⟩ | ⟨rfl, hc8, h⟩ := zI hc8 h
       ·refine zC rfl (zU rfl (zA R4 (zN (zR ?_))));cases h;exact ⟨rfl, _, rfl, ⟨(), rfl, .refl⟩⟩
       refine zD rfl (zK (zU rfl (zA R4 (zN (zR ?_)))));cases h;exact ⟨rfl, _, rfl, ⟨(), rfl, .refl⟩⟩
     refine zC rfl (zU rfl (zA R4 (zN (zR ?_))));cases h;exact ⟨rfl, _, rfl, ⟨(), rfl, .refl⟩⟩
    ·rintro y19 _ h;refine zG (_::_::C) rfl (zA R4 (zN (zU rfl (zM R4 ?_))));obtain ⟨c21, hc21⟩ := zY (¬ y19 = 0);refine zV R3 (Val.neq hc21 rfl rfl) (zN ?_);obtain ⟨rfl, hc21, h⟩ | ⟨rfl, hc21, h⟩ := zI hc21 h
     ·refine zC rfl (zU rfl (zM R4 (zM R4 (zA R4 (zA R4 (zN (zR ?_)))))));cases h;exact ⟨ret_ne, ⟨ret_ne, ⟨rfl, _, rfl, ⟨(), rfl, .refl⟩⟩⟩⟩
     refine zD rfl (zK (zT rfl ?_));obtain ⟨hk24, h⟩ := chk_some h;refine zV R3 (Val.add rfl rfl hk24) (zM R4 (zN ?_));cases h;exact ⟨rfl, (), (sb .refl)⟩
   refine zD rfl (zE ?_);cases h;exact ⟨ex_ne, ⟨rfl, (), (sb .refl)⟩⟩
  ·rintro _ _ h;refine zU rfl (zA R4 (zA R4 (zN (zR ?_))));cases h;exact ⟨rfl, _, rfl, ⟨(), rfl, .refl⟩⟩
 ·rintro ⟨y14, y14_2⟩ _ h;dsimp only at h;refine zG (_::_::C) rfl (zM R4 (zX R5 (zX R5 (zA R4 (zA R4 (zN (zS (zB (zU rfl (zM R4 ?_))))))))));obtain ⟨c19, hc19⟩ := zY (¬ y14_2 = 0);refine zV R3 (Val.neq hc19 rfl rfl) (zA R4 (zN ?_));obtain ⟨rfl, hc19, h⟩ | ⟨rfl, hc19, h⟩ := zI hc19 h
  ·refine zC rfl (zU rfl (zM R4 (zM R4 (zA R4 (zA R4 (zA R4 (zN (zR ?_))))))));cases h;exact ⟨rfl, _, rfl, ⟨(), rfl, (pk [98,98] rfl)⟩⟩
  refine zD rfl (zU rfl (zF 1 R6 (zL 1 R3 R6 (zV R3 (Val.len_l qU M2 rfl rfl) (TO.build1 (en := encI) (a := (qC.length : Int)) rfl rfl rfl ⟨rfl, rfl⟩ ⟨_, rfl, rfl⟩ (by decide) (by decide) rfl rfl (fun v26=>?_))))));obtain ⟨y27, hr27, h⟩ := andx_some h;refine TO.callT (first := []) (cap := []) (vs := [iv (1), iv (4), v26]) rfl rfl rfl rfl rfl rfl (orcN rfl) (tf_s9_out aD (Rdl.mono (Rdl.own (C := ownL false v26 encI [(qC.length : Int)] :: ownL false v8 encI [(qG.length : Int)] :: .row b1 3 [qF, qD, qE] :: C) (p := 0) rfl) mem0) hr27) ?_;rintro _;refine zG (_::_::_::C) rfl (zA R4 (zN ?_));obtain ⟨rfl, h⟩ | ⟨rfl, h⟩ := zZ h
  ·refine zC rfl (zU rfl (zA R4 (zA R4 (zA R4 (zN (zR ?_))))));cases h;exact ⟨rfl, _, rfl, ⟨(), rfl, (pk [98,98,98] rfl)⟩⟩
  refine zD rfl (zK (zU rfl (zF 1 R6 (zL 2 R3 R6 ?_))));refine TO.callJ (W := Unit) (fun (j : Int × Int) (w : Unit) => .tuple [iv (j.1), iv (j.2)]) (fun (j : Int × Int) (w : Unit) => ownL false v26 encI [(qC.length : Int)] :: ownL false v8 encI [(qG.length : Int)] :: .row b1 3 [qF, qD, qE] :: C) h rfl rfl rfl rfl rfl rfl (orcN rfl) ?_ ?_
  ·intro j h;refine TF.enter (fn := Go.Proofs.Tryz.f67) rfl rfl rfl rfl rfl (zU rfl (zA R4 (zA R4 (zN ?_))))
   show T _ _ _ _ _ _;apply T.join (r := j) (W := Unit) (fun j w => ⟨[], [], ownL false v26 encI [(qC.length : Int)] :: ownL false v8 encI [(qG.length : Int)] :: .row b1 3 [qF, qD, qE] :: C⟩) h
   ·intro j h;refine zU rfl (zM R4 (zV R3 (Val.len_l qU M3 rfl rfl) (zM R4 (zN (zB ?_)))))
    show T _ _ _ _ _ _;apply T.iter (r := j) (W := Unit) (fun j w => ⟨[], [(1, .func 68 [] []), (9, qD), (10, iv ((qC.length : Int))), (11, iv (j))], ownL false v26 encI [(qC.length : Int)] :: ownL false v8 encI [(qG.length : Int)] :: .row b1 3 [qF, qD, qE] :: C⟩) (w0 := ()) h
    ·exact (sb .refl)
    rintro x11 _ a h;unfold P_s9_Check_L3 at h;refine zU rfl ?_;obtain ⟨c12, hc12⟩ := zY (x11 < (qC.length : Int));refine zV R3 (Val.lss hc12 rfl rfl) (zN (zS ?_));obtain ⟨rfl, hc12, h⟩ | ⟨rfl, hc12, h⟩ := zI hc12 h
    ·refine zC rfl (zK (zS (zB (zU rfl (zM R4 ?_)))));obtain ⟨a14, hia14, ea14, h⟩ := el_some h;refine TO.fact (rdl_at qU M3 hia14 ea14) (fun hp=>?_);obtain ⟨pa14, hpa14, hva14⟩ := hp;refine zV R3 (hva14 ⟨rfl, rfl⟩ rfl rfl) (zV R3 (Val.load_es (c := [_, _, _, _]) hpa14 M3 ⟨⟨_, rfl, rfl⟩, rfl, by decide⟩ rfl rfl rfl) (zJ 4 [_,_,_,_] R7 (fun b7=>zA R4 (TO.eff0 rfl rfl (Eff.store_row (p := 0) (cv := [_, _, _, _]) (cells' := [_, _, _, _]) rfl rfl rfl rfl rfl rfl rfl rfl aG (by decide) rfl) ?_))));rintro _ rfl;refine zG (_::_::_::_::C) rfl (zN (zU rfl (zM R4 (zM R4 (zV R3 (vW 0 [_,_,_,_] R5 R4) ?_)))));refine TO.callJ (W := Unit) (fun (j : Int) (w : Unit) => iv (j)) (fun (j : Int) (w : Unit) => .row b7 4 [iv (a14.away), iv (a14.climb), iv (a14.wide), iv (a14.high)] :: ownL false v26 encI [(qC.length : Int)] :: ownL false v8 encI [(qG.length : Int)] :: .row b1 3 [qF, qD, qE] :: C) h rfl rfl rfl rfl rfl rfl (orcN rfl) ?_ ?_
     ·intro j h;refine TF.enter (fn := Go.Proofs.Tryz.f68) rfl rfl rfl rfl rfl (zU rfl (zQ 4 [_,_,_,_] R7 (fun b3=>zA R4 (zN ?_))))
      show T _ _ _ _ _ _;apply T.join (r := j) (W := Unit) (fun j w => ⟨[], [], .row b3 4 [iv (a14.away), iv (a14.climb), iv (a14.wide), iv (a14.high)] :: .row b7 4 [iv (a14.away), iv (a14.climb), iv (a14.wide), iv (a14.high)] :: ownL false v26 encI [(qC.length : Int)] :: ownL false v8 encI [(qG.length : Int)] :: .row b1 3 [qF, qD, qE] :: C⟩) h
      ·intro j h
       show T _ _ _ _ _ _;apply T.joinA (r := j) (W := Unit) (fun j w => ⟨[], [(18, bv j)], .row b3 4 [iv (a14.away), iv (a14.climb), iv (a14.wide), iv (a14.high)] :: .row b7 4 [iv (a14.away), iv (a14.climb), iv (a14.wide), iv (a14.high)] :: ownL false v26 encI [(qC.length : Int)] :: ownL false v8 encI [(qG.length : Int)] :: .row b1 3 [qF, qD, qE] :: C⟩) h
       ·intro j h;refine zT rfl (zF 0 R6 (zL 0 R3 R6 (zF 1 R6 (zL 0 R3 R6 (TO.eff rfl rfl rfl (Eff.new (New.buildSlice (en := encI) (l := [a14.away, a14.climb]) (vs := [(_, _), (_, _)]) (ws := [(_, [_]), (_, [_])]) ⟨rfl, rfl⟩ rfl rfl rfl rfl (CellsL.cons rfl (CellsL.cons rfl CellsL.nil)) rfl rfl)) ?_)))));rintro _ _ ⟨v9, rfl, rfl⟩;refine TO.less (Less.rowOwn (en := encI) (l := [a14.away, a14.climb]) (p := 0) rfl) (zG (_::_::_::_::_::_::C) rfl ?_);obtain ⟨y10, hr10, h⟩ := andx_some h;refine TO.callT (first := []) (cap := []) (vs := [iv (0), iv (1000), (.slice v9 0 (List.flatMap encI.f [a14.away, a14.climb]).length true (List.length [a14.away, a14.climb]) (List.length [a14.away, a14.climb]))]) rfl rfl rfl rfl rfl rfl (orcN rfl) (tf_s9_out aD (Rdl.mono (Rdl.own (C := ownL false (.slice v9 0 (List.flatMap encI.f [a14.away, a14.climb]).length true (List.length [a14.away, a14.climb]) (List.length [a14.away, a14.climb])) encI [a14.away, a14.climb] :: .row b3 4 [iv (a14.away), iv (a14.climb), iv (a14.wide), iv (a14.high)] :: .row b7 4 [iv (a14.away), iv (a14.climb), iv (a14.wide), iv (a14.high)] :: ownL false v26 encI [(qC.length : Int)] :: ownL false v8 encI [(qG.length : Int)] :: .row b1 3 [qF, qD, qE] :: C) (p := 0) rfl) mem0) hr10) ?_;rintro _;refine zG (_::_::_::_::_::_::C) rfl (zM R4 ?_);obtain ⟨rfl, h⟩ | ⟨rfl, h⟩ := zZ h
        ·refine zO R3 (zO R3 (zO R3 (zO R3 (zO R3 (zO R3 (zP R6 (zN ?_)))))));cases h;exact ⟨rfl, (), (sb (pk [1,1,1,1,1,98] rfl))⟩
        refine zF 2 R6 (zL 1 R3 R6 (zF 3 R6 (zL 1 R3 R6 (TO.eff rfl rfl rfl (Eff.new (New.buildSlice (en := encI) (l := [a14.wide, a14.high]) (vs := [(_, _), (_, _)]) (ws := [(_, [_]), (_, [_])]) ⟨rfl, rfl⟩ rfl rfl rfl rfl (CellsL.cons rfl (CellsL.cons rfl CellsL.nil)) rfl rfl)) ?_))));rintro _ _ ⟨v16, rfl, rfl⟩;refine TO.less (Less.rowOwn (en := encI) (l := [a14.wide, a14.high]) (p := 0) rfl) (zG (_::_::_::_::_::_::_::C) rfl ?_);obtain ⟨y17, hr17, h⟩ := andx_some h;refine TO.callT (first := []) (cap := []) (vs := [iv (1), iv (2000), (.slice v16 0 (List.flatMap encI.f [a14.wide, a14.high]).length true (List.length [a14.wide, a14.high]) (List.length [a14.wide, a14.high]))]) rfl rfl rfl rfl rfl rfl (orcN rfl) (tf_s9_out aD (Rdl.mono (Rdl.own (C := ownL false (.slice v16 0 (List.flatMap encI.f [a14.wide, a14.high]).length true (List.length [a14.wide, a14.high]) (List.length [a14.wide, a14.high])) encI [a14.wide, a14.high] :: ownL false (.slice v9 0 (List.flatMap encI.f [a14.away, a14.climb]).length true (List.length [a14.away, a14.climb]) (List.length [a14.away, a14.climb])) encI [a14.away, a14.climb] :: .row b3 4 [iv (a14.away), iv (a14.climb), iv (a14.wide), iv (a14.high)] :: .row b7 4 [iv (a14.away), iv (a14.climb), iv (a14.wide), iv (a14.high)] :: ownL false v26 encI [(qC.length : Int)] :: ownL false v8 encI [(qG.length : Int)] :: .row b1 3 [qF, qD, qE] :: C) (p := 0) rfl) mem0) hr17) ?_;rintro _;refine zG (_::_::_::_::_::_::_::C) rfl (zP R6 (zN ?_));cases h;exact ⟨rfl, (), (sb (pk [2,2,2,2,2,98,98] rfl))⟩
       ·rintro x18 _ h;obtain ⟨rfl, h⟩ | ⟨rfl, h⟩ := zZ h
        ·refine zC rfl (zU rfl (zA R4 (zN (zR ?_))));cases h;exact ⟨ret_ne, ⟨rfl, _, rfl, ⟨(), rfl, (pk [1,1,1,1,98] rfl)⟩⟩⟩
        refine zD rfl (zK ?_);cases h;exact ⟨rfl, (), (sb .refl)⟩
      ·rintro _ _ h;refine zU rfl (zA R4 (zN (zR ?_)));cases h;exact ⟨rfl, _, rfl, ⟨(), rfl, (pk [1,1,1,1,98] rfl)⟩⟩
     ·rintro y19 _ h;refine zG (_::_::_::_::C) rfl (zA R4 (zN (zU rfl (zM R4 ?_))));obtain ⟨c21, hc21⟩ := zY (¬ y19 = 0);refine zV R3 (Val.neq hc21 rfl rfl) (zN ?_);obtain ⟨rfl, hc21, h⟩ | ⟨rfl, hc21, h⟩ := zI hc21 h
      ·refine zC rfl (zU rfl (zM R4 (zM R4 (zA R4 (zA R4 (zN (zR ?_)))))));cases h;exact ⟨ret_ne, ⟨ret_ne, ⟨rfl, _, rfl, ⟨(), rfl, (pk [1,1,1,98] rfl)⟩⟩⟩⟩
      refine zD rfl (zK (zT rfl ?_));obtain ⟨hk24, h⟩ := chk_some h;refine zV R3 (Val.add rfl rfl hk24) (zM R4 (zN ?_));cases h;exact ⟨rfl, (), (sb (pk [1,1,1,98] rfl))⟩
    refine zD rfl (zE ?_);cases h;exact ⟨ex_ne, ⟨rfl, (), (sb .refl)⟩⟩
   ·rintro _ _ h;refine zU rfl (zA R4 (zA R4 (zN (zR ?_))));cases h;exact ⟨rfl, _, rfl, ⟨(), rfl, .refl⟩⟩
  ·rintro ⟨y31, y31_2⟩ _ h;dsimp only at h;refine zG (_::_::_::C) rfl (zM R4 (zX R5 (zX R5 (zA R4 (zA R4 (zN (zS (zB (zU rfl (zM R4 ?_))))))))));obtain ⟨c36, hc36⟩ := zY (¬ y31_2 = 0);refine zV R3 (Val.neq hc36 rfl rfl) (zA R4 (zN ?_));obtain ⟨rfl, hc36, h⟩ | ⟨rfl, hc36, h⟩ := zI hc36 h
   ·refine zC rfl (zU rfl (zM R4 (zM R4 (zA R4 (zA R4 (zA R4 (zN (zR ?_))))))));cases h;exact ⟨rfl, _, rfl, ⟨(), rfl, (pk [98,98,98] rfl)⟩⟩
   refine zD rfl (zU rfl (zF 2 R6 (zL 2 R3 R6 (zV R3 (Val.len_l qT M3 rfl rfl) ?_))));obtain ⟨c43, hc43⟩ := zY ((qB.length : Int) > 10);refine zV R3 (Val.gtr hc43 rfl rfl) (zA R4 (zN ?_));obtain ⟨rfl, hc43, h⟩ | ⟨rfl, hc43, h⟩ := zI hc43 h
   ·refine zC rfl (zU rfl (zA R4 (zA R4 (zA R4 (zN (zR ?_))))));cases h;exact ⟨rfl, _, rfl, ⟨(), rfl, (pk [98,98,98] rfl)⟩⟩
   refine zD rfl (zK (zU rfl (zF 2 R6 (zL 2 R3 R6 (zV R3 (Val.makeFunc rfl rfl) ?_)))));refine TO.callJ (W := Unit) (fun (j : Int × Int) (w : Unit) => .tuple [iv (j.1), iv (j.2)]) (fun (j : Int × Int) (w : Unit) => ownL false v26 encI [(qC.length : Int)] :: ownL false v8 encI [(qG.length : Int)] :: .row b1 3 [qF, qD, qE] :: C) h rfl rfl rfl rfl rfl rfl (orcN rfl) ?_ ?_
   ·intro j h;refine TF.enter (fn := Go.Proofs.Tryz.f69) rfl rfl rfl rfl rfl (zU rfl (zA R4 (zA R4 (zN ?_))))
    show T _ _ _ _ _ _;apply T.join (r := j) (W := Unit) (fun j w => ⟨[], [], ownL false v26 encI [(qC.length : Int)] :: ownL false v8 encI [(qG.length : Int)] :: .row b1 3 [qF, qD, qE] :: C⟩) h
    ·intro j h;refine zU rfl (zM R4 (zV R3 (Val.len_l qT M3 rfl rfl) (zM R4 (zN (zB ?_)))))
     show T _ _ _ _ _ _;apply T.iter (r := j) (W := Unit) (fun j w => ⟨[], [(1, .func 70 [] [.ptr b1 0 3]), (9, qE), (10, iv ((qB.length : Int))), (11, iv (j))], ownL false v26 encI [(qC.length : Int)] :: ownL false v8 encI [(qG.length : Int)] :: .row b1 3 [qF, qD, qE] :: C⟩) (w0 := ()) h
     ·exact (sb .refl)
     rintro x11 _ a h;unfold P_s9_Check_L4 at h;refine zU rfl ?_;obtain ⟨c12, hc12⟩ := zY (x11 < (qB.length : Int));refine zV R3 (Val.lss hc12 rfl rfl) (zN (zS ?_));obtain ⟨rfl, hc12, h⟩ | ⟨rfl, hc12, h⟩ := zI hc12 h
     ·refine zC rfl (zK (zS (zB (zU rfl (zM R4 ?_)))));obtain ⟨a14, hia14, ea14, h⟩ := el_some h;refine TO.fact (rdl_at qT M3 hia14 ea14) (fun hp=>?_);obtain ⟨pa14, hpa14, hva14⟩ := hp;refine zV R3 (hva14 ⟨rfl, rfl⟩ rfl rfl) (zV R3 (Val.load_es (c := [_, _, _, _, _, _, _]) hpa14 M3 ⟨⟨_, rfl, rfl⟩, rfl, by decide⟩ rfl rfl rfl) (zJ 7 [_,_,_,_,_,_,_] R7 (fun b7=>zA R4 (TO.eff0 rfl rfl (Eff.store_row (p := 0) (cv := [_, _, _, _, _, _, _]) (cells' := [_, _, _, _, _, _, _]) rfl rfl rfl rfl rfl rfl rfl rfl aG (by decide) rfl) ?_))));rintro _ rfl;refine zG (_::_::_::_::C) rfl (zN (zU rfl (zM R4 (zM R4 (zV R3 (vW 0 [_,_,_,_,_,_,_] R5 R4) ?_)))));refine TO.callJ (W := Unit) (fun (j : Int) (w : Unit) => iv (j)) (fun (j : Int) (w : Unit) => .row b7 7 [iv (a14.qR), iv (a14.qS), sv a14.qQ, iv (a14.wide), iv (a14.high), iv (a14.heavy), iv (a14.shelf)] :: ownL false v26 encI [(qC.length : Int)] :: ownL false v8 encI [(qG.length : Int)] :: .row b1 3 [qF, qD, qE] :: C) h rfl rfl rfl rfl rfl rfl (orcN rfl) ?_ ?_
      ·intro j h;refine TF.enter (fn := Go.Proofs.Tryz.f70) rfl rfl rfl rfl rfl (zU rfl (zQ 7 [_,_,_,_,_,_,_] R7 (fun b4=>zA R4 (zN (zS (T.drawE (l1 := [0, 1, 2, 3, 4, 5, 6]) (l2 := [7, 8]) (by kernel_rfl) (by kernel_rfl) (yR R4 (vW 4 [_,_,_] R5 R4) (yL R4 (Val.buildC (cs := [_, _, _]) (vs := [(_, _)]) (ws := [(_, [_, _, _])]) rfl rfl (CellsL.cons rfl CellsL.nil) rfl) (yR R4 (vW 0 [_,_,_,_,_,_,_] R5 R4) (yL R4 (Val.faddr_ptr (fo := 2) rfl rfl rfl) (yR R4 (vR (p := 4) R6) (yL R4 (Val.move rfl) ?_))))))))))));obtain ⟨hk13, h⟩ := chk_some h;obtain ⟨w13, htw13, hgw13, hvw13⟩ := slice_T qZ hk13
       have hw13 : Rdl C qP w13 (List.take (x11 - (0 : Int)).toNat (List.drop ((0 : Int) : Int).toNat qB)) := RdT.rdl htw13;refine yR R4 (hvw13 ⟨rfl, rfl⟩ rfl .no (.some rfl)) (TD1.over (fun v => sameC_refl v) (all_cons (⟨_, rfl, (hvw13 ⟨rfl, rfl⟩ rfl .no (.some rfl))⟩) (all_cons (⟨_, rfl, (vR (p := 4) R6)⟩) (all_cons (⟨_, rfl, (vW 0 [_,_,_,_,_,_,_] R5 R4)⟩) (all_cons (⟨_, rfl, (vW 4 [_,_,_] R5 R4)⟩) all_nil)))) ?_);obtain ⟨y14_3, hr14, h⟩ := andx_some h;refine TD2.heavy (fun v => sameC_refl v) rfl (by decide) rfl rfl (OpS.callV rfl rfl rfl rfl (orcN rfl) (RepF.conv (tf_s9_book aD (Rdl.mono qV M5) (Rdl.mono qU M5) (Rdl.mono qT M5) (Rdl.mono hw13 M5) hr14))) ?_;rintro _ hs_ ⟨_, rfl, he_⟩;subst hs_;refine ⟨(all_cons (.inl (by kernel_rfl)) (all_cons (.inl (by kernel_rfl)) (all_cons (.inl (by kernel_rfl)) (all_cons (.inl (by kernel_rfl)) all_nil)))), all_nil, ?_⟩;refine yG (_::_::_::_::_::C) rfl (yM R4 (Val.assign rfl) (TD2.nil ?_))
       show T _ _ _ _ _ _;apply T.join (r := j) (W := Unit) (fun j w => ⟨[], [], .row b4 7 [iv (a14.qR), iv (a14.qS), sv a14.qQ, iv (a14.wide), iv (a14.high), iv (a14.heavy), iv (a14.shelf)] :: .row b7 7 [iv (a14.qR), iv (a14.qS), sv a14.qQ, iv (a14.wide), iv (a14.high), iv (a14.heavy), iv (a14.shelf)] :: ownL false v26 encI [(qC.length : Int)] :: ownL false v8 encI [(qG.length : Int)] :: .row b1 3 [qF, qD, qE] :: C⟩) h
       ·intro j h;refine zB (zU rfl (zM R4 ?_));obtain ⟨c17, hc17⟩ := zY (¬ y14_3 = 0);refine zV R3 (Val.neq hc17 rfl rfl) (zA R4 (zN ?_));obtain ⟨rfl, hc17, h⟩ | ⟨rfl, hc17, h⟩ := zI hc17 h
        ·refine zC rfl (zU rfl (zM R4 (zA R4 (zN (zR ?_)))));cases h;exact ⟨ret_ne, ⟨rfl, _, rfl, ⟨(), rfl, (pk [1,1,1,1,98] rfl)⟩⟩⟩
        refine zD rfl (zU rfl (zF 1 R6 (zL 4 R3 R6 (zV R3 (Val.len_l qU M5 rfl rfl) ?_))));obtain ⟨hk23, h⟩ := chk_some h;refine zV R3 (Val.sub rfl rfl hk23) (zF 6 R6 (zL 0 R3 R6 (TO.build1 (en := encI) (a := a14.shelf) rfl rfl rfl ⟨rfl, rfl⟩ ⟨_, rfl, rfl⟩ (by decide) (by decide) rfl rfl (fun v26_2=>?_))));obtain ⟨y27_2, hr27_2, h⟩ := andx_some h;refine TO.callT (first := []) (cap := []) (vs := [iv (0), iv (((qC.length : Int) - 1)), v26_2]) rfl rfl rfl rfl rfl rfl (orcN rfl) (tf_s9_out aD (Rdl.mono (Rdl.own (C := ownL false v26_2 encI [a14.shelf] :: .row b4 7 [iv (a14.qR), iv (a14.qS), sv a14.qQ, iv (a14.wide), iv (a14.high), iv (a14.heavy), iv (a14.shelf)] :: .row b7 7 [iv (a14.qR), iv (a14.qS), sv a14.qQ, iv (a14.wide), iv (a14.high), iv (a14.heavy), iv (a14.shelf)] :: ownL false v26 encI [(qC.length : Int)] :: ownL false v8 encI [(qG.length : Int)] :: .row b1 3 [qF, qD, qE] :: C) (p := 0) rfl) mem0) hr27_2) ?_;rintro _;refine zG (_::_::_::_::_::_::C) rfl (zA R4 (zN ?_));obtain ⟨rfl, h⟩ | ⟨rfl, h⟩ := zZ h
        ·refine zC rfl (zU rfl (zA R4 (zN (zR ?_))));cases h;exact ⟨ret_ne, ⟨rfl, _, rfl, ⟨(), rfl, (pk [2,2,2,2,98,98] rfl)⟩⟩⟩
        refine zD rfl ?_
        show T _ _ _ _ _ _;apply T.joinA (r := j) (W := Unit) (fun j w => ⟨[], [(28, bv j)], ownL false v26_2 encI [a14.shelf] :: .row b4 7 [iv (a14.qR), iv (a14.qS), sv a14.qQ, iv (a14.wide), iv (a14.high), iv (a14.heavy), iv (a14.shelf)] :: .row b7 7 [iv (a14.qR), iv (a14.qS), sv a14.qQ, iv (a14.wide), iv (a14.high), iv (a14.heavy), iv (a14.shelf)] :: ownL false v26 encI [(qC.length : Int)] :: ownL false v8 encI [(qG.length : Int)] :: .row b1 3 [qF, qD, qE] :: C⟩) h
        ·intro j h;refine T.draw (fun v => sameC_refl v) (l1 := [0, 1, 2, 3, 4, 5, 6, 7, 8, 9, 10, 11, 12, 13, 14]) (l2 := []) (by kernel_rfl) (by kernel_rfl) (zM R4 ?_);obtain ⟨c30, hc30⟩ := zY (x11 > 0);refine zV R3 (Val.gtr hc30 rfl rfl) (zM R4 ?_);obtain ⟨rfl, hc30, h⟩ | ⟨rfl, hc30, h⟩ := zI hc30 h
         ·refine zF 6 R6 (zL 1 R3 R6 (zF 2 R6 (zL 5 R3 R6 (zM R4 ?_))));obtain ⟨hk37, h⟩ := chk_some h;refine zV R3 (Val.sub rfl rfl hk37) ?_;obtain ⟨a38, hia38, ea38, h⟩ := el_some h;refine TO.fact (rdl_at qT M6 hia38 ea38) (fun hp=>?_);obtain ⟨pa38, hpa38, hva38⟩ := hp;refine zV R3 (hva38 ⟨rfl, rfl⟩ rfl rfl) (zV R3 (Val.faddr_e (fo := 6) hpa38 rfl rfl rfl) (zV R3 (Val.load_e (PtE.add hpa38 (by decide)) M6 ⟨_, rfl, rfl⟩ rfl rfl) ?_));obtain ⟨c41, hc41⟩ := zY (a14.shelf < a38.shelf);refine zV R3 (Val.lss hc41 rfl rfl) (zP R6 (zA R4 (zN ?_)));subst hc41;cases h;exact ⟨rfl, (), (sb .refl)⟩
         refine zO R3 (zO R3 (zO R3 (zO R3 (zO R3 (zO R3 (zO R3 (zO R3 (zO R3 (zO R3 (zP R6 (zA R4 (zN ?_))))))))))));cases h;exact ⟨rfl, (), (sb .refl)⟩
        ·rintro x28 _ h;obtain ⟨rfl, h⟩ | ⟨rfl, h⟩ := zZ h
         ·refine zC rfl (zU rfl (zA R4 (zN (zR ?_))));cases h;exact ⟨ret_ne, ⟨rfl, _, rfl, ⟨(), rfl, (pk [2,2,2,2,98,98] rfl)⟩⟩⟩
         refine zD rfl (zK ?_);cases h;exact ⟨rfl, (), (sb (pk [1,1,1,1,1,98] rfl))⟩
       ·rintro _ _ h;refine zU rfl (zA R4 (zN (zR ?_)));cases h;exact ⟨rfl, _, rfl, ⟨(), rfl, (pk [1,1,1,1,98] rfl)⟩⟩
      ·rintro y19 _ h;refine zG (_::_::_::_::C) rfl (zA R4 (zN (zU rfl (zM R4 ?_))));obtain ⟨c21, hc21⟩ := zY (¬ y19 = 0);refine zV R3 (Val.neq hc21 rfl rfl) (zN ?_);obtain ⟨rfl, hc21, h⟩ | ⟨rfl, hc21, h⟩ := zI hc21 h
       ·refine zC rfl (zU rfl (zM R4 (zM R4 (zA R4 (zA R4 (zN (zR ?_)))))));cases h;exact ⟨ret_ne, ⟨ret_ne, ⟨rfl, _, rfl, ⟨(), rfl, (pk [1,1,1,98] rfl)⟩⟩⟩⟩
       refine zD rfl (zK (zT rfl ?_));obtain ⟨hk24, h⟩ := chk_some h;refine zV R3 (Val.add rfl rfl hk24) (zM R4 (zN ?_));cases h;exact ⟨rfl, (), (sb (pk [1,1,1,98] rfl))⟩
     refine zD rfl (zE ?_);cases h;exact ⟨ex_ne, ⟨rfl, (), (sb .refl)⟩⟩
    ·rintro _ _ h;refine zU rfl (zA R4 (zA R4 (zN (zR ?_))));cases h;exact ⟨rfl, _, rfl, ⟨(), rfl, .refl⟩⟩
   ·rintro ⟨y48, y48_2⟩ _ h;dsimp only at h;refine zG (_::_::_::C) rfl (zM R4 (zX R5 (zX R5 (zA R4 (zA R4 (zN (zS (zU rfl (zM R4 ?_)))))))));obtain ⟨c52, hc52⟩ := zY (¬ y48_2 = 0);refine zV R3 (Val.neq hc52 rfl rfl) (zN ?_);obtain ⟨rfl, hc52, h⟩ | ⟨rfl, hc52, h⟩ := zI hc52 h
    ·refine zC rfl (zU rfl (zM R4 (zM R4 (zA R4 (zA R4 (zA R4 (zN (zR ?_))))))));cases h;exact ⟨rfl, _, rfl, ⟨(), rfl, (pk [98,98,98] rfl)⟩⟩
    refine zD rfl (zK (zU rfl (zF 1 R6 (zL 2 R3 R6 (zV R3 (Val.makeFunc rfl rfl) ?_)))));refine TO.callJ (W := Unit) (fun (j : Int × Int) (w : Unit) => .tuple [iv (j.1), iv (j.2)]) (fun (j : Int × Int) (w : Unit) => ownL false v26 encI [(qC.length : Int)] :: ownL false v8 encI [(qG.length : Int)] :: .row b1 3 [qF, qD, qE] :: C) h rfl rfl rfl rfl rfl rfl (orcN rfl) ?_ ?_
    ·intro j h;refine TF.enter (fn := Go.Proofs.Tryz.f67) rfl rfl rfl rfl rfl (zU rfl (zA R4 (zA R4 (zN ?_))))
     show T _ _ _ _ _ _;apply T.join (r := j) (W := Unit) (fun j w => ⟨[], [], ownL false v26 encI [(qC.length : Int)] :: ownL false v8 encI [(qG.length : Int)] :: .row b1 3 [qF, qD, qE] :: C⟩) h
     ·intro j h;refine zU rfl (zM R4 (zV R3 (Val.len_l qU M3 rfl rfl) (zM R4 (zN (zB ?_)))))
      show T _ _ _ _ _ _;apply T.iter (r := j) (W := Unit) (fun j w => ⟨[], [(1, .func 72 [] [.ptr b1 0 3]), (9, qD), (10, iv ((qC.length : Int))), (11, iv (j))], ownL false v26 encI [(qC.length : Int)] :: ownL false v8 encI [(qG.length : Int)] :: .row b1 3 [qF, qD, qE] :: C⟩) (w0 := ()) h
      ·exact (sb .refl)
      rintro x11 _ a h;unfold P_s9_Check_L5 at h;refine zU rfl ?_;obtain ⟨c12, hc12⟩ := zY (x11 < (qC.length : Int));refine zV R3 (Val.lss hc12 rfl rfl) (zN (zS ?_));obtain ⟨rfl, hc12, h⟩ | ⟨rfl, hc12, h⟩ := zI hc12 h
      ·refine zC rfl (zK (zS (zB (zU rfl (zM R4 ?_)))));obtain ⟨a14, hia14, ea14, h⟩ := el_some h;refine TO.fact (rdl_at qU M3 hia14 ea14) (fun hp=>?_);obtain ⟨pa14, hpa14, hva14⟩ := hp;refine zV R3 (hva14 ⟨rfl, rfl⟩ rfl rfl) (zV R3 (Val.load_es (c := [_, _, _, _]) hpa14 M3 ⟨⟨_, rfl, rfl⟩, rfl, by decide⟩ rfl rfl rfl) (zJ 4 [_,_,_,_] R7 (fun b7=>zA R4 (TO.eff0 rfl rfl (Eff.store_row (p := 0) (cv := [_, _, _, _]) (cells' := [_, _, _, _]) rfl rfl rfl rfl rfl rfl rfl rfl aG (by decide) rfl) ?_))));rintro _ rfl;refine zG (_::_::_::_::C) rfl (zN (zU rfl (zM R4 (zM R4 (zV R3 (vW 0 [_,_,_,_] R5 R4) ?_)))));refine TO.callJ (W := Unit) (fun (j : Int) (w : Unit) => iv (j)) (fun (j : Int) (w : Unit) => .row b7 4 [iv (a14.away), iv (a14.climb), iv (a14.wide), iv (a14.high)] :: ownL false v26 encI [(qC.length : Int)] :: ownL false v8 encI [(qG.length : Int)] :: .row b1 3 [qF, qD, qE] :: C) h rfl rfl rfl rfl rfl rfl (orcN rfl) ?_ ?_
       ·intro j h;refine TF.enter (fn := Go.Proofs.Tryz.f72) rfl rfl rfl rfl rfl (zU rfl (zQ 4 [_,_,_,_] R7 (fun b4=>zA R4 (zN ?_))))
        show T _ _ _ _ _ _;apply T.join (r := j) (W := Unit) (fun j w => ⟨[], [], .row b4 4 [iv (a14.away), iv (a14.climb), iv (j), iv (a14.high)] :: .row b7 4 [iv (a14.away), iv (a14.climb), iv (a14.wide), iv (a14.high)] :: ownL false v26 encI [(qC.length : Int)] :: ownL false v8 encI [(qG.length : Int)] :: .row b1 3 [qF, qD, qE] :: C⟩) h
        ·intro j h;refine zU rfl (zF 2 R6 (zL 4 R3 R6 (zV R3 (Val.len_l qT M5 rfl rfl) (zM R4 (zN (zB ?_))))))
         show T _ _ _ _ _ _;apply T.iter (r := j) (W := Unit) (fun j w => ⟨[], [(0, iv (x11)), (4, .ptr b4 0 4), (9, qE), (10, iv ((qB.length : Int))), (11, iv (j.1))], .row b4 4 [iv (a14.away), iv (a14.climb), iv (j.2), iv (a14.high)] :: .row b7 4 [iv (a14.away), iv (a14.climb), iv (a14.wide), iv (a14.high)] :: ownL false v26 encI [(qC.length : Int)] :: ownL false v8 encI [(qG.length : Int)] :: .row b1 3 [qF, qD, qE] :: C⟩) (w0 := ()) h
         ·exact (sb .refl)
         rintro ⟨x11_2, s_Wide⟩ _ a h;unfold P_s9_Check_L6 at h;dsimp only at h;dsimp only;refine zU rfl ?_;obtain ⟨c12_2, hc12_2⟩ := zY (x11_2 < (qB.length : Int));refine zV R3 (Val.lss hc12_2 rfl rfl) (zN (zS ?_));obtain ⟨rfl, hc12_2, h⟩ | ⟨rfl, hc12_2, h⟩ := zI hc12_2 h
         ·refine zC rfl (zK ?_)
          show T _ _ _ _ _ _;apply T.join (r := a) (W := Unit) (fun j w => ⟨[], [(0, iv (x11)), (4, .ptr b4 0 4), (9, qE), (10, iv ((qB.length : Int))), (11, iv (x11_2))], .row b4 4 [iv (a14.away), iv (a14.climb), iv (j), iv (a14.high)] :: .row b7 4 [iv (a14.away), iv (a14.climb), iv (a14.wide), iv (a14.high)] :: ownL false v26 encI [(qC.length : Int)] :: ownL false v8 encI [(qG.length : Int)] :: .row b1 3 [qF, qD, qE] :: C⟩) h
          ·intro j h;refine zB (zU rfl ?_);obtain ⟨a13, hia13, ea13, h⟩ := el_some h;refine TO.fact (rdl_at qT M5 hia13 ea13) (fun hp=>?_);obtain ⟨pa13, hpa13, hva13⟩ := hp;refine zV R3 (hva13 ⟨rfl, rfl⟩ rfl rfl) (zV R3 (Val.load_es (c := [_, _, _, _, _, _, _]) hpa13 M5 ⟨⟨_, rfl, rfl⟩, rfl, by decide⟩ rfl rfl rfl) (zJ 7 [_,_,_,_,_,_,_] R7 (fun b7_2=>TO.eff0 rfl rfl (Eff.store_row (p := 0) (cv := [_, _, _, _, _, _, _]) (cells' := [_, _, _, _, _, _, _]) rfl rfl rfl rfl rfl rfl rfl rfl aG (by decide) rfl) ?_)));rintro _ rfl;refine zG (_::_::_::_::_::_::C) rfl (zN (zS (zU rfl (zF 6 R6 (zL 0 R3 R6 (zM R4 ?_))))));obtain ⟨c18, hc18⟩ := zY (¬ a13.shelf = x11);refine zV R3 (Val.neq hc18 rfl rfl) (zN ?_);obtain ⟨rfl, hc18, h⟩ | ⟨rfl, hc18, h⟩ := zI hc18 h
           ·refine zC rfl (zE ?_);cases h;exact ⟨rfl, (), (sb (pk [1,1,1,1,1,98] rfl))⟩
           refine zD rfl (zK (zU rfl (zF 2 R6 (zL 1 R3 R6 (zF 3 R6 (zL 0 R3 R6 ?_))))));obtain ⟨hk23, h⟩ := chk_some h;refine zV R3 (Val.sub rfl rfl hk23) (zF 2 R6 (TO.eff0 rfl rfl (Eff.store_row (p := 1) (cv := [_]) (cells' := [_, _, _, _]) rfl rfl rfl rfl rfl rfl rfl rfl aG (by decide) rfl) ?_));rintro _ rfl;refine zG (_::_::_::_::_::_::C) rfl (zN ?_)
           show T _ _ _ _ _ _;apply T.joinA (r := j) (W := Unit) (fun j w => ⟨[], [(0, iv (x11)), (4, .ptr b4 0 4), (9, qE), (10, iv ((qB.length : Int))), (11, iv (x11_2)), (34, bv j)], .row b7_2 7 [iv (a13.qR), iv (a13.qS), sv a13.qQ, iv (a13.wide), iv (a13.high), iv (a13.heavy), iv (a13.shelf)] :: .row b4 4 [iv (a14.away), iv (a14.climb), iv ((s_Wide - a13.wide)), iv (a14.high)] :: .row b7 4 [iv (a14.away), iv (a14.climb), iv (a14.wide), iv (a14.high)] :: ownL false v26 encI [(qC.length : Int)] :: ownL false v8 encI [(qG.length : Int)] :: .row b1 3 [qF, qD, qE] :: C⟩) h
           ·intro j h;refine zT rfl (zF 2 R6 (zL 1 R3 R6 ?_));obtain ⟨c27, hc27⟩ := zY ((s_Wide - a13.wide) < 0);refine zV R3 (Val.lss hc27 rfl rfl) (zM R4 ?_);obtain ⟨rfl, hc27, h⟩ | ⟨rfl, hc27, h⟩ := zI hc27 h
            ·refine zO R3 (zO R3 (zO R3 (zO R3 (zO R3 (zP R6 (zN ?_))))));cases h;exact ⟨rfl, (), (sb .refl)⟩
            refine zF 4 R6 (zL 0 R3 R6 (zF 3 R6 (zL 1 R3 R6 ?_)));obtain ⟨c33, hc33⟩ := zY (a13.high > a14.high);refine zV R3 (Val.gtr hc33 rfl rfl) (zP R6 (zN ?_));subst hc33;cases h;exact ⟨rfl, (), (sb .refl)⟩
           ·rintro x34 _ h;obtain ⟨rfl, h⟩ | ⟨rfl, h⟩ := zZ h
            ·refine zC rfl (zU rfl (zA R4 (zN (zR ?_))));cases h;exact ⟨ret_ne, ⟨ret_ne, ⟨ret_ne, ⟨rfl, _, rfl, ⟨(), rfl, (pk [2,2,2,2,98,98] rfl)⟩⟩⟩⟩⟩
            refine zD rfl (zK ?_);cases h;exact ⟨rfl, (), (sb (pk [1,1,1,1,1,98] rfl))⟩
          ·rintro s_Wide_2 _ h;refine zT rfl ?_;obtain ⟨hk35, h⟩ := chk_some h;refine zV R3 (Val.add rfl rfl hk35) (zM R4 (zN ?_));cases h;exact ⟨rfl, (), (sb .refl)⟩
         refine zD rfl (zE ?_);cases h;exact ⟨ex_ne, ⟨rfl, (), (sb .refl)⟩⟩
        ·rintro s_Wide _ h;refine zU rfl (zA R4 (zN (zR ?_)));cases h;exact ⟨rfl, _, rfl, ⟨(), rfl, (pk [1,1,1,1,98] rfl)⟩⟩
       ·rintro y19 _ h;refine zG (_::_::_::_::C) rfl (zA R4 (zN (zU rfl (zM R4 ?_))));obtain ⟨c21, hc21⟩ := zY (¬ y19 = 0);refine zV R3 (Val.neq hc21 rfl rfl) (zN ?_);obtain ⟨rfl, hc21, h⟩ | ⟨rfl, hc21, h⟩ := zI hc21 h
        ·refine zC rfl (zU rfl (zM R4 (zM R4 (zA R4 (zA R4 (zN (zR ?_)))))));cases h;exact ⟨ret_ne, ⟨ret_ne, ⟨rfl, _, rfl, ⟨(), rfl, (pk [1,1,1,98] rfl)⟩⟩⟩⟩
        refine zD rfl (zK (zT rfl ?_));obtain ⟨hk24, h⟩ := chk_some h;refine zV R3 (Val.add rfl rfl hk24) (zM R4 (zN ?_));cases h;exact ⟨rfl, (), (sb (pk [1,1,1,98] rfl))⟩
      refine zD rfl (zE ?_);cases h;exact ⟨ex_ne, ⟨rfl, (), (sb .refl)⟩⟩
     ·rintro _ _ h;refine zU rfl (zA R4 (zA R4 (zN (zR ?_))));cases h;exact ⟨rfl, _, rfl, ⟨(), rfl, .refl⟩⟩
    ·rintro ⟨y59, y59_2⟩ _ h;dsimp only at h;refine zG (_::_::_::C) rfl (zM R4 (zX R5 (zX R5 (zA R4 (zA R4 (zN (zS (zU rfl (zM R4 ?_)))))))));obtain ⟨c63, hc63⟩ := zY (¬ y59_2 = 0);refine zV R3 (Val.neq hc63 rfl rfl) (zN ?_);obtain ⟨rfl, hc63, h⟩ | ⟨rfl, hc63, h⟩ := zI hc63 h
     ·refine zC rfl (zU rfl (zM R4 (zM R4 (zA R4 (zA R4 (zA R4 (zN (zR ?_))))))));cases h;exact ⟨rfl, _, rfl, ⟨(), rfl, (pk [98,98,98] rfl)⟩⟩
     refine zD rfl (zK (zU rfl (zA R4 (zA R4 (zA R4 (zN (zR ?_)))))));cases h;exact ⟨rfl, _, rfl, ⟨(), rfl, (pk [98,98,98] rfl)⟩⟩
theorem w_s9_Check (qG : GS encStr) (qC : GS qW) (qB : GS qP) (r : Int × Int × Int) (h : P_s9_Check qG.l qC.l qB.l = some r) : Comes (EL 0) 16 [.agg [qG.v, qC.v, qB.v]] (.tuple [iv r.1, iv r.2.1, iv r.2.2]) :=
 TF.run (tf_s9_Check (Nat.le_refl _) (RdT.gs qG) (RdT.gs qC) (RdT.gs qB) h) fun w => (.tuple (.cons .lit (.cons .lit (.cons .lit .nil))))
set_option maxRecDepth 10000 in
theorem tf_s9_open {k : Nat} (hk : 1 ≤ k) {C : List Thing} {qF : AV} {qG : List Str} {qD : AV} {qC : List qH} {qE : AV} {qB : List qA} (qV : Rdl C encStr qF qG) (qU : Rdl C qW qD qC) (qT : Rdl C qP qE qB) {r : Int} (h : P_s9_open qG qC qB = some r) :
  TF (EL k) 77 [.agg [qF, qD, qE]] C (RepF (fun (w : Unit) => .tuple [.agg [qF, qD, qE], iv r]) (fun (w : Unit) => C)) := by
 unfold P_s9_open at h;refine TF.enterG (fn := Go.Proofs.Tryz.f77) rfl rfl rfl rfl rfl (zU rfl (zQ 3 [_,_,_] R7 (fun b1=>zJ 3 [_,_,_] R7 (fun b2=>zA R4 (zN (zU rfl (zV R3 (vW 1 [_,_,_] R5 R4) ?_)))))));obtain ⟨⟨y9, y9_2, y9_3⟩, hr9, h⟩ := andx_some h;dsimp only at h;obtain ⟨g, hgg, hrg⟩ := Rdl.reif (hs := .row b2 3 [nilS, nilS, nilS] :: .row b1 3 [qF, qD, qE] :: C) qV M2 (ReifL.flat encStr_tr);obtain ⟨g_2, hgg_2, hrg_2⟩ := Rdl.reif (hs := .row b2 3 [nilS, nilS, nilS] :: .row b1 3 [qF, qD, qE] :: C) qU M2 (ReifL.flat qAe);obtain ⟨g_3, hgg_3, hrg_3⟩ := Rdl.reif (hs := .row b2 3 [nilS, nilS, nilS] :: .row b1 3 [qF, qD, qE] :: C) qT M2 (ReifL.flat qAd);refine TO.call rfl rfl rfl rfl rfl (orcL rfl aD) (.cons (.agg (.cons (hrg _) (.cons (hrg_2 _) (.cons (hrg_3 _) .nil)))) .nil) (sem_of (w_s9_Check g g_2 g_3 _ (by try rw [hgg]; try rw [hgg_2]; try rw [hgg_3]; exact hr9))) (zM R4 (zX R5 (zX R5 (zX R5 (zA R4 (zA R4 (zA R4 (zN (zU rfl (zV R3 (vW 1 [_,_,_] R5 R4) (zV R3 (Val.buildC (cs := [_, _, _]) (vs := [(_, _)]) (ws := [(_, [_, _, _])]) rfl rfl (CellsL.cons rfl CellsL.nil) rfl) (zM R4 (TO.fact (rdl_cellS qV M2) (fun qX=>TO.fact (rdl_cellS qU M2) (fun qY=>TO.fact (rdl_cellS qT M2) (fun qAc=>TO.eff0 rfl rfl (Eff.store_row (p := 0) (cv := [_, _, _]) (cells' := [_, _, _]) rfl rfl rfl rfl rfl rfl rfl rfl (by first | rfl | (simp [GS.one, qX.2, qY.2, qAc.2]; done) | (simp [GS.one, qX.2, qY.2, qAc.2]; (repeat' apply And.intro) <;> rfl)) (by decide) rfl) ?_))))))))))))))));rintro _ rfl;refine zG (_::_::C) rfl (zA R4 (zN (zR ?_)));cases h;exact ⟨rfl, _, rfl, [_, _], ⟨⟨_, rfl, LoadR.rows (p := 0) (c := [_, _, _]) rfl ⟨⟨_, rfl, rfl⟩, rfl, by decide⟩ rfl rfl rfl⟩, ⟨rfl, trivial⟩⟩, ⟨(), rfl, (pk [98,98] rfl)⟩⟩
set_option maxRecDepth 10000 in
theorem tf_s9_Spare {k : Nat} (hk : 1 ≤ k) {C : List Thing} {qF : AV} {qG : List Str} {qD : AV} {qC : List qH} {qE : AV} {qB : List qA} (qAa : RdT encStr qF qG) (qAb : RdT qW qD qC) (qZ : RdT qP qE qB) {r : (List Int) × Int} (h : P_s9_Spare qG qC qB = some r) :
  TF (EL k) 28 [.agg [qF, qD, qE]] C (RepF (fun (w : AV) => .tuple [w, iv r.2]) (fun (w : AV) => ownL true w encI r.1 :: C)) := by
 unfold P_s9_Spare at h
 have qV : Rdl C encStr qF qG := RdT.rdl qAa
 have qU : Rdl C qW qD qC := RdT.rdl qAb
 have qT : Rdl C qP qE qB := RdT.rdl qZ;refine TF.enter (fn := Go.Proofs.Tryz.f28) rfl rfl rfl rfl rfl (zU rfl (zQ 3 [_,_,_] R7 (fun b1=>zA R4 (zA R4 (zN (zU rfl (zV R3 (vW 0 [_,_,_] R5 R4) ?_)))))));obtain ⟨y11, hr11, h⟩ := andx_some h;refine TO.callT (first := []) (cap := []) (vs := [.agg [qF, qD, qE]]) rfl rfl rfl rfl rfl rfl (orcN rfl) (tf_s9_open aD (Rdl.mono qV M1) (Rdl.mono qU M1) (Rdl.mono qT M1) hr11) ?_;rintro _;refine zG (_::C) rfl (zM R4 (zX R5 (zX R5 (zJ 3 [_,_,_] R7 (fun b4=>TO.fact (rdl_cellS qV M2) (fun qX=>TO.fact (rdl_cellS qU M2) (fun qY=>TO.fact (rdl_cellS qT M2) (fun qAc=>TO.eff0 rfl rfl (Eff.store_row (p := 0) (cv := [_, _, _]) (cells' := [_, _, _]) rfl rfl rfl rfl rfl rfl rfl rfl (by first | rfl | (simp [GS.one, qX.2, qY.2, qAc.2]; done) | (simp [GS.one, qX.2, qY.2, qAc.2]; (repeat' apply And.intro) <;> rfl)) (by decide) rfl) ?_))))))));rintro _ rfl;refine zG (_::_::C) rfl (zA R4 (zN (zS (zU rfl (zM R4 ?_)))));obtain ⟨c15, hc15⟩ := zY (¬ y11 = 0);refine zV R3 (Val.neq hc15 rfl rfl) (zN ?_);obtain ⟨rfl, hc15, h⟩ | ⟨rfl, hc15, h⟩ := zI hc15 h
 ·refine zC rfl (zU rfl (zM R4 (zA R4 (zA R4 (zN (T.nilown (u := encI.u) (zR ?_)))))));cases h;exact ⟨rfl, _, rfl, ⟨nilS, rfl, (pk [0,98,98] rfl)⟩⟩
 refine zD rfl (zK ?_)
 show T _ _ _ _ _ _;apply T.joinA (r := r) (W := AV) (fun j w => ⟨[], [(2, w), (4, .ptr b4 0 3)], ownL true w encI j :: .row b4 3 [qF, qD, qE] :: C⟩) h
 ·intro j h;refine zU rfl (zF 0 R6 (zF 1 R6 (zL 0 R3 R6 (zV R3 (Val.len_l qU M2 rfl rfl) (zM R4 (zN (zB (T.nilown (u := encI.u) ?_))))))))
  show T _ _ _ _ _ _;apply T.iter (r := j) (W := AV) (fun j w => ⟨[], [(2, w), (4, .ptr b4 0 3), (19, qD), (20, iv ((qC.length : Int))), (21, iv (j.1))], ownL true w encI j.2 :: .row b4 3 [qF, qD, qE] :: C⟩) (w0 := nilS) h
  ·exact (sb (pk [0,0,98] rfl))
  rintro ⟨x21, l⟩ v4 a h;unfold P_s9_Spare_L1 at h;dsimp only at h;dsimp only;refine zU rfl ?_;obtain ⟨c22, hc22⟩ := zY (x21 < (qC.length : Int));refine zV R3 (Val.lss hc22 rfl rfl) (zN (zS ?_));obtain ⟨rfl, hc22, h⟩ | ⟨rfl, hc22, h⟩ := zI hc22 h
  ·refine zC rfl (zK (zS (zB (zU rfl ?_))));obtain ⟨a23, hia23, ea23, h⟩ := el_some h;refine TO.fact (rdl_at qU M2 hia23 ea23) (fun hp=>?_);obtain ⟨pa23, hpa23, hva23⟩ := hp;refine zV R3 (hva23 ⟨rfl, rfl⟩ rfl rfl) (zV R3 (Val.load_es (c := [_, _, _, _]) hpa23 M2 ⟨⟨_, rfl, rfl⟩, rfl, by decide⟩ rfl rfl rfl) (zJ 4 [_,_,_,_] R7 (fun b6=>TO.eff0 rfl rfl (Eff.store_row (p := 0) (cv := [_, _, _, _]) (cells' := [_, _, _, _]) rfl rfl rfl rfl rfl rfl rfl rfl aG (by decide) rfl) ?_)));rintro _ rfl;refine zG (_::_::_::C) rfl (zN (zT rfl (zM R4 (zF 2 R6 (zL 0 R3 R6 (TO.build1 (en := encI) (a := a23.wide) rfl rfl rfl ⟨rfl, rfl⟩ ⟨_, rfl, rfl⟩ (by decide) (by decide) rfl rfl (fun v28=>?_)))))));obtain ⟨hk29, h⟩ := chk_some h;refine TO.eff rfl rfl rfl (Eff.append_own (b := 8) (en := encI) (l := l) (l2 := [a23.wide]) (p := 2) (q := 0) ⟨rfl, rfl, rfl, ⟨_, rfl, rfl⟩, by decide, by decide⟩ rfl rfl rfl rfl rfl rfl (flat_ones _) (by decide) hk29) ?_;rintro v29 _ rfl;refine zG (_::_::_::_::C) rfl (zA R4 (zN (zT rfl ?_)));obtain ⟨hk30, h⟩ := chk_some h;refine zV R3 (Val.add rfl rfl hk30) (zM R4 (zN ?_));cases h;exact ⟨rfl, v29, (sb (pk [2,2,98,98] rfl))⟩
  refine zD rfl (zE ?_);cases h;exact ⟨ex_ne, ⟨rfl, v4, (sb .refl)⟩⟩
 ·rintro l v4 h
  show T _ _ _ _ _ _;apply T.joinA (r := r) (W := Unit) (fun j w => ⟨[], [(2, v4)], ownL true v4 encI j :: C⟩) h
  ·intro j h;refine zU rfl (zF 0 R6 (zF 2 R6 (zL 1 R3 R6 (zV R3 (Val.len_l qT M2 rfl rfl) (zM R4 (zN (zB ?_)))))))
   show T _ _ _ _ _ _;apply T.iter (r := j) (W := Unit) (fun j w => ⟨[], [(2, v4), (33, qE), (34, iv ((qB.length : Int))), (35, iv (j.1))], ownL true v4 encI j.2 :: C⟩) (w0 := ()) h
   ·exact (sb (pk [0,98] rfl))
   rintro ⟨x35, l_2⟩ _ a h;unfold P_s9_Spare_L2 at h;dsimp only at h;dsimp only;refine zU rfl ?_;obtain ⟨c36, hc36⟩ := zY (x35 < (qB.length : Int));refine zV R3 (Val.lss hc36 rfl rfl) (zN (zS ?_));obtain ⟨rfl, hc36, h⟩ | ⟨rfl, hc36, h⟩ := zI hc36 h
   ·refine zC rfl (zK (zS (zB (zU rfl ?_))));obtain ⟨a37, hia37, ea37, h⟩ := el_some h;refine TO.fact (rdl_at qT M1 hia37 ea37) (fun hp=>?_);obtain ⟨pa37, hpa37, hva37⟩ := hp;refine zV R3 (hva37 ⟨rfl, rfl⟩ rfl rfl) (zV R3 (Val.load_es (c := [_, _, _, _, _, _, _]) hpa37 M1 ⟨⟨_, rfl, rfl⟩, rfl, by decide⟩ rfl rfl rfl) (zJ 7 [_,_,_,_,_,_,_] R7 (fun b8=>TO.eff0 rfl rfl (Eff.store_row (p := 0) (cv := [_, _, _, _, _, _, _]) (cells' := [_, _, _, _, _, _, _]) rfl rfl rfl rfl rfl rfl rfl rfl aG (by decide) rfl) ?_)));rintro _ rfl;refine zG (_::_::C) rfl (zN (T.drawE (l1 := [0, 1, 2, 3, 4, 5, 6, 7, 8]) (l2 := [9]) (by kernel_rfl) (by kernel_rfl) (yL R4 (Val.move rfl) (yL R4 (Val.faddr_ptr (fo := 6) rfl rfl rfl) (yR R4 (vR (p := 0) R6) ?_)))));obtain ⟨a42, hia42, ea42, h⟩ := el_some h;refine TD1.fact (own_at (en := encI) (p := 1) rfl hia42) (fun hp=>?_);obtain ⟨ida42, ata42⟩ := hp;refine yL R4 (Val.iaddr_at (en := encI) ata42 ⟨rfl, rfl⟩ rfl rfl hia42) (yR R4 (Val.load_ownL (en := encI) (p := 1) (j := 0) rfl ata42 ⟨_, rfl, rfl⟩ rfl ea42 rfl) (yL R4 (Val.faddr_ptr (fo := 3) rfl rfl rfl) (yR R4 (vR (p := 0) R6) ?_)));obtain ⟨hk46, h⟩ := chk_some h;refine yL R4 (Val.sub rfl rfl hk46) ?_;obtain ⟨a47, hia47, ea47, h⟩ := el_some h;refine TD1.fact (own_at (en := encI) (p := 1) rfl hia47) (fun hp=>?_);obtain ⟨ida47, ata47⟩ := hp;refine yL R4 (Val.iaddr_at (en := encI) ata47 ⟨rfl, rfl⟩ rfl rfl hia47) (TD1.over (fun v => sameC_refl v) (all_cons (⟨_, rfl, (vR (p := 0) R6)⟩) (all_cons (⟨_, rfl, (Val.load_ownL (en := encI) (p := 1) (j := 0) rfl ata42 ⟨_, rfl, rfl⟩ rfl ea42 rfl)⟩) (all_cons (⟨_, rfl, (vR (p := 0) R6)⟩) all_nil))) (TD2.heavy (fun v => sameC_refl v) rfl (by decide) rfl rfl (OpS.eff (Eff.store_ownE (en := encI) (p := 1) (a := a47) (a' := (a42 - a37.wide)) (j := 0) (cv := [_]) rfl ata47 ea47 rfl rfl (by decide) rfl rfl rfl rfl aG rfl)) ?_));rintro _ _ rfl;refine ⟨(all_cons (.inl (by kernel_rfl)) (all_cons (.inl (by kernel_rfl)) (all_cons (.inl (by kernel_rfl)) all_nil))), all_nil, ?_⟩;refine yG (_::_::C) rfl (TD2.nil (zT rfl ?_));obtain ⟨hk48, h⟩ := chk_some h;refine zV R3 (Val.add rfl rfl hk48) (zM R4 (zN ?_));cases h;exact ⟨rfl, (), (sb (pk [1,98] rfl))⟩
   refine zD rfl (zE ?_);cases h;exact ⟨ex_ne, ⟨rfl, (), (sb .refl)⟩⟩
  ·rintro l_2 _ h;refine zU rfl (zM R4 (zA R4 (zA R4 (zN (zR ?_)))));cases h;exact ⟨rfl, _, rfl, ⟨v4, rfl, .refl⟩⟩
theorem w_s9_Spare (qG : GS encStr) (qC : GS qW) (qB : GS qP) (r : (List Int) × Int) (h : P_s9_Spare qG.l qC.l qB.l = some r) : Comes (EL 1) 28 [.agg [qG.v, qC.v, qB.v]] (.tuple [(GSo true encI r.1).v, iv r.2]) :=
 TF.run (tf_s9_Spare (Nat.le_refl _) (RdT.gs qG) (RdT.gs qC) (RdT.gs qB) h) fun w => (.tuple (.cons (.ownL (en := encI) (p := 0) rfl (.lits encI_lits)) (.cons .lit .nil)))
end Go.Am.YtiaolgbmbhldgaaGreatDoor
end
section
namespace Go.Am.YtiaolgbmbhldgaaGreatDoor
open Go.Am Go.RowKit
set_option linter.unusedVariables false
set_option linter.unusedSimpArgs false
set_option maxRecDepth 10000 in
theorem tf_cmpOr {k : Nat} (hk : 0 ≤ k) {C : List Thing} {v_vals : AV} {vals : List Int} (h_vals : Rdl C encI v_vals vals) {r : Int} (h : P_cmpOr vals = some r) :
  TF (EL k) 129 [v_vals] C (RepF (fun (w : Unit) => iv r) (fun (w : Unit) => C)) := by
 unfold P_cmpOr at h;refine TF.enter (fn := Go.Proofs.Tryz.f129) rfl rfl rfl rfl rfl (zU rfl (zA R4 (zN (zU rfl (zA R4 (zN ?_))))))
 show T _ _ _ _ _ _;apply T.join (r := r) (W := Unit) (fun j w => ⟨[], [(3, iv (0))], C⟩) h
 ·intro j h;refine zU rfl (zM R4 (zV R3 (Val.len_l h_vals mem0 rfl rfl) (zM R4 (zN (zB ?_)))))
  show T _ _ _ _ _ _;apply T.iter (r := j) (W := Unit) (fun j w => ⟨[], [(3, iv (0)), (6, v_vals), (7, iv ((vals.length : Int))), (8, iv (j))], C⟩) (w0 := ()) h
  ·exact (sb .refl)
  rintro x8 _ a h;unfold P_cmpOr_L1 at h;refine zU rfl ?_;obtain ⟨c9, hc9⟩ := zY (x8 < (vals.length : Int));refine zV R3 (Val.lss hc9 rfl rfl) (zN (zS ?_));obtain ⟨rfl, hc9, h⟩ | ⟨rfl, hc9, h⟩ := zI hc9 h
  ·refine zC rfl (zK (zS (zB (zU rfl ?_))));obtain ⟨a10, hia10, ea10, h⟩ := el_some h;refine TO.fact (rdl_at h_vals mem0 hia10 ea10) (fun hp=>?_);obtain ⟨pa10, hpa10, hva10⟩ := hp;refine zV R3 (hva10 ⟨rfl, rfl⟩ rfl rfl) (zV R3 (Val.load_e hpa10 mem0 ⟨_, rfl, rfl⟩ rfl rfl) (zA R4 (zN (zU rfl (zM R4 (zM R4 ?_))))));obtain ⟨c14, hc14⟩ := zY (¬ a10 = 0);refine zV R3 (Val.neq hc14 rfl rfl) (zN ?_);obtain ⟨rfl, hc14, h⟩ | ⟨rfl, hc14, h⟩ := zI hc14 h
   ·refine zC rfl (zU rfl (zM R4 (zA R4 (zN (zR ?_)))));cases h;exact ⟨ret_ne, ⟨ret_ne, ⟨rfl, _, rfl, ⟨(), rfl, .refl⟩⟩⟩⟩
   refine zD rfl (zK (zT rfl ?_));obtain ⟨hk16, h⟩ := chk_some h;refine zV R3 (Val.add rfl rfl hk16) (zM R4 (zN ?_));cases h;exact ⟨rfl, (), (sb .refl)⟩
  refine zD rfl (zE ?_);cases h;exact ⟨ex_ne, ⟨rfl, (), (sb .refl)⟩⟩
 ·rintro _ _ h;refine zU rfl (zM R4 (zA R4 (zN (zR ?_))));cases h;exact ⟨rfl, _, rfl, ⟨(), rfl, .refl⟩⟩
set_option maxRecDepth 10000 in
theorem tf_cmpInt {k : Nat} (hk : 0 ≤ k) {C : List Thing} {x : Int} {y : Int} {r : Int} (h : P_cmpInt x y = some r) :
  TF (EL k) 89 [iv (x), iv (y)] C (RepF (fun (w : Unit) => iv r) (fun (w : Unit) => C)) := by
 unfold P_cmpInt at h;refine TF.enter (fn := Go.Proofs.Tryz.f89) rfl rfl rfl rfl rfl (zU rfl (zA R4 (zN (zU rfl (zM R4 (TO.callIn rfl rfl rfl rfl rfl rfl (orcN rfl) (TF.enter (fn := Go.Proofs.Tryz.f128) rfl rfl rfl rfl rfl (zU rfl (zA R4 (zN (zU rfl (zM R4 (zM R4 ?_)))))))))))));obtain ⟨c5, hc5⟩ := zY (¬ x = x);refine zV R3 (Val.neq hc5 rfl rfl) (zA R4 (zN (zR ?_)));refine ⟨rfl, _, rfl, ?_⟩;refine zA R4 (zN (zU rfl (zM R4 (TO.callIn rfl rfl rfl rfl rfl rfl (orcN rfl) (TF.enter (fn := Go.Proofs.Tryz.f128) rfl rfl rfl rfl rfl (zU rfl (zA R4 (zN (zU rfl (zM R4 (zM R4 ?_)))))))))));obtain ⟨c5_2, hc5_2⟩ := zY (¬ y = y);refine zV R3 (Val.neq hc5_2 rfl rfl) (zA R4 (zN (zR ?_)));refine ⟨rfl, _, rfl, ?_⟩;refine zA R4 (zN (zS (zU rfl (zM R4 (zN ?_)))));obtain ⟨rfl, hc5, h⟩ | ⟨rfl, hc5, h⟩ := zI hc5 h
 ·refine zC rfl (zS (zU rfl (zM R4 (zN ?_))));obtain ⟨rfl, hc5_2, h⟩ | ⟨rfl, hc5_2, h⟩ := zI hc5_2 h
  ·refine zC rfl (zU rfl (zA R4 (zN (zR ?_))));cases h;exact ⟨rfl, _, rfl, ⟨(), rfl, .refl⟩⟩
  refine zD rfl (zK (zU rfl (zA R4 (zN (zR ?_)))));cases h;exact ⟨rfl, _, rfl, ⟨(), rfl, .refl⟩⟩
 refine zD rfl (zK (zS (zU rfl (zM R4 (zN ?_)))));obtain ⟨rfl, hc5_2, h⟩ | ⟨rfl, hc5_2, h⟩ := zI hc5_2 h
 ·refine zC rfl (zU rfl (zA R4 (zN (zR ?_))));cases h;exact ⟨rfl, _, rfl, ⟨(), rfl, .refl⟩⟩
 refine zD rfl (zK (zS (zU rfl (zM R4 (zM R4 ?_)))));obtain ⟨c16, hc16⟩ := zY (x < y);refine zV R3 (Val.lss hc16 rfl rfl) (zN ?_);obtain ⟨rfl, hc16, h⟩ | ⟨rfl, hc16, h⟩ := zI hc16 h
 ·refine zC rfl (zU rfl (zA R4 (zN (zR ?_))));cases h;exact ⟨rfl, _, rfl, ⟨(), rfl, .refl⟩⟩
 refine zD rfl (zK (zS (zU rfl (zM R4 (zM R4 ?_)))));obtain ⟨c19, hc19⟩ := zY (x > y);refine zV R3 (Val.gtr hc19 rfl rfl) (zN ?_);obtain ⟨rfl, hc19, h⟩ | ⟨rfl, hc19, h⟩ := zI hc19 h
 ·refine zC rfl (zU rfl (zA R4 (zN (zR ?_))));cases h;exact ⟨rfl, _, rfl, ⟨(), rfl, .refl⟩⟩
 refine zD rfl (zK (zU rfl (zA R4 (zN (zR ?_)))));cases h;exact ⟨rfl, _, rfl, ⟨(), rfl, .refl⟩⟩
set_option maxRecDepth 10000 in
theorem tf_s9_compare {k : Nat} (hk : 0 ≤ k) {C : List Thing} {a_Class : Int} {a_Number : Int} {a_Suffix : Str} {b_Class : Int} {b_Number : Int} {b_Suffix : Str} {r : Int} (h : P_s9_compare a_Class a_Number a_Suffix b_Class b_Number b_Suffix = some r) :
  TF (EL k) 90 [.agg [iv (a_Class), iv (a_Number), sv a_Suffix], .agg [iv (b_Class), iv (b_Number), sv b_Suffix]] C (RepF (fun (w : Unit) => iv r) (fun (w : Unit) => C)) := by
 unfold P_s9_compare at h;refine TF.enter (fn := Go.Proofs.Tryz.f90) rfl rfl rfl rfl rfl (zU rfl (zQ 3 [_,_,_] R7 (fun b2=>zQ 3 [_,_,_] R7 (fun b3=>zA R4 (zN (zS (zU rfl (zV R3 (vW 1 [_,_,_] R5 R4) (zV R3 (vW 0 [_,_,_] R5 R4) ?_)))))))));obtain ⟨c7, hc7⟩ := zY (a_Class = b_Class ∧ a_Number = b_Number ∧ a_Suffix = b_Suffix);refine zV R3 (Val.binD hc7 rfl rfl (eql_ty28 _ _ _ _ _ _ _ _)) (zN ?_);obtain ⟨rfl, hc7, h⟩ | ⟨rfl, hc7, h⟩ := zI hc7 h
 ·refine zC rfl (zU rfl (zA R4 (zN (zR ?_))));cases h;exact ⟨rfl, _, rfl, ⟨(), rfl, (pk [98,98] rfl)⟩⟩
 refine zD rfl (zK (zS (T.drawE (l1 := [0, 1, 2, 3, 4, 5, 6, 7, 8, 9, 10, 11, 12, 13, 14, 15, 16, 17, 18, 19, 20]) (l2 := [21, 22, 23, 24]) (by kernel_rfl) (by kernel_rfl) (yL R4 (Val.faddr_ptr (fo := 0) rfl rfl rfl) (yR R4 (vR (p := 1) R6) (yL R4 (Val.faddr_ptr (fo := 0) rfl rfl rfl) (yR R4 (vR (p := 0) R6) ?_)))))));obtain ⟨hk12, h⟩ := chk_some h;refine yL R4 (Val.sub rfl rfl hk12) (yL R4 (Val.faddr_ptr (fo := 1) rfl rfl rfl) (yR R4 (vR (p := 1) R6) (yL R4 (Val.faddr_ptr (fo := 1) rfl rfl rfl) (yR R4 (vR (p := 0) R6) ?_))));obtain ⟨hk17, h⟩ := chk_some h;refine yL R4 (Val.sub rfl rfl hk17) (yL R4 (Val.faddr_ptr (fo := 2) rfl rfl rfl) (yR R4 (vR (p := 1) R6) (yR R4 (Val.len_str rfl rfl) (yL R4 (Val.faddr_ptr (fo := 2) rfl rfl rfl) (yR R4 (vR (p := 0) R6) (yR R4 (Val.len_str rfl rfl) ?_))))));obtain ⟨hk24, h⟩ := chk_some h;refine yL R4 (Val.sub rfl rfl hk24) (yL R4 (Val.faddr_ptr (fo := 2) rfl rfl rfl) (yR R4 (vR (p := 1) R6) (yL R4 (Val.faddr_ptr (fo := 2) rfl rfl rfl) (yR R4 (vR (p := 0) R6) (TD1.over (fun v => sameC_refl v) (all_cons (⟨_, rfl, (vR (p := 0) R6)⟩) (all_cons (⟨_, rfl, (vR (p := 1) R6)⟩) (all_cons (⟨_, rfl, (Val.len_str rfl rfl)⟩) (all_cons (⟨_, rfl, (vR (p := 0) R6)⟩) (all_cons (⟨_, rfl, (Val.len_str rfl rfl)⟩) (all_cons (⟨_, rfl, (vR (p := 1) R6)⟩) (all_cons (⟨_, rfl, (vR (p := 0) R6)⟩) (all_cons (⟨_, rfl, (vR (p := 1) R6)⟩) (all_cons (⟨_, rfl, (vR (p := 0) R6)⟩) (all_cons (⟨_, rfl, (vR (p := 1) R6)⟩) all_nil)))))))))) (TD2.heavy (fun v => sameC_refl v) rfl (by decide) rfl rfl (OpS.call (v := iv (cmpS a_Suffix b_Suffix)) rfl rfl rfl orcC (.cons .lit (.cons .lit .nil)) rfl) ?_))))));rintro _ _ ⟨rfl, rfl⟩;refine ⟨(all_cons (.inl (by kernel_rfl)) (all_cons (.inl (by kernel_rfl)) (all_cons (.inr ⟨_, rfl, (Val.len_str rfl rfl)⟩) (all_cons (.inr ⟨_, rfl, (vR (p := 0) R6)⟩) (all_cons (.inr ⟨_, rfl, (Val.len_str rfl rfl)⟩) (all_cons (.inr ⟨_, rfl, (vR (p := 1) R6)⟩) (all_cons (.inr ⟨_, rfl, (vR (p := 0) R6)⟩) (all_cons (.inr ⟨_, rfl, (vR (p := 1) R6)⟩) (all_cons (.inr ⟨_, rfl, (vR (p := 0) R6)⟩) (all_cons (.inr ⟨_, rfl, (vR (p := 1) R6)⟩) all_nil)))))))))), all_nil, ?_⟩;refine TD2.heavy (fun v => sameC_refl v) rfl (by decide) rfl rfl (OpS.eff (Eff.new (New.buildSlice (en := encI) (l := [(a_Class - b_Class), (a_Number - b_Number), ((a_Suffix.length : Int) - (b_Suffix.length : Int)), (cmpS a_Suffix b_Suffix)]) (vs := [(_, _), (_, _), (_, _), (_, _)]) (ws := [(_, [_]), (_, [_]), (_, [_]), (_, [_])]) ⟨rfl, rfl⟩ rfl rfl rfl rfl (CellsL.cons rfl (CellsL.cons rfl (CellsL.cons rfl (CellsL.cons rfl CellsL.nil)))) rfl rfl))) ?_;rintro _ _ ⟨v30, rfl, rfl⟩;refine ⟨(all_cons (.inl (by kernel_rfl)) (all_cons (.inl (by kernel_rfl)) (all_cons (.inl (by kernel_rfl)) (all_cons (.inl (by kernel_rfl)) (all_cons (.inl (by kernel_rfl)) (all_cons (.inl (by kernel_rfl)) (all_cons (.inl (by kernel_rfl)) (all_cons (.inl (by kernel_rfl)) (all_cons (.inl (by kernel_rfl)) (all_cons (.inl (by kernel_rfl)) all_nil)))))))))), all_nil, ?_⟩;refine TD2.less (Less.rowOwn (en := encI) (l := [(a_Class - b_Class), (a_Number - b_Number), ((a_Suffix.length : Int) - (b_Suffix.length : Int)), (cmpS a_Suffix b_Suffix)]) (p := 0) rfl) (yG (_::_::_::C) rfl ?_)
 obtain ⟨y31, hr31, h⟩ := andx_some h;refine TD2.heavy (fun v => sameC_refl v) rfl (by decide) rfl rfl (OpS.callV rfl rfl rfl rfl (orcN rfl) (RepF.conv (tf_cmpOr aD (Rdl.mono (Rdl.own (C := ownL false (.slice v30 0 (List.flatMap encI.f [(a_Class - b_Class), (a_Number - b_Number), ((a_Suffix.length : Int) - (b_Suffix.length : Int)), (cmpS a_Suffix b_Suffix)]).length true (List.length [(a_Class - b_Class), (a_Number - b_Number), ((a_Suffix.length : Int) - (b_Suffix.length : Int)), (cmpS a_Suffix b_Suffix)]) (List.length [(a_Class - b_Class), (a_Number - b_Number), ((a_Suffix.length : Int) - (b_Suffix.length : Int)), (cmpS a_Suffix b_Suffix)])) encI [(a_Class - b_Class), (a_Number - b_Number), ((a_Suffix.length : Int) - (b_Suffix.length : Int)), (cmpS a_Suffix b_Suffix)] :: .row b3 3 [iv (b_Class), iv (b_Number), sv b_Suffix] :: .row b2 3 [iv (a_Class), iv (a_Number), sv a_Suffix] :: C) (p := 0) rfl) mem0) hr31))) ?_;rintro _ hs_ ⟨_, rfl, he_⟩;subst hs_;refine ⟨(all_cons (.inl (by kernel_rfl)) (all_cons (.inl (by kernel_rfl)) (all_cons (.inl (by kernel_rfl)) (all_cons (.inl (by kernel_rfl)) (all_cons (.inl (by kernel_rfl)) (all_cons (.inl (by kernel_rfl)) (all_cons (.inl (by kernel_rfl)) (all_cons (.inl (by kernel_rfl)) (all_cons (.inl (by kernel_rfl)) (all_cons (.inl (by kernel_rfl)) all_nil)))))))))), all_nil, ?_⟩;refine yG (_::_::_::C) rfl (yM R4 (Val.assign rfl) (TD2.nil (zR ?_)));cases h;exact ⟨rfl, _, rfl, ⟨(), rfl, (pk [98,98,98] rfl)⟩⟩
end Go.Am.YtiaolgbmbhldgaaGreatDoor
end
section
namespace Go.Am
open Go.RowKit
set_option linter.unusedVariables false
set_option linter.unusedSimpArgs false
section
variable {E : Env} {d : Bool} {n : Nat} {rnd : Option Nat} {ops : Array Oper} {i : Nat} {ns : List Nat} {ms : List Dfr} {σ : Sl} {hs hs' : List Thing} {Q : Sy → Prop} {t : Tmp} {op : Op} {ty : TypeId} {pos : String} {af : Array Edge} {g : Option (Nat × Bool)} {C : List Thing}
theorem TO.makeEV {α : Type} {en : En α} (a0 : α) {st et : Nat} {x y : Operand} {m : Int} {b : Nat} {z : Value} (ho : ops[i]? = some ⟨some t, .makeSlice st x y, ty, pos, af, g⟩) (hd : Nat.blt t n = true) (hw : wantS ops σ g = some true)
  (ht : SliceT E st et en.u) (hb : E.byt et = some b) (hz : E.zro et = some z) (hzc : zeroCells z = en.f a0) (hx : evs σ x = some (iv m)) (hy : evs σ y = some (iv m)) (hm : 0 ≤ m ∧ m ≤ 1000000000) (hbb : b ≤ 256)
  (c : ∀ v', ViewOf v' en.u (List.replicate m.toNat a0).length 0 v' → TO E false n rnd ops ns ⟨ms, (t, v') :: σ, ownL false v' en (List.replicate m.toNat a0) :: hs⟩ Q) : TO E false n rnd ops (i :: ns) ⟨ms, σ, hs⟩ Q := by
 have e : ((m.toNat : Nat) : Int) = m := by omega
 have h2 : (b : Int) * (m.toNat : Nat) ≤ 256 * 1000000000 := by
  have : b * m.toNat ≤ 256 * 1000000000 := Nat.mul_le_mul hbb (by omega);exact Int.ofNat_le.2 this
 exact TO.makeEn a0 ho hd hw ht hb hz hzc (by rw [e]; exact hx) (by rw [e]; exact hy) (by omega) (by omega) fun v' h => c v' (by rw [List.length_replicate]; exact h)
def copyIn {α : Type} (l : List α) (k : Nat) (l2 : List α) : List α := l.take k ++ (l2 ++ l.drop (k + l2.length))
theorem copyIn_len {α : Type} {l l2 : List α} {k : Nat} (h : k + l2.length ≤ l.length) : (copyIn l k l2).length = l.length := by
 unfold copyIn;simp only [List.length_append, List.length_take, List.length_drop];omega
theorem copyIn_zero {α : Type} {l : List α} {k : Nat} : copyIn l k [] = l := by simp [copyIn]
theorem copyIn_splice {α : Type} {en : En α} {l l2 : List α} {k : Nat} : spliceL (l.flatMap en.f) (k * en.u) (l2.flatMap en.f) = (copyIn l k l2).flatMap en.f := by
 unfold spliceL copyIn
 have e : k * en.u + l2.length * en.u = (k + l2.length) * en.u := by rw [Nat.add_mul]
 rw [flat_take2, flat_len, e, flat_drop2, List.flatMap_append, List.flatMap_append, List.append_assoc]
theorem view_slice {α : Type} {en : En α} {l : List α} {k : Nat} {v w : AV} (hv : ViewOf v en.u l.length k w) {j : Int} (hj : 0 ≤ j ∧ (k : Int) + j ≤ l.length) :
  ∃ w', ViewOf v en.u l.length (k + j.toNat) w' ∧ ∀ {E : Env} {σ : Sl} {hs : List Thing} {st et p : Nat} {z : Bool} {x lo : Operand} (ht : SliceT E st et en.u) (hp : hs[p]? = some (ownL z v en l)) (hx : evs σ x = some w) (hlo : evs σ lo = some (iv j)), Val E σ hs (.slice st x (some lo) none none) w' := by
 obtain ⟨id, q, off, h1, h2, h3, h4⟩ := hv;obtain ⟨j, rfl⟩ := Int.eq_ofNat_of_zero_le hj.1;refine ⟨.slice id (bif Nat.beq (l.length - k) j then off else off + j * en.u) q true (l.length - k - j) (l.length - k - j), ⟨id, q, _, h1, by rw [Int.toNat_natCast, ← Nat.sub_sub], fun hlt => ?_, by simp only [Int.toNat_natCast]; omega⟩, ?_⟩
 ·simp only [Int.toNat_natCast] at hlt ⊢
  have e : Nat.beq (l.length - k) j = false := beq_false.2 (by omega);rw [e, cond_false, h3 (by omega), Nat.add_mul]
 intro E σ hs st et p z x lo ht hp hx hlo ev S he hS o ho
 have hq : ∃ fl, rowOf S id = .ok (l.flatMap en.f, en.u, fl) := by
  rcases hS.own hp with ⟨k0, k1, k2, k3⟩ | ⟨id', ex, k1, k2, k3, fl, k4, k5⟩
  ·rw [h1] at k1; cases k1
  ·rw [h1] at k1; cases k1; exact ⟨fl, by unfold rowOf; rw [k5]⟩
 obtain ⟨fl, er⟩ := hq
 have b1 : decide ((0 : Int) ≤ (j : Int)) = true := decide_eq_true (by omega)
 have b2 : decide ((j : Int) ≤ ((l.length - k : Nat) : Int)) = true := decide_eq_true (by omega)
 have b3 : Nat.beq en.u en.u = true := Nat.beq_refl _;unfold aop; rw [ho];simp only [Option.map_some, Option.map_none, he _ _ hx, he _ _ hlo, h2, aslice, ht.1, ht.2, ofOpt, Except.bind, isLitInt, Bool.false_and, cond_false, boundsOf, boundOf, intOf?, b1, b2, Bool.and_self, cond_true, er, b3, Bool.true_and, Bool.or_true, Bool.true_or, Int.toNat_natCast, newOf, valOf];rfl
theorem Eff.copyAt {α : Type} {en : En α} {l l2 : List α} {st e p k : Nat} {z : Bool} {v w w' : AV} {ts : Array TypeId} {x y : Operand} (ht : SliceT E st e en.u) (hu : en.u ≠ 0) (hts : ts[0]? = some st) (hp : hs[p]? = some (ownL z v en l))
  (hv : ViewOf v en.u l.length k w') (hq : Rdl C en w l2) (hC : ∀ x ∈ C, x ∈ hs) (hx : evs σ x = some w') (hy : evs σ y = some w) (hone : (l2.flatMap en.f).all oneCell = true) (hfit : k + l2.length ≤ l.length) :
  Eff E σ hs (.call { callee := .builtin .copy, args := #[x, y], argTypes := ts }) fun r hs' => r = iv l2.length ∧ hs' = hs.set p (ownL z v en (copyIn l k l2)) := fun ev S he hS o ho => by
 have hsrc : Src S w en.u l2.length (l2.flatMap en.f) := by
  rcases hq with ⟨gs, rfl, rfl⟩ | ⟨z2, hz⟩
  ·exact src_gs gs hone
  ·obtain ⟨q, hq⟩ := List.mem_iff_getElem?.1 (hC _ hz);exact src_own hS hq hone
 obtain ⟨s1, s2, s3, s4⟩ := hsrc;obtain ⟨id, q, off, h1, h2, h3, h4⟩ := hv
 have hown := hS.own hp
 have hmin : Nat.min l2.length (l.length - k) = l2.length := Nat.min_eq_left (by omega)
 have hl : lenOf? w' = .ok (l.length - k) := by rw [h2]; rfl
 unfold aop; rw [ho];simp only [acall, abuiltin, List.map_cons, List.map_nil, he _ _ hx, he _ _ hy, acopy, hts, ht.1, ht.2, ofOpt, Except.bind, s1, hl, hmin]
 by_cases h0 : l2.length = 0
 ·have e1 : l2 = [] := List.eq_nil_of_length_eq_zero h0;subst e1;refine ⟨_, S, hs.set p (ownL z v en l), by rw [h2]; rfl, ?_, rfl, by rw [copyIn_zero]⟩;exact hS.swap hp hown (.inl rfl)
 ·have b0 : Nat.beq l2.length 0 = false := beq_false.2 h0
  have b1 : Nat.beq en.u 0 = false := beq_false.2 hu
  have b2 : Nat.beq (l2.flatMap en.f).length (l2.length * en.u) = true := by rw [s3]; exact Nat.beq_refl _
  have hoff := h3 (by omega);simp only [b0, cond_false, b1, s2 h0, b2, cond_true, h2]
  rcases hown with ⟨k1, k2, k3, k4⟩ | ⟨id', ex, k1, k2, k3, fl, k4, k5⟩
  ·rw [h1] at k2; cases k2
  ·rw [h1] at k1;cases k1
   have er : rowOf S id = .ok (l.flatMap en.f, en.u, fl) := by unfold rowOf; rw [k5]
   have c1 : Nat.beq (l.flatMap en.f).length (l.flatMap en.f).length = true := Nat.beq_refl _
   have c2 : Nat.ble fl (l.flatMap en.f).length = true := Nat.ble_eq_true_of_le k4
   have hle : off + (l2.flatMap en.f).length ≤ (l.flatMap en.f).length := by
    rw [s3, flat_len, hoff, ← Nat.add_mul]; exact Nat.mul_le_mul_right _ hfit
   have c3 : Nat.ble (off + (l2.flatMap en.f).length) (l.flatMap en.f).length = true := Nat.ble_eq_true_of_le hle
   have hsp := copyIn_splice (en := en) (l := l) (l2 := l2) (k := k);rw [← hoff] at hsp;simp only [storeN, er, Except.bind, c1, c2, c3, s4, Bool.and_self, cond_true, hsp]
   have hlen : ((copyIn l k l2).flatMap en.f).length = (l.flatMap en.f).length := by rw [flat_len, flat_len, copyIn_len hfit]
   have hn := copyIn_len hfit;refine ⟨_, _, _, rfl, hS.writeAt hp (by rw [h1]; rfl) (y := ownL z v en (copyIn l k l2)) (by rw [h1]; rfl) (.inr ⟨id, true, ?_, by rw [flat_len], ?_, (l.flatMap en.f).length, by rw [hlen]; exact Nat.le_refl _, ?_⟩), rfl, rfl⟩
   ·rw [hlen, hn]; exact h1
   ·intro hz; rw [hn]; exact k3 hz
   ·rw [write_get, if_pos rfl]
end
end Go.Am
end
section
namespace Go.Am
set_option linter.unusedVariables false
noncomputable def P_w1_Has_L1 (list : List Int) (n : Int) : Int → Option (Stp Int (Ex Unit Bool)) := fun i =>
  if i < (list.length : Int) then
    el list i fun a14 =>
    if a14 = n then
      some (Stp.dn (Ex.rt true))
    else
      chk (I64 (i + 1)) (
        some (Stp.ag (i + 1)))
  else
    some (Stp.dn (Ex.nx ()))
noncomputable def P_w1_Has (list : List Int) (n : Int) : Option Bool :=
  seqx (
    iter (P_w1_Has_L1 list n) 0) fun _ =>
    some false
noncomputable def P_w1_Before_L1 (a_ : List Int) (b : List Int) : Int → Option (Stp Int (Ex Unit Bool)) := fun i =>
  seqx (
    andx (
      if i < (a_.length : Int) then
        some (decide (i < (b.length : Int)))
      else
        some false) fun x15 =>
      if x15 = true then
        some (Ex.nx ())
      else
        some (Ex.rt (Stp.dn (Ex.nx ())))) fun _ =>
    el a_ i fun a20 =>
    el b i fun a24 =>
    if ¬ a20 = a24 then
      el a_ i fun a29 =>
      el b i fun a33 =>
      some (Stp.dn (Ex.rt (decide (a29 < a33))))
    else
      chk (I64 (i + 1)) (
        some (Stp.ag (i + 1)))
noncomputable def P_w1_Before (a_ : List Int) (b : List Int) : Option Bool :=
  seqx (
    iter (P_w1_Before_L1 a_ b) 0) fun _ =>
    some (decide ((a_.length : Int) < (b.length : Int)))
noncomputable def P_w1_Ints_L1 (a_ : List Int) (b : List Int) : (Bool × Int) → Option (Stp (Bool × Int) Bool) := fun (same, i) =>
  seqx (
    andx (
      if same = true then
        some (true, decide (i < (a_.length : Int)))
      else
        some (false, false)) fun (same_2, x18) =>
      if x18 = true then
        some (Ex.nx ())
      else
        some (Ex.rt (Stp.dn same_2))) fun _ =>
    el a_ i fun a23 =>
    el b i fun a27 =>
    chk (I64 (i + 1)) (
      some (Stp.ag (decide (a23 = a27), (i + 1))))
noncomputable def P_w1_Ints (a_ : List Int) (b : List Int) : Option Bool :=
  andx (
    iter (P_w1_Ints_L1 a_ b) (decide ((a_.length : Int) = (b.length : Int)), 0)) fun same =>
    some same
noncomputable def P_r9_key_L1 (m_Suffix : Str) : (Int × (List Int)) → Option (Stp (Int × (List Int)) (List Int)) := fun (i, out) =>
  if i < (m_Suffix.length : Int) then
    chk (0 ≤ i ∧ i < (m_Suffix.length : Int)) (
      chk (-9223372036854775808 ≤ (byteAt m_Suffix i) ∧ (byteAt m_Suffix i) < 9223372036854775808) (
        chk (out.length + [(byteAt m_Suffix i)].length < 1000000000) (
          chk (I64 (i + 1)) (
            some (Stp.ag ((i + 1), out ++ [(byteAt m_Suffix i)]))))))
  else
    some (Stp.dn out)
noncomputable def P_r9_key (m_Class : Int) (m_Number : Int) (m_Suffix : Str) : Option (List Int) :=
  andx (
    iter (P_r9_key_L1 m_Suffix) (0, [m_Class, m_Number, (m_Suffix.length : Int)])) fun out =>
    some out
noncomputable def P_r9_First (a_Class : Int) (a_Number : Int) (a_Suffix : Str) (b_Class : Int) (b_Number : Int) (b_Suffix : Str) : Option Bool :=
 andx (P_r9_key a_Class a_Number a_Suffix) fun y6 =>
  andx (P_r9_key b_Class b_Number b_Suffix) fun y8 =>
   andx (P_w1_Before y6 y8) fun y9 =>
    some y9
noncomputable def P_r9_Ordered_L1 (books : List qA) : Int → Option (Stp Int (Ex Unit Bool)) := fun i =>
  if i < (books.length : Int) then
    chk (I64 (i - 1)) (
      el books (i - 1) fun a13 =>
      el books i fun a18 =>
      andx (P_r9_First a13.qR a13.qS a13.qQ a18.qR a18.qS a18.qQ) fun y21 =>
        if y21 = true then
          chk (I64 (i + 1)) (
            some (Stp.ag (i + 1)))
        else
          some (Stp.dn (Ex.rt false)))
  else
    some (Stp.dn (Ex.nx ()))
noncomputable def P_r9_Ordered (books : List qA) : Option Bool :=
  seqx (
    iter (P_r9_Ordered_L1 books) 1) fun _ =>
    some true
noncomputable def P_r9_Spare_L1 (qG : List Str) (qC : List qH) (qB : List qA) : (Int × (List Int)) → Option (Stp (Int × (List Int)) (List Int)) := fun (i, out) =>
  if i < (qC.length : Int) then
    el qC i fun a29 =>
    andx (P_r9_Own qB) fun y37 =>
      andx (P_r9_Filled qG qC qB qB y37 i) fun y39 =>
        chk (I64 (a29.wide - y39)) (
          chk (out.length + [(a29.wide - y39)].length < 1000000000) (
            chk (I64 (i + 1)) (
              some (Stp.ag ((i + 1), out ++ [(a29.wide - y39)])))))
  else
    some (Stp.dn out)
noncomputable def P_r9_Spare (qG : List Str) (qC : List qH) (qB : List qA) : Option ((List Int) × Int) :=
  andx (P_r9_Check qG qC qB) fun (y11, y11_2, y11_3) =>
    if ¬ y11_3 = 0 then
      some ([], y11_3)
    else
      andx (
        iter (P_r9_Spare_L1 qG qC qB) (0, [])) fun out =>
        some (out, 0)
noncomputable def P_r9_Less_L1 (books : List qA) (l : List Int) : (Int × (List qA)) → Option (Stp (Int × (List qA)) (List qA)) := fun (i, out) =>
  if i < (books.length : Int) then
    andx (
      andx (P_w1_Has l i) fun y15 =>
        if y15 = true then
          some out
        else
          el books i fun a20 =>
          chk (out.length + [a20].length < 1000000000) (
            some (out ++ [a20]))) fun out_2 =>
      chk (I64 (i + 1)) (
        some (Stp.ag ((i + 1), out_2)))
  else
    some (Stp.dn out)
noncomputable def P_r9_Less (books : List qA) (l : List Int) : Option (List qA) :=
  andx (
    iter (P_r9_Less_L1 books l) (0, [])) fun out =>
    some out
noncomputable def P_r9_Further (qG : List Str) (qC : List qH) (qB : List qA) (qK : Int) (qL : Int) (qM : Str) (qJ : Int) (qI : Int) (qN : Int) (qO : Int) : Option Int :=
  andx (P_r9_Check qG qC qB) fun (y10, y10_2, y10_3) =>
    andx (
      if y10_3 = 0 then
        andx (P_r9_Book qG qC qB qK qL qM qJ qI qN qO qB) fun y20 =>
          some y20
      else
        some y10_3) fun e =>
      andx (
        andx (
          if e = 0 then
            andx (P_r9_Ordered qB) fun y26 =>
              some (!y26)
          else
            some false) fun x28 =>
          if x28 = true then
            some 2
          else
            some e) fun e_2 =>
        some e_2
noncomputable def P_r9_With_L1 (books : List qA) (b : qA) : Int → Option (Stp Int Int) := fun at_ =>
  seqx (
    andx (
      if at_ < (books.length : Int) then
        el books at_ fun a15 =>
        andx (P_r9_First a15.qR a15.qS a15.qQ b.qR b.qS b.qQ) fun y20 =>
          some y20
      else
        some false) fun x21 =>
      if x21 = true then
        some (Ex.nx ())
      else
        some (Ex.rt (Stp.dn at_))) fun _ =>
    chk (I64 (at_ + 1)) (
      some (Stp.ag (at_ + 1)))
noncomputable def P_r9_With (books : List qA) (b : qA) : Option ((List qA) × Int) :=
  andx (
    iter (P_r9_With_L1 books b) 0) fun at_ =>
    chk (0 ≤ (0 : Int) ∧ (0 : Int) ≤ at_ ∧ at_ ≤ (books.length : Int)) (
      chk (([] : List qA).length + (List.take (at_ - (0 : Int)).toNat (List.drop ((0 : Int) : Int).toNat books)).length < 1000000000) (
        chk ((([] : List qA) ++ (List.take (at_ - (0 : Int)).toNat (List.drop ((0 : Int) : Int).toNat books))).length + [(⟨b.qR, b.qS, b.qQ, b.wide, b.high, b.heavy, b.shelf⟩ : qA)].length < 1000000000) (
          chk (0 ≤ at_ ∧ at_ ≤ (books.length : Int) ∧ (books.length : Int) ≤ (books.length : Int)) (
            chk (((([] : List qA) ++ (List.take (at_ - (0 : Int)).toNat (List.drop ((0 : Int) : Int).toNat books))) ++ [(⟨b.qR, b.qS, b.qQ, b.wide, b.high, b.heavy, b.shelf⟩ : qA)]).length + (List.take ((books.length : Int) - at_).toNat (List.drop (at_ : Int).toNat books)).length < 1000000000) (
              some (((([] : List qA) ++ (List.take (at_ - (0 : Int)).toNat (List.drop ((0 : Int) : Int).toNat books))) ++ [(⟨b.qR, b.qS, b.qQ, b.wide, b.high, b.heavy, b.shelf⟩ : qA)]) ++ (List.take ((books.length : Int) - at_).toNat (List.drop (at_ : Int).toNat books)), at_))))))
noncomputable def P_r9_Arranged_L1 (shelves : List Int) : Int → Option (Stp Int (Ex Unit Bool)) := fun i =>
  if i < (shelves.length : Int) then
    el shelves i fun a17 =>
    chk (I64 (i - 1)) (
      el shelves (i - 1) fun a22 =>
      if a17 < a22 then
        some (Stp.dn (Ex.rt false))
      else
        chk (I64 (i + 1)) (
          some (Stp.ag (i + 1))))
  else
    some (Stp.dn (Ex.nx ()))
noncomputable def P_r9_Arranged_L2 (qG : List Str) (qC : List qH) (qB : List qA) (books : List qA) (shelves : List Int) : Int → Option (Stp Int (Ex Unit Bool)) := fun s =>
  if s < (qC.length : Int) then
    andx (P_r9_fit qG qC qB books shelves s) fun y36 =>
      if y36 = true then
        chk (I64 (s + 1)) (
          some (Stp.ag (s + 1)))
      else
        some (Stp.dn (Ex.rt false))
  else
    some (Stp.dn (Ex.nx ()))
noncomputable def P_r9_Arranged (qG : List Str) (qC : List qH) (qB : List qA) (books : List qA) (shelves : List Int) : Option Bool :=
  seqx (
    iter (P_r9_Arranged_L1 shelves) 1) fun _ =>
    seqx (
      iter (P_r9_Arranged_L2 qG qC qB books shelves) 0) fun _ =>
      some true
noncomputable def P_r9_Moved_L1 (books : List qA) (shelves : List Int) (but : Int) : (Int × Int) → Option (Stp (Int × Int) Int) := fun (n, i) =>
  if i < (books.length : Int) then
    andx (
      andx (
        if ¬ i = but then
          el shelves i fun a21 =>
          el books i fun a25 =>
          some (decide (¬ a21 = a25.shelf))
        else
          some false) fun x29 =>
        if x29 = true then
          chk (I64 (n + 1)) (
            some (n + 1))
        else
          some n) fun n_2 =>
      chk (I64 (i + 1)) (
        some (Stp.ag (n_2, (i + 1))))
  else
    some (Stp.dn n)
noncomputable def P_r9_Moved (books : List qA) (shelves : List Int) (but : Int) : Option Int :=
  andx (
    iter (P_r9_Moved_L1 books shelves but) (0, 0)) fun n =>
    some n
noncomputable def P_r9_Fits_L1 (qG : List Str) (qC : List qH) (qB : List qA) (y22 : List qA) (y22_2 : Int) : (Int × (List Int)) → Option (Stp (Int × (List Int)) (List Int)) := fun (s, out) =>
  if s < (qC.length : Int) then
    andx (
      andx (P_r9_Own y22) fun y33 =>
        el y33 y22_2 fun a37 =>
        andx (P_r9_Arranged qG qC qB y22 (List.set y33 y22_2.toNat s)) fun y41 =>
          if y41 = true then
            chk (out.length + [s].length < 1000000000) (
              some (out ++ [s]))
          else
            some out) fun out_2 =>
      chk (I64 (s + 1)) (
        some (Stp.ag ((s + 1), out_2)))
  else
    some (Stp.dn out)
noncomputable def P_r9_Fits (qG : List Str) (qC : List qH) (qB : List qA) (qK : Int) (qL : Int) (qM : Str) (qJ : Int) (qI : Int) (qN : Int) (qO : Int) : Option ((List Int) × Int) :=
  andx (P_r9_Further qG qC qB qK qL qM qJ qI qN qO) fun y14 =>
    if ¬ y14 = 0 then
      some ([], y14)
    else
      andx (P_r9_With qB (⟨qK, qL, qM, qJ, qI, qN, qO⟩ : qA)) fun (y22, y22_2) =>
        andx (
          iter (P_r9_Fits_L1 qG qC qB y22 y22_2) (0, [])) fun out =>
          some (out, 0)
noncomputable def P_s9_ordered_L1 (l : List qA) : Int → Option (Stp Int (Ex Unit Bool)) := fun i =>
  if i > 0 then
    el l i fun a16 =>
    chk (I64 (i - 1)) (
      el l (i - 1) fun a21 =>
      andx (
        andx (P_s9_compare a16.qR a16.qS a16.qQ a21.qR a21.qS a21.qQ) fun y9 =>
          some y9) fun y23 =>
        if y23 < 0 then
          some (Stp.dn (Ex.rt false))
        else
          chk (I64 (i - 1)) (
            some (Stp.ag (i - 1))))
  else
    some (Stp.dn (Ex.nx ()))
noncomputable def P_s9_ordered (l : List qA) : Option Bool :=
  andx (
    seqx (
      chk (I64 ((l.length : Int) - 1)) (
        iter (P_s9_ordered_L1 l) ((l.length : Int) - 1))) fun _ =>
      some true) fun y4 =>
    some y4
noncomputable def P_s9_enter_L1 (qB : List qA) (b : qA) : Int → Option (Stp Int Int) := fun at_ =>
  seqx (
    andx (
      if at_ < (qB.length : Int) then
        el qB at_ fun a41 =>
        andx (P_s9_compare a41.qR a41.qS a41.qQ b.qR b.qS b.qQ) fun y46 =>
          some (decide (y46 < 0))
      else
        some false) fun x48 =>
      if x48 = true then
        some (Ex.nx ())
      else
        some (Ex.rt (Stp.dn at_))) fun _ =>
    chk (I64 (at_ + 1)) (
      some (Stp.ag (at_ + 1)))
noncomputable def P_s9_enter (qG : List Str) (qC : List qH) (qB : List qA) (b : qA) : Option (Sum (Int × Int) ((List qA) × Int × Int)) :=
  andx (P_s9_open qG qC qB) fun y9 =>
    if ¬ y9 = 0 then
      some (Sum.inl (0, y9))
    else
      andx (P_s9_book qG qC qB b.qR b.qS b.qQ b.wide b.high b.heavy b.shelf qB) fun y20 =>
        if ¬ y20 = 0 then
          some (Sum.inl (0, y20))
        else
          andx (P_s9_ordered qB) fun y29 =>
            if y29 = true then
              andx (
                iter (P_s9_enter_L1 qB b) 0) fun at_ =>
                chk (I64 ((qB.length : Int) + 1)) (
                  chk (0 ≤ ((qB.length : Int) + 1) ∧ ((qB.length : Int) + 1) ≤ 1000000000) (
                    chk (0 ≤ (0 : Int) ∧ (0 : Int) ≤ at_ ∧ at_ ≤ (qB.length : Int)) (
                      chk (0 + (List.take (at_ - (0 : Int)).toNat (List.drop ((0 : Int) : Int).toNat qB)).length ≤ (List.replicate ((qB.length : Int) + 1).toNat (⟨0, 0, ([] : Str), 0, 0, 0, 0⟩ : qA)).length) (
                        chk (I64 (at_ + 1)) (
                          chk (0 ≤ (at_ + 1) ∧ (at_ + 1) ≤ ((copyIn (List.replicate ((qB.length : Int) + 1).toNat (⟨0, 0, ([] : Str), 0, 0, 0, 0⟩ : qA)) 0 (List.take (at_ - (0 : Int)).toNat (List.drop ((0 : Int) : Int).toNat qB))).length : Int)) (
                            chk (0 ≤ at_ ∧ at_ ≤ (qB.length : Int) ∧ (qB.length : Int) ≤ (qB.length : Int)) (
                              chk ((0 + ((at_ + 1)).toNat) + (List.take ((qB.length : Int) - at_).toNat (List.drop (at_ : Int).toNat qB)).length ≤ (copyIn (List.replicate ((qB.length : Int) + 1).toNat (⟨0, 0, ([] : Str), 0, 0, 0, 0⟩ : qA)) 0 (List.take (at_ - (0 : Int)).toNat (List.drop ((0 : Int) : Int).toNat qB))).length) (
                                el (copyIn (copyIn (List.replicate ((qB.length : Int) + 1).toNat (⟨0, 0, ([] : Str), 0, 0, 0, 0⟩ : qA)) 0 (List.take (at_ - (0 : Int)).toNat (List.drop ((0 : Int) : Int).toNat qB))) (0 + ((at_ + 1)).toNat) (List.take ((qB.length : Int) - at_).toNat (List.drop (at_ : Int).toNat qB))) at_ fun a82 =>
                                some (Sum.inr (List.set (copyIn (copyIn (List.replicate ((qB.length : Int) + 1).toNat (⟨0, 0, ([] : Str), 0, 0, 0, 0⟩ : qA)) 0 (List.take (at_ - (0 : Int)).toNat (List.drop ((0 : Int) : Int).toNat qB))) (0 + ((at_ + 1)).toNat) (List.take ((qB.length : Int) - at_).toNat (List.drop (at_ : Int).toNat qB))) at_.toNat (⟨b.qR, b.qS, b.qQ, b.wide, b.high, b.heavy, b.shelf⟩ : qA), at_, 0))))))))))
            else
              some (Sum.inl (0, 2))
noncomputable def P_s9_Astray_L2 (qB : List qA) (found : Bool) (x24 : Int) (best : List Int) : (Int × Int × (List Int)) → Option (Stp (Int × Int × (List Int)) (Ex (List Int) (Bool × (List Int)))) := fun (last, x31, l) =>
  if x31 < (qB.length : Int) then
    seqx (
      el qB x31 fun a34 =>
      chk (0 ≤ x31 ∧ x31 < 64) (
        if (andI (shrI x24 x31) 1) = 1 then
          chk (l.length + [x31].length < 1000000000) (
            some (Ex.nx (last, l ++ [x31])))
        else
          andx (
            if last ≥ 0 then
              el qB last fun a55 =>
              andx (P_s9_compare a55.qR a55.qS a55.qQ a34.qR a34.qS a34.qQ) fun y60 =>
                some (decide (y60 > 0))
            else
              some false) fun x47 =>
            if x47 = true then
              some (Ex.rt (Stp.dn (Ex.rt (found, best))))
            else
              some (Ex.nx (x31, l)))) fun (last_2, l_2) =>
      chk (I64 (x31 + 1)) (
        some (Stp.ag (last_2, (x31 + 1), l_2)))
  else
    some (Stp.dn (Ex.nx l))
noncomputable def P_s9_Astray_L3 (best : List Int) (l : List Int) : Int → Option (Stp Int (Ex Unit Int)) := fun x11 =>
  if x11 < (l.length : Int) then
    el l x11 fun a14 =>
    if x11 ≥ (best.length : Int) then
      some (Stp.dn (Ex.rt 1))
    else
      el best x11 fun a22 =>
      andx (P_cmpInt a14 a22) fun y26 =>
        if ¬ y26 = 0 then
          some (Stp.dn (Ex.rt y26))
        else
          chk (I64 (x11 + 1)) (
            some (Stp.ag (x11 + 1)))
  else
    some (Stp.dn (Ex.nx ()))
noncomputable def P_s9_Astray_L1 (qB : List qA) : (Bool × Int × (List Int)) → Option (Stp (Bool × Int × (List Int)) (List Int)) := fun (found, x24, best) =>
  if x24 < (shlI 1 (qB.length : Int)) then
    andx (
      seqx (
        iter (P_s9_Astray_L2 qB found x24 best) ((-1), 0, [])) fun l =>
        andx (
          if found = true then
            if (l.length : Int) < (best.length : Int) then
              some (true, true)
            else
              if (l.length : Int) = (best.length : Int) then
                andx (
                  seqx (
                    iter (P_s9_Astray_L3 best l) 0) fun _ =>
                    if (l.length : Int) < (best.length : Int) then
                      some (-1)
                    else
                      some 0) fun y82 =>
                  some (true, decide (y82 < 0))
              else
                some (true, false)
          else
            some (false, true)) fun (found_2, x85) =>
          if x85 = true then
            some (true, l)
          else
            some (found_2, best)) fun (found_2, best_2) =>
      chk (I64 (x24 + 1)) (
        some (Stp.ag (found_2, (x24 + 1), best_2)))
  else
    some (Stp.dn best)
noncomputable def P_s9_Astray (qG : List Str) (qC : List qH) (qB : List qA) : Option ((List Int) × Int) :=
  andx (P_s9_open qG qC qB) fun y13 =>
    if ¬ y13 = 0 then
      some ([], y13)
    else
      andx (
        chk ((0 ≤ (qB.length : Int) ∧ (qB.length : Int) < 64) ∧ I64 (shlI 1 (qB.length : Int))) (
          iter (P_s9_Astray_L1 qB) (false, 0, []))) fun best =>
        some (best, 0)
end Go.Am
end
