/- Part 23. -/
import Derived.Test.YtgbbhdoobhdadaaGreatDoorTP1
import Derived.Test.YtgbbhdoobhdadaaGreatDoorTP2
import Derived.Test.YtgbbhdoobhdadaaGreatDoorTP20
import Derived.Test.YtgbbhdoobhdadaaGreatDoorTP22
import Derived.Test.YtgbbhdoobhdadaaGreatDoorTP21
import Derived.Shelf.SlSortCmp.Whole1
import Derived.Shelf.SlSortCmp.NoneTotal
section
namespace Go.Am.YtgbbhdoobhdadaaGreatDoor
open Go.Am Go.RowKit
def lev : Nat → Option Nat
 | 3 => some 2
 | 4 => some 0
 | 5 => some 0
 | 8 => some 1
 | 9 => some 1
 | 91 => some 0
 | 92 => some 0
 | _ => none
noncomputable def baseE : Orc' := fun f => match f with | 6 => some (table [([], .lit (.bool true))]) | 7 => some (table [([], .lit (.bool true))]) | 103 => some cmpT | _ => none
theorem baseE_ok : ∀ f g, baseE f = some g → Meets Go.Proofs.Tryz.prog f g := fun f g h => by
 unfold baseE at h;split at h
 ·cases h; exact Closed.awake_meets
 ·cases h; exact Closed.awake_meets7
 ·cases h; exact cmp_meets
 ·cases h
noncomputable def EL (k : Nat) : Env := envS (orsB baseE envS lev k)
theorem EL_good (k : Nat) : EnvGood (EL k) := orsB_good (P := Go.Proofs.Tryz.prog) (fun _ => rfl) (fun _ => rfl) baseE_ok (fun _ h => goodS h) (fun _ => rfl) k
theorem orcL {f j k : Nat} (h : lev f = some j) (hk : j < k) : (EL k).orc f = some (sem (EL j) f) := orsLB (fun _ => rfl) h hk
theorem orcN {f k : Nat} (h : levB baseE lev f = none) : (EL k).orc f = none := orsNB (fun _ => rfl) h
theorem orcA7 {k : Nat} : (EL k).orc 7 = some (table [([], .lit (.bool true))]) := by
 show orsB baseE envS lev k 7 = _;rw [orsB_base rfl];rfl
theorem orcA {k : Nat} : (EL k).orc 6 = some (table [([], .lit (.bool true))]) := by
 show orsB baseE envS lev k 6 = _;rw [orsB_base rfl];rfl
theorem hu_cv2 : pureVal Go.Proofs.Tryz.prog (underlying 2) = some Go.Proofs.Tryz.t2.desc := by kernel_rfl
theorem hu_cv3 : pureVal Go.Proofs.Tryz.prog (underlying 3) = some Go.Proofs.Tryz.t3.desc := by kernel_rfl
theorem hu_cv5 : pureVal Go.Proofs.Tryz.prog (underlying 5) = some Go.Proofs.Tryz.t5.desc := by kernel_rfl
theorem hu_cv175 : pureVal Go.Proofs.Tryz.prog (underlying 175) = some Go.Proofs.Tryz.t175.desc := by kernel_rfl
theorem hu_cv216 : pureVal Go.Proofs.Tryz.prog (underlying 216) = some Go.Proofs.Tryz.t216.desc := by kernel_rfl
theorem hu_cv218 : pureVal Go.Proofs.Tryz.prog (underlying 218) = some Go.Proofs.Tryz.t218.desc := by kernel_rfl
theorem hu_cv232 : pureVal Go.Proofs.Tryz.prog (underlying 232) = some Go.Proofs.Tryz.t218.desc := by kernel_rfl
theorem cv_ty5_3 {k : Nat} {a : Int} (h : -9223372036854775808 ≤ a ∧ a < 9223372036854775808) : pureVal (EL k).P (convert 5 3 (.int .u8 a)) = some (.int .i64 a) := pure_conv (P := Go.Proofs.Tryz.prog) hu_cv5 hu_cv3 (wrap_id h.1 h.2)
theorem cv_ty175_3 {k : Nat} {a : Int} (h : -9223372036854775808 ≤ a ∧ a < 9223372036854775808) : pureVal (EL k).P (convert 175 3 (.int .u64 a)) = some (.int .i64 a) := pure_conv (P := Go.Proofs.Tryz.prog) hu_cv175 hu_cv3 (wrap_id h.1 h.2)
theorem cv_ty218_2 {k : Nat} {a : Int} (h : -9223372036854775808 ≤ a ∧ a < 9223372036854775808) : pureVal (EL k).P (convert 218 2 (.int .u64 a)) = some (.int .i64 a) := pure_conv (P := Go.Proofs.Tryz.prog) hu_cv218 hu_cv2 (wrap_id h.1 h.2)
theorem hu_ty90 : pureVal Go.Proofs.Tryz.prog (underlying 90) = some Go.Proofs.Tryz.t89.desc := by kernel_rfl
theorem hu_ty46 : pureVal Go.Proofs.Tryz.prog (underlying 46) = some Go.Proofs.Tryz.t45.desc := by kernel_rfl
theorem eql_ty46 {k : Nat} (x y : Operand) (a0 : Int) (a1 : Int) (a2 : Str) (b0 : Int) (b1 : Int) (b2 : Str) : abin (EL k) .eql 46 x y (.agg [iv a0, iv a1, sv a2]) (.agg [iv b0, iv b1, sv b2]) = .ok (bv (a0 == b0 && a1 == b1 && a2 == b2)) ∧ ((a0 == b0 && a1 == b1 && a2 == b2) = true ↔ a0 = b0 ∧ a1 = b1 ∧ a2 = b2) := by
 refine ⟨abin_agg (A := .agg #[.int .i64 a0, .int .i64 a1, .string ⟨a2.toArray⟩]) (B := .agg #[.int .i64 b0, .int .i64 b1, .string ⟨b2.toArray⟩]) (by simp) rfl rfl ?_ (bin_eql (pure_eqF3 (hu_ty46) ?_ (.int (by decide) ⟨.i64, by kernel_rfl⟩ (by kernel_rfl) (by kernel_rfl)) (.int (by decide) ⟨.i64, by kernel_rfl⟩ (by kernel_rfl) (by kernel_rfl)) (.str (by decide) (by kernel_rfl) (by kernel_rfl) (by kernel_rfl)))), by by_cases h0 : a0 = b0 <;> by_cases h1 : a1 = b1 <;> by_cases h2 : a2 = b2 <;> simp [h0, h1, h2]⟩
 all_goals kernel_rfl
theorem eql_ty90 {k : Nat} (x y : Operand) (a0 a1 b0 b1 : Int) : abin (EL k) .eql 90 x y (.agg [iv a0, iv a1]) (.agg [iv b0, iv b1]) = .ok (bv (a0 == b0 && a1 == b1)) ∧ ((a0 == b0 && a1 == b1) = true ↔ a0 = b0 ∧ a1 = b1) := by
 refine ⟨abin_agg (A := .agg #[.int .i64 a0, .int .i64 a1]) (B := .agg #[.int .i64 b0, .int .i64 b1]) (by simp) rfl rfl ?_ (bin_eql (pure_eq2 (hu_ty90) ?_ ⟨by decide, ⟨.i64, by kernel_rfl⟩, by kernel_rfl⟩ ⟨by decide, ⟨.i64, by kernel_rfl⟩, by kernel_rfl⟩ ⟨by decide, ⟨.i64, by kernel_rfl⟩, by kernel_rfl⟩ ⟨by decide, ⟨.i64, by kernel_rfl⟩, by kernel_rfl⟩)), by by_cases h0 : a0 = b0 <;> by_cases h1 : a1 = b1 <;> simp [h0, h1]⟩
 all_goals kernel_rfl
end Go.Am.YtgbbhdoobhdadaaGreatDoor
end
section
namespace Go.Am
set_option linter.unusedVariables false
structure qD where
 away : Int
 climb : Int
 wide : Int
 high : Int
def qZ : En qD := ⟨4, fun x => [iv x.away, iv x.climb, iv x.wide, iv x.high], fun _ => rfl⟩
theorem qBe : qZ.Tr := fun _ _ _ => .cons .lit (.cons .lit (.cons .lit (.cons .lit (.nil))))
structure qA where
 qL : Int
 qM : Int
 qN : Str
 wide : Int
 high : Int
 heavy : Int
 shelf : Int
def qS : En qA := ⟨7, fun x => [iv x.qL, iv x.qM, sv x.qN, iv x.wide, iv x.high, iv x.heavy, iv x.shelf], fun _ => rfl⟩
theorem qBd : qS.Tr := fun _ _ _ => .cons .lit (.cons .lit (.cons .lit (.cons .lit (.cons .lit (.cons .lit (.cons .lit (.nil)))))))
structure qX where
 name : Str
 classv : Int
 light_lo : Int
 light_hi : Int
 large : Bool
def qJ : En qX := ⟨5, fun x => [sv x.name, iv x.classv, iv x.light_lo, iv x.light_hi, bv x.large], fun _ => rfl⟩
theorem qBf : qJ.Tr := fun _ _ _ => .cons .lit (.cons .lit (.cons .lit (.cons .lit (.cons .lit (.nil)))))
structure qAa where
 name : Str
 permit : Int
def qR : En qAa := ⟨2, fun x => [sv x.name, iv x.permit], fun _ => rfl⟩
theorem qBg : qR.Tr := fun _ _ _ => .cons .lit (.cons .lit (.nil))
structure qAe where
 light : Int
 small : Bool
def qQ : En qAe := ⟨2, fun x => [iv x.light, bv x.small], fun _ => rfl⟩
theorem qCa : qQ.Tr := fun _ _ _ => .cons .lit (.cons .lit (.nil))
structure qY where
 reader : Int
 book : Int
 hours : Int
 worth : Int
def qK : En qY := ⟨4, fun x => [iv x.reader, iv x.book, iv x.hours, iv x.worth], fun _ => rfl⟩
theorem qBh : qK.Tr := fun _ _ _ => .cons .lit (.cons .lit (.cons .lit (.cons .lit (.nil))))
end Go.Am
end
section
namespace Go.Am
set_option linter.unusedVariables false
noncomputable def P_r9_in (n : Int) (low : Int) (high : Int) : Option Bool :=
  andx (
    if low ≤ n then
      some (decide (n ≤ high))
    else
      some false) fun x6 =>
    some x6
noncomputable def P_r9_letters_L1 (s : Str) : Int → Option (Stp Int (Ex Unit Bool)) := fun i =>
  if i < (s.length : Int) then
    seqx (
      andx (
        chk (0 ≤ i ∧ i < (s.length : Int)) (
          if (byteAt s i) < 97 then
            some true
          else
            chk (0 ≤ i ∧ i < (s.length : Int)) (
              some (decide ((byteAt s i) > 122))))) fun x19 =>
        if x19 = true then
          some (Ex.rt (Stp.dn (Ex.rt false)))
        else
          some (Ex.nx ())) fun _ =>
      chk (I64 (i + 1)) (
        some (Stp.ag (i + 1)))
  else
    some (Stp.dn (Ex.nx ()))
noncomputable def P_r9_letters (s : Str) : Option Bool :=
  seqx (
    iter (P_r9_letters_L1 s) 0) fun _ =>
    some true
noncomputable def P_r1_Name_L1 (s : Str) : Int → Option (Stp Int (Ex Unit Bool)) := fun i =>
  if i < (s.length : Int) then
    seqx (
      andx (
        chk (0 ≤ i ∧ i < (s.length : Int)) (
          andx (
            if (byteAt s i) ≥ 97 then
              some (decide ((byteAt s i) ≤ 122))
            else
              some false) fun x2 =>
            if x2 = true then
              some false
            else
              if i = 0 then
                some true
              else
                chk (0 ≤ i ∧ i < (s.length : Int)) (
                  andx (
                    if (byteAt s i) ≥ 48 then
                      some (decide ((byteAt s i) ≤ 57))
                    else
                      some false) fun x2_2 =>
                    if x2_2 = true then
                      some false
                    else
                      chk (0 ≤ i ∧ i < (s.length : Int)) (
                        some (decide (¬ (byteAt s i) = 46)))))) fun x39 =>
        if x39 = true then
          some (Ex.rt (Stp.dn (Ex.rt false)))
        else
          some (Ex.nx ())) fun _ =>
      chk (I64 (i + 1)) (
        some (Stp.ag (i + 1)))
  else
    some (Stp.dn (Ex.nx ()))
noncomputable def P_r1_Name (s : Str) : Option Bool :=
  seqx (
    andx (
      if (s.length : Int) = 0 then
        some true
      else
        some (decide ((s.length : Int) > 16))) fun x11 =>
      if x11 = true then
        some (Ex.rt false)
      else
        some (Ex.nx ())) fun _ =>
    seqx (
      iter (P_r1_Name_L1 s) 0) fun _ =>
      some true
noncomputable def P_r1_Place_L1 (list : List Str) (word : Str) : Int → Option (Stp Int Int) := fun at_ =>
  seqx (
    andx (
      if at_ ≥ 0 then
        el list at_ fun a15 =>
        some (decide (¬ a15 = word))
      else
        some false) fun x19 =>
      if x19 = true then
        some (Ex.nx ())
      else
        some (Ex.rt (Stp.dn at_))) fun _ =>
    chk (I64 (at_ - 1)) (
      some (Stp.ag (at_ - 1)))
noncomputable def P_r1_Place_L2 (list : List Str) (word : Str) (at_ : Int) : Int → Option (Stp Int (Ex Unit Int)) := fun i =>
  if i < at_ then
    el list i fun a29 =>
    if a29 = word then
      some (Stp.dn (Ex.rt i))
    else
      chk (I64 (i + 1)) (
        some (Stp.ag (i + 1)))
  else
    some (Stp.dn (Ex.nx ()))
noncomputable def P_r1_Place (list : List Str) (word : Str) : Option Int :=
  chk (I64 ((list.length : Int) - 1)) (
    andx (
      iter (P_r1_Place_L1 list word) ((list.length : Int) - 1)) fun at_ =>
      seqx (
        iter (P_r1_Place_L2 list word at_) 0) fun _ =>
        some at_)
noncomputable def P_r1_Fresh (word : Str) (others : List Str) : Option Int :=
  andx (
    andx (P_r1_Place others word) fun y8 =>
      if y8 ≥ 0 then
        some 5
      else
        some 0) fun e =>
    andx (
      andx (P_r1_Name word) fun y11 =>
        if y11 = true then
          some e
        else
          some 6) fun e_2 =>
      some e_2
noncomputable def P_r9_Mark (qE : List Str) (qF : List qD) (qC : List qA) (m_Class : Int) (m_Number : Int) (m_Suffix : Str) : Option Int :=
  chk (I64 ((qE.length : Int) - 1)) (
    andx (P_r9_in m_Class 0 ((qE.length : Int) - 1)) fun y11 =>
      if y11 = true then
        andx (P_r9_in m_Number 1 9999) fun y15 =>
          if y15 = true then
            seqx (
              andx (
                if (m_Suffix.length : Int) > 2 then
                  some true
                else
                  andx (P_r9_letters m_Suffix) fun y24 =>
                    some (!y24)) fun x26 =>
                if x26 = true then
                  some (Ex.rt 6)
                else
                  some (Ex.nx ())) fun _ =>
              some 0
          else
            some 7
      else
        some 4)
noncomputable def P_r9_Own_L1 (books : List qA) : (Int × (List Int)) → Option (Stp (Int × (List Int)) (List Int)) := fun (i, out) =>
  if i < (books.length : Int) then
    el books i fun a14 =>
    chk (out.length + [a14.shelf].length < 1000000000) (
      chk (I64 (i + 1)) (
        some (Stp.ag ((i + 1), out ++ [a14.shelf]))))
  else
    some (Stp.dn out)
noncomputable def P_r9_Own (books : List qA) : Option (List Int) :=
  andx (
    iter (P_r9_Own_L1 books) (0, [])) fun out =>
    some out
noncomputable def P_r9_Book_L1 (qT : Int) (qU : Int) (qV : Str) (before : List qA) : (Int × Int) → Option (Stp (Int × Int) Int) := fun (e_2, i) =>
  seqx (
    andx (
      if i < (before.length : Int) then
        some (decide (e_2 = 0))
      else
        some false) fun x40 =>
      if x40 = true then
        some (Ex.nx ())
      else
        some (Ex.rt (Stp.dn e_2))) fun _ =>
    andx (
      el before i fun a45 =>
      if a45.qL = qT ∧ a45.qM = qU ∧ a45.qN = qV then
        some 5
      else
        some e_2) fun e_3 =>
      chk (I64 (i + 1)) (
        some (Stp.ag (e_3, (i + 1))))
noncomputable def P_r9_Book (qE : List Str) (qF : List qD) (qC : List qA) (qT : Int) (qU : Int) (qV : Str) (qP : Int) (qO : Int) (qAb : Int) (qAd : Int) (before : List qA) : Option Int :=
  andx (P_r9_Mark qE qF qC qT qU qV) fun y12 =>
    andx (
      andx (
        if y12 = 0 then
          andx (P_r9_in qP 1 2000) fun y18 =>
            if y18 = true then
              andx (P_r9_in qO 1 2000) fun y23 =>
                if y23 = true then
                  andx (P_r9_in qAb 1 100) fun y29 =>
                    some (!y29)
                else
                  some true
            else
              some true
        else
          some false) fun x32 =>
        if x32 = true then
          some 7
        else
          some y12) fun e =>
      andx (
        iter (P_r9_Book_L1 qT qU qV before) (e, 0)) fun e_2 =>
        some e_2
noncomputable def P_r9_Filled_L1 (qF : List qD) (books : List qA) (shelves : List Int) (shelf : Int) : (Int × Int) → Option (Stp (Int × Int) (Ex Int Int)) := fun (n, i) =>
  if i < (books.length : Int) then
    seqx (
      el shelves i fun a19 =>
      if ¬ a19 = shelf then
        some (Ex.nx n)
      else
        el books i fun a25 =>
        el qF shelf fun a31 =>
        if a25.high > a31.high then
          some (Ex.rt (Stp.dn (Ex.rt (-1))))
        else
          el books i fun a38 =>
          chk (I64 (n + a38.wide)) (
            some (Ex.nx (n + a38.wide)))) fun n_2 =>
      chk (I64 (i + 1)) (
        some (Stp.ag (n_2, (i + 1))))
  else
    some (Stp.dn (Ex.nx n))
noncomputable def P_r9_Filled (qE : List Str) (qF : List qD) (qC : List qA) (books : List qA) (shelves : List Int) (shelf : Int) : Option Int :=
  seqx (
    iter (P_r9_Filled_L1 qF books shelves shelf) (0, 0)) fun n =>
    some n
noncomputable def P_r9_fit (qE : List Str) (qF : List qD) (qC : List qA) (books : List qA) (shelves : List Int) (shelf : Int) : Option Bool :=
 el qF shelf fun a17 =>
 andx (P_r9_Filled qE qF qC books shelves shelf) fun y13 =>
  andx (P_r9_in y13 0 a17.wide) fun y20 =>
   some y20
noncomputable def P_r9_Check_L1 (qE : List Str) : Int → Option (Stp Int (Ex Unit (Int × Int × Int))) := fun i =>
  if i < (qE.length : Int) then
    el qE i fun a28 =>
    chk (0 ≤ (0 : Int) ∧ (0 : Int) ≤ i ∧ i ≤ (qE.length : Int)) (
      andx (P_r1_Fresh a28 (List.take (i - (0 : Int)).toNat (List.drop ((0 : Int) : Int).toNat qE))) fun y34 =>
        if ¬ y34 = 0 then
          some (Stp.dn (Ex.rt (1, i, y34)))
        else
          chk (I64 (i + 1)) (
            some (Stp.ag (i + 1))))
  else
    some (Stp.dn (Ex.nx ()))
noncomputable def P_r9_Check_L2 (qF : List qD) : Int → Option (Stp Int (Ex Unit (Int × Int × Int))) := fun i =>
  if i < (qF.length : Int) then
    seqx (
      el qF i fun a54 =>
      andx (
        andx (P_r9_in a54.away 0 1000) fun y58 =>
          if y58 = true then
            andx (P_r9_in a54.climb 0 1000) fun y63 =>
              if y63 = true then
                andx (P_r9_in a54.wide 1 2000) fun y69 =>
                  if y69 = true then
                    andx (P_r9_in a54.high 1 2000) fun y75 =>
                      some (!y75)
                  else
                    some true
              else
                some true
          else
            some true) fun x77 =>
        if x77 = true then
          some (Ex.rt (Stp.dn (Ex.rt (2, i, 7))))
        else
          some (Ex.nx ())) fun _ =>
      chk (I64 (i + 1)) (
        some (Stp.ag (i + 1)))
  else
    some (Stp.dn (Ex.nx ()))
noncomputable def P_r9_Check_L3 (qE : List Str) (qF : List qD) (qC : List qA) : Int → Option (Stp Int (Ex Unit (Int × Int × Int))) := fun i =>
  if i < (qC.length : Int) then
    seqx (
      el qC i fun a93 =>
      chk (0 ≤ (0 : Int) ∧ (0 : Int) ≤ i ∧ i ≤ (qC.length : Int)) (
        andx (P_r9_Book qE qF qC a93.qL a93.qM a93.qN a93.wide a93.high a93.heavy a93.shelf (List.take (i - (0 : Int)).toNat (List.drop ((0 : Int) : Int).toNat qC))) fun y101 =>
          andx (
            andx (
              if y101 = 0 then
                chk (I64 ((qF.length : Int) - 1)) (
                  andx (P_r9_in a93.shelf 0 ((qF.length : Int) - 1)) fun y111 =>
                    some (!y111))
              else
                some false) fun x113 =>
              if x113 = true then
                some 4
              else
                some y101) fun e =>
            andx (
              andx (
                if e = 0 then
                  if i > 0 then
                    chk (I64 (i - 1)) (
                      el qC (i - 1) fun a127 =>
                      some (decide (a93.shelf < a127.shelf)))
                  else
                    some false
                else
                  some false) fun x131 =>
                if x131 = true then
                  some 2
                else
                  some e) fun e_2 =>
              if ¬ e_2 = 0 then
                some (Ex.rt (Stp.dn (Ex.rt (3, i, e_2))))
              else
                some (Ex.nx ()))) fun _ =>
      chk (I64 (i + 1)) (
        some (Stp.ag (i + 1)))
  else
    some (Stp.dn (Ex.nx ()))
noncomputable def P_r9_Check_L4 (qE : List Str) (qF : List qD) (qC : List qA) : Int → Option (Stp Int (Ex Unit (Int × Int × Int))) := fun i =>
  if i < (qF.length : Int) then
    andx (P_r9_Own qC) fun y148 =>
      andx (P_r9_fit qE qF qC qC y148 i) fun y150 =>
        if y150 = true then
          chk (I64 (i + 1)) (
            some (Stp.ag (i + 1)))
        else
          some (Stp.dn (Ex.rt (4, i, 9)))
  else
    some (Stp.dn (Ex.nx ()))
noncomputable def P_r9_Check (qE : List Str) (qF : List qD) (qC : List qA) : Option (Int × Int × Int) :=
  andx (P_r9_in (qE.length : Int) 1 6) fun y16 =>
    if y16 = true then
      seqx (
        iter (P_r9_Check_L1 qE) 0) fun _ =>
        andx (P_r9_in (qF.length : Int) 1 4) fun y42 =>
          if y42 = true then
            seqx (
              iter (P_r9_Check_L2 qF) 0) fun _ =>
              if (qC.length : Int) > 10 then
                some (3, 0, 3)
              else
                seqx (
                  iter (P_r9_Check_L3 qE qF qC) 0) fun _ =>
                  seqx (
                    iter (P_r9_Check_L4 qE qF qC) 0) fun _ =>
                    some (0, 0, 0)
          else
            some (2, 0, 3)
    else
      some (1, 0, 3)
noncomputable def P_q_Name_L1 (s : Str) : Nat → Option (Stp Nat (Ex Unit Bool)) := fun pos =>
  if pos < s.length then
    andx (
      if (runeAt s pos) ≥ 97 then
        some (decide ((runeAt s pos) ≤ 122))
      else
        some false) fun x11 =>
      if x11 = true then
        some (Stp.ag (pos + runeLen s pos))
      else
        andx (
          if (pos : Int) > 0 then
            if (runeAt s pos) ≥ 48 then
              if (runeAt s pos) ≤ 57 then
                some true
              else
                some (decide ((runeAt s pos) = 46))
            else
              some (decide ((runeAt s pos) = 46))
          else
            some false) fun x18 =>
          if x18 = true then
            some (Stp.ag (pos + runeLen s pos))
          else
            some (Stp.dn (Ex.rt false))
  else
    some (Stp.dn (Ex.nx ()))
noncomputable def P_q_Name (s : Str) : Option Bool :=
  seqx (
    iter (P_q_Name_L1 s) 0) fun _ =>
    andx (
      if ¬ s = ([] : Str) then
        some (decide ((s.length : Int) ≤ 16))
      else
        some false) fun x2 =>
      some x2
noncomputable def P_s9_out_L1 (lo : Int) (hi : Int) (numbers : List Int) : Int → Option (Stp Int (Ex Unit Int)) := fun x8 =>
  if x8 < (numbers.length : Int) then
    el numbers x8 fun a14 =>
    andx (
      if a14 < lo then
        some true
      else
        some (decide (a14 > hi))) fun x4 =>
      if x4 = true then
        some (Stp.dn (Ex.rt x8))
      else
        chk (I64 (x8 + 1)) (
          some (Stp.ag (x8 + 1)))
  else
    some (Stp.dn (Ex.nx ()))
noncomputable def P_s9_out (lo : Int) (hi : Int) (numbers : List Int) : Option Bool :=
  andx (
    seqx (
      iter (P_s9_out_L1 lo hi numbers) 0) fun _ =>
      some (-1)) fun y7 =>
    some (decide (y7 ≥ 0))
noncomputable def P_s9_mark_L1 (m_Suffix : Str) : Nat → Option (Stp Nat (Ex Unit Int)) := fun pos =>
  if pos < m_Suffix.length then
    andx (
      if (runeAt m_Suffix pos) < 97 then
        some true
      else
        some (decide ((runeAt m_Suffix pos) > 122))) fun x38 =>
      if x38 = true then
        some (Stp.dn (Ex.rt 6))
      else
        some (Stp.ag (pos + runeLen m_Suffix pos))
  else
    some (Stp.dn (Ex.nx ()))
noncomputable def P_s9_mark (r_SfRoom_Classes : List Str) (r_SfRoom_Shelves : List qD) (r_SfRoom_Books : List qA) (m_Class : Int) (m_Number : Int) (m_Suffix : Str) : Option Int :=
  chk (I64 ((r_SfRoom_Classes.length : Int) - 1)) (
    andx (P_s9_out 0 ((r_SfRoom_Classes.length : Int) - 1) [m_Class]) fun y16 =>
      if y16 = true then
        some 4
      else
        andx (P_s9_out 1 9999 [m_Number]) fun y21 =>
          if y21 = true then
            some 7
          else
            if (m_Suffix.length : Int) > 2 then
              some 6
            else
              seqx (
                iter (P_s9_mark_L1 m_Suffix) 0) fun _ =>
                some 0)
noncomputable def P_s9_book_L1 (qT : Int) (qU : Int) (qV : Str) (others : List qA) : Int → Option (Stp Int (Ex Unit Int)) := fun x8 =>
  if x8 < (others.length : Int) then
    el others x8 fun a14 =>
    if a14.qL = qT ∧ a14.qM = qU ∧ a14.qN = qV then
      some (Stp.dn (Ex.rt x8))
    else
      chk (I64 (x8 + 1)) (
        some (Stp.ag (x8 + 1)))
  else
    some (Stp.dn (Ex.nx ()))
noncomputable def P_s9_book (r_SfRoom_Classes : List Str) (r_SfRoom_Shelves : List qD) (r_SfRoom_Books : List qA) (qT : Int) (qU : Int) (qV : Str) (qP : Int) (qO : Int) (qAb : Int) (qAd : Int) (others : List qA) : Option Int :=
  andx (P_s9_mark r_SfRoom_Classes r_SfRoom_Shelves r_SfRoom_Books qT qU qV) fun y11 =>
    if ¬ y11 = 0 then
      some y11
    else
      seqx (
        andx (
          andx (P_s9_out 1 2000 [qP, qO]) fun y21 =>
            if y21 = true then
              some true
            else
              andx (P_s9_out 1 100 [qAb]) fun y26 =>
                some y26) fun x15 =>
          if x15 = true then
            some (Ex.rt 7)
          else
            andx (
              seqx (
                iter (P_s9_book_L1 qT qU qV others) 0) fun _ =>
                some (-1)) fun y7 =>
              if y7 ≥ 0 then
                some (Ex.rt 5)
              else
                some (Ex.nx ())) fun _ =>
        some 0
noncomputable def P_s9_Check_L2 (qE : List Str) (x11 : Int) (a14 : Str) : Int → Option (Stp Int (Ex Unit Int)) := fun x8 =>
  if x8 < ((List.take (x11 - (0 : Int)).toNat (List.drop ((0 : Int) : Int).toNat qE)).length : Int) then
    el (List.take (x11 - (0 : Int)).toNat (List.drop ((0 : Int) : Int).toNat qE)) x8 fun a14_2 =>
    if a14 = a14_2 then
      some (Stp.dn (Ex.rt x8))
    else
      chk (I64 (x8 + 1)) (
        some (Stp.ag (x8 + 1)))
  else
    some (Stp.dn (Ex.nx ()))
noncomputable def P_s9_Check_L1 (qE : List Str) : Int → Option (Stp Int (Ex Unit (Int × Int))) := fun x11 =>
  if x11 < (qE.length : Int) then
    el qE x11 fun a14 =>
    andx (
      andx (P_q_Name a14) fun y8 =>
        if y8 = true then
          chk (0 ≤ (0 : Int) ∧ (0 : Int) ≤ x11 ∧ x11 ≤ (qE.length : Int)) (
            andx (
              seqx (
                iter (P_s9_Check_L2 qE x11 a14) 0) fun _ =>
                some (-1)) fun y7 =>
              if y7 ≥ 0 then
                some 5
              else
                some 0)
        else
          some 6) fun y19 =>
      if ¬ y19 = 0 then
        some (Stp.dn (Ex.rt (x11, y19)))
      else
        chk (I64 (x11 + 1)) (
          some (Stp.ag (x11 + 1)))
  else
    some (Stp.dn (Ex.nx ()))
noncomputable def P_s9_Check_L3 (qF : List qD) : Int → Option (Stp Int (Ex Unit (Int × Int))) := fun x11 =>
  if x11 < (qF.length : Int) then
    el qF x11 fun a14 =>
    andx (
      seqx (
        andx (
          andx (P_s9_out 0 1000 [a14.away, a14.climb]) fun y10 =>
            if y10 = true then
              some true
            else
              andx (P_s9_out 1 2000 [a14.wide, a14.high]) fun y17 =>
                some y17) fun x18 =>
          if x18 = true then
            some (Ex.rt 7)
          else
            some (Ex.nx ())) fun _ =>
        some 0) fun y19 =>
      if ¬ y19 = 0 then
        some (Stp.dn (Ex.rt (x11, y19)))
      else
        chk (I64 (x11 + 1)) (
          some (Stp.ag (x11 + 1)))
  else
    some (Stp.dn (Ex.nx ()))
noncomputable def P_s9_Check_L4 (qE : List Str) (qF : List qD) (qC : List qA) : Int → Option (Stp Int (Ex Unit (Int × Int))) := fun x11 =>
  if x11 < (qC.length : Int) then
    el qC x11 fun a14 =>
    andx (
      chk (0 ≤ (0 : Int) ∧ (0 : Int) ≤ x11 ∧ x11 ≤ (qC.length : Int)) (
        andx (P_s9_book qE qF qC a14.qL a14.qM a14.qN a14.wide a14.high a14.heavy a14.shelf (List.take (x11 - (0 : Int)).toNat (List.drop ((0 : Int) : Int).toNat qC))) fun y14_3 =>
          seqx (
            if ¬ y14_3 = 0 then
              some (Ex.rt y14_3)
            else
              chk (I64 ((qF.length : Int) - 1)) (
                andx (P_s9_out 0 ((qF.length : Int) - 1) [a14.shelf]) fun y27_2 =>
                  if y27_2 = true then
                    some (Ex.rt 4)
                  else
                    andx (
                      if x11 > 0 then
                        chk (I64 (x11 - 1)) (
                          el qC (x11 - 1) fun a38 =>
                          some (decide (a14.shelf < a38.shelf)))
                      else
                        some false) fun x28 =>
                      if x28 = true then
                        some (Ex.rt 2)
                      else
                        some (Ex.nx ()))) fun _ =>
            some 0)) fun y19 =>
      if ¬ y19 = 0 then
        some (Stp.dn (Ex.rt (x11, y19)))
      else
        chk (I64 (x11 + 1)) (
          some (Stp.ag (x11 + 1)))
  else
    some (Stp.dn (Ex.nx ()))
noncomputable def P_s9_Check_L6 (qC : List qA) (x11 : Int) (a14 : qD) : (Int × Int) → Option (Stp (Int × Int) (Ex Int Int)) := fun (x11_2, s_Wide) =>
  if x11_2 < (qC.length : Int) then
    seqx (
      el qC x11_2 fun a13 =>
      if ¬ a13.shelf = x11 then
        some (Ex.nx s_Wide)
      else
        chk (I64 (s_Wide - a13.wide)) (
          andx (
            if (s_Wide - a13.wide) < 0 then
              some true
            else
              some (decide (a13.high > a14.high))) fun x34 =>
            if x34 = true then
              some (Ex.rt (Stp.dn (Ex.rt 9)))
            else
              some (Ex.nx (s_Wide - a13.wide)))) fun s_Wide_2 =>
      chk (I64 (x11_2 + 1)) (
        some (Stp.ag ((x11_2 + 1), s_Wide_2)))
  else
    some (Stp.dn (Ex.nx s_Wide))
noncomputable def P_s9_Check_L5 (qF : List qD) (qC : List qA) : Int → Option (Stp Int (Ex Unit (Int × Int))) := fun x11 =>
  if x11 < (qF.length : Int) then
    el qF x11 fun a14 =>
    andx (
      seqx (
        iter (P_s9_Check_L6 qC x11 a14) (0, a14.wide)) fun s_Wide =>
        some 0) fun y19 =>
      if ¬ y19 = 0 then
        some (Stp.dn (Ex.rt (x11, y19)))
      else
        chk (I64 (x11 + 1)) (
          some (Stp.ag (x11 + 1)))
  else
    some (Stp.dn (Ex.nx ()))
noncomputable def P_s9_Check (qE : List Str) (qF : List qD) (qC : List qA) : Option (Int × Int × Int) :=
  andx (P_s9_out 1 6 [(qE.length : Int)]) fun y9 =>
    if y9 = true then
      some (1, 0, 3)
    else
      andx (
        seqx (
          iter (P_s9_Check_L1 qE) 0) fun _ =>
          some (0, 0)) fun (y14, y14_2) =>
        if ¬ y14_2 = 0 then
          some (1, y14, y14_2)
        else
          andx (P_s9_out 1 4 [(qF.length : Int)]) fun y27 =>
            if y27 = true then
              some (2, 0, 3)
            else
              andx (
                seqx (
                  iter (P_s9_Check_L3 qF) 0) fun _ =>
                  some (0, 0)) fun (y31, y31_2) =>
                if ¬ y31_2 = 0 then
                  some (2, y31, y31_2)
                else
                  if (qC.length : Int) > 10 then
                    some (3, 0, 3)
                  else
                    andx (
                      seqx (
                        iter (P_s9_Check_L4 qE qF qC) 0) fun _ =>
                        some (0, 0)) fun (y48, y48_2) =>
                      if ¬ y48_2 = 0 then
                        some (3, y48, y48_2)
                      else
                        andx (
                          seqx (
                            iter (P_s9_Check_L5 qF qC) 0) fun _ =>
                            some (0, 0)) fun (y59, y59_2) =>
                          if ¬ y59_2 = 0 then
                            some (4, y59, y59_2)
                          else
                            some (0, 0, 0)
noncomputable def P_s9_open (qE : List Str) (qF : List qD) (qC : List qA) : Option Int :=
 andx (P_s9_Check qE qF qC) fun (y9, y9_2, y9_3) =>
  some y9_3
end Go.Am
end
section
namespace Go.Am.YtgbbhdoobhdadaaGreatDoor
open Go.Am Go.RowKit
set_option linter.unusedVariables false
set_option linter.unusedSimpArgs false
set_option maxRecDepth 10000 in
theorem tf_r9_in {k : Nat} (hk : 0 ≤ k) {C : List Thing} {n : Int} {low : Int} {high : Int} {r : Bool} (h : P_r9_in n low high = some r) :
  TF (EL k) 10 [iv (n), iv (low), iv (high)] C (RepF (fun (w : Unit) => bv r) (fun (w : Unit) => C)) := by
 unfold P_r9_in at h;refine TF.enter (fn := Go.Proofs.Tryz.f10) rfl rfl rfl rfl rfl (zU rfl (zA R4 (zN ?_)))
 show T _ _ _ _ _ _;apply T.joinA (r := r) (W := Unit) (fun j w => ⟨[], [(6, bv j)], C⟩) h
 ·intro j h;refine zT rfl (zM R4 (zM R4 ?_));obtain ⟨c9, hc9⟩ := zY (low ≤ n);refine zV R3 (Val.leq hc9 rfl rfl) (zM R4 ?_);obtain ⟨rfl, hc9, h⟩ | ⟨rfl, hc9, h⟩ := zI hc9 h
  ·refine zM R4 (zM R4 ?_);obtain ⟨c13, hc13⟩ := zY (n ≤ high);refine zV R3 (Val.leq hc13 rfl rfl) (zP R6 (zA R4 (zN ?_)));subst hc13;cases h;exact ⟨rfl, (), (sb .refl)⟩
  refine zO R3 (zO R3 (zO R3 (zP R6 (zA R4 (zN ?_)))));cases h;exact ⟨rfl, (), (sb .refl)⟩
 ·rintro x6 _ h;refine zR ?_;cases h;exact ⟨rfl, _, rfl, ⟨(), rfl, .refl⟩⟩
set_option maxRecDepth 10000 in
theorem tf_r9_letters {k : Nat} (hk : 0 ≤ k) {C : List Thing} {s : Str} {r : Bool} (h : P_r9_letters s = some r) :
  TF (EL k) 100 [sv s] C (RepF (fun (w : Unit) => bv r) (fun (w : Unit) => C)) := by
 unfold P_r9_letters at h;refine TF.enter (fn := Go.Proofs.Tryz.f100) rfl rfl rfl rfl rfl (zU rfl (zA R4 (zN ?_)))
 show T _ _ _ _ _ _;apply T.join (r := r) (W := Unit) (fun j w => ⟨[], [], C⟩) h
 ·intro j h;refine zU rfl (zA R4 (zN (zB ?_)))
  show T _ _ _ _ _ _;apply T.iter (r := j) (W := Unit) (fun j w => ⟨[], [(0, sv s), (3, iv (j))], C⟩) (w0 := ()) h
  ·exact (sb .refl)
  rintro i _ a h;unfold P_r9_letters_L1 at h;refine zS (zU rfl (zM R4 (zM R4 (zV R3 (Val.len_str rfl rfl) ?_))));obtain ⟨c7, hc7⟩ := zY (i < (s.length : Int));refine zV R3 (Val.lss hc7 rfl rfl) (zN ?_);obtain ⟨rfl, hc7, h⟩ | ⟨rfl, hc7, h⟩ := zI hc7 h
  ·refine zC rfl (zK ?_)
   show T _ _ _ _ _ _;apply T.join (r := a) (W := Unit) (fun j w => ⟨[], [(0, sv s), (3, iv (i))], C⟩) h
   ·intro j h;refine zB ?_
    show T _ _ _ _ _ _;apply T.joinA (r := j) (W := Unit) (fun j w => ⟨[], [(0, sv s), (3, iv (i)), (19, bv j)], C⟩) h
    ·intro j h;refine zT rfl (zM R4 (zM R4 ?_));obtain ⟨hk12, h⟩ := chk_some h;refine zV R3 (Val.index_str rfl rfl rfl hk12) ?_;obtain ⟨c13, hc13⟩ := zY ((byteAt s i) < 97);refine zV R3 (Val.lssK hc13 rfl rfl) (zM R4 ?_);obtain ⟨rfl, hc13, h⟩ | ⟨rfl, hc13, h⟩ := zI hc13 h
     ·refine zO R3 (zO R3 (zO R3 (zO R3 (zP R6 (zN ?_)))));cases h;exact ⟨rfl, (), (sb .refl)⟩
     refine zM R4 (zM R4 ?_);obtain ⟨hk17, h⟩ := chk_some h;refine zV R3 (Val.index_str rfl rfl rfl hk17) ?_;obtain ⟨c18, hc18⟩ := zY ((byteAt s i) > 122);refine zV R3 (Val.gtrK hc18 rfl rfl) (zP R6 (zN ?_));subst hc18;cases h;exact ⟨rfl, (), (sb .refl)⟩
    ·rintro x19 _ h;replace h := zZ h;obtain ⟨rfl, h⟩ | ⟨rfl, h⟩ := h
     ·refine zC rfl (zU rfl (zA R4 (zN (zR ?_))));cases h;exact ⟨ret_ne, ⟨ret_ne, ⟨ret_ne, ⟨rfl, _, rfl, ⟨(), rfl, .refl⟩⟩⟩⟩⟩
     refine zD rfl (zK ?_);cases h;exact ⟨rfl, (), (sb .refl)⟩
   ·rintro _ _ h;refine zT rfl (zM R4 ?_);obtain ⟨hk9, h⟩ := chk_some h;refine zV R3 (Val.add rfl rfl hk9) (zA R4 (zN ?_));cases h;exact ⟨rfl, (), (sb .refl)⟩
  refine zD rfl (zE ?_);cases h;exact ⟨ex_ne, ⟨rfl, (), (sb .refl)⟩⟩
 ·rintro _ _ h;refine zU rfl (zA R4 (zN (zR ?_)));cases h;exact ⟨rfl, _, rfl, ⟨(), rfl, .refl⟩⟩
set_option maxRecDepth 10000 in
theorem tf_r1_Name {k : Nat} (hk : 0 ≤ k) {C : List Thing} {s : Str} {r : Bool} (h : P_r1_Name s = some r) :
  TF (EL k) 54 [sv s] C (RepF (fun (w : Unit) => bv r) (fun (w : Unit) => C)) := by
 unfold P_r1_Name at h;refine TF.enter (fn := Go.Proofs.Tryz.f54) rfl rfl rfl rfl rfl (zU rfl (zA R4 (zN ?_)))
 show T _ _ _ _ _ _;apply T.join (r := r) (W := Unit) (fun j w => ⟨[], [(0, sv s)], C⟩) h
 ·intro j h
  show T _ _ _ _ _ _;apply T.joinA (r := j) (W := Unit) (fun j w => ⟨[], [(0, sv s), (11, bv j)], C⟩) h
  ·intro j h;refine zT rfl (zM R4 (zV R3 (Val.len_str rfl rfl) ?_));obtain ⟨c6, hc6⟩ := zY ((s.length : Int) = 0);refine zV R3 (Val.eql hc6 rfl rfl) (zM R4 ?_);obtain ⟨rfl, hc6, h⟩ | ⟨rfl, hc6, h⟩ := zI hc6 h
   ·refine zO R3 (zO R3 (zO R3 (zP R6 (zN ?_))));cases h;exact ⟨rfl, (), (sb .refl)⟩
   refine zM R4 (zV R3 (Val.len_str rfl rfl) ?_);obtain ⟨c10, hc10⟩ := zY ((s.length : Int) > 16);refine zV R3 (Val.gtr hc10 rfl rfl) (zP R6 (zN ?_));subst hc10;cases h;exact ⟨rfl, (), (sb .refl)⟩
  ·rintro x11 _ h;replace h := zZ h;obtain ⟨rfl, h⟩ | ⟨rfl, h⟩ := h
   ·refine zC rfl (zU rfl (zA R4 (zN (zR ?_))));cases h;exact ⟨ret_ne, ⟨rfl, _, rfl, ⟨(), rfl, .refl⟩⟩⟩
   refine zD rfl (zK ?_);cases h;exact ⟨rfl, (), (sb .refl)⟩
 ·rintro _ _ h
  show T _ _ _ _ _ _;apply T.join (r := r) (W := Unit) (fun j w => ⟨[], [], C⟩) h
  ·intro j h;refine zU rfl (zA R4 (zN (zB ?_)))
   show T _ _ _ _ _ _;apply T.iter (r := j) (W := Unit) (fun j w => ⟨[], [(0, sv s), (3, iv (j))], C⟩) (w0 := ()) h
   ·exact (sb .refl)
   rintro i _ a h;unfold P_r1_Name_L1 at h;refine zS (zU rfl (zM R4 (zM R4 (zV R3 (Val.len_str rfl rfl) ?_))));obtain ⟨c15, hc15⟩ := zY (i < (s.length : Int));refine zV R3 (Val.lss hc15 rfl rfl) (zN ?_);obtain ⟨rfl, hc15, h⟩ | ⟨rfl, hc15, h⟩ := zI hc15 h
   ·refine zC rfl (zK ?_)
    show T _ _ _ _ _ _;apply T.join (r := a) (W := Unit) (fun j w => ⟨[], [(0, sv s), (3, iv (i))], C⟩) h
    ·intro j h;refine zB ?_
     show T _ _ _ _ _ _;apply T.joinA (r := j) (W := Unit) (fun j w => ⟨[], [(0, sv s), (3, iv (i)), (39, bv j)], C⟩) h
     ·intro j h;refine zT rfl (zM R4 (zM R4 ?_));obtain ⟨hk20, h⟩ := chk_some h;refine zV R3 (Val.index_str rfl rfl rfl hk20) (TO.callIn rfl rfl rfl rfl rfl rfl (orcN rfl) (TF.enter (fn := Go.Proofs.Tryz.f98) rfl rfl rfl rfl rfl (zU rfl (zA R4 (zN ?_)))))
      show T _ _ _ _ _ _;apply T.joinA (r := j) (W := Unit) (fun j w => ⟨[], [(2, bv j)], C⟩) h
      ·intro j h;refine zT rfl (zM R4 ?_);obtain ⟨c4, hc4⟩ := zY ((byteAt s i) ≥ 97);refine zV R3 (Val.geqK hc4 rfl rfl) (zM R4 ?_);obtain ⟨rfl, hc4, h⟩ | ⟨rfl, hc4, h⟩ := zI hc4 h
       ·refine zM R4 ?_;obtain ⟨c7, hc7⟩ := zY ((byteAt s i) ≤ 122);refine zV R3 (Val.leqK hc7 rfl rfl) (zP R6 (zA R4 (zN ?_)));subst hc7;cases h;exact ⟨rfl, (), (sb .refl)⟩
       refine zO R3 (zO R3 (zP R6 (zA R4 (zN ?_))));cases h;exact ⟨rfl, (), (sb .refl)⟩
      ·rintro x2 _ h;refine zR ?_;refine ⟨rfl, _, rfl, ?_⟩;refine zV R3 (Val.not rfl) (zM R4 ?_);obtain ⟨rfl, h⟩ | ⟨rfl, h⟩ := zZ h
       ·refine zO R3 (zO R3 (zO R3 (zO R3 (zO R3 (zO R3 (zO R3 (zO R3 (zO R3 (zO R3 (zO R3 (zO R3 (zO R3 (zO R3 (zO R3 (zP R6 (zN ?_))))))))))))))));cases h;exact ⟨rfl, (), (sb .refl)⟩
       refine zM R4 ?_;obtain ⟨c25, hc25⟩ := zY (i = 0);refine zV R3 (Val.eql hc25 rfl rfl) (zM R4 ?_);obtain ⟨rfl, hc25, h⟩ | ⟨rfl, hc25, h⟩ := zI hc25 h
       ·refine zO R3 (zO R3 (zO R3 (zO R3 (zO R3 (zO R3 (zO R3 (zO R3 (zO R3 (zO R3 (zO R3 (zP R6 (zP R6 (zN ?_)))))))))))));cases h;exact ⟨rfl, (), (sb .refl)⟩
       refine zM R4 (zM R4 ?_);obtain ⟨hk29, h⟩ := chk_some h;refine zV R3 (Val.index_str rfl rfl rfl hk29) (TO.callIn rfl rfl rfl rfl rfl rfl (orcN rfl) (TF.enter (fn := Go.Proofs.Tryz.f99) rfl rfl rfl rfl rfl (zU rfl (zA R4 (zN ?_)))))
       show T _ _ _ _ _ _;apply T.joinA (r := j) (W := Unit) (fun j w => ⟨[], [(2, bv j)], C⟩) h
       ·intro j h;refine zT rfl (zM R4 ?_);obtain ⟨c4, hc4⟩ := zY ((byteAt s i) ≥ 48);refine zV R3 (Val.geqK hc4 rfl rfl) (zM R4 ?_);obtain ⟨rfl, hc4, h⟩ | ⟨rfl, hc4, h⟩ := zI hc4 h
        ·refine zM R4 ?_;obtain ⟨c7, hc7⟩ := zY ((byteAt s i) ≤ 57);refine zV R3 (Val.leqK hc7 rfl rfl) (zP R6 (zA R4 (zN ?_)));subst hc7;cases h;exact ⟨rfl, (), (sb .refl)⟩
        refine zO R3 (zO R3 (zP R6 (zA R4 (zN ?_))));cases h;exact ⟨rfl, (), (sb .refl)⟩
       ·rintro x2_2 _ h;refine zR ?_;refine ⟨rfl, _, rfl, ?_⟩;refine zV R3 (Val.not rfl) (zM R4 ?_);obtain ⟨rfl, h⟩ | ⟨rfl, h⟩ := zZ h
        ·refine zO R3 (zO R3 (zO R3 (zO R3 (zP R6 (zP R6 (zP R6 (zN ?_)))))));cases h;exact ⟨rfl, (), (sb .refl)⟩
        refine zM R4 (zM R4 ?_);obtain ⟨hk35, h⟩ := chk_some h;refine zV R3 (Val.index_str rfl rfl rfl hk35) ?_;obtain ⟨c36, hc36⟩ := zY (¬ (byteAt s i) = 46);refine zV R3 (Val.neqK hc36 rfl rfl) (zP R6 (zP R6 (zP R6 (zN ?_))));subst hc36;cases h;exact ⟨rfl, (), (sb .refl)⟩
     ·rintro x39 _ h;replace h := zZ h;obtain ⟨rfl, h⟩ | ⟨rfl, h⟩ := h
      ·refine zC rfl (zU rfl (zA R4 (zN (zR ?_))));cases h;exact ⟨ret_ne, ⟨ret_ne, ⟨ret_ne, ⟨rfl, _, rfl, ⟨(), rfl, .refl⟩⟩⟩⟩⟩
      refine zD rfl (zK ?_);cases h;exact ⟨rfl, (), (sb .refl)⟩
    ·rintro _ _ h;refine zT rfl (zM R4 ?_);obtain ⟨hk17, h⟩ := chk_some h;refine zV R3 (Val.add rfl rfl hk17) (zA R4 (zN ?_));cases h;exact ⟨rfl, (), (sb .refl)⟩
   refine zD rfl (zE ?_);cases h;exact ⟨ex_ne, ⟨rfl, (), (sb .refl)⟩⟩
  ·rintro _ _ h;refine zU rfl (zA R4 (zN (zR ?_)));cases h;exact ⟨rfl, _, rfl, ⟨(), rfl, .refl⟩⟩
set_option maxRecDepth 10000 in
theorem tf_r1_Place {k : Nat} (hk : 0 ≤ k) {C : List Thing} {v_list : AV} {list : List Str} {word : Str} (h_list : Rdl C encStr v_list list) {r : Int} (h : P_r1_Place list word = some r) :
  TF (EL k) 53 [v_list, sv word] C (RepF (fun (w : Unit) => iv r) (fun (w : Unit) => C)) := by
 unfold P_r1_Place at h;refine TF.enter (fn := Go.Proofs.Tryz.f53) rfl rfl rfl rfl rfl (zU rfl (zA R4 (zN (zU rfl (zM R4 (zV R3 (Val.len_l h_list mem0 rfl rfl) ?_))))));obtain ⟨hk9, h⟩ := chk_some h;refine zV R3 (Val.sub rfl rfl hk9) (zA R4 (zN ?_))
 show T _ _ _ _ _ _;apply T.joinA (r := r) (W := Unit) (fun j w => ⟨[], [(0, v_list), (1, sv word), (5, iv (j))], C⟩) h
 ·intro j h;refine zB ?_
  show T _ _ _ _ _ _;apply T.iter (r := j) (W := Unit) (fun j w => ⟨[], [(0, v_list), (1, sv word), (5, iv (j))], C⟩) (w0 := ()) h
  ·exact (sb .refl)
  rintro at_ _ a h;unfold P_r1_Place_L1 at h
  show T _ _ _ _ _ _;apply T.join (r := a) (W := Unit) (fun j w => ⟨[], [(0, v_list), (1, sv word), (5, iv (at_))], C⟩) h
  ·intro j h
   show T _ _ _ _ _ _;apply T.joinA (r := j) (W := Unit) (fun j w => ⟨[], [(0, v_list), (1, sv word), (5, iv (at_)), (19, bv j)], C⟩) h
   ·intro j h;refine zT rfl (zM R4 ?_);obtain ⟨c11, hc11⟩ := zY (at_ ≥ 0);refine zV R3 (Val.geq hc11 rfl rfl) (zM R4 ?_);obtain ⟨rfl, hc11, h⟩ | ⟨rfl, hc11, h⟩ := zI hc11 h
    ·refine zM R4 (zM R4 ?_);obtain ⟨a15, hia15, ea15, h⟩ := el_some h;refine TO.fact (rdl_at h_list mem0 hia15 ea15) (fun hp=>?_);obtain ⟨pa15, hpa15, hva15⟩ := hp;refine zV R3 (hva15 ⟨rfl, rfl⟩ rfl rfl) (zV R3 (Val.load_e hpa15 mem0 ⟨_, rfl, rfl⟩ rfl rfl) (zM R4 ?_));obtain ⟨c18, hc18⟩ := zY (¬ a15 = word);refine zV R3 (Val.neq_str hc18 rfl rfl) (zP R6 (zN ?_));subst hc18;cases h;exact ⟨rfl, (), (sb .refl)⟩
    refine zO R3 (zO R3 (zO R3 (zO R3 (zO R3 (zO R3 (zP R6 (zN ?_)))))));cases h;exact ⟨rfl, (), (sb .refl)⟩
   ·rintro x19 _ h;replace h := zZ h;obtain ⟨rfl, h⟩ | ⟨rfl, h⟩ := h
    ·refine zC rfl (zK ?_);cases h;exact ⟨rfl, (), (sb .refl)⟩
    refine zD rfl (zE ?_);cases h;exact ⟨ex_ne, ⟨ex_ne, ⟨rfl, (), (sb .refl)⟩⟩⟩
  ·rintro _ _ h;refine zB (zT rfl (zM R4 ?_));obtain ⟨hk21, h⟩ := chk_some h;refine zV R3 (Val.sub rfl rfl hk21) (zA R4 (zN ?_));cases h;exact ⟨rfl, (), (sb .refl)⟩
 ·rintro at_ _ h
  show T _ _ _ _ _ _;apply T.join (r := r) (W := Unit) (fun j w => ⟨[], [(5, iv (at_))], C⟩) h
  ·intro j h;refine zU rfl (zA R4 (zN (zB ?_)))
   show T _ _ _ _ _ _;apply T.iter (r := j) (W := Unit) (fun j w => ⟨[], [(0, v_list), (1, sv word), (5, iv (at_)), (6, iv (j))], C⟩) (w0 := ()) h
   ·exact (sb .refl)
   rintro i _ a h;unfold P_r1_Place_L2 at h;refine zS (zU rfl (zM R4 (zM R4 ?_)));obtain ⟨c24, hc24⟩ := zY (i < at_);refine zV R3 (Val.lss hc24 rfl rfl) (zN ?_);obtain ⟨rfl, hc24, h⟩ | ⟨rfl, hc24, h⟩ := zI hc24 h
   ·refine zC rfl (zK (zS (zB (zU rfl (zM R4 (zM R4 ?_))))));obtain ⟨a29, hia29, ea29, h⟩ := el_some h;refine TO.fact (rdl_at h_list mem0 hia29 ea29) (fun hp=>?_);obtain ⟨pa29, hpa29, hva29⟩ := hp;refine zV R3 (hva29 ⟨rfl, rfl⟩ rfl rfl) (zV R3 (Val.load_e hpa29 mem0 ⟨_, rfl, rfl⟩ rfl rfl) (zM R4 ?_));obtain ⟨c32, hc32⟩ := zY (a29 = word);refine zV R3 (Val.eql_str hc32 rfl rfl) (zN ?_);obtain ⟨rfl, hc32, h⟩ | ⟨rfl, hc32, h⟩ := zI hc32 h
    ·refine zC rfl (zU rfl (zM R4 (zA R4 (zN (zR ?_)))));cases h;exact ⟨ret_ne, ⟨ret_ne, ⟨rfl, _, rfl, ⟨(), rfl, .refl⟩⟩⟩⟩
    refine zD rfl (zK (zT rfl (zM R4 ?_)));obtain ⟨hk26, h⟩ := chk_some h;refine zV R3 (Val.add rfl rfl hk26) (zA R4 (zN ?_));cases h;exact ⟨rfl, (), (sb .refl)⟩
   refine zD rfl (zE ?_);cases h;exact ⟨ex_ne, ⟨rfl, (), (sb .refl)⟩⟩
  ·rintro _ _ h;refine zU rfl (zM R4 (zA R4 (zN (zR ?_))));cases h;exact ⟨rfl, _, rfl, ⟨(), rfl, .refl⟩⟩
set_option maxRecDepth 10000 in
theorem tf_r1_Fresh {k : Nat} (hk : 0 ≤ k) {C : List Thing} {word : Str} {v_others : AV} {others : List Str} (h_others : Rdl C encStr v_others others) {r : Int} (h : P_r1_Fresh word others = some r) :
  TF (EL k) 11 [sv word, v_others] C (RepF (fun (w : Unit) => iv r) (fun (w : Unit) => C)) := by
 unfold P_r1_Fresh at h;refine TF.enter (fn := Go.Proofs.Tryz.f11) rfl rfl rfl rfl rfl (zU rfl (zA R4 (zN (zU rfl (zA R4 (zN ?_))))))
 show T _ _ _ _ _ _;apply T.joinA (r := r) (W := Unit) (fun j w => ⟨[], [(0, sv word), (5, iv (j))], C⟩) h
 ·intro j h;refine zU rfl (zM R4 (zM R4 ?_));obtain ⟨y8, hr8, h⟩ := andx_some h;refine TO.callT (first := []) (cap := []) (vs := [v_others, sv word]) rfl rfl rfl rfl rfl rfl (orcN rfl) (tf_r1_Place aD (Rdl.mono h_others mem0) hr8) ?_;rintro _;refine zG (C) rfl ?_;obtain ⟨c9, hc9⟩ := zY (y8 ≥ 0);refine zV R3 (Val.geq hc9 rfl rfl) (zN ?_);obtain ⟨rfl, hc9, h⟩ | ⟨rfl, hc9, h⟩ := zI hc9 h
  ·refine zC rfl (zT rfl (zA R4 (zN ?_)));cases h;exact ⟨rfl, (), (sb .refl)⟩
  refine zD rfl (zK ?_);cases h;exact ⟨rfl, (), (sb .refl)⟩
 ·rintro e _ h
  show T _ _ _ _ _ _;apply T.joinA (r := r) (W := Unit) (fun j w => ⟨[], [(5, iv (j))], C⟩) h
  ·intro j h;refine zU rfl (zM R4 ?_);obtain ⟨y11, hr11, h⟩ := andx_some h;refine TO.callT (first := []) (cap := []) (vs := [sv word]) rfl rfl rfl rfl rfl rfl (orcN rfl) (tf_r1_Name aD hr11) ?_;rintro _;refine zG (C) rfl (zV R3 (Val.not rfl) (zN ?_));obtain ⟨rfl, h⟩ | ⟨rfl, h⟩ := zZ h
   ·refine zD rfl (zK ?_);cases h;exact ⟨rfl, (), (sb .refl)⟩
   refine zC rfl (zT rfl (zA R4 (zN ?_)));cases h;exact ⟨rfl, (), (sb .refl)⟩
  ·rintro e_2 _ h;refine zU rfl (zM R4 (zA R4 (zN (zR ?_))));cases h;exact ⟨rfl, _, rfl, ⟨(), rfl, .refl⟩⟩
set_option maxRecDepth 10000 in
theorem tf_r9_Mark {k : Nat} (hk : 0 ≤ k) {C : List Thing} {qH : AV} {qE : List Str} {qG : AV} {qF : List qD} {qB : AV} {qC : List qA} {m_Class : Int} {m_Number : Int} {m_Suffix : Str} (qAc : Rdl C encStr qH qE) (qW : Rdl C qZ qG qF) (qI : Rdl C qS qB qC) {r : Int} (h : P_r9_Mark qE qF qC m_Class m_Number m_Suffix = some r) :
  TF (EL k) 55 [.agg [qH, qG, qB], .agg [iv (m_Class), iv (m_Number), sv m_Suffix]] C (RepF (fun (w : Unit) => iv r) (fun (w : Unit) => C)) := by
 unfold P_r9_Mark at h;refine TF.enter (fn := Go.Proofs.Tryz.f55) rfl rfl rfl rfl rfl (zU rfl (zQ 3 [_,_,_] R7 (fun b2=>zQ 3 [_,_,_] R7 (fun b3=>zA R4 (zN (zS (zU rfl (zF 0 R6 (zL 0 R3 R6 (zF 0 R6 (zL 1 R3 R6 (zV R3 (Val.len_l qAc M2 rfl rfl) ?_))))))))))));obtain ⟨hk10, h⟩ := chk_some h;refine zV R3 (Val.sub rfl rfl hk10) ?_;obtain ⟨y11, hr11, h⟩ := andx_some h;refine TO.callT (first := []) (cap := []) (vs := [iv (m_Class), iv (0), iv (((qE.length : Int) - 1))]) rfl rfl rfl rfl rfl rfl (orcN rfl) (tf_r9_in aD hr11) ?_;rintro _;refine zG (_::_::C) rfl (zV R3 (Val.not rfl) (zN ?_));obtain ⟨rfl, h⟩ | ⟨rfl, h⟩ := zZ h
 ·refine zD rfl (zK (zS (zU rfl (zF 1 R6 (zL 0 R3 R6 ?_)))));obtain ⟨y15, hr15, h⟩ := andx_some h;refine TO.callT (first := []) (cap := []) (vs := [iv (m_Number), iv (1), iv (9999)]) rfl rfl rfl rfl rfl rfl (orcN rfl) (tf_r9_in aD hr15) ?_;rintro _;refine zG (_::_::C) rfl (zV R3 (Val.not rfl) (zN ?_));obtain ⟨rfl, h⟩ | ⟨rfl, h⟩ := zZ h
  ·refine zD rfl (zK ?_)
   show T _ _ _ _ _ _;apply T.join (r := r) (W := Unit) (fun j w => ⟨[], [], .row b3 3 [iv (m_Class), iv (m_Number), sv m_Suffix] :: .row b2 3 [qH, qG, qB] :: C⟩) h
   ·intro j h
    show T _ _ _ _ _ _;apply T.joinA (r := j) (W := Unit) (fun j w => ⟨[], [(26, bv j)], .row b3 3 [iv (m_Class), iv (m_Number), sv m_Suffix] :: .row b2 3 [qH, qG, qB] :: C⟩) h
    ·intro j h;refine zT rfl (zF 2 R6 (zL 0 R3 R6 (zV R3 (Val.len_str rfl rfl) ?_)));obtain ⟨c20, hc20⟩ := zY ((m_Suffix.length : Int) > 2);refine zV R3 (Val.gtr hc20 rfl rfl) (zM R4 ?_);obtain ⟨rfl, hc20, h⟩ | ⟨rfl, hc20, h⟩ := zI hc20 h
     ·refine zO R3 (zO R3 (zO R3 (zO R3 (zP R6 (zN ?_)))));cases h;exact ⟨rfl, (), (sb .refl)⟩
     refine zF 2 R6 (zL 0 R3 R6 ?_);obtain ⟨y24, hr24, h⟩ := andx_some h;refine TO.callT (first := []) (cap := []) (vs := [sv m_Suffix]) rfl rfl rfl rfl rfl rfl (orcN rfl) (tf_r9_letters aD hr24) ?_;rintro _;refine zG (_::_::C) rfl (zV R3 (Val.not rfl) (zP R6 (zN ?_)));cases h;exact ⟨rfl, (), (sb .refl)⟩
    ·rintro x26 _ h;replace h := zZ h;obtain ⟨rfl, h⟩ | ⟨rfl, h⟩ := h
     ·refine zC rfl (zU rfl (zA R4 (zN (zR ?_))));cases h;exact ⟨ret_ne, ⟨rfl, _, rfl, ⟨(), rfl, (pk [98,98] rfl)⟩⟩⟩
     refine zD rfl (zK ?_);cases h;exact ⟨rfl, (), (sb .refl)⟩
   ·rintro _ _ h;refine zU rfl (zA R4 (zN (zR ?_)));cases h;exact ⟨rfl, _, rfl, ⟨(), rfl, (pk [98,98] rfl)⟩⟩
  refine zC rfl (zU rfl (zA R4 (zN (zR ?_))));cases h;exact ⟨rfl, _, rfl, ⟨(), rfl, (pk [98,98] rfl)⟩⟩
 refine zC rfl (zU rfl (zA R4 (zN (zR ?_))));cases h;exact ⟨rfl, _, rfl, ⟨(), rfl, (pk [98,98] rfl)⟩⟩
set_option maxRecDepth 10000 in
theorem tf_r9_Own {k : Nat} (hk : 0 ≤ k) {C : List Thing} {v_books : AV} {books : List qA} (h_books : Rdl C qS v_books books) {r : (List Int)} (h : P_r9_Own books = some r) :
  TF (EL k) 14 [v_books] C (RepF (fun (w : AV) => w) (fun (w : AV) => ownL true w encI r :: C)) := by
 unfold P_r9_Own at h;refine TF.enter (fn := Go.Proofs.Tryz.f14) rfl rfl rfl rfl rfl (zU rfl (zA R4 (zN (zU rfl (zA R4 (zN ?_))))))
 show T _ _ _ _ _ _;apply T.joinA (r := r) (W := AV) (fun j w => ⟨[], [(3, w)], ownL true w encI j :: C⟩) h
 ·intro j h;refine zU rfl (zA R4 (zN (zB (T.nilown (u := encI.u) ?_))))
  show T _ _ _ _ _ _;apply T.iter (r := j) (W := AV) (fun j w => ⟨[], [(0, v_books), (3, w), (4, iv (j.1))], ownL true w encI j.2 :: C⟩) (w0 := nilS) h
  ·exact (sb .refl)
  rintro ⟨i, out⟩ v1 a h;unfold P_r9_Own_L1 at h;dsimp only at h;dsimp only;refine zS (zU rfl (zM R4 (zM R4 (zV R3 (Val.len_l h_books M1 rfl rfl) ?_))));obtain ⟨c8, hc8⟩ := zY (i < (books.length : Int));refine zV R3 (Val.lss hc8 rfl rfl) (zN ?_);obtain ⟨rfl, hc8, h⟩ | ⟨rfl, hc8, h⟩ := zI hc8 h
  ·refine zC rfl (zK (zS (zB (zT rfl (zM R4 (zM R4 (zM R4 ?_)))))));obtain ⟨a14, hia14, ea14, h⟩ := el_some h;refine TO.fact (rdl_at h_books M1 hia14 ea14) (fun hp=>?_);obtain ⟨pa14, hpa14, hva14⟩ := hp;refine zV R3 (hva14 ⟨rfl, rfl⟩ rfl rfl) (zV R3 (Val.faddr_e (fo := 6) hpa14 rfl rfl rfl) (zV R3 (Val.load_e (PtE.add hpa14 (by decide)) M1 ⟨_, rfl, rfl⟩ rfl rfl) (TO.build1 (en := encI) (a := a14.shelf) rfl rfl rfl ⟨rfl, rfl⟩ ⟨_, rfl, rfl⟩ (by decide) (by decide) rfl rfl (fun v17=>?_))));obtain ⟨hk18, h⟩ := chk_some h;refine TO.eff rfl rfl rfl (Eff.append_own (b := 8) (en := encI) (l := out) (l2 := [a14.shelf]) (p := 1) (q := 0) ⟨rfl, rfl, rfl, ⟨_, rfl, rfl⟩, by decide, by decide⟩ rfl rfl rfl rfl rfl rfl (flat_ones _) (by decide) hk18) ?_;rintro v18 _ rfl;refine zG (_::_::C) rfl (zA R4 (zN (zT rfl (zM R4 ?_))));obtain ⟨hk10, h⟩ := chk_some h;refine zV R3 (Val.add rfl rfl hk10) (zA R4 (zN ?_));cases h;exact ⟨rfl, v18, (sb (pk [1,98] rfl))⟩
  refine zD rfl (zE ?_);cases h;exact ⟨ex_ne, ⟨rfl, v1, (sb .refl)⟩⟩
 ·rintro out v1 h;refine zU rfl (zM R4 (zA R4 (zN (zR ?_))));cases h;exact ⟨rfl, _, rfl, ⟨v1, rfl, .refl⟩⟩
set_option maxRecDepth 10000 in
theorem tf_r9_Book {k : Nat} (hk : 0 ≤ k) {C : List Thing} {qH : AV} {qE : List Str} {qG : AV} {qF : List qD} {qB : AV} {qC : List qA} {qT : Int} {qU : Int} {qV : Str} {qP : Int} {qO : Int} {qAb : Int} {qAd : Int} {v_before : AV} {before : List qA} (qAc : Rdl C encStr qH qE) (qW : Rdl C qZ qG qF) (qI : Rdl C qS qB qC) (h_before : Rdl C qS v_before before) {r : Int} (h : P_r9_Book qE qF qC qT qU qV qP qO qAb qAd before = some r) :
  TF (EL k) 12 [.agg [qH, qG, qB], .agg [iv (qT), iv (qU), sv qV, iv (qP), iv (qO), iv (qAb), iv (qAd)], v_before] C (RepF (fun (w : Unit) => iv r) (fun (w : Unit) => C)) := by
 unfold P_r9_Book at h;refine TF.enter (fn := Go.Proofs.Tryz.f12) rfl rfl rfl rfl rfl (zU rfl (zQ 3 [_,_,_] R7 (fun b3=>zQ 7 [_,_,_,_,_,_,_] R7 (fun b4=>zA R4 (zN (zU rfl (zV R3 (vW 1 [_,_,_] R5 R4) (zF 0 R6 (zV R3 (vW 0 [_,_,_] R5 R4) ?_)))))))));obtain ⟨y12, hr12, h⟩ := andx_some h;refine TO.callT (first := []) (cap := []) (vs := [.agg [qH, qG, qB], .agg [iv (qT), iv (qU), sv qV]]) rfl rfl rfl rfl rfl rfl (orcN rfl) (tf_r9_Mark aD (Rdl.mono qAc M2) (Rdl.mono qW M2) (Rdl.mono qI M2) hr12) ?_;rintro _;refine zG (_::_::C) rfl (zA R4 (zN ?_))
 show T _ _ _ _ _ _;apply T.joinA (r := r) (W := Unit) (fun j w => ⟨[], [(2, v_before), (4, .ptr b4 0 7), (7, iv (j))], .row b4 7 [iv (qT), iv (qU), sv qV, iv (qP), iv (qO), iv (qAb), iv (qAd)] :: .row b3 3 [qH, qG, qB] :: C⟩) h
 ·intro j h
  show T _ _ _ _ _ _;apply T.joinA (r := j) (W := Unit) (fun j w => ⟨[], [(2, v_before), (4, .ptr b4 0 7), (7, iv (y12)), (32, bv j)], .row b4 7 [iv (qT), iv (qU), sv qV, iv (qP), iv (qO), iv (qAb), iv (qAd)] :: .row b3 3 [qH, qG, qB] :: C⟩) h
  ·intro j h;refine zT rfl (zM R4 ?_);obtain ⟨c14, hc14⟩ := zY (y12 = 0);refine zV R3 (Val.eql hc14 rfl rfl) (zM R4 ?_);obtain ⟨rfl, hc14, h⟩ | ⟨rfl, hc14, h⟩ := zI hc14 h
   ·refine zF 3 R6 (zL 0 R3 R6 ?_);obtain ⟨y18, hr18, h⟩ := andx_some h;refine TO.callT (first := []) (cap := []) (vs := [iv (qP), iv (1), iv (2000)]) rfl rfl rfl rfl rfl rfl (orcN rfl) (tf_r9_in aD hr18) ?_;rintro _;refine zG (_::_::C) rfl (zV R3 (Val.not rfl) (zM R4 ?_));obtain ⟨rfl, h⟩ | ⟨rfl, h⟩ := zZ h
    ·refine zF 4 R6 (zL 0 R3 R6 ?_);obtain ⟨y23, hr23, h⟩ := andx_some h;refine TO.callT (first := []) (cap := []) (vs := [iv (qO), iv (1), iv (2000)]) rfl rfl rfl rfl rfl rfl (orcN rfl) (tf_r9_in aD hr23) ?_;rintro _;refine zG (_::_::C) rfl (zV R3 (Val.not rfl) (zP R6 (zM R4 ?_)));obtain ⟨rfl, h⟩ | ⟨rfl, h⟩ := zZ h
     ·refine zF 5 R6 (zL 0 R3 R6 ?_);obtain ⟨y29, hr29, h⟩ := andx_some h;refine TO.callT (first := []) (cap := []) (vs := [iv (qAb), iv (1), iv (100)]) rfl rfl rfl rfl rfl rfl (orcN rfl) (tf_r9_in aD hr29) ?_;rintro _;refine zG (_::_::C) rfl (zV R3 (Val.not rfl) (zP R6 (zP R6 (zN ?_))));cases h;exact ⟨rfl, (), (sb .refl)⟩
     refine zO R3 (zO R3 (zO R3 (zO R3 (zP R6 (zP R6 (zN ?_))))));cases h;exact ⟨rfl, (), (sb .refl)⟩
    refine zO R3 (zO R3 (zO R3 (zO R3 (zP R6 (zM R4 (zO R3 (zO R3 (zO R3 (zO R3 (zP R6 (zP R6 (zN ?_))))))))))));cases h;exact ⟨rfl, (), (sb .refl)⟩
   refine zO R3 (zO R3 (zO R3 (zO R3 (zO R3 (zO R3 (zO R3 (zO R3 (zO R3 (zO R3 (zO R3 (zO R3 (zO R3 (zO R3 (zO R3 (zO R3 (zP R6 (zN ?_)))))))))))))))));cases h;exact ⟨rfl, (), (sb .refl)⟩
  ·rintro x32 _ h;replace h := zZ h;obtain ⟨rfl, h⟩ | ⟨rfl, h⟩ := h
   ·refine zC rfl (zT rfl (zA R4 (zN ?_)));cases h;exact ⟨rfl, (), (sb .refl)⟩
   refine zD rfl (zK ?_);cases h;exact ⟨rfl, (), (sb .refl)⟩
 ·rintro e _ h
  show T _ _ _ _ _ _;apply T.joinA (r := r) (W := Unit) (fun j w => ⟨[], [(7, iv (j))], .row b4 7 [iv (qT), iv (qU), sv qV, iv (qP), iv (qO), iv (qAb), iv (qAd)] :: C⟩) h
  ·intro j h;refine zU rfl (zA R4 (zN (zB ?_)))
   show T _ _ _ _ _ _;apply T.iter (r := j) (W := Unit) (fun j w => ⟨[], [(2, v_before), (4, .ptr b4 0 7), (7, iv (j.1)), (8, iv (j.2))], .row b4 7 [iv (qT), iv (qU), sv qV, iv (qP), iv (qO), iv (qAb), iv (qAd)] :: C⟩) (w0 := ()) h
   ·exact (sb (pk [0,98] rfl))
   rintro ⟨e_2, i⟩ _ a h;unfold P_r9_Book_L1 at h;dsimp only at h;dsimp only
   show T _ _ _ _ _ _;apply T.join (r := a) (W := Unit) (fun j w => ⟨[], [(2, v_before), (4, .ptr b4 0 7), (7, iv (e_2)), (8, iv (i))], .row b4 7 [iv (qT), iv (qU), sv qV, iv (qP), iv (qO), iv (qAb), iv (qAd)] :: C⟩) h
   ·intro j h
    show T _ _ _ _ _ _;apply T.joinA (r := j) (W := Unit) (fun j w => ⟨[], [(2, v_before), (4, .ptr b4 0 7), (7, iv (e_2)), (8, iv (i)), (40, bv j)], .row b4 7 [iv (qT), iv (qU), sv qV, iv (qP), iv (qO), iv (qAb), iv (qAd)] :: C⟩) h
    ·intro j h;refine zT rfl (zM R4 (zM R4 (zV R3 (Val.len_l h_before M1 rfl rfl) ?_)));obtain ⟨c36, hc36⟩ := zY (i < (before.length : Int));refine zV R3 (Val.lss hc36 rfl rfl) (zM R4 ?_);obtain ⟨rfl, hc36, h⟩ | ⟨rfl, hc36, h⟩ := zI hc36 h
     ·refine zM R4 ?_;obtain ⟨c39, hc39⟩ := zY (e_2 = 0);refine zV R3 (Val.eql hc39 rfl rfl) (zP R6 (zN ?_));subst hc39;cases h;exact ⟨rfl, (), (sb .refl)⟩
     refine zO R3 (zO R3 (zP R6 (zN ?_)));cases h;exact ⟨rfl, (), (sb .refl)⟩
    ·rintro x40 _ h;replace h := zZ h;obtain ⟨rfl, h⟩ | ⟨rfl, h⟩ := h
     ·refine zC rfl (zK ?_);cases h;exact ⟨rfl, (), (sb .refl)⟩
     refine zD rfl (zE ?_);cases h;exact ⟨ex_ne, ⟨ex_ne, ⟨rfl, (), (sb .refl)⟩⟩⟩
   ·rintro _ _ h
    show T _ _ _ _ _ _;apply T.joinA (r := a) (W := Unit) (fun j w => ⟨[], [(2, v_before), (4, .ptr b4 0 7), (7, iv (j)), (8, iv (i))], .row b4 7 [iv (qT), iv (qU), sv qV, iv (qP), iv (qO), iv (qAb), iv (qAd)] :: C⟩) h
    ·intro j h;refine zB (zS (T.draw (fun v => sameC_refl v) (l1 := [0, 1, 2, 3, 4, 5, 6, 7]) (l2 := []) (by kernel_rfl) (by kernel_rfl) (zM R4 (zM R4 ?_))));obtain ⟨a45, hia45, ea45, h⟩ := el_some h;refine TO.fact (rdl_at h_before M1 hia45 ea45) (fun hp=>?_);obtain ⟨pa45, hpa45, hva45⟩ := hp;refine zV R3 (hva45 ⟨rfl, rfl⟩ rfl rfl) (zV R3 (Val.faddr_e (fo := 0) hpa45 rfl rfl rfl) (zV R3 (Val.load_es (c := [_, _, _]) (PtE.add hpa45 (by decide)) M1 ⟨⟨_, rfl, rfl⟩, rfl, by decide⟩ rfl rfl rfl) (zF 0 R6 (zV R3 (vW 0 [_,_,_] R5 R4) ?_))));obtain ⟨c50, hc50⟩ := zY (a45.qL = qT ∧ a45.qM = qU ∧ a45.qN = qV);refine zV R3 (Val.binD hc50 rfl rfl (eql_ty46 _ _ _ _ _ _ _ _)) (zN ?_);obtain ⟨rfl, hc50, h⟩ | ⟨rfl, hc50, h⟩ := zI hc50 h
     ·refine zC rfl (zT rfl (zA R4 (zN ?_)));cases h;exact ⟨rfl, (), (sb .refl)⟩
     refine zD rfl (zK ?_);cases h;exact ⟨rfl, (), (sb .refl)⟩
    ·rintro e_3 _ h;refine zT rfl (zM R4 ?_);obtain ⟨hk42, h⟩ := chk_some h;refine zV R3 (Val.add rfl rfl hk42) (zA R4 (zN ?_));cases h;exact ⟨rfl, (), (sb .refl)⟩
  ·rintro e_2 _ h;refine zU rfl (zM R4 (zA R4 (zN (zR ?_))));cases h;exact ⟨rfl, _, rfl, ⟨(), rfl, (pk [98] rfl)⟩⟩
set_option maxRecDepth 10000 in
theorem tf_r9_Filled {k : Nat} (hk : 0 ≤ k) {C : List Thing} {qH : AV} {qE : List Str} {qG : AV} {qF : List qD} {qB : AV} {qC : List qA} {v_books : AV} {books : List qA} {v_shelves : AV} {shelves : List Int} {shelf : Int} (qAc : Rdl C encStr qH qE) (qW : Rdl C qZ qG qF) (qI : Rdl C qS qB qC) (h_books : Rdl C qS v_books books) (h_shelves : Rdl C encI v_shelves shelves) {r : Int} (h : P_r9_Filled qE qF qC books shelves shelf = some r) :
  TF (EL k) 56 [.agg [qH, qG, qB], v_books, v_shelves, iv (shelf)] C (RepF (fun (w : Unit) => iv r) (fun (w : Unit) => C)) := by
 unfold P_r9_Filled at h;refine TF.enter (fn := Go.Proofs.Tryz.f56) rfl rfl rfl rfl rfl (zU rfl (zQ 3 [_,_,_] R7 (fun b4=>zA R4 (zN (zU rfl (zA R4 (zN ?_)))))))
 show T _ _ _ _ _ _;apply T.join (r := r) (W := Unit) (fun j w => ⟨[], [(9, iv (j))], .row b4 3 [qH, qG, qB] :: C⟩) h
 ·intro j h;refine zU rfl (zA R4 (zN (zB ?_)))
  show T _ _ _ _ _ _;apply T.iter (r := j) (W := Unit) (fun j w => ⟨[], [(1, v_books), (2, v_shelves), (3, iv (shelf)), (4, .ptr b4 0 3), (9, iv (j.1)), (10, iv (j.2))], .row b4 3 [qH, qG, qB] :: C⟩) (w0 := ()) h
  ·exact (sb .refl)
  rintro ⟨n, i⟩ _ a h;unfold P_r9_Filled_L1 at h;dsimp only at h;dsimp only;refine zS (zU rfl (zM R4 (zM R4 (zV R3 (Val.len_l h_books M1 rfl rfl) ?_))));obtain ⟨c14, hc14⟩ := zY (i < (books.length : Int));refine zV R3 (Val.lss hc14 rfl rfl) (zN ?_);obtain ⟨rfl, hc14, h⟩ | ⟨rfl, hc14, h⟩ := zI hc14 h
  ·refine zC rfl (zK ?_)
   show T _ _ _ _ _ _;apply T.join (r := a) (W := Unit) (fun j w => ⟨[], [(1, v_books), (2, v_shelves), (3, iv (shelf)), (4, .ptr b4 0 3), (9, iv (j)), (10, iv (i))], .row b4 3 [qH, qG, qB] :: C⟩) h
   ·intro j h;refine zB (zS (zU rfl (zM R4 (zM R4 ?_))));obtain ⟨a19, hia19, ea19, h⟩ := el_some h;refine TO.fact (rdl_at h_shelves M1 hia19 ea19) (fun hp=>?_);obtain ⟨pa19, hpa19, hva19⟩ := hp;refine zV R3 (hva19 ⟨rfl, rfl⟩ rfl rfl) (zV R3 (Val.load_e hpa19 M1 ⟨_, rfl, rfl⟩ rfl rfl) (zM R4 ?_));obtain ⟨c22, hc22⟩ := zY (¬ a19 = shelf);refine zV R3 (Val.neq hc22 rfl rfl) (zN ?_);obtain ⟨rfl, hc22, h⟩ | ⟨rfl, hc22, h⟩ := zI hc22 h
    ·refine zC rfl (zE ?_);cases h;exact ⟨rfl, (), (sb .refl)⟩
    refine zD rfl (zK (zS (zS (T.draw (fun v => sameC_refl v) (l1 := [0, 1, 2, 3, 4, 5, 6, 7, 8, 9, 10, 11]) (l2 := []) (by kernel_rfl) (by kernel_rfl) (zM R4 (zM R4 ?_))))));obtain ⟨a25, hia25, ea25, h⟩ := el_some h;refine TO.fact (rdl_at h_books M1 hia25 ea25) (fun hp=>?_);obtain ⟨pa25, hpa25, hva25⟩ := hp;refine zV R3 (hva25 ⟨rfl, rfl⟩ rfl rfl) (zV R3 (Val.faddr_e (fo := 4) hpa25 rfl rfl rfl) (zV R3 (Val.load_e (PtE.add hpa25 (by decide)) M1 ⟨_, rfl, rfl⟩ rfl rfl) (zF 1 R6 (zL 0 R3 R6 (zM R4 ?_)))));obtain ⟨a31, hia31, ea31, h⟩ := el_some h;refine TO.fact (rdl_at qW M1 hia31 ea31) (fun hp=>?_);obtain ⟨pa31, hpa31, hva31⟩ := hp;refine zV R3 (hva31 ⟨rfl, rfl⟩ rfl rfl) (zV R3 (Val.faddr_e (fo := 3) hpa31 rfl rfl rfl) (zV R3 (Val.load_e (PtE.add hpa31 (by decide)) M1 ⟨_, rfl, rfl⟩ rfl rfl) ?_));obtain ⟨c34, hc34⟩ := zY (a25.high > a31.high);refine zV R3 (Val.gtr hc34 rfl rfl) (zN ?_);obtain ⟨rfl, hc34, h⟩ | ⟨rfl, hc34, h⟩ := zI hc34 h
    ·refine zC rfl (zU rfl (zA R4 (zN (zR ?_))));cases h;exact ⟨ret_ne, ⟨ret_ne, ⟨ret_ne, ⟨rfl, _, rfl, ⟨(), rfl, (pk [98] rfl)⟩⟩⟩⟩⟩
    refine zD rfl (zK (zT rfl (zM R4 (zM R4 (zM R4 ?_)))));obtain ⟨a38, hia38, ea38, h⟩ := el_some h;refine TO.fact (rdl_at h_books M1 hia38 ea38) (fun hp=>?_);obtain ⟨pa38, hpa38, hva38⟩ := hp;refine zV R3 (hva38 ⟨rfl, rfl⟩ rfl rfl) (zV R3 (Val.faddr_e (fo := 3) hpa38 rfl rfl rfl) (zV R3 (Val.load_e (PtE.add hpa38 (by decide)) M1 ⟨_, rfl, rfl⟩ rfl rfl) ?_));obtain ⟨hk41, h⟩ := chk_some h;refine zV R3 (Val.add rfl rfl hk41) (zA R4 (zN ?_));cases h;exact ⟨rfl, (), (sb .refl)⟩
   ·rintro n_2 _ h;refine zT rfl (zM R4 ?_);obtain ⟨hk16, h⟩ := chk_some h;refine zV R3 (Val.add rfl rfl hk16) (zA R4 (zN ?_));cases h;exact ⟨rfl, (), (sb .refl)⟩
  refine zD rfl (zE ?_);cases h;exact ⟨ex_ne, ⟨rfl, (), (sb .refl)⟩⟩
 ·rintro n _ h;refine zU rfl (zM R4 (zA R4 (zN (zR ?_))));cases h;exact ⟨rfl, _, rfl, ⟨(), rfl, (pk [98] rfl)⟩⟩
set_option maxRecDepth 10000 in
theorem tf_r9_fit {k : Nat} (hk : 0 ≤ k) {C : List Thing} {qH : AV} {qE : List Str} {qG : AV} {qF : List qD} {qB : AV} {qC : List qA} {v_books : AV} {books : List qA} {v_shelves : AV} {shelves : List Int} {shelf : Int} (qAc : Rdl C encStr qH qE) (qW : Rdl C qZ qG qF) (qI : Rdl C qS qB qC) (h_books : Rdl C qS v_books books) (h_shelves : Rdl C encI v_shelves shelves) {r : Bool} (h : P_r9_fit qE qF qC books shelves shelf = some r) :
  TF (EL k) 13 [.agg [qH, qG, qB], v_books, v_shelves, iv (shelf)] C (RepF (fun (w : Unit) => bv r) (fun (w : Unit) => C)) := by
 unfold P_r9_fit at h;refine TF.enter (fn := Go.Proofs.Tryz.f13) rfl rfl rfl rfl rfl (zU rfl (zQ 3 [_,_,_] R7 (fun b4=>zA R4 (zN (zS (T.drawE (l1 := [0, 1, 2, 3, 5, 6, 7, 8, 9, 10]) (l2 := [4, 11, 12]) (by kernel_rfl) (by kernel_rfl) (yR R4 (vW 0 [_,_,_] R5 R4) (yL R4 (Val.move rfl) (yL R4 (Val.move rfl) (yL R4 (Val.move rfl) (yL R4 (Val.faddr_ptr (fo := 1) rfl rfl rfl) (yR R4 (vR (p := 0) R6) (yL R4 (Val.move rfl) ?_)))))))))))));obtain ⟨a17, hia17, ea17, h⟩ := el_some h;refine TD1.fact (rdl_at qW M1 hia17 ea17) (fun hp=>?_);obtain ⟨pa17, hpa17, hva17⟩ := hp;refine yL R4 (hva17 ⟨rfl, rfl⟩ rfl rfl) (yL R4 (Val.faddr_e (fo := 2) hpa17 rfl rfl rfl) (yR R4 (Val.load_e (PtE.add hpa17 (by decide)) M1 ⟨_, rfl, rfl⟩ rfl rfl) (TD1.over (fun v => sameC_refl v) (all_cons (⟨_, rfl, (Val.load_e (PtE.add hpa17 (by decide)) M1 ⟨_, rfl, rfl⟩ rfl rfl)⟩) (all_cons (⟨_, rfl, (vR (p := 0) R6)⟩) (all_cons (⟨_, rfl, (vW 0 [_,_,_] R5 R4)⟩) all_nil))) ?_)));obtain ⟨y13, hr13, h⟩ := andx_some h;refine TD2.heavy (fun v => sameC_refl v) rfl (by decide) rfl rfl (OpS.callV rfl rfl rfl rfl (orcN rfl) (RepF.conv (tf_r9_Filled aD (Rdl.mono qAc M1) (Rdl.mono qW M1) (Rdl.mono qI M1) (Rdl.mono h_books M1) (Rdl.mono h_shelves M1) hr13))) ?_;rintro _ hs_ ⟨_, rfl, he_⟩;subst hs_;refine ⟨(all_cons (.inr ⟨_, rfl, (Val.load_e (PtE.add hpa17 (by decide)) M1 ⟨_, rfl, rfl⟩ rfl rfl)⟩) (all_cons (.inr ⟨_, rfl, (vR (p := 0) R6)⟩) (all_cons (.inl (by kernel_rfl)) all_nil))), all_nil, ?_⟩;refine yG (_::C) rfl ?_;obtain ⟨y20, hr20, h⟩ := andx_some h;refine TD2.heavy (fun v => sameC_refl v) rfl (by decide) rfl rfl (OpS.callV rfl rfl rfl rfl (orcN rfl) (RepF.conv (tf_r9_in aD hr20))) ?_;rintro _ hs_ ⟨_, rfl, he_⟩;subst hs_;refine ⟨(all_cons (.inl (by kernel_rfl)) (all_cons (.inl (by kernel_rfl)) (all_cons (.inl (by kernel_rfl)) all_nil))), all_nil, ?_⟩;refine yG (_::C) rfl (yM R4 (Val.assign rfl) (TD2.nil (zR ?_)));cases h;exact ⟨rfl, _, rfl, ⟨(), rfl, (pk [98] rfl)⟩⟩
set_option maxRecDepth 10000 in
theorem tf_r9_Check {k : Nat} (hk : 0 ≤ k) {C : List Thing} {qH : AV} {qE : List Str} {qG : AV} {qF : List qD} {qB : AV} {qC : List qA} (qAg : RdT encStr qH qE) (qBc : RdT qZ qG qF) (qAf : RdT qS qB qC) {r : Int × Int × Int} (h : P_r9_Check qE qF qC = some r) :
  TF (EL k) 4 [.agg [qH, qG, qB]] C (RepF (fun (w : Unit) => .tuple [iv r.1, iv r.2.1, iv r.2.2]) (fun (w : Unit) => C)) := by
 unfold P_r9_Check at h
 have qAc : Rdl C encStr qH qE := RdT.rdl qAg
 have qW : Rdl C qZ qG qF := RdT.rdl qBc
 have qI : Rdl C qS qB qC := RdT.rdl qAf;refine TF.enter (fn := Go.Proofs.Tryz.f4) rfl rfl rfl rfl rfl (zU rfl (zQ 3 [_,_,_] R7 (fun b1=>zA R4 (zA R4 (zA R4 (zN (zS (zU rfl (zF 0 R6 (zL 0 R3 R6 (zV R3 (Val.len_l qAc M1 rfl rfl) ?_)))))))))));obtain ⟨y16, hr16, h⟩ := andx_some h;refine TO.callT (first := []) (cap := []) (vs := [iv ((qE.length : Int)), iv (1), iv (6)]) rfl rfl rfl rfl rfl rfl (orcN rfl) (tf_r9_in aD hr16) ?_;rintro _;refine zG (_::C) rfl (zV R3 (Val.not rfl) (zN ?_));obtain ⟨rfl, h⟩ | ⟨rfl, h⟩ := zZ h
 ·refine zD rfl (zK ?_)
  show T _ _ _ _ _ _;apply T.join (r := r) (W := Unit) (fun j w => ⟨[], [(1, .ptr b1 0 3)], .row b1 3 [qH, qG, qB] :: C⟩) h
  ·intro j h;refine zU rfl (zA R4 (zN (zB ?_)))
   show T _ _ _ _ _ _;apply T.iter (r := j) (W := Unit) (fun j w => ⟨[], [(1, .ptr b1 0 3), (5, iv (j))], .row b1 3 [qH, qG, qB] :: C⟩) (w0 := ()) h
   ·exact (sb .refl)
   rintro i _ a h;unfold P_r9_Check_L1 at h;refine zS (zU rfl (zM R4 (zF 0 R6 (zL 0 R3 R6 (zV R3 (Val.len_l qAc M1 rfl rfl) ?_)))));obtain ⟨c22, hc22⟩ := zY (i < (qE.length : Int));refine zV R3 (Val.lss hc22 rfl rfl) (zN ?_);obtain ⟨rfl, hc22, h⟩ | ⟨rfl, hc22, h⟩ := zI hc22 h
   ·refine zC rfl (zK (zS (zB (zS (T.drawE (l1 := [0, 1, 2, 3, 4, 5, 6, 7, 8]) (l2 := [9, 10]) (by kernel_rfl) (by kernel_rfl) (yL R4 (Val.faddr_ptr (fo := 0) rfl rfl rfl) (yR R4 (vR (p := 0) R6) (yL R4 (Val.move rfl) ?_))))))));obtain ⟨a28, hia28, ea28, h⟩ := el_some h;refine TD1.fact (rdl_at qAc M1 hia28 ea28) (fun hp=>?_);obtain ⟨pa28, hpa28, hva28⟩ := hp;refine yL R4 (hva28 ⟨rfl, rfl⟩ rfl rfl) (yR R4 (Val.load_e hpa28 M1 ⟨_, rfl, rfl⟩ rfl rfl) (yL R4 (Val.faddr_ptr (fo := 0) rfl rfl rfl) (yR R4 (vR (p := 0) R6) (yL R4 (Val.move rfl) ?_))));obtain ⟨hk33, h⟩ := chk_some h;obtain ⟨w33, htw33, hgw33, hvw33⟩ := slice_T qAg hk33
    have hw33 : Rdl C encStr w33 (List.take (i - (0 : Int)).toNat (List.drop ((0 : Int) : Int).toNat qE)) := RdT.rdl htw33;refine yR R4 (hvw33 ⟨rfl, rfl⟩ rfl .no (.some rfl)) (TD1.over (fun v => sameC_refl v) (all_cons (⟨_, rfl, (hvw33 ⟨rfl, rfl⟩ rfl .no (.some rfl))⟩) (all_cons (⟨_, rfl, (vR (p := 0) R6)⟩) (all_cons (⟨_, rfl, (Val.load_e hpa28 M1 ⟨_, rfl, rfl⟩ rfl rfl)⟩) (all_cons (⟨_, rfl, (vR (p := 0) R6)⟩) all_nil)))) ?_);obtain ⟨y34, hr34, h⟩ := andx_some h;refine TD2.heavy (fun v => sameC_refl v) rfl (by decide) rfl rfl (OpS.callV rfl rfl rfl rfl (orcN rfl) (RepF.conv (tf_r1_Fresh aD (Rdl.mono hw33 M1) hr34))) ?_;rintro _ hs_ ⟨_, rfl, he_⟩;subst hs_;refine ⟨(all_cons (.inl (by kernel_rfl)) (all_cons (.inl (by kernel_rfl)) (all_cons (.inl (by kernel_rfl)) (all_cons (.inl (by kernel_rfl)) all_nil)))), all_nil, ?_⟩;refine yG (_::C) rfl (yM R4 (Val.assign rfl) (TD2.nil (zU rfl (zM R4 ?_))));obtain ⟨c36, hc36⟩ := zY (¬ y34 = 0);refine zV R3 (Val.neq hc36 rfl rfl) (zN ?_);obtain ⟨rfl, hc36, h⟩ | ⟨rfl, hc36, h⟩ := zI hc36 h
    ·refine zC rfl (zU rfl (zM R4 (zM R4 (zA R4 (zA R4 (zA R4 (zN (zR ?_))))))));cases h;exact ⟨ret_ne, ⟨ret_ne, ⟨rfl, _, rfl, ⟨(), rfl, (pk [98] rfl)⟩⟩⟩⟩
    refine zD rfl (zK (zT rfl (zM R4 ?_)));obtain ⟨hk24, h⟩ := chk_some h;refine zV R3 (Val.add rfl rfl hk24) (zA R4 (zN ?_));cases h;exact ⟨rfl, (), (sb .refl)⟩
   refine zD rfl (zE ?_);cases h;exact ⟨ex_ne, ⟨rfl, (), (sb .refl)⟩⟩
  ·rintro _ _ h;refine zS (zU rfl (zF 1 R6 (zL 0 R3 R6 (zV R3 (Val.len_l qW M1 rfl rfl) ?_))));obtain ⟨y42, hr42, h⟩ := andx_some h;refine TO.callT (first := []) (cap := []) (vs := [iv ((qF.length : Int)), iv (1), iv (4)]) rfl rfl rfl rfl rfl rfl (orcN rfl) (tf_r9_in aD hr42) ?_;rintro _;refine zG (_::C) rfl (zV R3 (Val.not rfl) (zN ?_));obtain ⟨rfl, h⟩ | ⟨rfl, h⟩ := zZ h
   ·refine zD rfl (zK ?_)
    show T _ _ _ _ _ _;apply T.join (r := r) (W := Unit) (fun j w => ⟨[], [(1, .ptr b1 0 3)], .row b1 3 [qH, qG, qB] :: C⟩) h
    ·intro j h;refine zU rfl (zA R4 (zN (zB ?_)))
     show T _ _ _ _ _ _;apply T.iter (r := j) (W := Unit) (fun j w => ⟨[], [(1, .ptr b1 0 3), (7, iv (j))], .row b1 3 [qH, qG, qB] :: C⟩) (w0 := ()) h
     ·exact (sb .refl)
     rintro i _ a h;unfold P_r9_Check_L2 at h;refine zS (zU rfl (zM R4 (zF 1 R6 (zL 0 R3 R6 (zV R3 (Val.len_l qW M1 rfl rfl) ?_)))));obtain ⟨c48, hc48⟩ := zY (i < (qF.length : Int));refine zV R3 (Val.lss hc48 rfl rfl) (zN ?_);obtain ⟨rfl, hc48, h⟩ | ⟨rfl, hc48, h⟩ := zI hc48 h
     ·refine zC rfl (zK ?_)
      show T _ _ _ _ _ _;apply T.join (r := a) (W := Unit) (fun j w => ⟨[], [(1, .ptr b1 0 3), (7, iv (i))], .row b1 3 [qH, qG, qB] :: C⟩) h
      ·intro j h;refine zB (zU rfl (zF 1 R6 (zL 0 R3 R6 (zM R4 ?_))));obtain ⟨a54, hia54, ea54, h⟩ := el_some h;refine TO.fact (rdl_at qW M1 hia54 ea54) (fun hp=>?_);obtain ⟨pa54, hpa54, hva54⟩ := hp;refine zV R3 (hva54 ⟨rfl, rfl⟩ rfl rfl) (zV R3 (Val.load_es (c := [_, _, _, _]) hpa54 M1 ⟨⟨_, rfl, rfl⟩, rfl, by decide⟩ rfl rfl rfl) (zJ 4 [_,_,_,_] R7 (fun b8=>TO.eff0 rfl rfl (Eff.store_row (p := 0) (cv := [_, _, _, _]) (cells' := [_, _, _, _]) rfl rfl rfl rfl rfl rfl rfl rfl aG (by decide) rfl) ?_)));rintro _ rfl;refine zG (_::_::C) rfl (zN ?_)
       show T _ _ _ _ _ _;apply T.joinA (r := j) (W := Unit) (fun j w => ⟨[], [(1, .ptr b1 0 3), (7, iv (i)), (77, bv j)], .row b8 4 [iv (a54.away), iv (a54.climb), iv (a54.wide), iv (a54.high)] :: .row b1 3 [qH, qG, qB] :: C⟩) h
       ·intro j h;refine zT rfl (zF 0 R6 (zL 0 R3 R6 ?_));obtain ⟨y58, hr58, h⟩ := andx_some h;refine TO.callT (first := []) (cap := []) (vs := [iv (a54.away), iv (0), iv (1000)]) rfl rfl rfl rfl rfl rfl (orcN rfl) (tf_r9_in aD hr58) ?_;rintro _;refine zG (_::_::C) rfl (zV R3 (Val.not rfl) (zM R4 ?_));obtain ⟨rfl, h⟩ | ⟨rfl, h⟩ := zZ h
        ·refine zF 1 R6 (zL 0 R3 R6 ?_);obtain ⟨y63, hr63, h⟩ := andx_some h;refine TO.callT (first := []) (cap := []) (vs := [iv (a54.climb), iv (0), iv (1000)]) rfl rfl rfl rfl rfl rfl (orcN rfl) (tf_r9_in aD hr63) ?_;rintro _;refine zG (_::_::C) rfl (zV R3 (Val.not rfl) (zP R6 (zM R4 ?_)));obtain ⟨rfl, h⟩ | ⟨rfl, h⟩ := zZ h
         ·refine zF 2 R6 (zL 0 R3 R6 ?_);obtain ⟨y69, hr69, h⟩ := andx_some h;refine TO.callT (first := []) (cap := []) (vs := [iv (a54.wide), iv (1), iv (2000)]) rfl rfl rfl rfl rfl rfl (orcN rfl) (tf_r9_in aD hr69) ?_;rintro _;refine zG (_::_::C) rfl (zV R3 (Val.not rfl) (zP R6 (zM R4 ?_)));obtain ⟨rfl, h⟩ | ⟨rfl, h⟩ := zZ h
          ·refine zF 3 R6 (zL 0 R3 R6 ?_);obtain ⟨y75, hr75, h⟩ := andx_some h;refine TO.callT (first := []) (cap := []) (vs := [iv (a54.high), iv (1), iv (2000)]) rfl rfl rfl rfl rfl rfl (orcN rfl) (tf_r9_in aD hr75) ?_;rintro _;refine zG (_::_::C) rfl (zV R3 (Val.not rfl) (zP R6 (zN ?_)));cases h;exact ⟨rfl, (), (sb .refl)⟩
          refine zO R3 (zO R3 (zO R3 (zO R3 (zP R6 (zN ?_)))));cases h;exact ⟨rfl, (), (sb .refl)⟩
         refine zO R3 (zO R3 (zO R3 (zO R3 (zP R6 (zM R4 (zO R3 (zO R3 (zO R3 (zO R3 (zP R6 (zN ?_)))))))))));cases h;exact ⟨rfl, (), (sb .refl)⟩
        refine zO R3 (zO R3 (zO R3 (zO R3 (zP R6 (zM R4 (zO R3 (zO R3 (zO R3 (zO R3 (zP R6 (zM R4 (zO R3 (zO R3 (zO R3 (zO R3 (zP R6 (zN ?_)))))))))))))))));cases h;exact ⟨rfl, (), (sb .refl)⟩
       ·rintro x77 _ h;replace h := zZ h;obtain ⟨rfl, h⟩ | ⟨rfl, h⟩ := h
        ·refine zC rfl (zU rfl (zM R4 (zA R4 (zA R4 (zA R4 (zN (zR ?_)))))));cases h;exact ⟨ret_ne, ⟨ret_ne, ⟨ret_ne, ⟨rfl, _, rfl, ⟨(), rfl, (pk [98,98] rfl)⟩⟩⟩⟩⟩
        refine zD rfl (zK ?_);cases h;exact ⟨rfl, (), (sb (pk [1,98] rfl))⟩
      ·rintro _ _ h;refine zT rfl (zM R4 ?_);obtain ⟨hk50, h⟩ := chk_some h;refine zV R3 (Val.add rfl rfl hk50) (zA R4 (zN ?_));cases h;exact ⟨rfl, (), (sb .refl)⟩
     refine zD rfl (zE ?_);cases h;exact ⟨ex_ne, ⟨rfl, (), (sb .refl)⟩⟩
    ·rintro _ _ h;refine zS (zU rfl (zF 2 R6 (zL 0 R3 R6 (zV R3 (Val.len_l qI M1 rfl rfl) ?_))));obtain ⟨c82, hc82⟩ := zY ((qC.length : Int) > 10);refine zV R3 (Val.gtr hc82 rfl rfl) (zN ?_);obtain ⟨rfl, hc82, h⟩ | ⟨rfl, hc82, h⟩ := zI hc82 h
     ·refine zC rfl (zU rfl (zA R4 (zA R4 (zA R4 (zN (zR ?_))))));cases h;exact ⟨rfl, _, rfl, ⟨(), rfl, (pk [98] rfl)⟩⟩
     refine zD rfl (zK ?_)
     show T _ _ _ _ _ _;apply T.join (r := r) (W := Unit) (fun j w => ⟨[], [(1, .ptr b1 0 3)], .row b1 3 [qH, qG, qB] :: C⟩) h
     ·intro j h;refine zU rfl (zA R4 (zN (zB ?_)))
      show T _ _ _ _ _ _;apply T.iter (r := j) (W := Unit) (fun j w => ⟨[], [(1, .ptr b1 0 3), (9, iv (j))], .row b1 3 [qH, qG, qB] :: C⟩) (w0 := ()) h
      ·exact (sb .refl)
      rintro i _ a h;unfold P_r9_Check_L3 at h;refine zS (zU rfl (zM R4 (zF 2 R6 (zL 0 R3 R6 (zV R3 (Val.len_l qI M1 rfl rfl) ?_)))));obtain ⟨c87, hc87⟩ := zY (i < (qC.length : Int));refine zV R3 (Val.lss hc87 rfl rfl) (zN ?_);obtain ⟨rfl, hc87, h⟩ | ⟨rfl, hc87, h⟩ := zI hc87 h
      ·refine zC rfl (zK ?_)
       show T _ _ _ _ _ _;apply T.join (r := a) (W := Unit) (fun j w => ⟨[], [(1, .ptr b1 0 3), (9, iv (i))], .row b1 3 [qH, qG, qB] :: C⟩) h
       ·intro j h;refine zB (zU rfl (zF 2 R6 (zL 0 R3 R6 (zM R4 ?_))));obtain ⟨a93, hia93, ea93, h⟩ := el_some h;refine TO.fact (rdl_at qI M1 hia93 ea93) (fun hp=>?_);obtain ⟨pa93, hpa93, hva93⟩ := hp;refine zV R3 (hva93 ⟨rfl, rfl⟩ rfl rfl) (zV R3 (Val.load_es (c := [_, _, _, _, _, _, _]) hpa93 M1 ⟨⟨_, rfl, rfl⟩, rfl, by decide⟩ rfl rfl rfl) (zJ 7 [_,_,_,_,_,_,_] R7 (fun b10=>TO.eff0 rfl rfl (Eff.store_row (p := 0) (cv := [_, _, _, _, _, _, _]) (cells' := [_, _, _, _, _, _, _]) rfl rfl rfl rfl rfl rfl rfl rfl aG (by decide) rfl) ?_)));rintro _ rfl;refine zG (_::_::C) rfl (zN (zS (T.drawE (l1 := [0, 1, 2, 3, 4, 5]) (l2 := [6, 7]) (by kernel_rfl) (by kernel_rfl) (yR R4 (vW 1 [_,_,_] R5 R4) (yR R4 (vW 0 [_,_,_,_,_,_,_] R5 R4) (yL R4 (Val.faddr_ptr (fo := 2) rfl rfl rfl) (yR R4 (vR (p := 1) R6) (yL R4 (Val.move rfl) ?_))))))));obtain ⟨hk100, h⟩ := chk_some h;obtain ⟨w100, htw100, hgw100, hvw100⟩ := slice_T qAf hk100
        have hw100 : Rdl C qS w100 (List.take (i - (0 : Int)).toNat (List.drop ((0 : Int) : Int).toNat qC)) := RdT.rdl htw100;refine yR R4 (hvw100 ⟨rfl, rfl⟩ rfl .no (.some rfl)) (TD1.over (fun v => sameC_refl v) (all_cons (⟨_, rfl, (hvw100 ⟨rfl, rfl⟩ rfl .no (.some rfl))⟩) (all_cons (⟨_, rfl, (vR (p := 1) R6)⟩) (all_cons (⟨_, rfl, (vW 0 [_,_,_,_,_,_,_] R5 R4)⟩) (all_cons (⟨_, rfl, (vW 1 [_,_,_] R5 R4)⟩) all_nil)))) ?_);obtain ⟨y101, hr101, h⟩ := andx_some h;refine TD2.heavy (fun v => sameC_refl v) rfl (by decide) rfl rfl (OpS.callV rfl rfl rfl rfl (orcN rfl) (RepF.conv (tf_r9_Book aD (Rdl.mono qAc M2) (Rdl.mono qW M2) (Rdl.mono qI M2) (Rdl.mono hw100 M2) hr101))) ?_;rintro _ hs_ ⟨_, rfl, he_⟩;subst hs_;refine ⟨(all_cons (.inl (by kernel_rfl)) (all_cons (.inl (by kernel_rfl)) (all_cons (.inl (by kernel_rfl)) (all_cons (.inl (by kernel_rfl)) all_nil)))), all_nil, ?_⟩;refine yG (_::_::C) rfl (yM R4 (Val.assign rfl) (TD2.nil ?_))
        show T _ _ _ _ _ _;apply T.joinA (r := j) (W := Unit) (fun j w => ⟨[], [(1, .ptr b1 0 3), (9, iv (i)), (10, .ptr b10 0 7), (11, iv (j))], .row b10 7 [iv (a93.qL), iv (a93.qM), sv a93.qN, iv (a93.wide), iv (a93.high), iv (a93.heavy), iv (a93.shelf)] :: .row b1 3 [qH, qG, qB] :: C⟩) h
        ·intro j h
         show T _ _ _ _ _ _;apply T.joinA (r := j) (W := Unit) (fun j w => ⟨[], [(1, .ptr b1 0 3), (9, iv (i)), (10, .ptr b10 0 7), (11, iv (y101)), (113, bv j)], .row b10 7 [iv (a93.qL), iv (a93.qM), sv a93.qN, iv (a93.wide), iv (a93.high), iv (a93.heavy), iv (a93.shelf)] :: .row b1 3 [qH, qG, qB] :: C⟩) h
         ·intro j h;refine zT rfl (zM R4 ?_);obtain ⟨c103, hc103⟩ := zY (y101 = 0);refine zV R3 (Val.eql hc103 rfl rfl) (zM R4 ?_);obtain ⟨rfl, hc103, h⟩ | ⟨rfl, hc103, h⟩ := zI hc103 h
          ·refine zF 6 R6 (zL 0 R3 R6 (zF 1 R6 (zL 1 R3 R6 (zV R3 (Val.len_l qW M2 rfl rfl) ?_))));obtain ⟨hk110, h⟩ := chk_some h;refine zV R3 (Val.sub rfl rfl hk110) ?_;obtain ⟨y111, hr111, h⟩ := andx_some h;refine TO.callT (first := []) (cap := []) (vs := [iv (a93.shelf), iv (0), iv (((qF.length : Int) - 1))]) rfl rfl rfl rfl rfl rfl (orcN rfl) (tf_r9_in aD hr111) ?_;rintro _;refine zG (_::_::C) rfl (zV R3 (Val.not rfl) (zP R6 (zN ?_)));cases h;exact ⟨rfl, (), (sb .refl)⟩
          refine zO R3 (zO R3 (zO R3 (zO R3 (zO R3 (zO R3 (zO R3 (zO R3 (zP R6 (zN ?_)))))))));cases h;exact ⟨rfl, (), (sb .refl)⟩
         ·rintro x113 _ h;replace h := zZ h;obtain ⟨rfl, h⟩ | ⟨rfl, h⟩ := h
          ·refine zC rfl (zT rfl (zA R4 (zN ?_)));cases h;exact ⟨rfl, (), (sb .refl)⟩
          refine zD rfl (zK ?_);cases h;exact ⟨rfl, (), (sb .refl)⟩
        ·rintro e _ h
         show T _ _ _ _ _ _;apply T.joinA (r := j) (W := Unit) (fun j w => ⟨[], [(1, .ptr b1 0 3), (9, iv (i)), (11, iv (j))], .row b10 7 [iv (a93.qL), iv (a93.qM), sv a93.qN, iv (a93.wide), iv (a93.high), iv (a93.heavy), iv (a93.shelf)] :: .row b1 3 [qH, qG, qB] :: C⟩) h
         ·intro j h
          show T _ _ _ _ _ _;apply T.joinA (r := j) (W := Unit) (fun j w => ⟨[], [(1, .ptr b1 0 3), (9, iv (i)), (11, iv (e)), (131, bv j)], .row b10 7 [iv (a93.qL), iv (a93.qM), sv a93.qN, iv (a93.wide), iv (a93.high), iv (a93.heavy), iv (a93.shelf)] :: .row b1 3 [qH, qG, qB] :: C⟩) h
          ·intro j h;refine T.draw (fun v => sameC_refl v) (l1 := [0, 1, 2, 3, 4, 5, 6, 7, 8, 9, 10, 11, 12, 13, 14, 15, 16, 17]) (l2 := []) (by kernel_rfl) (by kernel_rfl) (zM R4 ?_);obtain ⟨c115, hc115⟩ := zY (e = 0);refine zV R3 (Val.eql hc115 rfl rfl) (zM R4 ?_);obtain ⟨rfl, hc115, h⟩ | ⟨rfl, hc115, h⟩ := zI hc115 h
           ·refine zM R4 ?_;obtain ⟨c118, hc118⟩ := zY (i > 0);refine zV R3 (Val.gtr hc118 rfl rfl) (zP R6 (zM R4 ?_));obtain ⟨rfl, hc118, h⟩ | ⟨rfl, hc118, h⟩ := zI hc118 h
            ·refine zF 6 R6 (zL 0 R3 R6 (zF 2 R6 (zL 1 R3 R6 (zM R4 ?_))));obtain ⟨hk126, h⟩ := chk_some h;refine zV R3 (Val.sub rfl rfl hk126) ?_;obtain ⟨a127, hia127, ea127, h⟩ := el_some h;refine TO.fact (rdl_at qI M2 hia127 ea127) (fun hp=>?_);obtain ⟨pa127, hpa127, hva127⟩ := hp;refine zV R3 (hva127 ⟨rfl, rfl⟩ rfl rfl) (zV R3 (Val.faddr_e (fo := 6) hpa127 rfl rfl rfl) (zV R3 (Val.load_e (PtE.add hpa127 (by decide)) M2 ⟨_, rfl, rfl⟩ rfl rfl) ?_));obtain ⟨c130, hc130⟩ := zY (a93.shelf < a127.shelf);refine zV R3 (Val.lss hc130 rfl rfl) (zP R6 (zN ?_));subst hc130;cases h;exact ⟨rfl, (), (sb .refl)⟩
            refine zO R3 (zO R3 (zO R3 (zO R3 (zO R3 (zO R3 (zO R3 (zO R3 (zO R3 (zO R3 (zP R6 (zN ?_)))))))))));cases h;exact ⟨rfl, (), (sb .refl)⟩
           refine zO R3 (zO R3 (zP R6 (zM R4 (zO R3 (zO R3 (zO R3 (zO R3 (zO R3 (zO R3 (zO R3 (zO R3 (zO R3 (zO R3 (zP R6 (zN ?_)))))))))))))));cases h;exact ⟨rfl, (), (sb .refl)⟩
          ·rintro x131 _ h;replace h := zZ h;obtain ⟨rfl, h⟩ | ⟨rfl, h⟩ := h
           ·refine zC rfl (zT rfl (zA R4 (zN ?_)));cases h;exact ⟨rfl, (), (sb .refl)⟩
           refine zD rfl (zK ?_);cases h;exact ⟨rfl, (), (sb .refl)⟩
         ·rintro e_2 _ h;refine zU rfl (zM R4 ?_);obtain ⟨c133, hc133⟩ := zY (¬ e_2 = 0);refine zV R3 (Val.neq hc133 rfl rfl) (zN ?_);obtain ⟨rfl, hc133, h⟩ | ⟨rfl, hc133, h⟩ := zI hc133 h
          ·refine zC rfl (zU rfl (zM R4 (zM R4 (zA R4 (zA R4 (zA R4 (zN (zR ?_))))))));cases h;exact ⟨ret_ne, ⟨ret_ne, ⟨ret_ne, ⟨rfl, _, rfl, ⟨(), rfl, (pk [98,98] rfl)⟩⟩⟩⟩⟩
          refine zD rfl (zK ?_);cases h;exact ⟨rfl, (), (sb (pk [1,98] rfl))⟩
       ·rintro _ _ h;refine zT rfl (zM R4 ?_);obtain ⟨hk89, h⟩ := chk_some h;refine zV R3 (Val.add rfl rfl hk89) (zA R4 (zN ?_));cases h;exact ⟨rfl, (), (sb .refl)⟩
      refine zD rfl (zE ?_);cases h;exact ⟨ex_ne, ⟨rfl, (), (sb .refl)⟩⟩
     ·rintro _ _ h
      show T _ _ _ _ _ _;apply T.join (r := r) (W := Unit) (fun j w => ⟨[], [], .row b1 3 [qH, qG, qB] :: C⟩) h
      ·intro j h;refine zU rfl (zA R4 (zN (zB ?_)))
       show T _ _ _ _ _ _;apply T.iter (r := j) (W := Unit) (fun j w => ⟨[], [(1, .ptr b1 0 3), (12, iv (j))], .row b1 3 [qH, qG, qB] :: C⟩) (w0 := ()) h
       ·exact (sb .refl)
       rintro i _ a h;unfold P_r9_Check_L4 at h;refine zS (zU rfl (zM R4 (zF 1 R6 (zL 0 R3 R6 (zV R3 (Val.len_l qW M1 rfl rfl) ?_)))));obtain ⟨c140, hc140⟩ := zY (i < (qF.length : Int));refine zV R3 (Val.lss hc140 rfl rfl) (zN ?_);obtain ⟨rfl, hc140, h⟩ | ⟨rfl, hc140, h⟩ := zI hc140 h
       ·refine zC rfl (zK (zS (zB (zS (T.drawE (l1 := [0, 1, 2, 3, 4, 6]) (l2 := [5, 7, 8]) (by kernel_rfl) (by kernel_rfl) (yR R4 (vW 0 [_,_,_] R5 R4) (yL R4 (Val.faddr_ptr (fo := 2) rfl rfl rfl) (yR R4 (vR (p := 0) R6) (yL R4 (Val.faddr_ptr (fo := 2) rfl rfl rfl) (yR R4 (vR (p := 0) R6) (yL R4 (Val.move rfl) (TD1.over (fun v => sameC_refl v) (all_cons (⟨_, rfl, (vR (p := 0) R6)⟩) (all_cons (⟨_, rfl, (vR (p := 0) R6)⟩) (all_cons (⟨_, rfl, (vW 0 [_,_,_] R5 R4)⟩) all_nil))) ?_))))))))))));obtain ⟨y148, hr148, h⟩ := andx_some h;refine TD2.heavy (fun v => sameC_refl v) rfl (by decide) rfl rfl (OpS.callV rfl rfl rfl rfl (orcN rfl) (RepF.conv (tf_r9_Own aD (Rdl.mono qI M1) hr148))) ?_;rintro w148 hs_ ⟨w148, rfl, he_⟩;subst hs_;refine ⟨(all_cons (.inl (by kernel_rfl)) (all_cons (.inr ⟨_, rfl, (vR (p := 1) R6)⟩) (all_cons (.inr ⟨_, rfl, (vW 1 [_,_,_] R5 R4)⟩) all_nil))), all_nil, ?_⟩;refine yG (_::_::C) rfl ?_;obtain ⟨y150, hr150, h⟩ := andx_some h;refine TD2.heavy (fun v => sameC_refl v) rfl (by decide) rfl rfl (OpS.callV rfl rfl rfl rfl (orcN rfl) (RepF.conv (tf_r9_fit aD (Rdl.mono qAc M2) (Rdl.mono qW M2) (Rdl.mono qI M2) (Rdl.mono qI M2) (Rdl.mono (Rdl.own (C := ownL true w148 encI y148 :: .row b1 3 [qH, qG, qB] :: C) (p := 0) rfl) mem0) hr150))) ?_;rintro _ hs_ ⟨_, rfl, he_⟩;subst hs_;refine ⟨(all_cons (.inl (by kernel_rfl)) (all_cons (.inl (by kernel_rfl)) (all_cons (.inl (by kernel_rfl)) all_nil))), all_nil, ?_⟩;refine yG (_::_::C) rfl (yM R4 (Val.not rfl) (TD2.nil ?_));obtain ⟨rfl, h⟩ | ⟨rfl, h⟩ := zZ h
        ·refine zD rfl (zK (zT rfl (zM R4 ?_)));obtain ⟨hk142, h⟩ := chk_some h;refine zV R3 (Val.add rfl rfl hk142) (zA R4 (zN ?_));cases h;exact ⟨rfl, (), (sb (pk [1,98] rfl))⟩
        refine zC rfl (zU rfl (zM R4 (zA R4 (zA R4 (zA R4 (zN (zR ?_)))))));cases h;exact ⟨ret_ne, ⟨ret_ne, ⟨rfl, _, rfl, ⟨(), rfl, (pk [98,98] rfl)⟩⟩⟩⟩
       refine zD rfl (zE ?_);cases h;exact ⟨ex_ne, ⟨rfl, (), (sb .refl)⟩⟩
      ·rintro _ _ h;refine zU rfl (zA R4 (zA R4 (zA R4 (zN (zR ?_)))));cases h;exact ⟨rfl, _, rfl, ⟨(), rfl, (pk [98] rfl)⟩⟩
   refine zC rfl (zU rfl (zA R4 (zA R4 (zA R4 (zN (zR ?_))))));cases h;exact ⟨rfl, _, rfl, ⟨(), rfl, (pk [98] rfl)⟩⟩
 refine zC rfl (zU rfl (zA R4 (zA R4 (zA R4 (zN (zR ?_))))));cases h;exact ⟨rfl, _, rfl, ⟨(), rfl, (pk [98] rfl)⟩⟩
theorem w_r9_Check (qE : GS encStr) (qF : GS qZ) (qC : GS qS) (r : Int × Int × Int) (h : P_r9_Check qE.l qF.l qC.l = some r) : Comes (EL 0) 4 [.agg [qE.v, qF.v, qC.v]] (.tuple [iv r.1, iv r.2.1, iv r.2.2]) :=
 TF.run (tf_r9_Check (Nat.le_refl _) (RdT.gs qE) (RdT.gs qF) (RdT.gs qC) h) fun w => (.tuple (.cons .lit (.cons .lit (.cons .lit .nil))))
set_option maxRecDepth 10000 in
theorem tf_q_Name {k : Nat} (hk : 0 ≤ k) {C : List Thing} {s : Str} {r : Bool} (h : P_q_Name s = some r) :
  TF (EL k) 64 [sv s] C (RepF (fun (w : Unit) => bv r) (fun (w : Unit) => C)) := by
 unfold P_q_Name at h;refine TF.enter (fn := Go.Proofs.Tryz.f64) rfl rfl rfl rfl rfl (zU rfl (zA R4 (zN ?_)))
 show T _ _ _ _ _ _;apply T.join (r := r) (W := Unit) (fun j w => ⟨[], [(0, sv s)], C⟩) h
 ·intro j h;refine zU rfl (zM R4 (TO.eff rfl rfl rfl (Eff.range_str rfl rfl) ?_));rintro _ _ ⟨it6, rfl, rfl⟩;refine zN (zB ?_)
  show T _ _ _ _ _ _;apply T.iter (r := j) (W := Unit) (fun j w => ⟨[], [(0, sv s), (6, .ptr it6 0 0)], strL it6 s j :: C⟩) (w0 := ()) h
  ·exact (sb .refl)
  rintro pos _ a h;unfold P_q_Name_L1 at h;refine zU rfl ?_;obtain ⟨c7, hc7⟩ := zY (pos < s.length);obtain ⟨rfl, hc7, h⟩ | ⟨rfl, hc7, h⟩ := zI hc7 h
  ·refine TO.eff rfl rfl rfl (Eff.next_str (p := 0) rfl rfl hc7) ?_;rintro _ _ ⟨rfl, rfl⟩;refine zG (_::C) rfl (zX R5 (zN (zS (zC rfl (zK (zB (zU rfl (zX R5 (zX R5 (zA R4 (zA R4 (zN (zB ?_)))))))))))))
   show T _ _ _ _ _ _;apply T.joinA (r := a) (W := Unit) (fun j w => ⟨[], [(0, sv s), (3, iv ((pos : Int))), (4, ivk .i32 ((runeAt s pos))), (6, .ptr it6 0 0), (11, bv j)], strL it6 s (pos + runeLen s pos) :: C⟩) h
   ·intro j h;refine zT rfl (zM R4 ?_);obtain ⟨c13, hc13⟩ := zY ((runeAt s pos) ≥ 97);refine zV R3 (Val.geqK hc13 rfl rfl) (zM R4 ?_);obtain ⟨rfl, hc13, h⟩ | ⟨rfl, hc13, h⟩ := zI hc13 h
    ·refine zM R4 ?_;obtain ⟨c16, hc16⟩ := zY ((runeAt s pos) ≤ 122);refine zV R3 (Val.leqK hc16 rfl rfl) (zP R6 (zA R4 (zN ?_)));subst hc16;cases h;exact ⟨rfl, (), (sb .refl)⟩
    refine zO R3 (zO R3 (zP R6 (zA R4 (zN ?_))));cases h;exact ⟨rfl, (), (sb .refl)⟩
   ·rintro x11 _ h;replace h := zZ h;obtain ⟨rfl, h⟩ | ⟨rfl, h⟩ := h
    ·refine zC rfl (zK ?_);cases h;exact ⟨rfl, (), (sb .refl)⟩
    refine zD rfl ?_
    show T _ _ _ _ _ _;apply T.joinA (r := a) (W := Unit) (fun j w => ⟨[], [(0, sv s), (6, .ptr it6 0 0), (18, bv j)], strL it6 s (pos + runeLen s pos) :: C⟩) h
    ·intro j h;refine zT rfl (zM R4 ?_);obtain ⟨c20, hc20⟩ := zY ((pos : Int) > 0);refine zV R3 (Val.gtr hc20 rfl rfl) (zM R4 ?_);obtain ⟨rfl, hc20, h⟩ | ⟨rfl, hc20, h⟩ := zI hc20 h
     ·refine zM R4 ?_;obtain ⟨c23, hc23⟩ := zY ((runeAt s pos) ≥ 48);refine zV R3 (Val.geqK hc23 rfl rfl) (zM R4 ?_);obtain ⟨rfl, hc23, h⟩ | ⟨rfl, hc23, h⟩ := zI hc23 h
      ·refine zM R4 ?_;obtain ⟨c26, hc26⟩ := zY ((runeAt s pos) ≤ 57);refine zV R3 (Val.leqK hc26 rfl rfl) (zP R6 (zM R4 ?_));obtain ⟨rfl, hc26, h⟩ | ⟨rfl, hc26, h⟩ := zI hc26 h
       ·refine zO R3 (zO R3 (zP R6 (zP R6 (zA R4 (zN ?_)))));cases h;exact ⟨rfl, (), (sb .refl)⟩
       refine zM R4 ?_;obtain ⟨c30, hc30⟩ := zY ((runeAt s pos) = 46);refine zV R3 (Val.eqlK hc30 rfl rfl) (zP R6 (zP R6 (zA R4 (zN ?_))));subst hc30;cases h;exact ⟨rfl, (), (sb .refl)⟩
      refine zO R3 (zO R3 (zP R6 (zM R4 (zM R4 ?_))));obtain ⟨c30, hc30⟩ := zY ((runeAt s pos) = 46);refine zV R3 (Val.eqlK hc30 rfl rfl) (zP R6 (zP R6 (zA R4 (zN ?_))));subst hc30;cases h;exact ⟨rfl, (), (sb .refl)⟩
     refine zO R3 (zO R3 (zO R3 (zO R3 (zO R3 (zO R3 (zO R3 (zO R3 (zO R3 (zO R3 (zP R6 (zA R4 (zN ?_))))))))))));cases h;exact ⟨rfl, (), (sb .refl)⟩
    ·rintro x18 _ h;replace h := zZ h;obtain ⟨rfl, h⟩ | ⟨rfl, h⟩ := h
     ·refine zC rfl (zK ?_);cases h;exact ⟨rfl, (), (sb .refl)⟩
     refine zD rfl (zU rfl (zA R4 (zN (zR ?_))));cases h;exact ⟨ret_ne, ⟨ret_ne, ⟨rfl, _, rfl, ⟨(), rfl, (pk [98] rfl)⟩⟩⟩⟩
  refine TO.eff rfl rfl rfl (Eff.next_end (p := 0) rfl rfl hc7) ?_;rintro _ _ ⟨rfl, rfl⟩;refine zG (_::C) rfl (zX R5 (zN (zS (zD rfl (zE ?_)))));cases h;exact ⟨ex_ne, ⟨rfl, (), (sb (pk [98] rfl))⟩⟩
 ·rintro _ _ h
  show T _ _ _ _ _ _;apply T.joinA (r := r) (W := Unit) (fun j w => ⟨[], [(2, bv j)], C⟩) h
  ·intro j h;refine zT rfl (zM R4 ?_);obtain ⟨c34, hc34⟩ := zY (¬ s = ([] : Str));refine zV R3 (Val.neq_str hc34 rfl rfl) (zM R4 ?_);obtain ⟨rfl, hc34, h⟩ | ⟨rfl, hc34, h⟩ := zI hc34 h
   ·refine zM R4 (zV R3 (Val.len_str rfl rfl) ?_);obtain ⟨c38, hc38⟩ := zY ((s.length : Int) ≤ 16);refine zV R3 (Val.leq hc38 rfl rfl) (zP R6 (zA R4 (zN ?_)));subst hc38;cases h;exact ⟨rfl, (), (sb .refl)⟩
   refine zO R3 (zO R3 (zO R3 (zP R6 (zA R4 (zN ?_)))));cases h;exact ⟨rfl, (), (sb .refl)⟩
  ·rintro x2 _ h;refine zR ?_;cases h;exact ⟨rfl, _, rfl, ⟨(), rfl, .refl⟩⟩
set_option maxRecDepth 10000 in
theorem tf_s9_out {k : Nat} (hk : 0 ≤ k) {C : List Thing} {lo : Int} {hi : Int} {v_numbers : AV} {numbers : List Int} (h_numbers : Rdl C encI v_numbers numbers) {r : Bool} (h : P_s9_out lo hi numbers = some r) :
  TF (EL k) 46 [iv (lo), iv (hi), v_numbers] C (RepF (fun (w : Unit) => bv r) (fun (w : Unit) => C)) := by
 unfold P_s9_out at h;refine TF.enter (fn := Go.Proofs.Tryz.f46) rfl rfl rfl rfl rfl (zU rfl (zQ 1 [_] R7 (fun b3=>zQ 1 [_] R7 (fun b4=>zA R4 (zN (zU rfl (zM R4 (zV R3 (Val.makeFunc rfl rfl) (TO.callIn rfl rfl rfl rfl rfl rfl (orcN rfl) (TF.enter (fn := Go.Proofs.Tryz.f93) rfl rfl rfl rfl rfl (zU rfl (zA R4 (zN (zU rfl (zM R4 (zM R4 ?_))))))))))))))));refine TO.callJ (W := Unit) (fun (j : Int) (w : Unit) => iv (j)) (fun (j : Int) (w : Unit) => .row b4 1 [iv (hi)] :: .row b3 1 [iv (lo)] :: C) h rfl rfl rfl rfl rfl rfl (orcN rfl) ?_ ?_
 ·intro j h;refine TF.enter (fn := Go.Proofs.Tryz.f135) rfl rfl rfl rfl rfl (zU rfl (zA R4 (zN ?_)))
  show T _ _ _ _ _ _;apply T.join (r := j) (W := Unit) (fun j w => ⟨[], [], .row b4 1 [iv (hi)] :: .row b3 1 [iv (lo)] :: C⟩) h
  ·intro j h;refine zU rfl (zM R4 (zV R3 (Val.len_l h_numbers M2 rfl rfl) (zM R4 (zN (zB ?_)))))
   show T _ _ _ _ _ _;apply T.iter (r := j) (W := Unit) (fun j w => ⟨[], [(0, v_numbers), (1, .func 94 [] [.ptr b3 0 1, .ptr b4 0 1]), (7, iv ((numbers.length : Int))), (8, iv (j))], .row b4 1 [iv (hi)] :: .row b3 1 [iv (lo)] :: C⟩) (w0 := ()) h
   ·exact (sb .refl)
   rintro x8 _ a h;unfold P_s9_out_L1 at h;refine zU rfl ?_;obtain ⟨c9, hc9⟩ := zY (x8 < (numbers.length : Int));refine zV R3 (Val.lss hc9 rfl rfl) (zN (zS ?_));obtain ⟨rfl, hc9, h⟩ | ⟨rfl, hc9, h⟩ := zI hc9 h
   ·refine zC rfl (zK (zS (zB (zU rfl (zM R4 (zA R4 (zN (zU rfl (zM R4 (zM R4 (zM R4 ?_)))))))))));obtain ⟨a14, hia14, ea14, h⟩ := el_some h;refine TO.fact (rdl_at h_numbers M2 hia14 ea14) (fun hp=>?_);obtain ⟨pa14, hpa14, hva14⟩ := hp;refine zV R3 (hva14 ⟨rfl, rfl⟩ rfl rfl) (zV R3 (Val.load_e hpa14 M2 ⟨_, rfl, rfl⟩ rfl rfl) (TO.callIn rfl rfl rfl rfl rfl rfl (orcN rfl) (TF.enter (fn := Go.Proofs.Tryz.f94) rfl rfl rfl rfl rfl (zU rfl (zA R4 (zN ?_))))))
    show T _ _ _ _ _ _;apply T.joinA (r := a) (W := Unit) (fun j w => ⟨[], [(4, bv j)], .row b4 1 [iv (hi)] :: .row b3 1 [iv (lo)] :: C⟩) h
    ·intro j h;refine zT rfl (zM R4 (zL 1 R3 R6 ?_));obtain ⟨c7, hc7⟩ := zY (a14 < lo);refine zV R3 (Val.lss hc7 rfl rfl) (zM R4 ?_);obtain ⟨rfl, hc7, h⟩ | ⟨rfl, hc7, h⟩ := zI hc7 h
     ·refine zO R3 (zO R3 (zO R3 (zP R6 (zA R4 (zN ?_)))));cases h;exact ⟨rfl, (), (sb .refl)⟩
     refine zM R4 (zL 0 R3 R6 ?_);obtain ⟨c11, hc11⟩ := zY (a14 > hi);refine zV R3 (Val.gtr hc11 rfl rfl) (zP R6 (zA R4 (zN ?_)));subst hc11;cases h;exact ⟨rfl, (), (sb .refl)⟩
    ·rintro x4 _ h;refine zR ?_;refine ⟨rfl, _, rfl, ?_⟩;refine zN ?_;obtain ⟨rfl, h⟩ | ⟨rfl, h⟩ := zZ h
     ·refine zC rfl (zU rfl (zM R4 (zA R4 (zN (zR ?_)))));cases h;exact ⟨ret_ne, ⟨ret_ne, ⟨rfl, _, rfl, ⟨(), rfl, .refl⟩⟩⟩⟩
     refine zD rfl (zK (zT rfl ?_));obtain ⟨hk18, h⟩ := chk_some h;refine zV R3 (Val.add rfl rfl hk18) (zM R4 (zN ?_));cases h;exact ⟨rfl, (), (sb .refl)⟩
   refine zD rfl (zE ?_);cases h;exact ⟨ex_ne, ⟨rfl, (), (sb .refl)⟩⟩
  ·rintro _ _ h;refine zU rfl (zA R4 (zN (zR ?_)));cases h;exact ⟨rfl, _, rfl, ⟨(), rfl, .refl⟩⟩
 ·rintro y7 _ h;refine zG (_::_::C) rfl ?_;obtain ⟨c8, hc8⟩ := zY (y7 ≥ 0);refine zV R3 (Val.geq hc8 rfl rfl) (zA R4 (zN (zR ?_)));refine ⟨rfl, _, rfl, ?_⟩;refine zA R4 (zN (zR ?_));subst hc8;cases h;exact ⟨rfl, _, rfl, ⟨(), rfl, (pk [98,98] rfl)⟩⟩
set_option maxRecDepth 10000 in
theorem tf_s9_mark {k : Nat} (hk : 0 ≤ k) {C : List Thing} {v_r_SfRoom_Classes : AV} {r_SfRoom_Classes : List Str} {v_r_SfRoom_Shelves : AV} {r_SfRoom_Shelves : List qD} {v_r_SfRoom_Books : AV} {r_SfRoom_Books : List qA} {m_Class : Int} {m_Number : Int} {m_Suffix : Str} (h_r_SfRoom_Classes : Rdl C encStr v_r_SfRoom_Classes r_SfRoom_Classes) (h_r_SfRoom_Shelves : Rdl C qZ v_r_SfRoom_Shelves r_SfRoom_Shelves) (h_r_SfRoom_Books : Rdl C qS v_r_SfRoom_Books r_SfRoom_Books) {r : Int} (h : P_s9_mark r_SfRoom_Classes r_SfRoom_Shelves r_SfRoom_Books m_Class m_Number m_Suffix = some r) :
  TF (EL k) 58 [.agg [v_r_SfRoom_Classes, v_r_SfRoom_Shelves, v_r_SfRoom_Books], .agg [iv (m_Class), iv (m_Number), sv m_Suffix]] C (RepF (fun (w : Unit) => iv r) (fun (w : Unit) => C)) := by
 unfold P_s9_mark at h;refine TF.enter (fn := Go.Proofs.Tryz.f58) rfl rfl rfl rfl rfl (zU rfl (zQ 3 [_,_,_] R7 (fun b2=>zQ 3 [_,_,_] R7 (fun b3=>zA R4 (zN (zS (zB (zU rfl (zF 0 R6 (zF 0 R6 (zL 1 R3 R6 (zV R3 (Val.len_l h_r_SfRoom_Classes M2 rfl rfl) ?_))))))))))));obtain ⟨hk12, h⟩ := chk_some h;refine zV R3 (Val.sub rfl rfl hk12) (zF 0 R6 (zL 0 R3 R6 (TO.build1 (en := encI) (a := m_Class) rfl rfl rfl ⟨rfl, rfl⟩ ⟨_, rfl, rfl⟩ (by decide) (by decide) rfl rfl (fun v15=>?_))));obtain ⟨y16, hr16, h⟩ := andx_some h;refine TO.callT (first := []) (cap := []) (vs := [iv (0), iv (((r_SfRoom_Classes.length : Int) - 1)), v15]) rfl rfl rfl rfl rfl rfl (orcN rfl) (tf_s9_out aD (Rdl.mono (Rdl.own (C := ownL false v15 encI [m_Class] :: .row b3 3 [iv (m_Class), iv (m_Number), sv m_Suffix] :: .row b2 3 [v_r_SfRoom_Classes, v_r_SfRoom_Shelves, v_r_SfRoom_Books] :: C) (p := 0) rfl) mem0) hr16) ?_;rintro _;refine zG (_::_::_::C) rfl (zA R4 (zN ?_));obtain ⟨rfl, h⟩ | ⟨rfl, h⟩ := zZ h
 ·refine zC rfl (zU rfl (zA R4 (zN (zR ?_))));cases h;exact ⟨rfl, _, rfl, ⟨(), rfl, (pk [98,98,98] rfl)⟩⟩
 refine zD rfl (zU rfl (zF 1 R6 (zL 1 R3 R6 (TO.build1 (en := encI) (a := m_Number) rfl rfl rfl ⟨rfl, rfl⟩ ⟨_, rfl, rfl⟩ (by decide) (by decide) rfl rfl (fun v20=>?_)))));obtain ⟨y21, hr21, h⟩ := andx_some h;refine TO.callT (first := []) (cap := []) (vs := [iv (1), iv (9999), v20]) rfl rfl rfl rfl rfl rfl (orcN rfl) (tf_s9_out aD (Rdl.mono (Rdl.own (C := ownL false v20 encI [m_Number] :: ownL false v15 encI [m_Class] :: .row b3 3 [iv (m_Class), iv (m_Number), sv m_Suffix] :: .row b2 3 [v_r_SfRoom_Classes, v_r_SfRoom_Shelves, v_r_SfRoom_Books] :: C) (p := 0) rfl) mem0) hr21) ?_;rintro _;refine zG (_::_::_::_::C) rfl (zA R4 (zN ?_));obtain ⟨rfl, h⟩ | ⟨rfl, h⟩ := zZ h
 ·refine zC rfl (zU rfl (zA R4 (zN (zR ?_))));cases h;exact ⟨rfl, _, rfl, ⟨(), rfl, (pk [98,98,98,98] rfl)⟩⟩
 refine zD rfl (zU rfl (zF 2 R6 (zL 2 R3 R6 (zV R3 (Val.len_str rfl rfl) ?_))));obtain ⟨c26, hc26⟩ := zY ((m_Suffix.length : Int) > 2);refine zV R3 (Val.gtr hc26 rfl rfl) (zA R4 (zN ?_));obtain ⟨rfl, hc26, h⟩ | ⟨rfl, hc26, h⟩ := zI hc26 h
 ·refine zC rfl (zU rfl (zA R4 (zN (zR ?_))));cases h;exact ⟨rfl, _, rfl, ⟨(), rfl, (pk [98,98,98,98] rfl)⟩⟩
 refine zD rfl (zK ?_)
 show T _ _ _ _ _ _;apply T.join (r := r) (W := Unit) (fun j w => ⟨[], [], C⟩) h
 ·intro j h;refine zU rfl (zF 2 R6 (zL 2 R3 R6 (TO.eff rfl rfl rfl (Eff.range_str rfl rfl) ?_)));rintro _ _ ⟨it29, rfl, rfl⟩;refine zN (zB ?_)
  show T _ _ _ _ _ _;apply T.iter (r := j) (W := Unit) (fun j w => ⟨[], [(29, .ptr it29 0 0)], strL it29 m_Suffix j :: C⟩) (w0 := ()) h
  ·exact (sb (pk [0,98,98,98,98] rfl))
  rintro pos _ a h;unfold P_s9_mark_L1 at h;refine zU rfl ?_;obtain ⟨c30, hc30⟩ := zY (pos < m_Suffix.length);obtain ⟨rfl, hc30, h⟩ | ⟨rfl, hc30, h⟩ := zI hc30 h
  ·refine TO.eff rfl rfl rfl (Eff.next_str (p := 0) rfl rfl hc30) ?_;rintro _ _ ⟨rfl, rfl⟩;refine zG (_::C) rfl (zX R5 (zN (zS (zC rfl (zK (zB (zU rfl (zX R5 (zA R4 (zN ?_))))))))))
   show T _ _ _ _ _ _;apply T.joinA (r := a) (W := Unit) (fun j w => ⟨[], [(29, .ptr it29 0 0), (38, bv j)], strL it29 m_Suffix (pos + runeLen m_Suffix pos) :: C⟩) h
   ·intro j h;refine zT rfl (zM R4 ?_);obtain ⟨c34, hc34⟩ := zY ((runeAt m_Suffix pos) < 97);refine zV R3 (Val.lssK hc34 rfl rfl) (zM R4 ?_);obtain ⟨rfl, hc34, h⟩ | ⟨rfl, hc34, h⟩ := zI hc34 h
    ·refine zO R3 (zO R3 (zP R6 (zN ?_)));cases h;exact ⟨rfl, (), (sb .refl)⟩
    refine zM R4 ?_;obtain ⟨c37, hc37⟩ := zY ((runeAt m_Suffix pos) > 122);refine zV R3 (Val.gtrK hc37 rfl rfl) (zP R6 (zN ?_));subst hc37;cases h;exact ⟨rfl, (), (sb .refl)⟩
   ·rintro x38 _ h;replace h := zZ h;obtain ⟨rfl, h⟩ | ⟨rfl, h⟩ := h
    ·refine zC rfl (zU rfl (zA R4 (zN (zR ?_))));cases h;exact ⟨ret_ne, ⟨ret_ne, ⟨rfl, _, rfl, ⟨(), rfl, (pk [98] rfl)⟩⟩⟩⟩
    refine zD rfl (zK ?_);cases h;exact ⟨rfl, (), (sb .refl)⟩
  refine TO.eff rfl rfl rfl (Eff.next_end (p := 0) rfl rfl hc30) ?_;rintro _ _ ⟨rfl, rfl⟩;refine zG (_::C) rfl (zX R5 (zN (zS (zD rfl (zE ?_)))));cases h;exact ⟨ex_ne, ⟨rfl, (), (sb (pk [98] rfl))⟩⟩
 ·rintro _ _ h;refine zU rfl (zA R4 (zN (zR ?_)));cases h;exact ⟨rfl, _, rfl, ⟨(), rfl, .refl⟩⟩
set_option maxRecDepth 10000 in
theorem tf_s9_book {k : Nat} (hk : 0 ≤ k) {C : List Thing} {v_r_SfRoom_Classes : AV} {r_SfRoom_Classes : List Str} {v_r_SfRoom_Shelves : AV} {r_SfRoom_Shelves : List qD} {v_r_SfRoom_Books : AV} {r_SfRoom_Books : List qA} {qT : Int} {qU : Int} {qV : Str} {qP : Int} {qO : Int} {qAb : Int} {qAd : Int} {v_others : AV} {others : List qA} (h_r_SfRoom_Classes : Rdl C encStr v_r_SfRoom_Classes r_SfRoom_Classes) (h_r_SfRoom_Shelves : Rdl C qZ v_r_SfRoom_Shelves r_SfRoom_Shelves) (h_r_SfRoom_Books : Rdl C qS v_r_SfRoom_Books r_SfRoom_Books) (h_others : Rdl C qS v_others others) {r : Int} (h : P_s9_book r_SfRoom_Classes r_SfRoom_Shelves r_SfRoom_Books qT qU qV qP qO qAb qAd others = some r) :
  TF (EL k) 108 [.agg [v_r_SfRoom_Classes, v_r_SfRoom_Shelves, v_r_SfRoom_Books], .agg [iv (qT), iv (qU), sv qV, iv (qP), iv (qO), iv (qAb), iv (qAd)], v_others] C (RepF (fun (w : Unit) => iv r) (fun (w : Unit) => C)) := by
 unfold P_s9_book at h;refine TF.enter (fn := Go.Proofs.Tryz.f108) rfl rfl rfl rfl rfl (zU rfl (zQ 3 [_,_,_] R7 (fun b3=>zQ 7 [_,_,_,_,_,_,_] R7 (fun b4=>zA R4 (zN (zS (zU rfl (zV R3 (vW 1 [_,_,_] R5 R4) (zF 0 R6 (zV R3 (vW 0 [_,_,_] R5 R4) ?_))))))))));obtain ⟨y11, hr11, h⟩ := andx_some h;refine TO.callT (first := []) (cap := []) (vs := [.agg [v_r_SfRoom_Classes, v_r_SfRoom_Shelves, v_r_SfRoom_Books], .agg [iv (qT), iv (qU), sv qV]]) rfl rfl rfl rfl rfl rfl (orcN rfl) (tf_s9_mark aD (Rdl.mono h_r_SfRoom_Classes M2) (Rdl.mono h_r_SfRoom_Shelves M2) (Rdl.mono h_r_SfRoom_Books M2) hr11) ?_;rintro _;refine zG (_::_::C) rfl (zA R4 (zN (zU rfl (zM R4 ?_))));obtain ⟨c13, hc13⟩ := zY (¬ y11 = 0);refine zV R3 (Val.neq hc13 rfl rfl) (zN ?_);obtain ⟨rfl, hc13, h⟩ | ⟨rfl, hc13, h⟩ := zI hc13 h
 ·refine zC rfl (zU rfl (zM R4 (zA R4 (zN (zR ?_)))));cases h;exact ⟨rfl, _, rfl, ⟨(), rfl, (pk [98,98] rfl)⟩⟩
 refine zD rfl (zK ?_)
 show T _ _ _ _ _ _;apply T.join (r := r) (W := Unit) (fun j w => ⟨[], [], .row b4 7 [iv (qT), iv (qU), sv qV, iv (qP), iv (qO), iv (qAb), iv (qAd)] :: C⟩) h
 ·intro j h;refine zB ?_
  show T _ _ _ _ _ _;apply T.joinA (r := j) (W := Unit) (fun j w => ⟨[], [(2, v_others), (4, .ptr b4 0 7), (15, bv j)], .row b4 7 [iv (qT), iv (qU), sv qV, iv (qP), iv (qO), iv (qAb), iv (qAd)] :: .row b3 3 [v_r_SfRoom_Classes, v_r_SfRoom_Shelves, v_r_SfRoom_Books] :: C⟩) h
  ·intro j h;refine zT rfl (zF 3 R6 (zL 0 R3 R6 (zF 4 R6 (zL 0 R3 R6 (TO.eff rfl rfl rfl (Eff.new (New.buildSlice (en := encI) (l := [qP, qO]) (vs := [(_, _), (_, _)]) (ws := [(_, [_]), (_, [_])]) ⟨rfl, rfl⟩ rfl rfl rfl rfl (CellsL.cons rfl (CellsL.cons rfl CellsL.nil)) rfl rfl)) ?_)))));rintro _ _ ⟨v20, rfl, rfl⟩;refine TO.less (Less.rowOwn (en := encI) (l := [qP, qO]) (p := 0) rfl) (zG (_::_::_::C) rfl ?_);obtain ⟨y21, hr21, h⟩ := andx_some h;refine TO.callT (first := []) (cap := []) (vs := [iv (1), iv (2000), (.slice v20 0 (List.flatMap encI.f [qP, qO]).length true (List.length [qP, qO]) (List.length [qP, qO]))]) rfl rfl rfl rfl rfl rfl (orcN rfl) (tf_s9_out aD (Rdl.mono (Rdl.own (C := ownL false (.slice v20 0 (List.flatMap encI.f [qP, qO]).length true (List.length [qP, qO]) (List.length [qP, qO])) encI [qP, qO] :: .row b4 7 [iv (qT), iv (qU), sv qV, iv (qP), iv (qO), iv (qAb), iv (qAd)] :: .row b3 3 [v_r_SfRoom_Classes, v_r_SfRoom_Shelves, v_r_SfRoom_Books] :: C) (p := 0) rfl) mem0) hr21) ?_;rintro _;refine zG (_::_::_::C) rfl (zM R4 ?_);obtain ⟨rfl, h⟩ | ⟨rfl, h⟩ := zZ h
   ·refine zO R3 (zO R3 (zO R3 (zO R3 (zP R6 (zA R4 (zN ?_))))));cases h;exact ⟨rfl, (), (sb (pk [1,1,98] rfl))⟩
   refine zF 5 R6 (zL 1 R3 R6 (TO.build1 (en := encI) (a := qAb) rfl rfl rfl ⟨rfl, rfl⟩ ⟨_, rfl, rfl⟩ (by decide) (by decide) rfl rfl (fun v25=>?_)));obtain ⟨y26, hr26, h⟩ := andx_some h;refine TO.callT (first := []) (cap := []) (vs := [iv (1), iv (100), v25]) rfl rfl rfl rfl rfl rfl (orcN rfl) (tf_s9_out aD (Rdl.mono (Rdl.own (C := ownL false v25 encI [qAb] :: ownL false (.slice v20 0 (List.flatMap encI.f [qP, qO]).length true (List.length [qP, qO]) (List.length [qP, qO])) encI [qP, qO] :: .row b4 7 [iv (qT), iv (qU), sv qV, iv (qP), iv (qO), iv (qAb), iv (qAd)] :: .row b3 3 [v_r_SfRoom_Classes, v_r_SfRoom_Shelves, v_r_SfRoom_Books] :: C) (p := 0) rfl) mem0) hr26) ?_;rintro _;refine zG (_::_::_::_::C) rfl (zP R6 (zA R4 (zN ?_)));cases h;exact ⟨rfl, (), (sb (pk [2,2,98,98] rfl))⟩
  ·rintro x15 _ h;replace h := zZ h;obtain ⟨rfl, h⟩ | ⟨rfl, h⟩ := h
   ·refine zC rfl (zU rfl (zA R4 (zN (zR ?_))));cases h;exact ⟨ret_ne, ⟨rfl, _, rfl, ⟨(), rfl, (pk [98,98] rfl)⟩⟩⟩
   refine zD rfl (zU rfl (zM R4 (zV R3 (Val.makeFunc rfl rfl) (TO.callIn rfl rfl rfl rfl rfl rfl (orcN rfl) (TF.enter (fn := Go.Proofs.Tryz.f143) rfl rfl rfl rfl rfl (zU rfl (zA R4 (zN (zU rfl (zM R4 (zM R4 ?_)))))))))));refine TO.callJ (W := Unit) (fun (j : Int) (w : Unit) => iv (j)) (fun (j : Int) (w : Unit) => .row b4 7 [iv (qT), iv (qU), sv qV, iv (qP), iv (qO), iv (qAb), iv (qAd)] :: C) h rfl rfl rfl rfl rfl rfl (orcN rfl) ?_ ?_
   ·intro j h;refine TF.enter (fn := Go.Proofs.Tryz.f165) rfl rfl rfl rfl rfl (zU rfl (zA R4 (zN ?_)))
    show T _ _ _ _ _ _;apply T.join (r := j) (W := Unit) (fun j w => ⟨[], [], .row b4 7 [iv (qT), iv (qU), sv qV, iv (qP), iv (qO), iv (qAb), iv (qAd)] :: C⟩) h
    ·intro j h;refine zU rfl (zM R4 (zV R3 (Val.len_l h_others M2 rfl rfl) (zM R4 (zN (zB ?_)))))
     show T _ _ _ _ _ _;apply T.iter (r := j) (W := Unit) (fun j w => ⟨[], [(0, v_others), (1, .func 144 [] [.ptr b4 0 7]), (7, iv ((others.length : Int))), (8, iv (j))], .row b4 7 [iv (qT), iv (qU), sv qV, iv (qP), iv (qO), iv (qAb), iv (qAd)] :: C⟩) (w0 := ()) h
     ·exact (sb (pk [0,98] rfl))
     rintro x8 _ a h;unfold P_s9_book_L1 at h;refine zU rfl ?_;obtain ⟨c9, hc9⟩ := zY (x8 < (others.length : Int));refine zV R3 (Val.lss hc9 rfl rfl) (zN (zS ?_));obtain ⟨rfl, hc9, h⟩ | ⟨rfl, hc9, h⟩ := zI hc9 h
     ·refine zC rfl (zK (zS (zB (zU rfl (zM R4 (zA R4 (zN (zU rfl (zM R4 (zM R4 (zM R4 ?_)))))))))));obtain ⟨a14, hia14, ea14, h⟩ := el_some h;refine TO.fact (rdl_at h_others M1 hia14 ea14) (fun hp=>?_);obtain ⟨pa14, hpa14, hva14⟩ := hp;refine zV R3 (hva14 ⟨rfl, rfl⟩ rfl rfl) (zV R3 (Val.load_es (c := [_, _, _, _, _, _, _]) hpa14 M1 ⟨⟨_, rfl, rfl⟩, rfl, by decide⟩ rfl rfl rfl) (TO.callIn rfl rfl rfl rfl rfl rfl (orcN rfl) (TF.enter (fn := Go.Proofs.Tryz.f144) rfl rfl rfl rfl rfl (zU rfl (zQ 7 [_,_,_,_,_,_,_] R7 (fun b2=>zA R4 (zN (zU rfl (zF 0 R6 (zV R3 (vW 0 [_,_,_] R5 R4) (zF 0 R6 (zV R3 (vW 1 [_,_,_] R5 R4) ?_))))))))))));obtain ⟨c8, hc8⟩ := zY (a14.qL = qT ∧ a14.qM = qU ∧ a14.qN = qV);refine zV R3 (Val.binD hc8 rfl rfl (eql_ty46 _ _ _ _ _ _ _ _)) (zA R4 (zN (zR ?_)));refine ⟨rfl, _, rfl, ?_⟩;refine zN ?_;obtain ⟨rfl, hc8, h⟩ | ⟨rfl, hc8, h⟩ := zI hc8 h
      ·refine zC rfl (zU rfl (zM R4 (zA R4 (zN (zR ?_)))));cases h;exact ⟨ret_ne, ⟨ret_ne, ⟨rfl, _, rfl, ⟨(), rfl, (pk [1,98] rfl)⟩⟩⟩⟩
      refine zD rfl (zK (zT rfl ?_));obtain ⟨hk18, h⟩ := chk_some h;refine zV R3 (Val.add rfl rfl hk18) (zM R4 (zN ?_));cases h;exact ⟨rfl, (), (sb (pk [1,98] rfl))⟩
     refine zD rfl (zE ?_);cases h;exact ⟨ex_ne, ⟨rfl, (), (sb .refl)⟩⟩
    ·rintro _ _ h;refine zU rfl (zA R4 (zN (zR ?_)));cases h;exact ⟨rfl, _, rfl, ⟨(), rfl, .refl⟩⟩
   ·rintro y7 _ h;refine zG (_::C) rfl ?_;obtain ⟨c8, hc8⟩ := zY (y7 ≥ 0);refine zV R3 (Val.geq hc8 rfl rfl) (zA R4 (zN (zR ?_)));refine ⟨rfl, _, rfl, ?_⟩;refine zA R4 (zN ?_);obtain ⟨rfl, hc8, h⟩ | ⟨rfl, hc8, h⟩ := zI hc8 h
    ·refine zC rfl (zU rfl (zA R4 (zN (zR ?_))));cases h;exact ⟨ret_ne, ⟨rfl, _, rfl, ⟨(), rfl, (pk [98] rfl)⟩⟩⟩
    refine zD rfl (zK ?_);cases h;exact ⟨rfl, (), (sb .refl)⟩
 ·rintro _ _ h;refine zU rfl (zA R4 (zN (zR ?_)));cases h;exact ⟨rfl, _, rfl, ⟨(), rfl, (pk [98] rfl)⟩⟩
set_option maxRecDepth 10000 in
theorem tf_s9_Check {k : Nat} (hk : 0 ≤ k) {C : List Thing} {qH : AV} {qE : List Str} {qG : AV} {qF : List qD} {qB : AV} {qC : List qA} (qAg : RdT encStr qH qE) (qBc : RdT qZ qG qF) (qAf : RdT qS qB qC) {r : Int × Int × Int} (h : P_s9_Check qE qF qC = some r) :
  TF (EL k) 92 [.agg [qH, qG, qB]] C (RepF (fun (w : Unit) => .tuple [iv r.1, iv r.2.1, iv r.2.2]) (fun (w : Unit) => C)) := by
 unfold P_s9_Check at h
 have qAc : Rdl C encStr qH qE := RdT.rdl qAg
 have qW : Rdl C qZ qG qF := RdT.rdl qBc
 have qI : Rdl C qS qB qC := RdT.rdl qAf;refine TF.enter (fn := Go.Proofs.Tryz.f92) rfl rfl rfl rfl rfl (zU rfl (zQ 3 [_,_,_] R7 (fun b1=>zA R4 (zA R4 (zA R4 (zN (zS (zU rfl (zF 0 R6 (zL 0 R3 R6 (zV R3 (Val.len_l qAc M1 rfl rfl) (TO.build1 (en := encI) (a := (qE.length : Int)) rfl rfl rfl ⟨rfl, rfl⟩ ⟨_, rfl, rfl⟩ (by decide) (by decide) rfl rfl (fun v8=>?_)))))))))))));obtain ⟨y9, hr9, h⟩ := andx_some h;refine TO.callT (first := []) (cap := []) (vs := [iv (1), iv (6), v8]) rfl rfl rfl rfl rfl rfl (orcN rfl) (tf_s9_out aD (Rdl.mono (Rdl.own (C := ownL false v8 encI [(qE.length : Int)] :: .row b1 3 [qH, qG, qB] :: C) (p := 0) rfl) mem0) hr9) ?_;rintro _;refine zG (_::_::C) rfl (zN ?_);obtain ⟨rfl, h⟩ | ⟨rfl, h⟩ := zZ h
 ·refine zC rfl (zU rfl (zA R4 (zA R4 (zA R4 (zN (zR ?_))))));cases h;exact ⟨rfl, _, rfl, ⟨(), rfl, (pk [98,98] rfl)⟩⟩
 refine zD rfl (zK (zU rfl (zF 0 R6 (zL 1 R3 R6 (zV R3 (Val.makeFunc rfl rfl) ?_)))));refine TO.callJ (W := Unit) (fun (j : Int × Int) (w : Unit) => .tuple [iv (j.1), iv (j.2)]) (fun (j : Int × Int) (w : Unit) => ownL false v8 encI [(qE.length : Int)] :: .row b1 3 [qH, qG, qB] :: C) h rfl rfl rfl rfl rfl rfl (orcN rfl) ?_ ?_
 ·intro j h;refine TF.enter (fn := Go.Proofs.Tryz.f127) rfl rfl rfl rfl rfl (zU rfl (zA R4 (zA R4 (zN ?_))))
  show T _ _ _ _ _ _;apply T.join (r := j) (W := Unit) (fun j w => ⟨[], [], ownL false v8 encI [(qE.length : Int)] :: .row b1 3 [qH, qG, qB] :: C⟩) h
  ·intro j h;refine zU rfl (zM R4 (zV R3 (Val.len_l qAc M2 rfl rfl) (zM R4 (zN (zB ?_)))))
   show T _ _ _ _ _ _;apply T.iter (r := j) (W := Unit) (fun j w => ⟨[], [(1, .func 128 [] [.ptr b1 0 3]), (9, qH), (10, iv ((qE.length : Int))), (11, iv (j))], ownL false v8 encI [(qE.length : Int)] :: .row b1 3 [qH, qG, qB] :: C⟩) (w0 := ()) h
   ·exact (sb .refl)
   rintro x11 _ a h;unfold P_s9_Check_L1 at h;refine zU rfl ?_;obtain ⟨c12, hc12⟩ := zY (x11 < (qE.length : Int));refine zV R3 (Val.lss hc12 rfl rfl) (zN (zS ?_));obtain ⟨rfl, hc12, h⟩ | ⟨rfl, hc12, h⟩ := zI hc12 h
   ·refine zC rfl (zK (zS (zB (zU rfl (zM R4 ?_)))));obtain ⟨a14, hia14, ea14, h⟩ := el_some h;refine TO.fact (rdl_at qAc M2 hia14 ea14) (fun hp=>?_);obtain ⟨pa14, hpa14, hva14⟩ := hp;refine zV R3 (hva14 ⟨rfl, rfl⟩ rfl rfl) (zV R3 (Val.load_e hpa14 M2 ⟨_, rfl, rfl⟩ rfl rfl) (zA R4 (zA R4 (zN (zU rfl (zM R4 (zM R4 (zM R4 ?_))))))));refine TO.callJ (W := Unit) (fun (j : Int) (w : Unit) => iv (j)) (fun (j : Int) (w : Unit) => ownL false v8 encI [(qE.length : Int)] :: .row b1 3 [qH, qG, qB] :: C) h rfl rfl rfl rfl rfl rfl (orcN rfl) ?_ ?_
    ·intro j h;refine TF.enter (fn := Go.Proofs.Tryz.f128) rfl rfl rfl rfl rfl (zU rfl (zA R4 (zN (zS (zB (zU rfl (zM R4 ?_)))))));obtain ⟨y8, hr8, h⟩ := andx_some h;refine TO.callT (first := []) (cap := []) (vs := [sv a14]) rfl rfl rfl rfl rfl rfl (orcN rfl) (tf_q_Name aD hr8) ?_;rintro _;refine zG (_::_::C) rfl (zV R3 (Val.not rfl) (zA R4 (zN ?_)));obtain ⟨rfl, h⟩ | ⟨rfl, h⟩ := zZ h
     ·refine zD rfl (zU rfl (zF 0 R6 (zL 1 R3 R6 (zM R4 ?_))));obtain ⟨hk14, h⟩ := chk_some h;obtain ⟨w14, htw14, hgw14, hvw14⟩ := slice_T qAg hk14
      have hw14 : Rdl C encStr w14 (List.take (x11 - (0 : Int)).toNat (List.drop ((0 : Int) : Int).toNat qE)) := RdT.rdl htw14;refine zV R3 (hvw14 ⟨rfl, rfl⟩ rfl .no (.some rfl)) (zM R4 (TO.callIn rfl rfl rfl rfl rfl rfl (orcN rfl) (TF.enter (fn := Go.Proofs.Tryz.f129) rfl rfl rfl rfl rfl (zU rfl (zA R4 (zN (zU rfl (zM R4 (zM R4 ?_)))))))));refine TO.callJ (W := Unit) (fun (j : Int) (w : Unit) => iv (j)) (fun (j : Int) (w : Unit) => ownL false v8 encI [(qE.length : Int)] :: .row b1 3 [qH, qG, qB] :: C) h rfl rfl rfl rfl rfl rfl (orcN rfl) ?_ ?_
      ·intro j h;refine TF.enter (fn := Go.Proofs.Tryz.f66) rfl rfl rfl rfl rfl (zU rfl (zA R4 (zN ?_)))
       show T _ _ _ _ _ _;apply T.join (r := j) (W := Unit) (fun j w => ⟨[], [], ownL false v8 encI [(qE.length : Int)] :: .row b1 3 [qH, qG, qB] :: C⟩) h
       ·intro j h;refine zU rfl (zM R4 (zV R3 (Val.len_l hw14 M2 rfl rfl) (zM R4 (zN (zB ?_)))))
        show T _ _ _ _ _ _;apply T.iter (r := j) (W := Unit) (fun j w => ⟨[], [(0, w14), (1, sv a14), (7, iv (((List.take (x11 - (0 : Int)).toNat (List.drop ((0 : Int) : Int).toNat qE)).length : Int))), (8, iv (j))], ownL false v8 encI [(qE.length : Int)] :: .row b1 3 [qH, qG, qB] :: C⟩) (w0 := ()) h
        ·exact (sb .refl)
        rintro x8 _ a h;unfold P_s9_Check_L2 at h;refine zU rfl ?_;obtain ⟨c9, hc9⟩ := zY (x8 < ((List.take (x11 - (0 : Int)).toNat (List.drop ((0 : Int) : Int).toNat qE)).length : Int));refine zV R3 (Val.lss hc9 rfl rfl) (zN (zS ?_));obtain ⟨rfl, hc9, h⟩ | ⟨rfl, hc9, h⟩ := zI hc9 h
        ·refine zC rfl (zK (zS (zB (zU rfl (zM R4 (zA R4 (zN (zU rfl (zM R4 (zM R4 (zM R4 ?_)))))))))));obtain ⟨a14_2, hia14_2, ea14_2, h⟩ := el_some h;refine TO.fact (rdl_at hw14 M2 hia14_2 ea14_2) (fun hp=>?_);obtain ⟨pa14_2, hpa14_2, hva14_2⟩ := hp;refine zV R3 (hva14_2 ⟨rfl, rfl⟩ rfl rfl) (zV R3 (Val.load_e hpa14_2 M2 ⟨_, rfl, rfl⟩ rfl rfl) ?_);obtain ⟨c16, hc16⟩ := zY (a14 = a14_2);refine zV R3 (Val.eql_str hc16 rfl rfl) (zN ?_);obtain ⟨rfl, hc16, h⟩ | ⟨rfl, hc16, h⟩ := zI hc16 h
         ·refine zC rfl (zU rfl (zM R4 (zA R4 (zN (zR ?_)))));cases h;exact ⟨ret_ne, ⟨ret_ne, ⟨rfl, _, rfl, ⟨(), rfl, .refl⟩⟩⟩⟩
         refine zD rfl (zK (zT rfl ?_));obtain ⟨hk18, h⟩ := chk_some h;refine zV R3 (Val.add rfl rfl hk18) (zM R4 (zN ?_));cases h;exact ⟨rfl, (), (sb .refl)⟩
        refine zD rfl (zE ?_);cases h;exact ⟨ex_ne, ⟨rfl, (), (sb .refl)⟩⟩
       ·rintro _ _ h;refine zU rfl (zA R4 (zN (zR ?_)));cases h;exact ⟨rfl, _, rfl, ⟨(), rfl, .refl⟩⟩
      ·rintro y7 _ h;refine zG (_::_::C) rfl ?_;obtain ⟨c8, hc8⟩ := zY (y7 ≥ 0);refine zV R3 (Val.geq hc8 rfl rfl) (zA R4 (zN (zR ?_)));refine ⟨rfl, _, rfl, ?_⟩;refine zA R4 (zN ?_);obtain ⟨rfl, hc8, h⟩ | ⟨rfl, hc8, h⟩ := zI hc8 h
       ·refine zC rfl (zU rfl (zA R4 (zN (zR ?_))));cases h;exact ⟨rfl, _, rfl, ⟨(), rfl, .refl⟩⟩
       refine zD rfl (zK (zU rfl (zA R4 (zN (zR ?_)))));cases h;exact ⟨rfl, _, rfl, ⟨(), rfl, .refl⟩⟩
     refine zC rfl (zU rfl (zA R4 (zN (zR ?_))));cases h;exact ⟨rfl, _, rfl, ⟨(), rfl, .refl⟩⟩
    ·rintro y19 _ h;refine zG (_::_::C) rfl (zA R4 (zN (zU rfl (zM R4 ?_))));obtain ⟨c21, hc21⟩ := zY (¬ y19 = 0);refine zV R3 (Val.neq hc21 rfl rfl) (zN ?_);obtain ⟨rfl, hc21, h⟩ | ⟨rfl, hc21, h⟩ := zI hc21 h
     ·refine zC rfl (zU rfl (zM R4 (zM R4 (zA R4 (zA R4 (zN (zR ?_)))))));cases h;exact ⟨ret_ne, ⟨ret_ne, ⟨rfl, _, rfl, ⟨(), rfl, .refl⟩⟩⟩⟩
     refine zD rfl (zK (zT rfl ?_));obtain ⟨hk24, h⟩ := chk_some h;refine zV R3 (Val.add rfl rfl hk24) (zM R4 (zN ?_));cases h;exact ⟨rfl, (), (sb .refl)⟩
   refine zD rfl (zE ?_);cases h;exact ⟨ex_ne, ⟨rfl, (), (sb .refl)⟩⟩
  ·rintro _ _ h;refine zU rfl (zA R4 (zA R4 (zN (zR ?_))));cases h;exact ⟨rfl, _, rfl, ⟨(), rfl, .refl⟩⟩
 ·rintro ⟨y14, y14_2⟩ _ h;dsimp only at h;refine zG (_::_::C) rfl (zM R4 (zX R5 (zX R5 (zA R4 (zA R4 (zN (zS (zB (zU rfl (zM R4 ?_))))))))));obtain ⟨c19, hc19⟩ := zY (¬ y14_2 = 0);refine zV R3 (Val.neq hc19 rfl rfl) (zA R4 (zN ?_));obtain ⟨rfl, hc19, h⟩ | ⟨rfl, hc19, h⟩ := zI hc19 h
  ·refine zC rfl (zU rfl (zM R4 (zM R4 (zA R4 (zA R4 (zA R4 (zN (zR ?_))))))));cases h;exact ⟨rfl, _, rfl, ⟨(), rfl, (pk [98,98] rfl)⟩⟩
  refine zD rfl (zU rfl (zF 1 R6 (zL 1 R3 R6 (zV R3 (Val.len_l qW M2 rfl rfl) (TO.build1 (en := encI) (a := (qF.length : Int)) rfl rfl rfl ⟨rfl, rfl⟩ ⟨_, rfl, rfl⟩ (by decide) (by decide) rfl rfl (fun v26=>?_))))));obtain ⟨y27, hr27, h⟩ := andx_some h;refine TO.callT (first := []) (cap := []) (vs := [iv (1), iv (4), v26]) rfl rfl rfl rfl rfl rfl (orcN rfl) (tf_s9_out aD (Rdl.mono (Rdl.own (C := ownL false v26 encI [(qF.length : Int)] :: ownL false v8 encI [(qE.length : Int)] :: .row b1 3 [qH, qG, qB] :: C) (p := 0) rfl) mem0) hr27) ?_;rintro _;refine zG (_::_::_::C) rfl (zA R4 (zN ?_));obtain ⟨rfl, h⟩ | ⟨rfl, h⟩ := zZ h
  ·refine zC rfl (zU rfl (zA R4 (zA R4 (zA R4 (zN (zR ?_))))));cases h;exact ⟨rfl, _, rfl, ⟨(), rfl, (pk [98,98,98] rfl)⟩⟩
  refine zD rfl (zK (zU rfl (zF 1 R6 (zL 2 R3 R6 ?_))));refine TO.callJ (W := Unit) (fun (j : Int × Int) (w : Unit) => .tuple [iv (j.1), iv (j.2)]) (fun (j : Int × Int) (w : Unit) => ownL false v26 encI [(qF.length : Int)] :: ownL false v8 encI [(qE.length : Int)] :: .row b1 3 [qH, qG, qB] :: C) h rfl rfl rfl rfl rfl rfl (orcN rfl) ?_ ?_
  ·intro j h;refine TF.enter (fn := Go.Proofs.Tryz.f130) rfl rfl rfl rfl rfl (zU rfl (zA R4 (zA R4 (zN ?_))))
   show T _ _ _ _ _ _;apply T.join (r := j) (W := Unit) (fun j w => ⟨[], [], ownL false v26 encI [(qF.length : Int)] :: ownL false v8 encI [(qE.length : Int)] :: .row b1 3 [qH, qG, qB] :: C⟩) h
   ·intro j h;refine zU rfl (zM R4 (zV R3 (Val.len_l qW M3 rfl rfl) (zM R4 (zN (zB ?_)))))
    show T _ _ _ _ _ _;apply T.iter (r := j) (W := Unit) (fun j w => ⟨[], [(1, .func 131 [] []), (9, qG), (10, iv ((qF.length : Int))), (11, iv (j))], ownL false v26 encI [(qF.length : Int)] :: ownL false v8 encI [(qE.length : Int)] :: .row b1 3 [qH, qG, qB] :: C⟩) (w0 := ()) h
    ·exact (sb .refl)
    rintro x11 _ a h;unfold P_s9_Check_L3 at h;refine zU rfl ?_;obtain ⟨c12, hc12⟩ := zY (x11 < (qF.length : Int));refine zV R3 (Val.lss hc12 rfl rfl) (zN (zS ?_));obtain ⟨rfl, hc12, h⟩ | ⟨rfl, hc12, h⟩ := zI hc12 h
    ·refine zC rfl (zK (zS (zB (zU rfl (zM R4 ?_)))));obtain ⟨a14, hia14, ea14, h⟩ := el_some h;refine TO.fact (rdl_at qW M3 hia14 ea14) (fun hp=>?_);obtain ⟨pa14, hpa14, hva14⟩ := hp;refine zV R3 (hva14 ⟨rfl, rfl⟩ rfl rfl) (zV R3 (Val.load_es (c := [_, _, _, _]) hpa14 M3 ⟨⟨_, rfl, rfl⟩, rfl, by decide⟩ rfl rfl rfl) (zJ 4 [_,_,_,_] R7 (fun b7=>zA R4 (TO.eff0 rfl rfl (Eff.store_row (p := 0) (cv := [_, _, _, _]) (cells' := [_, _, _, _]) rfl rfl rfl rfl rfl rfl rfl rfl aG (by decide) rfl) ?_))));rintro _ rfl;refine zG (_::_::_::_::C) rfl (zN (zU rfl (zM R4 (zM R4 (zV R3 (vW 0 [_,_,_,_] R5 R4) ?_)))));refine TO.callJ (W := Unit) (fun (j : Int) (w : Unit) => iv (j)) (fun (j : Int) (w : Unit) => .row b7 4 [iv (a14.away), iv (a14.climb), iv (a14.wide), iv (a14.high)] :: ownL false v26 encI [(qF.length : Int)] :: ownL false v8 encI [(qE.length : Int)] :: .row b1 3 [qH, qG, qB] :: C) h rfl rfl rfl rfl rfl rfl (orcN rfl) ?_ ?_
     ·intro j h;refine TF.enter (fn := Go.Proofs.Tryz.f131) rfl rfl rfl rfl rfl (zU rfl (zQ 4 [_,_,_,_] R7 (fun b3=>zA R4 (zN ?_))))
      show T _ _ _ _ _ _;apply T.join (r := j) (W := Unit) (fun j w => ⟨[], [], .row b3 4 [iv (a14.away), iv (a14.climb), iv (a14.wide), iv (a14.high)] :: .row b7 4 [iv (a14.away), iv (a14.climb), iv (a14.wide), iv (a14.high)] :: ownL false v26 encI [(qF.length : Int)] :: ownL false v8 encI [(qE.length : Int)] :: .row b1 3 [qH, qG, qB] :: C⟩) h
      ·intro j h
       show T _ _ _ _ _ _;apply T.joinA (r := j) (W := Unit) (fun j w => ⟨[], [(18, bv j)], .row b3 4 [iv (a14.away), iv (a14.climb), iv (a14.wide), iv (a14.high)] :: .row b7 4 [iv (a14.away), iv (a14.climb), iv (a14.wide), iv (a14.high)] :: ownL false v26 encI [(qF.length : Int)] :: ownL false v8 encI [(qE.length : Int)] :: .row b1 3 [qH, qG, qB] :: C⟩) h
       ·intro j h;refine zT rfl (zF 0 R6 (zL 0 R3 R6 (zF 1 R6 (zL 0 R3 R6 (TO.eff rfl rfl rfl (Eff.new (New.buildSlice (en := encI) (l := [a14.away, a14.climb]) (vs := [(_, _), (_, _)]) (ws := [(_, [_]), (_, [_])]) ⟨rfl, rfl⟩ rfl rfl rfl rfl (CellsL.cons rfl (CellsL.cons rfl CellsL.nil)) rfl rfl)) ?_)))));rintro _ _ ⟨v9, rfl, rfl⟩;refine TO.less (Less.rowOwn (en := encI) (l := [a14.away, a14.climb]) (p := 0) rfl) (zG (_::_::_::_::_::_::C) rfl ?_);obtain ⟨y10, hr10, h⟩ := andx_some h;refine TO.callT (first := []) (cap := []) (vs := [iv (0), iv (1000), (.slice v9 0 (List.flatMap encI.f [a14.away, a14.climb]).length true (List.length [a14.away, a14.climb]) (List.length [a14.away, a14.climb]))]) rfl rfl rfl rfl rfl rfl (orcN rfl) (tf_s9_out aD (Rdl.mono (Rdl.own (C := ownL false (.slice v9 0 (List.flatMap encI.f [a14.away, a14.climb]).length true (List.length [a14.away, a14.climb]) (List.length [a14.away, a14.climb])) encI [a14.away, a14.climb] :: .row b3 4 [iv (a14.away), iv (a14.climb), iv (a14.wide), iv (a14.high)] :: .row b7 4 [iv (a14.away), iv (a14.climb), iv (a14.wide), iv (a14.high)] :: ownL false v26 encI [(qF.length : Int)] :: ownL false v8 encI [(qE.length : Int)] :: .row b1 3 [qH, qG, qB] :: C) (p := 0) rfl) mem0) hr10) ?_;rintro _;refine zG (_::_::_::_::_::_::C) rfl (zM R4 ?_);obtain ⟨rfl, h⟩ | ⟨rfl, h⟩ := zZ h
        ·refine zO R3 (zO R3 (zO R3 (zO R3 (zO R3 (zO R3 (zP R6 (zN ?_)))))));cases h;exact ⟨rfl, (), (sb (pk [1,1,1,1,1,98] rfl))⟩
        refine zF 2 R6 (zL 1 R3 R6 (zF 3 R6 (zL 1 R3 R6 (TO.eff rfl rfl rfl (Eff.new (New.buildSlice (en := encI) (l := [a14.wide, a14.high]) (vs := [(_, _), (_, _)]) (ws := [(_, [_]), (_, [_])]) ⟨rfl, rfl⟩ rfl rfl rfl rfl (CellsL.cons rfl (CellsL.cons rfl CellsL.nil)) rfl rfl)) ?_))));rintro _ _ ⟨v16, rfl, rfl⟩;refine TO.less (Less.rowOwn (en := encI) (l := [a14.wide, a14.high]) (p := 0) rfl) (zG (_::_::_::_::_::_::_::C) rfl ?_);obtain ⟨y17, hr17, h⟩ := andx_some h;refine TO.callT (first := []) (cap := []) (vs := [iv (1), iv (2000), (.slice v16 0 (List.flatMap encI.f [a14.wide, a14.high]).length true (List.length [a14.wide, a14.high]) (List.length [a14.wide, a14.high]))]) rfl rfl rfl rfl rfl rfl (orcN rfl) (tf_s9_out aD (Rdl.mono (Rdl.own (C := ownL false (.slice v16 0 (List.flatMap encI.f [a14.wide, a14.high]).length true (List.length [a14.wide, a14.high]) (List.length [a14.wide, a14.high])) encI [a14.wide, a14.high] :: ownL false (.slice v9 0 (List.flatMap encI.f [a14.away, a14.climb]).length true (List.length [a14.away, a14.climb]) (List.length [a14.away, a14.climb])) encI [a14.away, a14.climb] :: .row b3 4 [iv (a14.away), iv (a14.climb), iv (a14.wide), iv (a14.high)] :: .row b7 4 [iv (a14.away), iv (a14.climb), iv (a14.wide), iv (a14.high)] :: ownL false v26 encI [(qF.length : Int)] :: ownL false v8 encI [(qE.length : Int)] :: .row b1 3 [qH, qG, qB] :: C) (p := 0) rfl) mem0) hr17) ?_;rintro _;refine zG (_::_::_::_::_::_::_::C) rfl (zP R6 (zN ?_));cases h;exact ⟨rfl, (), (sb (pk [2,2,2,2,2,98,98] rfl))⟩
       ·rintro x18 _ h;replace h := zZ h;obtain ⟨rfl, h⟩ | ⟨rfl, h⟩ := h
        ·refine zC rfl (zU rfl (zA R4 (zN (zR ?_))));cases h;exact ⟨ret_ne, ⟨rfl, _, rfl, ⟨(), rfl, (pk [1,1,1,1,98] rfl)⟩⟩⟩
        refine zD rfl (zK ?_);cases h;exact ⟨rfl, (), (sb .refl)⟩
      ·rintro _ _ h;refine zU rfl (zA R4 (zN (zR ?_)));cases h;exact ⟨rfl, _, rfl, ⟨(), rfl, (pk [1,1,1,1,98] rfl)⟩⟩
     ·rintro y19 _ h;refine zG (_::_::_::_::C) rfl (zA R4 (zN (zU rfl (zM R4 ?_))));obtain ⟨c21, hc21⟩ := zY (¬ y19 = 0);refine zV R3 (Val.neq hc21 rfl rfl) (zN ?_);obtain ⟨rfl, hc21, h⟩ | ⟨rfl, hc21, h⟩ := zI hc21 h
      ·refine zC rfl (zU rfl (zM R4 (zM R4 (zA R4 (zA R4 (zN (zR ?_)))))));cases h;exact ⟨ret_ne, ⟨ret_ne, ⟨rfl, _, rfl, ⟨(), rfl, (pk [1,1,1,98] rfl)⟩⟩⟩⟩
      refine zD rfl (zK (zT rfl ?_));obtain ⟨hk24, h⟩ := chk_some h;refine zV R3 (Val.add rfl rfl hk24) (zM R4 (zN ?_));cases h;exact ⟨rfl, (), (sb (pk [1,1,1,98] rfl))⟩
    refine zD rfl (zE ?_);cases h;exact ⟨ex_ne, ⟨rfl, (), (sb .refl)⟩⟩
   ·rintro _ _ h;refine zU rfl (zA R4 (zA R4 (zN (zR ?_))));cases h;exact ⟨rfl, _, rfl, ⟨(), rfl, .refl⟩⟩
  ·rintro ⟨y31, y31_2⟩ _ h;dsimp only at h;refine zG (_::_::_::C) rfl (zM R4 (zX R5 (zX R5 (zA R4 (zA R4 (zN (zS (zB (zU rfl (zM R4 ?_))))))))));obtain ⟨c36, hc36⟩ := zY (¬ y31_2 = 0);refine zV R3 (Val.neq hc36 rfl rfl) (zA R4 (zN ?_));obtain ⟨rfl, hc36, h⟩ | ⟨rfl, hc36, h⟩ := zI hc36 h
   ·refine zC rfl (zU rfl (zM R4 (zM R4 (zA R4 (zA R4 (zA R4 (zN (zR ?_))))))));cases h;exact ⟨rfl, _, rfl, ⟨(), rfl, (pk [98,98,98] rfl)⟩⟩
   refine zD rfl (zU rfl (zF 2 R6 (zL 2 R3 R6 (zV R3 (Val.len_l qI M3 rfl rfl) ?_))));obtain ⟨c43, hc43⟩ := zY ((qC.length : Int) > 10);refine zV R3 (Val.gtr hc43 rfl rfl) (zA R4 (zN ?_));obtain ⟨rfl, hc43, h⟩ | ⟨rfl, hc43, h⟩ := zI hc43 h
   ·refine zC rfl (zU rfl (zA R4 (zA R4 (zA R4 (zN (zR ?_))))));cases h;exact ⟨rfl, _, rfl, ⟨(), rfl, (pk [98,98,98] rfl)⟩⟩
   refine zD rfl (zK (zU rfl (zF 2 R6 (zL 2 R3 R6 (zV R3 (Val.makeFunc rfl rfl) ?_)))));refine TO.callJ (W := Unit) (fun (j : Int × Int) (w : Unit) => .tuple [iv (j.1), iv (j.2)]) (fun (j : Int × Int) (w : Unit) => ownL false v26 encI [(qF.length : Int)] :: ownL false v8 encI [(qE.length : Int)] :: .row b1 3 [qH, qG, qB] :: C) h rfl rfl rfl rfl rfl rfl (orcN rfl) ?_ ?_
   ·intro j h;refine TF.enter (fn := Go.Proofs.Tryz.f132) rfl rfl rfl rfl rfl (zU rfl (zA R4 (zA R4 (zN ?_))))
    show T _ _ _ _ _ _;apply T.join (r := j) (W := Unit) (fun j w => ⟨[], [], ownL false v26 encI [(qF.length : Int)] :: ownL false v8 encI [(qE.length : Int)] :: .row b1 3 [qH, qG, qB] :: C⟩) h
    ·intro j h;refine zU rfl (zM R4 (zV R3 (Val.len_l qI M3 rfl rfl) (zM R4 (zN (zB ?_)))))
     show T _ _ _ _ _ _;apply T.iter (r := j) (W := Unit) (fun j w => ⟨[], [(1, .func 133 [] [.ptr b1 0 3]), (9, qB), (10, iv ((qC.length : Int))), (11, iv (j))], ownL false v26 encI [(qF.length : Int)] :: ownL false v8 encI [(qE.length : Int)] :: .row b1 3 [qH, qG, qB] :: C⟩) (w0 := ()) h
     ·exact (sb .refl)
     rintro x11 _ a h;unfold P_s9_Check_L4 at h;refine zU rfl ?_;obtain ⟨c12, hc12⟩ := zY (x11 < (qC.length : Int));refine zV R3 (Val.lss hc12 rfl rfl) (zN (zS ?_));obtain ⟨rfl, hc12, h⟩ | ⟨rfl, hc12, h⟩ := zI hc12 h
     ·refine zC rfl (zK (zS (zB (zU rfl (zM R4 ?_)))));obtain ⟨a14, hia14, ea14, h⟩ := el_some h;refine TO.fact (rdl_at qI M3 hia14 ea14) (fun hp=>?_);obtain ⟨pa14, hpa14, hva14⟩ := hp;refine zV R3 (hva14 ⟨rfl, rfl⟩ rfl rfl) (zV R3 (Val.load_es (c := [_, _, _, _, _, _, _]) hpa14 M3 ⟨⟨_, rfl, rfl⟩, rfl, by decide⟩ rfl rfl rfl) (zJ 7 [_,_,_,_,_,_,_] R7 (fun b7=>zA R4 (TO.eff0 rfl rfl (Eff.store_row (p := 0) (cv := [_, _, _, _, _, _, _]) (cells' := [_, _, _, _, _, _, _]) rfl rfl rfl rfl rfl rfl rfl rfl aG (by decide) rfl) ?_))));rintro _ rfl;refine zG (_::_::_::_::C) rfl (zN (zU rfl (zM R4 (zM R4 (zV R3 (vW 0 [_,_,_,_,_,_,_] R5 R4) ?_)))));refine TO.callJ (W := Unit) (fun (j : Int) (w : Unit) => iv (j)) (fun (j : Int) (w : Unit) => .row b7 7 [iv (a14.qL), iv (a14.qM), sv a14.qN, iv (a14.wide), iv (a14.high), iv (a14.heavy), iv (a14.shelf)] :: ownL false v26 encI [(qF.length : Int)] :: ownL false v8 encI [(qE.length : Int)] :: .row b1 3 [qH, qG, qB] :: C) h rfl rfl rfl rfl rfl rfl (orcN rfl) ?_ ?_
      ·intro j h;refine TF.enter (fn := Go.Proofs.Tryz.f133) rfl rfl rfl rfl rfl (zU rfl (zQ 7 [_,_,_,_,_,_,_] R7 (fun b4=>zA R4 (zN (zS (T.drawE (l1 := [0, 1, 2, 3, 4, 5, 6]) (l2 := [7, 8]) (by kernel_rfl) (by kernel_rfl) (yR R4 (vW 4 [_,_,_] R5 R4) (yL R4 (Val.buildC (cs := [_, _, _]) (vs := [(_, _)]) (ws := [(_, [_, _, _])]) rfl rfl (CellsL.cons rfl CellsL.nil) rfl) (yR R4 (vW 0 [_,_,_,_,_,_,_] R5 R4) (yL R4 (Val.faddr_ptr (fo := 2) rfl rfl rfl) (yR R4 (vR (p := 4) R6) (yL R4 (Val.move rfl) ?_))))))))))));obtain ⟨hk13, h⟩ := chk_some h;obtain ⟨w13, htw13, hgw13, hvw13⟩ := slice_T qAf hk13
       have hw13 : Rdl C qS w13 (List.take (x11 - (0 : Int)).toNat (List.drop ((0 : Int) : Int).toNat qC)) := RdT.rdl htw13;refine yR R4 (hvw13 ⟨rfl, rfl⟩ rfl .no (.some rfl)) (TD1.over (fun v => sameC_refl v) (all_cons (⟨_, rfl, (hvw13 ⟨rfl, rfl⟩ rfl .no (.some rfl))⟩) (all_cons (⟨_, rfl, (vR (p := 4) R6)⟩) (all_cons (⟨_, rfl, (vW 0 [_,_,_,_,_,_,_] R5 R4)⟩) (all_cons (⟨_, rfl, (vW 4 [_,_,_] R5 R4)⟩) all_nil)))) ?_);obtain ⟨y14_3, hr14, h⟩ := andx_some h;refine TD2.heavy (fun v => sameC_refl v) rfl (by decide) rfl rfl (OpS.callV rfl rfl rfl rfl (orcN rfl) (RepF.conv (tf_s9_book aD (Rdl.mono qAc M5) (Rdl.mono qW M5) (Rdl.mono qI M5) (Rdl.mono hw13 M5) hr14))) ?_;rintro _ hs_ ⟨_, rfl, he_⟩;subst hs_;refine ⟨(all_cons (.inl (by kernel_rfl)) (all_cons (.inl (by kernel_rfl)) (all_cons (.inl (by kernel_rfl)) (all_cons (.inl (by kernel_rfl)) all_nil)))), all_nil, ?_⟩;refine yG (_::_::_::_::_::C) rfl (yM R4 (Val.assign rfl) (TD2.nil ?_))
       show T _ _ _ _ _ _;apply T.join (r := j) (W := Unit) (fun j w => ⟨[], [], .row b4 7 [iv (a14.qL), iv (a14.qM), sv a14.qN, iv (a14.wide), iv (a14.high), iv (a14.heavy), iv (a14.shelf)] :: .row b7 7 [iv (a14.qL), iv (a14.qM), sv a14.qN, iv (a14.wide), iv (a14.high), iv (a14.heavy), iv (a14.shelf)] :: ownL false v26 encI [(qF.length : Int)] :: ownL false v8 encI [(qE.length : Int)] :: .row b1 3 [qH, qG, qB] :: C⟩) h
       ·intro j h;refine zB (zU rfl (zM R4 ?_));obtain ⟨c17, hc17⟩ := zY (¬ y14_3 = 0);refine zV R3 (Val.neq hc17 rfl rfl) (zA R4 (zN ?_));obtain ⟨rfl, hc17, h⟩ | ⟨rfl, hc17, h⟩ := zI hc17 h
        ·refine zC rfl (zU rfl (zM R4 (zA R4 (zN (zR ?_)))));cases h;exact ⟨ret_ne, ⟨rfl, _, rfl, ⟨(), rfl, (pk [1,1,1,1,98] rfl)⟩⟩⟩
        refine zD rfl (zU rfl (zF 1 R6 (zL 4 R3 R6 (zV R3 (Val.len_l qW M5 rfl rfl) ?_))));obtain ⟨hk23, h⟩ := chk_some h;refine zV R3 (Val.sub rfl rfl hk23) (zF 6 R6 (zL 0 R3 R6 (TO.build1 (en := encI) (a := a14.shelf) rfl rfl rfl ⟨rfl, rfl⟩ ⟨_, rfl, rfl⟩ (by decide) (by decide) rfl rfl (fun v26_2=>?_))));obtain ⟨y27_2, hr27_2, h⟩ := andx_some h;refine TO.callT (first := []) (cap := []) (vs := [iv (0), iv (((qF.length : Int) - 1)), v26_2]) rfl rfl rfl rfl rfl rfl (orcN rfl) (tf_s9_out aD (Rdl.mono (Rdl.own (C := ownL false v26_2 encI [a14.shelf] :: .row b4 7 [iv (a14.qL), iv (a14.qM), sv a14.qN, iv (a14.wide), iv (a14.high), iv (a14.heavy), iv (a14.shelf)] :: .row b7 7 [iv (a14.qL), iv (a14.qM), sv a14.qN, iv (a14.wide), iv (a14.high), iv (a14.heavy), iv (a14.shelf)] :: ownL false v26 encI [(qF.length : Int)] :: ownL false v8 encI [(qE.length : Int)] :: .row b1 3 [qH, qG, qB] :: C) (p := 0) rfl) mem0) hr27_2) ?_;rintro _;refine zG (_::_::_::_::_::_::C) rfl (zA R4 (zN ?_));obtain ⟨rfl, h⟩ | ⟨rfl, h⟩ := zZ h
        ·refine zC rfl (zU rfl (zA R4 (zN (zR ?_))));cases h;exact ⟨ret_ne, ⟨rfl, _, rfl, ⟨(), rfl, (pk [2,2,2,2,98,98] rfl)⟩⟩⟩
        refine zD rfl ?_
        show T _ _ _ _ _ _;apply T.joinA (r := j) (W := Unit) (fun j w => ⟨[], [(28, bv j)], ownL false v26_2 encI [a14.shelf] :: .row b4 7 [iv (a14.qL), iv (a14.qM), sv a14.qN, iv (a14.wide), iv (a14.high), iv (a14.heavy), iv (a14.shelf)] :: .row b7 7 [iv (a14.qL), iv (a14.qM), sv a14.qN, iv (a14.wide), iv (a14.high), iv (a14.heavy), iv (a14.shelf)] :: ownL false v26 encI [(qF.length : Int)] :: ownL false v8 encI [(qE.length : Int)] :: .row b1 3 [qH, qG, qB] :: C⟩) h
        ·intro j h;refine T.draw (fun v => sameC_refl v) (l1 := [0, 1, 2, 3, 4, 5, 6, 7, 8, 9, 10, 11, 12, 13, 14]) (l2 := []) (by kernel_rfl) (by kernel_rfl) (zM R4 ?_);obtain ⟨c30, hc30⟩ := zY (x11 > 0);refine zV R3 (Val.gtr hc30 rfl rfl) (zM R4 ?_);obtain ⟨rfl, hc30, h⟩ | ⟨rfl, hc30, h⟩ := zI hc30 h
         ·refine zF 6 R6 (zL 1 R3 R6 (zF 2 R6 (zL 5 R3 R6 (zM R4 ?_))));obtain ⟨hk37, h⟩ := chk_some h;refine zV R3 (Val.sub rfl rfl hk37) ?_;obtain ⟨a38, hia38, ea38, h⟩ := el_some h;refine TO.fact (rdl_at qI M6 hia38 ea38) (fun hp=>?_);obtain ⟨pa38, hpa38, hva38⟩ := hp;refine zV R3 (hva38 ⟨rfl, rfl⟩ rfl rfl) (zV R3 (Val.faddr_e (fo := 6) hpa38 rfl rfl rfl) (zV R3 (Val.load_e (PtE.add hpa38 (by decide)) M6 ⟨_, rfl, rfl⟩ rfl rfl) ?_));obtain ⟨c41, hc41⟩ := zY (a14.shelf < a38.shelf);refine zV R3 (Val.lss hc41 rfl rfl) (zP R6 (zA R4 (zN ?_)));subst hc41;cases h;exact ⟨rfl, (), (sb .refl)⟩
         refine zO R3 (zO R3 (zO R3 (zO R3 (zO R3 (zO R3 (zO R3 (zO R3 (zO R3 (zO R3 (zP R6 (zA R4 (zN ?_))))))))))));cases h;exact ⟨rfl, (), (sb .refl)⟩
        ·rintro x28 _ h;replace h := zZ h;obtain ⟨rfl, h⟩ | ⟨rfl, h⟩ := h
         ·refine zC rfl (zU rfl (zA R4 (zN (zR ?_))));cases h;exact ⟨ret_ne, ⟨rfl, _, rfl, ⟨(), rfl, (pk [2,2,2,2,98,98] rfl)⟩⟩⟩
         refine zD rfl (zK ?_);cases h;exact ⟨rfl, (), (sb (pk [1,1,1,1,1,98] rfl))⟩
       ·rintro _ _ h;refine zU rfl (zA R4 (zN (zR ?_)));cases h;exact ⟨rfl, _, rfl, ⟨(), rfl, (pk [1,1,1,1,98] rfl)⟩⟩
      ·rintro y19 _ h;refine zG (_::_::_::_::C) rfl (zA R4 (zN (zU rfl (zM R4 ?_))));obtain ⟨c21, hc21⟩ := zY (¬ y19 = 0);refine zV R3 (Val.neq hc21 rfl rfl) (zN ?_);obtain ⟨rfl, hc21, h⟩ | ⟨rfl, hc21, h⟩ := zI hc21 h
       ·refine zC rfl (zU rfl (zM R4 (zM R4 (zA R4 (zA R4 (zN (zR ?_)))))));cases h;exact ⟨ret_ne, ⟨ret_ne, ⟨rfl, _, rfl, ⟨(), rfl, (pk [1,1,1,98] rfl)⟩⟩⟩⟩
       refine zD rfl (zK (zT rfl ?_));obtain ⟨hk24, h⟩ := chk_some h;refine zV R3 (Val.add rfl rfl hk24) (zM R4 (zN ?_));cases h;exact ⟨rfl, (), (sb (pk [1,1,1,98] rfl))⟩
     refine zD rfl (zE ?_);cases h;exact ⟨ex_ne, ⟨rfl, (), (sb .refl)⟩⟩
    ·rintro _ _ h;refine zU rfl (zA R4 (zA R4 (zN (zR ?_))));cases h;exact ⟨rfl, _, rfl, ⟨(), rfl, .refl⟩⟩
   ·rintro ⟨y48, y48_2⟩ _ h;dsimp only at h;refine zG (_::_::_::C) rfl (zM R4 (zX R5 (zX R5 (zA R4 (zA R4 (zN (zS (zU rfl (zM R4 ?_)))))))));obtain ⟨c52, hc52⟩ := zY (¬ y48_2 = 0);refine zV R3 (Val.neq hc52 rfl rfl) (zN ?_);obtain ⟨rfl, hc52, h⟩ | ⟨rfl, hc52, h⟩ := zI hc52 h
    ·refine zC rfl (zU rfl (zM R4 (zM R4 (zA R4 (zA R4 (zA R4 (zN (zR ?_))))))));cases h;exact ⟨rfl, _, rfl, ⟨(), rfl, (pk [98,98,98] rfl)⟩⟩
    refine zD rfl (zK (zU rfl (zF 1 R6 (zL 2 R3 R6 (zV R3 (Val.makeFunc rfl rfl) ?_)))));refine TO.callJ (W := Unit) (fun (j : Int × Int) (w : Unit) => .tuple [iv (j.1), iv (j.2)]) (fun (j : Int × Int) (w : Unit) => ownL false v26 encI [(qF.length : Int)] :: ownL false v8 encI [(qE.length : Int)] :: .row b1 3 [qH, qG, qB] :: C) h rfl rfl rfl rfl rfl rfl (orcN rfl) ?_ ?_
    ·intro j h;refine TF.enter (fn := Go.Proofs.Tryz.f130) rfl rfl rfl rfl rfl (zU rfl (zA R4 (zA R4 (zN ?_))))
     show T _ _ _ _ _ _;apply T.join (r := j) (W := Unit) (fun j w => ⟨[], [], ownL false v26 encI [(qF.length : Int)] :: ownL false v8 encI [(qE.length : Int)] :: .row b1 3 [qH, qG, qB] :: C⟩) h
     ·intro j h;refine zU rfl (zM R4 (zV R3 (Val.len_l qW M3 rfl rfl) (zM R4 (zN (zB ?_)))))
      show T _ _ _ _ _ _;apply T.iter (r := j) (W := Unit) (fun j w => ⟨[], [(1, .func 134 [] [.ptr b1 0 3]), (9, qG), (10, iv ((qF.length : Int))), (11, iv (j))], ownL false v26 encI [(qF.length : Int)] :: ownL false v8 encI [(qE.length : Int)] :: .row b1 3 [qH, qG, qB] :: C⟩) (w0 := ()) h
      ·exact (sb .refl)
      rintro x11 _ a h;unfold P_s9_Check_L5 at h;refine zU rfl ?_;obtain ⟨c12, hc12⟩ := zY (x11 < (qF.length : Int));refine zV R3 (Val.lss hc12 rfl rfl) (zN (zS ?_));obtain ⟨rfl, hc12, h⟩ | ⟨rfl, hc12, h⟩ := zI hc12 h
      ·refine zC rfl (zK (zS (zB (zU rfl (zM R4 ?_)))));obtain ⟨a14, hia14, ea14, h⟩ := el_some h;refine TO.fact (rdl_at qW M3 hia14 ea14) (fun hp=>?_);obtain ⟨pa14, hpa14, hva14⟩ := hp;refine zV R3 (hva14 ⟨rfl, rfl⟩ rfl rfl) (zV R3 (Val.load_es (c := [_, _, _, _]) hpa14 M3 ⟨⟨_, rfl, rfl⟩, rfl, by decide⟩ rfl rfl rfl) (zJ 4 [_,_,_,_] R7 (fun b7=>zA R4 (TO.eff0 rfl rfl (Eff.store_row (p := 0) (cv := [_, _, _, _]) (cells' := [_, _, _, _]) rfl rfl rfl rfl rfl rfl rfl rfl aG (by decide) rfl) ?_))));rintro _ rfl;refine zG (_::_::_::_::C) rfl (zN (zU rfl (zM R4 (zM R4 (zV R3 (vW 0 [_,_,_,_] R5 R4) ?_)))));refine TO.callJ (W := Unit) (fun (j : Int) (w : Unit) => iv (j)) (fun (j : Int) (w : Unit) => .row b7 4 [iv (a14.away), iv (a14.climb), iv (a14.wide), iv (a14.high)] :: ownL false v26 encI [(qF.length : Int)] :: ownL false v8 encI [(qE.length : Int)] :: .row b1 3 [qH, qG, qB] :: C) h rfl rfl rfl rfl rfl rfl (orcN rfl) ?_ ?_
       ·intro j h;refine TF.enter (fn := Go.Proofs.Tryz.f134) rfl rfl rfl rfl rfl (zU rfl (zQ 4 [_,_,_,_] R7 (fun b4=>zA R4 (zN ?_))))
        show T _ _ _ _ _ _;apply T.join (r := j) (W := Unit) (fun j w => ⟨[], [], .row b4 4 [iv (a14.away), iv (a14.climb), iv (j), iv (a14.high)] :: .row b7 4 [iv (a14.away), iv (a14.climb), iv (a14.wide), iv (a14.high)] :: ownL false v26 encI [(qF.length : Int)] :: ownL false v8 encI [(qE.length : Int)] :: .row b1 3 [qH, qG, qB] :: C⟩) h
        ·intro j h;refine zU rfl (zF 2 R6 (zL 4 R3 R6 (zV R3 (Val.len_l qI M5 rfl rfl) (zM R4 (zN (zB ?_))))))
         show T _ _ _ _ _ _;apply T.iter (r := j) (W := Unit) (fun j w => ⟨[], [(0, iv (x11)), (4, .ptr b4 0 4), (9, qB), (10, iv ((qC.length : Int))), (11, iv (j.1))], .row b4 4 [iv (a14.away), iv (a14.climb), iv (j.2), iv (a14.high)] :: .row b7 4 [iv (a14.away), iv (a14.climb), iv (a14.wide), iv (a14.high)] :: ownL false v26 encI [(qF.length : Int)] :: ownL false v8 encI [(qE.length : Int)] :: .row b1 3 [qH, qG, qB] :: C⟩) (w0 := ()) h
         ·exact (sb .refl)
         rintro ⟨x11_2, s_Wide⟩ _ a h;unfold P_s9_Check_L6 at h;dsimp only at h;dsimp only;refine zU rfl ?_;obtain ⟨c12_2, hc12_2⟩ := zY (x11_2 < (qC.length : Int));refine zV R3 (Val.lss hc12_2 rfl rfl) (zN (zS ?_));obtain ⟨rfl, hc12_2, h⟩ | ⟨rfl, hc12_2, h⟩ := zI hc12_2 h
         ·refine zC rfl (zK ?_)
          show T _ _ _ _ _ _;apply T.join (r := a) (W := Unit) (fun j w => ⟨[], [(0, iv (x11)), (4, .ptr b4 0 4), (9, qB), (10, iv ((qC.length : Int))), (11, iv (x11_2))], .row b4 4 [iv (a14.away), iv (a14.climb), iv (j), iv (a14.high)] :: .row b7 4 [iv (a14.away), iv (a14.climb), iv (a14.wide), iv (a14.high)] :: ownL false v26 encI [(qF.length : Int)] :: ownL false v8 encI [(qE.length : Int)] :: .row b1 3 [qH, qG, qB] :: C⟩) h
          ·intro j h;refine zB (zU rfl ?_);obtain ⟨a13, hia13, ea13, h⟩ := el_some h;refine TO.fact (rdl_at qI M5 hia13 ea13) (fun hp=>?_);obtain ⟨pa13, hpa13, hva13⟩ := hp;refine zV R3 (hva13 ⟨rfl, rfl⟩ rfl rfl) (zV R3 (Val.load_es (c := [_, _, _, _, _, _, _]) hpa13 M5 ⟨⟨_, rfl, rfl⟩, rfl, by decide⟩ rfl rfl rfl) (zJ 7 [_,_,_,_,_,_,_] R7 (fun b7_2=>TO.eff0 rfl rfl (Eff.store_row (p := 0) (cv := [_, _, _, _, _, _, _]) (cells' := [_, _, _, _, _, _, _]) rfl rfl rfl rfl rfl rfl rfl rfl aG (by decide) rfl) ?_)));rintro _ rfl;refine zG (_::_::_::_::_::_::C) rfl (zN (zS (zU rfl (zF 6 R6 (zL 0 R3 R6 (zM R4 ?_))))));obtain ⟨c18, hc18⟩ := zY (¬ a13.shelf = x11);refine zV R3 (Val.neq hc18 rfl rfl) (zN ?_);obtain ⟨rfl, hc18, h⟩ | ⟨rfl, hc18, h⟩ := zI hc18 h
           ·refine zC rfl (zE ?_);cases h;exact ⟨rfl, (), (sb (pk [1,1,1,1,1,98] rfl))⟩
           refine zD rfl (zK (zU rfl (zF 2 R6 (zL 1 R3 R6 (zF 3 R6 (zL 0 R3 R6 ?_))))));obtain ⟨hk23, h⟩ := chk_some h;refine zV R3 (Val.sub rfl rfl hk23) (zF 2 R6 (TO.eff0 rfl rfl (Eff.store_row (p := 1) (cv := [_]) (cells' := [_, _, _, _]) rfl rfl rfl rfl rfl rfl rfl rfl aG (by decide) rfl) ?_));rintro _ rfl;refine zG (_::_::_::_::_::_::C) rfl (zN ?_)
           show T _ _ _ _ _ _;apply T.joinA (r := j) (W := Unit) (fun j w => ⟨[], [(0, iv (x11)), (4, .ptr b4 0 4), (9, qB), (10, iv ((qC.length : Int))), (11, iv (x11_2)), (34, bv j)], .row b7_2 7 [iv (a13.qL), iv (a13.qM), sv a13.qN, iv (a13.wide), iv (a13.high), iv (a13.heavy), iv (a13.shelf)] :: .row b4 4 [iv (a14.away), iv (a14.climb), iv ((s_Wide - a13.wide)), iv (a14.high)] :: .row b7 4 [iv (a14.away), iv (a14.climb), iv (a14.wide), iv (a14.high)] :: ownL false v26 encI [(qF.length : Int)] :: ownL false v8 encI [(qE.length : Int)] :: .row b1 3 [qH, qG, qB] :: C⟩) h
           ·intro j h;refine zT rfl (zF 2 R6 (zL 1 R3 R6 ?_));obtain ⟨c27, hc27⟩ := zY ((s_Wide - a13.wide) < 0);refine zV R3 (Val.lss hc27 rfl rfl) (zM R4 ?_);obtain ⟨rfl, hc27, h⟩ | ⟨rfl, hc27, h⟩ := zI hc27 h
            ·refine zO R3 (zO R3 (zO R3 (zO R3 (zO R3 (zP R6 (zN ?_))))));cases h;exact ⟨rfl, (), (sb .refl)⟩
            refine zF 4 R6 (zL 0 R3 R6 (zF 3 R6 (zL 1 R3 R6 ?_)));obtain ⟨c33, hc33⟩ := zY (a13.high > a14.high);refine zV R3 (Val.gtr hc33 rfl rfl) (zP R6 (zN ?_));subst hc33;cases h;exact ⟨rfl, (), (sb .refl)⟩
           ·rintro x34 _ h;replace h := zZ h;obtain ⟨rfl, h⟩ | ⟨rfl, h⟩ := h
            ·refine zC rfl (zU rfl (zA R4 (zN (zR ?_))));cases h;exact ⟨ret_ne, ⟨ret_ne, ⟨ret_ne, ⟨rfl, _, rfl, ⟨(), rfl, (pk [2,2,2,2,98,98] rfl)⟩⟩⟩⟩⟩
            refine zD rfl (zK ?_);cases h;exact ⟨rfl, (), (sb (pk [1,1,1,1,1,98] rfl))⟩
          ·rintro s_Wide_2 _ h;refine zT rfl ?_;obtain ⟨hk35, h⟩ := chk_some h;refine zV R3 (Val.add rfl rfl hk35) (zM R4 (zN ?_));cases h;exact ⟨rfl, (), (sb .refl)⟩
         refine zD rfl (zE ?_);cases h;exact ⟨ex_ne, ⟨rfl, (), (sb .refl)⟩⟩
        ·rintro s_Wide _ h;refine zU rfl (zA R4 (zN (zR ?_)));cases h;exact ⟨rfl, _, rfl, ⟨(), rfl, (pk [1,1,1,1,98] rfl)⟩⟩
       ·rintro y19 _ h;refine zG (_::_::_::_::C) rfl (zA R4 (zN (zU rfl (zM R4 ?_))));obtain ⟨c21, hc21⟩ := zY (¬ y19 = 0);refine zV R3 (Val.neq hc21 rfl rfl) (zN ?_);obtain ⟨rfl, hc21, h⟩ | ⟨rfl, hc21, h⟩ := zI hc21 h
        ·refine zC rfl (zU rfl (zM R4 (zM R4 (zA R4 (zA R4 (zN (zR ?_)))))));cases h;exact ⟨ret_ne, ⟨ret_ne, ⟨rfl, _, rfl, ⟨(), rfl, (pk [1,1,1,98] rfl)⟩⟩⟩⟩
        refine zD rfl (zK (zT rfl ?_));obtain ⟨hk24, h⟩ := chk_some h;refine zV R3 (Val.add rfl rfl hk24) (zM R4 (zN ?_));cases h;exact ⟨rfl, (), (sb (pk [1,1,1,98] rfl))⟩
      refine zD rfl (zE ?_);cases h;exact ⟨ex_ne, ⟨rfl, (), (sb .refl)⟩⟩
     ·rintro _ _ h;refine zU rfl (zA R4 (zA R4 (zN (zR ?_))));cases h;exact ⟨rfl, _, rfl, ⟨(), rfl, .refl⟩⟩
    ·rintro ⟨y59, y59_2⟩ _ h;dsimp only at h;refine zG (_::_::_::C) rfl (zM R4 (zX R5 (zX R5 (zA R4 (zA R4 (zN (zS (zU rfl (zM R4 ?_)))))))));obtain ⟨c63, hc63⟩ := zY (¬ y59_2 = 0);refine zV R3 (Val.neq hc63 rfl rfl) (zN ?_);obtain ⟨rfl, hc63, h⟩ | ⟨rfl, hc63, h⟩ := zI hc63 h
     ·refine zC rfl (zU rfl (zM R4 (zM R4 (zA R4 (zA R4 (zA R4 (zN (zR ?_))))))));cases h;exact ⟨rfl, _, rfl, ⟨(), rfl, (pk [98,98,98] rfl)⟩⟩
     refine zD rfl (zK (zU rfl (zA R4 (zA R4 (zA R4 (zN (zR ?_)))))));cases h;exact ⟨rfl, _, rfl, ⟨(), rfl, (pk [98,98,98] rfl)⟩⟩
theorem w_s9_Check (qE : GS encStr) (qF : GS qZ) (qC : GS qS) (r : Int × Int × Int) (h : P_s9_Check qE.l qF.l qC.l = some r) : Comes (EL 0) 92 [.agg [qE.v, qF.v, qC.v]] (.tuple [iv r.1, iv r.2.1, iv r.2.2]) :=
 TF.run (tf_s9_Check (Nat.le_refl _) (RdT.gs qE) (RdT.gs qF) (RdT.gs qC) h) fun w => (.tuple (.cons .lit (.cons .lit (.cons .lit .nil))))
set_option maxRecDepth 10000 in
theorem tf_s9_open {k : Nat} (hk : 1 ≤ k) {C : List Thing} {qH : AV} {qE : List Str} {qG : AV} {qF : List qD} {qB : AV} {qC : List qA} (qAc : Rdl C encStr qH qE) (qW : Rdl C qZ qG qF) (qI : Rdl C qS qB qC) {r : Int} (h : P_s9_open qE qF qC = some r) :
  TF (EL k) 45 [.agg [qH, qG, qB]] C (RepF (fun (w : Unit) => .tuple [.agg [qH, qG, qB], iv r]) (fun (w : Unit) => C)) := by
 unfold P_s9_open at h;refine TF.enterG (fn := Go.Proofs.Tryz.f45) rfl rfl rfl rfl rfl (zU rfl (zQ 3 [_,_,_] R7 (fun b1=>zJ 3 [_,_,_] R7 (fun b2=>zA R4 (zN (zU rfl (zV R3 (vW 1 [_,_,_] R5 R4) ?_)))))));obtain ⟨⟨y9, y9_2, y9_3⟩, hr9, h⟩ := andx_some h;dsimp only at h;obtain ⟨g, hgg, hrg⟩ := Rdl.reif (hs := .row b2 3 [nilS, nilS, nilS] :: .row b1 3 [qH, qG, qB] :: C) qAc M2 (ReifL.flat encStr_tr);obtain ⟨g_2, hgg_2, hrg_2⟩ := Rdl.reif (hs := .row b2 3 [nilS, nilS, nilS] :: .row b1 3 [qH, qG, qB] :: C) qW M2 (ReifL.flat qBe);obtain ⟨g_3, hgg_3, hrg_3⟩ := Rdl.reif (hs := .row b2 3 [nilS, nilS, nilS] :: .row b1 3 [qH, qG, qB] :: C) qI M2 (ReifL.flat qBd);refine TO.call rfl rfl rfl rfl rfl (orcL rfl aD) (.cons (.agg (.cons (hrg _) (.cons (hrg_2 _) (.cons (hrg_3 _) .nil)))) .nil) (sem_of (w_s9_Check g g_2 g_3 _ (by try rw [hgg]; try rw [hgg_2]; try rw [hgg_3]; exact hr9))) (zM R4 (zX R5 (zX R5 (zX R5 (zA R4 (zA R4 (zA R4 (zN (zU rfl (zV R3 (vW 1 [_,_,_] R5 R4) (zV R3 (Val.buildC (cs := [_, _, _]) (vs := [(_, _)]) (ws := [(_, [_, _, _])]) rfl rfl (CellsL.cons rfl CellsL.nil) rfl) (zM R4 (TO.fact (rdl_cellS qAc M2) (fun qBa=>TO.fact (rdl_cellS qW M2) (fun qBb=>TO.fact (rdl_cellS qI M2) (fun qAh=>TO.eff0 rfl rfl (Eff.store_row (p := 0) (cv := [_, _, _]) (cells' := [_, _, _]) rfl rfl rfl rfl rfl rfl rfl rfl (by first | rfl | (simp [GS.one, qBa.2, qBb.2, qAh.2]; done) | (simp [GS.one, qBa.2, qBb.2, qAh.2]; (repeat' apply And.intro) <;> rfl)) (by decide) rfl) ?_))))))))))))))));rintro _ rfl;refine zG (_::_::C) rfl (zA R4 (zN (zR ?_)));cases h;exact ⟨rfl, _, rfl, [_, _], ⟨⟨_, rfl, LoadR.rows (p := 0) (c := [_, _, _]) rfl ⟨⟨_, rfl, rfl⟩, rfl, by decide⟩ rfl rfl rfl⟩, ⟨rfl, trivial⟩⟩, ⟨(), rfl, (pk [98,98] rfl)⟩⟩
end Go.Am.YtgbbhdoobhdadaaGreatDoor
end
section
namespace Go.Am
set_option linter.unusedVariables false
end Go.Am
end
section
namespace Go.Am.YtgbbhdoobhdadaaGreatDoor
open Go.Am Go.RowKit
set_option linter.unusedVariables false
set_option linter.unusedSimpArgs false
end Go.Am.YtgbbhdoobhdadaaGreatDoor
end
section
namespace Go.Am
open Go.RowKit
set_option linter.unusedVariables false
set_option linter.unusedSimpArgs false
section
variable {E : Env} {d : Bool} {n : Nat} {rnd : Option Nat} {ops : Array Oper} {i : Nat} {ns : List Nat} {ms : List Dfr} {σ : Sl} {hs hs' : List Thing} {Q : Sy → Prop} {t : Tmp} {op : Op} {ty : TypeId} {pos : String} {af : Array Edge} {g : Option (Nat × Bool)} {C : List Thing}
end
end Go.Am
end
section
namespace Go.Am
set_option linter.unusedVariables false
noncomputable def P_s9_trip_L1 (r_SfRoom_Shelves : List qD) (r_SfRoom_Books : List qA) (books : List Int) (set : Int) : (Int × Int × Int × Int) → Option (Stp (Int × Int × Int × Int) (Int × Int × Int)) := fun (way, heavy, seen, x16) =>
  if x16 < (books.length : Int) then
    andx (
      el books x16 fun a19 =>
      chk (0 ≤ x16 ∧ x16 < 64) (
        if (andI (shrI set x16) 1) = 0 then
          some (way, heavy, seen)
        else
          el r_SfRoom_Books a19 fun a30 =>
          chk (I64 (heavy + a30.heavy)) (
            el r_SfRoom_Shelves a30.shelf fun a42 =>
            chk ((0 ≤ a30.shelf ∧ a30.shelf < 64) ∧ I64 (shlI 1 a30.shelf)) (
              some ((max way a42.away), (heavy + a30.heavy), (orI seen (shlI 1 a30.shelf))))))) fun (way_2, heavy_2, seen_2) =>
      chk (I64 (x16 + 1)) (
        some (Stp.ag (way_2, heavy_2, seen_2, (x16 + 1))))
  else
    some (Stp.dn (way, heavy, seen))
noncomputable def P_s9_trip_L2 (r_SfRoom_Shelves : List qD) (seen : Int) : (Int × Int) → Option (Stp (Int × Int) Int) := fun (way_2, x56) =>
  if x56 < (r_SfRoom_Shelves.length : Int) then
    el r_SfRoom_Shelves x56 fun a59 =>
    chk (0 ≤ x56 ∧ x56 < 64) (
      chk (I64 ((andI (shrI seen x56) 1) * a59.climb)) (
        chk (I64 (way_2 + ((andI (shrI seen x56) 1) * a59.climb))) (
          chk (I64 (x56 + 1)) (
            some (Stp.ag ((way_2 + ((andI (shrI seen x56) 1) * a59.climb)), (x56 + 1)))))))
  else
    some (Stp.dn way_2)
noncomputable def P_s9_trip (r_SfRoom_Classes : List Str) (r_SfRoom_Shelves : List qD) (r_SfRoom_Books : List qA) (books : List Int) (set : Int) : Option (Int × Int) :=
  andx (
    iter (P_s9_trip_L1 r_SfRoom_Shelves r_SfRoom_Books books set) (0, 0, 0, 0)) fun (way, heavy, seen) =>
    andx (
      iter (P_s9_trip_L2 r_SfRoom_Shelves seen) (way, 0)) fun way_2 =>
      chk (I64 (2 * way_2)) (
        some ((2 * way_2), heavy))
end Go.Am
end
section
namespace Go.Am.YtgbbhdoobhdadaaGreatDoor
open Go.Am Go.RowKit
set_option linter.unusedVariables false
set_option linter.unusedSimpArgs false
set_option maxRecDepth 10000 in
theorem tf_s9_trip {k : Nat} (hk : 0 ≤ k) {C : List Thing} {v_r_SfRoom_Classes : AV} {r_SfRoom_Classes : List Str} {v_r_SfRoom_Shelves : AV} {r_SfRoom_Shelves : List qD} {v_r_SfRoom_Books : AV} {r_SfRoom_Books : List qA} {v_books : AV} {books : List Int} {set : Int} (h_r_SfRoom_Classes : Rdl C encStr v_r_SfRoom_Classes r_SfRoom_Classes) (h_r_SfRoom_Shelves : Rdl C qZ v_r_SfRoom_Shelves r_SfRoom_Shelves) (h_r_SfRoom_Books : Rdl C qS v_r_SfRoom_Books r_SfRoom_Books) (h_books : Rdl C encI v_books books) {r : Int × Int} (h : P_s9_trip r_SfRoom_Classes r_SfRoom_Shelves r_SfRoom_Books books set = some r) :
  TF (EL k) 51 [.agg [v_r_SfRoom_Classes, v_r_SfRoom_Shelves, v_r_SfRoom_Books], v_books, iv (set)] C (RepF (fun (w : Unit) => .tuple [iv r.1, iv r.2]) (fun (w : Unit) => C)) := by
 unfold P_s9_trip at h;refine TF.enter (fn := Go.Proofs.Tryz.f51) rfl rfl rfl rfl rfl (zU rfl (zQ 3 [_,_,_] R7 (fun b3=>zA R4 (zA R4 (zN (zU rfl (zA R4 (zN ?_))))))))
 show T _ _ _ _ _ _;apply T.joinA (r := r) (W := Unit) (fun j w => ⟨[], [(3, .ptr b3 0 3), (6, iv (j.1)), (7, iv (j.2.1)), (8, iv (j.2.2))], .row b3 3 [v_r_SfRoom_Classes, v_r_SfRoom_Shelves, v_r_SfRoom_Books] :: C⟩) h
 ·intro j h;refine zU rfl (zM R4 (zV R3 (Val.len_l h_books M1 rfl rfl) (zM R4 (zN (zB ?_)))))
  show T _ _ _ _ _ _;apply T.iter (r := j) (W := Unit) (fun j w => ⟨[], [(2, iv (set)), (3, .ptr b3 0 3), (6, iv (j.1)), (7, iv (j.2.1)), (8, iv (j.2.2.1)), (14, v_books), (15, iv ((books.length : Int))), (16, iv (j.2.2.2))], .row b3 3 [v_r_SfRoom_Classes, v_r_SfRoom_Shelves, v_r_SfRoom_Books] :: C⟩) (w0 := ()) h
  ·exact (sb .refl)
  rintro ⟨way, heavy, seen, x16⟩ _ a h;unfold P_s9_trip_L1 at h;dsimp only at h;dsimp only;refine zU rfl ?_;obtain ⟨c17, hc17⟩ := zY (x16 < (books.length : Int));refine zV R3 (Val.lss hc17 rfl rfl) (zN (zS ?_));obtain ⟨rfl, hc17, h⟩ | ⟨rfl, hc17, h⟩ := zI hc17 h
  ·refine zC rfl (zK ?_)
   show T _ _ _ _ _ _;apply T.joinA (r := a) (W := Unit) (fun j w => ⟨[], [(2, iv (set)), (3, .ptr b3 0 3), (6, iv (j.1)), (7, iv (j.2.1)), (8, iv (j.2.2)), (14, v_books), (15, iv ((books.length : Int))), (16, iv (x16))], .row b3 3 [v_r_SfRoom_Classes, v_r_SfRoom_Shelves, v_r_SfRoom_Books] :: C⟩) h
   ·intro j h;refine zB (zU rfl (zM R4 ?_));obtain ⟨a19, hia19, ea19, h⟩ := el_some h;refine TO.fact (rdl_at h_books M1 hia19 ea19) (fun hp=>?_);obtain ⟨pa19, hpa19, hva19⟩ := hp;refine zV R3 (hva19 ⟨rfl, rfl⟩ rfl rfl) (zV R3 (Val.load_e hpa19 M1 ⟨_, rfl, rfl⟩ rfl rfl) (zA R4 (zA R4 (zN (zS (zU rfl (zM R4 (zM R4 ?_))))))));obtain ⟨hk23, h⟩ := chk_some h;refine zV R3 (Val.shr rfl rfl hk23) (zV R3 (Val.and rfl rfl) ?_);obtain ⟨c25, hc25⟩ := zY ((andI (shrI set x16) 1) = 0);refine zV R3 (Val.eql hc25 rfl rfl) (zN ?_);obtain ⟨rfl, hc25, h⟩ | ⟨rfl, hc25, h⟩ := zI hc25 h
    ·refine zC rfl (zE ?_);cases h;exact ⟨rfl, (), (sb .refl)⟩
    refine zD rfl (zK (zU rfl (zF 0 R6 (zF 2 R6 (zL 0 R3 R6 (zM R4 ?_))))));obtain ⟨a30, hia30, ea30, h⟩ := el_some h;refine TO.fact (rdl_at h_r_SfRoom_Books M1 hia30 ea30) (fun hp=>?_);obtain ⟨pa30, hpa30, hva30⟩ := hp;refine zV R3 (hva30 ⟨rfl, rfl⟩ rfl rfl) (zV R3 (Val.load_es (c := [_, _, _, _, _, _, _]) hpa30 M1 ⟨⟨_, rfl, rfl⟩, rfl, by decide⟩ rfl rfl rfl) (zJ 7 [_,_,_,_,_,_,_] R7 (fun b11=>TO.eff0 rfl rfl (Eff.store_row (p := 0) (cv := [_, _, _, _, _, _, _]) (cells' := [_, _, _, _, _, _, _]) rfl rfl rfl rfl rfl rfl rfl rfl aG (by decide) rfl) ?_)));rintro _ rfl;refine zG (_::_::C) rfl (zN (zU rfl (zM R4 (zF 5 R6 (zL 0 R3 R6 ?_)))));obtain ⟨hk35, h⟩ := chk_some h;refine zV R3 (Val.add rfl rfl hk35) (zA R4 (zN (zU rfl (zM R4 (zF 0 R6 (zF 1 R6 (zL 1 R3 R6 (zF 6 R6 (zL 0 R3 R6 ?_)))))))));obtain ⟨a42, hia42, ea42, h⟩ := el_some h;refine TO.fact (rdl_at h_r_SfRoom_Shelves M2 hia42 ea42) (fun hp=>?_);obtain ⟨pa42, hpa42, hva42⟩ := hp;refine zV R3 (hva42 ⟨rfl, rfl⟩ rfl rfl) (zV R3 (Val.faddr_e (fo := 0) hpa42 rfl rfl rfl) (zV R3 (Val.load_e (PtE.add hpa42 (by decide)) M2 ⟨_, rfl, rfl⟩ rfl rfl) (zV R3 (Val.bmax rfl rfl) (zA R4 (zN (zT rfl (zM R4 (zF 6 R6 (zL 0 R3 R6 ?_)))))))));obtain ⟨hk49, h⟩ := chk_some h;refine zV R3 (Val.shl rfl rfl hk49) (zV R3 (Val.or rfl rfl) (zA R4 (zN ?_)));cases h;exact ⟨rfl, (), (sb (pk [1,98] rfl))⟩
   ·rintro ⟨way_2, heavy_2, seen_2⟩ _ h;dsimp only at h;dsimp only;refine zT rfl ?_;obtain ⟨hk51, h⟩ := chk_some h;refine zV R3 (Val.add rfl rfl hk51) (zM R4 (zN ?_));cases h;exact ⟨rfl, (), (sb .refl)⟩
  refine zD rfl (zE ?_);cases h;exact ⟨ex_ne, ⟨rfl, (), (sb .refl)⟩⟩
 ·rintro ⟨way, heavy, seen⟩ _ h;dsimp only at h;dsimp only
  show T _ _ _ _ _ _;apply T.joinA (r := r) (W := Unit) (fun j w => ⟨[], [(6, iv (j)), (7, iv (heavy))], C⟩) h
  ·intro j h;refine zU rfl (zF 0 R6 (zF 1 R6 (zL 0 R3 R6 (zV R3 (Val.len_l h_r_SfRoom_Shelves M1 rfl rfl) (zM R4 (zN (zB ?_)))))))
   show T _ _ _ _ _ _;apply T.iter (r := j) (W := Unit) (fun j w => ⟨[], [(6, iv (j.1)), (7, iv (heavy)), (8, iv (seen)), (54, v_r_SfRoom_Shelves), (55, iv ((r_SfRoom_Shelves.length : Int))), (56, iv (j.2))], C⟩) (w0 := ()) h
   ·exact (sb (pk [98] rfl))
   rintro ⟨way_2, x56⟩ _ a h;unfold P_s9_trip_L2 at h;dsimp only at h;dsimp only;refine zU rfl ?_;obtain ⟨c57, hc57⟩ := zY (x56 < (r_SfRoom_Shelves.length : Int));refine zV R3 (Val.lss hc57 rfl rfl) (zN (zS ?_));obtain ⟨rfl, hc57, h⟩ | ⟨rfl, hc57, h⟩ := zI hc57 h
   ·refine zC rfl (zK (zS (zB (zU rfl (zM R4 ?_)))));obtain ⟨a59, hia59, ea59, h⟩ := el_some h;refine TO.fact (rdl_at h_r_SfRoom_Shelves mem0 hia59 ea59) (fun hp=>?_);obtain ⟨pa59, hpa59, hva59⟩ := hp;refine zV R3 (hva59 ⟨rfl, rfl⟩ rfl rfl) (zV R3 (Val.load_es (c := [_, _, _, _]) hpa59 mem0 ⟨⟨_, rfl, rfl⟩, rfl, by decide⟩ rfl rfl rfl) (zJ 4 [_,_,_,_] R7 (fun b13=>zA R4 (TO.eff0 rfl rfl (Eff.store_row (p := 0) (cv := [_, _, _, _]) (cells' := [_, _, _, _]) rfl rfl rfl rfl rfl rfl rfl rfl aG (by decide) rfl) ?_))));rintro _ rfl;refine zG (_::C) rfl (zN (T.draw (fun v => sameC_refl v) (l1 := [0, 1, 2, 3, 4, 5, 6, 7, 8, 9]) (l2 := []) (by kernel_rfl) (by kernel_rfl) (zM R4 (zM R4 (zM R4 ?_)))));obtain ⟨hk64, h⟩ := chk_some h;refine zV R3 (Val.shr rfl rfl hk64) (zV R3 (Val.and rfl rfl) (zF 1 R6 (zL 0 R3 R6 ?_)));obtain ⟨hk68, h⟩ := chk_some h;refine zV R3 (Val.mul rfl rfl hk68) ?_;obtain ⟨hk69, h⟩ := chk_some h;refine zV R3 (Val.add rfl rfl hk69) (zA R4 (zN (zT rfl ?_)));obtain ⟨hk70, h⟩ := chk_some h;refine zV R3 (Val.add rfl rfl hk70) (zM R4 (zN ?_));cases h;exact ⟨rfl, (), (sb (pk [98] rfl))⟩
   refine zD rfl (zE ?_);cases h;exact ⟨ex_ne, ⟨rfl, (), (sb .refl)⟩⟩
  ·rintro way_2 _ h;refine zU rfl (zM R4 ?_);obtain ⟨hk72, h⟩ := chk_some h;refine zV R3 (Val.mul rfl rfl hk72) (zM R4 (zA R4 (zA R4 (zN (zR ?_)))));cases h;exact ⟨rfl, _, rfl, ⟨(), rfl, .refl⟩⟩
end Go.Am.YtgbbhdoobhdadaaGreatDoor
end
section
namespace Go.Am
open Go.RowKit
set_option linter.unusedVariables false
set_option linter.unusedSimpArgs false
section
variable {E : Env} {d : Bool} {n : Nat} {rnd : Option Nat} {ops : Array Oper} {i : Nat} {ns : List Nat} {ms : List Dfr} {σ : Sl} {hs hs' : List Thing} {Q : Sy → Prop} {t : Tmp} {op : Op} {ty : TypeId} {pos : String} {af : Array Edge} {g : Option (Nat × Bool)}
end
end Go.Am
end
section
namespace Go.Am
open Go.RowKit
set_option linter.unusedVariables false
set_option linter.unusedSimpArgs false
section
variable {E : Env} {σ : Sl} {hs hs' : List Thing} {bt : TypeId} {x y : Operand} {p id u k m : Nat} {n a : Int} {l l' : List Int}
theorem splice_at {c : List AV} {i : Nat} {v : AV} (h : i < c.length) : spliceL c i [v] = c.set i v := by
 unfold spliceL;rw [List.set_eq_take_append_cons_drop, if_pos h];simp
end
end Go.Am
end
section
namespace Go.Am
end Go.Am
end
section
namespace Go.Am
open Go.RowKit
set_option linter.unusedVariables false
set_option linter.unusedSimpArgs false
def nelL {α : Type} (ls : List (List α)) (i : Nat) : List α := ls.getD i []
theorem nelL_of {α : Type} {ls : List (List α)} {i : Nat} {l : List α} (h : ls[i]? = some l) : nelL ls i = l := by
 unfold nelL;rw [List.getD_eq_getElem?_getD, h];rfl
section
variable {E : Env} {hs hs' C : List Thing}
end
end Go.Am
end
section
namespace Go.Am
set_option linter.unusedVariables false
end Go.Am
end
section
namespace Go.Am.YtgbbhdoobhdadaaGreatDoor
open Go.Am Go.RowKit
set_option linter.unusedVariables false
set_option linter.unusedSimpArgs false
end Go.Am.YtgbbhdoobhdadaaGreatDoor
end
section
namespace Go.Am
set_option linter.unusedVariables false
theorem i64_small {x : Int} (h : -4000000000000000000 ≤ x ∧ x ≤ 4000000000000000000) : I64 x := by unfold I64; omega
section
variable {σ ε J A β : Type}
theorem Ok.eq {x : Option β} {a : β} {Q : β → Prop} (h : x = Option.some a) (hq : Q a) : Ok x Q := ⟨a, h, hq⟩
def CountQ (idx : σ → Int) (I : Nat → σ → Prop) (k : Nat) (Q : ε → Prop) : Stp σ ε → Prop
 | .ag s => idx s = k + 1 ∧ I (k + 1) s
 | .dn e => Q e
def FinQ (Q : ε → Prop) : Stp σ ε → Prop
 | .ag _ => False
 | .dn e => Q e
theorem Ok.count (idx : σ → Int) (n : Nat) (I : Nat → σ → Prop) {body : σ → Option (Stp σ ε)} {s0 : σ} {Q : ε → Prop} (h0 : idx s0 = 0) (hI : I 0 s0)
  (step : ∀ k s, k < n → idx s = k → I k s → Ok (body s) (CountQ idx I k Q)) (fin : ∀ s, idx s = n → I n s → Ok (body s) (FinQ Q)) : Ok (Am.iter body s0) Q := by
 refine Ok.iter (fun s => ∃ k : Nat, k ≤ n ∧ idx s = k ∧ I k s) (fun s => n - (idx s).toNat) ⟨0, Nat.zero_le _, h0, hI⟩ ?_;rintro s ⟨k, hk, hx, hi⟩
 by_cases hlt : k < n
 ·refine (step k s hlt hx hi).mono fun x hq => ?_
  cases x with
  | ag s' =>
   have h1 : idx s' = k + 1 := hq.1;exact ⟨⟨k + 1, by omega, by rw [h1]; rfl, hq.2⟩, by show n - (idx s').toNat < n - (idx s).toNat; rw [h1, hx]; omega⟩
  | dn e => exact hq
 ·have : k = n := by omega
  subst this;refine (fin s hx hi).mono fun x hq => ?_
  cases x with
  | ag s' => exact hq.elim
  | dn e => exact hq
end
end Go.Am
end
section
namespace Go.Am
set_option linter.unusedVariables false
set_option linter.unusedSimpArgs false
open Classical in
noncomputable def scanX {A : Type} (f : Nat → Option A) (n : Nat) : Ex Unit A := match (List.range n).findSome? f with | some a => .rt a | none => .nx ()
theorem find_range {A : Type} {f : Nat → Option A} {a : A} : ∀ {n k : Nat}, k < n → (∀ j, j < k → f j = none) → f k = some a → (List.range n).findSome? f = some a := by
 intro n
 induction n with
 | zero => intro k hk; omega
 | succ n ih =>
  intro k hk h0 h1;rw [List.range_succ, List.findSome?_append]
  by_cases hkn : k = n
  ·subst hkn
   have : (List.range k).findSome? f = none := by
    rw [List.findSome?_eq_none_iff];intro x hx;exact h0 x (List.mem_range.1 hx)
   rw [this];simp [h1]
  ·rw [ih (by omega) h0 h1]; rfl
theorem find_none {A : Type} {f : Nat → Option A} {n : Nat} (h : ∀ j, j < n → f j = none) : (List.range n).findSome? f = none := by
 rw [List.findSome?_eq_none_iff];intro x hx;exact h x (List.mem_range.1 hx)
theorem of_find_none {A : Type} {f : Nat → Option A} {n : Nat} (h : (List.range n).findSome? f = none) : ∀ j, j < n → f j = none := by
 rw [List.findSome?_eq_none_iff] at h;exact fun j hj => h j (List.mem_range.2 hj)
def scanS {A : Type} {σ : Type} (s : σ) : Option A → Stp σ (Ex Unit A)
 | none => .ag s
 | some a => .dn (.rt a)
theorem iter_scan {A σ : Type} (idx : Nat → σ) (f : Nat → Option A) (n : Nat) {body : σ → Option (Stp σ (Ex Unit A))} (inj : ∀ k, idx k = idx k)
  (step : ∀ k : Nat, k < n → (∀ j, j < k → f j = none) → body (idx k) = some (scanS (idx (k + 1)) (f k)))
  (fin : (∀ j, j < n → f j = none) → body (idx n) = some (.dn (.nx ()))) : iter body (idx 0) = some (scanX f n) := by
 have key : ∀ m k : Nat, m = n - k → k ≤ n → (∀ j, j < k → f j = none) → iter body (idx k) = some (scanX f n) := by
  intro m
  induction m with
  | zero =>
   intro k hm hk h0
   have : k = n := by omega
   subst this;refine iter_eq.2 (.inr ?_);rw [fin h0];simp [scanX, find_none h0]
  | succ m ih =>
   intro k hm hk h0;cases hf : f k with
   | none =>
    refine iter_eq.2 (.inl ⟨idx (k + 1), ?_, ih (k + 1) (by omega) (by omega) fun j hj => ?_⟩)
    ·rw [step k (by omega) h0, hf]; rfl
    ·by_cases e : j = k
     ·rw [e]; exact hf
     ·exact h0 j (by omega)
   | some a =>
    refine iter_eq.2 (.inr ?_);rw [step k (by omega) h0, hf];simp [scanS, scanX, find_range (show k < n by omega) h0 hf]
 exact key n 0 (by omega) (by omega) (fun j hj => by omega)
theorem iter_scanI {A : Type} (f : Nat → Option A) (n : Nat) {body : Int → Option (Stp Int (Ex Unit A))}
  (step : ∀ k : Nat, k < n → (∀ j, j < k → f j = none) → body (k : Int) = some (scanS ((k : Int) + 1) (f k)))
  (fin : (∀ j, j < n → f j = none) → body (n : Int) = some (.dn (.nx ()))) : iter body 0 = some (scanX f n) :=
 iter_scan (fun k => (k : Int)) f n (fun _ => rfl) (fun k hk h => step k hk h) fin
theorem seqx_scan {A : Type} {f : Nat → Option A} {n : Nat} {k : Unit → Option A} : seqx (some (scanX f n)) k = match (List.range n).findSome? f with | some a => some a | none => k () := by
 unfold scanX;cases (List.range n).findSome? f <;> rfl
theorem el_at {α β : Type} {l : List α} {k : Nat} {a : α} {g : α → Option β} (h : l[k]? = some a) : el l (k : Int) g = g a := by
 unfold el;simp [h]
theorem get!_mk (l : Str) (i : Nat) : (⟨l.toArray⟩ : ByteArray).get! i = l.getD i 0 := by
 show l.toArray[i]! = _;rw [getElem!_def];simp [List.getD];cases l[i]? <;> rfl
theorem rune_ascii {l : Str} {p : Nat} {b : UInt8} (hb : l[p]? = some b) (h : b.toNat < 128) : runeAt l p = b.toNat ∧ runeLen l p = 1 := by
 have e : (⟨l.toArray⟩ : ByteArray).get! (p + 0) = b := by rw [get!_mk]; simp [List.getD, hb]
 unfold runeAt runeLen Utf8.decode;simp only [e];rw [if_pos h];exact ⟨rfl, rfl⟩
theorem rune_high {l : Str} {p : Nat} {b : UInt8} (hb : l[p]? = some b) (h : 128 ≤ b.toNat) : 128 ≤ runeAt l p := by
 have e : (⟨l.toArray⟩ : ByteArray).get! (p + 0) = b := by rw [get!_mk]; simp [List.getD, hb]
 unfold runeAt Utf8.decode;simp only [e, Utf8.runeError];rw [if_neg (by omega)];split
 ·split
  ·rename_i h1 h2; simp only [ge_iff_le] at h2; simp only; omega
  ·simp only; omega
 ·split
  ·split
   ·rename_i h1 h2; simp only [ge_iff_le, Bool.and_eq_true, decide_eq_true_eq] at h2; simp only; omega
   ·simp only; omega
  ·split
   ·split
    ·rename_i h1 h2; simp only [ge_iff_le, Bool.and_eq_true, decide_eq_true_eq] at h2; simp only; omega
    ·simp only; omega
   ·simp only; omega
def lowerN (x : Int) : Prop := 97 ≤ x ∧ x ≤ 122
def nameN (i : Nat) (x : Int) : Prop := lowerN x ∨ (0 < i ∧ ((48 ≤ x ∧ x ≤ 57) ∨ x = 46))
def isName (s : Str) : Prop := 0 < s.length ∧ s.length ≤ 16 ∧ ∀ i, i < s.length → nameN i (byteAt s i)
def isLow (s : Str) : Prop := ∀ i, i < s.length → lowerN (byteAt s i)
theorem byteAt_of {l : Str} {k : Nat} {b : UInt8} (h : l[k]? = some b) : byteAt l (k : Int) = b.toNat := by
 simp [byteAt, List.getD, h]
theorem get_some {α : Type} {l : List α} {k : Nat} (h : k < l.length) : ∃ a, l[k]? = some a := ⟨l[k], List.getElem?_eq_getElem h⟩
theorem byteAt_lt (l : Str) (k : Int) : 0 ≤ byteAt l k ∧ byteAt l k < 256 := by
 have := (l.getD k.toNat 0).toNat_lt;unfold byteAt;omega
theorem rune_low {l : Str} {p : Nat} (hp : p < l.length) : (runeAt l p = byteAt l p ∧ runeLen l p = 1) ∨ (128 ≤ runeAt l p ∧ 128 ≤ byteAt l p) := by
 obtain ⟨b, hb⟩ := get_some hp;rw [byteAt_of hb]
 by_cases h : b.toNat < 128
 ·exact .inl (rune_ascii hb h)
 ·exact .inr ⟨rune_high hb (by omega), by omega⟩
open Classical in
theorem find_if {A : Type} {P : Nat → Prop} {a : A} {n : Nat} : (List.range n).findSome? (fun i => if P i then none else some a) = if ∀ j, j < n → P j then none else some a := by
 by_cases h : ∀ j, j < n → P j
 ·rw [if_pos h, find_none fun j hj => if_pos (h j hj)]
 ·rw [if_neg h];cases hf : (List.range n).findSome? (fun i => if P i then none else some a) with
  | none =>
   refine absurd (fun i hi => ?_) h
   have := of_find_none hf i hi
   by_cases hl : P i
   ·exact hl
   ·rw [if_neg hl] at this; cases this
  | some b =>
   obtain ⟨x, hx, hx'⟩ := List.exists_of_findSome?_eq_some hf;split at hx'
   ·cases hx'
   ·exact hx'.symm
open Classical in
theorem r9_letters_eq (s : Str) (hs : s.length ≤ 1000) : P_r9_letters s = some (decide (isLow s)) := by
 unfold P_r9_letters;rw [iter_scanI (fun i => if lowerN (byteAt s i) then none else some false) s.length, seqx_scan, find_if]
 ·by_cases h : ∀ j, j < s.length → lowerN (byteAt s j)
  ·rw [if_pos h, decide_eq_true (show isLow s from h)]
  ·rw [if_neg h, decide_eq_false (show ¬ isLow s from h)]
 ·intro k hk h0;unfold P_r9_letters_L1;rw [if_pos (by omega), chk_pos (by omega), chk_pos (by omega), chk_pos (i64_small (by omega))];unfold lowerN;generalize byteAt s (k : Int) = x
  by_cases h1 : x < 97
  ·rw [if_pos h1, if_neg (by omega)]; rfl
  ·rw [if_neg h1]
   by_cases h2 : x > 122
   ·rw [if_neg (by omega), decide_eq_true h2]; rfl
   ·rw [if_pos (by omega), decide_eq_false h2]; rfl
 ·intro h0;unfold P_r9_letters_L1;rw [if_neg (by omega)]
theorem andx_some' {α β : Type} {a : α} {k : α → Option β} : andx (some a) k = k a := rfl
open Classical in
theorem r1_Name_eq (s : Str) : P_r1_Name s = some (decide (isName s)) := by
  unfold P_r1_Name
  by_cases h0 : s.length = 0
  · have : ¬ isName s := fun h => by have := h.1; omega
    rw [if_pos (by omega)]; simp [seqx, andx, this]
  by_cases h1 : 16 < s.length
  · have : ¬ isName s := fun h => by have := h.2.1; omega
    rw [if_neg (by omega), decide_eq_true (by omega)]; simp [seqx, andx, this]
  rw [if_neg (by omega), decide_eq_false (by omega)]
  show seqx (iter _ _) _ = _
  rw [iter_scanI (fun i => if nameN i (byteAt s i) then none else some false) s.length, seqx_scan, find_if]
  · by_cases h : ∀ j, j < s.length → nameN j (byteAt s j)
    · rw [if_pos h, decide_eq_true ⟨by omega, by omega, h⟩]
    · rw [if_neg h, decide_eq_false fun k => h k.2.2]
  · intro k hk hj
    unfold P_r1_Name_L1
    rw [if_pos (by omega)]
    simp only [chk_pos (show 0 ≤ (k : Int) ∧ (k : Int) < (s.length : Int) by omega), chk_pos (show I64 ((k : Int) + 1) from i64_small (by omega))]
    unfold nameN lowerN
    generalize byteAt s (k : Int) = x
    by_cases a1 : x ≥ 97 <;> by_cases a2 : x ≤ 122 <;> by_cases a3 : k = 0 <;> by_cases a4 : x ≥ 48 <;> by_cases a5 : x ≤ 57 <;> by_cases a6 : x = 46 <;>
      first
      | (exfalso; omega)
      | (rw [if_pos (show (97 ≤ x ∧ x ≤ 122) ∨ (0 < k ∧ ((48 ≤ x ∧ x ≤ 57) ∨ x = 46)) by omega)]; simp [andx, seqx, scanS, a1, a2, a3, a4, a5, a6]; done)
      | (rw [if_neg (show ¬ ((97 ≤ x ∧ x ≤ 122) ∨ (0 < k ∧ ((48 ≤ x ∧ x ≤ 57) ∨ x = 46))) by omega)]; simp [andx, seqx, scanS, a1, a2, a3, a4, a5, a6]; done)
  · intro hj
    unfold P_r1_Name_L1
    rw [if_neg (by omega)]
open Classical in
theorem q_Name_eq (s : Str) : P_q_Name s = some (decide (isName s)) := by
  unfold P_q_Name
  rw [iter_scan (fun k : Nat => k) (fun i => if nameN i (byteAt s i) then none else some false) s.length (fun _ => rfl), seqx_scan, find_if]
  · by_cases h : ∀ j, j < s.length → nameN j (byteAt s j)
    · rw [if_pos h]
      show andx _ _ = _
      by_cases h0 : s = []
      · subst h0
        have : ¬ isName [] := fun h => absurd h.1 (by simp)
        simp [andx, this]
      · have hpos : 0 < s.length := List.length_pos_iff.2 h0
        rw [if_pos h0]
        show some _ = some _
        congr 1
        by_cases h1 : s.length ≤ 16
        · rw [decide_eq_true (by omega), decide_eq_true ⟨hpos, h1, h⟩]
        · rw [decide_eq_false (by omega), decide_eq_false fun k => h1 k.2.1]
    · rw [if_neg h, decide_eq_false (show ¬ isName s from fun k => h k.2.2)]
  · intro k hk hj
    unfold P_q_Name_L1
    rw [if_pos hk]
    show _ = some (scanS (k + 1) _)
    have hb := byteAt_lt s (k : Int)
    unfold nameN lowerN
    rcases rune_low hk with ⟨h1, h2⟩ | ⟨h1, h2⟩
    · rw [h1, h2]
      generalize byteAt s (k : Int) = x
      by_cases a1 : x ≥ 97 <;> by_cases a2 : x ≤ 122 <;> by_cases a3 : 0 < k <;> by_cases a4 : x ≥ 48 <;> by_cases a5 : x ≤ 57 <;> by_cases a6 : x = 46 <;>
        first
        | (exfalso; omega)
        | (rw [if_pos (show (97 ≤ x ∧ x ≤ 122) ∨ (0 < k ∧ ((48 ≤ x ∧ x ≤ 57) ∨ x = 46)) by omega)]; simp [andx, scanS, a1, a2, a3, a4, a5, a6]; done)
        | (rw [if_neg (show ¬ ((97 ≤ x ∧ x ≤ 122) ∨ (0 < k ∧ ((48 ≤ x ∧ x ≤ 57) ∨ x = 46))) by omega)]; simp [andx, scanS, a1, a2, a3, a4, a5, a6]; done)
    · generalize byteAt s (k : Int) = x at *
      generalize runeAt s k = y at *
      rw [if_neg (show ¬ ((97 ≤ x ∧ x ≤ 122) ∨ (0 < k ∧ ((48 ≤ x ∧ x ≤ 57) ∨ x = 46))) by omega)]
      have a1 : y ≥ 97 := by omega
      have a2 : ¬ y ≤ 122 := by omega
      have a4 : y ≥ 48 := by omega
      have a5 : ¬ y ≤ 57 := by omega
      have a6 : ¬ y = 46 := by omega
      by_cases a3 : 0 < k <;> simp [andx, scanS, a1, a2, a3, a4, a5, a6]
  · intro hj
    unfold P_q_Name_L1
    rw [if_neg (by omega)]
end Go.Am
end
section
namespace Go.Am
set_option linter.unusedVariables false
set_option linter.unusedSimpArgs false
open Classical in
theorem r9_in_eq (n a b : Int) : P_r9_in n a b = some (decide (a ≤ n ∧ n ≤ b)) := by
 unfold P_r9_in
 by_cases h : a ≤ n
 ·rw [if_pos h]
  by_cases h2 : n ≤ b
  ·simp [andx, h, h2]
  ·simp [andx, h2]
 ·rw [if_neg h]; simp [andx, h]
open Classical in
theorem find_idx {P : Nat → Prop} {n : Nat} : ((∀ j, j < n → P j) ∧ (List.range n).findSome? (fun i => if P i then none else some (i : Int)) = none) ∨ ((¬ ∀ j, j < n → P j) ∧ ∃ k : Int, 0 ≤ k ∧ (List.range n).findSome? (fun i => if P i then none else some (i : Int)) = some k) := by
 by_cases h : ∀ j, j < n → P j
 ·exact .inl ⟨h, find_none fun j hj => if_pos (h j hj)⟩
 ·refine .inr ⟨h, ?_⟩;cases hf : (List.range n).findSome? (fun i => if P i then none else some (i : Int)) with
  | none =>
   refine absurd (fun i hi => ?_) h
   have := of_find_none hf i hi
   by_cases hl : P i
   ·exact hl
   ·rw [if_neg hl] at this; cases this
  | some k =>
   obtain ⟨x, hx, hx'⟩ := List.exists_of_findSome?_eq_some hf;split at hx'
   ·cases hx'
   ·cases hx'; exact ⟨_, by omega, rfl⟩
def btw (lo hi x : Int) : Prop := lo ≤ x ∧ x ≤ hi
def btwAt (lo hi : Int) (l : List Int) (i : Nat) : Prop := ∀ x, l[i]? = some x → btw lo hi x
open Classical in
theorem s9_out_eq (lo hi : Int) (l : List Int) (hl : l.length ≤ 1000) : P_s9_out lo hi l = some (decide (¬ ∀ j, j < l.length → btwAt lo hi l j)) := by
 unfold P_s9_out;rw [iter_scanI (fun i => if btwAt lo hi l i then none else some (i : Int)) l.length, seqx_scan]
 ·rcases find_idx (P := btwAt lo hi l) (n := l.length) with ⟨h, e⟩ | ⟨h, k, hk, e⟩
  ·rw [e]
   have : ¬ ¬ ∀ j, j < l.length → btwAt lo hi l j := fun hn => hn h
   simp only [andx];rw [decide_eq_false this]; rfl
  ·rw [e];simp only [andx];rw [decide_eq_true h, decide_eq_true hk]
 ·intro k hk _;unfold P_s9_out_L1;obtain ⟨a, ha⟩ := get_some hk;rw [if_pos (by omega), el_at ha, chk_pos (i64_small (by omega))]
  have e : btwAt lo hi l k ↔ (lo ≤ a ∧ a ≤ hi) := by
   unfold btwAt; rw [ha]; exact ⟨fun h => h a rfl, fun h x hx => by cases hx; exact h⟩
  by_cases h1 : a < lo
  ·rw [if_pos h1, if_neg (fun h => by have := e.1 h; omega)]; rfl
  ·rw [if_neg h1]
   by_cases h2 : a > hi
   ·rw [decide_eq_true h2, if_neg (fun h => by have := e.1 h; omega)]; rfl
   ·rw [decide_eq_false h2, if_pos (e.2 (by omega))]; rfl
 ·intro _;unfold P_s9_out_L1;rw [if_neg (by omega)]
open Classical in
theorem s9_out1 (lo hi a : Int) : P_s9_out lo hi [a] = some (decide (¬ btw lo hi a)) := by
 rw [s9_out_eq _ _ _ (by simp)]
 congr 1
 refine decide_eq_decide.2 ?_;refine not_congr ⟨fun h => h 0 (by simp) a rfl, fun h j hj x hx => ?_⟩
 match j with
 | 0 => cases hx; exact h
open Classical in
theorem s9_out2 (lo hi a b : Int) : P_s9_out lo hi [a, b] = some (decide (¬ (btw lo hi a ∧ btw lo hi b))) := by
 rw [s9_out_eq _ _ _ (by simp)]
 congr 1
 refine decide_eq_decide.2 ?_;refine not_congr ⟨fun h => ⟨h 0 (by simp) a rfl, h 1 (by simp) b rfl⟩, fun h j hj x hx => ?_⟩
 match j with
 | 0 => cases hx; exact h.1
 | 1 => cases hx; exact h.2
theorem r1_Place_ok (l : List Str) (w : Str) (hl : l.length ≤ 1000) : Ok (P_r1_Place l w) fun r => (0 ≤ r ↔ w ∈ l) := by
 unfold P_r1_Place;refine .chk (i64_small (by omega)) ?_;refine Ok.andx (P := fun at_ : Int => (0 ≤ at_ ↔ w ∈ l) ∧ at_ < l.length) ?_ ?_
 ·refine Ok.iter (fun at_ : Int => (-1 ≤ at_ ∧ at_ < l.length) ∧ ∀ j : Nat, at_ < j → l[j]? ≠ some w) (fun at_ : Int => (at_ + 1).toNat) ⟨by omega, fun j hj hj' => ?_⟩ ?_
  ·have := (List.getElem?_eq_some_iff.1 hj').1;omega
  ·rintro at_ ⟨h1, h2⟩;unfold P_r1_Place_L1
   by_cases h3 : at_ ≥ 0
   ·rw [if_pos h3];obtain ⟨k, rfl⟩ := Int.eq_ofNat_of_zero_le h3;obtain ⟨a, ha⟩ := get_some (l := l) (k := k) (by omega);rw [el_at ha]
    by_cases h4 : a = w
    ·simp only [h4, not_true, decide_false, andx, seqx];refine .some ⟨⟨fun _ => h4 ▸ List.mem_of_getElem? ha, fun _ => h3⟩, h1.2⟩
    ·simp only [h4, not_false_iff, decide_true, andx, seqx, if_true];refine .chk (i64_small (by omega)) (.some ⟨⟨by omega, fun j hj => ?_⟩, by show ((k : Int) - 1 + 1).toNat < ((k : Int) + 1).toNat; omega⟩)
     by_cases hjk : j = k
     ·subst hjk; rw [ha]; exact fun e => h4 (by cases e; rfl)
     ·exact h2 j (by omega)
   ·rw [if_neg h3];simp only [andx, seqx];refine .some ⟨⟨fun h => absurd h h3, fun h => ?_⟩, h1.2⟩;obtain ⟨j, hj⟩ := List.getElem?_of_mem h;exact absurd hj (h2 j (by omega))
 ·rintro at_ ⟨h1, h2⟩;refine Ok.seqx ?_
  by_cases h0 : 0 ≤ at_
  ·refine Ok.count id at_.toNat (fun _ _ => True) rfl trivial ?_ ?_
   ·rintro k x hk hx _;simp only [id] at hx;subst hx;unfold P_r1_Place_L2;obtain ⟨a, ha⟩ := get_some (l := l) (k := k) (by omega);rw [if_pos (by omega), el_at ha];refine .ite (fun h => .some ?_) (fun h => .chk (i64_small (by omega)) (.some ⟨rfl, trivial⟩))
    show (0 ≤ (k : Int) ↔ w ∈ l);exact ⟨fun _ => h1.1 h0, fun _ => by omega⟩
   ·rintro x hx _;simp only [id] at hx;unfold P_r1_Place_L2;rw [if_neg (by omega)];exact .some (.some h1)
  ·refine Ok.count id 0 (fun _ _ => True) rfl trivial (fun k x hk => by omega) ?_;rintro x hx _;simp only [id] at hx;unfold P_r1_Place_L2;rw [if_neg (by omega)];exact .some (.some h1)
open Classical in
noncomputable def clErr (cl : List Str) (i : Nat) (a : Str) : Int := if isName a then (if a ∈ cl.take i then 5 else 0) else 6
open Classical in
theorem r1_Fresh_eq (w : Str) (cl : List Str) (i : Nat) (hl : cl.length ≤ 1000) : P_r1_Fresh w (cl.take i) = some (clErr cl i w) := by
 refine Ok.get ?_;unfold P_r1_Fresh;refine Ok.andx (P := fun e => e = if w ∈ cl.take i then 5 else 0) ((r1_Place_ok _ w (by rw [List.length_take]; omega)).andx fun r hr => ?_) ?_
 ·refine .ite (fun h => .some ?_) (fun h => .some ?_)
  ·rw [if_pos (hr.1 h)]
  ·rw [if_neg fun h' => h (hr.2 h')]
 ·rintro e he;rw [r1_Name_eq];unfold clErr;subst he
  by_cases h : isName w
  ·simp only [h, decide_true, andx, if_true]; exact .some rfl
  ·simp only [h, decide_false, andx, if_false, Bool.false_eq_true]; exact .some rfl
end Go.Am
end
section
namespace Go.Am
set_option linter.unusedVariables false
set_option linter.unusedSimpArgs false
def shOk (a : qD) : Prop := (btw 0 1000 a.away ∧ btw 0 1000 a.climb) ∧ (btw 1 2000 a.wide ∧ btw 1 2000 a.high)
open Classical in
noncomputable def shErr (a : qD) : Int := if shOk a then 0 else 7
open Classical in
noncomputable def mkErr (ncl : Nat) (c n : Int) (s : Str) : Int :=
 if btw 0 ((ncl : Int) - 1) c then (if btw 1 9999 n then (if s.length ≤ 2 then (if isLow s then 0 else 6) else 6) else 7) else 4
open Classical in
theorem r9_Mark_eq {cl : List Str} {sh : List qD} {bs : List qA} {c n : Int} {s : Str} (hl : cl.length ≤ 1000) : P_r9_Mark cl sh bs c n s = some (mkErr cl.length c n s) := by
 unfold P_r9_Mark;rw [chk_pos (i64_small (by omega)), r9_in_eq, r9_in_eq, andx_some'];unfold mkErr
 by_cases h1 : btw 0 ((cl.length : Int) - 1) c
 ·rw [if_pos h1, decide_eq_true (show _ ∧ _ from h1), if_pos rfl, andx_some']
  by_cases h2 : btw 1 9999 n
  ·rw [if_pos h2, decide_eq_true (show _ ∧ _ from h2), if_pos rfl]
   by_cases h3 : s.length ≤ 2
   ·rw [if_neg (by omega), r9_letters_eq s (by omega), if_pos h3]
    by_cases h4 : isLow s
    ·rw [if_pos h4, decide_eq_true h4]; rfl
    ·rw [if_neg h4, decide_eq_false h4]; rfl
   ·rw [if_pos (by omega), if_neg h3]; rfl
  ·rw [if_neg h2, decide_eq_false (show ¬ (_ ∧ _) from h2), if_neg (by decide)]
 ·rw [if_neg h1, decide_eq_false (show ¬ (_ ∧ _) from h1), if_neg (by decide)]
open Classical in
theorem s9_mark_eq {cl : List Str} {sh : List qD} {bs : List qA} {c n : Int} {s : Str} (hl : cl.length ≤ 1000) : P_s9_mark cl sh bs c n s = some (mkErr cl.length c n s) := by
 unfold P_s9_mark;rw [chk_pos (i64_small (by omega)), s9_out1, s9_out1, andx_some'];unfold mkErr
 by_cases h1 : btw 0 ((cl.length : Int) - 1) c
 ·rw [if_pos h1, decide_eq_false (not_not_intro h1), if_neg (by decide), andx_some']
  by_cases h2 : btw 1 9999 n
  ·rw [if_pos h2, decide_eq_false (not_not_intro h2), if_neg (by decide)]
   by_cases h3 : s.length ≤ 2
   ·rw [if_neg (by omega), if_pos h3];rw [iter_scan (fun k : Nat => k) (fun i => if lowerN (byteAt s i) then none else some 6) s.length (fun _ => rfl), seqx_scan, find_if]
    ·by_cases h : ∀ j, j < s.length → lowerN (byteAt s j)
     ·rw [if_pos h, if_pos (show isLow s from h)]
     ·rw [if_neg h, if_neg (show ¬ isLow s from h)]
    ·intro k hk hj;unfold P_s9_mark_L1;rw [if_pos hk]
     show _ = some (scanS (k + 1) _)
     have hb := byteAt_lt s (k : Int);unfold lowerN
     rcases rune_low hk with ⟨h1, h2⟩ | ⟨h1, h2⟩
     ·rw [h1, h2];generalize byteAt s (k : Int) = x
      by_cases a1 : x < 97
      ·rw [if_pos a1, if_neg (show ¬ (97 ≤ x ∧ x ≤ 122) by omega)]; rfl
      ·rw [if_neg a1]
       by_cases a2 : x > 122
       ·rw [if_neg (show ¬ (97 ≤ x ∧ x ≤ 122) by omega), decide_eq_true a2]; rfl
       ·rw [if_pos (show (97 ≤ x ∧ x ≤ 122) by omega), decide_eq_false a2]; rfl
     ·generalize byteAt s (k : Int) = x at *;generalize runeAt s k = y at *;rw [if_neg (show ¬ (97 ≤ x ∧ x ≤ 122) by omega), if_neg (show ¬ y < 97 by omega), decide_eq_true (show y > 122 by omega)]; rfl
    ·intro hj;unfold P_s9_mark_L1;rw [if_neg (by omega)]
   ·rw [if_pos (by omega), if_neg h3]
  ·rw [if_neg h2, decide_eq_true h2, if_pos rfl]
 ·rw [if_neg h1, decide_eq_true h1, if_pos rfl]
def sameMark (a : qA) (c n : Int) (s : Str) : Prop := a.qL = c ∧ a.qM = n ∧ a.qN = s
def twice (l : List qA) (c n : Int) (s : Str) : Prop := ∃ j, j < l.length ∧ ∃ a, l[j]? = some a ∧ sameMark a c n s
def bkRange (w h y : Int) : Prop := btw 1 2000 w ∧ btw 1 2000 h ∧ btw 1 100 y
open Classical in
noncomputable def bkErr1 (ncl : Nat) (c n : Int) (s : Str) (w h y : Int) (before : List qA) : Int :=
 if mkErr ncl c n s = 0 then (if bkRange w h y then (if twice before c n s then 5 else 0) else 7) else mkErr ncl c n s
open Classical in
theorem r9_Book_eq {cl : List Str} {sh : List qD} {bs : List qA} {c n : Int} {s : Str} {w h y p : Int} {before : List qA} (hl : cl.length ≤ 1000) (hb : before.length ≤ 1000) :
  P_r9_Book cl sh bs c n s w h y p before = some (bkErr1 cl.length c n s w h y before) := by
 refine Ok.get ?_;unfold P_r9_Book;rw [r9_Mark_eq hl, andx_some'];simp only [r9_in_eq];generalize he : mkErr cl.length c n s = e0;refine Ok.andx (P := fun e => e = if e0 = 0 then (if bkRange w h y then 0 else 7) else e0) ?_ ?_
 ·by_cases h0 : e0 = 0
  ·simp only [h0, if_true, andx]
   by_cases h1 : btw 1 2000 w
   ·have h1' : 1 ≤ w ∧ w ≤ 2000 := h1;simp only [h1', and_self, decide_true, if_true]
    by_cases h2 : btw 1 2000 h
    ·have h2' : 1 ≤ h ∧ h ≤ 2000 := h2;simp only [h2', and_self, decide_true, if_true]
     by_cases h3 : btw 1 100 y
     ·have h3' : 1 ≤ y ∧ y ≤ 100 := h3;simp only [h3', and_self, decide_true, Bool.not_true, Bool.false_eq_true, if_false];refine .some ?_;rw [if_pos (show bkRange w h y from ⟨h1, h2, h3⟩)]
     ·have h3' : ¬ (1 ≤ y ∧ y ≤ 100) := h3;simp only [h3', decide_false, Bool.not_false, if_true];refine .some ?_;rw [if_neg (show ¬ bkRange w h y from fun k => h3 k.2.2)]
    ·have h2' : ¬ (1 ≤ h ∧ h ≤ 2000) := h2;simp only [h2', decide_false, Bool.false_eq_true, if_false, if_true];refine .some ?_;rw [if_neg (show ¬ bkRange w h y from fun k => h2 k.2.1)]
   ·have h1' : ¬ (1 ≤ w ∧ w ≤ 2000) := h1;simp only [h1', decide_false, Bool.false_eq_true, if_false, if_true];refine .some ?_;rw [if_neg (show ¬ bkRange w h y from fun k => h1 k.1)]
  ·simp only [h0, if_false, andx, Bool.false_eq_true];exact .some rfl
 ·rintro e hee;refine Ok.andx (P := fun r => r = bkErr1 cl.length c n s w h y before) ?_ (fun r hr => .some hr)
  have fin : bkErr1 cl.length c n s w h y before = if e = 0 then (if twice before c n s then 5 else 0) else e := by
   unfold bkErr1;rw [he]
   by_cases h0 : e0 = 0
   ·rw [if_pos h0]
    by_cases h1 : bkRange w h y
    ·rw [if_pos h1, hee, if_pos h0, if_pos h1, if_pos rfl]
    ·rw [if_neg h1, hee, if_pos h0, if_neg h1]; rfl
   ·rw [if_neg h0, hee, if_neg h0, if_neg h0]
  rw [fin];refine Ok.iter (fun (x : Int × Int) => 0 ≤ x.2 ∧ x.2 ≤ before.length ∧ ((x.1 = e ∧ (e ≠ 0 ∨ ∀ j : Nat, j < x.2 → ∀ a, before[j]? = some a → ¬ sameMark a c n s)) ∨ (e = 0 ∧ x.1 = 5 ∧ twice before c n s))) (fun x => (before.length - x.2).toNat) ⟨by simp, by simp, .inl ⟨rfl, .inr fun j hj => by simp at hj; omega⟩⟩ ?_;rintro ⟨e2, i⟩ ⟨h1, h2, h3⟩;obtain ⟨k, hk⟩ := Int.eq_ofNat_of_zero_le h1;simp only at hk h1 h2 h3;subst hk;unfold P_r9_Book_L1
  show Ok (seqx _ _) _;refine Ok.seqx ?_
  by_cases hlt : (k : Int) < before.length
  ·rw [if_pos hlt]
   by_cases he2 : e2 = 0
   ·rw [decide_eq_true he2];refine .some ?_
    show Ok (andx _ _) _;obtain ⟨a, ha⟩ := get_some (l := before) (k := k) (by omega);refine Ok.andx (P := fun e3 => (sameMark a c n s ∧ e3 = 5) ∨ (¬ sameMark a c n s ∧ e3 = e2)) ?_ ?_
    ·rw [el_at ha];exact .ite (fun h => .some (.inl ⟨h, rfl⟩)) (fun h => .some (.inr ⟨h, rfl⟩))
    ·rintro e3 h4;refine .chk (i64_small (by omega)) (.some ⟨⟨by show (0:Int) ≤ (k : Int) + 1; omega, by show (k : Int) + 1 ≤ _; omega, ?_⟩, by show ((before.length : Int) - ((k : Int) + 1)).toNat < ((before.length : Int) - (k : Int)).toNat; omega⟩)
     rcases h3 with ⟨h5, h6⟩ | ⟨h5, h6, h7⟩
     ·have e00 : e = 0 := h5.symm.trans he2
      rcases h4 with ⟨h8, h9⟩ | ⟨h8, h9⟩
      ·exact .inr ⟨e00, h9, k, by omega, a, ha, h8⟩
      ·refine .inl ⟨h9.trans h5, .inr fun j hj a' ha' => ?_⟩
       by_cases hjk : j = k
       ·subst hjk; rw [ha] at ha'; cases ha'; exact h8
       ·rcases h6 with h6 | h6
        ·exact absurd e00 h6
        ·exact h6 j (by simp only at hj; omega) a' ha'
     ·exact absurd (h6.symm.trans he2) (by decide)
   ·rw [decide_eq_false he2];refine .some ?_
    show e2 = _
    rcases h3 with ⟨h5, h6⟩ | ⟨h5, h6, h7⟩
    ·rw [if_neg (fun h => he2 (h5.trans h)), h5]
    ·rw [if_pos h5, if_pos h7, h6]
  ·rw [if_neg hlt];refine .some ?_
   show e2 = _
   rcases h3 with ⟨h5, h6⟩ | ⟨h5, h6, h7⟩
   ·by_cases he0 : e = 0
    ·rw [if_pos he0, if_neg, h5, he0];rintro ⟨j, hj, a, ha, hs⟩
     rcases h6 with h6 | h6
     ·exact h6 he0
     ·exact h6 j (by omega) a ha hs
    ·rw [if_neg he0, h5]
   ·rw [if_pos h5, if_pos h7, h6]
def bookHit (l : List qA) (c n : Int) (s : Str) (i : Nat) : Prop := ∃ a, l[i]? = some a ∧ sameMark a c n s
def bookMiss (l : List qA) (c n : Int) (s : Str) (i : Nat) : Prop := ¬ bookHit l c n s i
open Classical in
theorem s9_book_eq {cl : List Str} {sh : List qD} {bs : List qA} {c n : Int} {s : Str} {w h y p : Int} {before : List qA} (hl : cl.length ≤ 1000) (hb : before.length ≤ 1000) :
  P_s9_book cl sh bs c n s w h y p before = some (bkErr1 cl.length c n s w h y before) := by
 unfold P_s9_book;rw [s9_mark_eq hl, andx_some'];unfold bkErr1
 by_cases h0 : mkErr cl.length c n s = 0
 ·rw [if_pos h0, if_neg (not_not_intro h0), s9_out2, s9_out1, andx_some', andx_some']
  by_cases h1 : btw 1 2000 w ∧ btw 1 2000 h
  ·rw [decide_eq_false (not_not_intro h1), if_neg (by decide), andx_some']
   by_cases h2 : btw 1 100 y
   ·rw [decide_eq_false (not_not_intro h2), if_neg (by decide), if_pos (show bkRange w h y from ⟨h1.1, h1.2, h2⟩)];rw [iter_scanI (fun i => if bookMiss before c n s i then none else some (i : Int)) before.length, seqx_scan]
    ·rcases find_idx (P := bookMiss before c n s) (n := before.length) with ⟨h, e⟩ | ⟨h, k, hk, e⟩
     ·rw [e, if_neg (show ¬ twice before c n s from fun ⟨j, hj, a, ha, hs⟩ => h j hj ⟨a, ha, hs⟩)];rfl
     ·rw [e, if_pos (show twice before c n s from ?_)]
      ·show seqx (if k ≥ 0 then _ else _) _ = _;rw [if_pos (by omega)]; rfl
      ·refine Classical.byContradiction fun hn => h fun j hj ⟨a, ha, hs⟩ => hn ⟨j, hj, a, ha, hs⟩
    ·intro k hk _;unfold P_s9_book_L1;obtain ⟨a, ha⟩ := get_some hk;rw [if_pos (by omega), el_at ha, chk_pos (i64_small (by omega))]
     by_cases hs : sameMark a c n s
     ·rw [if_pos (show _ ∧ _ from hs), if_neg (show ¬ bookMiss before c n s k from not_not_intro ⟨a, ha, hs⟩)]; rfl
     ·rw [if_neg (show ¬ (_ ∧ _) from hs), if_pos (show bookMiss before c n s k from fun ⟨a', ha', hs'⟩ => by rw [ha] at ha'; cases ha'; exact hs hs')]; rfl
    ·intro _;unfold P_s9_book_L1;rw [if_neg (by omega)]
   ·rw [decide_eq_true h2, if_pos rfl, if_neg (show ¬ bkRange w h y from fun k => h2 k.2.2)]; rfl
  ·rw [decide_eq_true h1, if_pos rfl, andx_some', if_pos rfl, if_neg (show ¬ bkRange w h y from fun k => h1 ⟨k.1, k.2.1⟩)]; rfl
 ·rw [if_neg h0, if_pos h0]
end Go.Am
end
section
namespace Go.Am
set_option linter.unusedVariables false
set_option linter.unusedSimpArgs false
noncomputable def errAt {α : Type} (l : List α) (g : Nat → α → Int) (i : Nat) : Int := match l[i]? with | some a => g i a | none => 0
theorem errAt_of {α : Type} {l : List α} {g : Nat → α → Int} {i : Nat} {a : α} (h : l[i]? = some a) : errAt l g i = g i a := by unfold errAt; rw [h]
noncomputable def errF (f : Nat → Int) (i : Nat) : Option (Int × Int) := if f i = 0 then none else some ((i : Int), f i)
noncomputable def errG (c : Int) (f : Nat → Int) (i : Nat) : Option (Int × Int × Int) := if f i = 0 then none else some (c, (i : Int), f i)
noncomputable def firstE (f : Nat → Int) (n : Nat) : Option (Int × Int) := (List.range n).findSome? (errF f)
theorem first_fail {f : Nat → Int} : ∀ n : Nat, (∀ j, j < n → f j = 0) ∨ ∃ k, k < n ∧ f k ≠ 0 ∧ ∀ j, j < k → f j = 0 := by
 intro n
 induction n with
 | zero => exact .inl fun j hj => by omega
 | succ n ih =>
  rcases ih with h | ⟨k, h1, h2, h3⟩
  ·by_cases hn : f n = 0
   ·exact .inl fun j hj => by
     by_cases e : j = n
     ·rw [e]; exact hn
     ·exact h j (by omega)
   ·exact .inr ⟨n, by omega, hn, h⟩
  ·exact .inr ⟨k, by omega, h2, h3⟩
theorem firstE_cases (f : Nat → Int) (n : Nat) : (firstE f n = none ∧ (∀ c, (List.range n).findSome? (errG c f) = none) ∧ ∀ j, j < n → f j = 0) ∨
  ∃ k, k < n ∧ f k ≠ 0 ∧ firstE f n = some ((k : Int), f k) ∧ (∀ c, (List.range n).findSome? (errG c f) = some (c, (k : Int), f k)) := by
 rcases first_fail (f := f) n with h | ⟨k, h1, h2, h3⟩
 ·exact .inl ⟨find_none fun j hj => if_pos (h j hj), fun c => find_none fun j hj => if_pos (h j hj), h⟩
 ·exact .inr ⟨k, h1, h2, find_range h1 (fun j hj => if_pos (h3 j hj)) (if_neg h2), fun c => find_range h1 (fun j hj => if_pos (h3 j hj)) (if_neg h2)⟩
theorem loopR {c : Int} {f : Nat → Int} {n : Nat} {k : Unit → Option (Int × Int × Int)} : seqx (some (scanX (errG c f) n)) k = match firstE f n with | some p => some (c, p.1, p.2) | none => k () := by
 rw [seqx_scan]
 rcases firstE_cases f n with ⟨h1, h2, h3⟩ | ⟨i, h1, h2, h3, h4⟩
 ·rw [h1, h2 c]
 ·rw [h3, h4 c]
theorem loopS {c : Int} {f : Nat → Int} {n : Nat} {k : Option (Int × Int × Int)} {K : Int × Int → Option (Int × Int × Int)} (hK : ∀ p, K p = if ¬ p.2 = 0 then some (c, p.1, p.2) else k) :
  andx (seqx (some (scanX (errF f) n)) fun _ => some (0, 0)) K = match firstE f n with | some p => some (c, p.1, p.2) | none => k := by
 rw [seqx_scan]
 rcases firstE_cases f n with ⟨h1, h2, h3⟩ | ⟨i, h1, h2, h3, h4⟩
 ·rw [h1, show (List.range n).findSome? (errF f) = none from h1]
  show K (0, 0) = k;rw [hK, if_neg (not_not_intro rfl)]
 ·rw [h3, show (List.range n).findSome? (errF f) = _ from h3]
  show K _ = _;rw [hK, if_pos h2]
theorem body_err {A : Type} {e : Int} {v : A} {k : Nat} (hk : k ≤ 1000) : (if ¬ e = 0 then some (Stp.dn (Ex.rt v)) else chk (I64 ((k : Int) + 1)) (some (Stp.ag ((k : Int) + 1)))) = some (scanS ((k : Int) + 1) (if e = 0 then (none : Option A) else some v)) := by
 rw [chk_pos (i64_small (by omega))]
 by_cases h : e = 0
 ·rw [if_neg (not_not_intro h), if_pos h]; rfl
 ·rw [if_pos h, if_neg h]; rfl
theorem take_sub {α : Type} (l : List α) (k : Nat) : List.take ((k : Int) - (0 : Int)).toNat (List.drop ((0 : Int) : Int).toNat l) = l.take k := by
 simp
theorem r9_L1_eq {cl : List Str} (hl : cl.length ≤ 1000) : iter (P_r9_Check_L1 cl) 0 = some (scanX (errG 1 (errAt cl (clErr cl))) cl.length) := by
 refine iter_scanI _ _ (fun k hk _ => ?_) (fun _ => ?_)
 ·unfold P_r9_Check_L1;obtain ⟨a, ha⟩ := get_some hk;rw [if_pos (by omega), el_at ha, chk_pos (by omega), take_sub, r1_Fresh_eq _ _ _ hl, andx_some', body_err (by omega)];unfold errG;rw [errAt_of ha]
 ·unfold P_r9_Check_L1;rw [if_neg (by omega)]
def clHit (l : List Str) (w : Str) (i : Nat) : Prop := ∃ a, l[i]? = some a ∧ w = a
def clMiss (l : List Str) (w : Str) (i : Nat) : Prop := ¬ clHit l w i
open Classical in
theorem s9_L2_eq {cl : List Str} {k : Nat} {w : Str} (hl : cl.length ≤ 1000) : iter (P_s9_Check_L2 cl (k : Int) w) 0 = some (scanX (fun i => if clMiss (cl.take k) w i then none else some (i : Int)) (cl.take k).length) := by
 have hle : (cl.take k).length ≤ 1000 := by rw [List.length_take]; omega
 refine iter_scanI _ _ (fun j hj _ => ?_) (fun _ => ?_)
 ·unfold P_s9_Check_L2;rw [take_sub];obtain ⟨a, ha⟩ := get_some hj;rw [if_pos (by omega), el_at ha, chk_pos (i64_small (by omega))]
  by_cases h : w = a
  ·rw [if_pos h, if_neg (show ¬ clMiss _ _ _ from not_not_intro ⟨a, ha, h⟩)]; rfl
  ·rw [if_neg h, if_pos (show clMiss _ _ _ from fun ⟨a', ha', hs'⟩ => by rw [ha] at ha'; cases ha'; exact h hs')]; rfl
 ·unfold P_s9_Check_L2;rw [take_sub, if_neg (by omega)]
open Classical in
theorem s9_L1_eq {cl : List Str} (hl : cl.length ≤ 1000) : iter (P_s9_Check_L1 cl) 0 = some (scanX (errF (errAt cl (clErr cl))) cl.length) := by
 refine iter_scanI _ _ (fun k hk _ => ?_) (fun _ => ?_)
 ·unfold P_s9_Check_L1;obtain ⟨a, ha⟩ := get_some hk;rw [if_pos (by omega), el_at ha]
  have e : (andx (P_q_Name a) fun y8 => if y8 = true then chk (0 ≤ (0 : Int) ∧ (0 : Int) ≤ (k : Int) ∧ (k : Int) ≤ (cl.length : Int)) (andx (seqx (iter (P_s9_Check_L2 cl (k : Int) a) 0) fun _ => some (-1)) fun y7 => if y7 ≥ 0 then some 5 else some 0) else some 6) = some (clErr cl k a) := by
   rw [q_Name_eq, andx_some'];unfold clErr
   by_cases hn : isName a
   ·rw [decide_eq_true hn, if_pos rfl, if_pos hn, chk_pos (by omega), s9_L2_eq hl, seqx_scan]
    rcases find_idx (P := clMiss (cl.take k) a) (n := (cl.take k).length) with ⟨h, e⟩ | ⟨h, i, hi, e⟩
    ·rw [e, if_neg]
     ·rfl
     ·intro hm;obtain ⟨j, hj⟩ := List.getElem?_of_mem hm;exact h j (List.getElem?_eq_some_iff.1 hj).1 ⟨a, hj, rfl⟩
    ·rw [e, if_pos]
     ·show (if i ≥ 0 then _ else _) = _;rw [if_pos (by omega)]
     ·refine Classical.byContradiction fun hn => h fun j hj ⟨a', ha', hs⟩ => hn ?_
      rw [hs];exact List.mem_of_getElem? ha'
   ·rw [decide_eq_false hn, if_neg (by decide), if_neg hn]
  rw [e, andx_some', body_err (by omega)];unfold errF;rw [errAt_of ha]
 ·unfold P_s9_Check_L1;rw [if_neg (by omega)]
open Classical in
theorem r9_L2_eq {sh : List qD} (hl : sh.length ≤ 1000) : iter (P_r9_Check_L2 sh) 0 = some (scanX (errG 2 (errAt sh fun _ => shErr)) sh.length) := by
 refine iter_scanI _ _ (fun k hk _ => ?_) (fun _ => ?_)
 ·unfold P_r9_Check_L2;obtain ⟨a, ha⟩ := get_some hk;rw [if_pos (by omega), el_at ha, chk_pos (i64_small (by omega))];simp only [r9_in_eq];unfold errG;rw [errAt_of ha];unfold shErr
  by_cases h1 : 0 ≤ a.away ∧ a.away ≤ 1000
  ·by_cases h2 : 0 ≤ a.climb ∧ a.climb ≤ 1000
   ·by_cases h3 : 1 ≤ a.wide ∧ a.wide ≤ 2000
    ·by_cases h4 : 1 ≤ a.high ∧ a.high ≤ 2000
     ·rw [if_pos (show shOk a from ⟨⟨h1, h2⟩, h3, h4⟩)];simp [andx, seqx, scanS, h1, h2, h3, h4]
     ·rw [if_neg (show ¬ shOk a from fun h => h4 h.2.2)];simp only [andx, seqx, scanS, decide_eq_true h1, decide_eq_true h2, decide_eq_true h3, decide_eq_false h4]; rfl
    ·rw [if_neg (show ¬ shOk a from fun h => h3 h.2.1)];simp only [andx, seqx, scanS, decide_eq_true h1, decide_eq_true h2, decide_eq_false h3]; rfl
   ·rw [if_neg (show ¬ shOk a from fun h => h2 h.1.2)];simp only [andx, seqx, scanS, decide_eq_true h1, decide_eq_false h2]; rfl
  ·rw [if_neg (show ¬ shOk a from fun h => h1 h.1.1)];simp only [andx, seqx, scanS, decide_eq_false h1]; rfl
 ·unfold P_r9_Check_L2;rw [if_neg (by omega)]
open Classical in
theorem s9_L3_eq {sh : List qD} (hl : sh.length ≤ 1000) : iter (P_s9_Check_L3 sh) 0 = some (scanX (errF (errAt sh fun _ => shErr)) sh.length) := by
 refine iter_scanI _ _ (fun k hk _ => ?_) (fun _ => ?_)
 ·unfold P_s9_Check_L3;obtain ⟨a, ha⟩ := get_some hk;rw [if_pos (by omega), el_at ha];simp only [s9_out2, andx_some'];rw [show (seqx (andx (if decide (¬ (btw 0 1000 a.away ∧ btw 0 1000 a.climb)) = true then some true else some (decide (¬ (btw 1 2000 a.wide ∧ btw 1 2000 a.high)))) fun x18 => if x18 = true then some (Ex.rt 7) else some (Ex.nx ())) fun _ => some 0) = some (shErr a) from ?_, andx_some', body_err (by omega)]
  ·unfold errF;rw [errAt_of ha]
  ·unfold shErr
   by_cases h1 : btw 0 1000 a.away ∧ btw 0 1000 a.climb
   ·rw [decide_eq_false (not_not_intro h1), if_neg (by decide)]
    by_cases h2 : btw 1 2000 a.wide ∧ btw 1 2000 a.high
    ·rw [decide_eq_false (not_not_intro h2), if_pos (show shOk a from ⟨h1, h2⟩)]; rfl
    ·rw [decide_eq_true h2, if_neg (show ¬ shOk a from fun h => h2 h.2)]; rfl
   ·rw [decide_eq_true h1, if_pos rfl, if_neg (show ¬ shOk a from fun h => h1 h.1)]; rfl
 ·unfold P_s9_Check_L3;rw [if_neg (by omega)]
def below (bs : List qA) (i : Nat) (b : qA) : Prop := 0 < i ∧ ∃ c, bs[i - 1]? = some c ∧ b.shelf < c.shelf
noncomputable def bkE0 (ncl : Nat) (bs : List qA) (i : Nat) (b : qA) : Int := bkErr1 ncl b.qL b.qM b.qN b.wide b.high b.heavy (bs.take i)
open Classical in
noncomputable def bkErr (ncl nsh : Nat) (bs : List qA) (i : Nat) (b : qA) : Int :=
 if bkE0 ncl bs i b = 0 then (if btw 0 ((nsh : Int) - 1) b.shelf then (if below bs i b then 2 else 0) else 4) else bkE0 ncl bs i b
open Classical in
theorem below_eq {bs : List qA} {k : Nat} {b : qA} (hl : bs.length ≤ 1000) (hk : k < bs.length) :
  (if (k : Int) > 0 then chk (I64 ((k : Int) - 1)) (el bs ((k : Int) - 1) fun a => some (decide (b.shelf < a.shelf))) else some false) = some (decide (below bs k b)) := by
 by_cases h : (k : Int) > 0
 ·rw [if_pos h, chk_pos (i64_small (by omega))];obtain ⟨a, ha⟩ := get_some (l := bs) (k := k - 1) (by omega)
  have e : (k : Int) - 1 = ((k - 1 : Nat) : Int) := by omega
  rw [e, el_at ha]
  congr 1
  refine decide_eq_decide.2 ⟨fun h' => ⟨by omega, a, ha, h'⟩, fun ⟨_, c, hc, h'⟩ => by rw [ha] at hc; cases hc; exact h'⟩
 ·rw [if_neg h, decide_eq_false];exact fun h' => h (by have := h'.1; omega)
open Classical in
theorem r9_L3_eq {cl : List Str} {sh : List qD} {bs : List qA} (hc : cl.length ≤ 1000) (hs : sh.length ≤ 1000) (hl : bs.length ≤ 1000) :
  iter (P_r9_Check_L3 cl sh bs) 0 = some (scanX (errG 3 (errAt bs (bkErr cl.length sh.length bs))) bs.length) := by
 refine iter_scanI _ _ (fun k hk _ => ?_) (fun _ => ?_)
 ·unfold P_r9_Check_L3;obtain ⟨b, hb⟩ := get_some hk;rw [if_pos (by omega), el_at hb, chk_pos (by omega), take_sub, r9_Book_eq hc (by rw [List.length_take]; omega), andx_some', chk_pos (show I64 ((sh.length : Int) - 1) from i64_small (by omega)), chk_pos (show I64 ((k : Int) + 1) from i64_small (by omega))];rw [below_eq hl hk];unfold errG;rw [errAt_of hb];unfold bkErr
  change _ = some (scanS _ _)
  rw [show bkErr1 cl.length b.qL b.qM b.qN b.wide b.high b.heavy (bs.take k) = bkE0 cl.length bs k b from rfl];simp only [r9_in_eq];generalize bkE0 cl.length bs k b = e0
  by_cases h0 : e0 = 0
  ·subst h0
   by_cases h1 : btw 0 ((sh.length : Int) - 1) b.shelf
   ·have h1' : 0 ≤ b.shelf ∧ b.shelf ≤ (sh.length : Int) - 1 := h1
    by_cases h2 : below bs k b
    ·simp only [h1, h1', h2, if_true, andx, seqx, decide_true, Bool.not_true, Bool.false_eq_true, if_false, scanS, and_self]; rfl
    ·simp only [h1, h1', h2, if_true, andx, seqx, decide_true, decide_false, Bool.not_true, Bool.false_eq_true, if_false, scanS, and_self]; rfl
   ·have h1' : ¬ (0 ≤ b.shelf ∧ b.shelf ≤ (sh.length : Int) - 1) := h1;simp only [h1, h1', if_true, andx, seqx, decide_false, Bool.not_false, Bool.false_eq_true, if_false, scanS]; rfl
  ·simp only [h0, if_false, andx, seqx, Bool.false_eq_true, not_false_iff, if_true, scanS]
 ·unfold P_r9_Check_L3;rw [if_neg (by omega)]
open Classical in
theorem s9_L4_eq {cl : List Str} {sh : List qD} {bs : List qA} (hc : cl.length ≤ 1000) (hs : sh.length ≤ 1000) (hl : bs.length ≤ 1000) :
  iter (P_s9_Check_L4 cl sh bs) 0 = some (scanX (errF (errAt bs (bkErr cl.length sh.length bs))) bs.length) := by
 refine iter_scanI _ _ (fun k hk _ => ?_) (fun _ => ?_)
 ·unfold P_s9_Check_L4;obtain ⟨b, hb⟩ := get_some hk;rw [if_pos (by omega), el_at hb, chk_pos (by omega), take_sub, s9_book_eq hc (by rw [List.length_take]; omega), andx_some', chk_pos (i64_small (by omega)), s9_out1, andx_some'];rw [below_eq hl hk]
  have e : (seqx (if ¬ bkE0 cl.length bs k b = 0 then some (Ex.rt (bkE0 cl.length bs k b)) else if decide (¬ btw 0 ((sh.length : Int) - 1) b.shelf) = true then some (Ex.rt 4) else andx (some (decide (below bs k b))) fun x28 => if x28 = true then some (Ex.rt 2) else some (Ex.nx ())) fun (_ : Unit) => some 0) = some (bkErr cl.length sh.length bs k b) := by
   unfold bkErr;generalize bkE0 cl.length bs k b = e0
   by_cases h0 : e0 = 0
   ·rw [if_neg (not_not_intro h0), if_pos h0]
    by_cases h1 : btw 0 ((sh.length : Int) - 1) b.shelf
    ·rw [decide_eq_false (not_not_intro h1), if_neg (by decide), if_pos h1]
     by_cases h2 : below bs k b
     ·rw [decide_eq_true h2, if_pos h2]; rfl
     ·rw [decide_eq_false h2, if_neg h2]; rfl
    ·rw [decide_eq_true h1, if_pos rfl, if_neg h1]; rfl
   ·rw [if_pos h0, if_neg h0]; rfl
  refine (congrArg (fun z => andx z _) e).trans ?_;rw [andx_some', body_err (by omega)];unfold errF;rw [errAt_of hb]
 ·unfold P_s9_Check_L4;rw [if_neg (by omega)]
end Go.Am
end
section
namespace Go.Am
set_option linter.unusedVariables false
set_option linter.unusedSimpArgs false
def wideOn (i : Int) : List qA → Int
 | [] => 0
 | b :: r => (if b.shelf = i then b.wide else 0) + wideOn i r
theorem wideOn_append (i : Int) (l r : List qA) : wideOn i (l ++ r) = wideOn i l + wideOn i r := by
 induction l with
 | nil => simp [wideOn]
 | cons b l ih => simp [wideOn, ih]; omega
def Wides (l : List qA) : Prop := ∀ b ∈ l, 1 ≤ b.wide ∧ b.wide ≤ 2000
theorem wideOn_nonneg {i : Int} {l : List qA} (h : Wides l) : 0 ≤ wideOn i l ∧ wideOn i l ≤ 2000 * l.length := by
 induction l with
 | nil => simp [wideOn]
 | cons b l ih =>
  have h1 := ih fun c hc => h c (by simp [hc])
  have h2 := h b (by simp);simp only [wideOn, List.length_cons];split <;> omega
theorem take_step {α : Type} {l : List α} {k : Nat} {a : α} (h : l[k]? = some a) : l.take (k + 1) = l.take k ++ [a] := by rw [List.take_add_one, h]; rfl
theorem wideOn_step {i : Int} {l : List qA} {k : Nat} {b : qA} (h : l[k]? = some b) : wideOn i (l.take (k + 1)) = wideOn i (l.take k) + (if b.shelf = i then b.wide else 0) := by
 rw [take_step h, wideOn_append];simp [wideOn]
theorem wideOn_le {i : Int} {l : List qA} (h : Wides l) (k : Nat) : wideOn i (l.take k) ≤ wideOn i l := by
 have e : wideOn i l = wideOn i (l.take k) + wideOn i (l.drop k) := by rw [← wideOn_append, List.take_append_drop]
 have := (wideOn_nonneg (i := i) (l := l.drop k) fun b hb => h b (List.mem_of_mem_drop hb)).1;omega
theorem wideOn_take {i : Int} {l : List qA} (h : Wides l) (k : Nat) : 0 ≤ wideOn i (l.take k) ∧ wideOn i (l.take k) ≤ 2000 * l.length := by
 have h1 := wideOn_nonneg (i := i) (l := l.take k) fun b hb => h b (List.mem_of_mem_take hb)
 have h2 := wideOn_le (i := i) h k
 have h3 := (wideOn_nonneg (i := i) h).2;omega
def lowOn (i : Int) (high : Int) (l : List qA) : Prop := ∀ b ∈ l, b.shelf = i → b.high ≤ high
def fits (bs : List qA) (i : Nat) (a : qD) : Prop := lowOn i a.high bs ∧ wideOn i bs ≤ a.wide
open Classical in
noncomputable def fitErr (bs : List qA) (i : Nat) (a : qD) : Int := if fits bs i a then 0 else 9
theorem lowOn_step {i high : Int} {l : List qA} {k : Nat} {b : qA} (h : l[k]? = some b) (h1 : lowOn i high (l.take k)) (h2 : b.shelf = i → b.high ≤ high) : lowOn i high (l.take (k + 1)) := by
 rw [take_step h];intro c hc hs
 rcases List.mem_append.1 hc with hc | hc
 ·exact h1 c hc hs
 ·rw [List.mem_singleton] at hc; subst hc; exact h2 hs
theorem r9_Own_eq {bs : List qA} (hl : bs.length ≤ 1000) : P_r9_Own bs = some (bs.map (·.shelf)) := by
 refine Ok.get ?_;unfold P_r9_Own;refine Ok.andx (P := fun r => r = bs.map (·.shelf)) ?_ (fun r hr => .some hr);refine Ok.count (fun (x : Int × List Int) => x.1) bs.length (fun k x => x.2 = (bs.take k).map (·.shelf)) rfl rfl ?_ ?_
 ·rintro k ⟨i, out⟩ hk hx hI;simp only at hx hI;subst hx;unfold P_r9_Own_L1;obtain ⟨b, hb⟩ := get_some hk
  show Ok (if _ then _ else _) _;rw [if_pos (by omega), el_at hb];refine .chk ?_ (.chk (i64_small (by omega)) (.some ⟨rfl, ?_⟩))
  ·rw [hI, List.length_map, List.length_take]; simp; omega
  ·show out ++ [b.shelf] = _;rw [take_step hb, List.map_append, hI]; rfl
 ·rintro ⟨i, out⟩ hx hI;simp only at hx hI;subst hx;unfold P_r9_Own_L1
  show Ok (if _ then _ else _) _;rw [if_neg (by omega)];refine .some ?_
  show out = _;rw [hI, List.take_length]
open Classical in
theorem r9_fit_eq {cl : List Str} {sh : List qD} {bs : List qA} {i : Nat} {a : qD} (ha : sh[i]? = some a) (hw : 0 ≤ a.wide) (hb : Wides bs) (hl : bs.length ≤ 1000) :
  P_r9_fit cl sh bs bs (bs.map (·.shelf)) (i : Int) = some (decide (fits bs i a)) := by
 refine Ok.get ?_;unfold P_r9_fit;rw [el_at ha];refine Ok.andx (P := fun y => (0 ≤ y ∧ lowOn i a.high bs ∧ y = wideOn i bs) ∨ (y < 0 ∧ ¬ lowOn i a.high bs)) ?_ ?_
 ·unfold P_r9_Filled;refine Ok.seqx ?_;refine Ok.count (fun (x : Int × Int) => x.2) bs.length (fun k x => x.1 = wideOn i (bs.take k) ∧ lowOn i a.high (bs.take k)) rfl ⟨rfl, fun b hb => by simp at hb⟩ ?_ ?_
  ·rintro k ⟨n, j⟩ hk hx ⟨h1, h2⟩;simp only at hx h1 h2;subst hx;obtain ⟨b, hbk⟩ := get_some hk
   have hm : (bs.map (·.shelf))[k]? = some b.shelf := by rw [List.getElem?_map, hbk]; rfl
   unfold P_r9_Filled_L1
   show Ok (if _ then _ else _) _
   have hk1 := wideOn_take (i := i) hb k
   have hk2 := wideOn_take (i := i) hb (k + 1)
   have hst := wideOn_step (i := i) hbk;rw [if_pos (by omega)];refine Ok.seqx ?_;rw [el_at hm]
   by_cases hs : b.shelf = i
   ·rw [if_pos hs] at hst;rw [if_neg (not_not_intro hs), el_at hbk, el_at ha, el_at hbk]
    by_cases hh : b.high > a.high
    ·rw [if_pos hh];refine .some ?_
     show _ ∨ _;refine .inr ⟨by omega, fun h => ?_⟩
     have := h b (List.mem_of_getElem? hbk) hs;omega
    ·rw [if_neg hh];refine .chk (i64_small (by omega)) (.some (.chk (i64_small (by omega)) (.some ⟨rfl, ?_, lowOn_step hbk h2 fun _ => by omega⟩)))
     show n + b.wide = _;omega
   ·rw [if_neg hs] at hst;rw [if_pos hs];refine .some (.chk (i64_small (by omega)) (.some ⟨rfl, ?_, lowOn_step hbk h2 fun h => absurd h hs⟩))
    show n = _;omega
  ·rintro ⟨n, j⟩ hx ⟨h1, h2⟩;simp only at hx h1 h2;subst hx;unfold P_r9_Filled_L1
   show Ok (if _ then _ else _) _;rw [if_neg (by omega)];rw [List.take_length] at h1 h2;refine .some (.some (.inl ⟨?_, h2, h1⟩));rw [h1];exact (wideOn_nonneg hb).1
 ·rintro y hy;rw [r9_in_eq, andx_some'];refine .some ?_;refine decide_eq_decide.2 ?_
  rcases hy with ⟨h0, h1, h2⟩ | ⟨h1, h2⟩
  ·subst h2;exact ⟨fun h => ⟨h1, h.2⟩, fun h => ⟨h0, h.2⟩⟩
  ·exact ⟨fun h => by omega, fun h => absurd h.1 h2⟩
open Classical in
theorem s9_L6_eq {sh : List qD} {bs : List qA} {i : Nat} {a : qD} (hw : 0 ≤ a.wide ∧ a.wide ≤ 2000) (hb : Wides bs) (hl : bs.length ≤ 1000) :
  (seqx (iter (P_s9_Check_L6 bs (i : Int) a) (0, a.wide)) fun s_Wide => some 0) = some (fitErr bs i a) := by
 refine Ok.get ?_;refine Ok.seqx ?_;refine Ok.count (fun (x : Int × Int) => x.1) bs.length (fun k x => x.2 = a.wide - wideOn i (bs.take k) ∧ 0 ≤ x.2 ∧ lowOn i a.high (bs.take k)) rfl ⟨?_, hw.1, fun b hb => by simp at hb⟩ ?_ ?_
 ·show a.wide = a.wide - 0; omega
 ·rintro k ⟨j, n⟩ hk hx ⟨h1, h0, h2⟩;simp only at hx h1 h2 h0;subst hx;obtain ⟨b, hbk⟩ := get_some hk;unfold P_s9_Check_L6
  show Ok (if _ then _ else _) _
  have hk1 := wideOn_take (i := i) hb k
  have hk2 := wideOn_take (i := i) hb (k + 1)
  have hle := wideOn_le (i := i) hb (k + 1)
  have hst := wideOn_step (i := i) hbk
  have hbw := hb b (List.mem_of_getElem? hbk);rw [if_pos (by omega)];refine Ok.seqx ?_;rw [el_at hbk]
  by_cases hs : b.shelf = i
  ·rw [if_pos hs] at hst;rw [if_neg (not_not_intro hs), chk_pos (i64_small (by omega))]
   by_cases hn : n - b.wide < 0
   ·rw [if_pos hn, andx_some', if_pos rfl];refine .some ?_
    show 9 = fitErr bs i a;unfold fitErr;rw [if_neg fun h => ?_]
    have := h.2;omega
   ·rw [if_neg hn, andx_some']
    by_cases hh : b.high > a.high
    ·rw [decide_eq_true hh, if_pos rfl];refine .some ?_
     show 9 = fitErr bs i a;unfold fitErr;rw [if_neg fun h => ?_]
     have := h.1 b (List.mem_of_getElem? hbk) hs;omega
    ·rw [decide_eq_false hh, if_neg (by decide)];refine .some (.chk (i64_small (by omega)) (.some ⟨rfl, ?_, ?_, lowOn_step hbk h2 fun _ => by omega⟩))
     ·show n - b.wide = _; omega
     ·show 0 ≤ n - b.wide; omega
  ·rw [if_neg hs] at hst;rw [if_pos hs];refine .some (.chk (i64_small (by omega)) (.some ⟨rfl, ?_, h0, lowOn_step hbk h2 fun h => absurd h hs⟩))
   show n = _;omega
 ·rintro ⟨j, n⟩ hx ⟨h1, h0, h2⟩;simp only at hx h1 h2 h0;subst hx;unfold P_s9_Check_L6
  show Ok (if _ then _ else _) _;rw [if_neg (by omega)];rw [List.take_length] at h1 h2;refine .some (.some ?_)
  show 0 = fitErr bs i a;unfold fitErr;rw [if_pos ⟨h2, by omega⟩]
def ShOk (sh : List qD) : Prop := ∀ (j : Nat) (a : qD), sh[j]? = some a → 0 ≤ a.wide ∧ a.wide ≤ 2000
open Classical in
theorem r9_L4_eq {cl : List Str} {sh : List qD} {bs : List qA} (hs : sh.length ≤ 1000) (hsh : ShOk sh) (hb : Wides bs) (hl : bs.length ≤ 1000) :
  iter (P_r9_Check_L4 cl sh bs) 0 = some (scanX (errG 4 (errAt sh (fitErr bs))) sh.length) := by
 refine iter_scanI _ _ (fun k hk _ => ?_) (fun _ => ?_)
 ·unfold P_r9_Check_L4;obtain ⟨a, ha⟩ := get_some hk
  have hw := hsh k a ha;rw [if_pos (by omega), r9_Own_eq hl, andx_some', r9_fit_eq ha hw.1 hb hl, andx_some', chk_pos (i64_small (by omega))];unfold errG;rw [errAt_of ha];unfold fitErr
  by_cases h : fits bs k a
  ·rw [decide_eq_true h, if_pos h]; rfl
  ·rw [decide_eq_false h, if_neg h]; rfl
 ·unfold P_r9_Check_L4;rw [if_neg (by omega)]
theorem s9_L5_eq {sh : List qD} {bs : List qA} (hs : sh.length ≤ 1000) (hsh : ShOk sh) (hb : Wides bs) (hl : bs.length ≤ 1000) :
  iter (P_s9_Check_L5 sh bs) 0 = some (scanX (errF (errAt sh (fitErr bs))) sh.length) := by
 refine iter_scanI _ _ (fun k hk _ => ?_) (fun _ => ?_)
 ·unfold P_s9_Check_L5;obtain ⟨a, ha⟩ := get_some hk
  have hw := hsh k a ha;rw [if_pos (by omega), el_at ha, s9_L6_eq (sh := sh) hw hb hl, andx_some', body_err (by omega)];unfold errF;rw [errAt_of ha]
 ·unfold P_s9_Check_L5;rw [if_neg (by omega)]
noncomputable def roomE (cl : List Str) (sh : List qD) (bs : List qA) : Option (Int × Int × Int) :=
 if 1 ≤ cl.length ∧ cl.length ≤ 6 then
  match firstE (errAt cl (clErr cl)) cl.length with
  | some p => some (1, p.1, p.2)
  | none =>
   if 1 ≤ sh.length ∧ sh.length ≤ 4 then
    match firstE (errAt sh fun _ => shErr) sh.length with
    | some p => some (2, p.1, p.2)
    | none =>
     if bs.length ≤ 10 then
      match firstE (errAt bs (bkErr cl.length sh.length bs)) bs.length with
      | some p => some (3, p.1, p.2)
      | none =>
       match firstE (errAt sh (fitErr bs)) sh.length with
       | some p => some (4, p.1, p.2)
       | none => some (0, 0, 0)
     else some (3, 0, 3)
   else some (2, 0, 3)
 else some (1, 0, 3)
theorem shErr_zero {a : qD} (h : shErr a = 0) : shOk a := by
 unfold shErr at h;split at h
 ·assumption
 ·cases h
theorem bkErr_zero {ncl nsh : Nat} {bs : List qA} {i : Nat} {b : qA} (h : bkErr ncl nsh bs i b = 0) : bkRange b.wide b.high b.heavy ∧ btw 0 ((nsh : Int) - 1) b.shelf ∧ ¬ below bs i b ∧ ¬ twice (bs.take i) b.qL b.qM b.qN ∧ mkErr ncl b.qL b.qM b.qN = 0 := by
 unfold bkErr at h;split at h
 ·rename_i h0
  split at h
  ·rename_i h1
   split at h
   ·cases h
   ·rename_i h2
    unfold bkE0 bkErr1 at h0;split at h0
    ·rename_i h3
     split at h0
     ·rename_i h4
      split at h0
      ·cases h0
      ·rename_i h5
       exact ⟨h4, h1, h2, h5, h3⟩
     ·cases h0
    ·rename_i h3; exact absurd h0 h3
  ·cases h
 ·rename_i h0; exact absurd h h0
theorem shOk_all {sh : List qD} (h : ∀ j, j < sh.length → errAt sh (fun _ => shErr) j = 0) {j : Nat} {a : qD} (ha : sh[j]? = some a) : shOk a := by
 have := h j (List.getElem?_eq_some_iff.1 ha).1;rw [errAt_of ha] at this;exact shErr_zero this
theorem bk_all {ncl nsh : Nat} {bs : List qA} (h : ∀ j, j < bs.length → errAt bs (bkErr ncl nsh bs) j = 0) {j : Nat} {b : qA} (hb : bs[j]? = some b) : bkErr ncl nsh bs j b = 0 := by
 have := h j (List.getElem?_eq_some_iff.1 hb).1
 rwa [errAt_of hb] at this
theorem wides_all {ncl nsh : Nat} {bs : List qA} (h : ∀ j, j < bs.length → errAt bs (bkErr ncl nsh bs) j = 0) : Wides bs := fun b hb => by
 obtain ⟨j, hj⟩ := List.getElem?_of_mem hb;exact (bkErr_zero (bk_all h hj)).1.1
open Classical in
theorem r9_Check_eq (cl : List Str) (sh : List qD) (bs : List qA) : P_r9_Check cl sh bs = roomE cl sh bs := by
 unfold P_r9_Check roomE;rw [r9_in_eq, andx_some']
 by_cases h1 : 1 ≤ cl.length ∧ cl.length ≤ 6
 ·rw [if_pos h1, decide_eq_true (by omega), if_pos rfl, r9_L1_eq (by omega), loopR]
  rcases firstE_cases (errAt cl (clErr cl)) cl.length with ⟨e, _, _⟩ | ⟨_, _, _, e, _⟩
  rotate_left
  ·rw [e]
  rw [e]
  show andx _ _ = _;rw [r9_in_eq, andx_some']
  by_cases h2 : 1 ≤ sh.length ∧ sh.length ≤ 4
  ·rw [if_pos h2, decide_eq_true (by omega), if_pos rfl, r9_L2_eq (by omega), loopR]
   rcases firstE_cases (errAt sh fun _ => shErr) sh.length with ⟨e, _, hsh⟩ | ⟨_, _, _, e, _⟩
   rotate_left
   ·rw [e]
   rw [e]
   show (if _ then _ else _) = _
   by_cases h3 : bs.length ≤ 10
   ·rw [if_neg (by omega), r9_L3_eq (by omega) (by omega) (by omega), loopR]
    show _ = if _ then _ else _;rw [if_pos h3]
    rcases firstE_cases (errAt bs (bkErr cl.length sh.length bs)) bs.length with ⟨e, _, hbs⟩ | ⟨_, _, _, e, _⟩
    rotate_left
    ·rw [e]
    rw [e]
    show seqx _ _ = _;rw [r9_L4_eq (by omega) (fun j a ha => by have := (shOk_all hsh ha).2.1; unfold btw at this; omega) (wides_all hbs) (by omega), loopR] <;> rfl
   ·rw [if_pos (by omega)]
    show _ = if _ then _ else _;rw [if_neg h3]
  ·rw [if_neg h2, decide_eq_false (by omega), if_neg (by decide)]
 ·rw [if_neg h1, decide_eq_false (by omega), if_neg (by decide)]
open Classical in
theorem s9_Check_eq (cl : List Str) (sh : List qD) (bs : List qA) : P_s9_Check cl sh bs = roomE cl sh bs := by
 unfold P_s9_Check roomE;rw [s9_out1, andx_some']
 by_cases h1 : 1 ≤ cl.length ∧ cl.length ≤ 6
 ·rw [if_pos h1, decide_eq_false (not_not_intro (show btw 1 6 (cl.length : Int) from ⟨by omega, by omega⟩)), if_neg (by decide), s9_L1_eq (by omega), loopS (c := 1) (fun _ => rfl)]
  rcases firstE_cases (errAt cl (clErr cl)) cl.length with ⟨e, _, _⟩ | ⟨_, _, _, e, _⟩
  rotate_left
  ·rw [e]
  rw [e]
  show andx _ _ = _;rw [s9_out1, andx_some']
  by_cases h2 : 1 ≤ sh.length ∧ sh.length ≤ 4
  ·rw [if_pos h2, decide_eq_false (not_not_intro (show btw 1 4 (sh.length : Int) from ⟨by omega, by omega⟩)), if_neg (by decide), s9_L3_eq (by omega), loopS (c := 2) (fun _ => rfl)]
   rcases firstE_cases (errAt sh fun _ => shErr) sh.length with ⟨e, _, hsh⟩ | ⟨_, _, _, e, _⟩
   rotate_left
   ·rw [e]
   rw [e]
   show (if _ then _ else _) = _
   by_cases h3 : bs.length ≤ 10
   ·rw [if_neg (by omega), s9_L4_eq (by omega) (by omega) (by omega), loopS (c := 3) (fun _ => rfl)]
    show _ = if _ then _ else _;rw [if_pos h3]
    rcases firstE_cases (errAt bs (bkErr cl.length sh.length bs)) bs.length with ⟨e, _, hbs⟩ | ⟨_, _, _, e, _⟩
    rotate_left
    ·rw [e]
    rw [e]
    show andx _ _ = _;rw [s9_L5_eq (by omega) (fun j a ha => by have := (shOk_all hsh ha).2.1; unfold btw at this; omega) (wides_all hbs) (by omega), loopS (c := 4) (fun _ => rfl)] <;> rfl
   ·rw [if_pos (by omega)]
    show _ = if _ then _ else _;rw [if_neg h3]
  ·rw [if_neg h2, decide_eq_true (show ¬ btw 1 4 (sh.length : Int) from fun h => h2 (by unfold btw at h; omega)), if_pos rfl]
 ·rw [if_neg h1, decide_eq_true (show ¬ btw 1 6 (cl.length : Int) from fun h => h1 (by unfold btw at h; omega)), if_pos rfl]
end Go.Am
end
section
namespace Go.Am
set_option linter.unusedVariables false
set_option linter.unusedSimpArgs false
structure Fine (cl : List Str) (sh : List qD) (bs : List qA) : Prop where
 cl1 : 1 ≤ cl.length ∧ cl.length ≤ 6
 cl2 : ∀ j, j < cl.length → errAt cl (clErr cl) j = 0
 sh1 : 1 ≤ sh.length ∧ sh.length ≤ 4
 sh2 : ∀ j, j < sh.length → errAt sh (fun _ => shErr) j = 0
 bs1 : bs.length ≤ 10
 bs2 : ∀ j, j < bs.length → errAt bs (bkErr cl.length sh.length bs) j = 0
 fit : ∀ j, j < sh.length → errAt sh (fitErr bs) j = 0
theorem roomE_ok (cl : List Str) (sh : List qD) (bs : List qA) : ∃ c i e, roomE cl sh bs = some (c, i, e) ∧ (e = 0 ↔ Fine cl sh bs) := by
 unfold roomE
 by_cases h1 : 1 ≤ cl.length ∧ cl.length ≤ 6
 ·rw [if_pos h1]
  rcases firstE_cases (errAt cl (clErr cl)) cl.length with ⟨e, _, h2⟩ | ⟨k, hk, hne, e, _⟩
  rotate_left
  ·rw [e];exact ⟨_, _, _, rfl, fun h => absurd h hne, fun h => absurd (h.cl2 k hk) hne⟩
  rw [e];dsimp only
  by_cases h3 : 1 ≤ sh.length ∧ sh.length ≤ 4
  ·rw [if_pos h3]
   rcases firstE_cases (errAt sh fun _ => shErr) sh.length with ⟨e, _, h4⟩ | ⟨k, hk, hne, e, _⟩
   rotate_left
   ·rw [e];exact ⟨_, _, _, rfl, fun h => absurd h hne, fun h => absurd (h.sh2 k hk) hne⟩
   rw [e];dsimp only
   by_cases h5 : bs.length ≤ 10
   ·rw [if_pos h5]
    rcases firstE_cases (errAt bs (bkErr cl.length sh.length bs)) bs.length with ⟨e, _, h6⟩ | ⟨k, hk, hne, e, _⟩
    rotate_left
    ·rw [e];exact ⟨_, _, _, rfl, fun h => absurd h hne, fun h => absurd (h.bs2 k hk) hne⟩
    rw [e]
    rcases firstE_cases (errAt sh (fitErr bs)) sh.length with ⟨e, _, h7⟩ | ⟨k, hk, hne, e, _⟩
    rotate_left
    ·rw [e];exact ⟨_, _, _, rfl, fun h => absurd h hne, fun h => absurd (h.fit k hk) hne⟩
    rw [e];exact ⟨_, _, _, rfl, fun _ => ⟨h1, h2, h3, h4, h5, h6, h7⟩, fun _ => rfl⟩
   ·rw [if_neg h5];exact ⟨_, _, _, rfl, fun h => absurd h (by decide), fun h => absurd h.bs1 h5⟩
  ·rw [if_neg h3];exact ⟨_, _, _, rfl, fun h => absurd h (by decide), fun h => absurd h.sh1 h3⟩
 ·rw [if_neg h1];exact ⟨_, _, _, rfl, fun h => absurd h (by decide), fun h => absurd h.cl1 h1⟩
section
variable {cl : List Str} {sh : List qD} {bs : List qA}
theorem Fine.shelf (h : Fine cl sh bs) {j : Nat} {a : qD} (ha : sh[j]? = some a) : shOk a := shOk_all h.sh2 ha
theorem Fine.book (h : Fine cl sh bs) {j : Nat} {b : qA} (hb : bs[j]? = some b) : 0 ≤ b.shelf ∧ b.shelf < sh.length := by
 have := (bkErr_zero (bk_all h.bs2 hb)).2.1;unfold btw at this; omega
theorem Fine.fits (h : Fine cl sh bs) {j : Nat} {a : qD} (ha : sh[j]? = some a) : fits bs j a := by
 have := h.fit j (List.getElem?_eq_some_iff.1 ha).1;rw [errAt_of ha] at this;unfold fitErr at this;split at this
 ·assumption
 ·cases this
def Left (sh : List qD) (bs : List qA) (l : List Int) : Prop := l.length = sh.length ∧ ∀ (j : Nat) (a : qD), sh[j]? = some a → l[j]? = some (a.wide - wideOn j bs)
end
end Go.Am
end
section
namespace Go.Am
set_option linter.unusedVariables false
set_option linter.unusedSimpArgs false
def fst4 (a b c d : Int) : Int := if ¬ a = 0 then a else if ¬ b = 0 then b else if ¬ c = 0 then c else d
def cmpM (c n : Int) (s : Str) (c' n' : Int) (s' : Str) : Int := fst4 (c - c') (n - n') ((s.length : Int) - s'.length) (cmpS s s')
noncomputable def roomN (cl : List Str) (sh : List qD) (bs : List qA) : Int := match roomE cl sh bs with | some (_, _, e) => e | none => 0
section
variable {cl : List Str} {sh : List qD} {bs : List qA}
theorem roomN_zero : roomN cl sh bs = 0 ↔ Fine cl sh bs := by
 obtain ⟨c, i, e, he, hf⟩ := roomE_ok cl sh bs;unfold roomN;rw [he]; exact hf
theorem s9_open_eq : P_s9_open cl sh bs = some (roomN cl sh bs) := by
 obtain ⟨c, i, e, he, hf⟩ := roomE_ok cl sh bs;unfold P_s9_open roomN;rw [s9_Check_eq, he]; rfl
noncomputable def two (cl : List Str) (sh : List qD) (bs : List qA) (c n : Int) (s : Str) (c' n' : Int) (s' : Str) : Int :=
 if roomN cl sh bs = 0 then (if mkErr cl.length c n s = 0 then mkErr cl.length c' n' s' else mkErr cl.length c n s) else roomN cl sh bs
end
end Go.Am
end
section
namespace Go.Am
set_option linter.unusedVariables false
set_option linter.unusedSimpArgs false
def lexB : List Int → List Int → Bool
 | [], [] => false
 | [], _ :: _ => true
 | _ :: _, [] => false
 | a :: l, b :: m => if a = b then lexB l m else decide (a < b)
section
variable {cl : List Str} {sh : List qD} {bs : List qA}
end
def mLess (a b : qA) : Prop := cmpM a.qL a.qM a.qN b.qL b.qM b.qN < 0
def Rises (l : List qA) : Prop := ∀ (k : Nat) (a b : qA), l[k]? = some a → l[k + 1]? = some b → mLess a b
end Go.Am
end
section
namespace Go.Am
set_option linter.unusedVariables false
set_option linter.unusedSimpArgs false
instance (a b : qA) : Decidable (mLess a b) := inferInstanceAs (Decidable (_ < (0 : Int)))
def place : List qA → qA → Nat
 | [], _ => 0
 | a :: r, b => if mLess a b then place r b + 1 else 0
theorem place_le : ∀ (l : List qA) (b : qA), place l b ≤ l.length
 | [], _ => Nat.le_refl _
 | a :: r, b => by
  have := place_le r b;unfold place;split <;> simp only [List.length_cons] <;> omega
def insertedB (l : List qA) (b : qA) : List qA := l.take (place l b) ++ b :: l.drop (place l b)
def MarksOk (ncl : Nat) (l : List qA) : Prop := ∀ b ∈ l, mkErr ncl b.qL b.qM b.qN = 0
section
variable {cl : List Str} {sh : List qD} {bs : List qA}
theorem Fine.marks (h : Fine cl sh bs) : MarksOk cl.length bs := fun b hb => by
 obtain ⟨j, hj⟩ := List.getElem?_of_mem hb;exact (bkErr_zero (bk_all h.bs2 hj)).2.2.2.2
open Classical in
noncomputable def furE (cl : List Str) (sh : List qD) (bs : List qA) (b : qA) : Int :=
 if roomN cl sh bs = 0 then (if bkErr1 cl.length b.qL b.qM b.qN b.wide b.high b.heavy bs = 0 then (if Rises bs then 0 else 2) else bkErr1 cl.length b.qL b.qM b.qN b.wide b.high b.heavy bs) else roomN cl sh bs
end
end Go.Am
end
section
namespace Go.Am
set_option linter.unusedVariables false
set_option linter.unusedSimpArgs false
def withS (books : List qA) (ls : List Int) : List qA := List.zipWith (fun b s => { b with shelf := s }) books ls
section
variable {cl : List Str} {sh : List qD} {bs books : List qA} {ls : List Int} {i : Nat} {a : qD}
def upAt (ls : List Int) (k : Nat) : Prop := ∀ x y, ls[k]? = some x → ls[k + 1]? = some y → x ≤ y
def fitAt (sh : List qD) (l : List qA) (s : Nat) : Prop := ∀ a, sh[s]? = some a → fits l s a
def Arr (sh : List qD) (books : List qA) (ls : List Int) : Prop := (∀ k, upAt ls k) ∧ ∀ s, fitAt sh (withS books ls) s
def movedN : List qA → List Int → Nat → Int → Int
 | b :: r, s :: ls, i, but => (if ¬ (i : Int) = but ∧ ¬ s = b.shelf then 1 else 0) + movedN r ls (i + 1) but
 | _, _, _, _ => 0
theorem movedN_cons {b : qA} {r : List qA} {s : Int} {ls : List Int} {i : Nat} {but : Int} : movedN (b :: r) (s :: ls) i but = (if ¬ (i : Int) = but ∧ ¬ s = b.shelf then 1 else 0) + movedN r ls (i + 1) but := rfl
end
end Go.Am
end
section
namespace Go.Am
set_option linter.unusedVariables false
set_option linter.unusedSimpArgs false
abbrev Way := Int × List Int
def pick (z : Way) (f : Nat → Option Way) : Nat → Way
 | 0 => z
 | n + 1 => match f n with
  | some c => if c.1 < (pick z f n).1 then c else pick z f n
  | none => pick z f n
section
variable (sh : List qD) (mv : Int → Int → Int)
def capAt (a : qD) (n shelf : Nat) (left : Int) : Int := if n = shelf then left else a.wide
def canAt (b : qA) (i shelf : Nat) (left : Int) (n : Nat) (a : qD) : Prop := shelf ≤ n ∧ b.wide ≤ capAt a n shelf left ∧ b.high ≤ a.high ∧ mv i n ≠ 1000
instance (b : qA) (i shelf : Nat) (left : Int) (n : Nat) (a : qD) : Decidable (canAt mv b i shelf left n a) := inferInstanceAs (Decidable (_ ∧ _))
end
section
variable {sh : List qD} {mv : Int → Int → Int}
end
end Go.Am
end
section
namespace Go.Am
set_option linter.unusedVariables false
set_option linter.unusedSimpArgs false
section
variable {sh : List qD} {mv : Int → Int → Int}
end
end Go.Am
end
section
namespace Go.Am
set_option linter.unusedVariables false
set_option linter.unusedSimpArgs false
section
variable {sh : List qD} {mv : Int → Int → Int} {books : List qA} {a0 : qD}
end
end Go.Am
end
section
namespace Go.Am
open Go.RowKit
set_option linter.unusedVariables false
set_option linter.unusedSimpArgs false
theorem pure_eqArr {P : Program} {t len elem : Nat} {xs ys : List Int} (hu : pureVal P (underlying t) = some (.array len elem)) (hsz : pureVal P (sizeOf elem) = some 1)
    (hpart : ∀ (l : List Int) (i : Nat) (x : Int), l[i]? = some x → pureVal P (part elem (l.map (Value.int .i64)).toArray (i * 1)) = some (.int .i64 x))
    (heq : ∀ a b : Int, pureVal P (Op.equalIn 9999 elem (.int .i64 a) (.int .i64 b)) = some (a == b)) (lx : xs.length = len) (ly : ys.length = len) :
    pureVal P (Op.equal t (.agg (xs.map (Value.int .i64)).toArray) (.agg (ys.map (Value.int .i64)).toArray)) = some (decide (xs = ys)) := by
  unfold Op.equal
  have e : Op.maxDepth = 9998 + 1 + 1 := rfl
  rw [e, Op.equalIn, pv_bind, hu]
  simp only [Option.bind_some, pv_bind, hsz, Std.Legacy.Range.forIn_eq_forIn_range', Std.Legacy.Range.size, Nat.sub_zero, Nat.add_sub_cancel, Nat.div_one]
  have key : ∀ (c s : Nat), s + c = len → pureVal P (forIn (List.range' s c 1) ((none : Option Bool), ()) fun i __s => do
            let __do_lift ← part elem (List.map (Value.int IntKind.i64) xs).toArray (i * 1)
            let __do_lift_1 ← part elem (List.map (Value.int IntKind.i64) ys).toArray (i * 1)
            let __do_lift ← Op.equalIn (9998 + 1) elem __do_lift __do_lift_1
            if (!__do_lift) = true then pure (ForInStep.done (some false, ()))
              else pure (ForInStep.yield (none, ()))) = some (if xs.drop s = ys.drop s then (none, ()) else (some false, ())) := by
    intro c
    induction c with
    | zero =>
      intro s hs
      rw [List.drop_of_length_le (by omega), List.drop_of_length_le (by omega), if_pos rfl]
      rfl
    | succ c ih =>
      intro s hs
      have hx : s < xs.length := by omega
      have hy : s < ys.length := by omega
      rw [List.range'_succ, List.forIn_cons]
      simp only [pv_bind, hpart xs s xs[s] (List.getElem?_eq_getElem hx), hpart ys s ys[s] (List.getElem?_eq_getElem hy), Option.bind_some, heq]
      rw [List.drop_eq_getElem_cons hx, List.drop_eq_getElem_cons hy]
      by_cases h : xs[s] = ys[s]
      · have hb : (xs[s] == ys[s]) = true := by simp [h]
        simp only [hb, Bool.not_true, Bool.false_eq_true, if_false, pv_pure, Option.bind_some]
        rw [ih (s + 1) (by omega)]
        simp only [h, List.cons.injEq, true_and]
      · have hb : (xs[s] == ys[s]) = false := by simp [h]
        simp only [hb, Bool.not_false, if_true, pv_pure, Option.bind_some, h, List.cons.injEq, false_and, if_false]
  rw [key len 0 (by omega)]
  by_cases h : xs = ys
  · subst h
    simp [pv_pure]
  · simp [h, pv_pure]
section
variable {E : Env} {d : Bool} {n : Nat} {rnd : Option Nat} {ops : Array Oper} {i : Nat} {ns : List Nat} {ms : List Dfr} {σ : Sl} {hs hs' : List Thing} {Q : Sy → Prop} {t : Tmp} {op : Op} {ty : TypeId} {pos : String} {af : Array Edge} {g : Option (Nat × Bool)}
structure VecT (P : Program) (xt : TypeId) (k : Nat) : Prop where
 eq : ∀ l l' : List Int, l.length = k → l'.length = k → pureVal P (Op.equal xt (.agg (l.map (Value.int .i64)).toArray) (.agg (l'.map (Value.int .i64)).toArray)) = some (decide (l = l'))
 guard : P.eqGuardType P.depth xt = false
theorem VecT.of {P : Program} {t len elem : Nat} {k' : IntKind} (hu : pureVal P (underlying t) = some (.array len elem)) (he : pureVal P (underlying elem) = some (.int k')) (hsz : pureVal P (sizeOf elem) = some 1) (ha : pureVal P (isAgg elem) = some false)
  (hg : P.eqGuardType P.depth t = false) : VecT P t len := by
 refine ⟨fun l l' h h' => pure_eqArr hu hsz (fun l i x hx => ?_) (fun a b => pure_eqInt he) h h', hg⟩;unfold part;rw [pv_bind, ha]
 have : (l.map (Value.int .i64)).toArray[i * 1]? = some (.int .i64 x) := by simp [hx]
 simp only [Option.bind_some, Bool.false_eq_true, if_false, this];rfl
theorem Val.nil_eqS {xt ty' e : TypeId} {x y : Operand} {id off ver len cap : Nat} {ex : Bool} (ht : E.und xt = some (.slice e)) (hx : evs σ x = some (.slice id off ver ex len cap)) (hy : evs σ y = some nilS) : Val E σ hs (.binOp .eql xt x y ty') (bv false) := fun ev S he _ o ho => by
 unfold aop; rw [ho];simp only [he _ _ hx, he _ _ hy, abin, abinPure, toV, Except.bind, ht, nilEq];rfl
end
end Go.Am
end
section
namespace Go.Am
set_option linter.unusedVariables false
set_option linter.unusedSimpArgs false
end Go.Am
end
section
namespace Go.Am
open Go.RowKit Go.Sort Go.Proofs
set_option linter.unusedVariables false
def ivs (l : List Int) : List AV := l.map fun x => .lit (.int .i64 x)
def St.put (S : St) (id : Nat) (l : List Int) (ver : Nat) : St := { heap := S.heap.set id (.row (ivs l) 1 ver), next := S.next, low := S.next, glb := S.glb, hid := S.hid }
theorem RelW.same {r : Ren} {S : St} {w w' : World} (h : RelW r S w) (hs : w.heap.size ≤ w'.heap.size) (hb : ∀ b, b < w.heap.size → w'.heap[b]? = w.heap[b]?) : RelW r S w' := by
 refine ⟨fun id ver x hx => ⟨(h.dom _ _ _ hx).1, Nat.lt_of_lt_of_le (h.dom _ _ _ hx).2 hs⟩, h.inj, fun b c hc => ?_, fun id o hg v b n u hx => ?_, h.low, h.glb⟩
 ·obtain ⟨⟨e, fz, h1⟩, h2⟩ := h.imm b c hc;exact ⟨⟨e, fz, by rw [hb b (Array.getElem?_eq_some_iff.1 h1).1]; exact h1⟩, h2⟩
 ·exact (h.obj id o hg v b n u hx).world (hb b (h.dom _ _ _ hx).2)
theorem Ext.same {r : Ren} {S : St} {w w' : World} (h : RelW r S w) (hs : w.heap.size ≤ w'.heap.size) (hb : ∀ b, b < w.heap.size → w'.heap[b]? = w.heap[b]?) (h1 : w'.os = w.os) (h2 : w'.tape = w.tape) (h3 : w'.output = w.output) (h4 : w.drawn ≤ w'.drawn) : Ext r S w r S w' :=
 ⟨.refl r, h.same hs hb, rfl, Nat.le_refl _, Nat.le_refl _, fun _ _ _ => rfl, hs, h1, h2, h3, fun b hlt => .inl (hb b hlt), fun _ _ _ h => .inl h, fun _ _ h => .inl h, fun _ _ _ h => .inr ⟨_, _, h⟩, h4, fun _ => Nat.le_refl _, fun _ h => .inl h⟩
section
variable {E0 : Env} {r : Ren} {S : St} {w : World}
end
end Go.Am
end
section
namespace Go.Am
open Go.RowKit
set_option linter.unusedVariables false
variable {E : Env} {n : Nat} {rnd : Option Nat} {s : Sy} {Q : Exit → Sy → Prop}
def CS (E : Env) (n : Nat) (rnd : Option Nat) (c : Code) (s : Sy) (Q : Exit → Sy → Prop) : Prop :=
 ∀ a S, Is n rnd a S s → ∃ e a' s', (∃ k, ∀ m, k ≤ m → run E m (.code c a) S = .ok (.exit e a', S)) ∧ Is n rnd a' S s' ∧ Q e s'
theorem CS.of_step {c : Code} (h : ∀ a S, Is n rnd a S s → ∃ e a' s', (∃ k, ∀ m, k ≤ m → runCode (run E m) E c a S = .ok (.exit e a', S)) ∧ Is n rnd a' S s' ∧ Q e s') : CS E n rnd c s Q := fun a S hi => by
 obtain ⟨e, a', s', ⟨k, hk⟩, h1, h2⟩ := h a S hi;refine ⟨e, a', s', ⟨k + 1, fun m hm => ?_⟩, h1, h2⟩;cases m with
 | zero => omega
 | succ m => exact hk m (by omega)
theorem CS.ret (h : Q .ret s) : CS E n rnd .ret s Q := .of_step fun a S hi => ⟨_, _, _, ⟨0, fun _ _ => rfl⟩, hi, h⟩
theorem CS.skip (h : Q .normal s) : CS E n rnd .skip s Q := .of_step fun a S hi => ⟨_, _, _, ⟨0, fun _ _ => rfl⟩, hi, h⟩
def ThenC (E : Env) (n : Nat) (rnd : Option Nat) (y : Code) (Q : Exit → Sy → Prop) : Exit → Sy → Prop
 | .normal, s => CS E n rnd y s Q
 | _, _ => False
theorem CS.seq {x y : Code} (h : CS E n rnd x s (ThenC E n rnd y Q)) : CS E n rnd (.seq x y) s Q := .of_step fun a S hi => by
 obtain ⟨e, a1, s1, ⟨k1, h1⟩, h2, h3⟩ := h a S hi
 have he : e = .normal := by cases e <;> first | rfl | exact h3.elim
 subst he;obtain ⟨e, a2, s2, ⟨k2, h4⟩, h5, h6⟩ := h3 a1 S h2;refine ⟨e, a2, s2, ⟨max k1 k2, fun m hm => ?_⟩, h5, h6⟩
 show runSeq _ _ _ _ _ = _;unfold runSeq;rw [h1 m (by omega)];exact h4 m (by omega)
theorem CS.text {id : Nat} {ops : Array Oper} {l : List Nat} (hl : List.range ops.size = l) (h : TO E true n rnd ops l s (Q .normal)) : CS E n rnd (.region id ops false) s Q := .of_step fun a S hi => by
 subst hl;obtain ⟨a', hc, s', h1, h2⟩ := h a S hi;refine ⟨_, a', s', ?_, h1, h2⟩
 have key : ∀ (l : List Nat) (a a' : AAct), Chain E ops S l a a' → ∃ k, ∀ m, k ≤ m → opSteps (run E m) E ops l a S = .ok (a', S) := by
  intro l
  induction l with
  | nil => intro a a' h; cases h; exact ⟨0, fun m _ => rfl⟩
  | cons i l ih =>
   intro a a' ⟨v, a1, ⟨k, hk⟩, h2, h3⟩;obtain ⟨k', hk'⟩ := ih a1 a' h3;refine ⟨max k k', fun m hm => ?_⟩;unfold opSteps opStep;rw [hk m (by omega)];simp only [Except.bind, h2];exact hk' m (by omega)
 obtain ⟨k, hk⟩ := key _ _ _ hc;refine ⟨k, fun m hm => ?_⟩
 show runRegion _ _ _ _ _ _ = _;unfold runRegion;simp only [cond_false, xSteps_of_opSteps (hk m hm), Except.bind]
theorem CS.draw (hE : ∀ v, E.same.1 v v = true) {id : Nat} {ops : Array Oper} {l1 l2 : List Nat} (h1 : firstPass ops (CheckFast.beforeL ops.toList 0 []) = l1) (h2 : secondPass ops (CheckFast.beforeL ops.toList 0 []) = l2)
  (h : TO E true n rnd ops (l1 ++ l2) s (Q .normal)) : CS E n rnd (.region id ops true) s Q := .of_step fun a S hi => by
 obtain ⟨a', hc, s', hi', hq⟩ := h a S hi;obtain ⟨a1, hc1, hc2⟩ := hc.append
 have hk : ∀ i ∈ l1, ∀ o, ops[i]? = some o → kindOf o ≠ 2 := by
  intro i hi o ho;rw [← h1] at hi;unfold firstPass at hi;rw [CheckFast.force_eq] at hi
  have := (List.mem_filter.1 hi).2;unfold isFirst at this;rw [ho] at this;simp only [Bool.and_eq_true, Bool.not_eq_true'] at this;exact beq_false.1 this.1
 obtain ⟨n1, seen, k1, k2⟩ := hc1.first hE (seen := []) hk (fun x hx => by simp at hx);obtain ⟨n2, k3⟩ := hc2.second hE (masks := CheckFast.beforeL ops.toList 0 []) (past := []) k2 (fun g hg => by simp at hg);refine ⟨_, a', s', ⟨max n1 n2, fun m hm => ?_⟩, hi', hq⟩
 show runRegion _ _ _ _ _ _ = _;unfold runRegion;simp only [cond_true, forceL_eq];unfold drawRun;rw [h1, h2, k1 m (by omega)]
 have : seen.all (agrees E ops S) = true := List.all_eq_true.2 k2;simp only [Except.bind, this, cond_true, k3 m (by omega)]
def Still (E : Env) (f : FuncId) (args : List AV) (hs : List Thing) (v : AV) : Prop := ∀ S, HasS S hs → ∃ n, ∀ m, n ≤ m → run E m (.call f args) S = .ok (.ret v, S)
theorem Still.enter {f : FuncId} {args : List AV} {hs : List Thing} {fn : Func} {c : Code} {n : Nat} {v : AV} {σ : Sl} {rs : List ResultVar} (hf : E.fn f = some fn) (hb : fn.body = some c) (hn : args.length + (fn.ntmps - args.length) = n) (hσ : zipN 0 args = σ)
  (hr : fn.results.toList = rs) (h : CS E n none c ⟨[], σ, hs⟩ (Ret rs fun u _ => u = v)) (he0 : E.eff f = none := by rfl) : Still E f args hs v := by
 intro S hS
 have ha : HasA (enterAct fn args) n none [] σ := by
  refine ⟨hn, rfl, rfl, fun t v hv => ?_⟩;rw [← hσ] at hv;simp only [enterAct, AAct.get, enter_get _ _ _ _ _ hv]
 obtain ⟨e, a', s', ⟨m0, hm⟩, hi, hq⟩ := h _ S ⟨ha, hS⟩
 have hq' : isEnd e = true ∧ s'.ms = [] ∧ ∃ vs, resS s'.sl rs = some vs ∧ oneOrTuple vs = v := by
  cases e with
  | normal => exact ⟨rfl, hq⟩
  | ret => exact ⟨rfl, hq⟩
  | _ => exact hq.elim
 obtain ⟨he, hms, vs, hv, hk⟩ := hq';refine ⟨m0 + 1, fun m hm' => ?_⟩;cases m with
 | zero => omega
 | succ m =>
  have hm := hm m (by omega)
  have hmk : a'.marks = [] := hi.act.marks.trans hms;rw [run_succ];simp only [runStep, runCall, he0, hf, hb, ofOpt, Except.bind, hm, modeOf_end he, hmk, leaveD, hr, resS_ok hi.act rs vs hv, hk]
theorem HasS.low {S : St} {hs : List Thing} (h : HasS S hs) (k : Nat) : HasS { heap := S.heap, next := S.next, low := k, glb := S.glb, hid := S.hid } hs :=
 ⟨h.wf, fun x hx => by have := h.ok x hx; cases x <;> exact this, h.apart⟩
end Go.Am
end
section
namespace Go.Am
open Go.RowKit
set_option linter.unusedVariables false
variable {E : Env}
def insertC (cf : Int → Int → Int) (a : Int) : List Int → List Int
 | [] => [a]
 | b :: r => if cf a b ≤ 0 then a :: b :: r else b :: insertC cf a r
def sortC (cf : Int → Int → Int) : List Int → List Int
 | [] => []
 | a :: r => insertC cf a (sortC cf r)
theorem insertC_perm (cf : Int → Int → Int) (a : Int) : ∀ l : List Int, (insertC cf a l).Perm (a :: l)
 | [] => .refl _
 | b :: r => by
  unfold insertC;split
  ·exact .refl _
  ·exact ((insertC_perm cf a r).cons b).trans (.swap a b r)
theorem sortC_perm (cf : Int → Int → Int) : ∀ l : List Int, (sortC cf l).Perm l
 | [] => .refl _
 | a :: r => (insertC_perm cf a _).trans ((sortC_perm cf r).cons a)
end Go.Am
end
section
namespace Go.Am
set_option linter.unusedVariables false
end Go.Am
end
section
namespace Go.Am.YtgbbhdoobhdadaaGreatDoor
open Go.Am Go.RowKit
set_option linter.unusedVariables false
set_option linter.unusedSimpArgs false
end Go.Am.YtgbbhdoobhdadaaGreatDoor
end
section
namespace Go.Am
set_option linter.unusedVariables false
end Go.Am
end
section
namespace Go.Am.YtgbbhdoobhdadaaGreatDoor
open Go.Am Go.RowKit
set_option linter.unusedVariables false
set_option linter.unusedSimpArgs false
end Go.Am.YtgbbhdoobhdadaaGreatDoor
end
section
namespace Go.Am
open Go.RowKit
set_option linter.unusedVariables false
set_option linter.unusedSimpArgs false
def PreOf (v0 : AV) (n k : Nat) (v : AV) : Prop := k ≤ n ∧ ((v0 = nilS ∧ n = 0 ∧ v = nilS) ∨ ∃ id ex, v0 = .slice id 0 n ex n n ∧ v = .slice id 0 n ex k n)
theorem PreOf.le {v0 v : AV} {n k : Nat} (h : PreOf v0 n k v) : k ≤ n := h.1
theorem PreOf.len {v0 v : AV} {n k : Nat} (h : PreOf v0 n k v) : lenOf? v = .ok k ∧ isSlice v = true := by
 rcases h with ⟨h, ⟨_, h2, rfl⟩ | ⟨id, ex, _, rfl⟩⟩
 ·have : k = 0 := by omega
  subst this;exact ⟨rfl, rfl⟩
 ·exact ⟨rfl, rfl⟩
theorem PreOf.cell {v0 v : AV} {n k : Nat} (h : PreOf v0 n k v) : cellsOf v = [v] ∧ oneCell v = true := by
 rcases h with ⟨_, ⟨_, _, rfl⟩ | ⟨id, ex, _, rfl⟩⟩ <;> exact ⟨rfl, rfl⟩
theorem PreOf.at {v0 v : AV} {l : List Int} {k : Nat} (h : PreOf v0 l.length k v) (hk : 0 < k) : ∃ id ex, IsAt v0 encI l id ∧ v = .slice id 0 (l.flatMap encI.f).length ex k l.length := by
 rcases h with ⟨h, ⟨_, h2, _⟩ | ⟨id, ex, h1, h2⟩⟩
 ·omega
 ·have e : (l.flatMap encI.f).length = l.length := by rw [flat_len]; simp [encI]
  exact ⟨id, ex, ⟨ex, by rw [e]; exact h1⟩, by rw [e]; exact h2⟩
section
variable {E : Env} {d : Bool} {n : Nat} {rnd : Option Nat} {ops : Array Oper} {i : Nat} {ns : List Nat} {ms : List Dfr} {σ : Sl} {hs hs' : List Thing} {Q : Sy → Prop} {t : Tmp} {op : Op} {ty : TypeId} {pos : String} {af : Array Edge} {g : Option (Nat × Bool)}
theorem Val.len_pre {st e : TypeId} {v0 v : AV} {m k : Nat} {x : Operand} (h : PreOf v0 m k v) (ht : E.und st = some (.slice e)) (hx : evs σ x = some v) :
  Val E σ hs (.call { callee := .builtin .len, args := #[x], argTypes := #[st] }) (iv k) := fun ev S he hS o ho => by
 obtain ⟨h1, h2⟩ := h.len;unfold aop; rw [ho];simp only [acall, abuiltin, alen, List.map_cons, List.map_nil, he _ _ hx, List.getElem?_toArray, List.getElem?_cons_zero, ht, ofOpt, Except.bind, h1, h2, cond_true];rfl
theorem zeros_int {E : Env} {et : TypeId} (hz : E.zro et = some (.int .i64 0)) (m : Nat) : zerosOf E et 1 m = .ok ((List.replicate m (0 : Int)).flatMap encI.f) := by
 have key : ∀ m : Nat, repeatL (zeroCells (.int .i64 0)) m = (List.replicate m (0 : Int)).flatMap encI.f := by
  intro m
  induction m with
  | zero => rfl
  | succ m ih => rw [repeatL, ih, List.replicate_succ, List.flatMap_cons]; rfl
 unfold zerosOf
 by_cases h0 : m = 0
 ·subst h0; rfl
 ·have e : Nat.beq (m * 1) 0 = false := beq_false.2 (by omega);rw [e];simp only [cond_false, hz, ofOpt, Except.bind]
  show (bif Nat.beq (zeroCells (.int .i64 0)).length 1 then _ else _) = _;rw [key];rfl
theorem Eff.makeRoom {st et : TypeId} {x y : Operand} {m b : Nat} (ht : SliceT E st et 1) (hb : E.byt et = some b) (hz : E.zro et = some (.int .i64 0)) (hx : evs σ x = some (iv 0)) (hy : evs σ y = some (iv m)) (hm : m ≤ 1000000000) (hbm : b ≤ 128) :
  Eff E σ hs (.makeSlice st x y) fun v hs' => ∃ v0, hs' = ownL false v0 encI (List.replicate m 0) :: hs ∧ PreOf v0 m 0 v := fun ev S he hS o ho => by
 have p62 : (2 : Int) ^ 62 = 4611686018427387904 := by decide
 have p48 : (2 : Int) ^ 48 = 281474976710656 := by decide
 have hbb : b * m ≤ 128 * 1000000000 := Nat.mul_le_mul hbm hm
 have b1 : decide ((0 : Int) ≤ 0) = true := rfl
 have b2 : decide ((0 : Int) ≤ (m : Int)) = true := decide_eq_true (by omega)
 have b3 : decide ((m : Int) < 2 ^ 62) = true := decide_eq_true (by omega)
 have b4 : decide ((b : Int) * (m : Int) ≤ 2 ^ 48) = true := decide_eq_true (by rw [p48]; omega)
 have hl : ((List.replicate m (0 : Int)).flatMap encI.f).length = m := by rw [flat_len]; simp [encI]
 have hl2 : (List.replicate m (0 : Int)).length = m := List.length_replicate;refine ⟨.slice S.next 0 m true 0 m, S.new (.row ((List.replicate m (0 : Int)).flatMap encI.f) 1 0), _, ?_, ?_, .slice S.next 0 m true m m, rfl, ⟨Nat.zero_le _, .inr ⟨S.next, true, rfl, rfl⟩⟩⟩
 ·unfold aop; rw [ho];simp only [he _ _ hx, he _ _ hy, amakeSlice, ht.1, ht.2, hb, ofOpt, Except.bind, b1, b2, b3, b4, Bool.and_self, cond_true, Int.toNat_natCast, zeros_int hz, newSliceA, newOf, hl];rfl
 ·refine hS.new _ (x := ownL false (.slice S.next 0 m true m m) encI (List.replicate m 0)) (.inr ⟨S.next, true, ?_, ?_, (fun h => by cases h), 0, Nat.zero_le _, ?_⟩) (fun i hi => by cases hi; rfl)
  ·rw [hl2, hl]
  ·rw [flat_len]
  ·rw [St.new_get, if_pos rfl]; rfl
theorem Val.iaddr_pre {l : List Int} {v0 v : AV} {id k : Nat} {st et : TypeId} {x y : Operand} {j : Int} (h : PreOf v0 l.length k v) (hat : IsAt v0 encI l id) (ht : SliceT E st et 1) (hx : evs σ x = some v) (hy : evs σ y = some (iv j)) (hj : 0 ≤ j ∧ j < k) :
  Val E σ hs (.indexAddr st x y) (.ptr id (j.toNat * 1) (l.flatMap encI.f).length) := by
 obtain ⟨id', ex, ⟨ex', h1⟩, h2⟩ := h.at (by omega);obtain ⟨ex2, h3⟩ := hat;rw [h1] at h3;cases h3
 have := Val.iaddr_slice (E := E) (hs := hs) ht (hx.trans (congrArg some h2)) hy hj
 rwa [Nat.zero_add] at this
theorem pre_at {l : List Int} {v0 v : AV} {k : Nat} (h : PreOf v0 l.length k v) (hk : 0 < k) : ∀ S, HasS S hs → ∃ id, IsAt v0 encI l id := fun S _ => by
 obtain ⟨id, ex, h1, _⟩ := h.at hk;exact ⟨id, h1⟩
theorem Val.slice_pre {l : List Int} {st et : TypeId} {v0 v : AV} {k p j : Nat} {z : Bool} {x y : Operand} {b : Int} (h : PreOf v0 l.length k v) (hp : hs[p]? = some (ownL z v0 encI l)) (ht : SliceT E st et 1) (hx : evs σ x = some v) (hy : evs σ y = some (iv b)) (hb : b = j) (hj : j ≤ k) :
    ∃ w, PreOf v0 l.length j w ∧ Val E σ hs (.slice st x none (some y) none) w := by
  subst hb
  have hle := h.1
  have b1 : decide ((0 : Int) ≤ (j : Int)) = true := decide_eq_true (by omega)
  have b2 : decide ((j : Int) ≤ (l.length : Int)) = true := decide_eq_true (by omega)
  rcases h with ⟨_, ⟨h0, h2, rfl⟩ | ⟨id, ex, h0, rfl⟩⟩
  · have hj0 : j = 0 := by omega
    subst hj0
    refine ⟨nilS, ⟨Nat.zero_le _, .inl ⟨h0, h2, rfl⟩⟩, fun ev S he hS o ho => ?_⟩
    have hbd := bounds_ok (m := 0) (lo := 0) (hi := 0) (olo := none) (ohi := some (iv 0)) (Nat.le_refl _) (Nat.le_refl _) (.inl ⟨rfl, rfl⟩) (.inr rfl)
    have hy' := he _ _ hy
    unfold aop; rw [ho]
    simp only [he _ _ hx, Option.map_some, Option.map_none, hy', nilS, aslice, ht.1, ht.2, ofOpt, Except.bind, isLitInt, Bool.false_and, cond_false, valOf]
    first
    | (simp only [show ((0 : Nat) : Int) = 0 from rfl, hbd]; rfl)
    | rfl
  · refine ⟨.slice id 0 l.length ex j l.length, ⟨by omega, .inr ⟨id, ex, h0, rfl⟩⟩, fun ev S he hS o ho => ?_⟩
    have hrow : ∃ fl, rowOf S id = .ok (l.flatMap encI.f, 1, fl) := by
      rcases hS.own hp with ⟨g0, g1, g2, g3⟩ | ⟨id', ex', g1, g2, g3, fl, g4, g5⟩
      · rw [h0] at g1; cases g1
      · rw [h0] at g1
        simp only [AV.slice.injEq] at g1
        obtain ⟨rfl, _⟩ := g1
        exact ⟨fl, by unfold rowOf; rw [g5]; rfl⟩
    obtain ⟨fl, er⟩ := hrow
    have hbd : boundsOf k l.length none (some (iv (j : Int))) none = .ok (0, j, l.length) := by
      unfold boundsOf boundOf
      simp only [Except.bind, intOf?, b1, b2, Bool.and_self, cond_true, Int.toNat_natCast]
    have c1 : (Nat.beq 1 1 && (!(Nat.beq l.length 0) || ex || Nat.beq 0 0)) = true := by cases Nat.beq l.length 0 <;> cases ex <;> rfl
    have c2 : (bif Nat.beq l.length 0 then 0 else 0 + 0 * 1) = 0 := by cases Nat.beq l.length 0 <;> rfl
    unfold aop; rw [ho]
    simp only [he _ _ hx, he _ _ hy, Option.map_some, Option.map_none, aslice, ht.1, ht.2, ofOpt, Except.bind, isLitInt, Bool.false_and, cond_false, hbd, valOf, er, c1, cond_true, c2, Nat.sub_zero]
    rfl
def pushL (a : List Int) (k : Nat) (x : Int) : List Int := if k < a.length then a.set k x else a ++ [x]
theorem pushL_take {a : List Int} {k : Nat} {x : Int} (h : k ≤ a.length) : (pushL a k x).take (k + 1) = a.take k ++ [x] := by
 unfold pushL
 by_cases h1 : k < a.length
 ·rw [if_pos h1, List.take_add_one, List.getElem?_set_self h1, List.take_set_of_le (Nat.le_refl _)];rfl
 ·have : k = a.length := by omega
  subst this;rw [if_neg h1, List.take_length, List.take_of_length_le (by simp)]
theorem Eff.push {st e b p q k : Nat} {z z2 : Bool} {v0 v w : AV} {a : List Int} {x : Int} {ts : Array TypeId} {ox oy : Operand} (h : PreOf v0 a.length k v) (ht : AppT E st e 1 b) (hts : ts[0]? = some st) (hni : notInt E ts[1]? = .ok ()) (hp : hs[p]? = some (ownL z v0 encI a)) (hq : hs[q]? = some (ownL z2 w encI [x]))
  (hx : evs σ ox = some v) (hy : evs σ oy = some w) (hb : b ≤ 128) (hbig : a.length < 100000) :
  Eff E σ hs (.call { callee := .builtin .append, args := #[ox, oy], argTypes := ts }) fun v' hs' => ∃ v0', hs' = hs.set p (ownL z v0' encI (pushL a k x)) ∧ PreOf v0' (pushL a k x).length (k + 1) v' := by
 have hle := h.1
 by_cases hk : k < a.length
 ·intro ev S he hS o ho;obtain ⟨id, ex', h1, h2⟩ : ∃ id ex, v0 = .slice id 0 (a.flatMap encI.f).length ex a.length a.length ∧ v = .slice id 0 (a.flatMap encI.f).length ex k a.length := by
   rcases h with ⟨_, ⟨_, g, _⟩ | ⟨id, ex, g1, g2⟩⟩
   ·omega
   ·have e : (a.flatMap encI.f).length = a.length := by rw [flat_len]; simp [encI]
    exact ⟨id, ex, by rw [e]; exact g1, by rw [e]; exact g2⟩
  have hfl : (a.flatMap encI.f).length = a.length := by rw [flat_len]; simp [encI]
  obtain ⟨s1, s2, s3, s4⟩ : Src S w 1 1 ([x].flatMap encI.f) := src_own hS hq (by rfl);obtain ⟨t1, t2, t3, ⟨zz, t4, t5⟩, t6, t7⟩ := ht
  have b1 : Nat.beq b 0 = false := beq_false.2 t7
  have b3 : Nat.beq ([x].flatMap encI.f).length (1 * 1) = true := rfl
  have b4 : Nat.beq (zeroCells zz).length 1 = true := by rw [t5]; rfl
  have hbb : (2 * (k + 1) + 1000) * b ≤ (2 * 100001 + 1000) * 128 := Nat.mul_le_mul (by omega) hb
  have b6 : Nat.blt ((2 * (k + 1) + 1000) * b) (2 ^ 48) = true := blt_true.2 (by omega)
  have b7 : Nat.ble (k + 1) a.length = true := Nat.ble_eq_true_of_le (by omega)
  rcases hS.own hp with ⟨g0, g1, g2, g3⟩ | ⟨id', ex2, g1, g2, g3, fl, g4, g5⟩
  ·rw [h1] at g1; cases g1
  rw [h1] at g1;simp only [AV.slice.injEq] at g1;obtain ⟨rfl, _, _, rfl, _⟩ := g1
  have er : rowOf S id = .ok (a.flatMap encI.f, 1, fl) := by unfold rowOf; rw [g5]; rfl
  have c1 : Nat.beq (a.flatMap encI.f).length (a.flatMap encI.f).length = true := Nat.beq_refl _
  have c2 : Nat.ble fl (a.flatMap encI.f).length = true := Nat.ble_eq_true_of_le g4
  have c3 : Nat.ble (0 + k * 1 + ([x].flatMap encI.f).length) (a.flatMap encI.f).length = true := Nat.ble_eq_true_of_le (by rw [hfl]; simp [encI]; omega)
  have hsp : spliceL (a.flatMap encI.f) (0 + k * 1) ([x].flatMap encI.f) = (a.set k x).flatMap encI.f := by
   have := flat_set (en := encI) (l := a) (k := k) x hk;rw [Nat.zero_add];exact this
  have hpush : pushL a k x = a.set k x := if_pos hk;refine ⟨.slice id 0 (a.flatMap encI.f).length ex' (k + 1) a.length, S.write id (.row ((a.set k x).flatMap encI.f) 1 (a.flatMap encI.f).length), _, ?_, ?_, v0, rfl, ?_⟩
  ·unfold aop; rw [ho];simp only [acall, abuiltin, List.map_cons, List.map_nil, he _ _ hx, he _ _ hy, h2, aappend, hts, t1, t2, t3, hni, s1, ofOpt, Except.bind, show Nat.beq 1 0 = false from rfl, cond_false, s2 (by decide), t4, b1, b3, b4, Bool.not_true, Bool.or_self, er, show Nat.beq 1 1 = true from rfl, b6, b7, cond_true, storeN, c1, c2, c3, s4, Bool.and_self, hsp]
  ·rw [hpush]
   have hfl2 : ((a.set k x).flatMap encI.f).length = a.length := by rw [flat_len, List.length_set]; simp [encI]
   exact hS.writeAt hp (by rw [h1]; rfl) (by rw [h1]; rfl) (.inr ⟨id, ex', by rw [h1, hfl, hfl2, List.length_set], by rw [hfl2, List.length_set]; simp [encI], fun hz => by rw [List.length_set]; exact g3 hz, (a.flatMap encI.f).length, by rw [hfl, hfl2]; exact Nat.le_refl _, by rw [write_get, if_pos rfl]; rfl⟩)
  ·rw [hpush, List.length_set];exact ⟨by omega, .inr ⟨id, ex', by rw [h1, hfl], by rw [hfl]⟩⟩
 ·have hk' : k = a.length := by omega
  subst hk'
  have hv : v = v0 := by
   rcases h with ⟨_, ⟨g1, _, g2⟩ | ⟨id, ex, g1, g2⟩⟩
   ·rw [g1, g2]
   ·rw [g1, g2]
  subst hv
  have hE := Eff.append_own (E := E) (σ := σ) (hs := hs) (en := encI) (l := a) (l2 := [x]) ht hts hni hp hq hx hy (by rfl) hb (by simp; omega);intro ev S he hS o ho;obtain ⟨v', S', hs', k1, k2, rfl⟩ := hE ev S he hS o ho
  have hpush : pushL a a.length x = a ++ [x] := if_neg (Nat.lt_irrefl _);refine ⟨v', S', _, k1, k2, v', by rw [hpush], ?_⟩;rw [hpush]
  have hg : (hs.set p (ownL z v' encI (a ++ [x])))[p]? = some (ownL z v' encI (a ++ [x])) := by
   rw [List.getElem?_set]; simp [(List.getElem?_eq_some_iff.1 hp).1]
  rcases k2.own hg with ⟨g0, g1, g2, g3⟩ | ⟨id, ex, g1, g2, g3, _⟩
  ·simp at g2
  ·have e : ((a ++ [x]).flatMap encI.f).length = (a ++ [x]).length := by rw [flat_len]; simp [encI]
   rw [e] at g1;refine ⟨by simp, .inr ⟨id, ex, g1, ?_⟩⟩;rw [g1];simp
end
end Go.Am
end
section
namespace Go.Am
open Go.RowKit
set_option linter.unusedVariables false
set_option linter.unusedSimpArgs false
structure Stk (v v0 : AV) (a s : List Int) : Prop where
 pre : PreOf v0 a.length s.length v
 top : a.take s.length = s
theorem Stk.full {v v0 : AV} {a s : List Int} (h : Stk v v0 a s) (ha : a.length ≤ s.length) : v = v0 ∧ a = s := by
 have hl : s.length = a.length := by have := h.pre.1; omega
 refine ⟨?_, ?_⟩
 ·rcases h.pre with ⟨_, ⟨h1, _, h2⟩ | ⟨id, ex, h1, h2⟩⟩
  ·rw [h1, h2]
  ·rw [h1, h2, hl]
 ·have := h.top;rw [hl, List.take_length] at this;exact this
theorem Stk.get {v v0 : AV} {a s : List Int} (h : Stk v v0 a s) {n : Nat} {x : Int} (hx : s[n]? = some x) : a[n]? = some x := by
 have hn := (List.getElem?_eq_some_iff.1 hx).1;rw [← h.top, List.getElem?_take_of_lt hn] at hx;exact hx
theorem Stk.set {v v0 : AV} {a s : List Int} (h : Stk v v0 a s) (n : Nat) (y : Int) : Stk v v0 (a.set n y) (s.set n y) :=
 ⟨by rw [List.length_set, List.length_set]; exact h.pre, by rw [List.length_set, List.take_set, h.top]⟩
theorem Stk.push {v v0 v' v0' : AV} {a s : List Int} {x : Int} (h : Stk v v0 a s) (hp : PreOf v0' (pushL a s.length x).length (s.length + 1) v') : Stk v' v0' (pushL a s.length x) (s ++ [x]) := by
 refine ⟨by rw [List.length_append]; exact hp, ?_⟩;rw [List.length_append, List.length_singleton, pushL_take h.pre.le, h.top]
theorem Stk.cut {v v0 w : AV} {a s : List Int} {j : Nat} (h : Stk v v0 a s) (hj : j ≤ s.length) (hp : PreOf v0 a.length j w) : Stk w v0 a (s.take j) := by
 have e : (s.take j).length = j := by rw [List.length_take]; omega
 refine ⟨by rw [e]; exact hp, ?_⟩;rw [e]
 have := congrArg (List.take j) h.top
 rwa [List.take_take, Nat.min_eq_left hj] at this
theorem push_len {a : List Int} {k m : Nat} {x : Int} (hk : k < m) (ha : a.length ≤ m) (hka : k ≤ a.length) : (pushL a k x).length ≤ m := by
 unfold pushL
 by_cases h : k < a.length
 ·rw [if_pos h, List.length_set]; exact ha
 ·rw [if_neg h, List.length_append, List.length_singleton]; omega
theorem Val.slice_pre_ {v v0 : AV} {a s : List Int} (h : Stk v v0 a s) {j : Nat} (hj : j ≤ s.length) : ∃ w, PreOf v0 a.length j w ∧ ∀ {E : Env} {σ : Sl} {hs : List Thing} {p : Nat} {z : Bool} {st et : TypeId} {x y : Operand}, hs[p]? = some (ownL z v0 encI a) → SliceT E st et 1 → evs σ x = some v → evs σ y = some (iv (j : Int)) → Val E σ hs (.slice st x none (some y) none) w := by
 have hle := h.pre.1
 rcases h.pre with ⟨_, ⟨h0, h2, h3⟩ | ⟨id, ex, h0, h3⟩⟩
 ·refine ⟨nilS, ⟨by omega, .inl ⟨h0, h2, rfl⟩⟩, fun {E σ hs p z st et x y} hp ht hx hy => ?_⟩;obtain ⟨w, hw, hv⟩ := Val.slice_pre h.pre hp ht hx hy rfl hj
  rcases hw with ⟨_, ⟨_, _, e⟩ | ⟨id, ex, e, _⟩⟩
  ·rwa [e] at hv
  ·rw [h0] at e; cases e
 ·refine ⟨.slice id 0 a.length ex j a.length, ⟨by omega, .inr ⟨id, ex, h0, rfl⟩⟩, fun {E σ hs p z st et x y} hp ht hx hy => ?_⟩;obtain ⟨w, hw, hv⟩ := Val.slice_pre h.pre hp ht hx hy rfl hj
  rcases hw with ⟨_, ⟨e, _, _⟩ | ⟨id', ex', e, e'⟩⟩
  ·rw [h0] at e; cases e
  ·rw [h0] at e;simp only [AV.slice.injEq] at e;obtain ⟨rfl, _, _, rfl, _⟩ := e
   rwa [e'] at hv
def RdP (C : List Thing) (v : AV) (l : List Int) : Prop := ∃ z v0 a, ownL z v0 encI a ∈ C ∧ Stk v v0 a l
theorem Val.len_P {C hs : List Thing} {E : Env} {σ : Sl} {v : AV} {l : List Int} {x : Operand} {st e : TypeId} (h : RdP C v l) (hC : ∀ x ∈ C, x ∈ hs) (ht : E.und st = some (.slice e)) (hx : evs σ x = some v) :
  Val E σ hs (.call { callee := .builtin .len, args := #[x], argTypes := #[st] }) (iv l.length) := by
 obtain ⟨z, v0, a, _, h⟩ := h;exact Val.len_pre h.pre ht hx
theorem rdP_at {C hs : List Thing} {v : AV} {l : List Int} {k a0 : Int} (h : RdP C v l) (hC : ∀ x ∈ C, x ∈ hs) (hk : 0 ≤ k ∧ k < l.length) (ha : l[k.toNat]? = some a0) :
  ∀ S, HasS S hs → ∃ p, PtE C encI a0 0 p ∧ ∀ {E : Env} {σ : Sl} {hs : List Thing} {st e : TypeId} {x y : Operand}, SliceT E st e encI.u → evs σ x = some v → evs σ y = some (iv k) → Val E σ hs (.indexAddr st x y) p := fun S _ => by
 obtain ⟨z, v0, a, hm, h⟩ := h;obtain ⟨id, ex, ⟨ex', h1⟩, h2⟩ := h.pre.at (by omega);refine ⟨.ptr id (k.toNat * encI.u) (a.flatMap encI.f).length, PtE.own (j := 0) hm h1 (h.get ha), fun {E σ hs st e x y} ht hx hy => ?_⟩;exact Val.iaddr_pre h.pre ⟨ex', h1⟩ ht hx hy hk
def extS (s : List Int) (n : Nat) : List Int := if n = s.length then s ++ [0] else s
def wkSet (s : List Int) (n i : Nat) : List Int := (extS s n).set n ((extS s n).getD n 0 + 2 ^ i)
def wk : Nat → Nat → List Int → List Int → List (List Int × List Int)
 | 0, _, t, s => [(t, s)]
 | m + 1, i, t, s => (List.range (s.length + 1)).flatMap fun n : Nat => wk m (i + 1) (t ++ [(n : Int)]) (wkSet s n i)
def walksOf (many : Nat) : List (List Int × List Int) := wk many 0 [] []
structure GoodS (i : Nat) (s : List Int) : Prop where
 len : s.length ≤ i
 el : ∀ x ∈ s, 0 < x ∧ x < 2 ^ i
theorem extS_at {s : List Int} {n : Nat} (h : n ≤ s.length) : ∃ x, (extS s n)[n]? = some x ∧ (n < s.length → s[n]? = some x) ∧ (n = s.length → x = 0) := by
 unfold extS
 by_cases e : n = s.length
 ·rw [if_pos e];exact ⟨0, by rw [e]; simp, fun h => by omega, fun _ => rfl⟩
 ·rw [if_neg e]
  have hn : n < s.length := by omega
  exact ⟨s[n], List.getElem?_eq_getElem hn, fun _ => List.getElem?_eq_getElem hn, fun h => absurd h e⟩
theorem extS_len {s : List Int} {n : Nat} (h : n ≤ s.length) : n < (extS s n).length ∧ (extS s n).length ≤ s.length + 1 ∧ (extS s n).length ≤ max s.length (n + 1) := by
 unfold extS;split
 ·rw [List.length_append, List.length_singleton]; omega
 ·omega
theorem wkSet_of {s : List Int} {n i : Nat} {x : Int} (hx : (extS s n)[n]? = some x) : wkSet s n i = (extS s n).set n (x + 2 ^ i) := by
 unfold wkSet;rw [List.getD_eq_getElem?_getD, hx];rfl
theorem wkSet_back {s : List Int} {n i : Nat} {x : Int} (hx : (extS s n)[n]? = some x) : (wkSet s n i).set n x = extS s n := by
 rw [wkSet_of hx, List.set_set];refine List.ext_getElem? fun j => ?_
 rw [List.getElem?_set]
 by_cases e : n = j
 ·subst e;rw [if_pos rfl, if_pos (List.getElem?_eq_some_iff.1 hx).1, hx]
 ·rw [if_neg e]
theorem extS_cut {s : List Int} {n : Nat} (h : n = s.length) : (extS s n).take n = s := by
 unfold extS;rw [if_pos h, h];simp
theorem pow_pos' (i : Nat) : (0 : Int) < 2 ^ i := Int.pow_pos (by decide)
theorem GoodS.ext {i n : Nat} {s : List Int} (h : GoodS i s) (hn : n ≤ s.length) {x : Int} (hx : (extS s n)[n]? = some x) : 0 ≤ x ∧ x < 2 ^ i ∧ (n < s.length → x ≠ 0) := by
 obtain ⟨y, h1, h2, h3⟩ := extS_at hn;rw [hx] at h1;cases h1
 by_cases e : n = s.length
 ·rw [h3 e];exact ⟨Int.le_refl _, pow_pos' i, fun h => by omega⟩
 ·have := h.el x (List.mem_of_getElem? (h2 (by omega)));exact ⟨by omega, this.2, fun _ => by omega⟩
theorem wkSet_new {s : List Int} {n i : Nat} (h : n = s.length) : wkSet s n i = s ++ [2 ^ i] := by
 subst h;unfold wkSet extS;rw [if_pos rfl, List.getD_eq_getElem?_getD];simp
theorem GoodS.next {i n : Nat} {s : List Int} (h : GoodS i s) (hn : n ≤ s.length) : GoodS (i + 1) (wkSet s n i) := by
 have hp := pow_pos' i
 have e2 : (2 : Int) ^ (i + 1) = 2 ^ i * 2 := Int.pow_succ 2 i
 have hl := h.len
 by_cases e : n = s.length
 ·rw [wkSet_new e];refine ⟨by simp; omega, fun y hy => ?_⟩
  rcases List.mem_append.1 hy with hy | hy
  ·have := h.el y hy;omega
  ·have := List.mem_singleton.1 hy;omega
 ·obtain ⟨x, hx, _, _⟩ := extS_at hn
  have hxr := h.ext hn hx
  have he : extS s n = s := if_neg e;rw [wkSet_of hx, he];refine ⟨by rw [List.length_set]; omega, fun y hy => ?_⟩
  rcases List.mem_or_eq_of_mem_set hy with hy | hy
  ·have := h.el y hy;omega
  ·subst hy;omega
theorem bits_small : ∀ i : Fin 6, ∀ x : Fin 32, x.val < 2 ^ i.val → orI (x.val : Int) (shlI 1 (i.val : Int)) = (x.val : Int) + 2 ^ i.val ∧ andNotI ((x.val : Int) + 2 ^ i.val) (shlI 1 (i.val : Int)) = (x.val : Int) := by decide +kernel
theorem bit_ops {i : Nat} {x : Int} (hi : i ≤ 5) (h0 : 0 ≤ x) (hx : x < 2 ^ i) : orI x (shlI 1 i) = x + 2 ^ i ∧ andNotI (x + 2 ^ i) (shlI 1 i) = x := by
 have h5 : (2 : Int) ^ i ≤ 2 ^ 5 := by
  have : (2 : Nat) ^ i ≤ 2 ^ 5 := Nat.pow_le_pow_right (by decide) hi
  exact_mod_cast this
 have e5 : (2 : Int) ^ 5 = 32 := by decide
 obtain ⟨y, rfl⟩ : ∃ y : Nat, x = y := ⟨x.toNat, by omega⟩
 have hy : y < 2 ^ i := by exact_mod_cast hx
 exact bits_small ⟨i, by omega⟩ ⟨y, by omega⟩ hy
theorem bit_ok {i : Nat} (hi : i ≤ 5) : ((0 : Int) ≤ (i : Int) ∧ (i : Int) < 64) ∧ I64 (shlI 1 i) := by
 have key : ∀ i : Fin 6, I64 (shlI 1 (i.val : Int)) := by decide +kernel
 exact ⟨by omega, key ⟨i, by omega⟩⟩
end Go.Am
end
section
namespace Go.Am
set_option linter.unusedVariables false
noncomputable def P_s9_Walk_L2 (books : List Int) (x11 : Int) (a14 : Int) : Int → Option (Stp Int (Ex Unit Int)) := fun x8 =>
  if x8 < ((List.take (x11 - (0 : Int)).toNat (List.drop ((0 : Int) : Int).toNat books)).length : Int) then
    el (List.take (x11 - (0 : Int)).toNat (List.drop ((0 : Int) : Int).toNat books)) x8 fun a14_2 =>
    if a14 = a14_2 then
      some (Stp.dn (Ex.rt x8))
    else
      chk (I64 (x8 + 1)) (
        some (Stp.ag (x8 + 1)))
  else
    some (Stp.dn (Ex.nx ()))
noncomputable def P_s9_Walk_L1 (books : List Int) : Int → Option (Stp Int (Ex Unit (Int × Int))) := fun x11 =>
  if x11 < (books.length : Int) then
    el books x11 fun a14 =>
    andx (
      chk (0 ≤ (0 : Int) ∧ (0 : Int) ≤ x11 ∧ x11 ≤ (books.length : Int)) (
        andx (
          seqx (
            iter (P_s9_Walk_L2 books x11 a14) 0) fun _ =>
            some (-1)) fun y7 =>
          if y7 ≥ 0 then
            some 5
          else
            some 0)) fun y19 =>
      if ¬ y19 = 0 then
        some (Stp.dn (Ex.rt (x11, y19)))
      else
        chk (I64 (x11 + 1)) (
          some (Stp.ag (x11 + 1)))
  else
    some (Stp.dn (Ex.nx ()))
noncomputable def P_s9_Walk_L3 (qC : List qA) (books : List Int) (carry : Int) : Int → Option (Stp Int (Ex Unit ((List Int) × Bool × Int × Int))) := fun x55 =>
  if x55 < (books.length : Int) then
    el books x55 fun a57 =>
    el qC a57 fun a62 =>
    if a62.heavy > carry then
      some (Stp.dn (Ex.rt ([], true, 0, 9)))
    else
      chk (I64 (x55 + 1)) (
        some (Stp.ag (x55 + 1)))
  else
    some (Stp.dn (Ex.nx ()))
noncomputable def P_s9_Walk_L5 (qE : List Str) (qF : List qD) (qC : List qA) (books : List Int) (carry : Int) (p : List Int × List Int) : (Int × Bool × Int) → Option (Stp (Int × Bool × Int) (Int × Bool)) := fun (sum, light, x75) =>
  if x75 < (p.2.length : Int) then
    andx (
      el p.2 x75 fun a77 =>
      andx (P_s9_trip qE qF qC books a77) fun (y83, y83_2) =>
        chk (I64 (sum + y83)) (
          if light = true then
            some ((sum + y83), decide (y83_2 ≤ carry))
          else
            some ((sum + y83), false))) fun (sum_2, light_2) =>
      chk (I64 (x75 + 1)) (
        some (Stp.ag (sum_2, light_2, (x75 + 1))))
  else
    some (Stp.dn (sum, light))
noncomputable def P_s9_Walk_L4 (qE : List Str) (qF : List qD) (qC : List qA) (books : List Int) (carry : Int) : ((List Int) × Bool × Bool × Int) → (List Int × List Int) → Option (Stp ((List Int) × Bool × Bool × Int) ((List Int) × Bool × Bool × Int)) := fun (trips, z, found, way) p =>
  andx (
    iter (P_s9_Walk_L5 qE qF qC books carry p) (0, true, 0)) fun (sum, light) =>
    andx (
      if light = true then
        if found = true then
          some (decide (sum < way), true)
        else
          some (true, false)
      else
        some (false, found)) fun (x105, found_2) =>
      if x105 = true then
        chk (p.1.length < 1000) (
          some (Stp.ag (p.1, false, true, sum)))
      else
        some (Stp.ag (trips, z, found_2, way))
noncomputable def P_s9_Walk (qE : List Str) (qF : List qD) (qC : List qA) (books : List Int) (carry : Int) : Option ((List Int) × Bool × Int × Int) :=
  andx (P_s9_open qE qF qC) fun y23 =>
    if ¬ y23 = 0 then
      some ([], true, 0, y23)
    else
      if (books.length : Int) > 6 then
        some ([], true, 0, 3)
      else
        chk (I64 ((qC.length : Int) - 1)) (
          andx (P_s9_out 0 ((qC.length : Int) - 1) books) fun y40 =>
            if y40 = true then
              some ([], true, 0, 4)
            else
              andx (
                seqx (
                  iter (P_s9_Walk_L1 books) 0) fun _ =>
                  some (0, 0)) fun (y44, y44_2) =>
                if ¬ y44_2 = 0 then
                  some ([], true, 0, y44_2)
                else
                  andx (P_s9_out 1 100 [carry]) fun y52 =>
                    if y52 = true then
                      some ([], true, 0, 7)
                    else
                      seqx (
                        iter (P_s9_Walk_L3 qC books carry) 0) fun _ =>
                        andx (
                          chk (books.length ≤ 6) (
                            seqx (foldx (P_s9_Walk_L4 qE qF qC books carry) (walksOf books.length) ([], true, false, 0)) fun (trips, z, found, way) =>
                              some (trips, z, found, way))) fun (trips, z, found, way) =>
                          some (trips, z, way, 0))
end Go.Am
end
