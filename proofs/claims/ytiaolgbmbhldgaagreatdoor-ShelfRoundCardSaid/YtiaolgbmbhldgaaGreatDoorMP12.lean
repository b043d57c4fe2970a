/- Part 12. -/
import Derived.Test.YtiaolgbmbhldgaaGreatDoorMP1
import Derived.Test.YtiaolgbmbhldgaaGreatDoorMP2
import Derived.Test.YtiaolgbmbhldgaaGreatDoorMP9
import Derived.Test.YtiaolgbmbhldgaaGreatDoorMP11
section
namespace Go.Am.YtiaolgbmbhldgaaGreatDoor
open Go.Am Go.RowKit
def glbS : List (Nat × List Value) := [(3, pow10L.map (.int .u64))]
def ogS : Nat → List (Nat × List Value)
 | 3 => glbS
 | 8 => glbS
 | _ => []
noncomputable def envG (orc : Orc') : Env := { envS orc with og := ogS }
theorem goodG {orc : Orc'} (h : ∀ f g, orc f = some g → Meets Go.Proofs.Tryz.prog f g (ogS f)) : EnvGood (envG orc) :=
 have k : EnvGood (envS fun _ => none) := goodS fun f g h => by cases h
 ⟨⟨k.ok.und, k.ok.info, k.ok.byt, k.ok.zro, k.ok.fn, k.ok.ext⟩, h, k.body, k.mixed, k.eff⟩
def lev : Nat → Option Nat
 | 3 => some 2
 | 8 => some 2
 | 9 => some 2
 | 15 => some 2
 | 16 => some 0
 | 17 => some 0
 | 19 => some 1
 | 20 => some 1
 | 21 => some 1
 | 22 => some 1
 | 23 => some 1
 | 25 => some 1
 | 28 => some 1
 | 29 => some 1
 | 31 => some 2
 | 49 => some 1
 | 112 => some 1
 | _ => none
noncomputable def baseE : Orc' := fun f => match f with | 24 => some (table [([], .lit (.bool true))]) | 130 => some cmpT | _ => none
theorem baseE_ok : ∀ f g, baseE f = some g → Meets Go.Proofs.Tryz.prog f g (ogS f) := fun f g h => by
 unfold baseE at h;split at h
 ·cases h; exact Closed.awake_meets
 ·cases h; exact cmp_meets
 ·cases h
noncomputable def EL (k : Nat) : Env := envG (orsB baseE envG lev k)
theorem EL_good (k : Nat) : EnvGood (EL k) := orsB_good (P := Go.Proofs.Tryz.prog) (fun _ => rfl) (fun _ => rfl) baseE_ok (fun _ h => goodG h) (fun _ => rfl) k
theorem orcL {f j k : Nat} (h : lev f = some j) (hk : j < k) : (EL k).orc f = some (sem (EL j) f) := orsLB (fun _ => rfl) h hk
theorem orcN {f k : Nat} (h : levB baseE lev f = none) : (EL k).orc f = none := orsNB (fun _ => rfl) h
theorem orcA {k : Nat} : (EL k).orc 24 = some (table [([], .lit (.bool true))]) := by
 show orsB baseE envG lev k 24 = _;rw [orsB_base rfl];rfl
theorem orcC {k : Nat} : (EL k).orc 130 = some cmpT := by
 show orsB baseE envG lev k 130 = _;rw [orsB_base rfl];rfl
theorem bo_ty4 {k : Nat} : pureVal (EL k).P (underlying 4) = some .bool := show pureVal Go.Proofs.Tryz.prog (underlying 4) = some .bool by kernel_rfl
theorem hu_cv2 : pureVal Go.Proofs.Tryz.prog (underlying 2) = some Go.Proofs.Tryz.t2.desc := by kernel_rfl
theorem hu_cv3 : pureVal Go.Proofs.Tryz.prog (underlying 3) = some Go.Proofs.Tryz.t3.desc := by kernel_rfl
theorem hu_cv5 : pureVal Go.Proofs.Tryz.prog (underlying 5) = some Go.Proofs.Tryz.t5.desc := by kernel_rfl
theorem hu_cv65 : pureVal Go.Proofs.Tryz.prog (underlying 65) = some Go.Proofs.Tryz.t65.desc := by kernel_rfl
theorem hu_cv172 : pureVal Go.Proofs.Tryz.prog (underlying 172) = some Go.Proofs.Tryz.t172.desc := by kernel_rfl
theorem hu_cv194 : pureVal Go.Proofs.Tryz.prog (underlying 194) = some Go.Proofs.Tryz.t194.desc := by kernel_rfl
theorem hu_cv196 : pureVal Go.Proofs.Tryz.prog (underlying 196) = some Go.Proofs.Tryz.t196.desc := by kernel_rfl
theorem hu_cv207 : pureVal Go.Proofs.Tryz.prog (underlying 207) = some Go.Proofs.Tryz.t196.desc := by kernel_rfl
theorem cv_ty2_196 {k : Nat} {a : Int} (h : 0 ≤ a ∧ a < 18446744073709551616) : pureVal (EL k).P (convert 2 196 (.int .i64 a)) = some (.int .u64 a) := pure_conv (P := Go.Proofs.Tryz.prog) hu_cv2 hu_cv196 (InK.u64 h)
theorem cv_ty3_5 {k : Nat} {a : Int} (h : 0 ≤ a ∧ a < 256) : pureVal (EL k).P (convert 3 5 (.int .i64 a)) = some (.int .u8 a) := pure_conv (P := Go.Proofs.Tryz.prog) hu_cv3 hu_cv5 (InK.u8 h)
theorem cv_ty3_172 {k : Nat} {a : Int} (h : 0 ≤ a ∧ a < 18446744073709551616) : pureVal (EL k).P (convert 3 172 (.int .i64 a)) = some (.int .u64 a) := pure_conv (P := Go.Proofs.Tryz.prog) hu_cv3 hu_cv172 (InK.u64 h)
theorem cv_ty3_196 {k : Nat} {a : Int} (h : 0 ≤ a ∧ a < 18446744073709551616) : pureVal (EL k).P (convert 3 196 (.int .i64 a)) = some (.int .u64 a) := pure_conv (P := Go.Proofs.Tryz.prog) hu_cv3 hu_cv196 (InK.u64 h)
theorem cv_ty3_207 {k : Nat} {a : Int} (h : 0 ≤ a ∧ a < 18446744073709551616) : pureVal (EL k).P (convert 3 207 (.int .i64 a)) = some (.int .u64 a) := pure_conv (P := Go.Proofs.Tryz.prog) hu_cv3 hu_cv207 (InK.u64 h)
theorem cv_ty5_3 {k : Nat} {a : Int} (h : -9223372036854775808 ≤ a ∧ a < 9223372036854775808) : pureVal (EL k).P (convert 5 3 (.int .u8 a)) = some (.int .i64 a) := pure_conv (P := Go.Proofs.Tryz.prog) hu_cv5 hu_cv3 (wrap_id h.1 h.2)
theorem cv_ty5_196 {k : Nat} {a : Int} (h : 0 ≤ a ∧ a < 18446744073709551616) : pureVal (EL k).P (convert 5 196 (.int .u8 a)) = some (.int .u64 a) := pure_conv (P := Go.Proofs.Tryz.prog) hu_cv5 hu_cv196 (InK.u64 h)
theorem cv_ty65_3 {k : Nat} {a : Int} (h : -9223372036854775808 ≤ a ∧ a < 9223372036854775808) : pureVal (EL k).P (convert 65 3 (.int .u16 a)) = some (.int .i64 a) := pure_conv (P := Go.Proofs.Tryz.prog) hu_cv65 hu_cv3 (wrap_id h.1 h.2)
theorem cv_ty172_3 {k : Nat} {a : Int} (h : -9223372036854775808 ≤ a ∧ a < 9223372036854775808) : pureVal (EL k).P (convert 172 3 (.int .u64 a)) = some (.int .i64 a) := pure_conv (P := Go.Proofs.Tryz.prog) hu_cv172 hu_cv3 (wrap_id h.1 h.2)
theorem cv_ty172_194 {k : Nat} {a : Int} (h : 0 ≤ a ∧ a < 4294967296) : pureVal (EL k).P (convert 172 194 (.int .u64 a)) = some (.int .u32 a) := pure_conv (P := Go.Proofs.Tryz.prog) hu_cv172 hu_cv194 (InK.u32 h)
theorem cv_ty194_5 {k : Nat} {a : Int} (h : 0 ≤ a ∧ a < 256) : pureVal (EL k).P (convert 194 5 (.int .u32 a)) = some (.int .u8 a) := pure_conv (P := Go.Proofs.Tryz.prog) hu_cv194 hu_cv5 (InK.u8 h)
theorem cv_ty196_2 {k : Nat} {a : Int} (h : -9223372036854775808 ≤ a ∧ a < 9223372036854775808) : pureVal (EL k).P (convert 196 2 (.int .u64 a)) = some (.int .i64 a) := pure_conv (P := Go.Proofs.Tryz.prog) hu_cv196 hu_cv2 (wrap_id h.1 h.2)
theorem cv_ty196_5 {k : Nat} {a : Int} (h : 0 ≤ a ∧ a < 256) : pureVal (EL k).P (convert 196 5 (.int .u64 a)) = some (.int .u8 a) := pure_conv (P := Go.Proofs.Tryz.prog) hu_cv196 hu_cv5 (InK.u8 h)
theorem cv_ty196_194 {k : Nat} {a : Int} (h : 0 ≤ a ∧ a < 4294967296) : pureVal (EL k).P (convert 196 194 (.int .u64 a)) = some (.int .u32 a) := pure_conv (P := Go.Proofs.Tryz.prog) hu_cv196 hu_cv194 (InK.u32 h)
theorem hu_ty28 : pureVal Go.Proofs.Tryz.prog (underlying 28) = some Go.Proofs.Tryz.t27.desc := by kernel_rfl
theorem eql_ty28 {k : Nat} (x y : Operand) (a0 : Int) (a1 : Int) (a2 : Str) (b0 : Int) (b1 : Int) (b2 : Str) : abin (EL k) .eql 28 x y (.agg [iv a0, iv a1, sv a2]) (.agg [iv b0, iv b1, sv b2]) = .ok (bv (a0 == b0 && a1 == b1 && a2 == b2)) ∧ ((a0 == b0 && a1 == b1 && a2 == b2) = true ↔ a0 = b0 ∧ a1 = b1 ∧ a2 = b2) := by
 refine ⟨abin_agg (A := .agg #[.int .i64 a0, .int .i64 a1, .string ⟨a2.toArray⟩]) (B := .agg #[.int .i64 b0, .int .i64 b1, .string ⟨b2.toArray⟩]) (by simp) rfl rfl ?_ (bin_eql (pure_eqF3 (hu_ty28) ?_ (.int (by decide) ⟨.i64, by kernel_rfl⟩ (by kernel_rfl) (by kernel_rfl)) (.int (by decide) ⟨.i64, by kernel_rfl⟩ (by kernel_rfl) (by kernel_rfl)) (.str (by decide) (by kernel_rfl) (by kernel_rfl) (by kernel_rfl)))), by by_cases h0 : a0 = b0 <;> by_cases h1 : a1 = b1 <;> by_cases h2 : a2 = b2 <;> simp [h0, h1, h2]⟩
 all_goals kernel_rfl
theorem neq_ty28 {k : Nat} (x y : Operand) (a0 : Int) (a1 : Int) (a2 : Str) (b0 : Int) (b1 : Int) (b2 : Str) : abin (EL k) .neq 28 x y (.agg [iv a0, iv a1, sv a2]) (.agg [iv b0, iv b1, sv b2]) = .ok (bv (!(a0 == b0 && a1 == b1 && a2 == b2))) ∧ ((!(a0 == b0 && a1 == b1 && a2 == b2)) = true ↔ ¬ (a0 = b0 ∧ a1 = b1 ∧ a2 = b2)) := by
 refine ⟨abin_agg (A := .agg #[.int .i64 a0, .int .i64 a1, .string ⟨a2.toArray⟩]) (B := .agg #[.int .i64 b0, .int .i64 b1, .string ⟨b2.toArray⟩]) (by simp) rfl rfl ?_ (bin_neq (pure_eqF3 (hu_ty28) ?_ (.int (by decide) ⟨.i64, by kernel_rfl⟩ (by kernel_rfl) (by kernel_rfl)) (.int (by decide) ⟨.i64, by kernel_rfl⟩ (by kernel_rfl) (by kernel_rfl)) (.str (by decide) (by kernel_rfl) (by kernel_rfl) (by kernel_rfl)))), by by_cases h0 : a0 = b0 <;> by_cases h1 : a1 = b1 <;> by_cases h2 : a2 = b2 <;> simp [h0, h1, h2]⟩
 all_goals kernel_rfl
end Go.Am.YtiaolgbmbhldgaaGreatDoor
end
section
namespace Go.Am
set_option linter.unusedVariables false
structure qH where
 away : Int
 climb : Int
 wide : Int
 high : Int
def qN : En qH := ⟨4, fun x => [iv x.away, iv x.climb, iv x.wide, iv x.high], fun _ => rfl⟩
theorem qAc : qN.Tr := fun _ _ _ => .cons .lit (.cons .lit (.cons .lit (.cons .lit (.nil))))
structure qG where
 qU : Int
 qV : Int
 qW : Str
 wide : Int
 high : Int
 heavy : Int
 shelf : Int
def qL : En qG := ⟨7, fun x => [iv x.qU, iv x.qV, sv x.qW, iv x.wide, iv x.high, iv x.heavy, iv x.shelf], fun _ => rfl⟩
theorem qAb : qL.Tr := fun _ _ _ => .cons .lit (.cons .lit (.cons .lit (.cons .lit (.cons .lit (.cons .lit (.cons .lit (.nil)))))))
structure qM where
 classv : Int
 number : Int
 suffix : Str
def qAd : En qM := ⟨3, fun x => [iv x.classv, iv x.number, sv x.suffix], fun _ => rfl⟩
end Go.Am
end
section
namespace Go.Am
set_option linter.unusedVariables false
noncomputable def P_r9_in (n : Int) (low : Int) (high : Int) : Option Bool :=
  andx (
    if low ≤ n then
      some (decide (n ≤ high))
    else
      some false) fun x6 =>
    some x6
noncomputable def P_r9_letters_L1 (s : Str) : Int → Option (Stp Int (Ex Unit Bool)) := fun i =>
  if i < (s.length : Int) then
    seqx (
      andx (
        chk (0 ≤ i ∧ i < (s.length : Int)) (
          if (byteAt s i) < 97 then
            some true
          else
            chk (0 ≤ i ∧ i < (s.length : Int)) (
              some (decide ((byteAt s i) > 122))))) fun x19 =>
        if x19 = true then
          some (Ex.rt (Stp.dn (Ex.rt false)))
        else
          some (Ex.nx ())) fun _ =>
      chk (I64 (i + 1)) (
        some (Stp.ag (i + 1)))
  else
    some (Stp.dn (Ex.nx ()))
noncomputable def P_r9_letters (s : Str) : Option Bool :=
  seqx (
    iter (P_r9_letters_L1 s) 0) fun _ =>
    some true
noncomputable def P_r1_Name_L1 (s : Str) : Int → Option (Stp Int (Ex Unit Bool)) := fun i =>
  if i < (s.length : Int) then
    seqx (
      andx (
        chk (0 ≤ i ∧ i < (s.length : Int)) (
          andx (
            if (byteAt s i) ≥ 97 then
              some (decide ((byteAt s i) ≤ 122))
            else
              some false) fun x2 =>
            if x2 = true then
              some false
            else
              if i = 0 then
                some true
              else
                chk (0 ≤ i ∧ i < (s.length : Int)) (
                  andx (
                    if (byteAt s i) ≥ 48 then
                      some (decide ((byteAt s i) ≤ 57))
                    else
                      some false) fun x2_2 =>
                    if x2_2 = true then
                      some false
                    else
                      chk (0 ≤ i ∧ i < (s.length : Int)) (
                        some (decide (¬ (byteAt s i) = 46)))))) fun x39 =>
        if x39 = true then
          some (Ex.rt (Stp.dn (Ex.rt false)))
        else
          some (Ex.nx ())) fun _ =>
      chk (I64 (i + 1)) (
        some (Stp.ag (i + 1)))
  else
    some (Stp.dn (Ex.nx ()))
noncomputable def P_r1_Name (s : Str) : Option Bool :=
  seqx (
    andx (
      if (s.length : Int) = 0 then
        some true
      else
        some (decide ((s.length : Int) > 16))) fun x11 =>
      if x11 = true then
        some (Ex.rt false)
      else
        some (Ex.nx ())) fun _ =>
    seqx (
      iter (P_r1_Name_L1 s) 0) fun _ =>
      some true
noncomputable def P_r1_Place_L1 (list : List Str) (word : Str) : Int → Option (Stp Int Int) := fun at_ =>
  seqx (
    andx (
      if at_ ≥ 0 then
        el list at_ fun a15 =>
        some (decide (¬ a15 = word))
      else
        some false) fun x19 =>
      if x19 = true then
        some (Ex.nx ())
      else
        some (Ex.rt (Stp.dn at_))) fun _ =>
    chk (I64 (at_ - 1)) (
      some (Stp.ag (at_ - 1)))
noncomputable def P_r1_Place_L2 (list : List Str) (word : Str) (at_ : Int) : Int → Option (Stp Int (Ex Unit Int)) := fun i =>
  if i < at_ then
    el list i fun a29 =>
    if a29 = word then
      some (Stp.dn (Ex.rt i))
    else
      chk (I64 (i + 1)) (
        some (Stp.ag (i + 1)))
  else
    some (Stp.dn (Ex.nx ()))
noncomputable def P_r1_Place (list : List Str) (word : Str) : Option Int :=
  chk (I64 ((list.length : Int) - 1)) (
    andx (
      iter (P_r1_Place_L1 list word) ((list.length : Int) - 1)) fun at_ =>
      seqx (
        iter (P_r1_Place_L2 list word at_) 0) fun _ =>
        some at_)
noncomputable def P_r1_Fresh (word : Str) (others : List Str) : Option Int :=
  andx (
    andx (P_r1_Place others word) fun y8 =>
      if y8 ≥ 0 then
        some 5
      else
        some 0) fun e =>
    andx (
      andx (P_r1_Name word) fun y11 =>
        if y11 = true then
          some e
        else
          some 6) fun e_2 =>
      some e_2
noncomputable def P_r9_Mark (qD : List Str) (qE : List qH) (qF : List qG) (m_Class : Int) (m_Number : Int) (m_Suffix : Str) : Option Int :=
  chk (I64 ((qD.length : Int) - 1)) (
    andx (P_r9_in m_Class 0 ((qD.length : Int) - 1)) fun y11 =>
      if y11 = true then
        andx (P_r9_in m_Number 1 9999) fun y15 =>
          if y15 = true then
            seqx (
              andx (
                if (m_Suffix.length : Int) > 2 then
                  some true
                else
                  andx (P_r9_letters m_Suffix) fun y24 =>
                    some (!y24)) fun x26 =>
                if x26 = true then
                  some (Ex.rt 6)
                else
                  some (Ex.nx ())) fun _ =>
              some 0
          else
            some 7
      else
        some 4)
noncomputable def P_r9_Own_L1 (books : List qG) : (Int × (List Int)) → Option (Stp (Int × (List Int)) (List Int)) := fun (i, out) =>
  if i < (books.length : Int) then
    el books i fun a14 =>
    chk (out.length + [a14.shelf].length < 1000000000) (
      chk (I64 (i + 1)) (
        some (Stp.ag ((i + 1), out ++ [a14.shelf]))))
  else
    some (Stp.dn out)
noncomputable def P_r9_Own (books : List qG) : Option (List Int) :=
  andx (
    iter (P_r9_Own_L1 books) (0, [])) fun out =>
    some out
noncomputable def P_r9_Book_L1 (qQ : Int) (qR : Int) (qS : Str) (before : List qG) : (Int × Int) → Option (Stp (Int × Int) Int) := fun (e_2, i) =>
  seqx (
    andx (
      if i < (before.length : Int) then
        some (decide (e_2 = 0))
      else
        some false) fun x40 =>
      if x40 = true then
        some (Ex.nx ())
      else
        some (Ex.rt (Stp.dn e_2))) fun _ =>
    andx (
      el before i fun a45 =>
      if a45.qU = qQ ∧ a45.qV = qR ∧ a45.qW = qS then
        some 5
      else
        some e_2) fun e_3 =>
      chk (I64 (i + 1)) (
        some (Stp.ag (e_3, (i + 1))))
noncomputable def P_r9_Book (qD : List Str) (qE : List qH) (qF : List qG) (qQ : Int) (qR : Int) (qS : Str) (qP : Int) (qO : Int) (qT : Int) (qX : Int) (before : List qG) : Option Int :=
  andx (P_r9_Mark qD qE qF qQ qR qS) fun y12 =>
    andx (
      andx (
        if y12 = 0 then
          andx (P_r9_in qP 1 2000) fun y18 =>
            if y18 = true then
              andx (P_r9_in qO 1 2000) fun y23 =>
                if y23 = true then
                  andx (P_r9_in qT 1 100) fun y29 =>
                    some (!y29)
                else
                  some true
            else
              some true
        else
          some false) fun x32 =>
        if x32 = true then
          some 7
        else
          some y12) fun e =>
      andx (
        iter (P_r9_Book_L1 qQ qR qS before) (e, 0)) fun e_2 =>
        some e_2
noncomputable def P_r9_Filled_L1 (qE : List qH) (books : List qG) (shelves : List Int) (shelf : Int) : (Int × Int) → Option (Stp (Int × Int) (Ex Int Int)) := fun (n, i) =>
  if i < (books.length : Int) then
    seqx (
      el shelves i fun a19 =>
      if ¬ a19 = shelf then
        some (Ex.nx n)
      else
        el books i fun a25 =>
        el qE shelf fun a31 =>
        if a25.high > a31.high then
          some (Ex.rt (Stp.dn (Ex.rt (-1))))
        else
          el books i fun a38 =>
          chk (I64 (n + a38.wide)) (
            some (Ex.nx (n + a38.wide)))) fun n_2 =>
      chk (I64 (i + 1)) (
        some (Stp.ag (n_2, (i + 1))))
  else
    some (Stp.dn (Ex.nx n))
noncomputable def P_r9_Filled (qD : List Str) (qE : List qH) (qF : List qG) (books : List qG) (shelves : List Int) (shelf : Int) : Option Int :=
  seqx (
    iter (P_r9_Filled_L1 qE books shelves shelf) (0, 0)) fun n =>
    some n
noncomputable def P_r9_fit (qD : List Str) (qE : List qH) (qF : List qG) (books : List qG) (shelves : List Int) (shelf : Int) : Option Bool :=
 el qE shelf fun a17 =>
 andx (P_r9_Filled qD qE qF books shelves shelf) fun y13 =>
  andx (P_r9_in y13 0 a17.wide) fun y20 =>
   some y20
noncomputable def P_r9_Check_L1 (qD : List Str) : Int → Option (Stp Int (Ex Unit (Int × Int × Int))) := fun i =>
  if i < (qD.length : Int) then
    el qD i fun a28 =>
    chk (0 ≤ (0 : Int) ∧ (0 : Int) ≤ i ∧ i ≤ (qD.length : Int)) (
      andx (P_r1_Fresh a28 (List.take (i - (0 : Int)).toNat (List.drop ((0 : Int) : Int).toNat qD))) fun y34 =>
        if ¬ y34 = 0 then
          some (Stp.dn (Ex.rt (1, i, y34)))
        else
          chk (I64 (i + 1)) (
            some (Stp.ag (i + 1))))
  else
    some (Stp.dn (Ex.nx ()))
noncomputable def P_r9_Check_L2 (qE : List qH) : Int → Option (Stp Int (Ex Unit (Int × Int × Int))) := fun i =>
  if i < (qE.length : Int) then
    seqx (
      el qE i fun a54 =>
      andx (
        andx (P_r9_in a54.away 0 1000) fun y58 =>
          if y58 = true then
            andx (P_r9_in a54.climb 0 1000) fun y63 =>
              if y63 = true then
                andx (P_r9_in a54.wide 1 2000) fun y69 =>
                  if y69 = true then
                    andx (P_r9_in a54.high 1 2000) fun y75 =>
                      some (!y75)
                  else
                    some true
              else
                some true
          else
            some true) fun x77 =>
        if x77 = true then
          some (Ex.rt (Stp.dn (Ex.rt (2, i, 7))))
        else
          some (Ex.nx ())) fun _ =>
      chk (I64 (i + 1)) (
        some (Stp.ag (i + 1)))
  else
    some (Stp.dn (Ex.nx ()))
noncomputable def P_r9_Check_L3 (qD : List Str) (qE : List qH) (qF : List qG) : Int → Option (Stp Int (Ex Unit (Int × Int × Int))) := fun i =>
  if i < (qF.length : Int) then
    seqx (
      el qF i fun a93 =>
      chk (0 ≤ (0 : Int) ∧ (0 : Int) ≤ i ∧ i ≤ (qF.length : Int)) (
        andx (P_r9_Book qD qE qF a93.qU a93.qV a93.qW a93.wide a93.high a93.heavy a93.shelf (List.take (i - (0 : Int)).toNat (List.drop ((0 : Int) : Int).toNat qF))) fun y101 =>
          andx (
            andx (
              if y101 = 0 then
                chk (I64 ((qE.length : Int) - 1)) (
                  andx (P_r9_in a93.shelf 0 ((qE.length : Int) - 1)) fun y111 =>
                    some (!y111))
              else
                some false) fun x113 =>
              if x113 = true then
                some 4
              else
                some y101) fun e =>
            andx (
              andx (
                if e = 0 then
                  if i > 0 then
                    chk (I64 (i - 1)) (
                      el qF (i - 1) fun a127 =>
                      some (decide (a93.shelf < a127.shelf)))
                  else
                    some false
                else
                  some false) fun x131 =>
                if x131 = true then
                  some 2
                else
                  some e) fun e_2 =>
              if ¬ e_2 = 0 then
                some (Ex.rt (Stp.dn (Ex.rt (3, i, e_2))))
              else
                some (Ex.nx ()))) fun _ =>
      chk (I64 (i + 1)) (
        some (Stp.ag (i + 1)))
  else
    some (Stp.dn (Ex.nx ()))
noncomputable def P_r9_Check_L4 (qD : List Str) (qE : List qH) (qF : List qG) : Int → Option (Stp Int (Ex Unit (Int × Int × Int))) := fun i =>
  if i < (qE.length : Int) then
    andx (P_r9_Own qF) fun y148 =>
      andx (P_r9_fit qD qE qF qF y148 i) fun y150 =>
        if y150 = true then
          chk (I64 (i + 1)) (
            some (Stp.ag (i + 1)))
        else
          some (Stp.dn (Ex.rt (4, i, 9)))
  else
    some (Stp.dn (Ex.nx ()))
noncomputable def P_r9_Check (qD : List Str) (qE : List qH) (qF : List qG) : Option (Int × Int × Int) :=
  andx (P_r9_in (qD.length : Int) 1 6) fun y16 =>
    if y16 = true then
      seqx (
        iter (P_r9_Check_L1 qD) 0) fun _ =>
        andx (P_r9_in (qE.length : Int) 1 4) fun y42 =>
          if y42 = true then
            seqx (
              iter (P_r9_Check_L2 qE) 0) fun _ =>
              if (qF.length : Int) > 10 then
                some (3, 0, 3)
              else
                seqx (
                  iter (P_r9_Check_L3 qD qE qF) 0) fun _ =>
                  seqx (
                    iter (P_r9_Check_L4 qD qE qF) 0) fun _ =>
                    some (0, 0, 0)
          else
            some (2, 0, 3)
    else
      some (1, 0, 3)
noncomputable def P_q_Name_L1 (s : Str) : Nat → Option (Stp Nat (Ex Unit Bool)) := fun pos =>
  if pos < s.length then
    andx (
      if (runeAt s pos) ≥ 97 then
        some (decide ((runeAt s pos) ≤ 122))
      else
        some false) fun x11 =>
      if x11 = true then
        some (Stp.ag (pos + runeLen s pos))
      else
        andx (
          if (pos : Int) > 0 then
            if (runeAt s pos) ≥ 48 then
              if (runeAt s pos) ≤ 57 then
                some true
              else
                some (decide ((runeAt s pos) = 46))
            else
              some (decide ((runeAt s pos) = 46))
          else
            some false) fun x18 =>
          if x18 = true then
            some (Stp.ag (pos + runeLen s pos))
          else
            some (Stp.dn (Ex.rt false))
  else
    some (Stp.dn (Ex.nx ()))
noncomputable def P_q_Name (s : Str) : Option Bool :=
  seqx (
    iter (P_q_Name_L1 s) 0) fun _ =>
    andx (
      if ¬ s = ([] : Str) then
        some (decide ((s.length : Int) ≤ 16))
      else
        some false) fun x2 =>
      some x2
noncomputable def P_s9_out_L1 (lo : Int) (hi : Int) (numbers : List Int) : Int → Option (Stp Int (Ex Unit Int)) := fun x8 =>
  if x8 < (numbers.length : Int) then
    el numbers x8 fun a14 =>
    andx (
      if a14 < lo then
        some true
      else
        some (decide (a14 > hi))) fun x4 =>
      if x4 = true then
        some (Stp.dn (Ex.rt x8))
      else
        chk (I64 (x8 + 1)) (
          some (Stp.ag (x8 + 1)))
  else
    some (Stp.dn (Ex.nx ()))
noncomputable def P_s9_out (lo : Int) (hi : Int) (numbers : List Int) : Option Bool :=
  andx (
    seqx (
      iter (P_s9_out_L1 lo hi numbers) 0) fun _ =>
      some (-1)) fun y7 =>
    some (decide (y7 ≥ 0))
noncomputable def P_s9_mark_L1 (m_Suffix : Str) : Nat → Option (Stp Nat (Ex Unit Int)) := fun pos =>
  if pos < m_Suffix.length then
    andx (
      if (runeAt m_Suffix pos) < 97 then
        some true
      else
        some (decide ((runeAt m_Suffix pos) > 122))) fun x38 =>
      if x38 = true then
        some (Stp.dn (Ex.rt 6))
      else
        some (Stp.ag (pos + runeLen m_Suffix pos))
  else
    some (Stp.dn (Ex.nx ()))
noncomputable def P_s9_mark (r_SfRoom_Classes : List Str) (r_SfRoom_Shelves : List qH) (r_SfRoom_Books : List qG) (m_Class : Int) (m_Number : Int) (m_Suffix : Str) : Option Int :=
  chk (I64 ((r_SfRoom_Classes.length : Int) - 1)) (
    andx (P_s9_out 0 ((r_SfRoom_Classes.length : Int) - 1) [m_Class]) fun y16 =>
      if y16 = true then
        some 4
      else
        andx (P_s9_out 1 9999 [m_Number]) fun y21 =>
          if y21 = true then
            some 7
          else
            if (m_Suffix.length : Int) > 2 then
              some 6
            else
              seqx (
                iter (P_s9_mark_L1 m_Suffix) 0) fun _ =>
                some 0)
noncomputable def P_s9_book_L1 (qQ : Int) (qR : Int) (qS : Str) (others : List qG) : Int → Option (Stp Int (Ex Unit Int)) := fun x8 =>
  if x8 < (others.length : Int) then
    el others x8 fun a14 =>
    if a14.qU = qQ ∧ a14.qV = qR ∧ a14.qW = qS then
      some (Stp.dn (Ex.rt x8))
    else
      chk (I64 (x8 + 1)) (
        some (Stp.ag (x8 + 1)))
  else
    some (Stp.dn (Ex.nx ()))
noncomputable def P_s9_book (r_SfRoom_Classes : List Str) (r_SfRoom_Shelves : List qH) (r_SfRoom_Books : List qG) (qQ : Int) (qR : Int) (qS : Str) (qP : Int) (qO : Int) (qT : Int) (qX : Int) (others : List qG) : Option Int :=
  andx (P_s9_mark r_SfRoom_Classes r_SfRoom_Shelves r_SfRoom_Books qQ qR qS) fun y11 =>
    if ¬ y11 = 0 then
      some y11
    else
      seqx (
        andx (
          andx (P_s9_out 1 2000 [qP, qO]) fun y21 =>
            if y21 = true then
              some true
            else
              andx (P_s9_out 1 100 [qT]) fun y26 =>
                some y26) fun x15 =>
          if x15 = true then
            some (Ex.rt 7)
          else
            andx (
              seqx (
                iter (P_s9_book_L1 qQ qR qS others) 0) fun _ =>
                some (-1)) fun y7 =>
              if y7 ≥ 0 then
                some (Ex.rt 5)
              else
                some (Ex.nx ())) fun _ =>
        some 0
noncomputable def P_s9_Check_L2 (qD : List Str) (x11 : Int) (a14 : Str) : Int → Option (Stp Int (Ex Unit Int)) := fun x8 =>
  if x8 < ((List.take (x11 - (0 : Int)).toNat (List.drop ((0 : Int) : Int).toNat qD)).length : Int) then
    el (List.take (x11 - (0 : Int)).toNat (List.drop ((0 : Int) : Int).toNat qD)) x8 fun a14_2 =>
    if a14 = a14_2 then
      some (Stp.dn (Ex.rt x8))
    else
      chk (I64 (x8 + 1)) (
        some (Stp.ag (x8 + 1)))
  else
    some (Stp.dn (Ex.nx ()))
noncomputable def P_s9_Check_L1 (qD : List Str) : Int → Option (Stp Int (Ex Unit (Int × Int))) := fun x11 =>
  if x11 < (qD.length : Int) then
    el qD x11 fun a14 =>
    andx (
      andx (P_q_Name a14) fun y8 =>
        if y8 = true then
          chk (0 ≤ (0 : Int) ∧ (0 : Int) ≤ x11 ∧ x11 ≤ (qD.length : Int)) (
            andx (
              seqx (
                iter (P_s9_Check_L2 qD x11 a14) 0) fun _ =>
                some (-1)) fun y7 =>
              if y7 ≥ 0 then
                some 5
              else
                some 0)
        else
          some 6) fun y19 =>
      if ¬ y19 = 0 then
        some (Stp.dn (Ex.rt (x11, y19)))
      else
        chk (I64 (x11 + 1)) (
          some (Stp.ag (x11 + 1)))
  else
    some (Stp.dn (Ex.nx ()))
noncomputable def P_s9_Check_L3 (qE : List qH) : Int → Option (Stp Int (Ex Unit (Int × Int))) := fun x11 =>
  if x11 < (qE.length : Int) then
    el qE x11 fun a14 =>
    andx (
      seqx (
        andx (
          andx (P_s9_out 0 1000 [a14.away, a14.climb]) fun y10 =>
            if y10 = true then
              some true
            else
              andx (P_s9_out 1 2000 [a14.wide, a14.high]) fun y17 =>
                some y17) fun x18 =>
          if x18 = true then
            some (Ex.rt 7)
          else
            some (Ex.nx ())) fun _ =>
        some 0) fun y19 =>
      if ¬ y19 = 0 then
        some (Stp.dn (Ex.rt (x11, y19)))
      else
        chk (I64 (x11 + 1)) (
          some (Stp.ag (x11 + 1)))
  else
    some (Stp.dn (Ex.nx ()))
noncomputable def P_s9_Check_L4 (qD : List Str) (qE : List qH) (qF : List qG) : Int → Option (Stp Int (Ex Unit (Int × Int))) := fun x11 =>
  if x11 < (qF.length : Int) then
    el qF x11 fun a14 =>
    andx (
      chk (0 ≤ (0 : Int) ∧ (0 : Int) ≤ x11 ∧ x11 ≤ (qF.length : Int)) (
        andx (P_s9_book qD qE qF a14.qU a14.qV a14.qW a14.wide a14.high a14.heavy a14.shelf (List.take (x11 - (0 : Int)).toNat (List.drop ((0 : Int) : Int).toNat qF))) fun y14_3 =>
          seqx (
            if ¬ y14_3 = 0 then
              some (Ex.rt y14_3)
            else
              chk (I64 ((qE.length : Int) - 1)) (
                andx (P_s9_out 0 ((qE.length : Int) - 1) [a14.shelf]) fun y27_2 =>
                  if y27_2 = true then
                    some (Ex.rt 4)
                  else
                    andx (
                      if x11 > 0 then
                        chk (I64 (x11 - 1)) (
                          el qF (x11 - 1) fun a38 =>
                          some (decide (a14.shelf < a38.shelf)))
                      else
                        some false) fun x28 =>
                      if x28 = true then
                        some (Ex.rt 2)
                      else
                        some (Ex.nx ()))) fun _ =>
            some 0)) fun y19 =>
      if ¬ y19 = 0 then
        some (Stp.dn (Ex.rt (x11, y19)))
      else
        chk (I64 (x11 + 1)) (
          some (Stp.ag (x11 + 1)))
  else
    some (Stp.dn (Ex.nx ()))
noncomputable def P_s9_Check_L6 (qF : List qG) (x11 : Int) (a14 : qH) : (Int × Int) → Option (Stp (Int × Int) (Ex Int Int)) := fun (x11_2, s_Wide) =>
  if x11_2 < (qF.length : Int) then
    seqx (
      el qF x11_2 fun a13 =>
      if ¬ a13.shelf = x11 then
        some (Ex.nx s_Wide)
      else
        chk (I64 (s_Wide - a13.wide)) (
          andx (
            if (s_Wide - a13.wide) < 0 then
              some true
            else
              some (decide (a13.high > a14.high))) fun x34 =>
            if x34 = true then
              some (Ex.rt (Stp.dn (Ex.rt 9)))
            else
              some (Ex.nx (s_Wide - a13.wide)))) fun s_Wide_2 =>
      chk (I64 (x11_2 + 1)) (
        some (Stp.ag ((x11_2 + 1), s_Wide_2)))
  else
    some (Stp.dn (Ex.nx s_Wide))
noncomputable def P_s9_Check_L5 (qE : List qH) (qF : List qG) : Int → Option (Stp Int (Ex Unit (Int × Int))) := fun x11 =>
  if x11 < (qE.length : Int) then
    el qE x11 fun a14 =>
    andx (
      seqx (
        iter (P_s9_Check_L6 qF x11 a14) (0, a14.wide)) fun s_Wide =>
        some 0) fun y19 =>
      if ¬ y19 = 0 then
        some (Stp.dn (Ex.rt (x11, y19)))
      else
        chk (I64 (x11 + 1)) (
          some (Stp.ag (x11 + 1)))
  else
    some (Stp.dn (Ex.nx ()))
noncomputable def P_s9_Check (qD : List Str) (qE : List qH) (qF : List qG) : Option (Int × Int × Int) :=
  andx (P_s9_out 1 6 [(qD.length : Int)]) fun y9 =>
    if y9 = true then
      some (1, 0, 3)
    else
      andx (
        seqx (
          iter (P_s9_Check_L1 qD) 0) fun _ =>
          some (0, 0)) fun (y14, y14_2) =>
        if ¬ y14_2 = 0 then
          some (1, y14, y14_2)
        else
          andx (P_s9_out 1 4 [(qE.length : Int)]) fun y27 =>
            if y27 = true then
              some (2, 0, 3)
            else
              andx (
                seqx (
                  iter (P_s9_Check_L3 qE) 0) fun _ =>
                  some (0, 0)) fun (y31, y31_2) =>
                if ¬ y31_2 = 0 then
                  some (2, y31, y31_2)
                else
                  if (qF.length : Int) > 10 then
                    some (3, 0, 3)
                  else
                    andx (
                      seqx (
                        iter (P_s9_Check_L4 qD qE qF) 0) fun _ =>
                        some (0, 0)) fun (y48, y48_2) =>
                      if ¬ y48_2 = 0 then
                        some (3, y48, y48_2)
                      else
                        andx (
                          seqx (
                            iter (P_s9_Check_L5 qE qF) 0) fun _ =>
                            some (0, 0)) fun (y59, y59_2) =>
                          if ¬ y59_2 = 0 then
                            some (4, y59, y59_2)
                          else
                            some (0, 0, 0)
noncomputable def P_s9_open (qD : List Str) (qE : List qH) (qF : List qG) : Option Int :=
 andx (P_s9_Check qD qE qF) fun (y9, y9_2, y9_3) =>
  some y9_3
noncomputable def P_law9_valid (qD : List Str) (qE : List qH) (qF : List qG) : Option Bool :=
 andx (P_r9_Check qD qE qF) fun (y8, y8_2, y8_3) =>
  some (decide (y8_3 = 0))
end Go.Am
end
section
namespace Go.Am.YtiaolgbmbhldgaaGreatDoor
open Go.Am Go.RowKit
set_option linter.unusedVariables false
set_option linter.unusedSimpArgs false
set_option maxRecDepth 10000 in
theorem tf_r9_in {k : Nat} (hk : 0 ≤ k) {C : List Thing} {n : Int} {low : Int} {high : Int} {r : Bool} (h : P_r9_in n low high = some r) :
  TF (EL k) 73 [iv (n), iv (low), iv (high)] C (RepF (fun (w : Unit) => bv r) (fun (w : Unit) => C)) := by
 unfold P_r9_in at h;refine TF.enter (fn := Go.Proofs.Tryz.f73) rfl rfl rfl rfl rfl (zU rfl (zA R4 (zN ?_)))
 show T _ _ _ _ _ _;apply T.joinA (r := r) (W := Unit) (fun j w => ⟨[], [(6, bv j)], C⟩) h
 ·intro j h;refine zT rfl (zM R4 (zM R4 ?_));obtain ⟨c9, hc9⟩ := zY (low ≤ n);refine zV R3 (Val.leq hc9 rfl rfl) (zM R4 ?_);obtain ⟨rfl, hc9, h⟩ | ⟨rfl, hc9, h⟩ := zI hc9 h
  ·refine zM R4 (zM R4 ?_);obtain ⟨c13, hc13⟩ := zY (n ≤ high);refine zV R3 (Val.leq hc13 rfl rfl) (zP R6 (zA R4 (zN ?_)));subst hc13;cases h;exact ⟨rfl, (), (sb .refl)⟩
  refine zO R3 (zO R3 (zO R3 (zP R6 (zA R4 (zN ?_)))));cases h;exact ⟨rfl, (), (sb .refl)⟩
 ·rintro x6 _ h;refine zR ?_;cases h;exact ⟨rfl, _, rfl, ⟨(), rfl, .refl⟩⟩
set_option maxRecDepth 10000 in
theorem tf_r9_letters {k : Nat} (hk : 0 ≤ k) {C : List Thing} {s : Str} {r : Bool} (h : P_r9_letters s = some r) :
  TF (EL k) 122 [sv s] C (RepF (fun (w : Unit) => bv r) (fun (w : Unit) => C)) := by
 unfold P_r9_letters at h;refine TF.enter (fn := Go.Proofs.Tryz.f122) rfl rfl rfl rfl rfl (zU rfl (zA R4 (zN ?_)))
 show T _ _ _ _ _ _;apply T.join (r := r) (W := Unit) (fun j w => ⟨[], [], C⟩) h
 ·intro j h;refine zU rfl (zA R4 (zN (zB ?_)))
  show T _ _ _ _ _ _;apply T.iter (r := j) (W := Unit) (fun j w => ⟨[], [(0, sv s), (3, iv (j))], C⟩) (w0 := ()) h
  ·exact (sb .refl)
  rintro i _ a h;unfold P_r9_letters_L1 at h;refine zS (zU rfl (zM R4 (zM R4 (zV R3 (Val.len_str rfl rfl) ?_))));obtain ⟨c7, hc7⟩ := zY (i < (s.length : Int));refine zV R3 (Val.lss hc7 rfl rfl) (zN ?_);obtain ⟨rfl, hc7, h⟩ | ⟨rfl, hc7, h⟩ := zI hc7 h
  ·refine zC rfl (zK ?_)
   show T _ _ _ _ _ _;apply T.join (r := a) (W := Unit) (fun j w => ⟨[], [(0, sv s), (3, iv (i))], C⟩) h
   ·intro j h;refine zB ?_
    show T _ _ _ _ _ _;apply T.joinA (r := j) (W := Unit) (fun j w => ⟨[], [(0, sv s), (3, iv (i)), (19, bv j)], C⟩) h
    ·intro j h;refine zT rfl (zM R4 (zM R4 ?_));obtain ⟨hk12, h⟩ := chk_some h;refine zV R3 (Val.index_str rfl rfl rfl hk12) ?_;obtain ⟨c13, hc13⟩ := zY ((byteAt s i) < 97);refine zV R3 (Val.lssK hc13 rfl rfl) (zM R4 ?_);obtain ⟨rfl, hc13, h⟩ | ⟨rfl, hc13, h⟩ := zI hc13 h
     ·refine zO R3 (zO R3 (zO R3 (zO R3 (zP R6 (zN ?_)))));cases h;exact ⟨rfl, (), (sb .refl)⟩
     refine zM R4 (zM R4 ?_);obtain ⟨hk17, h⟩ := chk_some h;refine zV R3 (Val.index_str rfl rfl rfl hk17) ?_;obtain ⟨c18, hc18⟩ := zY ((byteAt s i) > 122);refine zV R3 (Val.gtrK hc18 rfl rfl) (zP R6 (zN ?_));subst hc18;cases h;exact ⟨rfl, (), (sb .refl)⟩
    ·rintro x19 _ h;obtain ⟨rfl, h⟩ | ⟨rfl, h⟩ := zZ h
     ·refine zC rfl (zU rfl (zA R4 (zN (zR ?_))));cases h;exact ⟨ret_ne, ⟨ret_ne, ⟨ret_ne, ⟨rfl, _, rfl, ⟨(), rfl, .refl⟩⟩⟩⟩⟩
     refine zD rfl (zK ?_);cases h;exact ⟨rfl, (), (sb .refl)⟩
   ·rintro _ _ h;refine zT rfl (zM R4 ?_);obtain ⟨hk9, h⟩ := chk_some h;refine zV R3 (Val.add rfl rfl hk9) (zA R4 (zN ?_));cases h;exact ⟨rfl, (), (sb .refl)⟩
  refine zD rfl (zE ?_);cases h;exact ⟨ex_ne, ⟨rfl, (), (sb .refl)⟩⟩
 ·rintro _ _ h;refine zU rfl (zA R4 (zN (zR ?_)));cases h;exact ⟨rfl, _, rfl, ⟨(), rfl, .refl⟩⟩
set_option maxRecDepth 10000 in
theorem tf_r1_Name {k : Nat} (hk : 0 ≤ k) {C : List Thing} {s : Str} {r : Bool} (h : P_r1_Name s = some r) :
  TF (EL k) 120 [sv s] C (RepF (fun (w : Unit) => bv r) (fun (w : Unit) => C)) := by
 unfold P_r1_Name at h;refine TF.enter (fn := Go.Proofs.Tryz.f120) rfl rfl rfl rfl rfl (zU rfl (zA R4 (zN ?_)))
 show T _ _ _ _ _ _;apply T.join (r := r) (W := Unit) (fun j w => ⟨[], [(0, sv s)], C⟩) h
 ·intro j h
  show T _ _ _ _ _ _;apply T.joinA (r := j) (W := Unit) (fun j w => ⟨[], [(0, sv s), (11, bv j)], C⟩) h
  ·intro j h;refine zT rfl (zM R4 (zV R3 (Val.len_str rfl rfl) ?_));obtain ⟨c6, hc6⟩ := zY ((s.length : Int) = 0);refine zV R3 (Val.eql hc6 rfl rfl) (zM R4 ?_);obtain ⟨rfl, hc6, h⟩ | ⟨rfl, hc6, h⟩ := zI hc6 h
   ·refine zO R3 (zO R3 (zO R3 (zP R6 (zN ?_))));cases h;exact ⟨rfl, (), (sb .refl)⟩
   refine zM R4 (zV R3 (Val.len_str rfl rfl) ?_);obtain ⟨c10, hc10⟩ := zY ((s.length : Int) > 16);refine zV R3 (Val.gtr hc10 rfl rfl) (zP R6 (zN ?_));subst hc10;cases h;exact ⟨rfl, (), (sb .refl)⟩
  ·rintro x11 _ h;obtain ⟨rfl, h⟩ | ⟨rfl, h⟩ := zZ h
   ·refine zC rfl (zU rfl (zA R4 (zN (zR ?_))));cases h;exact ⟨ret_ne, ⟨rfl, _, rfl, ⟨(), rfl, .refl⟩⟩⟩
   refine zD rfl (zK ?_);cases h;exact ⟨rfl, (), (sb .refl)⟩
 ·rintro _ _ h
  show T _ _ _ _ _ _;apply T.join (r := r) (W := Unit) (fun j w => ⟨[], [], C⟩) h
  ·intro j h;refine zU rfl (zA R4 (zN (zB ?_)))
   show T _ _ _ _ _ _;apply T.iter (r := j) (W := Unit) (fun j w => ⟨[], [(0, sv s), (3, iv (j))], C⟩) (w0 := ()) h
   ·exact (sb .refl)
   rintro i _ a h;unfold P_r1_Name_L1 at h;refine zS (zU rfl (zM R4 (zM R4 (zV R3 (Val.len_str rfl rfl) ?_))));obtain ⟨c15, hc15⟩ := zY (i < (s.length : Int));refine zV R3 (Val.lss hc15 rfl rfl) (zN ?_);obtain ⟨rfl, hc15, h⟩ | ⟨rfl, hc15, h⟩ := zI hc15 h
   ·refine zC rfl (zK ?_)
    show T _ _ _ _ _ _;apply T.join (r := a) (W := Unit) (fun j w => ⟨[], [(0, sv s), (3, iv (i))], C⟩) h
    ·intro j h;refine zB ?_
     show T _ _ _ _ _ _;apply T.joinA (r := j) (W := Unit) (fun j w => ⟨[], [(0, sv s), (3, iv (i)), (39, bv j)], C⟩) h
     ·intro j h;refine zT rfl (zM R4 (zM R4 ?_));obtain ⟨hk20, h⟩ := chk_some h;refine zV R3 (Val.index_str rfl rfl rfl hk20) (TO.callIn rfl rfl rfl rfl rfl rfl (orcN rfl) (TF.enter (fn := Go.Proofs.Tryz.f143) rfl rfl rfl rfl rfl (zU rfl (zA R4 (zN ?_)))))
      show T _ _ _ _ _ _;apply T.joinA (r := j) (W := Unit) (fun j w => ⟨[], [(2, bv j)], C⟩) h
      ·intro j h;refine zT rfl (zM R4 ?_);obtain ⟨c4, hc4⟩ := zY ((byteAt s i) ≥ 97);refine zV R3 (Val.geqK hc4 rfl rfl) (zM R4 ?_);obtain ⟨rfl, hc4, h⟩ | ⟨rfl, hc4, h⟩ := zI hc4 h
       ·refine zM R4 ?_;obtain ⟨c7, hc7⟩ := zY ((byteAt s i) ≤ 122);refine zV R3 (Val.leqK hc7 rfl rfl) (zP R6 (zA R4 (zN ?_)));subst hc7;cases h;exact ⟨rfl, (), (sb .refl)⟩
       refine zO R3 (zO R3 (zP R6 (zA R4 (zN ?_))));cases h;exact ⟨rfl, (), (sb .refl)⟩
      ·rintro x2 _ h;refine zR ?_;refine ⟨rfl, _, rfl, ?_⟩;refine zV R3 (Val.not rfl) (zM R4 ?_);obtain ⟨rfl, h⟩ | ⟨rfl, h⟩ := zZ h
       ·refine zO R3 (zO R3 (zO R3 (zO R3 (zO R3 (zO R3 (zO R3 (zO R3 (zO R3 (zO R3 (zO R3 (zO R3 (zO R3 (zO R3 (zO R3 (zP R6 (zN ?_))))))))))))))));cases h;exact ⟨rfl, (), (sb .refl)⟩
       refine zM R4 ?_;obtain ⟨c25, hc25⟩ := zY (i = 0);refine zV R3 (Val.eql hc25 rfl rfl) (zM R4 ?_);obtain ⟨rfl, hc25, h⟩ | ⟨rfl, hc25, h⟩ := zI hc25 h
       ·refine zO R3 (zO R3 (zO R3 (zO R3 (zO R3 (zO R3 (zO R3 (zO R3 (zO R3 (zO R3 (zO R3 (zP R6 (zP R6 (zN ?_)))))))))))));cases h;exact ⟨rfl, (), (sb .refl)⟩
       refine zM R4 (zM R4 ?_);obtain ⟨hk29, h⟩ := chk_some h;refine zV R3 (Val.index_str rfl rfl rfl hk29) (TO.callIn rfl rfl rfl rfl rfl rfl (orcN rfl) (TF.enter (fn := Go.Proofs.Tryz.f144) rfl rfl rfl rfl rfl (zU rfl (zA R4 (zN ?_)))))
       show T _ _ _ _ _ _;apply T.joinA (r := j) (W := Unit) (fun j w => ⟨[], [(2, bv j)], C⟩) h
       ·intro j h;refine zT rfl (zM R4 ?_);obtain ⟨c4, hc4⟩ := zY ((byteAt s i) ≥ 48);refine zV R3 (Val.geqK hc4 rfl rfl) (zM R4 ?_);obtain ⟨rfl, hc4, h⟩ | ⟨rfl, hc4, h⟩ := zI hc4 h
        ·refine zM R4 ?_;obtain ⟨c7, hc7⟩ := zY ((byteAt s i) ≤ 57);refine zV R3 (Val.leqK hc7 rfl rfl) (zP R6 (zA R4 (zN ?_)));subst hc7;cases h;exact ⟨rfl, (), (sb .refl)⟩
        refine zO R3 (zO R3 (zP R6 (zA R4 (zN ?_))));cases h;exact ⟨rfl, (), (sb .refl)⟩
       ·rintro x2_2 _ h;refine zR ?_;refine ⟨rfl, _, rfl, ?_⟩;refine zV R3 (Val.not rfl) (zM R4 ?_);obtain ⟨rfl, h⟩ | ⟨rfl, h⟩ := zZ h
        ·refine zO R3 (zO R3 (zO R3 (zO R3 (zP R6 (zP R6 (zP R6 (zN ?_)))))));cases h;exact ⟨rfl, (), (sb .refl)⟩
        refine zM R4 (zM R4 ?_);obtain ⟨hk35, h⟩ := chk_some h;refine zV R3 (Val.index_str rfl rfl rfl hk35) ?_;obtain ⟨c36, hc36⟩ := zY (¬ (byteAt s i) = 46);refine zV R3 (Val.neqK hc36 rfl rfl) (zP R6 (zP R6 (zP R6 (zN ?_))));subst hc36;cases h;exact ⟨rfl, (), (sb .refl)⟩
     ·rintro x39 _ h;obtain ⟨rfl, h⟩ | ⟨rfl, h⟩ := zZ h
      ·refine zC rfl (zU rfl (zA R4 (zN (zR ?_))));cases h;exact ⟨ret_ne, ⟨ret_ne, ⟨ret_ne, ⟨rfl, _, rfl, ⟨(), rfl, .refl⟩⟩⟩⟩⟩
      refine zD rfl (zK ?_);cases h;exact ⟨rfl, (), (sb .refl)⟩
    ·rintro _ _ h;refine zT rfl (zM R4 ?_);obtain ⟨hk17, h⟩ := chk_some h;refine zV R3 (Val.add rfl rfl hk17) (zA R4 (zN ?_));cases h;exact ⟨rfl, (), (sb .refl)⟩
   refine zD rfl (zE ?_);cases h;exact ⟨ex_ne, ⟨rfl, (), (sb .refl)⟩⟩
  ·rintro _ _ h;refine zU rfl (zA R4 (zN (zR ?_)));cases h;exact ⟨rfl, _, rfl, ⟨(), rfl, .refl⟩⟩
set_option maxRecDepth 10000 in
theorem tf_r1_Place {k : Nat} (hk : 0 ≤ k) {C : List Thing} {v_list : AV} {list : List Str} {word : Str} (h_list : Rdl C encStr v_list list) {r : Int} (h : P_r1_Place list word = some r) :
  TF (EL k) 88 [v_list, sv word] C (RepF (fun (w : Unit) => iv r) (fun (w : Unit) => C)) := by
 unfold P_r1_Place at h;refine TF.enter (fn := Go.Proofs.Tryz.f88) rfl rfl rfl rfl rfl (zU rfl (zA R4 (zN (zU rfl (zM R4 (zV R3 (Val.len_l h_list mem0 rfl rfl) ?_))))));obtain ⟨hk9, h⟩ := chk_some h;refine zV R3 (Val.sub rfl rfl hk9) (zA R4 (zN ?_))
 show T _ _ _ _ _ _;apply T.joinA (r := r) (W := Unit) (fun j w => ⟨[], [(0, v_list), (1, sv word), (5, iv (j))], C⟩) h
 ·intro j h;refine zB ?_
  show T _ _ _ _ _ _;apply T.iter (r := j) (W := Unit) (fun j w => ⟨[], [(0, v_list), (1, sv word), (5, iv (j))], C⟩) (w0 := ()) h
  ·exact (sb .refl)
  rintro at_ _ a h;unfold P_r1_Place_L1 at h
  show T _ _ _ _ _ _;apply T.join (r := a) (W := Unit) (fun j w => ⟨[], [(0, v_list), (1, sv word), (5, iv (at_))], C⟩) h
  ·intro j h
   show T _ _ _ _ _ _;apply T.joinA (r := j) (W := Unit) (fun j w => ⟨[], [(0, v_list), (1, sv word), (5, iv (at_)), (19, bv j)], C⟩) h
   ·intro j h;refine zT rfl (zM R4 ?_);obtain ⟨c11, hc11⟩ := zY (at_ ≥ 0);refine zV R3 (Val.geq hc11 rfl rfl) (zM R4 ?_);obtain ⟨rfl, hc11, h⟩ | ⟨rfl, hc11, h⟩ := zI hc11 h
    ·refine zM R4 (zM R4 ?_);obtain ⟨a15, hia15, ea15, h⟩ := el_some h;refine TO.fact (rdl_at h_list mem0 hia15 ea15) (fun hp=>?_);obtain ⟨pa15, hpa15, hva15⟩ := hp;refine zV R3 (hva15 ⟨rfl, rfl⟩ rfl rfl) (zV R3 (Val.load_e hpa15 mem0 ⟨_, rfl, rfl⟩ rfl rfl) (zM R4 ?_));obtain ⟨c18, hc18⟩ := zY (¬ a15 = word);refine zV R3 (Val.neq_str hc18 rfl rfl) (zP R6 (zN ?_));subst hc18;cases h;exact ⟨rfl, (), (sb .refl)⟩
    refine zO R3 (zO R3 (zO R3 (zO R3 (zO R3 (zO R3 (zP R6 (zN ?_)))))));cases h;exact ⟨rfl, (), (sb .refl)⟩
   ·rintro x19 _ h;obtain ⟨rfl, h⟩ | ⟨rfl, h⟩ := zZ h
    ·refine zC rfl (zK ?_);cases h;exact ⟨rfl, (), (sb .refl)⟩
    refine zD rfl (zE ?_);cases h;exact ⟨ex_ne, ⟨ex_ne, ⟨rfl, (), (sb .refl)⟩⟩⟩
  ·rintro _ _ h;refine zB (zT rfl (zM R4 ?_));obtain ⟨hk21, h⟩ := chk_some h;refine zV R3 (Val.sub rfl rfl hk21) (zA R4 (zN ?_));cases h;exact ⟨rfl, (), (sb .refl)⟩
 ·rintro at_ _ h
  show T _ _ _ _ _ _;apply T.join (r := r) (W := Unit) (fun j w => ⟨[], [(5, iv (at_))], C⟩) h
  ·intro j h;refine zU rfl (zA R4 (zN (zB ?_)))
   show T _ _ _ _ _ _;apply T.iter (r := j) (W := Unit) (fun j w => ⟨[], [(0, v_list), (1, sv word), (5, iv (at_)), (6, iv (j))], C⟩) (w0 := ()) h
   ·exact (sb .refl)
   rintro i _ a h;unfold P_r1_Place_L2 at h;refine zS (zU rfl (zM R4 (zM R4 ?_)));obtain ⟨c24, hc24⟩ := zY (i < at_);refine zV R3 (Val.lss hc24 rfl rfl) (zN ?_);obtain ⟨rfl, hc24, h⟩ | ⟨rfl, hc24, h⟩ := zI hc24 h
   ·refine zC rfl (zK (zS (zB (zU rfl (zM R4 (zM R4 ?_))))));obtain ⟨a29, hia29, ea29, h⟩ := el_some h;refine TO.fact (rdl_at h_list mem0 hia29 ea29) (fun hp=>?_);obtain ⟨pa29, hpa29, hva29⟩ := hp;refine zV R3 (hva29 ⟨rfl, rfl⟩ rfl rfl) (zV R3 (Val.load_e hpa29 mem0 ⟨_, rfl, rfl⟩ rfl rfl) (zM R4 ?_));obtain ⟨c32, hc32⟩ := zY (a29 = word);refine zV R3 (Val.eql_str hc32 rfl rfl) (zN ?_);obtain ⟨rfl, hc32, h⟩ | ⟨rfl, hc32, h⟩ := zI hc32 h
    ·refine zC rfl (zU rfl (zM R4 (zA R4 (zN (zR ?_)))));cases h;exact ⟨ret_ne, ⟨ret_ne, ⟨rfl, _, rfl, ⟨(), rfl, .refl⟩⟩⟩⟩
    refine zD rfl (zK (zT rfl (zM R4 ?_)));obtain ⟨hk26, h⟩ := chk_some h;refine zV R3 (Val.add rfl rfl hk26) (zA R4 (zN ?_));cases h;exact ⟨rfl, (), (sb .refl)⟩
   refine zD rfl (zE ?_);cases h;exact ⟨ex_ne, ⟨rfl, (), (sb .refl)⟩⟩
  ·rintro _ _ h;refine zU rfl (zM R4 (zA R4 (zN (zR ?_))));cases h;exact ⟨rfl, _, rfl, ⟨(), rfl, .refl⟩⟩
set_option maxRecDepth 10000 in
theorem tf_r1_Fresh {k : Nat} (hk : 0 ≤ k) {C : List Thing} {word : Str} {v_others : AV} {others : List Str} (h_others : Rdl C encStr v_others others) {r : Int} (h : P_r1_Fresh word others = some r) :
  TF (EL k) 74 [sv word, v_others] C (RepF (fun (w : Unit) => iv r) (fun (w : Unit) => C)) := by
 unfold P_r1_Fresh at h;refine TF.enter (fn := Go.Proofs.Tryz.f74) rfl rfl rfl rfl rfl (zU rfl (zA R4 (zN (zU rfl (zA R4 (zN ?_))))))
 show T _ _ _ _ _ _;apply T.joinA (r := r) (W := Unit) (fun j w => ⟨[], [(0, sv word), (5, iv (j))], C⟩) h
 ·intro j h;refine zU rfl (zM R4 (zM R4 ?_));obtain ⟨y8, hr8, h⟩ := andx_some h;refine TO.callT (first := []) (cap := []) (vs := [v_others, sv word]) rfl rfl rfl rfl rfl rfl (orcN rfl) (tf_r1_Place aD (Rdl.mono h_others mem0) hr8) ?_;rintro _;refine zG (C) rfl ?_;obtain ⟨c9, hc9⟩ := zY (y8 ≥ 0);refine zV R3 (Val.geq hc9 rfl rfl) (zN ?_);obtain ⟨rfl, hc9, h⟩ | ⟨rfl, hc9, h⟩ := zI hc9 h
  ·refine zC rfl (zT rfl (zA R4 (zN ?_)));cases h;exact ⟨rfl, (), (sb .refl)⟩
  refine zD rfl (zK ?_);cases h;exact ⟨rfl, (), (sb .refl)⟩
 ·rintro e _ h
  show T _ _ _ _ _ _;apply T.joinA (r := r) (W := Unit) (fun j w => ⟨[], [(5, iv (j))], C⟩) h
  ·intro j h;refine zU rfl (zM R4 ?_);obtain ⟨y11, hr11, h⟩ := andx_some h;refine TO.callT (first := []) (cap := []) (vs := [sv word]) rfl rfl rfl rfl rfl rfl (orcN rfl) (tf_r1_Name aD hr11) ?_;rintro _;refine zG (C) rfl (zV R3 (Val.not rfl) (zN ?_));obtain ⟨rfl, h⟩ | ⟨rfl, h⟩ := zZ h
   ·refine zD rfl (zK ?_);cases h;exact ⟨rfl, (), (sb .refl)⟩
   refine zC rfl (zT rfl (zA R4 (zN ?_)));cases h;exact ⟨rfl, (), (sb .refl)⟩
  ·rintro e_2 _ h;refine zU rfl (zM R4 (zA R4 (zN (zR ?_))));cases h;exact ⟨rfl, _, rfl, ⟨(), rfl, .refl⟩⟩
set_option maxRecDepth 10000 in
theorem tf_r9_Mark {k : Nat} (hk : 0 ≤ k) {C : List Thing} {qB : AV} {qD : List Str} {qC : AV} {qE : List qH} {qA : AV} {qF : List qG} {m_Class : Int} {m_Number : Int} {m_Suffix : Str} (qK : Rdl C encStr qB qD) (qI : Rdl C qN qC qE) (qJ : Rdl C qL qA qF) {r : Int} (h : P_r9_Mark qD qE qF m_Class m_Number m_Suffix = some r) :
  TF (EL k) 80 [.agg [qB, qC, qA], .agg [iv (m_Class), iv (m_Number), sv m_Suffix]] C (RepF (fun (w : Unit) => iv r) (fun (w : Unit) => C)) := by
 unfold P_r9_Mark at h;refine TF.enter (fn := Go.Proofs.Tryz.f80) rfl rfl rfl rfl rfl (zU rfl (zQ 3 [_,_,_] R7 (fun b2=>zQ 3 [_,_,_] R7 (fun b3=>zA R4 (zN (zS (zU rfl (zF 0 R6 (zL 0 R3 R6 (zF 0 R6 (zL 1 R3 R6 (zV R3 (Val.len_l qK M2 rfl rfl) ?_))))))))))));obtain ⟨hk10, h⟩ := chk_some h;refine zV R3 (Val.sub rfl rfl hk10) ?_;obtain ⟨y11, hr11, h⟩ := andx_some h;refine TO.callT (first := []) (cap := []) (vs := [iv (m_Class), iv (0), iv (((qD.length : Int) - 1))]) rfl rfl rfl rfl rfl rfl (orcN rfl) (tf_r9_in aD hr11) ?_;rintro _;refine zG (_::_::C) rfl (zV R3 (Val.not rfl) (zN ?_));obtain ⟨rfl, h⟩ | ⟨rfl, h⟩ := zZ h
 ·refine zD rfl (zK (zS (zU rfl (zF 1 R6 (zL 0 R3 R6 ?_)))));obtain ⟨y15, hr15, h⟩ := andx_some h;refine TO.callT (first := []) (cap := []) (vs := [iv (m_Number), iv (1), iv (9999)]) rfl rfl rfl rfl rfl rfl (orcN rfl) (tf_r9_in aD hr15) ?_;rintro _;refine zG (_::_::C) rfl (zV R3 (Val.not rfl) (zN ?_));obtain ⟨rfl, h⟩ | ⟨rfl, h⟩ := zZ h
  ·refine zD rfl (zK ?_)
   show T _ _ _ _ _ _;apply T.join (r := r) (W := Unit) (fun j w => ⟨[], [], .row b3 3 [iv (m_Class), iv (m_Number), sv m_Suffix] :: .row b2 3 [qB, qC, qA] :: C⟩) h
   ·intro j h
    show T _ _ _ _ _ _;apply T.joinA (r := j) (W := Unit) (fun j w => ⟨[], [(26, bv j)], .row b3 3 [iv (m_Class), iv (m_Number), sv m_Suffix] :: .row b2 3 [qB, qC, qA] :: C⟩) h
    ·intro j h;refine zT rfl (zF 2 R6 (zL 0 R3 R6 (zV R3 (Val.len_str rfl rfl) ?_)));obtain ⟨c20, hc20⟩ := zY ((m_Suffix.length : Int) > 2);refine zV R3 (Val.gtr hc20 rfl rfl) (zM R4 ?_);obtain ⟨rfl, hc20, h⟩ | ⟨rfl, hc20, h⟩ := zI hc20 h
     ·refine zO R3 (zO R3 (zO R3 (zO R3 (zP R6 (zN ?_)))));cases h;exact ⟨rfl, (), (sb .refl)⟩
     refine zF 2 R6 (zL 0 R3 R6 ?_);obtain ⟨y24, hr24, h⟩ := andx_some h;refine TO.callT (first := []) (cap := []) (vs := [sv m_Suffix]) rfl rfl rfl rfl rfl rfl (orcN rfl) (tf_r9_letters aD hr24) ?_;rintro _;refine zG (_::_::C) rfl (zV R3 (Val.not rfl) (zP R6 (zN ?_)));cases h;exact ⟨rfl, (), (sb .refl)⟩
    ·rintro x26 _ h;obtain ⟨rfl, h⟩ | ⟨rfl, h⟩ := zZ h
     ·refine zC rfl (zU rfl (zA R4 (zN (zR ?_))));cases h;exact ⟨ret_ne, ⟨rfl, _, rfl, ⟨(), rfl, (pk [98,98] rfl)⟩⟩⟩
     refine zD rfl (zK ?_);cases h;exact ⟨rfl, (), (sb .refl)⟩
   ·rintro _ _ h;refine zU rfl (zA R4 (zN (zR ?_)));cases h;exact ⟨rfl, _, rfl, ⟨(), rfl, (pk [98,98] rfl)⟩⟩
  refine zC rfl (zU rfl (zA R4 (zN (zR ?_))));cases h;exact ⟨rfl, _, rfl, ⟨(), rfl, (pk [98,98] rfl)⟩⟩
 refine zC rfl (zU rfl (zA R4 (zN (zR ?_))));cases h;exact ⟨rfl, _, rfl, ⟨(), rfl, (pk [98,98] rfl)⟩⟩
set_option maxRecDepth 10000 in
theorem tf_r9_Own {k : Nat} (hk : 0 ≤ k) {C : List Thing} {v_books : AV} {books : List qG} (h_books : Rdl C qL v_books books) {r : (List Int)} (h : P_r9_Own books = some r) :
  TF (EL k) 51 [v_books] C (RepF (fun (w : AV) => w) (fun (w : AV) => ownL true w encI r :: C)) := by
 unfold P_r9_Own at h;refine TF.enter (fn := Go.Proofs.Tryz.f51) rfl rfl rfl rfl rfl (zU rfl (zA R4 (zN (zU rfl (zA R4 (zN ?_))))))
 show T _ _ _ _ _ _;apply T.joinA (r := r) (W := AV) (fun j w => ⟨[], [(3, w)], ownL true w encI j :: C⟩) h
 ·intro j h;refine zU rfl (zA R4 (zN (zB (T.nilown (u := encI.u) ?_))))
  show T _ _ _ _ _ _;apply T.iter (r := j) (W := AV) (fun j w => ⟨[], [(0, v_books), (3, w), (4, iv (j.1))], ownL true w encI j.2 :: C⟩) (w0 := nilS) h
  ·exact (sb .refl)
  rintro ⟨i, out⟩ v1 a h;unfold P_r9_Own_L1 at h;dsimp only at h;dsimp only;refine zS (zU rfl (zM R4 (zM R4 (zV R3 (Val.len_l h_books M1 rfl rfl) ?_))));obtain ⟨c8, hc8⟩ := zY (i < (books.length : Int));refine zV R3 (Val.lss hc8 rfl rfl) (zN ?_);obtain ⟨rfl, hc8, h⟩ | ⟨rfl, hc8, h⟩ := zI hc8 h
  ·refine zC rfl (zK (zS (zB (zT rfl (zM R4 (zM R4 (zM R4 ?_)))))));obtain ⟨a14, hia14, ea14, h⟩ := el_some h;refine TO.fact (rdl_at h_books M1 hia14 ea14) (fun hp=>?_);obtain ⟨pa14, hpa14, hva14⟩ := hp;refine zV R3 (hva14 ⟨rfl, rfl⟩ rfl rfl) (zV R3 (Val.faddr_e (fo := 6) hpa14 rfl rfl rfl) (zV R3 (Val.load_e (PtE.add hpa14 (by decide)) M1 ⟨_, rfl, rfl⟩ rfl rfl) (TO.build1 (en := encI) (a := a14.shelf) rfl rfl rfl ⟨rfl, rfl⟩ ⟨_, rfl, rfl⟩ (by decide) (by decide) rfl rfl (fun v17=>?_))));obtain ⟨hk18, h⟩ := chk_some h;refine TO.eff rfl rfl rfl (Eff.append_own (b := 8) (en := encI) (l := out) (l2 := [a14.shelf]) (p := 1) (q := 0) ⟨rfl, rfl, rfl, ⟨_, rfl, rfl⟩, by decide, by decide⟩ rfl rfl rfl rfl rfl rfl (flat_ones _) (by decide) hk18) ?_;rintro v18 _ rfl;refine zG (_::_::C) rfl (zA R4 (zN (zT rfl (zM R4 ?_))));obtain ⟨hk10, h⟩ := chk_some h;refine zV R3 (Val.add rfl rfl hk10) (zA R4 (zN ?_));cases h;exact ⟨rfl, v18, (sb (pk [1,98] rfl))⟩
  refine zD rfl (zE ?_);cases h;exact ⟨ex_ne, ⟨rfl, v1, (sb .refl)⟩⟩
 ·rintro out v1 h;refine zU rfl (zM R4 (zA R4 (zN (zR ?_))));cases h;exact ⟨rfl, _, rfl, ⟨v1, rfl, .refl⟩⟩
set_option maxRecDepth 10000 in
theorem tf_r9_Book {k : Nat} (hk : 0 ≤ k) {C : List Thing} {qB : AV} {qD : List Str} {qC : AV} {qE : List qH} {qA : AV} {qF : List qG} {qQ : Int} {qR : Int} {qS : Str} {qP : Int} {qO : Int} {qT : Int} {qX : Int} {v_before : AV} {before : List qG} (qK : Rdl C encStr qB qD) (qI : Rdl C qN qC qE) (qJ : Rdl C qL qA qF) (h_before : Rdl C qL v_before before) {r : Int} (h : P_r9_Book qD qE qF qQ qR qS qP qO qT qX before = some r) :
  TF (EL k) 75 [.agg [qB, qC, qA], .agg [iv (qQ), iv (qR), sv qS, iv (qP), iv (qO), iv (qT), iv (qX)], v_before] C (RepF (fun (w : Unit) => iv r) (fun (w : Unit) => C)) := by
 unfold P_r9_Book at h;refine TF.enter (fn := Go.Proofs.Tryz.f75) rfl rfl rfl rfl rfl (zU rfl (zQ 3 [_,_,_] R7 (fun b3=>zQ 7 [_,_,_,_,_,_,_] R7 (fun b4=>zA R4 (zN (zU rfl (zV R3 (vW 1 [_,_,_] R5 R4) (zF 0 R6 (zV R3 (vW 0 [_,_,_] R5 R4) ?_)))))))));obtain ⟨y12, hr12, h⟩ := andx_some h;refine TO.callT (first := []) (cap := []) (vs := [.agg [qB, qC, qA], .agg [iv (qQ), iv (qR), sv qS]]) rfl rfl rfl rfl rfl rfl (orcN rfl) (tf_r9_Mark aD (Rdl.mono qK M2) (Rdl.mono qI M2) (Rdl.mono qJ M2) hr12) ?_;rintro _;refine zG (_::_::C) rfl (zA R4 (zN ?_))
 show T _ _ _ _ _ _;apply T.joinA (r := r) (W := Unit) (fun j w => ⟨[], [(2, v_before), (4, .ptr b4 0 7), (7, iv (j))], .row b4 7 [iv (qQ), iv (qR), sv qS, iv (qP), iv (qO), iv (qT), iv (qX)] :: .row b3 3 [qB, qC, qA] :: C⟩) h
 ·intro j h
  show T _ _ _ _ _ _;apply T.joinA (r := j) (W := Unit) (fun j w => ⟨[], [(2, v_before), (4, .ptr b4 0 7), (7, iv (y12)), (32, bv j)], .row b4 7 [iv (qQ), iv (qR), sv qS, iv (qP), iv (qO), iv (qT), iv (qX)] :: .row b3 3 [qB, qC, qA] :: C⟩) h
  ·intro j h;refine zT rfl (zM R4 ?_);obtain ⟨c14, hc14⟩ := zY (y12 = 0);refine zV R3 (Val.eql hc14 rfl rfl) (zM R4 ?_);obtain ⟨rfl, hc14, h⟩ | ⟨rfl, hc14, h⟩ := zI hc14 h
   ·refine zF 3 R6 (zL 0 R3 R6 ?_);obtain ⟨y18, hr18, h⟩ := andx_some h;refine TO.callT (first := []) (cap := []) (vs := [iv (qP), iv (1), iv (2000)]) rfl rfl rfl rfl rfl rfl (orcN rfl) (tf_r9_in aD hr18) ?_;rintro _;refine zG (_::_::C) rfl (zV R3 (Val.not rfl) (zM R4 ?_));obtain ⟨rfl, h⟩ | ⟨rfl, h⟩ := zZ h
    ·refine zF 4 R6 (zL 0 R3 R6 ?_);obtain ⟨y23, hr23, h⟩ := andx_some h;refine TO.callT (first := []) (cap := []) (vs := [iv (qO), iv (1), iv (2000)]) rfl rfl rfl rfl rfl rfl (orcN rfl) (tf_r9_in aD hr23) ?_;rintro _;refine zG (_::_::C) rfl (zV R3 (Val.not rfl) (zP R6 (zM R4 ?_)));obtain ⟨rfl, h⟩ | ⟨rfl, h⟩ := zZ h
     ·refine zF 5 R6 (zL 0 R3 R6 ?_);obtain ⟨y29, hr29, h⟩ := andx_some h;refine TO.callT (first := []) (cap := []) (vs := [iv (qT), iv (1), iv (100)]) rfl rfl rfl rfl rfl rfl (orcN rfl) (tf_r9_in aD hr29) ?_;rintro _;refine zG (_::_::C) rfl (zV R3 (Val.not rfl) (zP R6 (zP R6 (zN ?_))));cases h;exact ⟨rfl, (), (sb .refl)⟩
     refine zO R3 (zO R3 (zO R3 (zO R3 (zP R6 (zP R6 (zN ?_))))));cases h;exact ⟨rfl, (), (sb .refl)⟩
    refine zO R3 (zO R3 (zO R3 (zO R3 (zP R6 (zM R4 (zO R3 (zO R3 (zO R3 (zO R3 (zP R6 (zP R6 (zN ?_))))))))))));cases h;exact ⟨rfl, (), (sb .refl)⟩
   refine zO R3 (zO R3 (zO R3 (zO R3 (zO R3 (zO R3 (zO R3 (zO R3 (zO R3 (zO R3 (zO R3 (zO R3 (zO R3 (zO R3 (zO R3 (zO R3 (zP R6 (zN ?_)))))))))))))))));cases h;exact ⟨rfl, (), (sb .refl)⟩
  ·rintro x32 _ h;obtain ⟨rfl, h⟩ | ⟨rfl, h⟩ := zZ h
   ·refine zC rfl (zT rfl (zA R4 (zN ?_)));cases h;exact ⟨rfl, (), (sb .refl)⟩
   refine zD rfl (zK ?_);cases h;exact ⟨rfl, (), (sb .refl)⟩
 ·rintro e _ h
  show T _ _ _ _ _ _;apply T.joinA (r := r) (W := Unit) (fun j w => ⟨[], [(7, iv (j))], .row b4 7 [iv (qQ), iv (qR), sv qS, iv (qP), iv (qO), iv (qT), iv (qX)] :: C⟩) h
  ·intro j h;refine zU rfl (zA R4 (zN (zB ?_)))
   show T _ _ _ _ _ _;apply T.iter (r := j) (W := Unit) (fun j w => ⟨[], [(2, v_before), (4, .ptr b4 0 7), (7, iv (j.1)), (8, iv (j.2))], .row b4 7 [iv (qQ), iv (qR), sv qS, iv (qP), iv (qO), iv (qT), iv (qX)] :: C⟩) (w0 := ()) h
   ·exact (sb (pk [0,98] rfl))
   rintro ⟨e_2, i⟩ _ a h;unfold P_r9_Book_L1 at h;dsimp only at h;dsimp only
   show T _ _ _ _ _ _;apply T.join (r := a) (W := Unit) (fun j w => ⟨[], [(2, v_before), (4, .ptr b4 0 7), (7, iv (e_2)), (8, iv (i))], .row b4 7 [iv (qQ), iv (qR), sv qS, iv (qP), iv (qO), iv (qT), iv (qX)] :: C⟩) h
   ·intro j h
    show T _ _ _ _ _ _;apply T.joinA (r := j) (W := Unit) (fun j w => ⟨[], [(2, v_before), (4, .ptr b4 0 7), (7, iv (e_2)), (8, iv (i)), (40, bv j)], .row b4 7 [iv (qQ), iv (qR), sv qS, iv (qP), iv (qO), iv (qT), iv (qX)] :: C⟩) h
    ·intro j h;refine zT rfl (zM R4 (zM R4 (zV R3 (Val.len_l h_before M1 rfl rfl) ?_)));obtain ⟨c36, hc36⟩ := zY (i < (before.length : Int));refine zV R3 (Val.lss hc36 rfl rfl) (zM R4 ?_);obtain ⟨rfl, hc36, h⟩ | ⟨rfl, hc36, h⟩ := zI hc36 h
     ·refine zM R4 ?_;obtain ⟨c39, hc39⟩ := zY (e_2 = 0);refine zV R3 (Val.eql hc39 rfl rfl) (zP R6 (zN ?_));subst hc39;cases h;exact ⟨rfl, (), (sb .refl)⟩
     refine zO R3 (zO R3 (zP R6 (zN ?_)));cases h;exact ⟨rfl, (), (sb .refl)⟩
    ·rintro x40 _ h;obtain ⟨rfl, h⟩ | ⟨rfl, h⟩ := zZ h
     ·refine zC rfl (zK ?_);cases h;exact ⟨rfl, (), (sb .refl)⟩
     refine zD rfl (zE ?_);cases h;exact ⟨ex_ne, ⟨ex_ne, ⟨rfl, (), (sb .refl)⟩⟩⟩
   ·rintro _ _ h
    show T _ _ _ _ _ _;apply T.joinA (r := a) (W := Unit) (fun j w => ⟨[], [(2, v_before), (4, .ptr b4 0 7), (7, iv (j)), (8, iv (i))], .row b4 7 [iv (qQ), iv (qR), sv qS, iv (qP), iv (qO), iv (qT), iv (qX)] :: C⟩) h
    ·intro j h;refine zB (zS (T.draw (fun v => sameC_refl v) (l1 := [0, 1, 2, 3, 4, 5, 6, 7]) (l2 := []) (by kernel_rfl) (by kernel_rfl) (zM R4 (zM R4 ?_))));obtain ⟨a45, hia45, ea45, h⟩ := el_some h;refine TO.fact (rdl_at h_before M1 hia45 ea45) (fun hp=>?_);obtain ⟨pa45, hpa45, hva45⟩ := hp;refine zV R3 (hva45 ⟨rfl, rfl⟩ rfl rfl) (zV R3 (Val.faddr_e (fo := 0) hpa45 rfl rfl rfl) (zV R3 (Val.load_es (c := [_, _, _]) (PtE.add hpa45 (by decide)) M1 ⟨⟨_, rfl, rfl⟩, rfl, by decide⟩ rfl rfl rfl) (zF 0 R6 (zV R3 (vW 0 [_,_,_] R5 R4) ?_))));obtain ⟨c50, hc50⟩ := zY (a45.qU = qQ ∧ a45.qV = qR ∧ a45.qW = qS);refine zV R3 (Val.binD hc50 rfl rfl (eql_ty28 _ _ _ _ _ _ _ _)) (zN ?_);obtain ⟨rfl, hc50, h⟩ | ⟨rfl, hc50, h⟩ := zI hc50 h
     ·refine zC rfl (zT rfl (zA R4 (zN ?_)));cases h;exact ⟨rfl, (), (sb .refl)⟩
     refine zD rfl (zK ?_);cases h;exact ⟨rfl, (), (sb .refl)⟩
    ·rintro e_3 _ h;refine zT rfl (zM R4 ?_);obtain ⟨hk42, h⟩ := chk_some h;refine zV R3 (Val.add rfl rfl hk42) (zA R4 (zN ?_));cases h;exact ⟨rfl, (), (sb .refl)⟩
  ·rintro e_2 _ h;refine zU rfl (zM R4 (zA R4 (zN (zR ?_))));cases h;exact ⟨rfl, _, rfl, ⟨(), rfl, (pk [98] rfl)⟩⟩
set_option maxRecDepth 10000 in
theorem tf_r9_Filled {k : Nat} (hk : 0 ≤ k) {C : List Thing} {qB : AV} {qD : List Str} {qC : AV} {qE : List qH} {qA : AV} {qF : List qG} {v_books : AV} {books : List qG} {v_shelves : AV} {shelves : List Int} {shelf : Int} (qK : Rdl C encStr qB qD) (qI : Rdl C qN qC qE) (qJ : Rdl C qL qA qF) (h_books : Rdl C qL v_books books) (h_shelves : Rdl C encI v_shelves shelves) {r : Int} (h : P_r9_Filled qD qE qF books shelves shelf = some r) :
  TF (EL k) 95 [.agg [qB, qC, qA], v_books, v_shelves, iv (shelf)] C (RepF (fun (w : Unit) => iv r) (fun (w : Unit) => C)) := by
 unfold P_r9_Filled at h;refine TF.enter (fn := Go.Proofs.Tryz.f95) rfl rfl rfl rfl rfl (zU rfl (zQ 3 [_,_,_] R7 (fun b4=>zA R4 (zN (zU rfl (zA R4 (zN ?_)))))))
 show T _ _ _ _ _ _;apply T.join (r := r) (W := Unit) (fun j w => ⟨[], [(9, iv (j))], .row b4 3 [qB, qC, qA] :: C⟩) h
 ·intro j h;refine zU rfl (zA R4 (zN (zB ?_)))
  show T _ _ _ _ _ _;apply T.iter (r := j) (W := Unit) (fun j w => ⟨[], [(1, v_books), (2, v_shelves), (3, iv (shelf)), (4, .ptr b4 0 3), (9, iv (j.1)), (10, iv (j.2))], .row b4 3 [qB, qC, qA] :: C⟩) (w0 := ()) h
  ·exact (sb .refl)
  rintro ⟨n, i⟩ _ a h;unfold P_r9_Filled_L1 at h;dsimp only at h;dsimp only;refine zS (zU rfl (zM R4 (zM R4 (zV R3 (Val.len_l h_books M1 rfl rfl) ?_))));obtain ⟨c14, hc14⟩ := zY (i < (books.length : Int));refine zV R3 (Val.lss hc14 rfl rfl) (zN ?_);obtain ⟨rfl, hc14, h⟩ | ⟨rfl, hc14, h⟩ := zI hc14 h
  ·refine zC rfl (zK ?_)
   show T _ _ _ _ _ _;apply T.join (r := a) (W := Unit) (fun j w => ⟨[], [(1, v_books), (2, v_shelves), (3, iv (shelf)), (4, .ptr b4 0 3), (9, iv (j)), (10, iv (i))], .row b4 3 [qB, qC, qA] :: C⟩) h
   ·intro j h;refine zB (zS (zU rfl (zM R4 (zM R4 ?_))));obtain ⟨a19, hia19, ea19, h⟩ := el_some h;refine TO.fact (rdl_at h_shelves M1 hia19 ea19) (fun hp=>?_);obtain ⟨pa19, hpa19, hva19⟩ := hp;refine zV R3 (hva19 ⟨rfl, rfl⟩ rfl rfl) (zV R3 (Val.load_e hpa19 M1 ⟨_, rfl, rfl⟩ rfl rfl) (zM R4 ?_));obtain ⟨c22, hc22⟩ := zY (¬ a19 = shelf);refine zV R3 (Val.neq hc22 rfl rfl) (zN ?_);obtain ⟨rfl, hc22, h⟩ | ⟨rfl, hc22, h⟩ := zI hc22 h
    ·refine zC rfl (zE ?_);cases h;exact ⟨rfl, (), (sb .refl)⟩
    refine zD rfl (zK (zS (zS (T.draw (fun v => sameC_refl v) (l1 := [0, 1, 2, 3, 4, 5, 6, 7, 8, 9, 10, 11]) (l2 := []) (by kernel_rfl) (by kernel_rfl) (zM R4 (zM R4 ?_))))));obtain ⟨a25, hia25, ea25, h⟩ := el_some h;refine TO.fact (rdl_at h_books M1 hia25 ea25) (fun hp=>?_);obtain ⟨pa25, hpa25, hva25⟩ := hp;refine zV R3 (hva25 ⟨rfl, rfl⟩ rfl rfl) (zV R3 (Val.faddr_e (fo := 4) hpa25 rfl rfl rfl) (zV R3 (Val.load_e (PtE.add hpa25 (by decide)) M1 ⟨_, rfl, rfl⟩ rfl rfl) (zF 1 R6 (zL 0 R3 R6 (zM R4 ?_)))));obtain ⟨a31, hia31, ea31, h⟩ := el_some h;refine TO.fact (rdl_at qI M1 hia31 ea31) (fun hp=>?_);obtain ⟨pa31, hpa31, hva31⟩ := hp;refine zV R3 (hva31 ⟨rfl, rfl⟩ rfl rfl) (zV R3 (Val.faddr_e (fo := 3) hpa31 rfl rfl rfl) (zV R3 (Val.load_e (PtE.add hpa31 (by decide)) M1 ⟨_, rfl, rfl⟩ rfl rfl) ?_));obtain ⟨c34, hc34⟩ := zY (a25.high > a31.high);refine zV R3 (Val.gtr hc34 rfl rfl) (zN ?_);obtain ⟨rfl, hc34, h⟩ | ⟨rfl, hc34, h⟩ := zI hc34 h
    ·refine zC rfl (zU rfl (zA R4 (zN (zR ?_))));cases h;exact ⟨ret_ne, ⟨ret_ne, ⟨ret_ne, ⟨rfl, _, rfl, ⟨(), rfl, (pk [98] rfl)⟩⟩⟩⟩⟩
    refine zD rfl (zK (zT rfl (zM R4 (zM R4 (zM R4 ?_)))));obtain ⟨a38, hia38, ea38, h⟩ := el_some h;refine TO.fact (rdl_at h_books M1 hia38 ea38) (fun hp=>?_);obtain ⟨pa38, hpa38, hva38⟩ := hp;refine zV R3 (hva38 ⟨rfl, rfl⟩ rfl rfl) (zV R3 (Val.faddr_e (fo := 3) hpa38 rfl rfl rfl) (zV R3 (Val.load_e (PtE.add hpa38 (by decide)) M1 ⟨_, rfl, rfl⟩ rfl rfl) ?_));obtain ⟨hk41, h⟩ := chk_some h;refine zV R3 (Val.add rfl rfl hk41) (zA R4 (zN ?_));cases h;exact ⟨rfl, (), (sb .refl)⟩
   ·rintro n_2 _ h;refine zT rfl (zM R4 ?_);obtain ⟨hk16, h⟩ := chk_some h;refine zV R3 (Val.add rfl rfl hk16) (zA R4 (zN ?_));cases h;exact ⟨rfl, (), (sb .refl)⟩
  refine zD rfl (zE ?_);cases h;exact ⟨ex_ne, ⟨rfl, (), (sb .refl)⟩⟩
 ·rintro n _ h;refine zU rfl (zM R4 (zA R4 (zN (zR ?_))));cases h;exact ⟨rfl, _, rfl, ⟨(), rfl, (pk [98] rfl)⟩⟩
set_option maxRecDepth 10000 in
theorem tf_r9_fit {k : Nat} (hk : 0 ≤ k) {C : List Thing} {qB : AV} {qD : List Str} {qC : AV} {qE : List qH} {qA : AV} {qF : List qG} {v_books : AV} {books : List qG} {v_shelves : AV} {shelves : List Int} {shelf : Int} (qK : Rdl C encStr qB qD) (qI : Rdl C qN qC qE) (qJ : Rdl C qL qA qF) (h_books : Rdl C qL v_books books) (h_shelves : Rdl C encI v_shelves shelves) {r : Bool} (h : P_r9_fit qD qE qF books shelves shelf = some r) :
  TF (EL k) 76 [.agg [qB, qC, qA], v_books, v_shelves, iv (shelf)] C (RepF (fun (w : Unit) => bv r) (fun (w : Unit) => C)) := by
 unfold P_r9_fit at h;refine TF.enter (fn := Go.Proofs.Tryz.f76) rfl rfl rfl rfl rfl (zU rfl (zQ 3 [_,_,_] R7 (fun b4=>zA R4 (zN (zS (T.drawE (l1 := [0, 1, 2, 3, 5, 6, 7, 8, 9, 10]) (l2 := [4, 11, 12]) (by kernel_rfl) (by kernel_rfl) (yR R4 (vW 0 [_,_,_] R5 R4) (yL R4 (Val.move rfl) (yL R4 (Val.move rfl) (yL R4 (Val.move rfl) (yL R4 (Val.faddr_ptr (fo := 1) rfl rfl rfl) (yR R4 (vR (p := 0) R6) (yL R4 (Val.move rfl) ?_)))))))))))));obtain ⟨a17, hia17, ea17, h⟩ := el_some h;refine TD1.fact (rdl_at qI M1 hia17 ea17) (fun hp=>?_);obtain ⟨pa17, hpa17, hva17⟩ := hp;refine yL R4 (hva17 ⟨rfl, rfl⟩ rfl rfl) (yL R4 (Val.faddr_e (fo := 2) hpa17 rfl rfl rfl) (yR R4 (Val.load_e (PtE.add hpa17 (by decide)) M1 ⟨_, rfl, rfl⟩ rfl rfl) (TD1.over (fun v => sameC_refl v) (all_cons (⟨_, rfl, (Val.load_e (PtE.add hpa17 (by decide)) M1 ⟨_, rfl, rfl⟩ rfl rfl)⟩) (all_cons (⟨_, rfl, (vR (p := 0) R6)⟩) (all_cons (⟨_, rfl, (vW 0 [_,_,_] R5 R4)⟩) all_nil))) ?_)));obtain ⟨y13, hr13, h⟩ := andx_some h;refine TD2.heavy (fun v => sameC_refl v) rfl (by decide) rfl rfl (OpS.callV rfl rfl rfl rfl (orcN rfl) (RepF.conv (tf_r9_Filled aD (Rdl.mono qK M1) (Rdl.mono qI M1) (Rdl.mono qJ M1) (Rdl.mono h_books M1) (Rdl.mono h_shelves M1) hr13))) ?_;rintro _ hs_ ⟨_, rfl, he_⟩;subst hs_;refine ⟨(all_cons (.inr ⟨_, rfl, (Val.load_e (PtE.add hpa17 (by decide)) M1 ⟨_, rfl, rfl⟩ rfl rfl)⟩) (all_cons (.inr ⟨_, rfl, (vR (p := 0) R6)⟩) (all_cons (.inl (by kernel_rfl)) all_nil))), all_nil, ?_⟩;refine yG (_::C) rfl ?_;obtain ⟨y20, hr20, h⟩ := andx_some h;refine TD2.heavy (fun v => sameC_refl v) rfl (by decide) rfl rfl (OpS.callV rfl rfl rfl rfl (orcN rfl) (RepF.conv (tf_r9_in aD hr20))) ?_;rintro _ hs_ ⟨_, rfl, he_⟩;subst hs_;refine ⟨(all_cons (.inl (by kernel_rfl)) (all_cons (.inl (by kernel_rfl)) (all_cons (.inl (by kernel_rfl)) all_nil))), all_nil, ?_⟩;refine yG (_::C) rfl (yM R4 (Val.assign rfl) (TD2.nil (zR ?_)));cases h;exact ⟨rfl, _, rfl, ⟨(), rfl, (pk [98] rfl)⟩⟩
set_option maxRecDepth 10000 in
theorem tf_r9_Check {k : Nat} (hk : 0 ≤ k) {C : List Thing} {qB : AV} {qD : List Str} {qC : AV} {qE : List qH} {qA : AV} {qF : List qG} (qZ : RdT encStr qB qD) (qAa : RdT qN qC qE) (qY : RdT qL qA qF) {r : Int × Int × Int} (h : P_r9_Check qD qE qF = some r) :
  TF (EL k) 17 [.agg [qB, qC, qA]] C (RepF (fun (w : Unit) => .tuple [iv r.1, iv r.2.1, iv r.2.2]) (fun (w : Unit) => C)) := by
 unfold P_r9_Check at h
 have qK : Rdl C encStr qB qD := RdT.rdl qZ
 have qI : Rdl C qN qC qE := RdT.rdl qAa
 have qJ : Rdl C qL qA qF := RdT.rdl qY;refine TF.enter (fn := Go.Proofs.Tryz.f17) rfl rfl rfl rfl rfl (zU rfl (zQ 3 [_,_,_] R7 (fun b1=>zA R4 (zA R4 (zA R4 (zN (zS (zU rfl (zF 0 R6 (zL 0 R3 R6 (zV R3 (Val.len_l qK M1 rfl rfl) ?_)))))))))));obtain ⟨y16, hr16, h⟩ := andx_some h;refine TO.callT (first := []) (cap := []) (vs := [iv ((qD.length : Int)), iv (1), iv (6)]) rfl rfl rfl rfl rfl rfl (orcN rfl) (tf_r9_in aD hr16) ?_;rintro _;refine zG (_::C) rfl (zV R3 (Val.not rfl) (zN ?_));obtain ⟨rfl, h⟩ | ⟨rfl, h⟩ := zZ h
 ·refine zD rfl (zK ?_)
  show T _ _ _ _ _ _;apply T.join (r := r) (W := Unit) (fun j w => ⟨[], [(1, .ptr b1 0 3)], .row b1 3 [qB, qC, qA] :: C⟩) h
  ·intro j h;refine zU rfl (zA R4 (zN (zB ?_)))
   show T _ _ _ _ _ _;apply T.iter (r := j) (W := Unit) (fun j w => ⟨[], [(1, .ptr b1 0 3), (5, iv (j))], .row b1 3 [qB, qC, qA] :: C⟩) (w0 := ()) h
   ·exact (sb .refl)
   rintro i _ a h;unfold P_r9_Check_L1 at h;refine zS (zU rfl (zM R4 (zF 0 R6 (zL 0 R3 R6 (zV R3 (Val.len_l qK M1 rfl rfl) ?_)))));obtain ⟨c22, hc22⟩ := zY (i < (qD.length : Int));refine zV R3 (Val.lss hc22 rfl rfl) (zN ?_);obtain ⟨rfl, hc22, h⟩ | ⟨rfl, hc22, h⟩ := zI hc22 h
   ·refine zC rfl (zK (zS (zB (zS (T.drawE (l1 := [0, 1, 2, 3, 4, 5, 6, 7, 8]) (l2 := [9, 10]) (by kernel_rfl) (by kernel_rfl) (yL R4 (Val.faddr_ptr (fo := 0) rfl rfl rfl) (yR R4 (vR (p := 0) R6) (yL R4 (Val.move rfl) ?_))))))));obtain ⟨a28, hia28, ea28, h⟩ := el_some h;refine TD1.fact (rdl_at qK M1 hia28 ea28) (fun hp=>?_);obtain ⟨pa28, hpa28, hva28⟩ := hp;refine yL R4 (hva28 ⟨rfl, rfl⟩ rfl rfl) (yR R4 (Val.load_e hpa28 M1 ⟨_, rfl, rfl⟩ rfl rfl) (yL R4 (Val.faddr_ptr (fo := 0) rfl rfl rfl) (yR R4 (vR (p := 0) R6) (yL R4 (Val.move rfl) ?_))));obtain ⟨hk33, h⟩ := chk_some h;obtain ⟨w33, htw33, hgw33, hvw33⟩ := slice_T qZ hk33
    have hw33 : Rdl C encStr w33 (List.take (i - (0 : Int)).toNat (List.drop ((0 : Int) : Int).toNat qD)) := RdT.rdl htw33;refine yR R4 (hvw33 ⟨rfl, rfl⟩ rfl .no (.some rfl)) (TD1.over (fun v => sameC_refl v) (all_cons (⟨_, rfl, (hvw33 ⟨rfl, rfl⟩ rfl .no (.some rfl))⟩) (all_cons (⟨_, rfl, (vR (p := 0) R6)⟩) (all_cons (⟨_, rfl, (Val.load_e hpa28 M1 ⟨_, rfl, rfl⟩ rfl rfl)⟩) (all_cons (⟨_, rfl, (vR (p := 0) R6)⟩) all_nil)))) ?_);obtain ⟨y34, hr34, h⟩ := andx_some h;refine TD2.heavy (fun v => sameC_refl v) rfl (by decide) rfl rfl (OpS.callV rfl rfl rfl rfl (orcN rfl) (RepF.conv (tf_r1_Fresh aD (Rdl.mono hw33 M1) hr34))) ?_;rintro _ hs_ ⟨_, rfl, he_⟩;subst hs_;refine ⟨(all_cons (.inl (by kernel_rfl)) (all_cons (.inl (by kernel_rfl)) (all_cons (.inl (by kernel_rfl)) (all_cons (.inl (by kernel_rfl)) all_nil)))), all_nil, ?_⟩;refine yG (_::C) rfl (yM R4 (Val.assign rfl) (TD2.nil (zU rfl (zM R4 ?_))));obtain ⟨c36, hc36⟩ := zY (¬ y34 = 0);refine zV R3 (Val.neq hc36 rfl rfl) (zN ?_);obtain ⟨rfl, hc36, h⟩ | ⟨rfl, hc36, h⟩ := zI hc36 h
    ·refine zC rfl (zU rfl (zM R4 (zM R4 (zA R4 (zA R4 (zA R4 (zN (zR ?_))))))));cases h;exact ⟨ret_ne, ⟨ret_ne, ⟨rfl, _, rfl, ⟨(), rfl, (pk [98] rfl)⟩⟩⟩⟩
    refine zD rfl (zK (zT rfl (zM R4 ?_)));obtain ⟨hk24, h⟩ := chk_some h;refine zV R3 (Val.add rfl rfl hk24) (zA R4 (zN ?_));cases h;exact ⟨rfl, (), (sb .refl)⟩
   refine zD rfl (zE ?_);cases h;exact ⟨ex_ne, ⟨rfl, (), (sb .refl)⟩⟩
  ·rintro _ _ h;refine zS (zU rfl (zF 1 R6 (zL 0 R3 R6 (zV R3 (Val.len_l qI M1 rfl rfl) ?_))));obtain ⟨y42, hr42, h⟩ := andx_some h;refine TO.callT (first := []) (cap := []) (vs := [iv ((qE.length : Int)), iv (1), iv (4)]) rfl rfl rfl rfl rfl rfl (orcN rfl) (tf_r9_in aD hr42) ?_;rintro _;refine zG (_::C) rfl (zV R3 (Val.not rfl) (zN ?_));obtain ⟨rfl, h⟩ | ⟨rfl, h⟩ := zZ h
   ·refine zD rfl (zK ?_)
    show T _ _ _ _ _ _;apply T.join (r := r) (W := Unit) (fun j w => ⟨[], [(1, .ptr b1 0 3)], .row b1 3 [qB, qC, qA] :: C⟩) h
    ·intro j h;refine zU rfl (zA R4 (zN (zB ?_)))
     show T _ _ _ _ _ _;apply T.iter (r := j) (W := Unit) (fun j w => ⟨[], [(1, .ptr b1 0 3), (7, iv (j))], .row b1 3 [qB, qC, qA] :: C⟩) (w0 := ()) h
     ·exact (sb .refl)
     rintro i _ a h;unfold P_r9_Check_L2 at h;refine zS (zU rfl (zM R4 (zF 1 R6 (zL 0 R3 R6 (zV R3 (Val.len_l qI M1 rfl rfl) ?_)))));obtain ⟨c48, hc48⟩ := zY (i < (qE.length : Int));refine zV R3 (Val.lss hc48 rfl rfl) (zN ?_);obtain ⟨rfl, hc48, h⟩ | ⟨rfl, hc48, h⟩ := zI hc48 h
     ·refine zC rfl (zK ?_)
      show T _ _ _ _ _ _;apply T.join (r := a) (W := Unit) (fun j w => ⟨[], [(1, .ptr b1 0 3), (7, iv (i))], .row b1 3 [qB, qC, qA] :: C⟩) h
      ·intro j h;refine zB (zU rfl (zF 1 R6 (zL 0 R3 R6 (zM R4 ?_))));obtain ⟨a54, hia54, ea54, h⟩ := el_some h;refine TO.fact (rdl_at qI M1 hia54 ea54) (fun hp=>?_);obtain ⟨pa54, hpa54, hva54⟩ := hp;refine zV R3 (hva54 ⟨rfl, rfl⟩ rfl rfl) (zV R3 (Val.load_es (c := [_, _, _, _]) hpa54 M1 ⟨⟨_, rfl, rfl⟩, rfl, by decide⟩ rfl rfl rfl) (zJ 4 [_,_,_,_] R7 (fun b8=>TO.eff0 rfl rfl (Eff.store_row (p := 0) (cv := [_, _, _, _]) (cells' := [_, _, _, _]) rfl rfl rfl rfl rfl rfl rfl rfl aG (by decide) rfl) ?_)));rintro _ rfl;refine zG (_::_::C) rfl (zN ?_)
       show T _ _ _ _ _ _;apply T.joinA (r := j) (W := Unit) (fun j w => ⟨[], [(1, .ptr b1 0 3), (7, iv (i)), (77, bv j)], .row b8 4 [iv (a54.away), iv (a54.climb), iv (a54.wide), iv (a54.high)] :: .row b1 3 [qB, qC, qA] :: C⟩) h
       ·intro j h;refine zT rfl (zF 0 R6 (zL 0 R3 R6 ?_));obtain ⟨y58, hr58, h⟩ := andx_some h;refine TO.callT (first := []) (cap := []) (vs := [iv (a54.away), iv (0), iv (1000)]) rfl rfl rfl rfl rfl rfl (orcN rfl) (tf_r9_in aD hr58) ?_;rintro _;refine zG (_::_::C) rfl (zV R3 (Val.not rfl) (zM R4 ?_));obtain ⟨rfl, h⟩ | ⟨rfl, h⟩ := zZ h
        ·refine zF 1 R6 (zL 0 R3 R6 ?_);obtain ⟨y63, hr63, h⟩ := andx_some h;refine TO.callT (first := []) (cap := []) (vs := [iv (a54.climb), iv (0), iv (1000)]) rfl rfl rfl rfl rfl rfl (orcN rfl) (tf_r9_in aD hr63) ?_;rintro _;refine zG (_::_::C) rfl (zV R3 (Val.not rfl) (zP R6 (zM R4 ?_)));obtain ⟨rfl, h⟩ | ⟨rfl, h⟩ := zZ h
         ·refine zF 2 R6 (zL 0 R3 R6 ?_);obtain ⟨y69, hr69, h⟩ := andx_some h;refine TO.callT (first := []) (cap := []) (vs := [iv (a54.wide), iv (1), iv (2000)]) rfl rfl rfl rfl rfl rfl (orcN rfl) (tf_r9_in aD hr69) ?_;rintro _;refine zG (_::_::C) rfl (zV R3 (Val.not rfl) (zP R6 (zM R4 ?_)));obtain ⟨rfl, h⟩ | ⟨rfl, h⟩ := zZ h
          ·refine zF 3 R6 (zL 0 R3 R6 ?_);obtain ⟨y75, hr75, h⟩ := andx_some h;refine TO.callT (first := []) (cap := []) (vs := [iv (a54.high), iv (1), iv (2000)]) rfl rfl rfl rfl rfl rfl (orcN rfl) (tf_r9_in aD hr75) ?_;rintro _;refine zG (_::_::C) rfl (zV R3 (Val.not rfl) (zP R6 (zN ?_)));cases h;exact ⟨rfl, (), (sb .refl)⟩
          refine zO R3 (zO R3 (zO R3 (zO R3 (zP R6 (zN ?_)))));cases h;exact ⟨rfl, (), (sb .refl)⟩
         refine zO R3 (zO R3 (zO R3 (zO R3 (zP R6 (zM R4 (zO R3 (zO R3 (zO R3 (zO R3 (zP R6 (zN ?_)))))))))));cases h;exact ⟨rfl, (), (sb .refl)⟩
        refine zO R3 (zO R3 (zO R3 (zO R3 (zP R6 (zM R4 (zO R3 (zO R3 (zO R3 (zO R3 (zP R6 (zM R4 (zO R3 (zO R3 (zO R3 (zO R3 (zP R6 (zN ?_)))))))))))))))));cases h;exact ⟨rfl, (), (sb .refl)⟩
       ·rintro x77 _ h;obtain ⟨rfl, h⟩ | ⟨rfl, h⟩ := zZ h
        ·refine zC rfl (zU rfl (zM R4 (zA R4 (zA R4 (zA R4 (zN (zR ?_)))))));cases h;exact ⟨ret_ne, ⟨ret_ne, ⟨ret_ne, ⟨rfl, _, rfl, ⟨(), rfl, (pk [98,98] rfl)⟩⟩⟩⟩⟩
        refine zD rfl (zK ?_);cases h;exact ⟨rfl, (), (sb (pk [1,98] rfl))⟩
      ·rintro _ _ h;refine zT rfl (zM R4 ?_);obtain ⟨hk50, h⟩ := chk_some h;refine zV R3 (Val.add rfl rfl hk50) (zA R4 (zN ?_));cases h;exact ⟨rfl, (), (sb .refl)⟩
     refine zD rfl (zE ?_);cases h;exact ⟨ex_ne, ⟨rfl, (), (sb .refl)⟩⟩
    ·rintro _ _ h;refine zS (zU rfl (zF 2 R6 (zL 0 R3 R6 (zV R3 (Val.len_l qJ M1 rfl rfl) ?_))));obtain ⟨c82, hc82⟩ := zY ((qF.length : Int) > 10);refine zV R3 (Val.gtr hc82 rfl rfl) (zN ?_);obtain ⟨rfl, hc82, h⟩ | ⟨rfl, hc82, h⟩ := zI hc82 h
     ·refine zC rfl (zU rfl (zA R4 (zA R4 (zA R4 (zN (zR ?_))))));cases h;exact ⟨rfl, _, rfl, ⟨(), rfl, (pk [98] rfl)⟩⟩
     refine zD rfl (zK ?_)
     show T _ _ _ _ _ _;apply T.join (r := r) (W := Unit) (fun j w => ⟨[], [(1, .ptr b1 0 3)], .row b1 3 [qB, qC, qA] :: C⟩) h
     ·intro j h;refine zU rfl (zA R4 (zN (zB ?_)))
      show T _ _ _ _ _ _;apply T.iter (r := j) (W := Unit) (fun j w => ⟨[], [(1, .ptr b1 0 3), (9, iv (j))], .row b1 3 [qB, qC, qA] :: C⟩) (w0 := ()) h
      ·exact (sb .refl)
      rintro i _ a h;unfold P_r9_Check_L3 at h;refine zS (zU rfl (zM R4 (zF 2 R6 (zL 0 R3 R6 (zV R3 (Val.len_l qJ M1 rfl rfl) ?_)))));obtain ⟨c87, hc87⟩ := zY (i < (qF.length : Int));refine zV R3 (Val.lss hc87 rfl rfl) (zN ?_);obtain ⟨rfl, hc87, h⟩ | ⟨rfl, hc87, h⟩ := zI hc87 h
      ·refine zC rfl (zK ?_)
       show T _ _ _ _ _ _;apply T.join (r := a) (W := Unit) (fun j w => ⟨[], [(1, .ptr b1 0 3), (9, iv (i))], .row b1 3 [qB, qC, qA] :: C⟩) h
       ·intro j h;refine zB (zU rfl (zF 2 R6 (zL 0 R3 R6 (zM R4 ?_))));obtain ⟨a93, hia93, ea93, h⟩ := el_some h;refine TO.fact (rdl_at qJ M1 hia93 ea93) (fun hp=>?_);obtain ⟨pa93, hpa93, hva93⟩ := hp;refine zV R3 (hva93 ⟨rfl, rfl⟩ rfl rfl) (zV R3 (Val.load_es (c := [_, _, _, _, _, _, _]) hpa93 M1 ⟨⟨_, rfl, rfl⟩, rfl, by decide⟩ rfl rfl rfl) (zJ 7 [_,_,_,_,_,_,_] R7 (fun b10=>TO.eff0 rfl rfl (Eff.store_row (p := 0) (cv := [_, _, _, _, _, _, _]) (cells' := [_, _, _, _, _, _, _]) rfl rfl rfl rfl rfl rfl rfl rfl aG (by decide) rfl) ?_)));rintro _ rfl;refine zG (_::_::C) rfl (zN (zS (T.drawE (l1 := [0, 1, 2, 3, 4, 5]) (l2 := [6, 7]) (by kernel_rfl) (by kernel_rfl) (yR R4 (vW 1 [_,_,_] R5 R4) (yR R4 (vW 0 [_,_,_,_,_,_,_] R5 R4) (yL R4 (Val.faddr_ptr (fo := 2) rfl rfl rfl) (yR R4 (vR (p := 1) R6) (yL R4 (Val.move rfl) ?_))))))));obtain ⟨hk100, h⟩ := chk_some h;obtain ⟨w100, htw100, hgw100, hvw100⟩ := slice_T qY hk100
        have hw100 : Rdl C qL w100 (List.take (i - (0 : Int)).toNat (List.drop ((0 : Int) : Int).toNat qF)) := RdT.rdl htw100;refine yR R4 (hvw100 ⟨rfl, rfl⟩ rfl .no (.some rfl)) (TD1.over (fun v => sameC_refl v) (all_cons (⟨_, rfl, (hvw100 ⟨rfl, rfl⟩ rfl .no (.some rfl))⟩) (all_cons (⟨_, rfl, (vR (p := 1) R6)⟩) (all_cons (⟨_, rfl, (vW 0 [_,_,_,_,_,_,_] R5 R4)⟩) (all_cons (⟨_, rfl, (vW 1 [_,_,_] R5 R4)⟩) all_nil)))) ?_);obtain ⟨y101, hr101, h⟩ := andx_some h;refine TD2.heavy (fun v => sameC_refl v) rfl (by decide) rfl rfl (OpS.callV rfl rfl rfl rfl (orcN rfl) (RepF.conv (tf_r9_Book aD (Rdl.mono qK M2) (Rdl.mono qI M2) (Rdl.mono qJ M2) (Rdl.mono hw100 M2) hr101))) ?_;rintro _ hs_ ⟨_, rfl, he_⟩;subst hs_;refine ⟨(all_cons (.inl (by kernel_rfl)) (all_cons (.inl (by kernel_rfl)) (all_cons (.inl (by kernel_rfl)) (all_cons (.inl (by kernel_rfl)) all_nil)))), all_nil, ?_⟩;refine yG (_::_::C) rfl (yM R4 (Val.assign rfl) (TD2.nil ?_))
        show T _ _ _ _ _ _;apply T.joinA (r := j) (W := Unit) (fun j w => ⟨[], [(1, .ptr b1 0 3), (9, iv (i)), (10, .ptr b10 0 7), (11, iv (j))], .row b10 7 [iv (a93.qU), iv (a93.qV), sv a93.qW, iv (a93.wide), iv (a93.high), iv (a93.heavy), iv (a93.shelf)] :: .row b1 3 [qB, qC, qA] :: C⟩) h
        ·intro j h
         show T _ _ _ _ _ _;apply T.joinA (r := j) (W := Unit) (fun j w => ⟨[], [(1, .ptr b1 0 3), (9, iv (i)), (10, .ptr b10 0 7), (11, iv (y101)), (113, bv j)], .row b10 7 [iv (a93.qU), iv (a93.qV), sv a93.qW, iv (a93.wide), iv (a93.high), iv (a93.heavy), iv (a93.shelf)] :: .row b1 3 [qB, qC, qA] :: C⟩) h
         ·intro j h;refine zT rfl (zM R4 ?_);obtain ⟨c103, hc103⟩ := zY (y101 = 0);refine zV R3 (Val.eql hc103 rfl rfl) (zM R4 ?_);obtain ⟨rfl, hc103, h⟩ | ⟨rfl, hc103, h⟩ := zI hc103 h
          ·refine zF 6 R6 (zL 0 R3 R6 (zF 1 R6 (zL 1 R3 R6 (zV R3 (Val.len_l qI M2 rfl rfl) ?_))));obtain ⟨hk110, h⟩ := chk_some h;refine zV R3 (Val.sub rfl rfl hk110) ?_;obtain ⟨y111, hr111, h⟩ := andx_some h;refine TO.callT (first := []) (cap := []) (vs := [iv (a93.shelf), iv (0), iv (((qE.length : Int) - 1))]) rfl rfl rfl rfl rfl rfl (orcN rfl) (tf_r9_in aD hr111) ?_;rintro _;refine zG (_::_::C) rfl (zV R3 (Val.not rfl) (zP R6 (zN ?_)));cases h;exact ⟨rfl, (), (sb .refl)⟩
          refine zO R3 (zO R3 (zO R3 (zO R3 (zO R3 (zO R3 (zO R3 (zO R3 (zP R6 (zN ?_)))))))));cases h;exact ⟨rfl, (), (sb .refl)⟩
         ·rintro x113 _ h;obtain ⟨rfl, h⟩ | ⟨rfl, h⟩ := zZ h
          ·refine zC rfl (zT rfl (zA R4 (zN ?_)));cases h;exact ⟨rfl, (), (sb .refl)⟩
          refine zD rfl (zK ?_);cases h;exact ⟨rfl, (), (sb .refl)⟩
        ·rintro e _ h
         show T _ _ _ _ _ _;apply T.joinA (r := j) (W := Unit) (fun j w => ⟨[], [(1, .ptr b1 0 3), (9, iv (i)), (11, iv (j))], .row b10 7 [iv (a93.qU), iv (a93.qV), sv a93.qW, iv (a93.wide), iv (a93.high), iv (a93.heavy), iv (a93.shelf)] :: .row b1 3 [qB, qC, qA] :: C⟩) h
         ·intro j h
          show T _ _ _ _ _ _;apply T.joinA (r := j) (W := Unit) (fun j w => ⟨[], [(1, .ptr b1 0 3), (9, iv (i)), (11, iv (e)), (131, bv j)], .row b10 7 [iv (a93.qU), iv (a93.qV), sv a93.qW, iv (a93.wide), iv (a93.high), iv (a93.heavy), iv (a93.shelf)] :: .row b1 3 [qB, qC, qA] :: C⟩) h
          ·intro j h;refine T.draw (fun v => sameC_refl v) (l1 := [0, 1, 2, 3, 4, 5, 6, 7, 8, 9, 10, 11, 12, 13, 14, 15, 16, 17]) (l2 := []) (by kernel_rfl) (by kernel_rfl) (zM R4 ?_);obtain ⟨c115, hc115⟩ := zY (e = 0);refine zV R3 (Val.eql hc115 rfl rfl) (zM R4 ?_);obtain ⟨rfl, hc115, h⟩ | ⟨rfl, hc115, h⟩ := zI hc115 h
           ·refine zM R4 ?_;obtain ⟨c118, hc118⟩ := zY (i > 0);refine zV R3 (Val.gtr hc118 rfl rfl) (zP R6 (zM R4 ?_));obtain ⟨rfl, hc118, h⟩ | ⟨rfl, hc118, h⟩ := zI hc118 h
            ·refine zF 6 R6 (zL 0 R3 R6 (zF 2 R6 (zL 1 R3 R6 (zM R4 ?_))));obtain ⟨hk126, h⟩ := chk_some h;refine zV R3 (Val.sub rfl rfl hk126) ?_;obtain ⟨a127, hia127, ea127, h⟩ := el_some h;refine TO.fact (rdl_at qJ M2 hia127 ea127) (fun hp=>?_);obtain ⟨pa127, hpa127, hva127⟩ := hp;refine zV R3 (hva127 ⟨rfl, rfl⟩ rfl rfl) (zV R3 (Val.faddr_e (fo := 6) hpa127 rfl rfl rfl) (zV R3 (Val.load_e (PtE.add hpa127 (by decide)) M2 ⟨_, rfl, rfl⟩ rfl rfl) ?_));obtain ⟨c130, hc130⟩ := zY (a93.shelf < a127.shelf);refine zV R3 (Val.lss hc130 rfl rfl) (zP R6 (zN ?_));subst hc130;cases h;exact ⟨rfl, (), (sb .refl)⟩
            refine zO R3 (zO R3 (zO R3 (zO R3 (zO R3 (zO R3 (zO R3 (zO R3 (zO R3 (zO R3 (zP R6 (zN ?_)))))))))));cases h;exact ⟨rfl, (), (sb .refl)⟩
           refine zO R3 (zO R3 (zP R6 (zM R4 (zO R3 (zO R3 (zO R3 (zO R3 (zO R3 (zO R3 (zO R3 (zO R3 (zO R3 (zO R3 (zP R6 (zN ?_)))))))))))))));cases h;exact ⟨rfl, (), (sb .refl)⟩
          ·rintro x131 _ h;obtain ⟨rfl, h⟩ | ⟨rfl, h⟩ := zZ h
           ·refine zC rfl (zT rfl (zA R4 (zN ?_)));cases h;exact ⟨rfl, (), (sb .refl)⟩
           refine zD rfl (zK ?_);cases h;exact ⟨rfl, (), (sb .refl)⟩
         ·rintro e_2 _ h;refine zU rfl (zM R4 ?_);obtain ⟨c133, hc133⟩ := zY (¬ e_2 = 0);refine zV R3 (Val.neq hc133 rfl rfl) (zN ?_);obtain ⟨rfl, hc133, h⟩ | ⟨rfl, hc133, h⟩ := zI hc133 h
          ·refine zC rfl (zU rfl (zM R4 (zM R4 (zA R4 (zA R4 (zA R4 (zN (zR ?_))))))));cases h;exact ⟨ret_ne, ⟨ret_ne, ⟨ret_ne, ⟨rfl, _, rfl, ⟨(), rfl, (pk [98,98] rfl)⟩⟩⟩⟩⟩
          refine zD rfl (zK ?_);cases h;exact ⟨rfl, (), (sb (pk [1,98] rfl))⟩
       ·rintro _ _ h;refine zT rfl (zM R4 ?_);obtain ⟨hk89, h⟩ := chk_some h;refine zV R3 (Val.add rfl rfl hk89) (zA R4 (zN ?_));cases h;exact ⟨rfl, (), (sb .refl)⟩
      refine zD rfl (zE ?_);cases h;exact ⟨ex_ne, ⟨rfl, (), (sb .refl)⟩⟩
     ·rintro _ _ h
      show T _ _ _ _ _ _;apply T.join (r := r) (W := Unit) (fun j w => ⟨[], [], .row b1 3 [qB, qC, qA] :: C⟩) h
      ·intro j h;refine zU rfl (zA R4 (zN (zB ?_)))
       show T _ _ _ _ _ _;apply T.iter (r := j) (W := Unit) (fun j w => ⟨[], [(1, .ptr b1 0 3), (12, iv (j))], .row b1 3 [qB, qC, qA] :: C⟩) (w0 := ()) h
       ·exact (sb .refl)
       rintro i _ a h;unfold P_r9_Check_L4 at h;refine zS (zU rfl (zM R4 (zF 1 R6 (zL 0 R3 R6 (zV R3 (Val.len_l qI M1 rfl rfl) ?_)))));obtain ⟨c140, hc140⟩ := zY (i < (qE.length : Int));refine zV R3 (Val.lss hc140 rfl rfl) (zN ?_);obtain ⟨rfl, hc140, h⟩ | ⟨rfl, hc140, h⟩ := zI hc140 h
       ·refine zC rfl (zK (zS (zB (zS (T.drawE (l1 := [0, 1, 2, 3, 4, 6]) (l2 := [5, 7, 8]) (by kernel_rfl) (by kernel_rfl) (yR R4 (vW 0 [_,_,_] R5 R4) (yL R4 (Val.faddr_ptr (fo := 2) rfl rfl rfl) (yR R4 (vR (p := 0) R6) (yL R4 (Val.faddr_ptr (fo := 2) rfl rfl rfl) (yR R4 (vR (p := 0) R6) (yL R4 (Val.move rfl) (TD1.over (fun v => sameC_refl v) (all_cons (⟨_, rfl, (vR (p := 0) R6)⟩) (all_cons (⟨_, rfl, (vR (p := 0) R6)⟩) (all_cons (⟨_, rfl, (vW 0 [_,_,_] R5 R4)⟩) all_nil))) ?_))))))))))));obtain ⟨y148, hr148, h⟩ := andx_some h;refine TD2.heavy (fun v => sameC_refl v) rfl (by decide) rfl rfl (OpS.callV rfl rfl rfl rfl (orcN rfl) (RepF.conv (tf_r9_Own aD (Rdl.mono qJ M1) hr148))) ?_;rintro w148 hs_ ⟨w148, rfl, he_⟩;subst hs_;refine ⟨(all_cons (.inl (by kernel_rfl)) (all_cons (.inr ⟨_, rfl, (vR (p := 1) R6)⟩) (all_cons (.inr ⟨_, rfl, (vW 1 [_,_,_] R5 R4)⟩) all_nil))), all_nil, ?_⟩;refine yG (_::_::C) rfl ?_;obtain ⟨y150, hr150, h⟩ := andx_some h;refine TD2.heavy (fun v => sameC_refl v) rfl (by decide) rfl rfl (OpS.callV rfl rfl rfl rfl (orcN rfl) (RepF.conv (tf_r9_fit aD (Rdl.mono qK M2) (Rdl.mono qI M2) (Rdl.mono qJ M2) (Rdl.mono qJ M2) (Rdl.mono (Rdl.own (C := ownL true w148 encI y148 :: .row b1 3 [qB, qC, qA] :: C) (p := 0) rfl) mem0) hr150))) ?_;rintro _ hs_ ⟨_, rfl, he_⟩;subst hs_;refine ⟨(all_cons (.inl (by kernel_rfl)) (all_cons (.inl (by kernel_rfl)) (all_cons (.inl (by kernel_rfl)) all_nil))), all_nil, ?_⟩;refine yG (_::_::C) rfl (yM R4 (Val.not rfl) (TD2.nil ?_));obtain ⟨rfl, h⟩ | ⟨rfl, h⟩ := zZ h
        ·refine zD rfl (zK (zT rfl (zM R4 ?_)));obtain ⟨hk142, h⟩ := chk_some h;refine zV R3 (Val.add rfl rfl hk142) (zA R4 (zN ?_));cases h;exact ⟨rfl, (), (sb (pk [1,98] rfl))⟩
        refine zC rfl (zU rfl (zM R4 (zA R4 (zA R4 (zA R4 (zN (zR ?_)))))));cases h;exact ⟨ret_ne, ⟨ret_ne, ⟨rfl, _, rfl, ⟨(), rfl, (pk [98,98] rfl)⟩⟩⟩⟩
       refine zD rfl (zE ?_);cases h;exact ⟨ex_ne, ⟨rfl, (), (sb .refl)⟩⟩
      ·rintro _ _ h;refine zU rfl (zA R4 (zA R4 (zA R4 (zN (zR ?_)))));cases h;exact ⟨rfl, _, rfl, ⟨(), rfl, (pk [98] rfl)⟩⟩
   refine zC rfl (zU rfl (zA R4 (zA R4 (zA R4 (zN (zR ?_))))));cases h;exact ⟨rfl, _, rfl, ⟨(), rfl, (pk [98] rfl)⟩⟩
 refine zC rfl (zU rfl (zA R4 (zA R4 (zA R4 (zN (zR ?_))))));cases h;exact ⟨rfl, _, rfl, ⟨(), rfl, (pk [98] rfl)⟩⟩
theorem w_r9_Check (qD : GS encStr) (qE : GS qN) (qF : GS qL) (r : Int × Int × Int) (h : P_r9_Check qD.l qE.l qF.l = some r) : Comes (EL 0) 17 [.agg [qD.v, qE.v, qF.v]] (.tuple [iv r.1, iv r.2.1, iv r.2.2]) :=
 TF.run (tf_r9_Check (Nat.le_refl _) (RdT.gs qD) (RdT.gs qE) (RdT.gs qF) h) fun w => (.tuple (.cons .lit (.cons .lit (.cons .lit .nil))))
set_option maxRecDepth 10000 in
theorem tf_q_Name {k : Nat} (hk : 0 ≤ k) {C : List Thing} {s : Str} {r : Bool} (h : P_q_Name s = some r) :
  TF (EL k) 65 [sv s] C (RepF (fun (w : Unit) => bv r) (fun (w : Unit) => C)) := by
 unfold P_q_Name at h;refine TF.enter (fn := Go.Proofs.Tryz.f65) rfl rfl rfl rfl rfl (zU rfl (zA R4 (zN ?_)))
 show T _ _ _ _ _ _;apply T.join (r := r) (W := Unit) (fun j w => ⟨[], [(0, sv s)], C⟩) h
 ·intro j h;refine zU rfl (zM R4 (TO.eff rfl rfl rfl (Eff.range_str rfl rfl) ?_));rintro _ _ ⟨it6, rfl, rfl⟩;refine zN (zB ?_)
  show T _ _ _ _ _ _;apply T.iter (r := j) (W := Unit) (fun j w => ⟨[], [(0, sv s), (6, .ptr it6 0 0)], strL it6 s j :: C⟩) (w0 := ()) h
  ·exact (sb .refl)
  rintro pos _ a h;unfold P_q_Name_L1 at h;refine zU rfl ?_;obtain ⟨c7, hc7⟩ := zY (pos < s.length);obtain ⟨rfl, hc7, h⟩ | ⟨rfl, hc7, h⟩ := zI hc7 h
  ·refine TO.eff rfl rfl rfl (Eff.next_str (p := 0) rfl rfl hc7) ?_;rintro _ _ ⟨rfl, rfl⟩;refine zG (_::C) rfl (zX R5 (zN (zS (zC rfl (zK (zB (zU rfl (zX R5 (zX R5 (zA R4 (zA R4 (zN (zB ?_)))))))))))))
   show T _ _ _ _ _ _;apply T.joinA (r := a) (W := Unit) (fun j w => ⟨[], [(0, sv s), (3, iv ((pos : Int))), (4, ivk .i32 ((runeAt s pos))), (6, .ptr it6 0 0), (11, bv j)], strL it6 s (pos + runeLen s pos) :: C⟩) h
   ·intro j h;refine zT rfl (zM R4 ?_);obtain ⟨c13, hc13⟩ := zY ((runeAt s pos) ≥ 97);refine zV R3 (Val.geqK hc13 rfl rfl) (zM R4 ?_);obtain ⟨rfl, hc13, h⟩ | ⟨rfl, hc13, h⟩ := zI hc13 h
    ·refine zM R4 ?_;obtain ⟨c16, hc16⟩ := zY ((runeAt s pos) ≤ 122);refine zV R3 (Val.leqK hc16 rfl rfl) (zP R6 (zA R4 (zN ?_)));subst hc16;cases h;exact ⟨rfl, (), (sb .refl)⟩
    refine zO R3 (zO R3 (zP R6 (zA R4 (zN ?_))));cases h;exact ⟨rfl, (), (sb .refl)⟩
   ·rintro x11 _ h;obtain ⟨rfl, h⟩ | ⟨rfl, h⟩ := zZ h
    ·refine zC rfl (zK ?_);cases h;exact ⟨rfl, (), (sb .refl)⟩
    refine zD rfl ?_
    show T _ _ _ _ _ _;apply T.joinA (r := a) (W := Unit) (fun j w => ⟨[], [(0, sv s), (6, .ptr it6 0 0), (18, bv j)], strL it6 s (pos + runeLen s pos) :: C⟩) h
    ·intro j h;refine zT rfl (zM R4 ?_);obtain ⟨c20, hc20⟩ := zY ((pos : Int) > 0);refine zV R3 (Val.gtr hc20 rfl rfl) (zM R4 ?_);obtain ⟨rfl, hc20, h⟩ | ⟨rfl, hc20, h⟩ := zI hc20 h
     ·refine zM R4 ?_;obtain ⟨c23, hc23⟩ := zY ((runeAt s pos) ≥ 48);refine zV R3 (Val.geqK hc23 rfl rfl) (zM R4 ?_);obtain ⟨rfl, hc23, h⟩ | ⟨rfl, hc23, h⟩ := zI hc23 h
      ·refine zM R4 ?_;obtain ⟨c26, hc26⟩ := zY ((runeAt s pos) ≤ 57);refine zV R3 (Val.leqK hc26 rfl rfl) (zP R6 (zM R4 ?_));obtain ⟨rfl, hc26, h⟩ | ⟨rfl, hc26, h⟩ := zI hc26 h
       ·refine zO R3 (zO R3 (zP R6 (zP R6 (zA R4 (zN ?_)))));cases h;exact ⟨rfl, (), (sb .refl)⟩
       refine zM R4 ?_;obtain ⟨c30, hc30⟩ := zY ((runeAt s pos) = 46);refine zV R3 (Val.eqlK hc30 rfl rfl) (zP R6 (zP R6 (zA R4 (zN ?_))));subst hc30;cases h;exact ⟨rfl, (), (sb .refl)⟩
      refine zO R3 (zO R3 (zP R6 (zM R4 (zM R4 ?_))));obtain ⟨c30, hc30⟩ := zY ((runeAt s pos) = 46);refine zV R3 (Val.eqlK hc30 rfl rfl) (zP R6 (zP R6 (zA R4 (zN ?_))));subst hc30;cases h;exact ⟨rfl, (), (sb .refl)⟩
     refine zO R3 (zO R3 (zO R3 (zO R3 (zO R3 (zO R3 (zO R3 (zO R3 (zO R3 (zO R3 (zP R6 (zA R4 (zN ?_))))))))))));cases h;exact ⟨rfl, (), (sb .refl)⟩
    ·rintro x18 _ h;obtain ⟨rfl, h⟩ | ⟨rfl, h⟩ := zZ h
     ·refine zC rfl (zK ?_);cases h;exact ⟨rfl, (), (sb .refl)⟩
     refine zD rfl (zU rfl (zA R4 (zN (zR ?_))));cases h;exact ⟨ret_ne, ⟨ret_ne, ⟨rfl, _, rfl, ⟨(), rfl, (pk [98] rfl)⟩⟩⟩⟩
  refine TO.eff rfl rfl rfl (Eff.next_end (p := 0) rfl rfl hc7) ?_;rintro _ _ ⟨rfl, rfl⟩;refine zG (_::C) rfl (zX R5 (zN (zS (zD rfl (zE ?_)))));cases h;exact ⟨ex_ne, ⟨rfl, (), (sb (pk [98] rfl))⟩⟩
 ·rintro _ _ h
  show T _ _ _ _ _ _;apply T.joinA (r := r) (W := Unit) (fun j w => ⟨[], [(2, bv j)], C⟩) h
  ·intro j h;refine zT rfl (zM R4 ?_);obtain ⟨c34, hc34⟩ := zY (¬ s = ([] : Str));refine zV R3 (Val.neq_str hc34 rfl rfl) (zM R4 ?_);obtain ⟨rfl, hc34, h⟩ | ⟨rfl, hc34, h⟩ := zI hc34 h
   ·refine zM R4 (zV R3 (Val.len_str rfl rfl) ?_);obtain ⟨c38, hc38⟩ := zY ((s.length : Int) ≤ 16);refine zV R3 (Val.leq hc38 rfl rfl) (zP R6 (zA R4 (zN ?_)));subst hc38;cases h;exact ⟨rfl, (), (sb .refl)⟩
   refine zO R3 (zO R3 (zO R3 (zP R6 (zA R4 (zN ?_)))));cases h;exact ⟨rfl, (), (sb .refl)⟩
  ·rintro x2 _ h;refine zR ?_;cases h;exact ⟨rfl, _, rfl, ⟨(), rfl, .refl⟩⟩
set_option maxRecDepth 10000 in
theorem tf_s9_out {k : Nat} (hk : 0 ≤ k) {C : List Thing} {lo : Int} {hi : Int} {v_numbers : AV} {numbers : List Int} (h_numbers : Rdl C encI v_numbers numbers) {r : Bool} (h : P_s9_out lo hi numbers = some r) :
  TF (EL k) 62 [iv (lo), iv (hi), v_numbers] C (RepF (fun (w : Unit) => bv r) (fun (w : Unit) => C)) := by
 unfold P_s9_out at h;refine TF.enter (fn := Go.Proofs.Tryz.f62) rfl rfl rfl rfl rfl (zU rfl (zQ 1 [_] R7 (fun b3=>zQ 1 [_] R7 (fun b4=>zA R4 (zN (zU rfl (zM R4 (zV R3 (Val.makeFunc rfl rfl) (TO.callIn rfl rfl rfl rfl rfl rfl (orcN rfl) (TF.enter (fn := Go.Proofs.Tryz.f116) rfl rfl rfl rfl rfl (zU rfl (zA R4 (zN (zU rfl (zM R4 (zM R4 ?_))))))))))))))));refine TO.callJ (W := Unit) (fun (j : Int) (w : Unit) => iv (j)) (fun (j : Int) (w : Unit) => .row b4 1 [iv (hi)] :: .row b3 1 [iv (lo)] :: C) h rfl rfl rfl rfl rfl rfl (orcN rfl) ?_ ?_
 ·intro j h;refine TF.enter (fn := Go.Proofs.Tryz.f141) rfl rfl rfl rfl rfl (zU rfl (zA R4 (zN ?_)))
  show T _ _ _ _ _ _;apply T.join (r := j) (W := Unit) (fun j w => ⟨[], [], .row b4 1 [iv (hi)] :: .row b3 1 [iv (lo)] :: C⟩) h
  ·intro j h;refine zU rfl (zM R4 (zV R3 (Val.len_l h_numbers M2 rfl rfl) (zM R4 (zN (zB ?_)))))
   show T _ _ _ _ _ _;apply T.iter (r := j) (W := Unit) (fun j w => ⟨[], [(0, v_numbers), (1, .func 117 [] [.ptr b3 0 1, .ptr b4 0 1]), (7, iv ((numbers.length : Int))), (8, iv (j))], .row b4 1 [iv (hi)] :: .row b3 1 [iv (lo)] :: C⟩) (w0 := ()) h
   ·exact (sb .refl)
   rintro x8 _ a h;unfold P_s9_out_L1 at h;refine zU rfl ?_;obtain ⟨c9, hc9⟩ := zY (x8 < (numbers.length : Int));refine zV R3 (Val.lss hc9 rfl rfl) (zN (zS ?_));obtain ⟨rfl, hc9, h⟩ | ⟨rfl, hc9, h⟩ := zI hc9 h
   ·refine zC rfl (zK (zS (zB (zU rfl (zM R4 (zA R4 (zN (zU rfl (zM R4 (zM R4 (zM R4 ?_)))))))))));obtain ⟨a14, hia14, ea14, h⟩ := el_some h;refine TO.fact (rdl_at h_numbers M2 hia14 ea14) (fun hp=>?_);obtain ⟨pa14, hpa14, hva14⟩ := hp;refine zV R3 (hva14 ⟨rfl, rfl⟩ rfl rfl) (zV R3 (Val.load_e hpa14 M2 ⟨_, rfl, rfl⟩ rfl rfl) (TO.callIn rfl rfl rfl rfl rfl rfl (orcN rfl) (TF.enter (fn := Go.Proofs.Tryz.f117) rfl rfl rfl rfl rfl (zU rfl (zA R4 (zN ?_))))))
    show T _ _ _ _ _ _;apply T.joinA (r := a) (W := Unit) (fun j w => ⟨[], [(4, bv j)], .row b4 1 [iv (hi)] :: .row b3 1 [iv (lo)] :: C⟩) h
    ·intro j h;refine zT rfl (zM R4 (zL 1 R3 R6 ?_));obtain ⟨c7, hc7⟩ := zY (a14 < lo);refine zV R3 (Val.lss hc7 rfl rfl) (zM R4 ?_);obtain ⟨rfl, hc7, h⟩ | ⟨rfl, hc7, h⟩ := zI hc7 h
     ·refine zO R3 (zO R3 (zO R3 (zP R6 (zA R4 (zN ?_)))));cases h;exact ⟨rfl, (), (sb .refl)⟩
     refine zM R4 (zL 0 R3 R6 ?_);obtain ⟨c11, hc11⟩ := zY (a14 > hi);refine zV R3 (Val.gtr hc11 rfl rfl) (zP R6 (zA R4 (zN ?_)));subst hc11;cases h;exact ⟨rfl, (), (sb .refl)⟩
    ·rintro x4 _ h;refine zR ?_;refine ⟨rfl, _, rfl, ?_⟩;refine zN ?_;obtain ⟨rfl, h⟩ | ⟨rfl, h⟩ := zZ h
     ·refine zC rfl (zU rfl (zM R4 (zA R4 (zN (zR ?_)))));cases h;exact ⟨ret_ne, ⟨ret_ne, ⟨rfl, _, rfl, ⟨(), rfl, .refl⟩⟩⟩⟩
     refine zD rfl (zK (zT rfl ?_));obtain ⟨hk18, h⟩ := chk_some h;refine zV R3 (Val.add rfl rfl hk18) (zM R4 (zN ?_));cases h;exact ⟨rfl, (), (sb .refl)⟩
   refine zD rfl (zE ?_);cases h;exact ⟨ex_ne, ⟨rfl, (), (sb .refl)⟩⟩
  ·rintro _ _ h;refine zU rfl (zA R4 (zN (zR ?_)));cases h;exact ⟨rfl, _, rfl, ⟨(), rfl, .refl⟩⟩
 ·rintro y7 _ h;refine zG (_::_::C) rfl ?_;obtain ⟨c8, hc8⟩ := zY (y7 ≥ 0);refine zV R3 (Val.geq hc8 rfl rfl) (zA R4 (zN (zR ?_)));refine ⟨rfl, _, rfl, ?_⟩;refine zA R4 (zN (zR ?_));subst hc8;cases h;exact ⟨rfl, _, rfl, ⟨(), rfl, (pk [98,98] rfl)⟩⟩
set_option maxRecDepth 10000 in
theorem tf_s9_mark {k : Nat} (hk : 0 ≤ k) {C : List Thing} {v_r_SfRoom_Classes : AV} {r_SfRoom_Classes : List Str} {v_r_SfRoom_Shelves : AV} {r_SfRoom_Shelves : List qH} {v_r_SfRoom_Books : AV} {r_SfRoom_Books : List qG} {m_Class : Int} {m_Number : Int} {m_Suffix : Str} (h_r_SfRoom_Classes : Rdl C encStr v_r_SfRoom_Classes r_SfRoom_Classes) (h_r_SfRoom_Shelves : Rdl C qN v_r_SfRoom_Shelves r_SfRoom_Shelves) (h_r_SfRoom_Books : Rdl C qL v_r_SfRoom_Books r_SfRoom_Books) {r : Int} (h : P_s9_mark r_SfRoom_Classes r_SfRoom_Shelves r_SfRoom_Books m_Class m_Number m_Suffix = some r) :
  TF (EL k) 78 [.agg [v_r_SfRoom_Classes, v_r_SfRoom_Shelves, v_r_SfRoom_Books], .agg [iv (m_Class), iv (m_Number), sv m_Suffix]] C (RepF (fun (w : Unit) => iv r) (fun (w : Unit) => C)) := by
 unfold P_s9_mark at h;refine TF.enter (fn := Go.Proofs.Tryz.f78) rfl rfl rfl rfl rfl (zU rfl (zQ 3 [_,_,_] R7 (fun b2=>zQ 3 [_,_,_] R7 (fun b3=>zA R4 (zN (zS (zB (zU rfl (zF 0 R6 (zF 0 R6 (zL 1 R3 R6 (zV R3 (Val.len_l h_r_SfRoom_Classes M2 rfl rfl) ?_))))))))))));obtain ⟨hk12, h⟩ := chk_some h;refine zV R3 (Val.sub rfl rfl hk12) (zF 0 R6 (zL 0 R3 R6 (TO.build1 (en := encI) (a := m_Class) rfl rfl rfl ⟨rfl, rfl⟩ ⟨_, rfl, rfl⟩ (by decide) (by decide) rfl rfl (fun v15=>?_))));obtain ⟨y16, hr16, h⟩ := andx_some h;refine TO.callT (first := []) (cap := []) (vs := [iv (0), iv (((r_SfRoom_Classes.length : Int) - 1)), v15]) rfl rfl rfl rfl rfl rfl (orcN rfl) (tf_s9_out aD (Rdl.mono (Rdl.own (C := ownL false v15 encI [m_Class] :: .row b3 3 [iv (m_Class), iv (m_Number), sv m_Suffix] :: .row b2 3 [v_r_SfRoom_Classes, v_r_SfRoom_Shelves, v_r_SfRoom_Books] :: C) (p := 0) rfl) mem0) hr16) ?_;rintro _;refine zG (_::_::_::C) rfl (zA R4 (zN ?_));obtain ⟨rfl, h⟩ | ⟨rfl, h⟩ := zZ h
 ·refine zC rfl (zU rfl (zA R4 (zN (zR ?_))));cases h;exact ⟨rfl, _, rfl, ⟨(), rfl, (pk [98,98,98] rfl)⟩⟩
 refine zD rfl (zU rfl (zF 1 R6 (zL 1 R3 R6 (TO.build1 (en := encI) (a := m_Number) rfl rfl rfl ⟨rfl, rfl⟩ ⟨_, rfl, rfl⟩ (by decide) (by decide) rfl rfl (fun v20=>?_)))));obtain ⟨y21, hr21, h⟩ := andx_some h;refine TO.callT (first := []) (cap := []) (vs := [iv (1), iv (9999), v20]) rfl rfl rfl rfl rfl rfl (orcN rfl) (tf_s9_out aD (Rdl.mono (Rdl.own (C := ownL false v20 encI [m_Number] :: ownL false v15 encI [m_Class] :: .row b3 3 [iv (m_Class), iv (m_Number), sv m_Suffix] :: .row b2 3 [v_r_SfRoom_Classes, v_r_SfRoom_Shelves, v_r_SfRoom_Books] :: C) (p := 0) rfl) mem0) hr21) ?_;rintro _;refine zG (_::_::_::_::C) rfl (zA R4 (zN ?_));obtain ⟨rfl, h⟩ | ⟨rfl, h⟩ := zZ h
 ·refine zC rfl (zU rfl (zA R4 (zN (zR ?_))));cases h;exact ⟨rfl, _, rfl, ⟨(), rfl, (pk [98,98,98,98] rfl)⟩⟩
 refine zD rfl (zU rfl (zF 2 R6 (zL 2 R3 R6 (zV R3 (Val.len_str rfl rfl) ?_))));obtain ⟨c26, hc26⟩ := zY ((m_Suffix.length : Int) > 2);refine zV R3 (Val.gtr hc26 rfl rfl) (zA R4 (zN ?_));obtain ⟨rfl, hc26, h⟩ | ⟨rfl, hc26, h⟩ := zI hc26 h
 ·refine zC rfl (zU rfl (zA R4 (zN (zR ?_))));cases h;exact ⟨rfl, _, rfl, ⟨(), rfl, (pk [98,98,98,98] rfl)⟩⟩
 refine zD rfl (zK ?_)
 show T _ _ _ _ _ _;apply T.join (r := r) (W := Unit) (fun j w => ⟨[], [], C⟩) h
 ·intro j h;refine zU rfl (zF 2 R6 (zL 2 R3 R6 (TO.eff rfl rfl rfl (Eff.range_str rfl rfl) ?_)));rintro _ _ ⟨it29, rfl, rfl⟩;refine zN (zB ?_)
  show T _ _ _ _ _ _;apply T.iter (r := j) (W := Unit) (fun j w => ⟨[], [(29, .ptr it29 0 0)], strL it29 m_Suffix j :: C⟩) (w0 := ()) h
  ·exact (sb (pk [0,98,98,98,98] rfl))
  rintro pos _ a h;unfold P_s9_mark_L1 at h;refine zU rfl ?_;obtain ⟨c30, hc30⟩ := zY (pos < m_Suffix.length);obtain ⟨rfl, hc30, h⟩ | ⟨rfl, hc30, h⟩ := zI hc30 h
  ·refine TO.eff rfl rfl rfl (Eff.next_str (p := 0) rfl rfl hc30) ?_;rintro _ _ ⟨rfl, rfl⟩;refine zG (_::C) rfl (zX R5 (zN (zS (zC rfl (zK (zB (zU rfl (zX R5 (zA R4 (zN ?_))))))))))
   show T _ _ _ _ _ _;apply T.joinA (r := a) (W := Unit) (fun j w => ⟨[], [(29, .ptr it29 0 0), (38, bv j)], strL it29 m_Suffix (pos + runeLen m_Suffix pos) :: C⟩) h
   ·intro j h;refine zT rfl (zM R4 ?_);obtain ⟨c34, hc34⟩ := zY ((runeAt m_Suffix pos) < 97);refine zV R3 (Val.lssK hc34 rfl rfl) (zM R4 ?_);obtain ⟨rfl, hc34, h⟩ | ⟨rfl, hc34, h⟩ := zI hc34 h
    ·refine zO R3 (zO R3 (zP R6 (zN ?_)));cases h;exact ⟨rfl, (), (sb .refl)⟩
    refine zM R4 ?_;obtain ⟨c37, hc37⟩ := zY ((runeAt m_Suffix pos) > 122);refine zV R3 (Val.gtrK hc37 rfl rfl) (zP R6 (zN ?_));subst hc37;cases h;exact ⟨rfl, (), (sb .refl)⟩
   ·rintro x38 _ h;obtain ⟨rfl, h⟩ | ⟨rfl, h⟩ := zZ h
    ·refine zC rfl (zU rfl (zA R4 (zN (zR ?_))));cases h;exact ⟨ret_ne, ⟨ret_ne, ⟨rfl, _, rfl, ⟨(), rfl, (pk [98] rfl)⟩⟩⟩⟩
    refine zD rfl (zK ?_);cases h;exact ⟨rfl, (), (sb .refl)⟩
  refine TO.eff rfl rfl rfl (Eff.next_end (p := 0) rfl rfl hc30) ?_;rintro _ _ ⟨rfl, rfl⟩;refine zG (_::C) rfl (zX R5 (zN (zS (zD rfl (zE ?_)))));cases h;exact ⟨ex_ne, ⟨rfl, (), (sb (pk [98] rfl))⟩⟩
 ·rintro _ _ h;refine zU rfl (zA R4 (zN (zR ?_)));cases h;exact ⟨rfl, _, rfl, ⟨(), rfl, .refl⟩⟩
set_option maxRecDepth 10000 in
theorem tf_s9_book {k : Nat} (hk : 0 ≤ k) {C : List Thing} {v_r_SfRoom_Classes : AV} {r_SfRoom_Classes : List Str} {v_r_SfRoom_Shelves : AV} {r_SfRoom_Shelves : List qH} {v_r_SfRoom_Books : AV} {r_SfRoom_Books : List qG} {qQ : Int} {qR : Int} {qS : Str} {qP : Int} {qO : Int} {qT : Int} {qX : Int} {v_others : AV} {others : List qG} (h_r_SfRoom_Classes : Rdl C encStr v_r_SfRoom_Classes r_SfRoom_Classes) (h_r_SfRoom_Shelves : Rdl C qN v_r_SfRoom_Shelves r_SfRoom_Shelves) (h_r_SfRoom_Books : Rdl C qL v_r_SfRoom_Books r_SfRoom_Books) (h_others : Rdl C qL v_others others) {r : Int} (h : P_s9_book r_SfRoom_Classes r_SfRoom_Shelves r_SfRoom_Books qQ qR qS qP qO qT qX others = some r) :
  TF (EL k) 71 [.agg [v_r_SfRoom_Classes, v_r_SfRoom_Shelves, v_r_SfRoom_Books], .agg [iv (qQ), iv (qR), sv qS, iv (qP), iv (qO), iv (qT), iv (qX)], v_others] C (RepF (fun (w : Unit) => iv r) (fun (w : Unit) => C)) := by
 unfold P_s9_book at h;refine TF.enter (fn := Go.Proofs.Tryz.f71) rfl rfl rfl rfl rfl (zU rfl (zQ 3 [_,_,_] R7 (fun b3=>zQ 7 [_,_,_,_,_,_,_] R7 (fun b4=>zA R4 (zN (zS (zU rfl (zV R3 (vW 1 [_,_,_] R5 R4) (zF 0 R6 (zV R3 (vW 0 [_,_,_] R5 R4) ?_))))))))));obtain ⟨y11, hr11, h⟩ := andx_some h;refine TO.callT (first := []) (cap := []) (vs := [.agg [v_r_SfRoom_Classes, v_r_SfRoom_Shelves, v_r_SfRoom_Books], .agg [iv (qQ), iv (qR), sv qS]]) rfl rfl rfl rfl rfl rfl (orcN rfl) (tf_s9_mark aD (Rdl.mono h_r_SfRoom_Classes M2) (Rdl.mono h_r_SfRoom_Shelves M2) (Rdl.mono h_r_SfRoom_Books M2) hr11) ?_;rintro _;refine zG (_::_::C) rfl (zA R4 (zN (zU rfl (zM R4 ?_))));obtain ⟨c13, hc13⟩ := zY (¬ y11 = 0);refine zV R3 (Val.neq hc13 rfl rfl) (zN ?_);obtain ⟨rfl, hc13, h⟩ | ⟨rfl, hc13, h⟩ := zI hc13 h
 ·refine zC rfl (zU rfl (zM R4 (zA R4 (zN (zR ?_)))));cases h;exact ⟨rfl, _, rfl, ⟨(), rfl, (pk [98,98] rfl)⟩⟩
 refine zD rfl (zK ?_)
 show T _ _ _ _ _ _;apply T.join (r := r) (W := Unit) (fun j w => ⟨[], [], .row b4 7 [iv (qQ), iv (qR), sv qS, iv (qP), iv (qO), iv (qT), iv (qX)] :: C⟩) h
 ·intro j h;refine zB ?_
  show T _ _ _ _ _ _;apply T.joinA (r := j) (W := Unit) (fun j w => ⟨[], [(2, v_others), (4, .ptr b4 0 7), (15, bv j)], .row b4 7 [iv (qQ), iv (qR), sv qS, iv (qP), iv (qO), iv (qT), iv (qX)] :: .row b3 3 [v_r_SfRoom_Classes, v_r_SfRoom_Shelves, v_r_SfRoom_Books] :: C⟩) h
  ·intro j h;refine zT rfl (zF 3 R6 (zL 0 R3 R6 (zF 4 R6 (zL 0 R3 R6 (TO.eff rfl rfl rfl (Eff.new (New.buildSlice (en := encI) (l := [qP, qO]) (vs := [(_, _), (_, _)]) (ws := [(_, [_]), (_, [_])]) ⟨rfl, rfl⟩ rfl rfl rfl rfl (CellsL.cons rfl (CellsL.cons rfl CellsL.nil)) rfl rfl)) ?_)))));rintro _ _ ⟨v20, rfl, rfl⟩;refine TO.less (Less.rowOwn (en := encI) (l := [qP, qO]) (p := 0) rfl) (zG (_::_::_::C) rfl ?_);obtain ⟨y21, hr21, h⟩ := andx_some h;refine TO.callT (first := []) (cap := []) (vs := [iv (1), iv (2000), (.slice v20 0 (List.flatMap encI.f [qP, qO]).length true (List.length [qP, qO]) (List.length [qP, qO]))]) rfl rfl rfl rfl rfl rfl (orcN rfl) (tf_s9_out aD (Rdl.mono (Rdl.own (C := ownL false (.slice v20 0 (List.flatMap encI.f [qP, qO]).length true (List.length [qP, qO]) (List.length [qP, qO])) encI [qP, qO] :: .row b4 7 [iv (qQ), iv (qR), sv qS, iv (qP), iv (qO), iv (qT), iv (qX)] :: .row b3 3 [v_r_SfRoom_Classes, v_r_SfRoom_Shelves, v_r_SfRoom_Books] :: C) (p := 0) rfl) mem0) hr21) ?_;rintro _;refine zG (_::_::_::C) rfl (zM R4 ?_);obtain ⟨rfl, h⟩ | ⟨rfl, h⟩ := zZ h
   ·refine zO R3 (zO R3 (zO R3 (zO R3 (zP R6 (zA R4 (zN ?_))))));cases h;exact ⟨rfl, (), (sb (pk [1,1,98] rfl))⟩
   refine zF 5 R6 (zL 1 R3 R6 (TO.build1 (en := encI) (a := qT) rfl rfl rfl ⟨rfl, rfl⟩ ⟨_, rfl, rfl⟩ (by decide) (by decide) rfl rfl (fun v25=>?_)));obtain ⟨y26, hr26, h⟩ := andx_some h;refine TO.callT (first := []) (cap := []) (vs := [iv (1), iv (100), v25]) rfl rfl rfl rfl rfl rfl (orcN rfl) (tf_s9_out aD (Rdl.mono (Rdl.own (C := ownL false v25 encI [qT] :: ownL false (.slice v20 0 (List.flatMap encI.f [qP, qO]).length true (List.length [qP, qO]) (List.length [qP, qO])) encI [qP, qO] :: .row b4 7 [iv (qQ), iv (qR), sv qS, iv (qP), iv (qO), iv (qT), iv (qX)] :: .row b3 3 [v_r_SfRoom_Classes, v_r_SfRoom_Shelves, v_r_SfRoom_Books] :: C) (p := 0) rfl) mem0) hr26) ?_;rintro _;refine zG (_::_::_::_::C) rfl (zP R6 (zA R4 (zN ?_)));cases h;exact ⟨rfl, (), (sb (pk [2,2,98,98] rfl))⟩
  ·rintro x15 _ h;obtain ⟨rfl, h⟩ | ⟨rfl, h⟩ := zZ h
   ·refine zC rfl (zU rfl (zA R4 (zN (zR ?_))));cases h;exact ⟨ret_ne, ⟨rfl, _, rfl, ⟨(), rfl, (pk [98,98] rfl)⟩⟩⟩
   refine zD rfl (zU rfl (zM R4 (zV R3 (Val.makeFunc rfl rfl) (TO.callIn rfl rfl rfl rfl rfl rfl (orcN rfl) (TF.enter (fn := Go.Proofs.Tryz.f118) rfl rfl rfl rfl rfl (zU rfl (zA R4 (zN (zU rfl (zM R4 (zM R4 ?_)))))))))));refine TO.callJ (W := Unit) (fun (j : Int) (w : Unit) => iv (j)) (fun (j : Int) (w : Unit) => .row b4 7 [iv (qQ), iv (qR), sv qS, iv (qP), iv (qO), iv (qT), iv (qX)] :: C) h rfl rfl rfl rfl rfl rfl (orcN rfl) ?_ ?_
   ·intro j h;refine TF.enter (fn := Go.Proofs.Tryz.f142) rfl rfl rfl rfl rfl (zU rfl (zA R4 (zN ?_)))
    show T _ _ _ _ _ _;apply T.join (r := j) (W := Unit) (fun j w => ⟨[], [], .row b4 7 [iv (qQ), iv (qR), sv qS, iv (qP), iv (qO), iv (qT), iv (qX)] :: C⟩) h
    ·intro j h;refine zU rfl (zM R4 (zV R3 (Val.len_l h_others M2 rfl rfl) (zM R4 (zN (zB ?_)))))
     show T _ _ _ _ _ _;apply T.iter (r := j) (W := Unit) (fun j w => ⟨[], [(0, v_others), (1, .func 119 [] [.ptr b4 0 7]), (7, iv ((others.length : Int))), (8, iv (j))], .row b4 7 [iv (qQ), iv (qR), sv qS, iv (qP), iv (qO), iv (qT), iv (qX)] :: C⟩) (w0 := ()) h
     ·exact (sb (pk [0,98] rfl))
     rintro x8 _ a h;unfold P_s9_book_L1 at h;refine zU rfl ?_;obtain ⟨c9, hc9⟩ := zY (x8 < (others.length : Int));refine zV R3 (Val.lss hc9 rfl rfl) (zN (zS ?_));obtain ⟨rfl, hc9, h⟩ | ⟨rfl, hc9, h⟩ := zI hc9 h
     ·refine zC rfl (zK (zS (zB (zU rfl (zM R4 (zA R4 (zN (zU rfl (zM R4 (zM R4 (zM R4 ?_)))))))))));obtain ⟨a14, hia14, ea14, h⟩ := el_some h;refine TO.fact (rdl_at h_others M1 hia14 ea14) (fun hp=>?_);obtain ⟨pa14, hpa14, hva14⟩ := hp;refine zV R3 (hva14 ⟨rfl, rfl⟩ rfl rfl) (zV R3 (Val.load_es (c := [_, _, _, _, _, _, _]) hpa14 M1 ⟨⟨_, rfl, rfl⟩, rfl, by decide⟩ rfl rfl rfl) (TO.callIn rfl rfl rfl rfl rfl rfl (orcN rfl) (TF.enter (fn := Go.Proofs.Tryz.f119) rfl rfl rfl rfl rfl (zU rfl (zQ 7 [_,_,_,_,_,_,_] R7 (fun b2=>zA R4 (zN (zU rfl (zF 0 R6 (zV R3 (vW 0 [_,_,_] R5 R4) (zF 0 R6 (zV R3 (vW 1 [_,_,_] R5 R4) ?_))))))))))));obtain ⟨c8, hc8⟩ := zY (a14.qU = qQ ∧ a14.qV = qR ∧ a14.qW = qS);refine zV R3 (Val.binD hc8 rfl rfl (eql_ty28 _ _ _ _ _ _ _ _)) (zA R4 (zN (zR ?_)));refine ⟨rfl, _, rfl, ?_⟩;refine zN ?_;obtain ⟨rfl, hc8, h⟩ | ⟨rfl, hc8, h⟩ := zI hc8 h
      ·refine zC rfl (zU rfl (zM R4 (zA R4 (zN (zR ?_)))));cases h;exact ⟨ret_ne, ⟨ret_ne, ⟨rfl, _, rfl, ⟨(), rfl, (pk [1,98] rfl)⟩⟩⟩⟩
      refine zD rfl (zK (zT rfl ?_));obtain ⟨hk18, h⟩ := chk_some h;refine zV R3 (Val.add rfl rfl hk18) (zM R4 (zN ?_));cases h;exact ⟨rfl, (), (sb (pk [1,98] rfl))⟩
     refine zD rfl (zE ?_);cases h;exact ⟨ex_ne, ⟨rfl, (), (sb .refl)⟩⟩
    ·rintro _ _ h;refine zU rfl (zA R4 (zN (zR ?_)));cases h;exact ⟨rfl, _, rfl, ⟨(), rfl, .refl⟩⟩
   ·rintro y7 _ h;refine zG (_::C) rfl ?_;obtain ⟨c8, hc8⟩ := zY (y7 ≥ 0);refine zV R3 (Val.geq hc8 rfl rfl) (zA R4 (zN (zR ?_)));refine ⟨rfl, _, rfl, ?_⟩;refine zA R4 (zN ?_);obtain ⟨rfl, hc8, h⟩ | ⟨rfl, hc8, h⟩ := zI hc8 h
    ·refine zC rfl (zU rfl (zA R4 (zN (zR ?_))));cases h;exact ⟨ret_ne, ⟨rfl, _, rfl, ⟨(), rfl, (pk [98] rfl)⟩⟩⟩
    refine zD rfl (zK ?_);cases h;exact ⟨rfl, (), (sb .refl)⟩
 ·rintro _ _ h;refine zU rfl (zA R4 (zN (zR ?_)));cases h;exact ⟨rfl, _, rfl, ⟨(), rfl, (pk [98] rfl)⟩⟩
set_option maxRecDepth 10000 in
theorem tf_s9_Check {k : Nat} (hk : 0 ≤ k) {C : List Thing} {qB : AV} {qD : List Str} {qC : AV} {qE : List qH} {qA : AV} {qF : List qG} (qZ : RdT encStr qB qD) (qAa : RdT qN qC qE) (qY : RdT qL qA qF) {r : Int × Int × Int} (h : P_s9_Check qD qE qF = some r) :
  TF (EL k) 16 [.agg [qB, qC, qA]] C (RepF (fun (w : Unit) => .tuple [iv r.1, iv r.2.1, iv r.2.2]) (fun (w : Unit) => C)) := by
 unfold P_s9_Check at h
 have qK : Rdl C encStr qB qD := RdT.rdl qZ
 have qI : Rdl C qN qC qE := RdT.rdl qAa
 have qJ : Rdl C qL qA qF := RdT.rdl qY;refine TF.enter (fn := Go.Proofs.Tryz.f16) rfl rfl rfl rfl rfl (zU rfl (zQ 3 [_,_,_] R7 (fun b1=>zA R4 (zA R4 (zA R4 (zN (zS (zU rfl (zF 0 R6 (zL 0 R3 R6 (zV R3 (Val.len_l qK M1 rfl rfl) (TO.build1 (en := encI) (a := (qD.length : Int)) rfl rfl rfl ⟨rfl, rfl⟩ ⟨_, rfl, rfl⟩ (by decide) (by decide) rfl rfl (fun v8=>?_)))))))))))));obtain ⟨y9, hr9, h⟩ := andx_some h;refine TO.callT (first := []) (cap := []) (vs := [iv (1), iv (6), v8]) rfl rfl rfl rfl rfl rfl (orcN rfl) (tf_s9_out aD (Rdl.mono (Rdl.own (C := ownL false v8 encI [(qD.length : Int)] :: .row b1 3 [qB, qC, qA] :: C) (p := 0) rfl) mem0) hr9) ?_;rintro _;refine zG (_::_::C) rfl (zN ?_);obtain ⟨rfl, h⟩ | ⟨rfl, h⟩ := zZ h
 ·refine zC rfl (zU rfl (zA R4 (zA R4 (zA R4 (zN (zR ?_))))));cases h;exact ⟨rfl, _, rfl, ⟨(), rfl, (pk [98,98] rfl)⟩⟩
 refine zD rfl (zK (zU rfl (zF 0 R6 (zL 1 R3 R6 (zV R3 (Val.makeFunc rfl rfl) ?_)))));refine TO.callJ (W := Unit) (fun (j : Int × Int) (w : Unit) => .tuple [iv (j.1), iv (j.2)]) (fun (j : Int × Int) (w : Unit) => ownL false v8 encI [(qD.length : Int)] :: .row b1 3 [qB, qC, qA] :: C) h rfl rfl rfl rfl rfl rfl (orcN rfl) ?_ ?_
 ·intro j h;refine TF.enter (fn := Go.Proofs.Tryz.f63) rfl rfl rfl rfl rfl (zU rfl (zA R4 (zA R4 (zN ?_))))
  show T _ _ _ _ _ _;apply T.join (r := j) (W := Unit) (fun j w => ⟨[], [], ownL false v8 encI [(qD.length : Int)] :: .row b1 3 [qB, qC, qA] :: C⟩) h
  ·intro j h;refine zU rfl (zM R4 (zV R3 (Val.len_l qK M2 rfl rfl) (zM R4 (zN (zB ?_)))))
   show T _ _ _ _ _ _;apply T.iter (r := j) (W := Unit) (fun j w => ⟨[], [(1, .func 64 [] [.ptr b1 0 3]), (9, qB), (10, iv ((qD.length : Int))), (11, iv (j))], ownL false v8 encI [(qD.length : Int)] :: .row b1 3 [qB, qC, qA] :: C⟩) (w0 := ()) h
   ·exact (sb .refl)
   rintro x11 _ a h;unfold P_s9_Check_L1 at h;refine zU rfl ?_;obtain ⟨c12, hc12⟩ := zY (x11 < (qD.length : Int));refine zV R3 (Val.lss hc12 rfl rfl) (zN (zS ?_));obtain ⟨rfl, hc12, h⟩ | ⟨rfl, hc12, h⟩ := zI hc12 h
   ·refine zC rfl (zK (zS (zB (zU rfl (zM R4 ?_)))));obtain ⟨a14, hia14, ea14, h⟩ := el_some h;refine TO.fact (rdl_at qK M2 hia14 ea14) (fun hp=>?_);obtain ⟨pa14, hpa14, hva14⟩ := hp;refine zV R3 (hva14 ⟨rfl, rfl⟩ rfl rfl) (zV R3 (Val.load_e hpa14 M2 ⟨_, rfl, rfl⟩ rfl rfl) (zA R4 (zA R4 (zN (zU rfl (zM R4 (zM R4 (zM R4 ?_))))))));refine TO.callJ (W := Unit) (fun (j : Int) (w : Unit) => iv (j)) (fun (j : Int) (w : Unit) => ownL false v8 encI [(qD.length : Int)] :: .row b1 3 [qB, qC, qA] :: C) h rfl rfl rfl rfl rfl rfl (orcN rfl) ?_ ?_
    ·intro j h;refine TF.enter (fn := Go.Proofs.Tryz.f64) rfl rfl rfl rfl rfl (zU rfl (zA R4 (zN (zS (zB (zU rfl (zM R4 ?_)))))));obtain ⟨y8, hr8, h⟩ := andx_some h;refine TO.callT (first := []) (cap := []) (vs := [sv a14]) rfl rfl rfl rfl rfl rfl (orcN rfl) (tf_q_Name aD hr8) ?_;rintro _;refine zG (_::_::C) rfl (zV R3 (Val.not rfl) (zA R4 (zN ?_)));obtain ⟨rfl, h⟩ | ⟨rfl, h⟩ := zZ h
     ·refine zD rfl (zU rfl (zF 0 R6 (zL 1 R3 R6 (zM R4 ?_))));obtain ⟨hk14, h⟩ := chk_some h;obtain ⟨w14, htw14, hgw14, hvw14⟩ := slice_T qZ hk14
      have hw14 : Rdl C encStr w14 (List.take (x11 - (0 : Int)).toNat (List.drop ((0 : Int) : Int).toNat qD)) := RdT.rdl htw14;refine zV R3 (hvw14 ⟨rfl, rfl⟩ rfl .no (.some rfl)) (zM R4 (TO.callIn rfl rfl rfl rfl rfl rfl (orcN rfl) (TF.enter (fn := Go.Proofs.Tryz.f66) rfl rfl rfl rfl rfl (zU rfl (zA R4 (zN (zU rfl (zM R4 (zM R4 ?_)))))))));refine TO.callJ (W := Unit) (fun (j : Int) (w : Unit) => iv (j)) (fun (j : Int) (w : Unit) => ownL false v8 encI [(qD.length : Int)] :: .row b1 3 [qB, qC, qA] :: C) h rfl rfl rfl rfl rfl rfl (orcN rfl) ?_ ?_
      ·intro j h;refine TF.enter (fn := Go.Proofs.Tryz.f86) rfl rfl rfl rfl rfl (zU rfl (zA R4 (zN ?_)))
       show T _ _ _ _ _ _;apply T.join (r := j) (W := Unit) (fun j w => ⟨[], [], ownL false v8 encI [(qD.length : Int)] :: .row b1 3 [qB, qC, qA] :: C⟩) h
       ·intro j h;refine zU rfl (zM R4 (zV R3 (Val.len_l hw14 M2 rfl rfl) (zM R4 (zN (zB ?_)))))
        show T _ _ _ _ _ _;apply T.iter (r := j) (W := Unit) (fun j w => ⟨[], [(0, w14), (1, sv a14), (7, iv (((List.take (x11 - (0 : Int)).toNat (List.drop ((0 : Int) : Int).toNat qD)).length : Int))), (8, iv (j))], ownL false v8 encI [(qD.length : Int)] :: .row b1 3 [qB, qC, qA] :: C⟩) (w0 := ()) h
        ·exact (sb .refl)
        rintro x8 _ a h;unfold P_s9_Check_L2 at h;refine zU rfl ?_;obtain ⟨c9, hc9⟩ := zY (x8 < ((List.take (x11 - (0 : Int)).toNat (List.drop ((0 : Int) : Int).toNat qD)).length : Int));refine zV R3 (Val.lss hc9 rfl rfl) (zN (zS ?_));obtain ⟨rfl, hc9, h⟩ | ⟨rfl, hc9, h⟩ := zI hc9 h
        ·refine zC rfl (zK (zS (zB (zU rfl (zM R4 (zA R4 (zN (zU rfl (zM R4 (zM R4 (zM R4 ?_)))))))))));obtain ⟨a14_2, hia14_2, ea14_2, h⟩ := el_some h;refine TO.fact (rdl_at hw14 M2 hia14_2 ea14_2) (fun hp=>?_);obtain ⟨pa14_2, hpa14_2, hva14_2⟩ := hp;refine zV R3 (hva14_2 ⟨rfl, rfl⟩ rfl rfl) (zV R3 (Val.load_e hpa14_2 M2 ⟨_, rfl, rfl⟩ rfl rfl) ?_);obtain ⟨c16, hc16⟩ := zY (a14 = a14_2);refine zV R3 (Val.eql_str hc16 rfl rfl) (zN ?_);obtain ⟨rfl, hc16, h⟩ | ⟨rfl, hc16, h⟩ := zI hc16 h
         ·refine zC rfl (zU rfl (zM R4 (zA R4 (zN (zR ?_)))));cases h;exact ⟨ret_ne, ⟨ret_ne, ⟨rfl, _, rfl, ⟨(), rfl, .refl⟩⟩⟩⟩
         refine zD rfl (zK (zT rfl ?_));obtain ⟨hk18, h⟩ := chk_some h;refine zV R3 (Val.add rfl rfl hk18) (zM R4 (zN ?_));cases h;exact ⟨rfl, (), (sb .refl)⟩
        refine zD rfl (zE ?_);cases h;exact ⟨ex_ne, ⟨rfl, (), (sb .refl)⟩⟩
       ·rintro _ _ h;refine zU rfl (zA R4 (zN (zR ?_)));cases h;exact ⟨rfl, _, rfl, ⟨(), rfl, .refl⟩⟩
      ·rintro y7 _ h;refine zG (_::_::C) rfl ?_;obtain ⟨c8, hc8⟩ := zY (y7 ≥ 0);refine zV R3 (Val.geq hc8 rfl rfl) (zA R4 (zN (zR ?_)));refine ⟨rfl, _, rfl, ?_⟩;refine zA R4 (zN ?_);obtain ⟨rfl, hc8, h⟩ | ⟨rfl, hc8, h⟩ := zI hc8 h
       ·refine zC rfl (zU rfl (zA R4 (zN (zR ?_))));cases h;exact ⟨rfl, _, rfl, ⟨(), rfl, .refl⟩⟩
       refine zD rfl (zK (zU rfl (zA R4 (zN (zR ?_)))));cases h;exact ⟨rfl, _, rfl, ⟨(), rfl, .refl⟩⟩
     refine zC rfl (zU rfl (zA R4 (zN (zR ?_))));cases h;exact ⟨rfl, _, rfl, ⟨(), rfl, .refl⟩⟩
    ·rintro y19 _ h;refine zG (_::_::C) rfl (zA R4 (zN (zU rfl (zM R4 ?_))));obtain ⟨c21, hc21⟩ := zY (¬ y19 = 0);refine zV R3 (Val.neq hc21 rfl rfl) (zN ?_);obtain ⟨rfl, hc21, h⟩ | ⟨rfl, hc21, h⟩ := zI hc21 h
     ·refine zC rfl (zU rfl (zM R4 (zM R4 (zA R4 (zA R4 (zN (zR ?_)))))));cases h;exact ⟨ret_ne, ⟨ret_ne, ⟨rfl, _, rfl, ⟨(), rfl, .refl⟩⟩⟩⟩
     refine zD rfl (zK (zT rfl ?_));obtain ⟨hk24, h⟩ := chk_some h;refine zV R3 (Val.add rfl rfl hk24) (zM R4 (zN ?_));cases h;exact ⟨rfl, (), (sb .refl)⟩
   refine zD rfl (zE ?_);cases h;exact ⟨ex_ne, ⟨rfl, (), (sb .refl)⟩⟩
  ·rintro _ _ h;refine zU rfl (zA R4 (zA R4 (zN (zR ?_))));cases h;exact ⟨rfl, _, rfl, ⟨(), rfl, .refl⟩⟩
 ·rintro ⟨y14, y14_2⟩ _ h;dsimp only at h;refine zG (_::_::C) rfl (zM R4 (zX R5 (zX R5 (zA R4 (zA R4 (zN (zS (zB (zU rfl (zM R4 ?_))))))))));obtain ⟨c19, hc19⟩ := zY (¬ y14_2 = 0);refine zV R3 (Val.neq hc19 rfl rfl) (zA R4 (zN ?_));obtain ⟨rfl, hc19, h⟩ | ⟨rfl, hc19, h⟩ := zI hc19 h
  ·refine zC rfl (zU rfl (zM R4 (zM R4 (zA R4 (zA R4 (zA R4 (zN (zR ?_))))))));cases h;exact ⟨rfl, _, rfl, ⟨(), rfl, (pk [98,98] rfl)⟩⟩
  refine zD rfl (zU rfl (zF 1 R6 (zL 1 R3 R6 (zV R3 (Val.len_l qI M2 rfl rfl) (TO.build1 (en := encI) (a := (qE.length : Int)) rfl rfl rfl ⟨rfl, rfl⟩ ⟨_, rfl, rfl⟩ (by decide) (by decide) rfl rfl (fun v26=>?_))))));obtain ⟨y27, hr27, h⟩ := andx_some h;refine TO.callT (first := []) (cap := []) (vs := [iv (1), iv (4), v26]) rfl rfl rfl rfl rfl rfl (orcN rfl) (tf_s9_out aD (Rdl.mono (Rdl.own (C := ownL false v26 encI [(qE.length : Int)] :: ownL false v8 encI [(qD.length : Int)] :: .row b1 3 [qB, qC, qA] :: C) (p := 0) rfl) mem0) hr27) ?_;rintro _;refine zG (_::_::_::C) rfl (zA R4 (zN ?_));obtain ⟨rfl, h⟩ | ⟨rfl, h⟩ := zZ h
  ·refine zC rfl (zU rfl (zA R4 (zA R4 (zA R4 (zN (zR ?_))))));cases h;exact ⟨rfl, _, rfl, ⟨(), rfl, (pk [98,98,98] rfl)⟩⟩
  refine zD rfl (zK (zU rfl (zF 1 R6 (zL 2 R3 R6 ?_))));refine TO.callJ (W := Unit) (fun (j : Int × Int) (w : Unit) => .tuple [iv (j.1), iv (j.2)]) (fun (j : Int × Int) (w : Unit) => ownL false v26 encI [(qE.length : Int)] :: ownL false v8 encI [(qD.length : Int)] :: .row b1 3 [qB, qC, qA] :: C) h rfl rfl rfl rfl rfl rfl (orcN rfl) ?_ ?_
  ·intro j h;refine TF.enter (fn := Go.Proofs.Tryz.f67) rfl rfl rfl rfl rfl (zU rfl (zA R4 (zA R4 (zN ?_))))
   show T _ _ _ _ _ _;apply T.join (r := j) (W := Unit) (fun j w => ⟨[], [], ownL false v26 encI [(qE.length : Int)] :: ownL false v8 encI [(qD.length : Int)] :: .row b1 3 [qB, qC, qA] :: C⟩) h
   ·intro j h;refine zU rfl (zM R4 (zV R3 (Val.len_l qI M3 rfl rfl) (zM R4 (zN (zB ?_)))))
    show T _ _ _ _ _ _;apply T.iter (r := j) (W := Unit) (fun j w => ⟨[], [(1, .func 68 [] []), (9, qC), (10, iv ((qE.length : Int))), (11, iv (j))], ownL false v26 encI [(qE.length : Int)] :: ownL false v8 encI [(qD.length : Int)] :: .row b1 3 [qB, qC, qA] :: C⟩) (w0 := ()) h
    ·exact (sb .refl)
    rintro x11 _ a h;unfold P_s9_Check_L3 at h;refine zU rfl ?_;obtain ⟨c12, hc12⟩ := zY (x11 < (qE.length : Int));refine zV R3 (Val.lss hc12 rfl rfl) (zN (zS ?_));obtain ⟨rfl, hc12, h⟩ | ⟨rfl, hc12, h⟩ := zI hc12 h
    ·refine zC rfl (zK (zS (zB (zU rfl (zM R4 ?_)))));obtain ⟨a14, hia14, ea14, h⟩ := el_some h;refine TO.fact (rdl_at qI M3 hia14 ea14) (fun hp=>?_);obtain ⟨pa14, hpa14, hva14⟩ := hp;refine zV R3 (hva14 ⟨rfl, rfl⟩ rfl rfl) (zV R3 (Val.load_es (c := [_, _, _, _]) hpa14 M3 ⟨⟨_, rfl, rfl⟩, rfl, by decide⟩ rfl rfl rfl) (zJ 4 [_,_,_,_] R7 (fun b7=>zA R4 (TO.eff0 rfl rfl (Eff.store_row (p := 0) (cv := [_, _, _, _]) (cells' := [_, _, _, _]) rfl rfl rfl rfl rfl rfl rfl rfl aG (by decide) rfl) ?_))));rintro _ rfl;refine zG (_::_::_::_::C) rfl (zN (zU rfl (zM R4 (zM R4 (zV R3 (vW 0 [_,_,_,_] R5 R4) ?_)))));refine TO.callJ (W := Unit) (fun (j : Int) (w : Unit) => iv (j)) (fun (j : Int) (w : Unit) => .row b7 4 [iv (a14.away), iv (a14.climb), iv (a14.wide), iv (a14.high)] :: ownL false v26 encI [(qE.length : Int)] :: ownL false v8 encI [(qD.length : Int)] :: .row b1 3 [qB, qC, qA] :: C) h rfl rfl rfl rfl rfl rfl (orcN rfl) ?_ ?_
     ·intro j h;refine TF.enter (fn := Go.Proofs.Tryz.f68) rfl rfl rfl rfl rfl (zU rfl (zQ 4 [_,_,_,_] R7 (fun b3=>zA R4 (zN ?_))))
      show T _ _ _ _ _ _;apply T.join (r := j) (W := Unit) (fun j w => ⟨[], [], .row b3 4 [iv (a14.away), iv (a14.climb), iv (a14.wide), iv (a14.high)] :: .row b7 4 [iv (a14.away), iv (a14.climb), iv (a14.wide), iv (a14.high)] :: ownL false v26 encI [(qE.length : Int)] :: ownL false v8 encI [(qD.length : Int)] :: .row b1 3 [qB, qC, qA] :: C⟩) h
      ·intro j h
       show T _ _ _ _ _ _;apply T.joinA (r := j) (W := Unit) (fun j w => ⟨[], [(18, bv j)], .row b3 4 [iv (a14.away), iv (a14.climb), iv (a14.wide), iv (a14.high)] :: .row b7 4 [iv (a14.away), iv (a14.climb), iv (a14.wide), iv (a14.high)] :: ownL false v26 encI [(qE.length : Int)] :: ownL false v8 encI [(qD.length : Int)] :: .row b1 3 [qB, qC, qA] :: C⟩) h
       ·intro j h;refine zT rfl (zF 0 R6 (zL 0 R3 R6 (zF 1 R6 (zL 0 R3 R6 (TO.eff rfl rfl rfl (Eff.new (New.buildSlice (en := encI) (l := [a14.away, a14.climb]) (vs := [(_, _), (_, _)]) (ws := [(_, [_]), (_, [_])]) ⟨rfl, rfl⟩ rfl rfl rfl rfl (CellsL.cons rfl (CellsL.cons rfl CellsL.nil)) rfl rfl)) ?_)))));rintro _ _ ⟨v9, rfl, rfl⟩;refine TO.less (Less.rowOwn (en := encI) (l := [a14.away, a14.climb]) (p := 0) rfl) (zG (_::_::_::_::_::_::C) rfl ?_);obtain ⟨y10, hr10, h⟩ := andx_some h;refine TO.callT (first := []) (cap := []) (vs := [iv (0), iv (1000), (.slice v9 0 (List.flatMap encI.f [a14.away, a14.climb]).length true (List.length [a14.away, a14.climb]) (List.length [a14.away, a14.climb]))]) rfl rfl rfl rfl rfl rfl (orcN rfl) (tf_s9_out aD (Rdl.mono (Rdl.own (C := ownL false (.slice v9 0 (List.flatMap encI.f [a14.away, a14.climb]).length true (List.length [a14.away, a14.climb]) (List.length [a14.away, a14.climb])) encI [a14.away, a14.climb] :: .row b3 4 [iv (a14.away), iv (a14.climb), iv (a14.wide), iv (a14.high)] :: .row b7 4 [iv (a14.away), iv (a14.climb), iv (a14.wide), iv (a14.high)] :: ownL false v26 encI [(qE.length : Int)] :: ownL false v8 encI [(qD.length : Int)] :: .row b1 3 [qB, qC, qA] :: C) (p := 0) rfl) mem0) hr10) ?_;rintro _;refine zG (_::_::_::_::_::_::C) rfl (zM R4 ?_);obtain ⟨rfl, h⟩ | ⟨rfl, h⟩ := zZ h
        ·refine zO R3 (zO R3 (zO R3 (zO R3 (zO R3 (zO R3 (zP R6 (zN ?_)))))));cases h;exact ⟨rfl, (), (sb (pk [1,1,1,1,1,98] rfl))⟩
        refine zF 2 R6 (zL 1 R3 R6 (zF 3 R6 (zL 1 R3 R6 (TO.eff rfl rfl rfl (Eff.new (New.buildSlice (en := encI) (l := [a14.wide, a14.high]) (vs := [(_, _), (_, _)]) (ws := [(_, [_]), (_, [_])]) ⟨rfl, rfl⟩ rfl rfl rfl rfl (CellsL.cons rfl (CellsL.cons rfl CellsL.nil)) rfl rfl)) ?_))));rintro _ _ ⟨v16, rfl, rfl⟩;refine TO.less (Less.rowOwn (en := encI) (l := [a14.wide, a14.high]) (p := 0) rfl) (zG (_::_::_::_::_::_::_::C) rfl ?_);obtain ⟨y17, hr17, h⟩ := andx_some h;refine TO.callT (first := []) (cap := []) (vs := [iv (1), iv (2000), (.slice v16 0 (List.flatMap encI.f [a14.wide, a14.high]).length true (List.length [a14.wide, a14.high]) (List.length [a14.wide, a14.high]))]) rfl rfl rfl rfl rfl rfl (orcN rfl) (tf_s9_out aD (Rdl.mono (Rdl.own (C := ownL false (.slice v16 0 (List.flatMap encI.f [a14.wide, a14.high]).length true (List.length [a14.wide, a14.high]) (List.length [a14.wide, a14.high])) encI [a14.wide, a14.high] :: ownL false (.slice v9 0 (List.flatMap encI.f [a14.away, a14.climb]).length true (List.length [a14.away, a14.climb]) (List.length [a14.away, a14.climb])) encI [a14.away, a14.climb] :: .row b3 4 [iv (a14.away), iv (a14.climb), iv (a14.wide), iv (a14.high)] :: .row b7 4 [iv (a14.away), iv (a14.climb), iv (a14.wide), iv (a14.high)] :: ownL false v26 encI [(qE.length : Int)] :: ownL false v8 encI [(qD.length : Int)] :: .row b1 3 [qB, qC, qA] :: C) (p := 0) rfl) mem0) hr17) ?_;rintro _;refine zG (_::_::_::_::_::_::_::C) rfl (zP R6 (zN ?_));cases h;exact ⟨rfl, (), (sb (pk [2,2,2,2,2,98,98] rfl))⟩
       ·rintro x18 _ h;obtain ⟨rfl, h⟩ | ⟨rfl, h⟩ := zZ h
        ·refine zC rfl (zU rfl (zA R4 (zN (zR ?_))));cases h;exact ⟨ret_ne, ⟨rfl, _, rfl, ⟨(), rfl, (pk [1,1,1,1,98] rfl)⟩⟩⟩
        refine zD rfl (zK ?_);cases h;exact ⟨rfl, (), (sb .refl)⟩
      ·rintro _ _ h;refine zU rfl (zA R4 (zN (zR ?_)));cases h;exact ⟨rfl, _, rfl, ⟨(), rfl, (pk [1,1,1,1,98] rfl)⟩⟩
     ·rintro y19 _ h;refine zG (_::_::_::_::C) rfl (zA R4 (zN (zU rfl (zM R4 ?_))));obtain ⟨c21, hc21⟩ := zY (¬ y19 = 0);refine zV R3 (Val.neq hc21 rfl rfl) (zN ?_);obtain ⟨rfl, hc21, h⟩ | ⟨rfl, hc21, h⟩ := zI hc21 h
      ·refine zC rfl (zU rfl (zM R4 (zM R4 (zA R4 (zA R4 (zN (zR ?_)))))));cases h;exact ⟨ret_ne, ⟨ret_ne, ⟨rfl, _, rfl, ⟨(), rfl, (pk [1,1,1,98] rfl)⟩⟩⟩⟩
      refine zD rfl (zK (zT rfl ?_));obtain ⟨hk24, h⟩ := chk_some h;refine zV R3 (Val.add rfl rfl hk24) (zM R4 (zN ?_));cases h;exact ⟨rfl, (), (sb (pk [1,1,1,98] rfl))⟩
    refine zD rfl (zE ?_);cases h;exact ⟨ex_ne, ⟨rfl, (), (sb .refl)⟩⟩
   ·rintro _ _ h;refine zU rfl (zA R4 (zA R4 (zN (zR ?_))));cases h;exact ⟨rfl, _, rfl, ⟨(), rfl, .refl⟩⟩
  ·rintro ⟨y31, y31_2⟩ _ h;dsimp only at h;refine zG (_::_::_::C) rfl (zM R4 (zX R5 (zX R5 (zA R4 (zA R4 (zN (zS (zB (zU rfl (zM R4 ?_))))))))));obtain ⟨c36, hc36⟩ := zY (¬ y31_2 = 0);refine zV R3 (Val.neq hc36 rfl rfl) (zA R4 (zN ?_));obtain ⟨rfl, hc36, h⟩ | ⟨rfl, hc36, h⟩ := zI hc36 h
   ·refine zC rfl (zU rfl (zM R4 (zM R4 (zA R4 (zA R4 (zA R4 (zN (zR ?_))))))));cases h;exact ⟨rfl, _, rfl, ⟨(), rfl, (pk [98,98,98] rfl)⟩⟩
   refine zD rfl (zU rfl (zF 2 R6 (zL 2 R3 R6 (zV R3 (Val.len_l qJ M3 rfl rfl) ?_))));obtain ⟨c43, hc43⟩ := zY ((qF.length : Int) > 10);refine zV R3 (Val.gtr hc43 rfl rfl) (zA R4 (zN ?_));obtain ⟨rfl, hc43, h⟩ | ⟨rfl, hc43, h⟩ := zI hc43 h
   ·refine zC rfl (zU rfl (zA R4 (zA R4 (zA R4 (zN (zR ?_))))));cases h;exact ⟨rfl, _, rfl, ⟨(), rfl, (pk [98,98,98] rfl)⟩⟩
   refine zD rfl (zK (zU rfl (zF 2 R6 (zL 2 R3 R6 (zV R3 (Val.makeFunc rfl rfl) ?_)))));refine TO.callJ (W := Unit) (fun (j : Int × Int) (w : Unit) => .tuple [iv (j.1), iv (j.2)]) (fun (j : Int × Int) (w : Unit) => ownL false v26 encI [(qE.length : Int)] :: ownL false v8 encI [(qD.length : Int)] :: .row b1 3 [qB, qC, qA] :: C) h rfl rfl rfl rfl rfl rfl (orcN rfl) ?_ ?_
   ·intro j h;refine TF.enter (fn := Go.Proofs.Tryz.f69) rfl rfl rfl rfl rfl (zU rfl (zA R4 (zA R4 (zN ?_))))
    show T _ _ _ _ _ _;apply T.join (r := j) (W := Unit) (fun j w => ⟨[], [], ownL false v26 encI [(qE.length : Int)] :: ownL false v8 encI [(qD.length : Int)] :: .row b1 3 [qB, qC, qA] :: C⟩) h
    ·intro j h;refine zU rfl (zM R4 (zV R3 (Val.len_l qJ M3 rfl rfl) (zM R4 (zN (zB ?_)))))
     show T _ _ _ _ _ _;apply T.iter (r := j) (W := Unit) (fun j w => ⟨[], [(1, .func 70 [] [.ptr b1 0 3]), (9, qA), (10, iv ((qF.length : Int))), (11, iv (j))], ownL false v26 encI [(qE.length : Int)] :: ownL false v8 encI [(qD.length : Int)] :: .row b1 3 [qB, qC, qA] :: C⟩) (w0 := ()) h
     ·exact (sb .refl)
     rintro x11 _ a h;unfold P_s9_Check_L4 at h;refine zU rfl ?_;obtain ⟨c12, hc12⟩ := zY (x11 < (qF.length : Int));refine zV R3 (Val.lss hc12 rfl rfl) (zN (zS ?_));obtain ⟨rfl, hc12, h⟩ | ⟨rfl, hc12, h⟩ := zI hc12 h
     ·refine zC rfl (zK (zS (zB (zU rfl (zM R4 ?_)))));obtain ⟨a14, hia14, ea14, h⟩ := el_some h;refine TO.fact (rdl_at qJ M3 hia14 ea14) (fun hp=>?_);obtain ⟨pa14, hpa14, hva14⟩ := hp;refine zV R3 (hva14 ⟨rfl, rfl⟩ rfl rfl) (zV R3 (Val.load_es (c := [_, _, _, _, _, _, _]) hpa14 M3 ⟨⟨_, rfl, rfl⟩, rfl, by decide⟩ rfl rfl rfl) (zJ 7 [_,_,_,_,_,_,_] R7 (fun b7=>zA R4 (TO.eff0 rfl rfl (Eff.store_row (p := 0) (cv := [_, _, _, _, _, _, _]) (cells' := [_, _, _, _, _, _, _]) rfl rfl rfl rfl rfl rfl rfl rfl aG (by decide) rfl) ?_))));rintro _ rfl;refine zG (_::_::_::_::C) rfl (zN (zU rfl (zM R4 (zM R4 (zV R3 (vW 0 [_,_,_,_,_,_,_] R5 R4) ?_)))));refine TO.callJ (W := Unit) (fun (j : Int) (w : Unit) => iv (j)) (fun (j : Int) (w : Unit) => .row b7 7 [iv (a14.qU), iv (a14.qV), sv a14.qW, iv (a14.wide), iv (a14.high), iv (a14.heavy), iv (a14.shelf)] :: ownL false v26 encI [(qE.length : Int)] :: ownL false v8 encI [(qD.length : Int)] :: .row b1 3 [qB, qC, qA] :: C) h rfl rfl rfl rfl rfl rfl (orcN rfl) ?_ ?_
      ·intro j h;refine TF.enter (fn := Go.Proofs.Tryz.f70) rfl rfl rfl rfl rfl (zU rfl (zQ 7 [_,_,_,_,_,_,_] R7 (fun b4=>zA R4 (zN (zS (T.drawE (l1 := [0, 1, 2, 3, 4, 5, 6]) (l2 := [7, 8]) (by kernel_rfl) (by kernel_rfl) (yR R4 (vW 4 [_,_,_] R5 R4) (yL R4 (Val.buildC (cs := [_, _, _]) (vs := [(_, _)]) (ws := [(_, [_, _, _])]) rfl rfl (CellsL.cons rfl CellsL.nil) rfl) (yR R4 (vW 0 [_,_,_,_,_,_,_] R5 R4) (yL R4 (Val.faddr_ptr (fo := 2) rfl rfl rfl) (yR R4 (vR (p := 4) R6) (yL R4 (Val.move rfl) ?_))))))))))));obtain ⟨hk13, h⟩ := chk_some h;obtain ⟨w13, htw13, hgw13, hvw13⟩ := slice_T qY hk13
       have hw13 : Rdl C qL w13 (List.take (x11 - (0 : Int)).toNat (List.drop ((0 : Int) : Int).toNat qF)) := RdT.rdl htw13;refine yR R4 (hvw13 ⟨rfl, rfl⟩ rfl .no (.some rfl)) (TD1.over (fun v => sameC_refl v) (all_cons (⟨_, rfl, (hvw13 ⟨rfl, rfl⟩ rfl .no (.some rfl))⟩) (all_cons (⟨_, rfl, (vR (p := 4) R6)⟩) (all_cons (⟨_, rfl, (vW 0 [_,_,_,_,_,_,_] R5 R4)⟩) (all_cons (⟨_, rfl, (vW 4 [_,_,_] R5 R4)⟩) all_nil)))) ?_);obtain ⟨y14_3, hr14, h⟩ := andx_some h;refine TD2.heavy (fun v => sameC_refl v) rfl (by decide) rfl rfl (OpS.callV rfl rfl rfl rfl (orcN rfl) (RepF.conv (tf_s9_book aD (Rdl.mono qK M5) (Rdl.mono qI M5) (Rdl.mono qJ M5) (Rdl.mono hw13 M5) hr14))) ?_;rintro _ hs_ ⟨_, rfl, he_⟩;subst hs_;refine ⟨(all_cons (.inl (by kernel_rfl)) (all_cons (.inl (by kernel_rfl)) (all_cons (.inl (by kernel_rfl)) (all_cons (.inl (by kernel_rfl)) all_nil)))), all_nil, ?_⟩;refine yG (_::_::_::_::_::C) rfl (yM R4 (Val.assign rfl) (TD2.nil ?_))
       show T _ _ _ _ _ _;apply T.join (r := j) (W := Unit) (fun j w => ⟨[], [], .row b4 7 [iv (a14.qU), iv (a14.qV), sv a14.qW, iv (a14.wide), iv (a14.high), iv (a14.heavy), iv (a14.shelf)] :: .row b7 7 [iv (a14.qU), iv (a14.qV), sv a14.qW, iv (a14.wide), iv (a14.high), iv (a14.heavy), iv (a14.shelf)] :: ownL false v26 encI [(qE.length : Int)] :: ownL false v8 encI [(qD.length : Int)] :: .row b1 3 [qB, qC, qA] :: C⟩) h
       ·intro j h;refine zB (zU rfl (zM R4 ?_));obtain ⟨c17, hc17⟩ := zY (¬ y14_3 = 0);refine zV R3 (Val.neq hc17 rfl rfl) (zA R4 (zN ?_));obtain ⟨rfl, hc17, h⟩ | ⟨rfl, hc17, h⟩ := zI hc17 h
        ·refine zC rfl (zU rfl (zM R4 (zA R4 (zN (zR ?_)))));cases h;exact ⟨ret_ne, ⟨rfl, _, rfl, ⟨(), rfl, (pk [1,1,1,1,98] rfl)⟩⟩⟩
        refine zD rfl (zU rfl (zF 1 R6 (zL 4 R3 R6 (zV R3 (Val.len_l qI M5 rfl rfl) ?_))));obtain ⟨hk23, h⟩ := chk_some h;refine zV R3 (Val.sub rfl rfl hk23) (zF 6 R6 (zL 0 R3 R6 (TO.build1 (en := encI) (a := a14.shelf) rfl rfl rfl ⟨rfl, rfl⟩ ⟨_, rfl, rfl⟩ (by decide) (by decide) rfl rfl (fun v26_2=>?_))));obtain ⟨y27_2, hr27_2, h⟩ := andx_some h;refine TO.callT (first := []) (cap := []) (vs := [iv (0), iv (((qE.length : Int) - 1)), v26_2]) rfl rfl rfl rfl rfl rfl (orcN rfl) (tf_s9_out aD (Rdl.mono (Rdl.own (C := ownL false v26_2 encI [a14.shelf] :: .row b4 7 [iv (a14.qU), iv (a14.qV), sv a14.qW, iv (a14.wide), iv (a14.high), iv (a14.heavy), iv (a14.shelf)] :: .row b7 7 [iv (a14.qU), iv (a14.qV), sv a14.qW, iv (a14.wide), iv (a14.high), iv (a14.heavy), iv (a14.shelf)] :: ownL false v26 encI [(qE.length : Int)] :: ownL false v8 encI [(qD.length : Int)] :: .row b1 3 [qB, qC, qA] :: C) (p := 0) rfl) mem0) hr27_2) ?_;rintro _;refine zG (_::_::_::_::_::_::C) rfl (zA R4 (zN ?_));obtain ⟨rfl, h⟩ | ⟨rfl, h⟩ := zZ h
        ·refine zC rfl (zU rfl (zA R4 (zN (zR ?_))));cases h;exact ⟨ret_ne, ⟨rfl, _, rfl, ⟨(), rfl, (pk [2,2,2,2,98,98] rfl)⟩⟩⟩
        refine zD rfl ?_
        show T _ _ _ _ _ _;apply T.joinA (r := j) (W := Unit) (fun j w => ⟨[], [(28, bv j)], ownL false v26_2 encI [a14.shelf] :: .row b4 7 [iv (a14.qU), iv (a14.qV), sv a14.qW, iv (a14.wide), iv (a14.high), iv (a14.heavy), iv (a14.shelf)] :: .row b7 7 [iv (a14.qU), iv (a14.qV), sv a14.qW, iv (a14.wide), iv (a14.high), iv (a14.heavy), iv (a14.shelf)] :: ownL false v26 encI [(qE.length : Int)] :: ownL false v8 encI [(qD.length : Int)] :: .row b1 3 [qB, qC, qA] :: C⟩) h
        ·intro j h;refine T.draw (fun v => sameC_refl v) (l1 := [0, 1, 2, 3, 4, 5, 6, 7, 8, 9, 10, 11, 12, 13, 14]) (l2 := []) (by kernel_rfl) (by kernel_rfl) (zM R4 ?_);obtain ⟨c30, hc30⟩ := zY (x11 > 0);refine zV R3 (Val.gtr hc30 rfl rfl) (zM R4 ?_);obtain ⟨rfl, hc30, h⟩ | ⟨rfl, hc30, h⟩ := zI hc30 h
         ·refine zF 6 R6 (zL 1 R3 R6 (zF 2 R6 (zL 5 R3 R6 (zM R4 ?_))));obtain ⟨hk37, h⟩ := chk_some h;refine zV R3 (Val.sub rfl rfl hk37) ?_;obtain ⟨a38, hia38, ea38, h⟩ := el_some h;refine TO.fact (rdl_at qJ M6 hia38 ea38) (fun hp=>?_);obtain ⟨pa38, hpa38, hva38⟩ := hp;refine zV R3 (hva38 ⟨rfl, rfl⟩ rfl rfl) (zV R3 (Val.faddr_e (fo := 6) hpa38 rfl rfl rfl) (zV R3 (Val.load_e (PtE.add hpa38 (by decide)) M6 ⟨_, rfl, rfl⟩ rfl rfl) ?_));obtain ⟨c41, hc41⟩ := zY (a14.shelf < a38.shelf);refine zV R3 (Val.lss hc41 rfl rfl) (zP R6 (zA R4 (zN ?_)));subst hc41;cases h;exact ⟨rfl, (), (sb .refl)⟩
         refine zO R3 (zO R3 (zO R3 (zO R3 (zO R3 (zO R3 (zO R3 (zO R3 (zO R3 (zO R3 (zP R6 (zA R4 (zN ?_))))))))))));cases h;exact ⟨rfl, (), (sb .refl)⟩
        ·rintro x28 _ h;obtain ⟨rfl, h⟩ | ⟨rfl, h⟩ := zZ h
         ·refine zC rfl (zU rfl (zA R4 (zN (zR ?_))));cases h;exact ⟨ret_ne, ⟨rfl, _, rfl, ⟨(), rfl, (pk [2,2,2,2,98,98] rfl)⟩⟩⟩
         refine zD rfl (zK ?_);cases h;exact ⟨rfl, (), (sb (pk [1,1,1,1,1,98] rfl))⟩
       ·rintro _ _ h;refine zU rfl (zA R4 (zN (zR ?_)));cases h;exact ⟨rfl, _, rfl, ⟨(), rfl, (pk [1,1,1,1,98] rfl)⟩⟩
      ·rintro y19 _ h;refine zG (_::_::_::_::C) rfl (zA R4 (zN (zU rfl (zM R4 ?_))));obtain ⟨c21, hc21⟩ := zY (¬ y19 = 0);refine zV R3 (Val.neq hc21 rfl rfl) (zN ?_);obtain ⟨rfl, hc21, h⟩ | ⟨rfl, hc21, h⟩ := zI hc21 h
       ·refine zC rfl (zU rfl (zM R4 (zM R4 (zA R4 (zA R4 (zN (zR ?_)))))));cases h;exact ⟨ret_ne, ⟨ret_ne, ⟨rfl, _, rfl, ⟨(), rfl, (pk [1,1,1,98] rfl)⟩⟩⟩⟩
       refine zD rfl (zK (zT rfl ?_));obtain ⟨hk24, h⟩ := chk_some h;refine zV R3 (Val.add rfl rfl hk24) (zM R4 (zN ?_));cases h;exact ⟨rfl, (), (sb (pk [1,1,1,98] rfl))⟩
     refine zD rfl (zE ?_);cases h;exact ⟨ex_ne, ⟨rfl, (), (sb .refl)⟩⟩
    ·rintro _ _ h;refine zU rfl (zA R4 (zA R4 (zN (zR ?_))));cases h;exact ⟨rfl, _, rfl, ⟨(), rfl, .refl⟩⟩
   ·rintro ⟨y48, y48_2⟩ _ h;dsimp only at h;refine zG (_::_::_::C) rfl (zM R4 (zX R5 (zX R5 (zA R4 (zA R4 (zN (zS (zU rfl (zM R4 ?_)))))))));obtain ⟨c52, hc52⟩ := zY (¬ y48_2 = 0);refine zV R3 (Val.neq hc52 rfl rfl) (zN ?_);obtain ⟨rfl, hc52, h⟩ | ⟨rfl, hc52, h⟩ := zI hc52 h
    ·refine zC rfl (zU rfl (zM R4 (zM R4 (zA R4 (zA R4 (zA R4 (zN (zR ?_))))))));cases h;exact ⟨rfl, _, rfl, ⟨(), rfl, (pk [98,98,98] rfl)⟩⟩
    refine zD rfl (zK (zU rfl (zF 1 R6 (zL 2 R3 R6 (zV R3 (Val.makeFunc rfl rfl) ?_)))));refine TO.callJ (W := Unit) (fun (j : Int × Int) (w : Unit) => .tuple [iv (j.1), iv (j.2)]) (fun (j : Int × Int) (w : Unit) => ownL false v26 encI [(qE.length : Int)] :: ownL false v8 encI [(qD.length : Int)] :: .row b1 3 [qB, qC, qA] :: C) h rfl rfl rfl rfl rfl rfl (orcN rfl) ?_ ?_
    ·intro j h;refine TF.enter (fn := Go.Proofs.Tryz.f67) rfl rfl rfl rfl rfl (zU rfl (zA R4 (zA R4 (zN ?_))))
     show T _ _ _ _ _ _;apply T.join (r := j) (W := Unit) (fun j w => ⟨[], [], ownL false v26 encI [(qE.length : Int)] :: ownL false v8 encI [(qD.length : Int)] :: .row b1 3 [qB, qC, qA] :: C⟩) h
     ·intro j h;refine zU rfl (zM R4 (zV R3 (Val.len_l qI M3 rfl rfl) (zM R4 (zN (zB ?_)))))
      show T _ _ _ _ _ _;apply T.iter (r := j) (W := Unit) (fun j w => ⟨[], [(1, .func 72 [] [.ptr b1 0 3]), (9, qC), (10, iv ((qE.length : Int))), (11, iv (j))], ownL false v26 encI [(qE.length : Int)] :: ownL false v8 encI [(qD.length : Int)] :: .row b1 3 [qB, qC, qA] :: C⟩) (w0 := ()) h
      ·exact (sb .refl)
      rintro x11 _ a h;unfold P_s9_Check_L5 at h;refine zU rfl ?_;obtain ⟨c12, hc12⟩ := zY (x11 < (qE.length : Int));refine zV R3 (Val.lss hc12 rfl rfl) (zN (zS ?_));obtain ⟨rfl, hc12, h⟩ | ⟨rfl, hc12, h⟩ := zI hc12 h
      ·refine zC rfl (zK (zS (zB (zU rfl (zM R4 ?_)))));obtain ⟨a14, hia14, ea14, h⟩ := el_some h;refine TO.fact (rdl_at qI M3 hia14 ea14) (fun hp=>?_);obtain ⟨pa14, hpa14, hva14⟩ := hp;refine zV R3 (hva14 ⟨rfl, rfl⟩ rfl rfl) (zV R3 (Val.load_es (c := [_, _, _, _]) hpa14 M3 ⟨⟨_, rfl, rfl⟩, rfl, by decide⟩ rfl rfl rfl) (zJ 4 [_,_,_,_] R7 (fun b7=>zA R4 (TO.eff0 rfl rfl (Eff.store_row (p := 0) (cv := [_, _, _, _]) (cells' := [_, _, _, _]) rfl rfl rfl rfl rfl rfl rfl rfl aG (by decide) rfl) ?_))));rintro _ rfl;refine zG (_::_::_::_::C) rfl (zN (zU rfl (zM R4 (zM R4 (zV R3 (vW 0 [_,_,_,_] R5 R4) ?_)))));refine TO.callJ (W := Unit) (fun (j : Int) (w : Unit) => iv (j)) (fun (j : Int) (w : Unit) => .row b7 4 [iv (a14.away), iv (a14.climb), iv (a14.wide), iv (a14.high)] :: ownL false v26 encI [(qE.length : Int)] :: ownL false v8 encI [(qD.length : Int)] :: .row b1 3 [qB, qC, qA] :: C) h rfl rfl rfl rfl rfl rfl (orcN rfl) ?_ ?_
       ·intro j h;refine TF.enter (fn := Go.Proofs.Tryz.f72) rfl rfl rfl rfl rfl (zU rfl (zQ 4 [_,_,_,_] R7 (fun b4=>zA R4 (zN ?_))))
        show T _ _ _ _ _ _;apply T.join (r := j) (W := Unit) (fun j w => ⟨[], [], .row b4 4 [iv (a14.away), iv (a14.climb), iv (j), iv (a14.high)] :: .row b7 4 [iv (a14.away), iv (a14.climb), iv (a14.wide), iv (a14.high)] :: ownL false v26 encI [(qE.length : Int)] :: ownL false v8 encI [(qD.length : Int)] :: .row b1 3 [qB, qC, qA] :: C⟩) h
        ·intro j h;refine zU rfl (zF 2 R6 (zL 4 R3 R6 (zV R3 (Val.len_l qJ M5 rfl rfl) (zM R4 (zN (zB ?_))))))
         show T _ _ _ _ _ _;apply T.iter (r := j) (W := Unit) (fun j w => ⟨[], [(0, iv (x11)), (4, .ptr b4 0 4), (9, qA), (10, iv ((qF.length : Int))), (11, iv (j.1))], .row b4 4 [iv (a14.away), iv (a14.climb), iv (j.2), iv (a14.high)] :: .row b7 4 [iv (a14.away), iv (a14.climb), iv (a14.wide), iv (a14.high)] :: ownL false v26 encI [(qE.length : Int)] :: ownL false v8 encI [(qD.length : Int)] :: .row b1 3 [qB, qC, qA] :: C⟩) (w0 := ()) h
         ·exact (sb .refl)
         rintro ⟨x11_2, s_Wide⟩ _ a h;unfold P_s9_Check_L6 at h;dsimp only at h;dsimp only;refine zU rfl ?_;obtain ⟨c12_2, hc12_2⟩ := zY (x11_2 < (qF.length : Int));refine zV R3 (Val.lss hc12_2 rfl rfl) (zN (zS ?_));obtain ⟨rfl, hc12_2, h⟩ | ⟨rfl, hc12_2, h⟩ := zI hc12_2 h
         ·refine zC rfl (zK ?_)
          show T _ _ _ _ _ _;apply T.join (r := a) (W := Unit) (fun j w => ⟨[], [(0, iv (x11)), (4, .ptr b4 0 4), (9, qA), (10, iv ((qF.length : Int))), (11, iv (x11_2))], .row b4 4 [iv (a14.away), iv (a14.climb), iv (j), iv (a14.high)] :: .row b7 4 [iv (a14.away), iv (a14.climb), iv (a14.wide), iv (a14.high)] :: ownL false v26 encI [(qE.length : Int)] :: ownL false v8 encI [(qD.length : Int)] :: .row b1 3 [qB, qC, qA] :: C⟩) h
          ·intro j h;refine zB (zU rfl ?_);obtain ⟨a13, hia13, ea13, h⟩ := el_some h;refine TO.fact (rdl_at qJ M5 hia13 ea13) (fun hp=>?_);obtain ⟨pa13, hpa13, hva13⟩ := hp;refine zV R3 (hva13 ⟨rfl, rfl⟩ rfl rfl) (zV R3 (Val.load_es (c := [_, _, _, _, _, _, _]) hpa13 M5 ⟨⟨_, rfl, rfl⟩, rfl, by decide⟩ rfl rfl rfl) (zJ 7 [_,_,_,_,_,_,_] R7 (fun b7_2=>TO.eff0 rfl rfl (Eff.store_row (p := 0) (cv := [_, _, _, _, _, _, _]) (cells' := [_, _, _, _, _, _, _]) rfl rfl rfl rfl rfl rfl rfl rfl aG (by decide) rfl) ?_)));rintro _ rfl;refine zG (_::_::_::_::_::_::C) rfl (zN (zS (zU rfl (zF 6 R6 (zL 0 R3 R6 (zM R4 ?_))))));obtain ⟨c18, hc18⟩ := zY (¬ a13.shelf = x11);refine zV R3 (Val.neq hc18 rfl rfl) (zN ?_);obtain ⟨rfl, hc18, h⟩ | ⟨rfl, hc18, h⟩ := zI hc18 h
           ·refine zC rfl (zE ?_);cases h;exact ⟨rfl, (), (sb (pk [1,1,1,1,1,98] rfl))⟩
           refine zD rfl (zK (zU rfl (zF 2 R6 (zL 1 R3 R6 (zF 3 R6 (zL 0 R3 R6 ?_))))));obtain ⟨hk23, h⟩ := chk_some h;refine zV R3 (Val.sub rfl rfl hk23) (zF 2 R6 (TO.eff0 rfl rfl (Eff.store_row (p := 1) (cv := [_]) (cells' := [_, _, _, _]) rfl rfl rfl rfl rfl rfl rfl rfl aG (by decide) rfl) ?_));rintro _ rfl;refine zG (_::_::_::_::_::_::C) rfl (zN ?_)
           show T _ _ _ _ _ _;apply T.joinA (r := j) (W := Unit) (fun j w => ⟨[], [(0, iv (x11)), (4, .ptr b4 0 4), (9, qA), (10, iv ((qF.length : Int))), (11, iv (x11_2)), (34, bv j)], .row b7_2 7 [iv (a13.qU), iv (a13.qV), sv a13.qW, iv (a13.wide), iv (a13.high), iv (a13.heavy), iv (a13.shelf)] :: .row b4 4 [iv (a14.away), iv (a14.climb), iv ((s_Wide - a13.wide)), iv (a14.high)] :: .row b7 4 [iv (a14.away), iv (a14.climb), iv (a14.wide), iv (a14.high)] :: ownL false v26 encI [(qE.length : Int)] :: ownL false v8 encI [(qD.length : Int)] :: .row b1 3 [qB, qC, qA] :: C⟩) h
           ·intro j h;refine zT rfl (zF 2 R6 (zL 1 R3 R6 ?_));obtain ⟨c27, hc27⟩ := zY ((s_Wide - a13.wide) < 0);refine zV R3 (Val.lss hc27 rfl rfl) (zM R4 ?_);obtain ⟨rfl, hc27, h⟩ | ⟨rfl, hc27, h⟩ := zI hc27 h
            ·refine zO R3 (zO R3 (zO R3 (zO R3 (zO R3 (zP R6 (zN ?_))))));cases h;exact ⟨rfl, (), (sb .refl)⟩
            refine zF 4 R6 (zL 0 R3 R6 (zF 3 R6 (zL 1 R3 R6 ?_)));obtain ⟨c33, hc33⟩ := zY (a13.high > a14.high);refine zV R3 (Val.gtr hc33 rfl rfl) (zP R6 (zN ?_));subst hc33;cases h;exact ⟨rfl, (), (sb .refl)⟩
           ·rintro x34 _ h;obtain ⟨rfl, h⟩ | ⟨rfl, h⟩ := zZ h
            ·refine zC rfl (zU rfl (zA R4 (zN (zR ?_))));cases h;exact ⟨ret_ne, ⟨ret_ne, ⟨ret_ne, ⟨rfl, _, rfl, ⟨(), rfl, (pk [2,2,2,2,98,98] rfl)⟩⟩⟩⟩⟩
            refine zD rfl (zK ?_);cases h;exact ⟨rfl, (), (sb (pk [1,1,1,1,1,98] rfl))⟩
          ·rintro s_Wide_2 _ h;refine zT rfl ?_;obtain ⟨hk35, h⟩ := chk_some h;refine zV R3 (Val.add rfl rfl hk35) (zM R4 (zN ?_));cases h;exact ⟨rfl, (), (sb .refl)⟩
         refine zD rfl (zE ?_);cases h;exact ⟨ex_ne, ⟨rfl, (), (sb .refl)⟩⟩
        ·rintro s_Wide _ h;refine zU rfl (zA R4 (zN (zR ?_)));cases h;exact ⟨rfl, _, rfl, ⟨(), rfl, (pk [1,1,1,1,98] rfl)⟩⟩
       ·rintro y19 _ h;refine zG (_::_::_::_::C) rfl (zA R4 (zN (zU rfl (zM R4 ?_))));obtain ⟨c21, hc21⟩ := zY (¬ y19 = 0);refine zV R3 (Val.neq hc21 rfl rfl) (zN ?_);obtain ⟨rfl, hc21, h⟩ | ⟨rfl, hc21, h⟩ := zI hc21 h
        ·refine zC rfl (zU rfl (zM R4 (zM R4 (zA R4 (zA R4 (zN (zR ?_)))))));cases h;exact ⟨ret_ne, ⟨ret_ne, ⟨rfl, _, rfl, ⟨(), rfl, (pk [1,1,1,98] rfl)⟩⟩⟩⟩
        refine zD rfl (zK (zT rfl ?_));obtain ⟨hk24, h⟩ := chk_some h;refine zV R3 (Val.add rfl rfl hk24) (zM R4 (zN ?_));cases h;exact ⟨rfl, (), (sb (pk [1,1,1,98] rfl))⟩
      refine zD rfl (zE ?_);cases h;exact ⟨ex_ne, ⟨rfl, (), (sb .refl)⟩⟩
     ·rintro _ _ h;refine zU rfl (zA R4 (zA R4 (zN (zR ?_))));cases h;exact ⟨rfl, _, rfl, ⟨(), rfl, .refl⟩⟩
    ·rintro ⟨y59, y59_2⟩ _ h;dsimp only at h;refine zG (_::_::_::C) rfl (zM R4 (zX R5 (zX R5 (zA R4 (zA R4 (zN (zS (zU rfl (zM R4 ?_)))))))));obtain ⟨c63, hc63⟩ := zY (¬ y59_2 = 0);refine zV R3 (Val.neq hc63 rfl rfl) (zN ?_);obtain ⟨rfl, hc63, h⟩ | ⟨rfl, hc63, h⟩ := zI hc63 h
     ·refine zC rfl (zU rfl (zM R4 (zM R4 (zA R4 (zA R4 (zA R4 (zN (zR ?_))))))));cases h;exact ⟨rfl, _, rfl, ⟨(), rfl, (pk [98,98,98] rfl)⟩⟩
     refine zD rfl (zK (zU rfl (zA R4 (zA R4 (zA R4 (zN (zR ?_)))))));cases h;exact ⟨rfl, _, rfl, ⟨(), rfl, (pk [98,98,98] rfl)⟩⟩
theorem w_s9_Check (qD : GS encStr) (qE : GS qN) (qF : GS qL) (r : Int × Int × Int) (h : P_s9_Check qD.l qE.l qF.l = some r) : Comes (EL 0) 16 [.agg [qD.v, qE.v, qF.v]] (.tuple [iv r.1, iv r.2.1, iv r.2.2]) :=
 TF.run (tf_s9_Check (Nat.le_refl _) (RdT.gs qD) (RdT.gs qE) (RdT.gs qF) h) fun w => (.tuple (.cons .lit (.cons .lit (.cons .lit .nil))))
set_option maxRecDepth 10000 in
theorem tf_s9_open {k : Nat} (hk : 1 ≤ k) {C : List Thing} {qB : AV} {qD : List Str} {qC : AV} {qE : List qH} {qA : AV} {qF : List qG} (qK : Rdl C encStr qB qD) (qI : Rdl C qN qC qE) (qJ : Rdl C qL qA qF) {r : Int} (h : P_s9_open qD qE qF = some r) :
  TF (EL k) 77 [.agg [qB, qC, qA]] C (RepF (fun (w : Unit) => .tuple [.agg [qB, qC, qA], iv r]) (fun (w : Unit) => C)) := by
 unfold P_s9_open at h;refine TF.enterG (fn := Go.Proofs.Tryz.f77) rfl rfl rfl rfl rfl (zU rfl (zQ 3 [_,_,_] R7 (fun b1=>zJ 3 [_,_,_] R7 (fun b2=>zA R4 (zN (zU rfl (zV R3 (vW 1 [_,_,_] R5 R4) ?_)))))));obtain ⟨⟨y9, y9_2, y9_3⟩, hr9, h⟩ := andx_some h;dsimp only at h;obtain ⟨g, hgg, hrg⟩ := Rdl.reif (hs := .row b2 3 [nilS, nilS, nilS] :: .row b1 3 [qB, qC, qA] :: C) qK M2 (ReifL.flat encStr_tr);obtain ⟨g_2, hgg_2, hrg_2⟩ := Rdl.reif (hs := .row b2 3 [nilS, nilS, nilS] :: .row b1 3 [qB, qC, qA] :: C) qI M2 (ReifL.flat qAc);obtain ⟨g_3, hgg_3, hrg_3⟩ := Rdl.reif (hs := .row b2 3 [nilS, nilS, nilS] :: .row b1 3 [qB, qC, qA] :: C) qJ M2 (ReifL.flat qAb);refine TO.call rfl rfl rfl rfl rfl (orcL rfl aD) (.cons (.agg (.cons (hrg _) (.cons (hrg_2 _) (.cons (hrg_3 _) .nil)))) .nil) (sem_of (w_s9_Check g g_2 g_3 _ (by try rw [hgg]; try rw [hgg_2]; try rw [hgg_3]; exact hr9))) (zM R4 (zX R5 (zX R5 (zX R5 (zA R4 (zA R4 (zA R4 (zN (zU rfl (zV R3 (vW 1 [_,_,_] R5 R4) (zV R3 (Val.buildC (cs := [_, _, _]) (vs := [(_, _)]) (ws := [(_, [_, _, _])]) rfl rfl (CellsL.cons rfl CellsL.nil) rfl) (zM R4 (TO.fact (rdl_cellS qK M2) (fun qAf=>TO.fact (rdl_cellS qI M2) (fun qAg=>TO.fact (rdl_cellS qJ M2) (fun qAe=>TO.eff0 rfl rfl (Eff.store_row (p := 0) (cv := [_, _, _]) (cells' := [_, _, _]) rfl rfl rfl rfl rfl rfl rfl rfl (by first | rfl | (simp [GS.one, qAf.2, qAg.2, qAe.2]; done) | (simp [GS.one, qAf.2, qAg.2, qAe.2]; (repeat' apply And.intro) <;> rfl)) (by decide) rfl) ?_))))))))))))))));rintro _ rfl;refine zG (_::_::C) rfl (zA R4 (zN (zR ?_)));cases h;exact ⟨rfl, _, rfl, [_, _], ⟨⟨_, rfl, LoadR.rows (p := 0) (c := [_, _, _]) rfl ⟨⟨_, rfl, rfl⟩, rfl, by decide⟩ rfl rfl rfl⟩, ⟨rfl, trivial⟩⟩, ⟨(), rfl, (pk [98,98] rfl)⟩⟩
set_option maxRecDepth 10000 in
theorem tf_law9_valid {k : Nat} (hk : 1 ≤ k) {C : List Thing} {qB : AV} {qD : List Str} {qC : AV} {qE : List qH} {qA : AV} {qF : List qG} (qK : Rdl C encStr qB qD) (qI : Rdl C qN qC qE) (qJ : Rdl C qL qA qF) {r : Bool} (h : P_law9_valid qD qE qF = some r) :
  TF (EL k) 43 [.agg [qB, qC, qA]] C (RepF (fun (w : Unit) => bv r) (fun (w : Unit) => C)) := by
 unfold P_law9_valid at h;refine TF.enter (fn := Go.Proofs.Tryz.f43) rfl rfl rfl rfl rfl (zU rfl (zQ 3 [_,_,_] R7 (fun b1=>zA R4 (zN (zU rfl (zV R3 (vW 0 [_,_,_] R5 R4) ?_))))));obtain ⟨⟨y8, y8_2, y8_3⟩, hr8, h⟩ := andx_some h;dsimp only at h;obtain ⟨g, hgg, hrg⟩ := Rdl.reif (hs := .row b1 3 [qB, qC, qA] :: C) qK M1 (ReifL.flat encStr_tr);obtain ⟨g_2, hgg_2, hrg_2⟩ := Rdl.reif (hs := .row b1 3 [qB, qC, qA] :: C) qI M1 (ReifL.flat qAc);obtain ⟨g_3, hgg_3, hrg_3⟩ := Rdl.reif (hs := .row b1 3 [qB, qC, qA] :: C) qJ M1 (ReifL.flat qAb);refine TO.call rfl rfl rfl rfl rfl (orcL rfl aD) (.cons (.agg (.cons (hrg _) (.cons (hrg_2 _) (.cons (hrg_3 _) .nil)))) .nil) (sem_of (w_r9_Check g g_2 g_3 _ (by try rw [hgg]; try rw [hgg_2]; try rw [hgg_3]; exact hr8))) (zM R4 (zX R5 (zX R5 (zX R5 (zA R4 (zA R4 (zA R4 (zN (zU rfl (zM R4 ?_))))))))));obtain ⟨c13, hc13⟩ := zY (y8_3 = 0);refine zV R3 (Val.eql hc13 rfl rfl) (zA R4 (zN (zR ?_)));subst hc13;cases h;exact ⟨rfl, _, rfl, ⟨(), rfl, (pk [98] rfl)⟩⟩
end Go.Am.YtiaolgbmbhldgaaGreatDoor
end
section
namespace Go.Am
set_option linter.unusedVariables false
noncomputable def P_cmpOr_L1 (vals : List Int) : Int → Option (Stp Int (Ex Unit Int)) := fun x8 =>
  if x8 < (vals.length : Int) then
    el vals x8 fun a10 =>
    if ¬ a10 = 0 then
      some (Stp.dn (Ex.rt a10))
    else
      chk (I64 (x8 + 1)) (
        some (Stp.ag (x8 + 1)))
  else
    some (Stp.dn (Ex.nx ()))
noncomputable def P_cmpOr (vals : List Int) : Option Int :=
  seqx (
    iter (P_cmpOr_L1 vals) 0) fun _ =>
    some 0
noncomputable def P_cmpInt (x : Int) (y : Int) : Option Int :=
 if ¬ x = x then
  if ¬ y = y then
   some 0
  else
   some (-1)
 else
  if ¬ y = y then
   some 1
  else
   if x < y then
    some (-1)
   else
    if x > y then
     some 1
    else
     some 0
noncomputable def P_s9_compare (a_Class : Int) (a_Number : Int) (a_Suffix : Str) (b_Class : Int) (b_Number : Int) (b_Suffix : Str) : Option Int :=
  if a_Class = b_Class ∧ a_Number = b_Number ∧ a_Suffix = b_Suffix then
    some 0
  else
    chk (I64 (a_Class - b_Class)) (
      chk (I64 (a_Number - b_Number)) (
        chk (I64 ((a_Suffix.length : Int) - (b_Suffix.length : Int))) (
          andx (P_cmpOr [(a_Class - b_Class), (a_Number - b_Number), ((a_Suffix.length : Int) - (b_Suffix.length : Int)), (cmpS a_Suffix b_Suffix)]) fun y31 =>
            some y31)))
noncomputable def P_s9_Before_L1 (qD : List Str) (qE : List qH) (qF : List qG) (a_Class : Int) (a_Number : Int) (a_Suffix : Str) (b_Class : Int) (b_Number : Int) (b_Suffix : Str) : (Int × Int) → Option (Stp (Int × Int) Int) := fun (e, x21) =>
  if x21 < ([(⟨a_Class, a_Number, a_Suffix⟩ : qM), (⟨b_Class, b_Number, b_Suffix⟩ : qM)].length : Int) then
    andx (
      el [(⟨a_Class, a_Number, a_Suffix⟩ : qM), (⟨b_Class, b_Number, b_Suffix⟩ : qM)] x21 fun a23 =>
      if e = 0 then
        andx (P_s9_mark qD qE qF a23.classv a23.number a23.suffix) fun y29 =>
          some y29
      else
        some e) fun e_2 =>
      chk (I64 (x21 + 1)) (
        some (Stp.ag (e_2, (x21 + 1))))
  else
    some (Stp.dn e)
noncomputable def P_s9_Before (qD : List Str) (qE : List qH) (qF : List qG) (a_Class : Int) (a_Number : Int) (a_Suffix : Str) (b_Class : Int) (b_Number : Int) (b_Suffix : Str) : Option (Int × Int) :=
  andx (P_s9_open qD qE qF) fun y14 =>
    andx (
      iter (P_s9_Before_L1 qD qE qF a_Class a_Number a_Suffix b_Class b_Number b_Suffix) (y14, 0)) fun e =>
      if ¬ e = 0 then
        some (0, e)
      else
        andx (P_s9_compare a_Class a_Number a_Suffix b_Class b_Number b_Suffix) fun y36 =>
          andx (P_cmpInt y36 0) fun y37 =>
            some (y37, 0)
end Go.Am
end
section
namespace Go.Am.YtiaolgbmbhldgaaGreatDoor
open Go.Am Go.RowKit
set_option linter.unusedVariables false
set_option linter.unusedSimpArgs false
set_option maxRecDepth 10000 in
theorem tf_cmpOr {k : Nat} (hk : 0 ≤ k) {C : List Thing} {v_vals : AV} {vals : List Int} (h_vals : Rdl C encI v_vals vals) {r : Int} (h : P_cmpOr vals = some r) :
  TF (EL k) 129 [v_vals] C (RepF (fun (w : Unit) => iv r) (fun (w : Unit) => C)) := by
 unfold P_cmpOr at h;refine TF.enter (fn := Go.Proofs.Tryz.f129) rfl rfl rfl rfl rfl (zU rfl (zA R4 (zN (zU rfl (zA R4 (zN ?_))))))
 show T _ _ _ _ _ _;apply T.join (r := r) (W := Unit) (fun j w => ⟨[], [(3, iv (0))], C⟩) h
 ·intro j h;refine zU rfl (zM R4 (zV R3 (Val.len_l h_vals mem0 rfl rfl) (zM R4 (zN (zB ?_)))))
  show T _ _ _ _ _ _;apply T.iter (r := j) (W := Unit) (fun j w => ⟨[], [(3, iv (0)), (6, v_vals), (7, iv ((vals.length : Int))), (8, iv (j))], C⟩) (w0 := ()) h
  ·exact (sb .refl)
  rintro x8 _ a h;unfold P_cmpOr_L1 at h;refine zU rfl ?_;obtain ⟨c9, hc9⟩ := zY (x8 < (vals.length : Int));refine zV R3 (Val.lss hc9 rfl rfl) (zN (zS ?_));obtain ⟨rfl, hc9, h⟩ | ⟨rfl, hc9, h⟩ := zI hc9 h
  ·refine zC rfl (zK (zS (zB (zU rfl ?_))));obtain ⟨a10, hia10, ea10, h⟩ := el_some h;refine TO.fact (rdl_at h_vals mem0 hia10 ea10) (fun hp=>?_);obtain ⟨pa10, hpa10, hva10⟩ := hp;refine zV R3 (hva10 ⟨rfl, rfl⟩ rfl rfl) (zV R3 (Val.load_e hpa10 mem0 ⟨_, rfl, rfl⟩ rfl rfl) (zA R4 (zN (zU rfl (zM R4 (zM R4 ?_))))));obtain ⟨c14, hc14⟩ := zY (¬ a10 = 0);refine zV R3 (Val.neq hc14 rfl rfl) (zN ?_);obtain ⟨rfl, hc14, h⟩ | ⟨rfl, hc14, h⟩ := zI hc14 h
   ·refine zC rfl (zU rfl (zM R4 (zA R4 (zN (zR ?_)))));cases h;exact ⟨ret_ne, ⟨ret_ne, ⟨rfl, _, rfl, ⟨(), rfl, .refl⟩⟩⟩⟩
   refine zD rfl (zK (zT rfl ?_));obtain ⟨hk16, h⟩ := chk_some h;refine zV R3 (Val.add rfl rfl hk16) (zM R4 (zN ?_));cases h;exact ⟨rfl, (), (sb .refl)⟩
  refine zD rfl (zE ?_);cases h;exact ⟨ex_ne, ⟨rfl, (), (sb .refl)⟩⟩
 ·rintro _ _ h;refine zU rfl (zM R4 (zA R4 (zN (zR ?_))));cases h;exact ⟨rfl, _, rfl, ⟨(), rfl, .refl⟩⟩
set_option maxRecDepth 10000 in
theorem tf_cmpInt {k : Nat} (hk : 0 ≤ k) {C : List Thing} {x : Int} {y : Int} {r : Int} (h : P_cmpInt x y = some r) :
  TF (EL k) 89 [iv (x), iv (y)] C (RepF (fun (w : Unit) => iv r) (fun (w : Unit) => C)) := by
 unfold P_cmpInt at h;refine TF.enter (fn := Go.Proofs.Tryz.f89) rfl rfl rfl rfl rfl (zU rfl (zA R4 (zN (zU rfl (zM R4 (TO.callIn rfl rfl rfl rfl rfl rfl (orcN rfl) (TF.enter (fn := Go.Proofs.Tryz.f128) rfl rfl rfl rfl rfl (zU rfl (zA R4 (zN (zU rfl (zM R4 (zM R4 ?_)))))))))))));obtain ⟨c5, hc5⟩ := zY (¬ x = x);refine zV R3 (Val.neq hc5 rfl rfl) (zA R4 (zN (zR ?_)));refine ⟨rfl, _, rfl, ?_⟩;refine zA R4 (zN (zU rfl (zM R4 (TO.callIn rfl rfl rfl rfl rfl rfl (orcN rfl) (TF.enter (fn := Go.Proofs.Tryz.f128) rfl rfl rfl rfl rfl (zU rfl (zA R4 (zN (zU rfl (zM R4 (zM R4 ?_)))))))))));obtain ⟨c5_2, hc5_2⟩ := zY (¬ y = y);refine zV R3 (Val.neq hc5_2 rfl rfl) (zA R4 (zN (zR ?_)));refine ⟨rfl, _, rfl, ?_⟩;refine zA R4 (zN (zS (zU rfl (zM R4 (zN ?_)))));obtain ⟨rfl, hc5, h⟩ | ⟨rfl, hc5, h⟩ := zI hc5 h
 ·refine zC rfl (zS (zU rfl (zM R4 (zN ?_))));obtain ⟨rfl, hc5_2, h⟩ | ⟨rfl, hc5_2, h⟩ := zI hc5_2 h
  ·refine zC rfl (zU rfl (zA R4 (zN (zR ?_))));cases h;exact ⟨rfl, _, rfl, ⟨(), rfl, .refl⟩⟩
  refine zD rfl (zK (zU rfl (zA R4 (zN (zR ?_)))));cases h;exact ⟨rfl, _, rfl, ⟨(), rfl, .refl⟩⟩
 refine zD rfl (zK (zS (zU rfl (zM R4 (zN ?_)))));obtain ⟨rfl, hc5_2, h⟩ | ⟨rfl, hc5_2, h⟩ := zI hc5_2 h
 ·refine zC rfl (zU rfl (zA R4 (zN (zR ?_))));cases h;exact ⟨rfl, _, rfl, ⟨(), rfl, .refl⟩⟩
 refine zD rfl (zK (zS (zU rfl (zM R4 (zM R4 ?_)))));obtain ⟨c16, hc16⟩ := zY (x < y);refine zV R3 (Val.lss hc16 rfl rfl) (zN ?_);obtain ⟨rfl, hc16, h⟩ | ⟨rfl, hc16, h⟩ := zI hc16 h
 ·refine zC rfl (zU rfl (zA R4 (zN (zR ?_))));cases h;exact ⟨rfl, _, rfl, ⟨(), rfl, .refl⟩⟩
 refine zD rfl (zK (zS (zU rfl (zM R4 (zM R4 ?_)))));obtain ⟨c19, hc19⟩ := zY (x > y);refine zV R3 (Val.gtr hc19 rfl rfl) (zN ?_);obtain ⟨rfl, hc19, h⟩ | ⟨rfl, hc19, h⟩ := zI hc19 h
 ·refine zC rfl (zU rfl (zA R4 (zN (zR ?_))));cases h;exact ⟨rfl, _, rfl, ⟨(), rfl, .refl⟩⟩
 refine zD rfl (zK (zU rfl (zA R4 (zN (zR ?_)))));cases h;exact ⟨rfl, _, rfl, ⟨(), rfl, .refl⟩⟩
set_option maxRecDepth 10000 in
theorem tf_s9_compare {k : Nat} (hk : 0 ≤ k) {C : List Thing} {a_Class : Int} {a_Number : Int} {a_Suffix : Str} {b_Class : Int} {b_Number : Int} {b_Suffix : Str} {r : Int} (h : P_s9_compare a_Class a_Number a_Suffix b_Class b_Number b_Suffix = some r) :
  TF (EL k) 90 [.agg [iv (a_Class), iv (a_Number), sv a_Suffix], .agg [iv (b_Class), iv (b_Number), sv b_Suffix]] C (RepF (fun (w : Unit) => iv r) (fun (w : Unit) => C)) := by
 unfold P_s9_compare at h;refine TF.enter (fn := Go.Proofs.Tryz.f90) rfl rfl rfl rfl rfl (zU rfl (zQ 3 [_,_,_] R7 (fun b2=>zQ 3 [_,_,_] R7 (fun b3=>zA R4 (zN (zS (zU rfl (zV R3 (vW 1 [_,_,_] R5 R4) (zV R3 (vW 0 [_,_,_] R5 R4) ?_)))))))));obtain ⟨c7, hc7⟩ := zY (a_Class = b_Class ∧ a_Number = b_Number ∧ a_Suffix = b_Suffix);refine zV R3 (Val.binD hc7 rfl rfl (eql_ty28 _ _ _ _ _ _ _ _)) (zN ?_);obtain ⟨rfl, hc7, h⟩ | ⟨rfl, hc7, h⟩ := zI hc7 h
 ·refine zC rfl (zU rfl (zA R4 (zN (zR ?_))));cases h;exact ⟨rfl, _, rfl, ⟨(), rfl, (pk [98,98] rfl)⟩⟩
 refine zD rfl (zK (zS (T.drawE (l1 := [0, 1, 2, 3, 4, 5, 6, 7, 8, 9, 10, 11, 12, 13, 14, 15, 16, 17, 18, 19, 20]) (l2 := [21, 22, 23, 24]) (by kernel_rfl) (by kernel_rfl) (yL R4 (Val.faddr_ptr (fo := 0) rfl rfl rfl) (yR R4 (vR (p := 1) R6) (yL R4 (Val.faddr_ptr (fo := 0) rfl rfl rfl) (yR R4 (vR (p := 0) R6) ?_)))))));obtain ⟨hk12, h⟩ := chk_some h;refine yL R4 (Val.sub rfl rfl hk12) (yL R4 (Val.faddr_ptr (fo := 1) rfl rfl rfl) (yR R4 (vR (p := 1) R6) (yL R4 (Val.faddr_ptr (fo := 1) rfl rfl rfl) (yR R4 (vR (p := 0) R6) ?_))));obtain ⟨hk17, h⟩ := chk_some h;refine yL R4 (Val.sub rfl rfl hk17) (yL R4 (Val.faddr_ptr (fo := 2) rfl rfl rfl) (yR R4 (vR (p := 1) R6) (yR R4 (Val.len_str rfl rfl) (yL R4 (Val.faddr_ptr (fo := 2) rfl rfl rfl) (yR R4 (vR (p := 0) R6) (yR R4 (Val.len_str rfl rfl) ?_))))));obtain ⟨hk24, h⟩ := chk_some h;refine yL R4 (Val.sub rfl rfl hk24) (yL R4 (Val.faddr_ptr (fo := 2) rfl rfl rfl) (yR R4 (vR (p := 1) R6) (yL R4 (Val.faddr_ptr (fo := 2) rfl rfl rfl) (yR R4 (vR (p := 0) R6) (TD1.over (fun v => sameC_refl v) (all_cons (⟨_, rfl, (vR (p := 0) R6)⟩) (all_cons (⟨_, rfl, (vR (p := 1) R6)⟩) (all_cons (⟨_, rfl, (Val.len_str rfl rfl)⟩) (all_cons (⟨_, rfl, (vR (p := 0) R6)⟩) (all_cons (⟨_, rfl, (Val.len_str rfl rfl)⟩) (all_cons (⟨_, rfl, (vR (p := 1) R6)⟩) (all_cons (⟨_, rfl, (vR (p := 0) R6)⟩) (all_cons (⟨_, rfl, (vR (p := 1) R6)⟩) (all_cons (⟨_, rfl, (vR (p := 0) R6)⟩) (all_cons (⟨_, rfl, (vR (p := 1) R6)⟩) all_nil)))))))))) (TD2.heavy (fun v => sameC_refl v) rfl (by decide) rfl rfl (OpS.call (v := iv (cmpS a_Suffix b_Suffix)) rfl rfl rfl orcC (.cons .lit (.cons .lit .nil)) rfl) ?_))))));rintro _ _ ⟨rfl, rfl⟩;refine ⟨(all_cons (.inl (by kernel_rfl)) (all_cons (.inl (by kernel_rfl)) (all_cons (.inr ⟨_, rfl, (Val.len_str rfl rfl)⟩) (all_cons (.inr ⟨_, rfl, (vR (p := 0) R6)⟩) (all_cons (.inr ⟨_, rfl, (Val.len_str rfl rfl)⟩) (all_cons (.inr ⟨_, rfl, (vR (p := 1) R6)⟩) (all_cons (.inr ⟨_, rfl, (vR (p := 0) R6)⟩) (all_cons (.inr ⟨_, rfl, (vR (p := 1) R6)⟩) (all_cons (.inr ⟨_, rfl, (vR (p := 0) R6)⟩) (all_cons (.inr ⟨_, rfl, (vR (p := 1) R6)⟩) all_nil)))))))))), all_nil, ?_⟩;refine TD2.heavy (fun v => sameC_refl v) rfl (by decide) rfl rfl (OpS.eff (Eff.new (New.buildSlice (en := encI) (l := [(a_Class - b_Class), (a_Number - b_Number), ((a_Suffix.length : Int) - (b_Suffix.length : Int)), (cmpS a_Suffix b_Suffix)]) (vs := [(_, _), (_, _), (_, _), (_, _)]) (ws := [(_, [_]), (_, [_]), (_, [_]), (_, [_])]) ⟨rfl, rfl⟩ rfl rfl rfl rfl (CellsL.cons rfl (CellsL.cons rfl (CellsL.cons rfl (CellsL.cons rfl CellsL.nil)))) rfl rfl))) ?_;rintro _ _ ⟨v30, rfl, rfl⟩;refine ⟨(all_cons (.inl (by kernel_rfl)) (all_cons (.inl (by kernel_rfl)) (all_cons (.inl (by kernel_rfl)) (all_cons (.inl (by kernel_rfl)) (all_cons (.inl (by kernel_rfl)) (all_cons (.inl (by kernel_rfl)) (all_cons (.inl (by kernel_rfl)) (all_cons (.inl (by kernel_rfl)) (all_cons (.inl (by kernel_rfl)) (all_cons (.inl (by kernel_rfl)) all_nil)))))))))), all_nil, ?_⟩;refine TD2.less (Less.rowOwn (en := encI) (l := [(a_Class - b_Class), (a_Number - b_Number), ((a_Suffix.length : Int) - (b_Suffix.length : Int)), (cmpS a_Suffix b_Suffix)]) (p := 0) rfl) (yG (_::_::_::C) rfl ?_)
 obtain ⟨y31, hr31, h⟩ := andx_some h;refine TD2.heavy (fun v => sameC_refl v) rfl (by decide) rfl rfl (OpS.callV rfl rfl rfl rfl (orcN rfl) (RepF.conv (tf_cmpOr aD (Rdl.mono (Rdl.own (C := ownL false (.slice v30 0 (List.flatMap encI.f [(a_Class - b_Class), (a_Number - b_Number), ((a_Suffix.length : Int) - (b_Suffix.length : Int)), (cmpS a_Suffix b_Suffix)]).length true (List.length [(a_Class - b_Class), (a_Number - b_Number), ((a_Suffix.length : Int) - (b_Suffix.length : Int)), (cmpS a_Suffix b_Suffix)]) (List.length [(a_Class - b_Class), (a_Number - b_Number), ((a_Suffix.length : Int) - (b_Suffix.length : Int)), (cmpS a_Suffix b_Suffix)])) encI [(a_Class - b_Class), (a_Number - b_Number), ((a_Suffix.length : Int) - (b_Suffix.length : Int)), (cmpS a_Suffix b_Suffix)] :: .row b3 3 [iv (b_Class), iv (b_Number), sv b_Suffix] :: .row b2 3 [iv (a_Class), iv (a_Number), sv a_Suffix] :: C) (p := 0) rfl) mem0) hr31))) ?_;rintro _ hs_ ⟨_, rfl, he_⟩;subst hs_;refine ⟨(all_cons (.inl (by kernel_rfl)) (all_cons (.inl (by kernel_rfl)) (all_cons (.inl (by kernel_rfl)) (all_cons (.inl (by kernel_rfl)) (all_cons (.inl (by kernel_rfl)) (all_cons (.inl (by kernel_rfl)) (all_cons (.inl (by kernel_rfl)) (all_cons (.inl (by kernel_rfl)) (all_cons (.inl (by kernel_rfl)) (all_cons (.inl (by kernel_rfl)) all_nil)))))))))), all_nil, ?_⟩;refine yG (_::_::_::C) rfl (yM R4 (Val.assign rfl) (TD2.nil (zR ?_)));cases h;exact ⟨rfl, _, rfl, ⟨(), rfl, (pk [98,98,98] rfl)⟩⟩
set_option maxRecDepth 10000 in
theorem tf_s9_Before {k : Nat} (hk : 1 ≤ k) {C : List Thing} {qB : AV} {qD : List Str} {qC : AV} {qE : List qH} {qA : AV} {qF : List qG} {a_Class : Int} {a_Number : Int} {a_Suffix : Str} {b_Class : Int} {b_Number : Int} {b_Suffix : Str} (qZ : RdT encStr qB qD) (qAa : RdT qN qC qE) (qY : RdT qL qA qF) {r : Int × Int} (h : P_s9_Before qD qE qF a_Class a_Number a_Suffix b_Class b_Number b_Suffix = some r) :
  TF (EL k) 22 [.agg [qB, qC, qA], .agg [iv (a_Class), iv (a_Number), sv a_Suffix], .agg [iv (b_Class), iv (b_Number), sv b_Suffix]] C (RepF (fun (w : Unit) => .tuple [iv r.1, iv r.2]) (fun (w : Unit) => C)) := by
 unfold P_s9_Before at h
 have qK : Rdl C encStr qB qD := RdT.rdl qZ
 have qI : Rdl C qN qC qE := RdT.rdl qAa
 have qJ : Rdl C qL qA qF := RdT.rdl qY;refine TF.enter (fn := Go.Proofs.Tryz.f22) rfl rfl rfl rfl rfl (zU rfl (zQ 3 [_,_,_] R7 (fun b3=>zQ 3 [_,_,_] R7 (fun b4=>zQ 3 [_,_,_] R7 (fun b5=>zA R4 (zA R4 (zN (zU rfl (zV R3 (vW 2 [_,_,_] R5 R4) ?_)))))))));obtain ⟨y14, hr14, h⟩ := andx_some h;refine TO.callT (first := []) (cap := []) (vs := [.agg [qB, qC, qA]]) rfl rfl rfl rfl rfl rfl (orcN rfl) (tf_s9_open aD (Rdl.mono qK M3) (Rdl.mono qI M3) (Rdl.mono qJ M3) hr14) ?_;rintro _;refine zG (_::_::_::C) rfl (zM R4 (zX R5 (zX R5 (zJ 3 [_,_,_] R7 (fun b8=>TO.fact (rdl_cellS qK M4) (fun qAf=>TO.fact (rdl_cellS qI M4) (fun qAg=>TO.fact (rdl_cellS qJ M4) (fun qAe=>TO.eff0 rfl rfl (Eff.store_row (p := 0) (cv := [_, _, _]) (cells' := [_, _, _]) rfl rfl rfl rfl rfl rfl rfl rfl (by first | rfl | (simp [GS.one, qAf.2, qAg.2, qAe.2]; done) | (simp [GS.one, qAf.2, qAg.2, qAe.2]; (repeat' apply And.intro) <;> rfl)) (by decide) rfl) ?_))))))));rintro _ rfl;refine zG (_::_::_::_::C) rfl (zA R4 (zN ?_))
 show T _ _ _ _ _ _;apply T.joinA (r := r) (W := Unit) (fun j w => ⟨[], [(4, .ptr b4 0 3), (5, .ptr b5 0 3), (9, iv (j))], .row b8 3 [qB, qC, qA] :: .row b5 3 [iv (b_Class), iv (b_Number), sv b_Suffix] :: .row b4 3 [iv (a_Class), iv (a_Number), sv a_Suffix] :: C⟩) h
 ·intro j h;refine zU rfl (zV R3 (vW 2 [_,_,_] R5 R4) (zV R3 (vW 1 [_,_,_] R5 R4) (TO.eff rfl rfl rfl (Eff.new (New.buildSlice (en := qAd) (l := [(⟨a_Class, a_Number, a_Suffix⟩ : qM), (⟨b_Class, b_Number, b_Suffix⟩ : qM)]) (vs := [(_, _), (_, _)]) (ws := [(_, [_, _, _]), (_, [_, _, _])]) ⟨rfl, rfl⟩ rfl rfl rfl rfl (CellsL.cons rfl (CellsL.cons rfl CellsL.nil)) rfl rfl)) ?_)));rintro _ _ ⟨v19, rfl, rfl⟩;refine TO.less (Less.rowOwn (en := qAd) (l := [(⟨a_Class, a_Number, a_Suffix⟩ : qM), (⟨b_Class, b_Number, b_Suffix⟩ : qM)]) (p := 0) rfl) (zG (_::_::_::_::_::C) rfl (zV R3 (Val.len_own (p := 0) rfl rfl rfl) (zM R4 (zN (zB ?_)))))
  show T _ _ _ _ _ _;apply T.iter (r := j) (W := Unit) (fun j w => ⟨[], [(4, .ptr b4 0 3), (5, .ptr b5 0 3), (8, .ptr b8 0 3), (9, iv (j.1)), (19, (.slice v19 0 (List.flatMap qAd.f [(⟨a_Class, a_Number, a_Suffix⟩ : qM), (⟨b_Class, b_Number, b_Suffix⟩ : qM)]).length true (List.length [(⟨a_Class, a_Number, a_Suffix⟩ : qM), (⟨b_Class, b_Number, b_Suffix⟩ : qM)]) (List.length [(⟨a_Class, a_Number, a_Suffix⟩ : qM), (⟨b_Class, b_Number, b_Suffix⟩ : qM)]))), (20, iv (([(⟨a_Class, a_Number, a_Suffix⟩ : qM), (⟨b_Class, b_Number, b_Suffix⟩ : qM)].length : Int))), (21, iv (j.2))], ownL false (.slice v19 0 (List.flatMap qAd.f [(⟨a_Class, a_Number, a_Suffix⟩ : qM), (⟨b_Class, b_Number, b_Suffix⟩ : qM)]).length true (List.length [(⟨a_Class, a_Number, a_Suffix⟩ : qM), (⟨b_Class, b_Number, b_Suffix⟩ : qM)]) (List.length [(⟨a_Class, a_Number, a_Suffix⟩ : qM), (⟨b_Class, b_Number, b_Suffix⟩ : qM)])) qAd [(⟨a_Class, a_Number, a_Suffix⟩ : qM), (⟨b_Class, b_Number, b_Suffix⟩ : qM)] :: .row b8 3 [qB, qC, qA] :: .row b5 3 [iv (b_Class), iv (b_Number), sv b_Suffix] :: .row b4 3 [iv (a_Class), iv (a_Number), sv a_Suffix] :: C⟩) (w0 := ()) h
  ·exact (sb (pk [0,0,0,0,98] rfl))
  rintro ⟨e, x21⟩ _ a h;unfold P_s9_Before_L1 at h;dsimp only at h;dsimp only;refine zU rfl ?_;obtain ⟨c22, hc22⟩ := zY (x21 < ([(⟨a_Class, a_Number, a_Suffix⟩ : qM), (⟨b_Class, b_Number, b_Suffix⟩ : qM)].length : Int));refine zV R3 (Val.lss hc22 rfl rfl) (zN (zS ?_));obtain ⟨rfl, hc22, h⟩ | ⟨rfl, hc22, h⟩ := zI hc22 h
  ·refine zC rfl (zK ?_)
   show T _ _ _ _ _ _;apply T.joinA (r := a) (W := Unit) (fun j w => ⟨[], [(4, .ptr b4 0 3), (5, .ptr b5 0 3), (8, .ptr b8 0 3), (9, iv (j)), (19, (.slice v19 0 (List.flatMap qAd.f [(⟨a_Class, a_Number, a_Suffix⟩ : qM), (⟨b_Class, b_Number, b_Suffix⟩ : qM)]).length true (List.length [(⟨a_Class, a_Number, a_Suffix⟩ : qM), (⟨b_Class, b_Number, b_Suffix⟩ : qM)]) (List.length [(⟨a_Class, a_Number, a_Suffix⟩ : qM), (⟨b_Class, b_Number, b_Suffix⟩ : qM)]))), (20, iv (([(⟨a_Class, a_Number, a_Suffix⟩ : qM), (⟨b_Class, b_Number, b_Suffix⟩ : qM)].length : Int))), (21, iv (x21))], ownL false (.slice v19 0 (List.flatMap qAd.f [(⟨a_Class, a_Number, a_Suffix⟩ : qM), (⟨b_Class, b_Number, b_Suffix⟩ : qM)]).length true (List.length [(⟨a_Class, a_Number, a_Suffix⟩ : qM), (⟨b_Class, b_Number, b_Suffix⟩ : qM)]) (List.length [(⟨a_Class, a_Number, a_Suffix⟩ : qM), (⟨b_Class, b_Number, b_Suffix⟩ : qM)])) qAd [(⟨a_Class, a_Number, a_Suffix⟩ : qM), (⟨b_Class, b_Number, b_Suffix⟩ : qM)] :: .row b8 3 [qB, qC, qA] :: .row b5 3 [iv (b_Class), iv (b_Number), sv b_Suffix] :: .row b4 3 [iv (a_Class), iv (a_Number), sv a_Suffix] :: C⟩) h
   ·intro j h;refine zB (zU rfl ?_);obtain ⟨a23, hia23, ea23, h⟩ := el_some h;refine TO.fact (own_at (en := qAd) (p := 0) rfl hia23) (fun hp=>?_);obtain ⟨ida23, ata23⟩ := hp;refine zV R3 (Val.iaddr_at (en := qAd) ata23 ⟨rfl, rfl⟩ rfl rfl hia23) (zV R3 (Val.load_ownP (en := qAd) (p := 0) (j := 0) (c := [_, _, _]) rfl ata23 ⟨⟨_, rfl, rfl⟩, rfl, by decide⟩ rfl ea23 rfl rfl) (zJ 3 [_,_,_] R7 (fun b11=>TO.eff0 rfl rfl (Eff.store_row (p := 0) (cv := [_, _, _]) (cells' := [_, _, _]) rfl rfl rfl rfl rfl rfl rfl rfl aG (by decide) rfl) ?_)));rintro _ rfl;refine zG (_::_::_::_::_::C) rfl (zN (zU rfl (zM R4 ?_)));obtain ⟨c26, hc26⟩ := zY (e = 0);refine zV R3 (Val.eql hc26 rfl rfl) (zN ?_);obtain ⟨rfl, hc26, h⟩ | ⟨rfl, hc26, h⟩ := zI hc26 h
    ·refine zC rfl (zT rfl (zV R3 (vW 2 [_,_,_] R5 R4) (zV R3 (vW 0 [_,_,_] R5 R4) ?_)));obtain ⟨y29, hr29, h⟩ := andx_some h;refine TO.callT (first := []) (cap := []) (vs := [.agg [qB, qC, qA], .agg [iv (a23.classv), iv (a23.number), sv a23.suffix]]) rfl rfl rfl rfl rfl rfl (orcN rfl) (tf_s9_mark aD (Rdl.mono qK M5) (Rdl.mono qI M5) (Rdl.mono qJ M5) hr29) ?_;rintro _;refine zG (_::_::_::_::_::C) rfl (zA R4 (zN ?_));cases h;exact ⟨rfl, (), (sb (pk [1,1,1,1,98] rfl))⟩
    refine zD rfl (zK ?_);cases h;exact ⟨rfl, (), (sb (pk [1,1,1,1,98] rfl))⟩
   ·rintro e_2 _ h;refine zT rfl ?_;obtain ⟨hk30, h⟩ := chk_some h;refine zV R3 (Val.add rfl rfl hk30) (zM R4 (zN ?_));cases h;exact ⟨rfl, (), (sb .refl)⟩
  refine zD rfl (zE ?_);cases h;exact ⟨ex_ne, ⟨rfl, (), (sb (pk [1,1,1,98] rfl))⟩⟩
 ·rintro e _ h;refine zS (zU rfl (zM R4 ?_));obtain ⟨c32, hc32⟩ := zY (¬ e = 0);refine zV R3 (Val.neq hc32 rfl rfl) (zN ?_);obtain ⟨rfl, hc32, h⟩ | ⟨rfl, hc32, h⟩ := zI hc32 h
  ·refine zC rfl (zU rfl (zM R4 (zA R4 (zA R4 (zN (zR ?_))))));cases h;exact ⟨rfl, _, rfl, ⟨(), rfl, (pk [98,98,98] rfl)⟩⟩
  refine zD rfl (zK (zU rfl (zV R3 (vW 2 [_,_,_] R5 R4) (zV R3 (vW 1 [_,_,_] R5 R4) ?_))));obtain ⟨y36, hr36, h⟩ := andx_some h;refine TO.callT (first := []) (cap := []) (vs := [.agg [iv (a_Class), iv (a_Number), sv a_Suffix], .agg [iv (b_Class), iv (b_Number), sv b_Suffix]]) rfl rfl rfl rfl rfl rfl (orcN rfl) (tf_s9_compare aD hr36) ?_;rintro _;refine zG (_::_::_::C) rfl ?_;obtain ⟨y37, hr37, h⟩ := andx_some h;refine TO.callT (first := []) (cap := []) (vs := [iv (y36), iv (0)]) rfl rfl rfl rfl rfl rfl (orcN rfl) (tf_cmpInt aD hr37) ?_;rintro _;refine zG (_::_::_::C) rfl (zA R4 (zA R4 (zN (zR ?_))));cases h;exact ⟨rfl, _, rfl, ⟨(), rfl, (pk [98,98,98] rfl)⟩⟩
theorem w_s9_Before (qD : GS encStr) (qE : GS qN) (qF : GS qL) (a_Class : Int) (a_Number : Int) (a_Suffix : Str) (b_Class : Int) (b_Number : Int) (b_Suffix : Str) (r : Int × Int) (h : P_s9_Before qD.l qE.l qF.l a_Class a_Number a_Suffix b_Class b_Number b_Suffix = some r) : Comes (EL 1) 22 [.agg [qD.v, qE.v, qF.v], .agg [iv (a_Class), iv (a_Number), sv a_Suffix], .agg [iv (b_Class), iv (b_Number), sv b_Suffix]] (.tuple [iv r.1, iv r.2]) :=
 TF.run (tf_s9_Before (Nat.le_refl _) (RdT.gs qD) (RdT.gs qE) (RdT.gs qF) h) fun w => (.tuple (.cons .lit (.cons .lit .nil)))
end Go.Am.YtiaolgbmbhldgaaGreatDoor
end
section
namespace Go.Am
set_option linter.unusedVariables false
noncomputable def P_w1_Before_L1 (a_ : List Int) (b : List Int) : Int → Option (Stp Int (Ex Unit Bool)) := fun i =>
  seqx (
    andx (
      if i < (a_.length : Int) then
        some (decide (i < (b.length : Int)))
      else
        some false) fun x15 =>
      if x15 = true then
        some (Ex.nx ())
      else
        some (Ex.rt (Stp.dn (Ex.nx ())))) fun _ =>
    el a_ i fun a20 =>
    el b i fun a24 =>
    if ¬ a20 = a24 then
      el a_ i fun a29 =>
      el b i fun a33 =>
      some (Stp.dn (Ex.rt (decide (a29 < a33))))
    else
      chk (I64 (i + 1)) (
        some (Stp.ag (i + 1)))
noncomputable def P_w1_Before (a_ : List Int) (b : List Int) : Option Bool :=
  seqx (
    iter (P_w1_Before_L1 a_ b) 0) fun _ =>
    some (decide ((a_.length : Int) < (b.length : Int)))
noncomputable def P_r9_key_L1 (m_Suffix : Str) : (Int × (List Int)) → Option (Stp (Int × (List Int)) (List Int)) := fun (i, out) =>
  if i < (m_Suffix.length : Int) then
    chk (0 ≤ i ∧ i < (m_Suffix.length : Int)) (
      chk (-9223372036854775808 ≤ (byteAt m_Suffix i) ∧ (byteAt m_Suffix i) < 9223372036854775808) (
        chk (out.length + [(byteAt m_Suffix i)].length < 1000000000) (
          chk (I64 (i + 1)) (
            some (Stp.ag ((i + 1), out ++ [(byteAt m_Suffix i)]))))))
  else
    some (Stp.dn out)
noncomputable def P_r9_key (m_Class : Int) (m_Number : Int) (m_Suffix : Str) : Option (List Int) :=
  andx (
    iter (P_r9_key_L1 m_Suffix) (0, [m_Class, m_Number, (m_Suffix.length : Int)])) fun out =>
    some out
noncomputable def P_r9_First (a_Class : Int) (a_Number : Int) (a_Suffix : Str) (b_Class : Int) (b_Number : Int) (b_Suffix : Str) : Option Bool :=
 andx (P_r9_key a_Class a_Number a_Suffix) fun y6 =>
  andx (P_r9_key b_Class b_Number b_Suffix) fun y8 =>
   andx (P_w1_Before y6 y8) fun y9 =>
    some y9
noncomputable def P_r9_Before (qD : List Str) (qE : List qH) (qF : List qG) (a_Class : Int) (a_Number : Int) (a_Suffix : Str) (b_Class : Int) (b_Number : Int) (b_Suffix : Str) : Option (Int × Int) :=
  andx (P_r9_Check qD qE qF) fun (y13, y13_2, y13_3) =>
    andx (
      if y13_3 = 0 then
        andx (P_r9_Mark qD qE qF a_Class a_Number a_Suffix) fun y21 =>
          some y21
      else
        some y13_3) fun e =>
      andx (
        if e = 0 then
          andx (P_r9_Mark qD qE qF b_Class b_Number b_Suffix) fun y26 =>
            some y26
        else
          some e) fun e_2 =>
        if ¬ e_2 = 0 then
          some (0, e_2)
        else
          andx (P_r9_First a_Class a_Number a_Suffix b_Class b_Number b_Suffix) fun y32 =>
            if y32 = true then
              some ((-1), 0)
            else
              andx (P_r9_First b_Class b_Number b_Suffix a_Class a_Number a_Suffix) fun y35 =>
                if y35 = true then
                  some (1, 0)
                else
                  some (0, 0)
end Go.Am
end
section
namespace Go.Am.YtiaolgbmbhldgaaGreatDoor
open Go.Am Go.RowKit
set_option linter.unusedVariables false
set_option linter.unusedSimpArgs false
set_option maxRecDepth 10000 in
theorem tf_w1_Before {k : Nat} (hk : 0 ≤ k) {C : List Thing} {v_a : AV} {a_ : List Int} {v_b : AV} {b : List Int} (h_a : Rdl C encI v_a a_) (h_b : Rdl C encI v_b b) {r : Bool} (h : P_w1_Before a_ b = some r) :
  TF (EL k) 61 [v_a, v_b] C (RepF (fun (w : Unit) => bv r) (fun (w : Unit) => C)) := by
 unfold P_w1_Before at h;refine TF.enter (fn := Go.Proofs.Tryz.f61) rfl rfl rfl rfl rfl (zU rfl (zA R4 (zN ?_)))
 show T _ _ _ _ _ _;apply T.join (r := r) (W := Unit) (fun j w => ⟨[], [(0, v_a), (1, v_b)], C⟩) h
 ·intro j h;refine zU rfl (zA R4 (zN (zB ?_)))
  show T _ _ _ _ _ _;apply T.iter (r := j) (W := Unit) (fun j w => ⟨[], [(0, v_a), (1, v_b), (5, iv (j))], C⟩) (w0 := ()) h
  ·exact (sb .refl)
  rintro i _ a h;unfold P_w1_Before_L1 at h
  show T _ _ _ _ _ _;apply T.join (r := a) (W := Unit) (fun j w => ⟨[], [(0, v_a), (1, v_b), (5, iv (i))], C⟩) h
  ·intro j h
   show T _ _ _ _ _ _;apply T.joinA (r := j) (W := Unit) (fun j w => ⟨[], [(0, v_a), (1, v_b), (5, iv (i)), (15, bv j)], C⟩) h
   ·intro j h;refine zT rfl (zM R4 (zM R4 (zV R3 (Val.len_l h_a mem0 rfl rfl) ?_)));obtain ⟨c9, hc9⟩ := zY (i < (a_.length : Int));refine zV R3 (Val.lss hc9 rfl rfl) (zM R4 ?_);obtain ⟨rfl, hc9, h⟩ | ⟨rfl, hc9, h⟩ := zI hc9 h
    ·refine zM R4 (zM R4 (zV R3 (Val.len_l h_b mem0 rfl rfl) ?_));obtain ⟨c14, hc14⟩ := zY (i < (b.length : Int));refine zV R3 (Val.lss hc14 rfl rfl) (zP R6 (zN ?_));subst hc14;cases h;exact ⟨rfl, (), (sb .refl)⟩
    refine zO R3 (zO R3 (zO R3 (zO R3 (zP R6 (zN ?_)))));cases h;exact ⟨rfl, (), (sb .refl)⟩
   ·rintro x15 _ h;obtain ⟨rfl, h⟩ | ⟨rfl, h⟩ := zZ h
    ·refine zC rfl (zK ?_);cases h;exact ⟨rfl, (), (sb .refl)⟩
    refine zD rfl (zE ?_);cases h;exact ⟨ex_ne, ⟨ex_ne, ⟨rfl, (), (sb .refl)⟩⟩⟩
  ·rintro _ _ h;refine zS (zB (zS (T.draw (fun v => sameC_refl v) (l1 := [0, 1, 2, 3, 4, 5, 6, 7, 8]) (l2 := []) (by kernel_rfl) (by kernel_rfl) (zM R4 (zM R4 ?_)))));obtain ⟨a20, hia20, ea20, h⟩ := el_some h;refine TO.fact (rdl_at h_a mem0 hia20 ea20) (fun hp=>?_);obtain ⟨pa20, hpa20, hva20⟩ := hp;refine zV R3 (hva20 ⟨rfl, rfl⟩ rfl rfl) (zV R3 (Val.load_e hpa20 mem0 ⟨_, rfl, rfl⟩ rfl rfl) (zM R4 (zM R4 ?_)));obtain ⟨a24, hia24, ea24, h⟩ := el_some h;refine TO.fact (rdl_at h_b mem0 hia24 ea24) (fun hp=>?_);obtain ⟨pa24, hpa24, hva24⟩ := hp;refine zV R3 (hva24 ⟨rfl, rfl⟩ rfl rfl) (zV R3 (Val.load_e hpa24 mem0 ⟨_, rfl, rfl⟩ rfl rfl) ?_);obtain ⟨c26, hc26⟩ := zY (¬ a20 = a24);refine zV R3 (Val.neq hc26 rfl rfl) (zN ?_);obtain ⟨rfl, hc26, h⟩ | ⟨rfl, hc26, h⟩ := zI hc26 h
   ·refine zC rfl (zS (T.draw (fun v => sameC_refl v) (l1 := [0, 1, 2, 3, 4, 5, 6, 7, 8, 9]) (l2 := []) (by kernel_rfl) (by kernel_rfl) (zM R4 (zM R4 ?_))));obtain ⟨a29, hia29, ea29, h⟩ := el_some h;refine TO.fact (rdl_at h_a mem0 hia29 ea29) (fun hp=>?_);obtain ⟨pa29, hpa29, hva29⟩ := hp;refine zV R3 (hva29 ⟨rfl, rfl⟩ rfl rfl) (zV R3 (Val.load_e hpa29 mem0 ⟨_, rfl, rfl⟩ rfl rfl) (zM R4 (zM R4 ?_)));obtain ⟨a33, hia33, ea33, h⟩ := el_some h;refine TO.fact (rdl_at h_b mem0 hia33 ea33) (fun hp=>?_);obtain ⟨pa33, hpa33, hva33⟩ := hp;refine zV R3 (hva33 ⟨rfl, rfl⟩ rfl rfl) (zV R3 (Val.load_e hpa33 mem0 ⟨_, rfl, rfl⟩ rfl rfl) ?_);obtain ⟨c35, hc35⟩ := zY (a29 < a33);refine zV R3 (Val.lss hc35 rfl rfl) (zA R4 (zN (zR ?_)));subst hc35;cases h;exact ⟨ret_ne, ⟨ret_ne, ⟨rfl, _, rfl, ⟨(), rfl, .refl⟩⟩⟩⟩
   refine zD rfl (zK (zT rfl (zM R4 ?_)));obtain ⟨hk17, h⟩ := chk_some h;refine zV R3 (Val.add rfl rfl hk17) (zA R4 (zN ?_));cases h;exact ⟨rfl, (), (sb .refl)⟩
 ·rintro _ _ h;refine zU rfl (zM R4 (zV R3 (Val.len_l h_a mem0 rfl rfl) (zM R4 (zV R3 (Val.len_l h_b mem0 rfl rfl) ?_))));obtain ⟨c40, hc40⟩ := zY ((a_.length : Int) < (b.length : Int));refine zV R3 (Val.lss hc40 rfl rfl) (zA R4 (zN (zR ?_)));subst hc40;cases h;exact ⟨rfl, _, rfl, ⟨(), rfl, .refl⟩⟩
set_option maxRecDepth 10000 in
theorem tf_r9_key {k : Nat} (hk : 0 ≤ k) {C : List Thing} {m_Class : Int} {m_Number : Int} {m_Suffix : Str} {r : (List Int)} (h : P_r9_key m_Class m_Number m_Suffix = some r) :
  TF (EL k) 131 [.agg [iv (m_Class), iv (m_Number), sv m_Suffix]] C (RepF (fun (w : AV) => w) (fun (w : AV) => ownL false w encI r :: C)) := by
 unfold P_r9_key at h;refine TF.enter (fn := Go.Proofs.Tryz.f131) rfl rfl rfl rfl rfl (zU rfl (zQ 3 [_,_,_] R7 (fun b1=>zA R4 (zN (zU rfl (zF 0 R6 (zL 0 R3 R6 (zF 1 R6 (zL 0 R3 R6 (zF 2 R6 (zL 0 R3 R6 (zV R3 (Val.len_str rfl rfl) (TO.eff rfl rfl rfl (Eff.new (New.buildSlice (en := encI) (l := [m_Class, m_Number, (m_Suffix.length : Int)]) (vs := [(_, _), (_, _), (_, _)]) (ws := [(_, [_]), (_, [_]), (_, [_])]) ⟨rfl, rfl⟩ rfl rfl rfl rfl (CellsL.cons rfl (CellsL.cons rfl (CellsL.cons rfl CellsL.nil))) rfl rfl)) ?_)))))))))))));rintro _ _ ⟨v12, rfl, rfl⟩;refine TO.less (Less.rowOwn (en := encI) (l := [m_Class, m_Number, (m_Suffix.length : Int)]) (p := 0) rfl) (zG (_::_::C) rfl (zA R4 (zN ?_)))
 show T _ _ _ _ _ _;apply T.joinA (r := r) (W := AV) (fun j w => ⟨[], [(3, w)], ownL false w encI j :: .row b1 3 [iv (m_Class), iv (m_Number), sv m_Suffix] :: C⟩) h
 ·intro j h;refine zU rfl (zA R4 (zN (zB ?_)))
  show T _ _ _ _ _ _;apply T.iter (r := j) (W := AV) (fun j w => ⟨[], [(1, .ptr b1 0 3), (3, w), (4, iv (j.1))], ownL false w encI j.2 :: .row b1 3 [iv (m_Class), iv (m_Number), sv m_Suffix] :: C⟩) (w0 := (.slice v12 0 (List.flatMap encI.f [m_Class, m_Number, (m_Suffix.length : Int)]).length true (List.length [m_Class, m_Number, (m_Suffix.length : Int)]) (List.length [m_Class, m_Number, (m_Suffix.length : Int)]))) h
  ·exact (sb .refl)
  rintro ⟨i, out⟩ v2 a h;unfold P_r9_key_L1 at h;dsimp only at h;dsimp only;refine zS (zU rfl (zM R4 (zF 2 R6 (zL 1 R3 R6 (zV R3 (Val.len_str rfl rfl) ?_)))));obtain ⟨c17, hc17⟩ := zY (i < (m_Suffix.length : Int));refine zV R3 (Val.lss hc17 rfl rfl) (zN ?_);obtain ⟨rfl, hc17, h⟩ | ⟨rfl, hc17, h⟩ := zI hc17 h
  ·refine zC rfl (zK (zS (zB (zT rfl (zM R4 (zF 2 R6 (zL 1 R3 R6 (zM R4 ?_))))))));obtain ⟨hk24, h⟩ := chk_some h;refine zV R3 (Val.index_str rfl rfl rfl hk24) ?_;obtain ⟨hk25, h⟩ := chk_some h;refine zV R3 (Val.conv (cv_ty5_3 hk25) rfl) (TO.build1 (en := encI) (a := (byteAt m_Suffix i)) rfl rfl rfl ⟨rfl, rfl⟩ ⟨_, rfl, rfl⟩ (by decide) (by decide) rfl rfl (fun v26=>?_));obtain ⟨hk27, h⟩ := chk_some h;refine TO.eff rfl rfl rfl (Eff.append_own (b := 8) (en := encI) (l := out) (l2 := [(byteAt m_Suffix i)]) (p := 1) (q := 0) ⟨rfl, rfl, rfl, ⟨_, rfl, rfl⟩, by decide, by decide⟩ rfl rfl rfl rfl rfl rfl (flat_ones _) (by decide) hk27) ?_;rintro v27 _ rfl;refine zG (_::_::_::C) rfl (zA R4 (zN (zT rfl (zM R4 ?_))));obtain ⟨hk19, h⟩ := chk_some h;refine zV R3 (Val.add rfl rfl hk19) (zA R4 (zN ?_));cases h;exact ⟨rfl, v27, (sb (pk [1,1,98] rfl))⟩
  refine zD rfl (zE ?_);cases h;exact ⟨ex_ne, ⟨rfl, v2, (sb .refl)⟩⟩
 ·rintro out v2 h;refine zU rfl (zM R4 (zA R4 (zN (zR ?_))));cases h;exact ⟨rfl, _, rfl, ⟨v2, rfl, (pk [0,98] rfl)⟩⟩
set_option maxRecDepth 10000 in
theorem tf_r9_First {k : Nat} (hk : 0 ≤ k) {C : List Thing} {a_Class : Int} {a_Number : Int} {a_Suffix : Str} {b_Class : Int} {b_Number : Int} {b_Suffix : Str} {r : Bool} (h : P_r9_First a_Class a_Number a_Suffix b_Class b_Number b_Suffix = some r) :
  TF (EL k) 91 [.agg [iv (a_Class), iv (a_Number), sv a_Suffix], .agg [iv (b_Class), iv (b_Number), sv b_Suffix]] C (RepF (fun (w : Unit) => bv r) (fun (w : Unit) => C)) := by
 unfold P_r9_First at h;refine TF.enter (fn := Go.Proofs.Tryz.f91) rfl rfl rfl rfl rfl (zU rfl (zQ 3 [_,_,_] R7 (fun b2=>zQ 3 [_,_,_] R7 (fun b3=>zA R4 (zN (zS (T.drawE (l1 := [0, 2]) (l2 := [1, 3, 4, 5]) (by kernel_rfl) (by kernel_rfl) (yR R4 (vW 1 [_,_,_] R5 R4) (yR R4 (vW 0 [_,_,_] R5 R4) (TD1.over (fun v => sameC_refl v) (all_cons (⟨_, rfl, (vW 0 [_,_,_] R5 R4)⟩) (all_cons (⟨_, rfl, (vW 1 [_,_,_] R5 R4)⟩) all_nil)) ?_))))))))));obtain ⟨y6, hr6, h⟩ := andx_some h;refine TD2.heavy (fun v => sameC_refl v) rfl (by decide) rfl rfl (OpS.callV rfl rfl rfl rfl (orcN rfl) (RepF.conv (tf_r9_key aD hr6))) ?_;rintro w6 hs_ ⟨w6, rfl, he_⟩;subst hs_;refine ⟨(all_cons (.inr ⟨_, rfl, (vW 1 [_,_,_] R5 R4)⟩) (all_cons (.inl (by kernel_rfl)) all_nil)), all_nil, ?_⟩;refine yG (_::_::_::C) rfl ?_;obtain ⟨y8, hr8, h⟩ := andx_some h;refine TD2.heavy (fun v => sameC_refl v) rfl (by decide) rfl rfl (OpS.callV rfl rfl rfl rfl (orcN rfl) (RepF.conv (tf_r9_key aD hr8))) ?_;rintro w8 hs_ ⟨w8, rfl, he_⟩;subst hs_;refine ⟨(all_cons (.inl (by kernel_rfl)) (all_cons (.inl (by kernel_rfl)) all_nil)), all_nil, ?_⟩;refine yG (_::_::_::_::C) rfl ?_;obtain ⟨y9, hr9, h⟩ := andx_some h;refine TD2.heavy (fun v => sameC_refl v) rfl (by decide) rfl rfl (OpS.callV rfl rfl rfl rfl (orcN rfl) (RepF.conv (tf_w1_Before aD (Rdl.mono (Rdl.own (C := ownL false w8 encI y8 :: ownL false w6 encI y6 :: .row b3 3 [iv (b_Class), iv (b_Number), sv b_Suffix] :: .row b2 3 [iv (a_Class), iv (a_Number), sv a_Suffix] :: C) (p := 1) rfl) mem0) (Rdl.mono (Rdl.own (C := ownL false w8 encI y8 :: ownL false w6 encI y6 :: .row b3 3 [iv (b_Class), iv (b_Number), sv b_Suffix] :: .row b2 3 [iv (a_Class), iv (a_Number), sv a_Suffix] :: C) (p := 0) rfl) mem0) hr9))) ?_;rintro _ hs_ ⟨_, rfl, he_⟩;subst hs_;refine ⟨(all_cons (.inl (by kernel_rfl)) (all_cons (.inl (by kernel_rfl)) all_nil)), all_nil, ?_⟩;refine yG (_::_::_::_::C) rfl (yM R4 (Val.assign rfl) (TD2.nil (zR ?_)));cases h;exact ⟨rfl, _, rfl, ⟨(), rfl, (pk [98,98,98,98] rfl)⟩⟩
set_option maxRecDepth 10000 in
theorem tf_r9_Before {k : Nat} (hk : 1 ≤ k) {C : List Thing} {qB : AV} {qD : List Str} {qC : AV} {qE : List qH} {qA : AV} {qF : List qG} {a_Class : Int} {a_Number : Int} {a_Suffix : Str} {b_Class : Int} {b_Number : Int} {b_Suffix : Str} (qZ : RdT encStr qB qD) (qAa : RdT qN qC qE) (qY : RdT qL qA qF) {r : Int × Int} (h : P_r9_Before qD qE qF a_Class a_Number a_Suffix b_Class b_Number b_Suffix = some r) :
  TF (EL k) 23 [.agg [qB, qC, qA], .agg [iv (a_Class), iv (a_Number), sv a_Suffix], .agg [iv (b_Class), iv (b_Number), sv b_Suffix]] C (RepF (fun (w : Unit) => .tuple [iv r.1, iv r.2]) (fun (w : Unit) => C)) := by
 unfold P_r9_Before at h
 have qK : Rdl C encStr qB qD := RdT.rdl qZ
 have qI : Rdl C qN qC qE := RdT.rdl qAa
 have qJ : Rdl C qL qA qF := RdT.rdl qY;refine TF.enter (fn := Go.Proofs.Tryz.f23) rfl rfl rfl rfl rfl (zU rfl (zQ 3 [_,_,_] R7 (fun b3=>zQ 3 [_,_,_] R7 (fun b4=>zQ 3 [_,_,_] R7 (fun b5=>zA R4 (zA R4 (zN (zU rfl (zV R3 (vW 2 [_,_,_] R5 R4) ?_)))))))));obtain ⟨⟨y13, y13_2, y13_3⟩, hr13, h⟩ := andx_some h;dsimp only at h;obtain ⟨g, hgg, hrg⟩ := Rdl.reif (hs := .row b5 3 [iv (b_Class), iv (b_Number), sv b_Suffix] :: .row b4 3 [iv (a_Class), iv (a_Number), sv a_Suffix] :: .row b3 3 [qB, qC, qA] :: C) qK M3 (ReifL.flat encStr_tr);obtain ⟨g_2, hgg_2, hrg_2⟩ := Rdl.reif (hs := .row b5 3 [iv (b_Class), iv (b_Number), sv b_Suffix] :: .row b4 3 [iv (a_Class), iv (a_Number), sv a_Suffix] :: .row b3 3 [qB, qC, qA] :: C) qI M3 (ReifL.flat qAc);obtain ⟨g_3, hgg_3, hrg_3⟩ := Rdl.reif (hs := .row b5 3 [iv (b_Class), iv (b_Number), sv b_Suffix] :: .row b4 3 [iv (a_Class), iv (a_Number), sv a_Suffix] :: .row b3 3 [qB, qC, qA] :: C) qJ M3 (ReifL.flat qAb);refine TO.call rfl rfl rfl rfl rfl (orcL rfl aD) (.cons (.agg (.cons (hrg _) (.cons (hrg_2 _) (.cons (hrg_3 _) .nil)))) .nil) (sem_of (w_r9_Check g g_2 g_3 _ (by try rw [hgg]; try rw [hgg_2]; try rw [hgg_3]; exact hr13))) (zM R4 (zX R5 (zX R5 (zX R5 (zA R4 (zA R4 (zA R4 (zN ?_))))))))
 show T _ _ _ _ _ _;apply T.joinA (r := r) (W := Unit) (fun j w => ⟨[], [(3, .ptr b3 0 3), (4, .ptr b4 0 3), (5, .ptr b5 0 3), (10, iv (j))], .row b5 3 [iv (b_Class), iv (b_Number), sv b_Suffix] :: .row b4 3 [iv (a_Class), iv (a_Number), sv a_Suffix] :: .row b3 3 [qB, qC, qA] :: C⟩) h
 ·intro j h;refine zU rfl (zM R4 ?_);obtain ⟨c18, hc18⟩ := zY (y13_3 = 0);refine zV R3 (Val.eql hc18 rfl rfl) (zN ?_);obtain ⟨rfl, hc18, h⟩ | ⟨rfl, hc18, h⟩ := zI hc18 h
  ·refine zC rfl (zT rfl (zV R3 (vW 2 [_,_,_] R5 R4) (zV R3 (vW 1 [_,_,_] R5 R4) ?_)));obtain ⟨y21, hr21, h⟩ := andx_some h;refine TO.callT (first := []) (cap := []) (vs := [.agg [qB, qC, qA], .agg [iv (a_Class), iv (a_Number), sv a_Suffix]]) rfl rfl rfl rfl rfl rfl (orcN rfl) (tf_r9_Mark aD (Rdl.mono qK M3) (Rdl.mono qI M3) (Rdl.mono qJ M3) hr21) ?_;rintro _;refine zG (_::_::_::C) rfl (zA R4 (zN ?_));cases h;exact ⟨rfl, (), (sb .refl)⟩
  refine zD rfl (zK ?_);cases h;exact ⟨rfl, (), (sb .refl)⟩
 ·rintro e _ h
  show T _ _ _ _ _ _;apply T.joinA (r := r) (W := Unit) (fun j w => ⟨[], [(4, .ptr b4 0 3), (5, .ptr b5 0 3), (10, iv (j))], .row b5 3 [iv (b_Class), iv (b_Number), sv b_Suffix] :: .row b4 3 [iv (a_Class), iv (a_Number), sv a_Suffix] :: .row b3 3 [qB, qC, qA] :: C⟩) h
  ·intro j h;refine zU rfl (zM R4 ?_);obtain ⟨c23, hc23⟩ := zY (e = 0);refine zV R3 (Val.eql hc23 rfl rfl) (zN ?_);obtain ⟨rfl, hc23, h⟩ | ⟨rfl, hc23, h⟩ := zI hc23 h
   ·refine zC rfl (zT rfl (zV R3 (vW 2 [_,_,_] R5 R4) (zV R3 (vW 0 [_,_,_] R5 R4) ?_)));obtain ⟨y26, hr26, h⟩ := andx_some h;refine TO.callT (first := []) (cap := []) (vs := [.agg [qB, qC, qA], .agg [iv (b_Class), iv (b_Number), sv b_Suffix]]) rfl rfl rfl rfl rfl rfl (orcN rfl) (tf_r9_Mark aD (Rdl.mono qK M3) (Rdl.mono qI M3) (Rdl.mono qJ M3) hr26) ?_;rintro _;refine zG (_::_::_::C) rfl (zA R4 (zN ?_));cases h;exact ⟨rfl, (), (sb .refl)⟩
   refine zD rfl (zK ?_);cases h;exact ⟨rfl, (), (sb .refl)⟩
  ·rintro e_2 _ h;refine zS (zU rfl (zM R4 ?_));obtain ⟨c28, hc28⟩ := zY (¬ e_2 = 0);refine zV R3 (Val.neq hc28 rfl rfl) (zN ?_);obtain ⟨rfl, hc28, h⟩ | ⟨rfl, hc28, h⟩ := zI hc28 h
   ·refine zC rfl (zU rfl (zM R4 (zA R4 (zA R4 (zN (zR ?_))))));cases h;exact ⟨rfl, _, rfl, ⟨(), rfl, (pk [98,98,98] rfl)⟩⟩
   refine zD rfl (zK (zS (zU rfl (zV R3 (vW 1 [_,_,_] R5 R4) (zV R3 (vW 0 [_,_,_] R5 R4) ?_)))));obtain ⟨y32, hr32, h⟩ := andx_some h;refine TO.callT (first := []) (cap := []) (vs := [.agg [iv (a_Class), iv (a_Number), sv a_Suffix], .agg [iv (b_Class), iv (b_Number), sv b_Suffix]]) rfl rfl rfl rfl rfl rfl (orcN rfl) (tf_r9_First aD hr32) ?_;rintro _;refine zG (_::_::_::C) rfl (zN ?_);obtain ⟨rfl, h⟩ | ⟨rfl, h⟩ := zZ h
   ·refine zC rfl (zU rfl (zA R4 (zA R4 (zN (zR ?_)))));cases h;exact ⟨rfl, _, rfl, ⟨(), rfl, (pk [98,98,98] rfl)⟩⟩
   refine zD rfl (zK (zS (zU rfl (zV R3 (vW 0 [_,_,_] R5 R4) (zV R3 (vW 1 [_,_,_] R5 R4) ?_)))));obtain ⟨y35, hr35, h⟩ := andx_some h;refine TO.callT (first := []) (cap := []) (vs := [.agg [iv (b_Class), iv (b_Number), sv b_Suffix], .agg [iv (a_Class), iv (a_Number), sv a_Suffix]]) rfl rfl rfl rfl rfl rfl (orcN rfl) (tf_r9_First aD hr35) ?_;rintro _;refine zG (_::_::_::C) rfl (zN ?_);obtain ⟨rfl, h⟩ | ⟨rfl, h⟩ := zZ h
   ·refine zC rfl (zU rfl (zA R4 (zA R4 (zN (zR ?_)))));cases h;exact ⟨rfl, _, rfl, ⟨(), rfl, (pk [98,98,98] rfl)⟩⟩
   refine zD rfl (zK (zU rfl (zA R4 (zA R4 (zN (zR ?_))))));cases h;exact ⟨rfl, _, rfl, ⟨(), rfl, (pk [98,98,98] rfl)⟩⟩
theorem w_r9_Before (qD : GS encStr) (qE : GS qN) (qF : GS qL) (a_Class : Int) (a_Number : Int) (a_Suffix : Str) (b_Class : Int) (b_Number : Int) (b_Suffix : Str) (r : Int × Int) (h : P_r9_Before qD.l qE.l qF.l a_Class a_Number a_Suffix b_Class b_Number b_Suffix = some r) : Comes (EL 1) 23 [.agg [qD.v, qE.v, qF.v], .agg [iv (a_Class), iv (a_Number), sv a_Suffix], .agg [iv (b_Class), iv (b_Number), sv b_Suffix]] (.tuple [iv r.1, iv r.2]) :=
 TF.run (tf_r9_Before (Nat.le_refl _) (RdT.gs qD) (RdT.gs qE) (RdT.gs qF) h) fun w => (.tuple (.cons .lit (.cons .lit .nil)))
end Go.Am.YtiaolgbmbhldgaaGreatDoor
end
section
namespace Go.Am
set_option linter.unusedVariables false
noncomputable def P_i_small (i : Int) : Option Str :=
  if i < 10 then
    chk (I64 (i + 1)) (
      chk ((0 ≤ i ∧ i ≤ (i + 1)) ∧ (i + 1) ≤ (([48, 49, 50, 51, 52, 53, 54, 55, 56, 57, 97, 98, 99, 100, 101, 102, 103, 104, 105, 106, 107, 108, 109, 110, 111, 112, 113, 114, 115, 116, 117, 118, 119, 120, 121, 122] : Str).length : Int)) (
        some (subs ([48, 49, 50, 51, 52, 53, 54, 55, 56, 57, 97, 98, 99, 100, 101, 102, 103, 104, 105, 106, 107, 108, 109, 110, 111, 112, 113, 114, 115, 116, 117, 118, 119, 120, 121, 122] : Str) i (i + 1))))
  else
    chk (I64 (i * 2)) (
      chk (I64 (i * 2)) (
        chk (I64 ((i * 2) + 2)) (
          chk ((0 ≤ (i * 2) ∧ (i * 2) ≤ ((i * 2) + 2)) ∧ ((i * 2) + 2) ≤ (smallsS.length : Int)) (
            some (subs smallsS (i * 2) ((i * 2) + 2))))))
noncomputable def P_i_numDigits (d : Int) : Option Int :=
  andx (
    if d ≥ 4294967296 then
      chk (0 ≤ (32 : Int) ∧ (32 : Int) < 64) (
        some ((shrI d 32), 32))
    else
      some (d, 0)) fun (x, n) =>
    andx (
      if x ≥ 65536 then
        chk (0 ≤ (16 : Int) ∧ (16 : Int) < 64) (
          chk (I64 (n + 16)) (
            some ((shrI x 16), (n + 16))))
      else
        some (x, n)) fun (x_2, n_2) =>
      andx (
        if x_2 ≥ 256 then
          chk (0 ≤ (8 : Int) ∧ (8 : Int) < 64) (
            chk (I64 (n_2 + 8)) (
              some ((shrI x_2 8), (n_2 + 8))))
        else
          some (x_2, n_2)) fun (x_3, n_3) =>
        chk (0 ≤ x_3 ∧ x_3 < 256) (
          chk (0 ≤ x_3 ∧ x_3 < (len8S.length : Int)) (
            chk (-9223372036854775808 ≤ (byteAt len8S x_3) ∧ (byteAt len8S x_3) < 9223372036854775808) (
              chk (I64 (n_3 + (byteAt len8S x_3))) (
                chk (I64 ((n_3 + (byteAt len8S x_3)) * 78913)) (
                  chk (0 ≤ (18 : Int) ∧ (18 : Int) < 64) (
                    el pow10L (shrI ((n_3 + (byteAt len8S x_3)) * 78913) 18) fun a10 =>
                    andx (
                      if d ≥ a10 then
                        some 1
                      else
                        some 0) fun y13 =>
                      chk (I64 ((shrI ((n_3 + (byteAt len8S x_3)) * 78913) 18) + y13)) (
                        some ((shrI ((n_3 + (byteAt len8S x_3)) * 78913) 18) + y13))))))))
noncomputable def P_i_FormatInt_L1 (y27 : Int) : (Int × Int × (List Int)) → Option (Stp (Int × Int × (List Int)) (Int × Int × (List Int))) := fun (u, nd, a_) =>
  if nd ≥ 8 then
    chk ((0 : Int) < 100000000) (
      chk (0 ≤ (Int.tmod u 100000000) ∧ (Int.tmod u 100000000) < 4294967296) (
        chk ((0 : Int) < 100000000 ∧ InK .u64 (Int.tdiv u 100000000)) (
          chk ((0 : Int) < 10000 ∧ InK .u32 (Int.tdiv (Int.tmod u 100000000) 10000)) (
            chk ((0 : Int) < 10000) (
              chk ((0 : Int) < 100 ∧ InK .u32 (Int.tdiv (Int.tmod (Int.tmod u 100000000) 10000) 100)) (
                chk (InK .u32 ((Int.tdiv (Int.tmod (Int.tmod u 100000000) 10000) 100) * 2)) (
                  chk ((0 : Int) < 100) (
                    chk (InK .u32 ((Int.tmod (Int.tmod (Int.tmod u 100000000) 10000) 100) * 2)) (
                      chk ((0 : Int) < 100 ∧ InK .u32 (Int.tdiv (Int.tdiv (Int.tmod u 100000000) 10000) 100)) (
                        chk (InK .u32 ((Int.tdiv (Int.tdiv (Int.tmod u 100000000) 10000) 100) * 2)) (
                          chk ((0 : Int) < 100) (
                            chk (InK .u32 ((Int.tmod (Int.tdiv (Int.tmod u 100000000) 10000) 100) * 2)) (
                              chk (I64 (nd - 1)) (
                                chk (I64 (nd - 2)) (
                                  chk (InK .u32 (((Int.tmod (Int.tmod (Int.tmod u 100000000) 10000) 100) * 2) + 1)) (
                                    chk (0 ≤ (((Int.tmod (Int.tmod (Int.tmod u 100000000) 10000) 100) * 2) + 1) ∧ (((Int.tmod (Int.tmod (Int.tmod u 100000000) 10000) 100) * 2) + 1) < (smallsS.length : Int)) (
                                      chk (0 ≤ ((Int.tmod (Int.tmod (Int.tmod u 100000000) 10000) 100) * 2) ∧ ((Int.tmod (Int.tmod (Int.tmod u 100000000) 10000) 100) * 2) < (smallsS.length : Int)) (
                                        chk (0 ≤ (nd - 1) ∧ (nd - 1) < ((Int.toNat (1 + y27) - Int.toNat 1 : Nat) : Int)) (
                                          chk (a_.length = 24) (
                                            chk ((Int.toNat 1 + Int.toNat (nd - 1)) < 24) (
                                              chk (0 ≤ (nd - 2) ∧ (nd - 2) < ((Int.toNat (1 + y27) - Int.toNat 1 : Nat) : Int)) (
                                                chk ((List.set a_ (Int.toNat 1 + Int.toNat (nd - 1)) (byteAt smallsS (((Int.tmod (Int.tmod (Int.tmod u 100000000) 10000) 100) * 2) + 1))).length = 24) (
                                                  chk ((Int.toNat 1 + Int.toNat (nd - 2)) < 24) (
                                                    chk (I64 (nd - 3)) (
                                                      chk (I64 (nd - 4)) (
                                                        chk (InK .u32 (((Int.tdiv (Int.tmod (Int.tmod u 100000000) 10000) 100) * 2) + 1)) (
                                                          chk (0 ≤ (((Int.tdiv (Int.tmod (Int.tmod u 100000000) 10000) 100) * 2) + 1) ∧ (((Int.tdiv (Int.tmod (Int.tmod u 100000000) 10000) 100) * 2) + 1) < (smallsS.length : Int)) (
                                                            chk (0 ≤ ((Int.tdiv (Int.tmod (Int.tmod u 100000000) 10000) 100) * 2) ∧ ((Int.tdiv (Int.tmod (Int.tmod u 100000000) 10000) 100) * 2) < (smallsS.length : Int)) (
                                                              chk (0 ≤ (nd - 3) ∧ (nd - 3) < ((Int.toNat (1 + y27) - Int.toNat 1 : Nat) : Int)) (
                                                                chk ((List.set (List.set a_ (Int.toNat 1 + Int.toNat (nd - 1)) (byteAt smallsS (((Int.tmod (Int.tmod (Int.tmod u 100000000) 10000) 100) * 2) + 1))) (Int.toNat 1 + Int.toNat (nd - 2)) (byteAt smallsS ((Int.tmod (Int.tmod (Int.tmod u 100000000) 10000) 100) * 2))).length = 24) (
                                                                  chk ((Int.toNat 1 + Int.toNat (nd - 3)) < 24) (
                                                                    chk (0 ≤ (nd - 4) ∧ (nd - 4) < ((Int.toNat (1 + y27) - Int.toNat 1 : Nat) : Int)) (
                                                                      chk ((List.set (List.set (List.set a_ (Int.toNat 1 + Int.toNat (nd - 1)) (byteAt smallsS (((Int.tmod (Int.tmod (Int.tmod u 100000000) 10000) 100) * 2) + 1))) (Int.toNat 1 + Int.toNat (nd - 2)) (byteAt smallsS ((Int.tmod (Int.tmod (Int.tmod u 100000000) 10000) 100) * 2))) (Int.toNat 1 + Int.toNat (nd - 3)) (byteAt smallsS (((Int.tdiv (Int.tmod (Int.tmod u 100000000) 10000) 100) * 2) + 1))).length = 24) (
                                                                        chk ((Int.toNat 1 + Int.toNat (nd - 4)) < 24) (
                                                                          chk (I64 (nd - 5)) (
                                                                            chk (I64 (nd - 6)) (
                                                                              chk (InK .u32 (((Int.tmod (Int.tdiv (Int.tmod u 100000000) 10000) 100) * 2) + 1)) (
                                                                                chk (0 ≤ (((Int.tmod (Int.tdiv (Int.tmod u 100000000) 10000) 100) * 2) + 1) ∧ (((Int.tmod (Int.tdiv (Int.tmod u 100000000) 10000) 100) * 2) + 1) < (smallsS.length : Int)) (
                                                                                  chk (0 ≤ ((Int.tmod (Int.tdiv (Int.tmod u 100000000) 10000) 100) * 2) ∧ ((Int.tmod (Int.tdiv (Int.tmod u 100000000) 10000) 100) * 2) < (smallsS.length : Int)) (
                                                                                    chk (0 ≤ (nd - 5) ∧ (nd - 5) < ((Int.toNat (1 + y27) - Int.toNat 1 : Nat) : Int)) (
                                                                                      chk ((List.set (List.set (List.set (List.set a_ (Int.toNat 1 + Int.toNat (nd - 1)) (byteAt smallsS (((Int.tmod (Int.tmod (Int.tmod u 100000000) 10000) 100) * 2) + 1))) (Int.toNat 1 + Int.toNat (nd - 2)) (byteAt smallsS ((Int.tmod (Int.tmod (Int.tmod u 100000000) 10000) 100) * 2))) (Int.toNat 1 + Int.toNat (nd - 3)) (byteAt smallsS (((Int.tdiv (Int.tmod (Int.tmod u 100000000) 10000) 100) * 2) + 1))) (Int.toNat 1 + Int.toNat (nd - 4)) (byteAt smallsS ((Int.tdiv (Int.tmod (Int.tmod u 100000000) 10000) 100) * 2))).length = 24) (
                                                                                        chk ((Int.toNat 1 + Int.toNat (nd - 5)) < 24) (
                                                                                          chk (0 ≤ (nd - 6) ∧ (nd - 6) < ((Int.toNat (1 + y27) - Int.toNat 1 : Nat) : Int)) (
                                                                                            chk ((List.set (List.set (List.set (List.set (List.set a_ (Int.toNat 1 + Int.toNat (nd - 1)) (byteAt smallsS (((Int.tmod (Int.tmod (Int.tmod u 100000000) 10000) 100) * 2) + 1))) (Int.toNat 1 + Int.toNat (nd - 2)) (byteAt smallsS ((Int.tmod (Int.tmod (Int.tmod u 100000000) 10000) 100) * 2))) (Int.toNat 1 + Int.toNat (nd - 3)) (byteAt smallsS (((Int.tdiv (Int.tmod (Int.tmod u 100000000) 10000) 100) * 2) + 1))) (Int.toNat 1 + Int.toNat (nd - 4)) (byteAt smallsS ((Int.tdiv (Int.tmod (Int.tmod u 100000000) 10000) 100) * 2))) (Int.toNat 1 + Int.toNat (nd - 5)) (byteAt smallsS (((Int.tmod (Int.tdiv (Int.tmod u 100000000) 10000) 100) * 2) + 1))).length = 24) (
                                                                                              chk ((Int.toNat 1 + Int.toNat (nd - 6)) < 24) (
                                                                                                chk (I64 (nd - 7)) (
                                                                                                  chk (I64 (nd - 8)) (
                                                                                                    chk (InK .u32 (((Int.tdiv (Int.tdiv (Int.tmod u 100000000) 10000) 100) * 2) + 1)) (
                                                                                                      chk (0 ≤ (((Int.tdiv (Int.tdiv (Int.tmod u 100000000) 10000) 100) * 2) + 1) ∧ (((Int.tdiv (Int.tdiv (Int.tmod u 100000000) 10000) 100) * 2) + 1) < (smallsS.length : Int)) (
                                                                                                        chk (0 ≤ ((Int.tdiv (Int.tdiv (Int.tmod u 100000000) 10000) 100) * 2) ∧ ((Int.tdiv (Int.tdiv (Int.tmod u 100000000) 10000) 100) * 2) < (smallsS.length : Int)) (
                                                                                                          chk (0 ≤ (nd - 7) ∧ (nd - 7) < ((Int.toNat (1 + y27) - Int.toNat 1 : Nat) : Int)) (
                                                                                                            chk ((List.set (List.set (List.set (List.set (List.set (List.set a_ (Int.toNat 1 + Int.toNat (nd - 1)) (byteAt smallsS (((Int.tmod (Int.tmod (Int.tmod u 100000000) 10000) 100) * 2) + 1))) (Int.toNat 1 + Int.toNat (nd - 2)) (byteAt smallsS ((Int.tmod (Int.tmod (Int.tmod u 100000000) 10000) 100) * 2))) (Int.toNat 1 + Int.toNat (nd - 3)) (byteAt smallsS (((Int.tdiv (Int.tmod (Int.tmod u 100000000) 10000) 100) * 2) + 1))) (Int.toNat 1 + Int.toNat (nd - 4)) (byteAt smallsS ((Int.tdiv (Int.tmod (Int.tmod u 100000000) 10000) 100) * 2))) (Int.toNat 1 + Int.toNat (nd - 5)) (byteAt smallsS (((Int.tmod (Int.tdiv (Int.tmod u 100000000) 10000) 100) * 2) + 1))) (Int.toNat 1 + Int.toNat (nd - 6)) (byteAt smallsS ((Int.tmod (Int.tdiv (Int.tmod u 100000000) 10000) 100) * 2))).length = 24) (
                                                                                                              chk ((Int.toNat 1 + Int.toNat (nd - 7)) < 24) (
                                                                                                                chk (0 ≤ (nd - 8) ∧ (nd - 8) < ((Int.toNat (1 + y27) - Int.toNat 1 : Nat) : Int)) (
                                                                                                                  chk ((List.set (List.set (List.set (List.set (List.set (List.set (List.set a_ (Int.toNat 1 + Int.toNat (nd - 1)) (byteAt smallsS (((Int.tmod (Int.tmod (Int.tmod u 100000000) 10000) 100) * 2) + 1))) (Int.toNat 1 + Int.toNat (nd - 2)) (byteAt smallsS ((Int.tmod (Int.tmod (Int.tmod u 100000000) 10000) 100) * 2))) (Int.toNat 1 + Int.toNat (nd - 3)) (byteAt smallsS (((Int.tdiv (Int.tmod (Int.tmod u 100000000) 10000) 100) * 2) + 1))) (Int.toNat 1 + Int.toNat (nd - 4)) (byteAt smallsS ((Int.tdiv (Int.tmod (Int.tmod u 100000000) 10000) 100) * 2))) (Int.toNat 1 + Int.toNat (nd - 5)) (byteAt smallsS (((Int.tmod (Int.tdiv (Int.tmod u 100000000) 10000) 100) * 2) + 1))) (Int.toNat 1 + Int.toNat (nd - 6)) (byteAt smallsS ((Int.tmod (Int.tdiv (Int.tmod u 100000000) 10000) 100) * 2))) (Int.toNat 1 + Int.toNat (nd - 7)) (byteAt smallsS (((Int.tdiv (Int.tdiv (Int.tmod u 100000000) 10000) 100) * 2) + 1))).length = 24) (
                                                                                                                    chk ((Int.toNat 1 + Int.toNat (nd - 8)) < 24) (
                                                                                                                      chk (I64 (nd - 8)) (
                                                                                                                        some (Stp.ag ((Int.tdiv u 100000000), (nd - 8), List.set (List.set (List.set (List.set (List.set (List.set (List.set (List.set a_ (Int.toNat 1 + Int.toNat (nd - 1)) (byteAt smallsS (((Int.tmod (Int.tmod (Int.tmod u 100000000) 10000) 100) * 2) + 1))) (Int.toNat 1 + Int.toNat (nd - 2)) (byteAt smallsS ((Int.tmod (Int.tmod (Int.tmod u 100000000) 10000) 100) * 2))) (Int.toNat 1 + Int.toNat (nd - 3)) (byteAt smallsS (((Int.tdiv (Int.tmod (Int.tmod u 100000000) 10000) 100) * 2) + 1))) (Int.toNat 1 + Int.toNat (nd - 4)) (byteAt smallsS ((Int.tdiv (Int.tmod (Int.tmod u 100000000) 10000) 100) * 2))) (Int.toNat 1 + Int.toNat (nd - 5)) (byteAt smallsS (((Int.tmod (Int.tdiv (Int.tmod u 100000000) 10000) 100) * 2) + 1))) (Int.toNat 1 + Int.toNat (nd - 6)) (byteAt smallsS ((Int.tmod (Int.tdiv (Int.tmod u 100000000) 10000) 100) * 2))) (Int.toNat 1 + Int.toNat (nd - 7)) (byteAt smallsS (((Int.tdiv (Int.tdiv (Int.tmod u 100000000) 10000) 100) * 2) + 1))) (Int.toNat 1 + Int.toNat (nd - 8)) (byteAt smallsS ((Int.tdiv (Int.tdiv (Int.tmod u 100000000) 10000) 100) * 2))))))))))))))))))))))))))))))))))))))))))))))))))))))))))))))
  else
    some (Stp.dn (u, nd, a_))
noncomputable def P_i_FormatInt (i : Int) (base : Int) : Option Str :=
  if base = 10 then
    seqx (
      andx (
        if 0 ≤ i then
          some (decide (i < 100))
        else
          some false) fun x17 =>
        if x17 = true then
          andx (P_i_small i) fun y19 =>
            some (Ex.rt y19)
        else
          some (Ex.nx ())) fun _ =>
      chk (0 ≤ i ∧ i < 18446744073709551616) (
        andx (
          if i < 0 then
            none
          else
            some ()) fun _ =>
          andx (P_i_numDigits i) fun y27 =>
            chk (I64 (1 + y27)) (
              chk ((List.replicate 24 (0 : Int)).length = 24) (
                chk ((0 ≤ (1 : Int) ∧ (1 : Int) ≤ (1 + y27)) ∧ (1 + y27) ≤ 24 ∧ (1 : Int) < 24) (
                  andx (
                    andx (
                      iter (P_i_FormatInt_L1 y27) (i, ((Int.toNat (1 + y27) - Int.toNat 1 : Nat) : Int), List.replicate 24 (0 : Int))) fun (u, nd, a_) =>
                      chk (0 ≤ u ∧ u < 4294967296) (
                        andx (
                          if nd ≥ 4 then
                            chk ((0 : Int) < 10000) (
                              chk ((0 : Int) < 10000 ∧ InK .u32 (Int.tdiv u 10000)) (
                                chk ((0 : Int) < 100 ∧ InK .u32 (Int.tdiv (Int.tmod u 10000) 100)) (
                                  chk (InK .u32 ((Int.tdiv (Int.tmod u 10000) 100) * 2)) (
                                    chk ((0 : Int) < 100) (
                                      chk (InK .u32 ((Int.tmod (Int.tmod u 10000) 100) * 2)) (
                                        chk (I64 (nd - 1)) (
                                          chk (I64 (nd - 2)) (
                                            chk (InK .u32 (((Int.tmod (Int.tmod u 10000) 100) * 2) + 1)) (
                                              chk (0 ≤ (((Int.tmod (Int.tmod u 10000) 100) * 2) + 1) ∧ (((Int.tmod (Int.tmod u 10000) 100) * 2) + 1) < (smallsS.length : Int)) (
                                                chk (0 ≤ ((Int.tmod (Int.tmod u 10000) 100) * 2) ∧ ((Int.tmod (Int.tmod u 10000) 100) * 2) < (smallsS.length : Int)) (
                                                  chk (0 ≤ (nd - 1) ∧ (nd - 1) < ((Int.toNat (1 + y27) - Int.toNat 1 : Nat) : Int)) (
                                                    chk (a_.length = 24) (
                                                      chk ((Int.toNat 1 + Int.toNat (nd - 1)) < 24) (
                                                        chk (0 ≤ (nd - 2) ∧ (nd - 2) < ((Int.toNat (1 + y27) - Int.toNat 1 : Nat) : Int)) (
                                                          chk ((List.set a_ (Int.toNat 1 + Int.toNat (nd - 1)) (byteAt smallsS (((Int.tmod (Int.tmod u 10000) 100) * 2) + 1))).length = 24) (
                                                            chk ((Int.toNat 1 + Int.toNat (nd - 2)) < 24) (
                                                              chk (I64 (nd - 3)) (
                                                                chk (I64 (nd - 4)) (
                                                                  chk (InK .u32 (((Int.tdiv (Int.tmod u 10000) 100) * 2) + 1)) (
                                                                    chk (0 ≤ (((Int.tdiv (Int.tmod u 10000) 100) * 2) + 1) ∧ (((Int.tdiv (Int.tmod u 10000) 100) * 2) + 1) < (smallsS.length : Int)) (
                                                                      chk (0 ≤ ((Int.tdiv (Int.tmod u 10000) 100) * 2) ∧ ((Int.tdiv (Int.tmod u 10000) 100) * 2) < (smallsS.length : Int)) (
                                                                        chk (0 ≤ (nd - 3) ∧ (nd - 3) < ((Int.toNat (1 + y27) - Int.toNat 1 : Nat) : Int)) (
                                                                          chk ((List.set (List.set a_ (Int.toNat 1 + Int.toNat (nd - 1)) (byteAt smallsS (((Int.tmod (Int.tmod u 10000) 100) * 2) + 1))) (Int.toNat 1 + Int.toNat (nd - 2)) (byteAt smallsS ((Int.tmod (Int.tmod u 10000) 100) * 2))).length = 24) (
                                                                            chk ((Int.toNat 1 + Int.toNat (nd - 3)) < 24) (
                                                                              chk (0 ≤ (nd - 4) ∧ (nd - 4) < ((Int.toNat (1 + y27) - Int.toNat 1 : Nat) : Int)) (
                                                                                chk ((List.set (List.set (List.set a_ (Int.toNat 1 + Int.toNat (nd - 1)) (byteAt smallsS (((Int.tmod (Int.tmod u 10000) 100) * 2) + 1))) (Int.toNat 1 + Int.toNat (nd - 2)) (byteAt smallsS ((Int.tmod (Int.tmod u 10000) 100) * 2))) (Int.toNat 1 + Int.toNat (nd - 3)) (byteAt smallsS (((Int.tdiv (Int.tmod u 10000) 100) * 2) + 1))).length = 24) (
                                                                                  chk ((Int.toNat 1 + Int.toNat (nd - 4)) < 24) (
                                                                                    chk (I64 (nd - 4)) (
                                                                                      some ((nd - 4), (Int.tdiv u 10000), List.set (List.set (List.set (List.set a_ (Int.toNat 1 + Int.toNat (nd - 1)) (byteAt smallsS (((Int.tmod (Int.tmod u 10000) 100) * 2) + 1))) (Int.toNat 1 + Int.toNat (nd - 2)) (byteAt smallsS ((Int.tmod (Int.tmod u 10000) 100) * 2))) (Int.toNat 1 + Int.toNat (nd - 3)) (byteAt smallsS (((Int.tdiv (Int.tmod u 10000) 100) * 2) + 1))) (Int.toNat 1 + Int.toNat (nd - 4)) (byteAt smallsS ((Int.tdiv (Int.tmod u 10000) 100) * 2))))))))))))))))))))))))))))))))
                          else
                            some (nd, u, a_)) fun (nd_2, x, a__2) =>
                          andx (
                            if nd_2 ≥ 2 then
                              chk ((0 : Int) < 100) (
                                chk (InK .u32 ((Int.tmod x 100) * 2)) (
                                  chk ((0 : Int) < 100 ∧ InK .u32 (Int.tdiv x 100)) (
                                    chk (I64 (nd_2 - 1)) (
                                      chk (I64 (nd_2 - 2)) (
                                        chk (InK .u32 (((Int.tmod x 100) * 2) + 1)) (
                                          chk (0 ≤ (((Int.tmod x 100) * 2) + 1) ∧ (((Int.tmod x 100) * 2) + 1) < (smallsS.length : Int)) (
                                            chk (0 ≤ ((Int.tmod x 100) * 2) ∧ ((Int.tmod x 100) * 2) < (smallsS.length : Int)) (
                                              chk (0 ≤ (nd_2 - 1) ∧ (nd_2 - 1) < ((Int.toNat (1 + y27) - Int.toNat 1 : Nat) : Int)) (
                                                chk (a__2.length = 24) (
                                                  chk ((Int.toNat 1 + Int.toNat (nd_2 - 1)) < 24) (
                                                    chk (0 ≤ (nd_2 - 2) ∧ (nd_2 - 2) < ((Int.toNat (1 + y27) - Int.toNat 1 : Nat) : Int)) (
                                                      chk ((List.set a__2 (Int.toNat 1 + Int.toNat (nd_2 - 1)) (byteAt smallsS (((Int.tmod x 100) * 2) + 1))).length = 24) (
                                                        chk ((Int.toNat 1 + Int.toNat (nd_2 - 2)) < 24) (
                                                          chk (I64 (nd_2 - 2)) (
                                                            some ((nd_2 - 2), (Int.tdiv x 100), List.set (List.set a__2 (Int.toNat 1 + Int.toNat (nd_2 - 1)) (byteAt smallsS (((Int.tmod x 100) * 2) + 1))) (Int.toNat 1 + Int.toNat (nd_2 - 2)) (byteAt smallsS ((Int.tmod x 100) * 2))))))))))))))))))
                            else
                              some (nd_2, x, a__2)) fun (nd_3, x_2, a__3) =>
                            if nd_3 > 0 then
                              chk (InK .u32 (48 + x_2)) (
                                chk (0 ≤ (48 + x_2) ∧ (48 + x_2) < 256) (
                                  chk (0 ≤ (0 : Int) ∧ (0 : Int) < ((Int.toNat (1 + y27) - Int.toNat 1 : Nat) : Int)) (
                                    chk (a__3.length = 24) (
                                      chk ((Int.toNat 1 + Int.toNat 0) < 24) (
                                        some (List.set a__3 (Int.toNat 1 + Int.toNat 0) (48 + x_2)))))))
                            else
                              some a__3)) fun a_ =>
                    if i < 0 then
                      chk ((a_.length : Int) * 1 = 24) (
                        el a_ 0 fun a35 =>
                        chk (I64 (1 + y27)) (
                          none))
                    else
                      chk (I64 (1 + y27)) (
                        chk (a_.length = 24) (
                          chk ((0 ≤ (1 : Int) ∧ (1 : Int) ≤ (1 + y27)) ∧ (1 + y27) ≤ 24 ∧ (1 : Int) < 24) (
                            chk (a_.length = 24) (
                              chk (0 < (Int.toNat (1 + y27) - Int.toNat 1) ∧ Int.toNat 1 + (Int.toNat (1 + y27) - Int.toNat 1) ≤ 24) (
                                some (u8L (List.take (Int.toNat (1 + y27) - Int.toNat 1) (List.drop (Int.toNat 1) a_))))))))))))
  else
    chk (0 ≤ i ∧ i < 18446744073709551616) (
      none)
noncomputable def P_Itoa (i : Int) : Option Str :=
 andx (P_i_FormatInt i 10) fun y4 =>
  some y4
noncomputable def P_i_Atoi_L1 (s_2 : Str) : (Int × Int) → Option (Stp (Int × Int) (Ex Int (Ex Unit Int))) := fun (n, x49) =>
  if x49 < (s_2.length : Int) then
    el s_2 x49 fun a51 =>
    chk (InK .u8 ((a51.toNat : Int) - 48)) (
      if ((a51.toNat : Int) - 48) > 9 then
        none
      else
        chk (I64 (n * 10)) (
          chk (-9223372036854775808 ≤ ((a51.toNat : Int) - 48) ∧ ((a51.toNat : Int) - 48) < 9223372036854775808) (
            chk (I64 ((n * 10) + ((a51.toNat : Int) - 48))) (
              chk (I64 (x49 + 1)) (
                some (Stp.ag (((n * 10) + ((a51.toNat : Int) - 48)), (x49 + 1))))))))
  else
    some (Stp.dn (Ex.nx n))
noncomputable def P_i_Atoi (s : Str) : Option Int :=
  seqx (
    andx (
      if 0 < (s.length : Int) then
        some (decide ((s.length : Int) < 19))
      else
        some false) fun x30 =>
      if x30 = true then
        seqx (
          andx (
            chk ((0 : Int) ≤ 0 ∧ 0 < (s.length : Int)) (
              if (byteAt s 0) = 45 then
                some true
              else
                chk ((0 : Int) ≤ 0 ∧ 0 < (s.length : Int)) (
                  some (decide ((byteAt s 0) = 43))))) fun x39 =>
            if x39 = true then
              chk (0 ≤ (1 : Int) ∧ (1 : Int) ≤ (s.length : Int)) (
                if ((subs s 1 s.length).length : Int) < 1 then
                  none
                else
                  some (Ex.nx (subs s 1 s.length)))
            else
              some (Ex.nx s)) fun s_2 =>
          seqx (
            iter (P_i_Atoi_L1 s_2) (0, 0)) fun n =>
            andx (
              chk ((0 : Int) ≤ 0 ∧ 0 < (s.length : Int)) (
                if (byteAt s 0) = 45 then
                  chk (I64 (-n)) (
                    some (-n))
                else
                  some n)) fun n_2 =>
              some (Ex.rt n_2)
      else
        some (Ex.nx ())) fun _ =>
    none
noncomputable def P_Atoi (s : Str) : Option Int :=
 andx (P_i_Atoi s) fun y8 =>
  some y8
noncomputable def P_r1_Digits_L1 : (Int × Str) → Option (Stp (Int × Str) (Int × Str)) := fun (n_3, out) =>
  if n_3 > 9 then
    chk ((0 : Int) < 10) (
      chk (I64 (48 + (Int.tmod n_3 10))) (
        chk (0 ≤ (48 + (Int.tmod n_3 10)) ∧ (48 + (Int.tmod n_3 10)) < 256) (
          chk (0 < [(48 + (Int.tmod n_3 10))].length) (
            chk (((u8L [(48 + (Int.tmod n_3 10))]).length : Int) + out.length ≤ 9223372036854775807) (
              chk ((0 : Int) < 10 ∧ I64 n_3) (
                some (Stp.ag ((Int.tdiv n_3 10), ((u8L [(48 + (Int.tmod n_3 10))]) ++ out)))))))))
  else
    some (Stp.dn (n_3, out))
noncomputable def P_r1_Digits (n : Int) : Option Str :=
  andx (
    if n < 0 then
      chk (I64 (-n)) (
        some (-n, ([45] : Str)))
    else
      some (n, ([] : Str))) fun (n_2, sign) =>
    andx (
      iter (P_r1_Digits_L1) (n_2, ([] : Str))) fun (n_3, out) =>
      chk (I64 (48 + n_3)) (
        chk (0 ≤ (48 + n_3) ∧ (48 + n_3) < 256) (
          chk (0 < [(48 + n_3)].length) (
            chk ((sign.length : Int) + (u8L [(48 + n_3)]).length ≤ 9223372036854775807) (
              chk (((sign ++ (u8L [(48 + n_3)])).length : Int) + out.length ≤ 9223372036854775807) (
                some ((sign ++ (u8L [(48 + n_3)])) ++ out))))))
noncomputable def P_r1_Signed_L1 (s : Str) : (Int × Int) → Option (Stp (Int × Int) (Ex Int Int)) := fun (n, i) =>
  if i < (s.length : Int) then
    chk (0 ≤ i ∧ i < (s.length : Int)) (
      andx (
        if (byteAt s i) ≥ 48 then
          some (decide ((byteAt s i) ≤ 57))
        else
          some false) fun x2 =>
        if x2 = true then
          chk (I64 (n * 10)) (
            chk (0 ≤ i ∧ i < (s.length : Int)) (
              chk (-9223372036854775808 ≤ (byteAt s i) ∧ (byteAt s i) < 9223372036854775808) (
                chk (I64 ((n * 10) + (byteAt s i))) (
                  chk (I64 (((n * 10) + (byteAt s i)) - 48)) (
                    chk (I64 (i + 1)) (
                      some (Stp.ag ((((n * 10) + (byteAt s i)) - 48), (i + 1)))))))))
        else
          some (Stp.dn (Ex.rt 2000000000)))
  else
    some (Stp.dn (Ex.nx n))
noncomputable def P_r1_Signed (s : Str) : Option Int :=
  andx (
    andx (
      if (s.length : Int) > 0 then
        chk ((0 : Int) ≤ 0 ∧ 0 < (s.length : Int)) (
          some (decide ((byteAt s 0) = 45)))
      else
        some false) fun x13 =>
      if x13 = true then
        some 1
      else
        some 0) fun from_ =>
    seqx (
      andx (
        if (s.length : Int) = from_ then
          some true
        else
          chk (I64 (from_ + 9)) (
            some (decide ((s.length : Int) > (from_ + 9))))) fun x24 =>
        if x24 = true then
          some (Ex.rt 2000000000)
        else
          some (Ex.nx ())) fun _ =>
      seqx (
        iter (P_r1_Signed_L1 s) (0, from_)) fun n =>
        andx (
          if from_ = 1 then
            chk (I64 (-n)) (
              some (-n))
          else
            some n) fun n_2 =>
          andx (P_r1_Digits n_2) fun y50 =>
            if ¬ y50 = s then
              some 2000000000
            else
              some n_2
noncomputable def P_r1_Decimal (s : Str) : Option Int :=
  andx (P_r1_Signed s) fun y5 =>
    seqx (
      andx (
        if y5 < 0 then
          some true
        else
          some (decide (y5 = 2000000000))) fun x11 =>
        if x11 = true then
          some (Ex.rt (-1))
        else
          some (Ex.nx ())) fun _ =>
      some y5
noncomputable def P_r9_parted_L1 (text : Str) : (Int × Int) → Option (Stp (Int × Int) Int) := fun (dot, i) =>
  if i < (text.length : Int) then
    andx (
      chk (0 ≤ i ∧ i < (text.length : Int)) (
        if (byteAt text i) = 46 then
          some i
        else
          some dot)) fun dot_2 =>
      chk (I64 (i + 1)) (
        some (Stp.ag (dot_2, (i + 1))))
  else
    some (Stp.dn dot)
noncomputable def P_r9_parted_L2 (text : Str) (dot : Int) : Int → Option (Stp Int (Ex Unit (Str × Int × Str × Bool))) := fun many =>
  if many ≤ ((subs text (dot + 1) text.length).length : Int) then
    seqx (
      chk (0 ≤ many ∧ many ≤ ((subs text (dot + 1) text.length).length : Int)) (
        chk (0 ≤ many ∧ many ≤ ((subs text (dot + 1) text.length).length : Int)) (
          andx (P_r1_Decimal (subs (subs text (dot + 1) text.length) 0 many)) fun y45 =>
            andx (
              andx (P_r9_in y45 1 9999) fun y50 =>
                if y50 = true then
                  if ((subs (subs text (dot + 1) text.length) many (subs text (dot + 1) text.length).length).length : Int) ≤ 2 then
                    andx (P_r9_letters (subs (subs text (dot + 1) text.length) many (subs text (dot + 1) text.length).length)) fun y58 =>
                      some y58
                  else
                    some false
                else
                  some false) fun x59 =>
              if x59 = true then
                chk (0 ≤ dot ∧ dot ≤ (text.length : Int)) (
                  some (Ex.rt (Stp.dn (Ex.rt ((subs text 0 dot), y45, (subs (subs text (dot + 1) text.length) many (subs text (dot + 1) text.length).length), true)))))
              else
                some (Ex.nx ())))) fun _ =>
      chk (I64 (many + 1)) (
        some (Stp.ag (many + 1)))
  else
    some (Stp.dn (Ex.nx ()))
noncomputable def P_r9_parted (text : Str) : Option (Str × Int × Str × Bool) :=
  andx (
    iter (P_r9_parted_L1 text) ((-1), 0)) fun dot =>
    seqx (
      andx (
        if dot < 0 then
          some true
        else
          chk (0 ≤ dot ∧ dot ≤ (text.length : Int)) (
            andx (P_r1_Name (subs text 0 dot)) fun y29 =>
              some (!y29))) fun x31 =>
        if x31 = true then
          some (Ex.rt (([] : Str), 0, ([] : Str), false))
        else
          some (Ex.nx ())) fun _ =>
      chk (I64 (dot + 1)) (
        chk (0 ≤ (dot + 1) ∧ (dot + 1) ≤ (text.length : Int)) (
          seqx (
            iter (P_r9_parted_L2 text dot) 0) fun _ =>
            some (([] : Str), 0, ([] : Str), false)))
noncomputable def P_r9_Read (qD : List Str) (qE : List qH) (qF : List qG) (text : Str) : Option (Int × Int × Str × Int) :=
 andx (P_r9_Check qD qE qF) fun (y16, y16_2, y16_3) =>
  if ¬ y16_3 = 0 then
   some (0, 0, ([] : Str), y16_3)
  else
   andx (P_r9_parted text) fun (y26, y26_2, y26_3, y26_4) =>
    if y26_4 = true then
     andx (P_r1_Place qD y26) fun y37 =>
      if y37 < 0 then
       some (0, 0, ([] : Str), 4)
      else
       some (y37, y26_2, y26_3, 0)
    else
     some (0, 0, ([] : Str), 6)
noncomputable def P_r9_Text (qD : List Str) (qE : List qH) (qF : List qG) (m_Class : Int) (m_Number : Int) (m_Suffix : Str) : Option Str :=
  el qD m_Class fun a9 =>
  chk ((a9.length : Int) + ([46] : Str).length ≤ 9223372036854775807) (
    andx (P_r1_Digits m_Number) fun y14 =>
      chk (((a9 ++ ([46] : Str)).length : Int) + y14.length ≤ 9223372036854775807) (
        chk ((((a9 ++ ([46] : Str)) ++ y14).length : Int) + m_Suffix.length ≤ 9223372036854775807) (
          some (((a9 ++ ([46] : Str)) ++ y14) ++ m_Suffix))))
noncomputable def P_r9_Write (qD : List Str) (qE : List qH) (qF : List qG) (m_Class : Int) (m_Number : Int) (m_Suffix : Str) : Option (Str × Int) :=
  andx (P_r9_Check qD qE qF) fun (y11, y11_2, y11_3) =>
    andx (
      if y11_3 = 0 then
        andx (P_r9_Mark qD qE qF m_Class m_Number m_Suffix) fun y19 =>
          some y19
      else
        some y11_3) fun e =>
      if ¬ e = 0 then
        some (([] : Str), e)
      else
        andx (P_r9_Text qD qE qF m_Class m_Number m_Suffix) fun y25 =>
          some (y25, 0)
noncomputable def P_s9_must (is : Bool) : Option (Sum Unit Unit) :=
 if is = true then
  some (Sum.inl ())
 else
  some (Sum.inr ())
noncomputable def P_idxStr_L1 (s : List Str) (v : Str) : Int → Option (Stp Int (Ex Unit Int)) := fun x8 =>
  if x8 < (s.length : Int) then
    el s x8 fun a14 =>
    if v = a14 then
      some (Stp.dn (Ex.rt x8))
    else
      chk (I64 (x8 + 1)) (
        some (Stp.ag (x8 + 1)))
  else
    some (Stp.dn (Ex.nx ()))
noncomputable def P_idxStr (s : List Str) (v : Str) : Option Int :=
  seqx (
    iter (P_idxStr_L1 s v) 0) fun _ =>
    some (-1)
noncomputable def P_s9_Read_L1 (text : Str) : Int → Option (Stp Int (Ex Unit Int)) := fun i =>
  if i ≥ 0 then
    chk (0 ≤ i ∧ i < (text.length : Int)) (
      if (byteAt text i) = 46 then
        some (Stp.dn (Ex.rt i))
      else
        chk (I64 (i - 1)) (
          some (Stp.ag (i - 1))))
  else
    some (Stp.dn (Ex.nx ()))
noncomputable def P_s9_Read_L2 (text : Str) (y7 : Int) : (Int × Nat) → Option (Stp (Int × Nat) Int) := fun (digits, pos) =>
  if pos < (subs text (y7 + 1) text.length).length then
    seqx (
      andx (
        if (runeAt (subs text (y7 + 1) text.length) pos) < 48 then
          some true
        else
          some (decide ((runeAt (subs text (y7 + 1) text.length) pos) > 57))) fun x45 =>
        if x45 = true then
          some (Ex.rt (Stp.dn digits))
        else
          some (Ex.nx ())) fun _ =>
      chk (I64 (digits + 1)) (
        some (Stp.ag ((digits + 1), (pos + runeLen (subs text (y7 + 1) text.length) pos))))
  else
    some (Stp.dn digits)
noncomputable def P_s9_Read (qD : List Str) (qE : List qH) (qF : List qG) (text : Str) : Option (Int × Int × Str × Int) :=
  andx (P_s9_open qD qE qF) fun y13 =>
    if ¬ y13 = 0 then
      some (0, 0, ([] : Str), y13)
    else
      andx (
        seqx (
          chk (I64 ((text.length : Int) - 1)) (
            iter (P_s9_Read_L1 text) ((text.length : Int) - 1))) fun _ =>
          some (-1)) fun y7 =>
        seqx (
          if y7 ≥ 0 then
            chk (0 ≤ y7 ∧ y7 ≤ (text.length : Int)) (
              andx (P_q_Name (subs text 0 y7)) fun y29 =>
                andx (P_s9_must y29) fun y =>
                  match y with
                  | .inl () =>
                    some (Ex.nx ())
                  | .inr () =>
                    some (Ex.rt (0, 0, ([] : Str), 6)))
          else
            andx (P_s9_must false) fun y =>
              match y with
              | .inl () =>
                some (Ex.nx ())
              | .inr () =>
                some (Ex.rt (0, 0, ([] : Str), 6))) fun _ =>
          andx (
            chk (I64 (y7 + 1)) (
              chk (0 ≤ (y7 + 1) ∧ (y7 + 1) ≤ (text.length : Int)) (
                iter (P_s9_Read_L2 text y7) (0, 0)))) fun digits =>
            seqx (
              andx (P_s9_out 1 4 [digits]) fun y50 =>
                if y50 = true then
                  andx (P_s9_must false) fun y =>
                    match y with
                    | .inl () =>
                      some (Ex.nx ())
                    | .inr () =>
                      some (Ex.rt (0, 0, ([] : Str), 6))
                else
                  chk (I64 (y7 + 1)) (
                    chk (0 ≤ (y7 + 1) ∧ (y7 + 1) < (text.length : Int)) (
                      andx (P_s9_must (decide (¬ (byteAt text (y7 + 1)) = 48))) fun y =>
                        match y with
                        | .inl () =>
                          some (Ex.nx ())
                        | .inr () =>
                          some (Ex.rt (0, 0, ([] : Str), 6))))) fun _ =>
              chk (I64 (y7 + 1)) (
                chk (I64 (y7 + 1)) (
                  chk (I64 ((y7 + 1) + digits)) (
                    chk ((0 ≤ (y7 + 1) ∧ (y7 + 1) ≤ ((y7 + 1) + digits)) ∧ ((y7 + 1) + digits) ≤ (text.length : Int)) (
                      andx (P_Atoi (subs text (y7 + 1) ((y7 + 1) + digits))) fun y69 =>
                        chk (I64 (y7 + 1)) (
                          chk (I64 ((y7 + 1) + digits)) (
                            chk (0 ≤ ((y7 + 1) + digits) ∧ ((y7 + 1) + digits) ≤ (text.length : Int)) (
                              andx (P_s9_mark [([] : Str)] [] [] 0 y69 (subs text ((y7 + 1) + digits) text.length)) fun y84 =>
                                andx (P_s9_must (decide (y84 = 0))) fun y =>
                                  match y with
                                  | .inl () =>
                                    chk (0 ≤ y7 ∧ y7 ≤ (text.length : Int)) (
                                      andx (P_idxStr qD (subs text 0 y7)) fun y93 =>
                                        if y93 < 0 then
                                          some (0, 0, ([] : Str), 4)
                                        else
                                          some (y93, y69, (subs text ((y7 + 1) + digits) text.length), 0))
                                  | .inr () =>
                                    some (0, 0, ([] : Str), 6))))))))
noncomputable def P_s9_Write (qD : List Str) (qE : List qH) (qF : List qG) (m_Class : Int) (m_Number : Int) (m_Suffix : Str) : Option (Str × Int) :=
  andx (P_s9_open qD qE qF) fun y10 =>
    andx (
      if y10 = 0 then
        andx (P_s9_mark qD qE qF m_Class m_Number m_Suffix) fun y17 =>
          some y17
      else
        some y10) fun e =>
      if ¬ e = 0 then
        some (([] : Str), e)
      else
        el qD m_Class fun a26 =>
        chk ((a26.length : Int) + ([46] : Str).length ≤ 9223372036854775807) (
          andx (P_Itoa m_Number) fun y31 =>
            chk (((a26 ++ ([46] : Str)).length : Int) + y31.length ≤ 9223372036854775807) (
              chk ((((a26 ++ ([46] : Str)) ++ y31).length : Int) + m_Suffix.length ≤ 9223372036854775807) (
                some ((((a26 ++ ([46] : Str)) ++ y31) ++ m_Suffix), 0))))
noncomputable def P_law9_mark (class_ : Int) (number : Int) (suffix : Str) : Option (Int × Int × Str) :=
 some (class_, number, suffix)
noncomputable def P_law_ShelfMarks (qD : List Str) (qE : List qH) (qF : List qG) (x_0_Class : Int) (x_0_Number : Int) (x_0_Suffix : Str) (x_1_Class : Int) (x_1_Number : Int) (x_1_Suffix : Str) (text : Str) : Option Bool :=
  andx (P_s9_Check qD qE qF) fun (y19, y19_2, y19_3) =>
    andx (P_r9_Check qD qE qF) fun (y25, y25_2, y25_3) =>
      seqx (
        andx (
          if ¬ y19 = y25 then
            some true
          else
            if ¬ y19_2 = y25_2 then
              some true
            else
              some (decide (¬ y19_3 = y25_3))) fun x41 =>
          if x41 = true then
            some (Ex.rt false)
          else
            some (Ex.nx ())) fun _ =>
        andx (P_s9_Write qD qE qF x_0_Class x_0_Number x_0_Suffix) fun (y46, y46_2) =>
          andx (P_r9_Write qD qE qF x_0_Class x_0_Number x_0_Suffix) fun (y53, y53_2) =>
            seqx (
              andx (
                if ¬ y46 = y53 then
                  some true
                else
                  some (decide (¬ y46_2 = y53_2))) fun x63 =>
                if x63 = true then
                  some (Ex.rt false)
                else
                  some (Ex.nx ())) fun _ =>
              andx (P_s9_Read qD qE qF text) fun (y67, y67_2, y67_3, y67_4) =>
                andx (P_r9_Read qD qE qF text) fun (y73, y73_2, y73_3, y73_4) =>
                  seqx (
                    andx (
                      if ¬ (y67 = y73 ∧ y67_2 = y73_2 ∧ y67_3 = y73_3) then
                        some true
                      else
                        some (decide (¬ y67_4 = y73_4))) fun x83 =>
                      if x83 = true then
                        some (Ex.rt false)
                      else
                        some (Ex.nx ())) fun _ =>
                    andx (P_s9_Before qD qE qF x_0_Class x_0_Number x_0_Suffix x_1_Class x_1_Number x_1_Suffix) fun (y90, y90_2) =>
                      andx (P_r9_Before qD qE qF x_0_Class x_0_Number x_0_Suffix x_1_Class x_1_Number x_1_Suffix) fun (y99, y99_2) =>
                        andx (
                          if y90 = y99 then
                            if y90_2 = y99_2 then
                              some true
                            else
                              some false
                          else
                            some false) fun x6 =>
                          some x6
noncomputable def P_law_ShelfRound (qD : List Str) (qE : List qH) (qF : List qG) (m_Class : Int) (m_Number : Int) (m_Suffix : Str) (text : Str) : Option Bool :=
  andx (P_s9_Write qD qE qF m_Class m_Number m_Suffix) fun (y18, y18_2) =>
    andx (P_law9_valid qD qE qF) fun y22 =>
      if y22 = true then
        seqx (
          if y18_2 = 0 then
            andx (P_s9_Read qD qE qF y18) fun (y38, y38_2, y38_3, y38_4) =>
              andx (
                if ¬ y38_4 = 0 then
                  some true
                else
                  some (decide (¬ (y38 = m_Class ∧ y38_2 = m_Number ∧ y38_3 = m_Suffix)))) fun x47 =>
                if x47 = true then
                  some (Ex.rt false)
                else
                  some (Ex.nx ())
          else
            some (Ex.nx ())) fun _ =>
          andx (P_s9_Read qD qE qF text) fun (y51, y51_2, y51_3, y51_4) =>
            if ¬ y51_4 = 0 then
              andx (
                andx (P_law9_mark 0 0 ([] : Str)) fun (y57, y57_2, y57_3) =>
                  if y51 = y57 ∧ y51_2 = y57_2 ∧ y51_3 = y57_3 then
                    some true
                  else
                    some false) fun x6 =>
                some x6
            else
              andx (P_s9_Write qD qE qF y51 y51_2 y51_3) fun (y65, y65_2) =>
                andx (
                  if y65_2 = 0 then
                    if y65 = text then
                      some true
                    else
                      some false
                  else
                    some false) fun x6 =>
                  some x6
      else
        andx (
          if ¬ y18_2 = 0 then
            if y18 = ([] : Str) then
              some true
            else
              some false
          else
            some false) fun x6 =>
          some x6
end Go.Am
end
