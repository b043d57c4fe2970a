/- Part 3. -/
import Derived.Test.YthckcbfijdambaaCopyAskedP2
import Derived.ChangeArms
import Derived.ChangeSlices
section
namespace Go.Am.Ythckcbfijdambaa
open Go.Am Go.RowKit
set_option linter.unusedVariables false
set_option linter.unusedSimpArgs false
theorem q_out (lo : Int) (hi : Int) (x : GS encI) (hb : x.l.length < 4611686018427387904) : Comes (EL 0) 73 [iv lo, iv hi, x.v] (bv (decide (∃ n ∈ x.l, n < lo ∨ hi < n))) := by
 refine Comes.of (TF.enter (fn := Go.Proofs.Try.f73) rfl rfl rfl rfl rfl ?_);refine zU rfl (zQ 1 [_] R7 (fun b3=>zQ 1 [_] R7 (fun b4=>zA R4 (zN (zU rfl (zM R4 (zV R3 (Val.makeFunc rfl rfl) (TO.callIn rfl rfl rfl rfl rfl rfl (orcN rfl) (TF.enter (fn := Go.Proofs.Try.f85) rfl rfl rfl rfl rfl (zU rfl (zA R4 (zN (zU rfl (zM R4 (zM R4 (TO.callIn rfl rfl rfl rfl rfl rfl (orcN rfl) (TF.enter (fn := Go.Proofs.Try.f104) rfl rfl rfl rfl rfl (zU rfl (zA R4 (zN (zS (zU rfl (zM R4 (zV R3 (Val.len_gs rfl rfl) (zM R4 (zN (zB (T.loop (fun μ s => ∃ i : Nat, ∃ j : Int, μ = x.l.length - i ∧ j = i ∧ i ≤ x.l.length ∧ (∀ n ∈ x.l.take i, ¬ (n < lo ∨ hi < n)) ∧ s = ⟨[], [(0, x.v), (1, .func 101 [] [.ptr b3 0 1, .ptr b4 0 1]), (7, iv (x.l.length : Int)), (8, iv j)], [.row b4 1 [iv hi], .row b3 1 [iv lo]]⟩) (k := _) (s' := _) ⟨0, 0, rfl, (by first | rfl | omega | (simp; done) | (simp; omega) | simp_all), (by first | rfl | omega | (simp; done) | (simp; omega) | simp_all), (by first | rfl | omega | (simp; done) | (simp; omega) | simp_all), rfl⟩ ⟨rfl, (keep_cons rfl (keep_cons rfl (keep_cons rfl (keep_cons rfl keep_nil)))), (.cons_cons _ (.cons_cons _ .slnil))⟩ ?_))))))))))))))))))))))))))));rintro μ _ ⟨i, j, hk0, hj, hil, hall, rfl⟩;subst hj;refine zU rfl (TO.lss rfl rfl rfl rfl rfl (fun c9 hc9=>zN (zS ?_)));cases c9 with
 | true =>
  replace hc9 := btrue hc9;refine zC rfl (zK (zS (zB (zU rfl (zM R4 (zA R4 (zN (zU rfl (zM R4 (zM R4 (zM R4 (TO.index_gs rfl rfl rfl ⟨rfl, rfl⟩ rfl rfl aO (fun a14 ra14 ea14=>?_)))))))))))))
  try simp only [Int.toNat_natCast] at ea14
  refine zV R3 (Val.load_tree ⟨_, rfl, rfl⟩ rfl) (TO.callIn rfl rfl rfl rfl rfl rfl (orcN rfl) (TF.enter (fn := Go.Proofs.Try.f101) rfl rfl rfl rfl rfl (zU rfl (zA R4 (zN (zU rfl (zM R4 (zL 1 R3 R6 (TO.lss rfl rfl rfl rfl rfl (fun c7 hc7=>zM R4 ?_))))))))));cases c7 with
  | true =>
   replace hc7 := btrue hc7;refine zO R3 (zO R3 (zO R3 (zP R6 (zA R4 (zN (zR ?_))))));refine ⟨rfl, _, rfl, ?_⟩;refine zN (zC rfl (zU rfl (zM R4 (zA R4 (zN (zR ?_))))));refine ⟨rfl, _, rfl, ?_⟩;refine TO.geq rfl rfl rfl rfl rfl (fun c8 hc8=>zA R4 (zN (zR ?_)));refine ⟨rfl, _, rfl, ?_⟩;refine zA R4 (zN (zR ?_));cases c8 with
   | true =>
    replace hc8 := btrue hc8;exact ⟨rfl, _, rfl, RefN.cast .lit (bv_t (by first | (exfalso; omega) | exact ⟨_, List.mem_of_getElem? ea14, by omega⟩ | (rw [List.take_of_length_le aO] at hall; exact fun ⟨n, h1, h2⟩ => hall n h1 h2)))⟩
   | false =>
    replace hc8 := bfalse hc8;exact ⟨rfl, _, rfl, RefN.cast .lit (bv_f (by first | (exfalso; omega) | exact ⟨_, List.mem_of_getElem? ea14, by omega⟩ | (rw [List.take_of_length_le aO] at hall; exact fun ⟨n, h1, h2⟩ => hall n h1 h2)))⟩
  | false =>
   replace hc7 := bfalse hc7;refine zM R4 (zL 0 R3 R6 (TO.gtr rfl rfl rfl rfl rfl (fun c11 hc11=>zP R6 (zA R4 (zN (zR ?_))))));refine ⟨rfl, _, rfl, ?_⟩;refine zN ?_;cases c11 with
   | true =>
    replace hc11 := btrue hc11;refine zC rfl (zU rfl (zM R4 (zA R4 (zN (zR ?_)))));refine ⟨rfl, _, rfl, ?_⟩;refine TO.geq rfl rfl rfl rfl rfl (fun c8 hc8=>zA R4 (zN (zR ?_)));refine ⟨rfl, _, rfl, ?_⟩;refine zA R4 (zN (zR ?_));cases c8 with
    | true =>
     replace hc8 := btrue hc8;exact ⟨rfl, _, rfl, RefN.cast .lit (bv_t (by first | (exfalso; omega) | exact ⟨_, List.mem_of_getElem? ea14, by omega⟩ | (rw [List.take_of_length_le aO] at hall; exact fun ⟨n, h1, h2⟩ => hall n h1 h2)))⟩
    | false =>
     replace hc8 := bfalse hc8;exact ⟨rfl, _, rfl, RefN.cast .lit (bv_f (by first | (exfalso; omega) | exact ⟨_, List.mem_of_getElem? ea14, by omega⟩ | (rw [List.take_of_length_le aO] at hall; exact fun ⟨n, h1, h2⟩ => hall n h1 h2)))⟩
   | false =>
    replace hc11 := bfalse hc11;refine zD rfl (zK (zT rfl (zV R3 (Val.add rfl rfl aO) (zM R4 (zN ?_)))));refine ⟨_, _, aO, ⟨i + 1, _, rfl, (by first | omega | simp_all), (by first | omega | simp_all), (by rw [take_snoc ea14]; intro n hn; rcases List.mem_append.1 hn with hn | hn; exact hall n hn; simp at hn; subst hn; omega), rfl⟩, ⟨rfl, (keep_cons rfl (keep_cons rfl (keep_cons rfl (keep_cons rfl keep_nil)))), (.cons_cons _ (.cons_cons _ .slnil))⟩⟩
 | false =>
  replace hc9 := bfalse hc9;refine zD rfl (zE (zU rfl (zA R4 (zN (zR ?_)))));refine ⟨rfl, _, rfl, ?_⟩;refine TO.geq rfl rfl rfl rfl rfl (fun c8 hc8=>zA R4 (zN (zR ?_)));refine ⟨rfl, _, rfl, ?_⟩;refine zA R4 (zN (zR ?_));cases c8 with
  | true =>
   replace hc8 := btrue hc8;exact ⟨rfl, _, rfl, RefN.cast .lit (bv_t (by first | (exfalso; omega) | exact ⟨_, List.mem_of_getElem? ea14, by omega⟩ | (rw [List.take_of_length_le aO] at hall; exact fun ⟨n, h1, h2⟩ => hall n h1 h2)))⟩
  | false =>
   replace hc8 := bfalse hc8;exact ⟨rfl, _, rfl, RefN.cast .lit (bv_f (by first | (exfalso; omega) | exact ⟨_, List.mem_of_getElem? ea14, by omega⟩ | (rw [List.take_of_length_le aO] at hall; exact fun ⟨n, h1, h2⟩ => hall n h1 h2)))⟩
theorem c_outside (lo : Int) (hi : Int) (x : GS encI) (hb : x.l.length < 4611686018427387904) : Comes (EL 0) 58 [iv lo, iv hi, x.v] (bv (decide (∃ n ∈ x.l, n < lo ∨ hi < n))) := by
 refine Comes.of (TF.enter (fn := Go.Proofs.Try.f58) rfl rfl rfl rfl rfl ?_);refine zU rfl (zQ 1 [_] R7 (fun b3=>zQ 1 [_] R7 (fun b4=>zA R4 (zN (zU rfl (zM R4 (zV R3 (Val.makeFunc rfl rfl) (TO.callIn rfl rfl rfl rfl rfl rfl (orcN rfl) (TF.enter (fn := Go.Proofs.Try.f85) rfl rfl rfl rfl rfl (zU rfl (zA R4 (zN (zU rfl (zM R4 (zM R4 (TO.callIn rfl rfl rfl rfl rfl rfl (orcN rfl) (TF.enter (fn := Go.Proofs.Try.f104) rfl rfl rfl rfl rfl (zU rfl (zA R4 (zN (zS (zU rfl (zM R4 (zV R3 (Val.len_gs rfl rfl) (zM R4 (zN (zB (T.loop (fun μ s => ∃ i : Nat, ∃ j : Int, μ = x.l.length - i ∧ j = i ∧ i ≤ x.l.length ∧ (∀ n ∈ x.l.take i, ¬ (n < lo ∨ hi < n)) ∧ s = ⟨[], [(0, x.v), (1, .func 86 [] [.ptr b3 0 1, .ptr b4 0 1]), (7, iv (x.l.length : Int)), (8, iv j)], [.row b4 1 [iv hi], .row b3 1 [iv lo]]⟩) (k := _) (s' := _) ⟨0, 0, rfl, (by first | rfl | omega | (simp; done) | (simp; omega) | simp_all), (by first | rfl | omega | (simp; done) | (simp; omega) | simp_all), (by first | rfl | omega | (simp; done) | (simp; omega) | simp_all), rfl⟩ ⟨rfl, (keep_cons rfl (keep_cons rfl (keep_cons rfl (keep_cons rfl keep_nil)))), (.cons_cons _ (.cons_cons _ .slnil))⟩ ?_))))))))))))))))))))))))))));rintro μ _ ⟨i, j, hk0, hj, hil, hall, rfl⟩;subst hj;refine zU rfl (TO.lss rfl rfl rfl rfl rfl (fun c9 hc9=>zN (zS ?_)));cases c9 with
 | true =>
  replace hc9 := btrue hc9;refine zC rfl (zK (zS (zB (zU rfl (zM R4 (zA R4 (zN (zU rfl (zM R4 (zM R4 (zM R4 (TO.index_gs rfl rfl rfl ⟨rfl, rfl⟩ rfl rfl aO (fun a14 ra14 ea14=>?_)))))))))))))
  try simp only [Int.toNat_natCast] at ea14
  refine zV R3 (Val.load_tree ⟨_, rfl, rfl⟩ rfl) (TO.callIn rfl rfl rfl rfl rfl rfl (orcN rfl) (TF.enter (fn := Go.Proofs.Try.f86) rfl rfl rfl rfl rfl (zU rfl (zA R4 (zN (zU rfl (zM R4 (zL 1 R3 R6 (TO.lss rfl rfl rfl rfl rfl (fun c7 hc7=>zM R4 ?_))))))))));cases c7 with
  | true =>
   replace hc7 := btrue hc7;refine zO R3 (zO R3 (zO R3 (zP R6 (zA R4 (zN (zR ?_))))));refine ⟨rfl, _, rfl, ?_⟩;refine zN (zC rfl (zU rfl (zM R4 (zA R4 (zN (zR ?_))))));refine ⟨rfl, _, rfl, ?_⟩;refine TO.geq rfl rfl rfl rfl rfl (fun c8 hc8=>zA R4 (zN (zR ?_)));refine ⟨rfl, _, rfl, ?_⟩;refine zA R4 (zN (zR ?_));cases c8 with
   | true =>
    replace hc8 := btrue hc8;exact ⟨rfl, _, rfl, RefN.cast .lit (bv_t (by first | (exfalso; omega) | exact ⟨_, List.mem_of_getElem? ea14, by omega⟩ | (rw [List.take_of_length_le aO] at hall; exact fun ⟨n, h1, h2⟩ => hall n h1 h2)))⟩
   | false =>
    replace hc8 := bfalse hc8;exact ⟨rfl, _, rfl, RefN.cast .lit (bv_f (by first | (exfalso; omega) | exact ⟨_, List.mem_of_getElem? ea14, by omega⟩ | (rw [List.take_of_length_le aO] at hall; exact fun ⟨n, h1, h2⟩ => hall n h1 h2)))⟩
  | false =>
   replace hc7 := bfalse hc7;refine zM R4 (zL 0 R3 R6 (TO.gtr rfl rfl rfl rfl rfl (fun c11 hc11=>zP R6 (zA R4 (zN (zR ?_))))));refine ⟨rfl, _, rfl, ?_⟩;refine zN ?_;cases c11 with
   | true =>
    replace hc11 := btrue hc11;refine zC rfl (zU rfl (zM R4 (zA R4 (zN (zR ?_)))));refine ⟨rfl, _, rfl, ?_⟩;refine TO.geq rfl rfl rfl rfl rfl (fun c8 hc8=>zA R4 (zN (zR ?_)));refine ⟨rfl, _, rfl, ?_⟩;refine zA R4 (zN (zR ?_));cases c8 with
    | true =>
     replace hc8 := btrue hc8;exact ⟨rfl, _, rfl, RefN.cast .lit (bv_t (by first | (exfalso; omega) | exact ⟨_, List.mem_of_getElem? ea14, by omega⟩ | (rw [List.take_of_length_le aO] at hall; exact fun ⟨n, h1, h2⟩ => hall n h1 h2)))⟩
    | false =>
     replace hc8 := bfalse hc8;exact ⟨rfl, _, rfl, RefN.cast .lit (bv_f (by first | (exfalso; omega) | exact ⟨_, List.mem_of_getElem? ea14, by omega⟩ | (rw [List.take_of_length_le aO] at hall; exact fun ⟨n, h1, h2⟩ => hall n h1 h2)))⟩
   | false =>
    replace hc11 := bfalse hc11;refine zD rfl (zK (zT rfl (zV R3 (Val.add rfl rfl aO) (zM R4 (zN ?_)))));refine ⟨_, _, aO, ⟨i + 1, _, rfl, (by first | omega | simp_all), (by first | omega | simp_all), (by rw [take_snoc ea14]; intro n hn; rcases List.mem_append.1 hn with hn | hn; exact hall n hn; simp at hn; subst hn; omega), rfl⟩, ⟨rfl, (keep_cons rfl (keep_cons rfl (keep_cons rfl (keep_cons rfl keep_nil)))), (.cons_cons _ (.cons_cons _ .slnil))⟩⟩
 | false =>
  replace hc9 := bfalse hc9;refine zD rfl (zE (zU rfl (zA R4 (zN (zR ?_)))));refine ⟨rfl, _, rfl, ?_⟩;refine TO.geq rfl rfl rfl rfl rfl (fun c8 hc8=>zA R4 (zN (zR ?_)));refine ⟨rfl, _, rfl, ?_⟩;refine zA R4 (zN (zR ?_));cases c8 with
  | true =>
   replace hc8 := btrue hc8;exact ⟨rfl, _, rfl, RefN.cast .lit (bv_t (by first | (exfalso; omega) | exact ⟨_, List.mem_of_getElem? ea14, by omega⟩ | (rw [List.take_of_length_le aO] at hall; exact fun ⟨n, h1, h2⟩ => hall n h1 h2)))⟩
  | false =>
   replace hc8 := bfalse hc8;exact ⟨rfl, _, rfl, RefN.cast .lit (bv_f (by first | (exfalso; omega) | exact ⟨_, List.mem_of_getElem? ea14, by omega⟩ | (rw [List.take_of_length_le aO] at hall; exact fun ⟨n, h1, h2⟩ => hall n h1 h2)))⟩
theorem q_lettered (s : Sg)  : Comes (EL 0) 77 [.agg (encS.f s)] (bv (decide (s.letter < 23))) := by
 refine Comes.of (TF.enter (fn := Go.Proofs.Try.f77) rfl rfl rfl rfl rfl ?_);refine zU rfl (zQ 2 [_,_] R7 (fun b1=>zA R4 (zN (zU rfl (zF 1 R6 (zL 0 R3 R6 (TO.lss rfl rfl rfl rfl rfl (fun c5 hc5=>zA R4 (zN (zR ?_))))))))));cases c5 with
 | true =>
  replace hc5 := btrue hc5;exact ⟨rfl, _, rfl, RefN.cast .lit (bv_t (by assumption))⟩
 | false =>
  replace hc5 := bfalse hc5;exact ⟨rfl, _, rfl, RefN.cast .lit (bv_f (by assumption))⟩
theorem q_before (a : Sg) (b : Sg)  : Comes (EL 0) 78 [.agg (encS.f a), .agg (encS.f b)] (bv (decide (a.round < b.round ∨ a.round = b.round ∧ a.letter < b.letter))) := by
 refine Comes.of (TF.enter (fn := Go.Proofs.Try.f78) rfl rfl rfl rfl rfl ?_);refine zU rfl (zQ 2 [_,_] R7 (fun b2=>zQ 2 [_,_] R7 (fun b3=>zA R4 (zN (zU rfl (zF 0 R6 (zL 1 R3 R6 (zF 0 R6 (zL 0 R3 R6 (TO.lss rfl rfl rfl rfl rfl (fun c9 hc9=>zM R4 ?_)))))))))));cases c9 with
 | true =>
  replace hc9 := btrue hc9;refine zO R3 (zO R3 (zO R3 (zO R3 (zO R3 (zO R3 (zO R3 (zO R3 (zO R3 (zO R3 (zO R3 (zO R3 (zP R6 (zA R4 (zN (zR ?_)))))))))))))));exact ⟨rfl, _, rfl, RefN.cast .lit (bv_t aO)⟩
 | false =>
  replace hc9 := bfalse hc9;refine zF 0 R6 (zL 1 R3 R6 (zF 0 R6 (zL 0 R3 R6 (TO.eql rfl rfl rfl rfl rfl (fun c15 hc15=>zM R4 ?_)))));cases c15 with
  | true =>
   replace hc15 := btrue hc15;refine zF 1 R6 (zL 1 R3 R6 (zF 1 R6 (zL 0 R3 R6 (TO.lss rfl rfl rfl rfl rfl (fun c21 hc21=>zP R6 (zP R6 (zA R4 (zN (zR ?_)))))))));cases c21 with
   | true =>
    replace hc21 := btrue hc21;exact ⟨rfl, _, rfl, RefN.cast .lit (bv_t aO)⟩
   | false =>
    replace hc21 := bfalse hc21;exact ⟨rfl, _, rfl, RefN.cast .lit (bv_f aO)⟩
  | false =>
   replace hc15 := bfalse hc15;refine zO R3 (zO R3 (zO R3 (zO R3 (zO R3 (zP R6 (zP R6 (zA R4 (zN (zR ?_)))))))));exact ⟨rfl, _, rfl, RefN.cast .lit (bv_f aO)⟩
end Go.Am.Ythckcbfijdambaa
end
section
namespace Go.Am.Ythckcbfijdambaa
open Go.Am Go.RowKit
set_option linter.unusedVariables false
set_option linter.unusedSimpArgs false
theorem q_none (s : Sg)  : Comes (EL 1) 76 [.agg (encS.f s)] (bv (decide (¬ sigOk s))) := by
 refine Comes.of (TF.enter (fn := Go.Proofs.Try.f76) rfl rfl rfl rfl rfl ?_);refine zU rfl (zQ 2 [_,_] R7 (fun b1=>zA R4 (zN (zU rfl (zF 0 R6 (zL 0 R3 R6 (TO.build1 (en := encI) (a := _) rfl rfl rfl ⟨rfl, rfl⟩ ⟨_, rfl, rfl⟩ (by decide) (by decide) rfl rfl (fun v5=>TO.callD rfl rfl rfl rfl rfl (orcL rfl aD) (.cons .lit (.cons .lit (.cons (.ownL (p := 0) rfl .ints) .nil))) (sem_of (q_out _ _ _ (by exact out1_small))) (fun c6 hc6=>?_)))))))));replace hc6 := out1 hc6;refine zM R4 ?_;cases c6 with
 | true =>
  replace hc6 := btrue hc6;refine zO R3 (zO R3 (zO R3 (zO R3 (zP R6 (zA R4 (zN (zR ?_)))))));exact ⟨rfl, _, rfl, RefN.cast .lit (bv_t (by unfold sigOk inR; omega))⟩
 | false =>
  replace hc6 := bfalse hc6;refine zF 1 R6 (zL 1 R3 R6 (TO.build1 (en := encI) (a := _) rfl rfl rfl ⟨rfl, rfl⟩ ⟨_, rfl, rfl⟩ (by decide) (by decide) rfl rfl (fun v10=>TO.callD rfl rfl rfl rfl rfl (orcL rfl aD) (.cons .lit (.cons .lit (.cons (.ownL (p := 0) rfl .ints) .nil))) (sem_of (q_out _ _ _ (by exact out1_small))) (fun c11 hc11=>?_))));replace hc11 := out1 hc11;refine zP R6 (zA R4 (zN (zR ?_)));cases c11 with
  | true =>
   replace hc11 := btrue hc11;exact ⟨rfl, _, rfl, RefN.cast .lit (bv_t (by unfold sigOk inR; omega))⟩
  | false =>
   replace hc11 := bfalse hc11;exact ⟨rfl, _, rfl, RefN.cast .lit (bv_f (by unfold sigOk inR; omega))⟩
theorem q_chg {k bg : Nat} (hk : 1 ≤ k) (g : Gat) (i : Nat) (c : Chg) (C : List Thing) (hi : g.ch.l[i]? = some c) (hb : g.ch.l.length ≤ 4) :
  TF (EL k) 80 [iv (i : Int), .agg (encC.f c), .ptr bg 0 4] (.row bg 4 [iv g.round, iv g.letter, iv g.leaves, g.ch.v] :: C) fun v hs' => v = iv (chgErr g.leaves c (if i = 0 then none else g.ch.l[i - 1]?)) ∧ hs' = .row bg 4 [iv g.round, iv g.letter, iv g.leaves, g.ch.v] :: C := by
 have hlt := (List.getElem?_eq_some_iff.1 hi).1;refine TF.enter (fn := Go.Proofs.Try.f80) rfl rfl rfl rfl rfl (zU rfl (zQ 3 [_,_,_] R7 (fun b4=>zA R4 (zN (zU rfl (zA R4 (zA R4 (zN (zS (zU rfl (zV R3 (vW 0 [_,_,_] R5 R4) (TO.callIn rfl rfl rfl rfl rfl rfl (orcN rfl) (TF.enter (fn := Go.Proofs.Try.f81) rfl rfl rfl rfl rfl (zU rfl (zQ 3 [_,_,_] R7 (fun b1=>zA R4 (zN (zS (zU rfl (zF 0 R6 (zL 0 R3 R6 (zN (zB (zU rfl (TO.eql rfl rfl rfl rfl rfl (fun c6 hc6=>zA R4 (zN ?_)))))))))))))))))))))))))));cases c6 with
 | true =>
  replace hc6 := btrue hc6;refine zC rfl (zU rfl (zF 1 R6 (zL 0 R3 R6 (zV R3 (Val.build (cs := [_]) (vs := [(_, _)]) rfl rfl rfl) (zV R3 (Val.makeIface rfl rfl rfl) (zA R4 (zN (zR ?_))))))));refine ⟨rfl, _, rfl, ?_⟩;refine zN (zB (zU rfl (zV R3 (Val.bin (r := bv false) rfl rfl (by kernel_rfl)) (zN (zD rfl (zU rfl (zV R3 (Val.assert_no rfl rfl rfl rfl rfl) (zX R5 (zX R5 (zN (zD rfl (zK (zS (zU rfl (zM R4 (zF 2 R6 (zL 2 R3 R6 (zF 1 R6 (zL 1 R3 R6 (TO.build1 (en := encI) (a := _) rfl rfl rfl ⟨rfl, rfl⟩ ⟨_, rfl, rfl⟩ (by decide) (by decide) rfl rfl (fun v20=>TO.callD rfl rfl rfl rfl rfl (orcL rfl aD) (.cons .lit (.cons .lit (.cons (.ownL (p := 0) rfl .ints) .nil))) (sem_of (q_out _ _ _ (by exact out1_small))) (fun c21 hc21=>?_))))))))))))))))))))));replace hc21 := out1 hc21;refine zM R4 ?_;cases c21 with
  | true =>
   replace hc21 := btrue hc21;refine zO R3 (zO R3 (zO R3 (zO R3 (zO R3 (zO R3 (zO R3 (zP R6 (zN (zC rfl (zU rfl (zA R4 (zN (T.keep (s' := ⟨[], [(5, _)], _ :: C⟩) (sc (.cons _ (.cons _ (.cons _ (.cons_cons _ (.refl _)))))) (zR ?_))))))))))))));exact ⟨rfl, _, rfl, congrArg iv (by first | (simp_all [chgErr, inR]; done) | (simp_all [chgErr, inR]; omega)), rfl⟩
  | false =>
   replace hc21 := bfalse hc21;refine zM R4 (TO.bmin rfl rfl rfl rfl rfl (zM R4 (zF 2 R6 (zL 2 R3 R6 (TO.build1 (en := encI) (a := _) rfl rfl rfl ⟨rfl, rfl⟩ ⟨_, rfl, rfl⟩ (by decide) (by decide) rfl rfl (fun v28=>TO.callD rfl rfl rfl rfl rfl (orcL rfl aD) (.cons .lit (.cons .lit (.cons (.ownL (p := 0) rfl .ints) .nil))) (sem_of (q_out _ _ _ (by exact out1_small))) (fun c29 hc29=>?_)))))));replace hc29 := out1 hc29;refine zP R6 (zN ?_);cases c29 with
   | true =>
    replace hc29 := btrue hc29;refine zC rfl (zU rfl (zA R4 (zN (T.keep (s' := ⟨[], [(5, _)], _ :: C⟩) (sc (.cons _ (.cons _ (.cons _ (.cons _ (.cons_cons _ (.refl _))))))) (zR ?_)))));exact ⟨rfl, _, rfl, congrArg iv (by first | (simp_all [chgErr, inR]; done) | (simp_all [chgErr, inR]; omega)), rfl⟩
   | false =>
    replace hc29 := bfalse hc29;refine zD rfl (zK (zS (zU rfl (zM R4 (TO.gtr rfl rfl rfl rfl rfl (fun c32 hc32=>zN ?_))))));cases c32 with
    | true =>
     replace hc32 := btrue hc32
     have hi0 : ¬ i = 0 := by omega
     refine zC rfl (zU rfl (zF 3 R6 (zL 4 R3 R6 (zM R4 (zV R3 (Val.sub rfl rfl aO) (TO.index_gs rfl rfl rfl ⟨rfl, rfl⟩ rfl rfl aO (fun a37 ra37 ea37=>?_)))))))
     try simp only [Int.toNat_natCast] at ea37
     have e37 : ((i : Int) - 1).toNat = i - 1 := by omega
     rw [e37] at ea37;refine zV R3 (Val.load_trees (c := _) ⟨⟨_, rfl, rfl⟩, rfl, by decide⟩ rfl rfl) (zJ 3 [_,_,_] R7 (fun b8=>TO.store_row (p := 0) (cv := [_, _, _]) (cells' := [_, _, _]) rfl rfl rfl rfl rfl rfl rfl rfl rfl rfl (by first | rfl | simp [GS.one]) (by decide) rfl (zG (_::_::_::_::_::_::C) rfl (zN (zU rfl (zF 1 R6 (zL 4 R3 R6 (zF 1 R6 (zL 0 R3 R6 (TO.lss rfl rfl rfl rfl rfl (fun c43 hc43=>zM R4 ?_)))))))))));cases c43 with
     | true =>
      replace hc43 := btrue hc43;refine zO R3 (zO R3 (zO R3 (zO R3 (zO R3 (zO R3 (zO R3 (zO R3 (zO R3 (zO R3 (zO R3 (zO R3 (zO R3 (zO R3 (zO R3 (zP R6 (zN (zC rfl (zU rfl (zA R4 (zN (T.keep (s' := ⟨[], [(5, _)], _ :: C⟩) (sc (.cons _ (.cons _ (.cons _ (.cons _ (.cons _ (.cons_cons _ (.refl _)))))))) (zR ?_))))))))))))))))))))));exact ⟨rfl, _, rfl, congrArg iv (by first | (simp_all [chgErr, inR]; done) | (simp_all [chgErr, inR]; omega)), rfl⟩
     | false =>
      replace hc43 := bfalse hc43;refine zF 1 R6 (zL 4 R3 R6 (zF 1 R6 (zL 0 R3 R6 (TO.eql rfl rfl rfl rfl rfl (fun c49 hc49=>zM R4 ?_)))));cases c49 with
      | true =>
       replace hc49 := btrue hc49;refine zF 0 R6 (zL 4 R3 R6 (TO.neq rfl rfl rfl rfl rfl (fun c53 hc53=>zM R4 ?_)));cases c53 with
       | true =>
        replace hc53 := btrue hc53;refine zO R3 (zO R3 (zO R3 (zP R6 (zP R6 (zP R6 (zN (zC rfl (zU rfl (zA R4 (zN (T.keep (s' := ⟨[], [(5, _)], _ :: C⟩) (sc (.cons _ (.cons _ (.cons _ (.cons _ (.cons _ (.cons_cons _ (.refl _)))))))) (zR ?_))))))))))));exact ⟨rfl, _, rfl, congrArg iv (by first | (simp_all [chgErr, inR]; done) | (simp_all [chgErr, inR]; omega)), rfl⟩
       | false =>
        replace hc53 := bfalse hc53;refine zF 0 R6 (zL 0 R3 R6 (TO.eql rfl rfl rfl rfl rfl (fun c57 hc57=>zP R6 (zP R6 (zP R6 (zN ?_))))));cases c57 with
        | true =>
         replace hc57 := btrue hc57;refine zC rfl (zU rfl (zA R4 (zN (T.keep (s' := ⟨[], [(5, _)], _ :: C⟩) (sc (.cons _ (.cons _ (.cons _ (.cons _ (.cons _ (.cons_cons _ (.refl _)))))))) (zR ?_)))));exact ⟨rfl, _, rfl, congrArg iv (by first | (simp_all [chgErr, inR]; done) | (simp_all [chgErr, inR]; omega)), rfl⟩
        | false =>
         replace hc57 := bfalse hc57;refine zD rfl (zK (zU rfl (zA R4 (zN (T.keep (s' := ⟨[], [(5, _)], _ :: C⟩) (sc (.cons _ (.cons _ (.cons _ (.cons _ (.cons _ (.cons_cons _ (.refl _)))))))) (zR ?_))))));exact ⟨rfl, _, rfl, congrArg iv (by first | (simp_all [chgErr, inR]; done) | (simp_all [chgErr, inR]; omega)), rfl⟩
      | false =>
       replace hc49 := bfalse hc49;refine zO R3 (zO R3 (zO R3 (zO R3 (zO R3 (zO R3 (zO R3 (zO R3 (zP R6 (zP R6 (zN (zD rfl (zK (zU rfl (zA R4 (zN (T.keep (s' := ⟨[], [(5, _)], _ :: C⟩) (sc (.cons _ (.cons _ (.cons _ (.cons _ (.cons _ (.cons_cons _ (.refl _)))))))) (zR ?_)))))))))))))))));exact ⟨rfl, _, rfl, congrArg iv (by first | (simp_all [chgErr, inR]; done) | (simp_all [chgErr, inR]; omega)), rfl⟩
    | false =>
     replace hc32 := bfalse hc32
     have hi0 : i = 0 := by omega
     refine zD rfl (zK (zU rfl (zA R4 (zN (T.keep (s' := ⟨[], [(5, _)], _ :: C⟩) (sc (.cons _ (.cons _ (.cons _ (.cons _ (.cons_cons _ (.refl _))))))) (zR ?_))))));exact ⟨rfl, _, rfl, congrArg iv (by first | (simp_all [chgErr, inR]; done) | (simp_all [chgErr, inR]; omega)), rfl⟩
 | false =>
  replace hc6 := bfalse hc6;refine zD rfl (zU rfl (TO.eql rfl rfl rfl rfl rfl (fun c12 hc12=>zA R4 (zN ?_))));cases c12 with
  | true =>
   replace hc12 := btrue hc12;refine zC rfl (zU rfl (zF 1 R6 (zL 0 R3 R6 (zV R3 (Val.build (cs := [_]) (vs := [(_, _)]) rfl rfl rfl) (zV R3 (Val.makeIface rfl rfl rfl) (zA R4 (zN (zR ?_))))))));refine ⟨rfl, _, rfl, ?_⟩;refine zN (zB (zU rfl (zV R3 (Val.bin (r := bv false) rfl rfl (by kernel_rfl)) (zN (zD rfl (zU rfl (zV R3 (Val.assert_no rfl rfl rfl rfl rfl) (zX R5 (zX R5 (zN (zD rfl (zK (zS (zU rfl (zM R4 (zF 2 R6 (zL 2 R3 R6 (zF 1 R6 (zL 1 R3 R6 (TO.build1 (en := encI) (a := _) rfl rfl rfl ⟨rfl, rfl⟩ ⟨_, rfl, rfl⟩ (by decide) (by decide) rfl rfl (fun v20=>TO.callD rfl rfl rfl rfl rfl (orcL rfl aD) (.cons .lit (.cons .lit (.cons (.ownL (p := 0) rfl .ints) .nil))) (sem_of (q_out _ _ _ (by exact out1_small))) (fun c21 hc21=>?_))))))))))))))))))))));replace hc21 := out1 hc21;refine zM R4 ?_;cases c21 with
   | true =>
    replace hc21 := btrue hc21;refine zO R3 (zO R3 (zO R3 (zO R3 (zO R3 (zO R3 (zO R3 (zP R6 (zN (zC rfl (zU rfl (zA R4 (zN (T.keep (s' := ⟨[], [(5, _)], _ :: C⟩) (sc (.cons _ (.cons _ (.cons _ (.cons_cons _ (.refl _)))))) (zR ?_))))))))))))));exact ⟨rfl, _, rfl, congrArg iv (by first | (simp_all [chgErr, inR]; done) | (simp_all [chgErr, inR]; omega)), rfl⟩
   | false =>
    replace hc21 := bfalse hc21;refine zM R4 (TO.bmin rfl rfl rfl rfl rfl (zM R4 (zF 2 R6 (zL 2 R3 R6 (TO.build1 (en := encI) (a := _) rfl rfl rfl ⟨rfl, rfl⟩ ⟨_, rfl, rfl⟩ (by decide) (by decide) rfl rfl (fun v28=>TO.callD rfl rfl rfl rfl rfl (orcL rfl aD) (.cons .lit (.cons .lit (.cons (.ownL (p := 0) rfl .ints) .nil))) (sem_of (q_out _ _ _ (by exact out1_small))) (fun c29 hc29=>?_)))))));replace hc29 := out1 hc29;refine zP R6 (zN ?_);cases c29 with
    | true =>
     replace hc29 := btrue hc29;refine zC rfl (zU rfl (zA R4 (zN (T.keep (s' := ⟨[], [(5, _)], _ :: C⟩) (sc (.cons _ (.cons _ (.cons _ (.cons _ (.cons_cons _ (.refl _))))))) (zR ?_)))));exact ⟨rfl, _, rfl, congrArg iv (by first | (simp_all [chgErr, inR]; done) | (simp_all [chgErr, inR]; omega)), rfl⟩
    | false =>
     replace hc29 := bfalse hc29;refine zD rfl (zK (zS (zU rfl (zM R4 (TO.gtr rfl rfl rfl rfl rfl (fun c32 hc32=>zN ?_))))));cases c32 with
     | true =>
      replace hc32 := btrue hc32
      have hi0 : ¬ i = 0 := by omega
      refine zC rfl (zU rfl (zF 3 R6 (zL 4 R3 R6 (zM R4 (zV R3 (Val.sub rfl rfl aO) (TO.index_gs rfl rfl rfl ⟨rfl, rfl⟩ rfl rfl aO (fun a37 ra37 ea37=>?_)))))))
      try simp only [Int.toNat_natCast] at ea37
      have e37 : ((i : Int) - 1).toNat = i - 1 := by omega
      rw [e37] at ea37;refine zV R3 (Val.load_trees (c := _) ⟨⟨_, rfl, rfl⟩, rfl, by decide⟩ rfl rfl) (zJ 3 [_,_,_] R7 (fun b8=>TO.store_row (p := 0) (cv := [_, _, _]) (cells' := [_, _, _]) rfl rfl rfl rfl rfl rfl rfl rfl rfl rfl (by first | rfl | simp [GS.one]) (by decide) rfl (zG (_::_::_::_::_::_::C) rfl (zN (zU rfl (zF 1 R6 (zL 4 R3 R6 (zF 1 R6 (zL 0 R3 R6 (TO.lss rfl rfl rfl rfl rfl (fun c43 hc43=>zM R4 ?_)))))))))));cases c43 with
      | true =>
       replace hc43 := btrue hc43;refine zO R3 (zO R3 (zO R3 (zO R3 (zO R3 (zO R3 (zO R3 (zO R3 (zO R3 (zO R3 (zO R3 (zO R3 (zO R3 (zO R3 (zO R3 (zP R6 (zN (zC rfl (zU rfl (zA R4 (zN (T.keep (s' := ⟨[], [(5, _)], _ :: C⟩) (sc (.cons _ (.cons _ (.cons _ (.cons _ (.cons _ (.cons_cons _ (.refl _)))))))) (zR ?_))))))))))))))))))))));exact ⟨rfl, _, rfl, congrArg iv (by first | (simp_all [chgErr, inR]; done) | (simp_all [chgErr, inR]; omega)), rfl⟩
      | false =>
       replace hc43 := bfalse hc43;refine zF 1 R6 (zL 4 R3 R6 (zF 1 R6 (zL 0 R3 R6 (TO.eql rfl rfl rfl rfl rfl (fun c49 hc49=>zM R4 ?_)))));cases c49 with
       | true =>
        replace hc49 := btrue hc49;refine zF 0 R6 (zL 4 R3 R6 (TO.neq rfl rfl rfl rfl rfl (fun c53 hc53=>zM R4 ?_)));cases c53 with
        | true =>
         replace hc53 := btrue hc53;refine zO R3 (zO R3 (zO R3 (zP R6 (zP R6 (zP R6 (zN (zC rfl (zU rfl (zA R4 (zN (T.keep (s' := ⟨[], [(5, _)], _ :: C⟩) (sc (.cons _ (.cons _ (.cons _ (.cons _ (.cons _ (.cons_cons _ (.refl _)))))))) (zR ?_))))))))))));exact ⟨rfl, _, rfl, congrArg iv (by first | (simp_all [chgErr, inR]; done) | (simp_all [chgErr, inR]; omega)), rfl⟩
        | false =>
         replace hc53 := bfalse hc53;refine zF 0 R6 (zL 0 R3 R6 (TO.eql rfl rfl rfl rfl rfl (fun c57 hc57=>zP R6 (zP R6 (zP R6 (zN ?_))))));cases c57 with
         | true =>
          replace hc57 := btrue hc57;refine zC rfl (zU rfl (zA R4 (zN (T.keep (s' := ⟨[], [(5, _)], _ :: C⟩) (sc (.cons _ (.cons _ (.cons _ (.cons _ (.cons _ (.cons_cons _ (.refl _)))))))) (zR ?_)))));exact ⟨rfl, _, rfl, congrArg iv (by first | (simp_all [chgErr, inR]; done) | (simp_all [chgErr, inR]; omega)), rfl⟩
         | false =>
          replace hc57 := bfalse hc57;refine zD rfl (zK (zU rfl (zA R4 (zN (T.keep (s' := ⟨[], [(5, _)], _ :: C⟩) (sc (.cons _ (.cons _ (.cons _ (.cons _ (.cons _ (.cons_cons _ (.refl _)))))))) (zR ?_))))));exact ⟨rfl, _, rfl, congrArg iv (by first | (simp_all [chgErr, inR]; done) | (simp_all [chgErr, inR]; omega)), rfl⟩
       | false =>
        replace hc49 := bfalse hc49;refine zO R3 (zO R3 (zO R3 (zO R3 (zO R3 (zO R3 (zO R3 (zO R3 (zP R6 (zP R6 (zN (zD rfl (zK (zU rfl (zA R4 (zN (T.keep (s' := ⟨[], [(5, _)], _ :: C⟩) (sc (.cons _ (.cons _ (.cons _ (.cons _ (.cons _ (.cons_cons _ (.refl _)))))))) (zR ?_)))))))))))))))));exact ⟨rfl, _, rfl, congrArg iv (by first | (simp_all [chgErr, inR]; done) | (simp_all [chgErr, inR]; omega)), rfl⟩
     | false =>
      replace hc32 := bfalse hc32
      have hi0 : i = 0 := by omega
      refine zD rfl (zK (zU rfl (zA R4 (zN (T.keep (s' := ⟨[], [(5, _)], _ :: C⟩) (sc (.cons _ (.cons _ (.cons _ (.cons _ (.cons_cons _ (.refl _))))))) (zR ?_))))));exact ⟨rfl, _, rfl, congrArg iv (by first | (simp_all [chgErr, inR]; done) | (simp_all [chgErr, inR]; omega)), rfl⟩
  | false =>
   replace hc12 := bfalse hc12;refine zD rfl (zU rfl (TO.eql rfl rfl rfl rfl rfl (fun c18 hc18=>zA R4 (zN ?_))));cases c18 with
   | true =>
    replace hc18 := btrue hc18;refine zC rfl (zU rfl (zF 1 R6 (zL 0 R3 R6 (zF 2 R6 (zL 0 R3 R6 (zV R3 (Val.build (cs := [_, _]) (vs := [(_, _), (_, _)]) rfl rfl rfl) (zV R3 (Val.makeIface rfl rfl rfl) (zA R4 (zN (zR ?_))))))))));refine ⟨rfl, _, rfl, ?_⟩;refine zN (zB (zU rfl (zV R3 (Val.bin (r := bv false) rfl rfl (by kernel_rfl)) (zN (zD rfl (zU rfl (zV R3 (Val.assert_yes rfl rfl rfl rfl) (zX R5 (zX R5 (zN (zC rfl (zT rfl (zA R4 (zA R4 (zN (zS (zU rfl (zM R4 (zF 2 R6 (zL 2 R3 R6 (zF 1 R6 (zL 1 R3 R6 (TO.build1 (en := encI) (a := _) rfl rfl rfl ⟨rfl, rfl⟩ ⟨_, rfl, rfl⟩ (by decide) (by decide) rfl rfl (fun v20=>TO.callD rfl rfl rfl rfl rfl (orcL rfl aD) (.cons .lit (.cons .lit (.cons (.ownL (p := 0) rfl .ints) .nil))) (sem_of (q_out _ _ _ (by exact out1_small))) (fun c21 hc21=>?_)))))))))))))))))))))))));replace hc21 := out1 hc21;refine zM R4 ?_;cases c21 with
    | true =>
     replace hc21 := btrue hc21;refine zO R3 (zO R3 (zO R3 (zO R3 (zO R3 (zO R3 (zO R3 (zP R6 (zN (zC rfl (zU rfl (zA R4 (zN (T.keep (s' := ⟨[], [(5, _)], _ :: C⟩) (sc (.cons _ (.cons _ (.cons _ (.cons_cons _ (.refl _)))))) (zR ?_))))))))))))));exact ⟨rfl, _, rfl, congrArg iv (by first | (simp_all [chgErr, inR]; done) | (simp_all [chgErr, inR]; omega)), rfl⟩
    | false =>
     replace hc21 := bfalse hc21;refine zM R4 (TO.bmin rfl rfl rfl rfl rfl (zM R4 (zF 2 R6 (zL 2 R3 R6 (TO.build1 (en := encI) (a := _) rfl rfl rfl ⟨rfl, rfl⟩ ⟨_, rfl, rfl⟩ (by decide) (by decide) rfl rfl (fun v28=>TO.callD rfl rfl rfl rfl rfl (orcL rfl aD) (.cons .lit (.cons .lit (.cons (.ownL (p := 0) rfl .ints) .nil))) (sem_of (q_out _ _ _ (by exact out1_small))) (fun c29 hc29=>?_)))))));replace hc29 := out1 hc29;refine zP R6 (zN ?_);cases c29 with
     | true =>
      replace hc29 := btrue hc29;refine zC rfl (zU rfl (zA R4 (zN (T.keep (s' := ⟨[], [(5, _)], _ :: C⟩) (sc (.cons _ (.cons _ (.cons _ (.cons _ (.cons_cons _ (.refl _))))))) (zR ?_)))));exact ⟨rfl, _, rfl, congrArg iv (by first | (simp_all [chgErr, inR]; done) | (simp_all [chgErr, inR]; omega)), rfl⟩
     | false =>
      replace hc29 := bfalse hc29;refine zD rfl (zK (zS (zU rfl (zM R4 (TO.gtr rfl rfl rfl rfl rfl (fun c32 hc32=>zN ?_))))));cases c32 with
      | true =>
       replace hc32 := btrue hc32
       have hi0 : ¬ i = 0 := by omega
       refine zC rfl (zU rfl (zF 3 R6 (zL 4 R3 R6 (zM R4 (zV R3 (Val.sub rfl rfl aO) (TO.index_gs rfl rfl rfl ⟨rfl, rfl⟩ rfl rfl aO (fun a37 ra37 ea37=>?_)))))))
       try simp only [Int.toNat_natCast] at ea37
       have e37 : ((i : Int) - 1).toNat = i - 1 := by omega
       rw [e37] at ea37;refine zV R3 (Val.load_trees (c := _) ⟨⟨_, rfl, rfl⟩, rfl, by decide⟩ rfl rfl) (zJ 3 [_,_,_] R7 (fun b8=>TO.store_row (p := 0) (cv := [_, _, _]) (cells' := [_, _, _]) rfl rfl rfl rfl rfl rfl rfl rfl rfl rfl (by first | rfl | simp [GS.one]) (by decide) rfl (zG (_::_::_::_::_::_::C) rfl (zN (zU rfl (zF 1 R6 (zL 4 R3 R6 (zF 1 R6 (zL 0 R3 R6 (TO.lss rfl rfl rfl rfl rfl (fun c43 hc43=>zM R4 ?_)))))))))));cases c43 with
       | true =>
        replace hc43 := btrue hc43;refine zO R3 (zO R3 (zO R3 (zO R3 (zO R3 (zO R3 (zO R3 (zO R3 (zO R3 (zO R3 (zO R3 (zO R3 (zO R3 (zO R3 (zO R3 (zP R6 (zN (zC rfl (zU rfl (zA R4 (zN (T.keep (s' := ⟨[], [(5, _)], _ :: C⟩) (sc (.cons _ (.cons _ (.cons _ (.cons _ (.cons _ (.cons_cons _ (.refl _)))))))) (zR ?_))))))))))))))))))))));exact ⟨rfl, _, rfl, congrArg iv (by first | (simp_all [chgErr, inR]; done) | (simp_all [chgErr, inR]; omega)), rfl⟩
       | false =>
        replace hc43 := bfalse hc43;refine zF 1 R6 (zL 4 R3 R6 (zF 1 R6 (zL 0 R3 R6 (TO.eql rfl rfl rfl rfl rfl (fun c49 hc49=>zM R4 ?_)))));cases c49 with
        | true =>
         replace hc49 := btrue hc49;refine zF 0 R6 (zL 4 R3 R6 (TO.neq rfl rfl rfl rfl rfl (fun c53 hc53=>zM R4 ?_)));cases c53 with
         | true =>
          replace hc53 := btrue hc53;refine zO R3 (zO R3 (zO R3 (zP R6 (zP R6 (zP R6 (zN (zC rfl (zU rfl (zA R4 (zN (T.keep (s' := ⟨[], [(5, _)], _ :: C⟩) (sc (.cons _ (.cons _ (.cons _ (.cons _ (.cons _ (.cons_cons _ (.refl _)))))))) (zR ?_))))))))))));exact ⟨rfl, _, rfl, congrArg iv (by first | (simp_all [chgErr, inR]; done) | (simp_all [chgErr, inR]; omega)), rfl⟩
         | false =>
          replace hc53 := bfalse hc53;refine zF 0 R6 (zL 0 R3 R6 (TO.eql rfl rfl rfl rfl rfl (fun c57 hc57=>zP R6 (zP R6 (zP R6 (zN ?_))))));cases c57 with
          | true =>
           replace hc57 := btrue hc57;refine zC rfl (zU rfl (zA R4 (zN (T.keep (s' := ⟨[], [(5, _)], _ :: C⟩) (sc (.cons _ (.cons _ (.cons _ (.cons _ (.cons _ (.cons_cons _ (.refl _)))))))) (zR ?_)))));exact ⟨rfl, _, rfl, congrArg iv (by first | (simp_all [chgErr, inR]; done) | (simp_all [chgErr, inR]; omega)), rfl⟩
          | false =>
           replace hc57 := bfalse hc57;refine zD rfl (zK (zU rfl (zA R4 (zN (T.keep (s' := ⟨[], [(5, _)], _ :: C⟩) (sc (.cons _ (.cons _ (.cons _ (.cons _ (.cons _ (.cons_cons _ (.refl _)))))))) (zR ?_))))));exact ⟨rfl, _, rfl, congrArg iv (by first | (simp_all [chgErr, inR]; done) | (simp_all [chgErr, inR]; omega)), rfl⟩
        | false =>
         replace hc49 := bfalse hc49;refine zO R3 (zO R3 (zO R3 (zO R3 (zO R3 (zO R3 (zO R3 (zO R3 (zP R6 (zP R6 (zN (zD rfl (zK (zU rfl (zA R4 (zN (T.keep (s' := ⟨[], [(5, _)], _ :: C⟩) (sc (.cons _ (.cons _ (.cons _ (.cons _ (.cons _ (.cons_cons _ (.refl _)))))))) (zR ?_)))))))))))))))));exact ⟨rfl, _, rfl, congrArg iv (by first | (simp_all [chgErr, inR]; done) | (simp_all [chgErr, inR]; omega)), rfl⟩
      | false =>
       replace hc32 := bfalse hc32
       have hi0 : i = 0 := by omega
       refine zD rfl (zK (zU rfl (zA R4 (zN (T.keep (s' := ⟨[], [(5, _)], _ :: C⟩) (sc (.cons _ (.cons _ (.cons _ (.cons _ (.cons_cons _ (.refl _))))))) (zR ?_))))));exact ⟨rfl, _, rfl, congrArg iv (by first | (simp_all [chgErr, inR]; done) | (simp_all [chgErr, inR]; omega)), rfl⟩
   | false =>
    replace hc18 := bfalse hc18;refine zD rfl (zK (zU rfl (zA R4 (zN (zR ?_)))));refine ⟨rfl, _, rfl, ?_⟩;refine zN (zB (zU rfl (zV R3 (Val.bin (r := bv true) rfl rfl (by kernel_rfl)) (zN (zC rfl (zU rfl (zA R4 (zN (T.keep (s' := ⟨[], [(5, _)], _ :: C⟩) (sc (.cons _ (.cons _ (.cons_cons _ (.refl _))))) (zR ?_))))))))));exact ⟨rfl, _, rfl, congrArg iv (by first | (simp_all [chgErr, inR]; done) | (simp_all [chgErr, inR]; omega)), rfl⟩
theorem q_chgs {k bg : Nat} (hk : 1 ≤ k) (g : Gat) (C : List Thing) (hb : g.ch.l.length ≤ 4) :
  TF (EL k) 79 [g.ch.v, .func 80 [] [.ptr bg 0 4]] (.row bg 4 [iv g.round, iv g.letter, iv g.leaves, g.ch.v] :: C) fun v hs' => ∃ i0, v = .tuple [iv i0, iv (chgsErr g.leaves none g.ch.l)] ∧ hs' = .row bg 4 [iv g.round, iv g.letter, iv g.leaves, g.ch.v] :: C := by
 refine TF.enter (fn := Go.Proofs.Try.f79) rfl rfl rfl rfl rfl (zU rfl (zA R4 (zA R4 (zN (zS (zU rfl (zM R4 (zV R3 (Val.len_gs rfl rfl) (zM R4 (zN (zB (T.loop (fun μ s => ∃ i : Nat, ∃ j : Int, μ = g.ch.l.length - i ∧ j = i ∧ i ≤ g.ch.l.length ∧ chgsErr g.leaves none g.ch.l = chgsErr g.leaves (if i = 0 then none else g.ch.l[i - 1]?) (g.ch.l.drop i) ∧ s = ⟨[], [(1, .func 80 [] [.ptr bg 0 4]), (9, g.ch.v), (10, iv (g.ch.l.length : Int)), (11, iv j)], (.row bg 4 [iv g.round, iv g.letter, iv g.leaves, g.ch.v]) :: C⟩) (k := _) (s' := _) ⟨0, 0, rfl, (by first | rfl | omega | (simp; done) | (simp; omega) | simp_all), (by first | rfl | omega | (simp; done) | (simp; omega) | simp_all), (by rfl), rfl⟩ ⟨rfl, (keep_cons rfl (keep_cons rfl (keep_cons rfl (keep_cons rfl keep_nil)))), (.cons_cons _ (.refl _))⟩ ?_))))))))))));rintro μ _ ⟨i, j, hk0, hj, hi, he, rfl⟩;subst hj;refine zU rfl (TO.lss rfl rfl rfl rfl rfl (fun c12 hc12=>zN (zS ?_)));cases c12 with
 | true =>
  replace hc12 := btrue hc12;refine zC rfl (zK (zS (zB (zU rfl (zM R4 (TO.index_gs rfl rfl rfl ⟨rfl, rfl⟩ rfl rfl aO (fun c rc ec=>?_)))))))
  try simp only [Int.toNat_natCast] at ec
  refine zV R3 (Val.load_trees (c := _) ⟨⟨_, rfl, rfl⟩, rfl, by decide⟩ rfl rfl) (zJ 3 [_,_,_] R7 (fun b7=>zA R4 (TO.store_row (p := 0) (cv := [_, _, _]) (cells' := [_, _, _]) rfl rfl rfl rfl rfl rfl rfl rfl rfl rfl (by first | rfl | simp [GS.one]) (by decide) rfl (zG (_::_::C) rfl (zN (zU rfl (zM R4 (zM R4 (zV R3 (vW 0 [_,_,_] R5 R4) (TO.pick (p := 1) rfl (zG (_::_::C) rfl (TO.callV rfl rfl rfl rfl rfl rfl (orcN rfl) (q_chg hk g i c _ ec hb) ?_))))))))))));rintro _ _ ⟨rfl, rfl⟩;generalize hE : chgErr g.leaves c (if i = 0 then none else g.ch.l[i - 1]?) = E19;refine zG (_::_::C) rfl (zA R4 (zN (zU rfl (zM R4 (TO.neq rfl rfl rfl rfl rfl (fun c21 hc21=>zN ?_))))));cases c21 with
  | true =>
   replace hc21 := btrue hc21
   have hce : chgsErr g.leaves none g.ch.l = E19 := by rw [he, drop_cons ec, chgsErr, hE, if_pos hc21]
   refine zC rfl (zU rfl (zM R4 (zM R4 (zA R4 (zA R4 (zN (T.keep (s' := ⟨[], [(4, _), (5, _)], _ :: C⟩) (sc (.cons_cons _ (.cons _ (.refl _)))) (zR ?_))))))));exact ⟨rfl, _, rfl, _, congrArg (fun x => AV.tuple [_, iv x]) hce.symm, rfl⟩
  | false =>
   replace hc21 := bfalse hc21
   have hce : chgsErr g.leaves none g.ch.l = chgsErr g.leaves (some c) (g.ch.l.drop (i + 1)) := by rw [he, drop_cons ec, chgsErr, hE, if_neg hc21]
   refine zD rfl (zK (zT rfl (zV R3 (Val.add rfl rfl aO) (zM R4 (zN ?_)))));refine ⟨_, _, aO, ⟨i + 1, _, rfl, (by first | omega | simp_all), (by first | omega | simp_all), (by rw [hce]; simp [ec]), rfl⟩, ⟨rfl, (keep_cons rfl (keep_cons rfl (keep_cons rfl (keep_cons rfl keep_nil)))), (.cons_cons _ (.cons _ (.refl _)))⟩⟩
 | false =>
  replace hc12 := bfalse hc12;obtain rfl : i = g.ch.l.length := by omega
  rw [List.drop_length, chgsErr] at he;refine zD rfl (zE (zU rfl (zA R4 (zA R4 (zN (T.keep (s' := ⟨[], [(4, _), (5, _)], _ :: C⟩) (sc (.cons_cons _ (.refl _))) (zR ?_)))))));exact ⟨rfl, _, rfl, _, congrArg (fun x => AV.tuple [_, iv x]) he.symm, rfl⟩
theorem q_gat {k bm bl mid : Nat} (hk : 2 ≤ k) (g : Gat) (i : Nat) (before : List Gat) (f : Value → Int) (lr ll : Int) (C : List Thing) (hb : before.length ≤ 30) (hm : MetOk before f) (hl : LastOk before ⟨lr, ll⟩) :
  TF (EL k) 75 [iv (i : Int), .agg (encG.f g), .ptr bm 0 1, .ptr bl 0 2] (.row bm 1 [.map mid] :: .cnt mid KPair f [] :: .row bl 2 [iv lr, iv ll] :: C) fun v hs' => ∃ f' lr' ll', v = iv (gathErr before g) ∧
   hs' = .row bm 1 [.map mid] :: .cnt mid KPair f' [] :: .row bl 2 [iv lr', iv ll'] :: C ∧ (gathErr before g = 0 → MetOk (before ++ [g]) f' ∧ LastOk (before ++ [g]) ⟨lr', ll'⟩) := by
 have hle : 0 ≤ f (.agg #[.int .i64 g.round, .int .i64 g.letter]) ∧ f (.agg #[.int .i64 g.round, .int .i64 g.letter]) ≤ before.length := hm.le g.sig
 have hpos : 0 < f (.agg #[.int .i64 g.round, .int .i64 g.letter]) ↔ ∃ x ∈ before, x.sig = g.sig := hm.pos g
 have hmet : MetOk _ (cput f (.agg #[.int .i64 g.round, .int .i64 g.letter]) (f (.agg #[.int .i64 g.round, .int .i64 g.letter]) + 1)) := hm.snoc g;refine TF.enter (fn := Go.Proofs.Try.f75) rfl rfl rfl rfl rfl (zU rfl (zQ 4 [_,_,_,_] R7 (fun b5=>zA R4 (zN (zS (T.drawE (l1 := [0, 1, 2, 3, 4]) (l2 := [5, 6, 7]) (by kernel_rfl) (by kernel_rfl) (yR R4 (vR (p := 1) R6) (yL R4 (Val.faddr_ptr (fo := 0) rfl rfl rfl) (yR R4 (vW 0 [_,_] R5 R4) (yR R4 (Val.lookup (p := 2) rfl rfl key_ty96 rfl rfl rfl rfl ⟨_, _, rfl⟩) (yL R4 (Val.add rfl rfl aO) (TD1.over (fun v => sameC_refl v) (all_cons (⟨_, rfl, (Val.lookup (p := 2) rfl rfl key_ty96 rfl rfl rfl rfl ⟨_, _, rfl⟩)⟩) (all_cons (⟨_, rfl, (vW 0 [_,_] R5 R4)⟩) (all_cons (⟨_, rfl, (vR (p := 1) R6)⟩) all_nil))) (TD2.heavy (fun v => sameC_refl v) rfl (by decide) rfl rfl (OpS.eff (Eff.mapEntry (p := 2) rfl rfl key_ty96 rfl rfl rfl rfl ⟨_, _, rfl⟩)) ?_)))))))))))));rintro _ _ ⟨e14, rfl, rfl⟩;refine ⟨(all_cons (.inr ⟨_, rfl, (Val.lookup (p := 2) rfl rfl key_ty96 rfl rfl rfl rfl ⟨_, _, rfl⟩)⟩) (all_cons (.inl (by kernel_rfl)) (all_cons (.inl (by kernel_rfl)) all_nil))), all_nil, ?_⟩;refine yG (_::_::_::_::C) rfl (yM R4 (Val.extract rfl rfl) (TD2.heavy (fun v => sameC_refl v) rfl (by decide) rfl rfl (OpS.eff (Eff.entryStore (p := 2) rfl List.mem_cons_self rfl rfl rfl)) ?_));rintro _ _ rfl;refine ⟨(all_cons (.inl (by kernel_rfl)) (all_cons (.inl (by kernel_rfl)) (all_cons (.inl (by kernel_rfl)) all_nil))), all_nil, ?_⟩;refine yG (_::_::_::_::C) rfl (TD2.nil (zS (zB (zU rfl (zF 0 R6 (zV R3 (vW 0 [_,_] R5 R4) (TO.callD rfl rfl rfl rfl rfl (orcL rfl aD) (.cons (.agg (.cons .lit (.cons .lit .nil))) .nil) (sem_of (q_none g.sig )) (fun c19 hc19=>zA R4 (zN ?_)))))))));cases c19 with
 | true =>
  replace hc19 := btrue hc19;refine zC rfl (zU rfl (zA R4 (zN (T.keep (s' := ⟨[], [(6, _)], _ :: _ :: _ :: C⟩) (sc (.cons _ (.cons_cons _ (.cons_cons _ (.cons_cons _ (.refl _)))))) (zR ?_)))))
  have hv : gathErr before g = 7 := by unfold gathErr; (repeat' split) <;> first | rfl | (exfalso; simp_all; done) | (exfalso; simp_all [inR]; omega) | simp_all [inR]
  exact ⟨rfl, _, rfl, _, _, _, congrArg iv hv.symm, rfl, fun h0 => aO⟩
 | false =>
  replace hc19 := bfalse hc19
  have hs : sigOk g.sig := Classical.not_not.1 hc19;refine zD rfl (zU rfl (zL 1 R3 R6 (zF 0 R6 (zV R3 (vW 0 [_,_] R5 R4) (zV R3 (Val.lookup (p := 2) rfl rfl key_ty96 rfl rfl rfl rfl ⟨_, _, rfl⟩) (TO.gtr rfl rfl rfl rfl rfl (fun c25 hc25=>?_)))))));replace hc25 := hc25.trans (hm.twice g);refine zA R4 (zN ?_);cases c25 with
  | true =>
   replace hc25 := btrue hc25;refine zC rfl (zU rfl (zA R4 (zN (T.keep (s' := ⟨[], [(6, _)], _ :: _ :: _ :: C⟩) (sc (.cons _ (.cons_cons _ (.cons_cons _ (.cons_cons _ (.refl _)))))) (zR ?_)))))
   have hv : gathErr before g = 5 := by unfold gathErr; (repeat' split) <;> first | rfl | (exfalso; simp_all; done) | (exfalso; simp_all [inR]; omega) | simp_all [inR]
   exact ⟨rfl, _, rfl, _, _, _, congrArg iv hv.symm, rfl, fun h0 => aO⟩
  | false =>
   replace hc25 := bfalse hc25;refine zD rfl (zU rfl (zF 0 R6 (zV R3 (vW 0 [_,_] R5 R4) (TO.callD rfl rfl rfl rfl rfl (orcL rfl aD) (.cons (.agg (.cons .lit (.cons .lit .nil))) .nil) (sem_of (q_lettered g.sig )) (fun c29 hc29=>zM R4 ?_)))));cases c29 with
   | true =>
    replace hc29 := btrue hc29;refine zF 0 R6 (zV R3 (vW 0 [_,_] R5 R4) (zV R3 (vW 3 [_,_] R5 R4) (TO.callD rfl rfl rfl rfl rfl (orcL rfl aD) (.cons (.agg (.cons .lit (.cons .lit .nil))) (.cons (.agg (.cons .lit (.cons .lit .nil))) .nil)) (sem_of (q_before g.sig ⟨lr, ll⟩ )) (fun c34 hc34=>?_))));replace hc34 := hc34.trans (hl.before hs hc29);refine zP R6 (zA R4 (zN ?_));cases c34 with
    | true =>
     replace hc34 := btrue hc34;refine zC rfl (zU rfl (zA R4 (zN (T.keep (s' := ⟨[], [(6, _)], _ :: _ :: _ :: C⟩) (sc (.cons _ (.cons_cons _ (.cons_cons _ (.cons_cons _ (.refl _)))))) (zR ?_)))))
     have hv : gathErr before g = 2 := by unfold gathErr; (repeat' split) <;> first | rfl | (exfalso; simp_all; done) | (exfalso; simp_all [inR]; omega) | simp_all [inR]
     exact ⟨rfl, _, rfl, _, _, _, congrArg iv hv.symm, rfl, fun h0 => aO⟩
    | false =>
     replace hc34 := bfalse hc34
     have hrk := hc34;refine zD rfl (zU rfl (zF 2 R6 (zL 0 R3 R6 (TO.neq rfl rfl rfl rfl rfl (fun c39 hc39=>zM R4 ?_)))));cases c39 with
     | true =>
      replace hc39 := btrue hc39;refine zF 2 R6 (zL 0 R3 R6 (TO.build1 (en := encI) (a := _) rfl rfl rfl ⟨rfl, rfl⟩ ⟨_, rfl, rfl⟩ (by decide) (by decide) rfl rfl (fun v43=>TO.callD rfl rfl rfl rfl rfl (orcL rfl aD) (.cons .lit (.cons .lit (.cons (.ownL (p := 0) rfl .ints) .nil))) (sem_of (q_out _ _ _ (by exact out1_small))) (fun c44 hc44=>?_))));replace hc44 := out1 hc44;refine zM R4 ?_;cases c44 with
      | true =>
       replace hc44 := btrue hc44;refine zO R3 (zO R3 (zO R3 (zO R3 (zP R6 (zP R6 (zA R4 (zN (zC rfl (zU rfl (zA R4 (zN (T.keep (s' := ⟨[], [(6, _)], _ :: _ :: _ :: C⟩) (sc (.cons _ (.cons _ (.cons_cons _ (.cons_cons _ (.cons_cons _ (.refl _))))))) (zR ?_)))))))))))))
       have hv : gathErr before g = 7 := by unfold gathErr; (repeat' split) <;> first | rfl | (exfalso; simp_all; done) | (exfalso; simp_all [inR]; omega) | simp_all [inR]
       exact ⟨rfl, _, rfl, _, _, _, congrArg iv hv.symm, rfl, fun h0 => aO⟩
      | false =>
       replace hc44 := bfalse hc44;refine zF 2 R6 (zL 1 R3 R6 (zV R3 (Val.rem rfl rfl aO) (TO.eql rfl rfl rfl rfl rfl (fun c49 hc49=>zP R6 (zP R6 (zA R4 (zN ?_)))))));cases c49 with
       | true =>
        replace hc49 := btrue hc49;refine zC rfl (zU rfl (zA R4 (zN (T.keep (s' := ⟨[], [(6, _)], _ :: _ :: _ :: C⟩) (sc (.cons _ (.cons _ (.cons_cons _ (.cons_cons _ (.cons_cons _ (.refl _))))))) (zR ?_)))))
        have hv : gathErr before g = 7 := by unfold gathErr; (repeat' split) <;> first | rfl | (exfalso; simp_all; done) | (exfalso; simp_all [inR]; omega) | simp_all [inR]
        exact ⟨rfl, _, rfl, _, _, _, congrArg iv hv.symm, rfl, fun h0 => aO⟩
       | false =>
        replace hc49 := bfalse hc49;refine zD rfl (zU rfl (zF 3 R6 (zL 1 R3 R6 (zV R3 (Val.len_gs rfl rfl) (TO.gtr rfl rfl rfl rfl rfl (fun c56 hc56=>zA R4 (zN ?_)))))));cases c56 with
        | true =>
         replace hc56 := btrue hc56;refine zC rfl (zU rfl (zA R4 (zN (T.keep (s' := ⟨[], [(6, _)], _ :: _ :: _ :: C⟩) (sc (.cons _ (.cons _ (.cons_cons _ (.cons_cons _ (.cons_cons _ (.refl _))))))) (zR ?_)))))
         have hv : gathErr before g = 3 := by unfold gathErr; (repeat' split) <;> first | rfl | (exfalso; simp_all; done) | (exfalso; simp_all [inR]; omega) | simp_all [inR]
         exact ⟨rfl, _, rfl, _, _, _, congrArg iv hv.symm, rfl, fun h0 => aO⟩
        | false =>
         replace hc56 := bfalse hc56;refine zD rfl (zK (zS (zU rfl (zF 0 R6 (zV R3 (vW 1 [_,_] R5 R4) (TO.callD rfl rfl rfl rfl rfl (orcL rfl aD) (.cons (.agg (.cons .lit (.cons .lit .nil))) .nil) (sem_of (q_lettered g.sig )) (fun c59 hc59=>zN ?_)))))));cases c59 with
         | true =>
          replace hc59 := btrue hc59;refine zC rfl (zT rfl (zF 0 R6 (zV R3 (vW 1 [_,_] R5 R4) (TO.store_row (p := 4) (cv := [_, _]) (cells' := [_, _]) rfl rfl rfl rfl rfl rfl rfl rfl rfl rfl (by first | rfl | simp [GS.one]) (by decide) rfl (zG (_::_::_::_::_::C) rfl (zN (zU rfl (zF 3 R6 (zL 1 R3 R6 (zV R3 (Val.makeFunc rfl rfl) (TO.pick (p := 1) rfl (zG (_::_::_::_::_::C) rfl (TO.callV rfl rfl rfl rfl rfl rfl (orcN rfl) (q_chgs aO g _ aO) ?_)))))))))))));rintro _ _ ⟨i0, rfl, rfl⟩;refine zG (_::_::_::_::_::C) rfl (zM R4 (zX R5 (zX R5 (zA R4 (zA R4 (zN (zU rfl (zM R4 (zA R4 (zN (T.keep (s' := ⟨[], [(6, _)], _ :: _ :: _ :: C⟩) (sc (.cons _ (.cons _ (.cons_cons _ (.cons_cons _ (.cons_cons _ (.refl _))))))) (zR ?_))))))))))))
          have hv : gathErr before g = chgsErr g.leaves none g.ch.l := by unfold gathErr; (repeat' split) <;> first | rfl | (exfalso; simp_all; done) | (exfalso; simp_all [inR]; omega) | simp_all [inR]
          exact ⟨rfl, _, rfl, _, _, _, congrArg iv hv.symm, rfl, fun h0 => (by first | exact ⟨hmet, hl.snoc hs hc59 hrk⟩ | exact ⟨hmet, hl.same hc59⟩)⟩
         | false =>
          replace hc59 := bfalse hc59;refine zD rfl (zK (zU rfl (zF 3 R6 (zL 1 R3 R6 (zV R3 (Val.makeFunc rfl rfl) (TO.pick (p := 1) rfl (zG (_::_::_::_::_::C) rfl (TO.callV rfl rfl rfl rfl rfl rfl (orcN rfl) (q_chgs aO g _ aO) ?_))))))));rintro _ _ ⟨i0, rfl, rfl⟩;refine zG (_::_::_::_::_::C) rfl (zM R4 (zX R5 (zX R5 (zA R4 (zA R4 (zN (zU rfl (zM R4 (zA R4 (zN (T.keep (s' := ⟨[], [(6, _)], _ :: _ :: _ :: C⟩) (sc (.cons _ (.cons _ (.cons_cons _ (.cons_cons _ (.cons_cons _ (.refl _))))))) (zR ?_))))))))))))
          have hv : gathErr before g = chgsErr g.leaves none g.ch.l := by unfold gathErr; (repeat' split) <;> first | rfl | (exfalso; simp_all; done) | (exfalso; simp_all [inR]; omega) | simp_all [inR]
          exact ⟨rfl, _, rfl, _, _, _, congrArg iv hv.symm, rfl, fun h0 => (by first | exact ⟨hmet, hl.snoc hs hc59 hrk⟩ | exact ⟨hmet, hl.same hc59⟩)⟩
     | false =>
      replace hc39 := bfalse hc39;refine zO R3 (zO R3 (zO R3 (zO R3 (zO R3 (zO R3 (zO R3 (zO R3 (zO R3 (zO R3 (zP R6 (zA R4 (zN (zD rfl (zU rfl (zF 3 R6 (zL 0 R3 R6 (zV R3 (Val.len_gs rfl rfl) (TO.gtr rfl rfl rfl rfl rfl (fun c56 hc56=>zA R4 (zN ?_))))))))))))))))))));cases c56 with
      | true =>
       replace hc56 := btrue hc56;refine zC rfl (zU rfl (zA R4 (zN (T.keep (s' := ⟨[], [(6, _)], _ :: _ :: _ :: C⟩) (sc (.cons _ (.cons_cons _ (.cons_cons _ (.cons_cons _ (.refl _)))))) (zR ?_)))))
       have hv : gathErr before g = 3 := by unfold gathErr; (repeat' split) <;> first | rfl | (exfalso; simp_all; done) | (exfalso; simp_all [inR]; omega) | simp_all [inR]
       exact ⟨rfl, _, rfl, _, _, _, congrArg iv hv.symm, rfl, fun h0 => aO⟩
      | false =>
       replace hc56 := bfalse hc56;refine zD rfl (zK (zS (zU rfl (zF 0 R6 (zV R3 (vW 0 [_,_] R5 R4) (TO.callD rfl rfl rfl rfl rfl (orcL rfl aD) (.cons (.agg (.cons .lit (.cons .lit .nil))) .nil) (sem_of (q_lettered g.sig )) (fun c59 hc59=>zN ?_)))))));cases c59 with
       | true =>
        replace hc59 := btrue hc59;refine zC rfl (zT rfl (zF 0 R6 (zV R3 (vW 0 [_,_] R5 R4) (TO.store_row (p := 3) (cv := [_, _]) (cells' := [_, _]) rfl rfl rfl rfl rfl rfl rfl rfl rfl rfl (by first | rfl | simp [GS.one]) (by decide) rfl (zG (_::_::_::_::C) rfl (zN (zU rfl (zF 3 R6 (zL 0 R3 R6 (zV R3 (Val.makeFunc rfl rfl) (TO.callV rfl rfl rfl rfl rfl rfl (orcN rfl) (q_chgs aO g _ aO) ?_)))))))))));rintro _ _ ⟨i0, rfl, rfl⟩;refine zG (_::_::_::_::C) rfl (zM R4 (zX R5 (zX R5 (zA R4 (zA R4 (zN (zU rfl (zM R4 (zA R4 (zN (T.keep (s' := ⟨[], [(6, _)], _ :: _ :: _ :: C⟩) (sc (.cons _ (.cons_cons _ (.cons_cons _ (.cons_cons _ (.refl _)))))) (zR ?_))))))))))))
        have hv : gathErr before g = chgsErr g.leaves none g.ch.l := by unfold gathErr; (repeat' split) <;> first | rfl | (exfalso; simp_all; done) | (exfalso; simp_all [inR]; omega) | simp_all [inR]
        exact ⟨rfl, _, rfl, _, _, _, congrArg iv hv.symm, rfl, fun h0 => (by first | exact ⟨hmet, hl.snoc hs hc59 hrk⟩ | exact ⟨hmet, hl.same hc59⟩)⟩
       | false =>
        replace hc59 := bfalse hc59;refine zD rfl (zK (zU rfl (zF 3 R6 (zL 0 R3 R6 (zV R3 (Val.makeFunc rfl rfl) (TO.callV rfl rfl rfl rfl rfl rfl (orcN rfl) (q_chgs aO g _ aO) ?_))))));rintro _ _ ⟨i0, rfl, rfl⟩;refine zG (_::_::_::_::C) rfl (zM R4 (zX R5 (zX R5 (zA R4 (zA R4 (zN (zU rfl (zM R4 (zA R4 (zN (T.keep (s' := ⟨[], [(6, _)], _ :: _ :: _ :: C⟩) (sc (.cons _ (.cons_cons _ (.cons_cons _ (.cons_cons _ (.refl _)))))) (zR ?_))))))))))))
        have hv : gathErr before g = chgsErr g.leaves none g.ch.l := by unfold gathErr; (repeat' split) <;> first | rfl | (exfalso; simp_all; done) | (exfalso; simp_all [inR]; omega) | simp_all [inR]
        exact ⟨rfl, _, rfl, _, _, _, congrArg iv hv.symm, rfl, fun h0 => (by first | exact ⟨hmet, hl.snoc hs hc59 hrk⟩ | exact ⟨hmet, hl.same hc59⟩)⟩
   | false =>
    replace hc29 := bfalse hc29
    have hrk : ¬ (rank g.sig ≥ 0 ∧ rank g.sig < lastRank before) := by rw [rank_neg hc29]; omega
    refine zO R3 (zO R3 (zO R3 (zO R3 (zP R6 (zA R4 (zN (zD rfl (zU rfl (zF 2 R6 (zL 0 R3 R6 (TO.neq rfl rfl rfl rfl rfl (fun c39 hc39=>zM R4 ?_))))))))))));cases c39 with
    | true =>
     replace hc39 := btrue hc39;refine zF 2 R6 (zL 0 R3 R6 (TO.build1 (en := encI) (a := _) rfl rfl rfl ⟨rfl, rfl⟩ ⟨_, rfl, rfl⟩ (by decide) (by decide) rfl rfl (fun v43=>TO.callD rfl rfl rfl rfl rfl (orcL rfl aD) (.cons .lit (.cons .lit (.cons (.ownL (p := 0) rfl .ints) .nil))) (sem_of (q_out _ _ _ (by exact out1_small))) (fun c44 hc44=>?_))));replace hc44 := out1 hc44;refine zM R4 ?_;cases c44 with
     | true =>
      replace hc44 := btrue hc44;refine zO R3 (zO R3 (zO R3 (zO R3 (zP R6 (zP R6 (zA R4 (zN (zC rfl (zU rfl (zA R4 (zN (T.keep (s' := ⟨[], [(6, _)], _ :: _ :: _ :: C⟩) (sc (.cons _ (.cons _ (.cons_cons _ (.cons_cons _ (.cons_cons _ (.refl _))))))) (zR ?_)))))))))))))
      have hv : gathErr before g = 7 := by unfold gathErr; (repeat' split) <;> first | rfl | (exfalso; simp_all; done) | (exfalso; simp_all [inR]; omega) | simp_all [inR]
      exact ⟨rfl, _, rfl, _, _, _, congrArg iv hv.symm, rfl, fun h0 => aO⟩
     | false =>
      replace hc44 := bfalse hc44;refine zF 2 R6 (zL 1 R3 R6 (zV R3 (Val.rem rfl rfl aO) (TO.eql rfl rfl rfl rfl rfl (fun c49 hc49=>zP R6 (zP R6 (zA R4 (zN ?_)))))));cases c49 with
      | true =>
       replace hc49 := btrue hc49;refine zC rfl (zU rfl (zA R4 (zN (T.keep (s' := ⟨[], [(6, _)], _ :: _ :: _ :: C⟩) (sc (.cons _ (.cons _ (.cons_cons _ (.cons_cons _ (.cons_cons _ (.refl _))))))) (zR ?_)))))
       have hv : gathErr before g = 7 := by unfold gathErr; (repeat' split) <;> first | rfl | (exfalso; simp_all; done) | (exfalso; simp_all [inR]; omega) | simp_all [inR]
       exact ⟨rfl, _, rfl, _, _, _, congrArg iv hv.symm, rfl, fun h0 => aO⟩
      | false =>
       replace hc49 := bfalse hc49;refine zD rfl (zU rfl (zF 3 R6 (zL 1 R3 R6 (zV R3 (Val.len_gs rfl rfl) (TO.gtr rfl rfl rfl rfl rfl (fun c56 hc56=>zA R4 (zN ?_)))))));cases c56 with
       | true =>
        replace hc56 := btrue hc56;refine zC rfl (zU rfl (zA R4 (zN (T.keep (s' := ⟨[], [(6, _)], _ :: _ :: _ :: C⟩) (sc (.cons _ (.cons _ (.cons_cons _ (.cons_cons _ (.cons_cons _ (.refl _))))))) (zR ?_)))))
        have hv : gathErr before g = 3 := by unfold gathErr; (repeat' split) <;> first | rfl | (exfalso; simp_all; done) | (exfalso; simp_all [inR]; omega) | simp_all [inR]
        exact ⟨rfl, _, rfl, _, _, _, congrArg iv hv.symm, rfl, fun h0 => aO⟩
       | false =>
        replace hc56 := bfalse hc56;refine zD rfl (zK (zS (zU rfl (zF 0 R6 (zV R3 (vW 1 [_,_] R5 R4) (TO.callD rfl rfl rfl rfl rfl (orcL rfl aD) (.cons (.agg (.cons .lit (.cons .lit .nil))) .nil) (sem_of (q_lettered g.sig )) (fun c59 hc59=>zN ?_)))))));cases c59 with
        | true =>
         replace hc59 := btrue hc59;refine zC rfl (zT rfl (zF 0 R6 (zV R3 (vW 1 [_,_] R5 R4) (TO.store_row (p := 4) (cv := [_, _]) (cells' := [_, _]) rfl rfl rfl rfl rfl rfl rfl rfl rfl rfl (by first | rfl | simp [GS.one]) (by decide) rfl (zG (_::_::_::_::_::C) rfl (zN (zU rfl (zF 3 R6 (zL 1 R3 R6 (zV R3 (Val.makeFunc rfl rfl) (TO.pick (p := 1) rfl (zG (_::_::_::_::_::C) rfl (TO.callV rfl rfl rfl rfl rfl rfl (orcN rfl) (q_chgs aO g _ aO) ?_)))))))))))));rintro _ _ ⟨i0, rfl, rfl⟩;refine zG (_::_::_::_::_::C) rfl (zM R4 (zX R5 (zX R5 (zA R4 (zA R4 (zN (zU rfl (zM R4 (zA R4 (zN (T.keep (s' := ⟨[], [(6, _)], _ :: _ :: _ :: C⟩) (sc (.cons _ (.cons _ (.cons_cons _ (.cons_cons _ (.cons_cons _ (.refl _))))))) (zR ?_))))))))))))
         have hv : gathErr before g = chgsErr g.leaves none g.ch.l := by unfold gathErr; (repeat' split) <;> first | rfl | (exfalso; simp_all; done) | (exfalso; simp_all [inR]; omega) | simp_all [inR]
         exact ⟨rfl, _, rfl, _, _, _, congrArg iv hv.symm, rfl, fun h0 => (by first | exact ⟨hmet, hl.snoc hs hc59 hrk⟩ | exact ⟨hmet, hl.same hc59⟩)⟩
        | false =>
         replace hc59 := bfalse hc59;refine zD rfl (zK (zU rfl (zF 3 R6 (zL 1 R3 R6 (zV R3 (Val.makeFunc rfl rfl) (TO.pick (p := 1) rfl (zG (_::_::_::_::_::C) rfl (TO.callV rfl rfl rfl rfl rfl rfl (orcN rfl) (q_chgs aO g _ aO) ?_))))))));rintro _ _ ⟨i0, rfl, rfl⟩;refine zG (_::_::_::_::_::C) rfl (zM R4 (zX R5 (zX R5 (zA R4 (zA R4 (zN (zU rfl (zM R4 (zA R4 (zN (T.keep (s' := ⟨[], [(6, _)], _ :: _ :: _ :: C⟩) (sc (.cons _ (.cons _ (.cons_cons _ (.cons_cons _ (.cons_cons _ (.refl _))))))) (zR ?_))))))))))))
         have hv : gathErr before g = chgsErr g.leaves none g.ch.l := by unfold gathErr; (repeat' split) <;> first | rfl | (exfalso; simp_all; done) | (exfalso; simp_all [inR]; omega) | simp_all [inR]
         exact ⟨rfl, _, rfl, _, _, _, congrArg iv hv.symm, rfl, fun h0 => (by first | exact ⟨hmet, hl.snoc hs hc59 hrk⟩ | exact ⟨hmet, hl.same hc59⟩)⟩
    | false =>
     replace hc39 := bfalse hc39;refine zO R3 (zO R3 (zO R3 (zO R3 (zO R3 (zO R3 (zO R3 (zO R3 (zO R3 (zO R3 (zP R6 (zA R4 (zN (zD rfl (zU rfl (zF 3 R6 (zL 0 R3 R6 (zV R3 (Val.len_gs rfl rfl) (TO.gtr rfl rfl rfl rfl rfl (fun c56 hc56=>zA R4 (zN ?_))))))))))))))))))));cases c56 with
     | true =>
      replace hc56 := btrue hc56;refine zC rfl (zU rfl (zA R4 (zN (T.keep (s' := ⟨[], [(6, _)], _ :: _ :: _ :: C⟩) (sc (.cons _ (.cons_cons _ (.cons_cons _ (.cons_cons _ (.refl _)))))) (zR ?_)))))
      have hv : gathErr before g = 3 := by unfold gathErr; (repeat' split) <;> first | rfl | (exfalso; simp_all; done) | (exfalso; simp_all [inR]; omega) | simp_all [inR]
      exact ⟨rfl, _, rfl, _, _, _, congrArg iv hv.symm, rfl, fun h0 => aO⟩
     | false =>
      replace hc56 := bfalse hc56;refine zD rfl (zK (zS (zU rfl (zF 0 R6 (zV R3 (vW 0 [_,_] R5 R4) (TO.callD rfl rfl rfl rfl rfl (orcL rfl aD) (.cons (.agg (.cons .lit (.cons .lit .nil))) .nil) (sem_of (q_lettered g.sig )) (fun c59 hc59=>zN ?_)))))));cases c59 with
      | true =>
       replace hc59 := btrue hc59;refine zC rfl (zT rfl (zF 0 R6 (zV R3 (vW 0 [_,_] R5 R4) (TO.store_row (p := 3) (cv := [_, _]) (cells' := [_, _]) rfl rfl rfl rfl rfl rfl rfl rfl rfl rfl (by first | rfl | simp [GS.one]) (by decide) rfl (zG (_::_::_::_::C) rfl (zN (zU rfl (zF 3 R6 (zL 0 R3 R6 (zV R3 (Val.makeFunc rfl rfl) (TO.callV rfl rfl rfl rfl rfl rfl (orcN rfl) (q_chgs aO g _ aO) ?_)))))))))));rintro _ _ ⟨i0, rfl, rfl⟩;refine zG (_::_::_::_::C) rfl (zM R4 (zX R5 (zX R5 (zA R4 (zA R4 (zN (zU rfl (zM R4 (zA R4 (zN (T.keep (s' := ⟨[], [(6, _)], _ :: _ :: _ :: C⟩) (sc (.cons _ (.cons_cons _ (.cons_cons _ (.cons_cons _ (.refl _)))))) (zR ?_))))))))))))
       have hv : gathErr before g = chgsErr g.leaves none g.ch.l := by unfold gathErr; (repeat' split) <;> first | rfl | (exfalso; simp_all; done) | (exfalso; simp_all [inR]; omega) | simp_all [inR]
       exact ⟨rfl, _, rfl, _, _, _, congrArg iv hv.symm, rfl, fun h0 => (by first | exact ⟨hmet, hl.snoc hs hc59 hrk⟩ | exact ⟨hmet, hl.same hc59⟩)⟩
      | false =>
       replace hc59 := bfalse hc59;refine zD rfl (zK (zU rfl (zF 3 R6 (zL 0 R3 R6 (zV R3 (Val.makeFunc rfl rfl) (TO.callV rfl rfl rfl rfl rfl rfl (orcN rfl) (q_chgs aO g _ aO) ?_))))));rintro _ _ ⟨i0, rfl, rfl⟩;refine zG (_::_::_::_::C) rfl (zM R4 (zX R5 (zX R5 (zA R4 (zA R4 (zN (zU rfl (zM R4 (zA R4 (zN (T.keep (s' := ⟨[], [(6, _)], _ :: _ :: _ :: C⟩) (sc (.cons _ (.cons_cons _ (.cons_cons _ (.cons_cons _ (.refl _)))))) (zR ?_))))))))))))
       have hv : gathErr before g = chgsErr g.leaves none g.ch.l := by unfold gathErr; (repeat' split) <;> first | rfl | (exfalso; simp_all; done) | (exfalso; simp_all [inR]; omega) | simp_all [inR]
       exact ⟨rfl, _, rfl, _, _, _, congrArg iv hv.symm, rfl, fun h0 => (by first | exact ⟨hmet, hl.snoc hs hc59 hrk⟩ | exact ⟨hmet, hl.same hc59⟩)⟩
theorem q_gats {k bm bl mid : Nat} (hk : 2 ≤ k) (b : Book) (C : List Thing) (hb : b.gs.l.length ≤ 30) :
  TF (EL k) 74 [b.gs.v, .func 75 [] [.ptr bm 0 1, .ptr bl 0 2]] (.row bm 1 [.map mid] :: .cnt mid KPair (fun _ => 0) [] :: .row bl 2 [iv 0, iv 0] :: C) fun v hs' => ∃ (i0 e0 : Int) (f : Value → Int) (lr ll : Int), v = .tuple [iv i0, iv e0] ∧
   (gathsErr [] b.gs.l 0 = none ∧ i0 = 0 ∧ e0 = 0 ∨ ∃ j, gathsErr [] b.gs.l 0 = some (j, e0) ∧ i0 = j ∧ e0 ≠ 0) ∧ hs' = .row bm 1 [.map mid] :: .cnt mid KPair f [] :: .row bl 2 [iv lr, iv ll] :: C := by
 refine TF.enter (fn := Go.Proofs.Try.f74) rfl rfl rfl rfl rfl (zU rfl (zA R4 (zA R4 (zN (zS (zU rfl (zM R4 (zV R3 (Val.len_gs rfl rfl) (zM R4 (zN (zB (T.loop (fun μ s => ∃ i : Nat, ∃ j : Int, ∃ f : Value → Int, ∃ lr : Int, ∃ ll : Int, μ = b.gs.l.length - i ∧ j = i ∧ i ≤ b.gs.l.length ∧ gathsErr [] b.gs.l 0 = gathsErr (b.gs.l.take i) (b.gs.l.drop i) i ∧ MetOk (b.gs.l.take i) f ∧ LastOk (b.gs.l.take i) ⟨lr, ll⟩ ∧ s = ⟨[], [(1, .func 75 [] [.ptr bm 0 1, .ptr bl 0 2]), (9, b.gs.v), (10, iv (b.gs.l.length : Int)), (11, iv j)], (.row bm 1 [.map mid]) :: (.cnt mid KPair f []) :: (.row bl 2 [iv lr, iv ll]) :: C⟩) (k := _) (s' := _) ⟨0, 0, _, _, _, rfl, (by first | rfl | omega | (simp; done) | (simp; omega) | simp_all), (by first | rfl | omega | (simp; done) | (simp; omega) | simp_all), (by rfl), (by exact MetOk.nil), (by exact LastOk.nil), rfl⟩ ⟨rfl, (keep_cons rfl (keep_cons rfl (keep_cons rfl (keep_cons rfl keep_nil)))), (.cons_cons _ (.cons_cons _ (.cons_cons _ (.refl _))))⟩ ?_))))))))))));rintro μ _ ⟨i, j, f, lr, ll, hk0, hj, hi, he, hm, hl, rfl⟩;subst hj;refine zU rfl (TO.lss rfl rfl rfl rfl rfl (fun c12 hc12=>zN (zS ?_)));cases c12 with
 | true =>
  replace hc12 := btrue hc12;refine zC rfl (zK (zS (zB (zU rfl (zM R4 (TO.index_gs rfl rfl rfl ⟨rfl, rfl⟩ rfl rfl aO (fun g rg eg=>?_)))))))
  try simp only [Int.toNat_natCast] at eg
  refine zV R3 (Val.load_trees (c := _) ⟨⟨_, rfl, rfl⟩, rfl, by decide⟩ rfl rfl) (zJ 4 [_,_,_,_] R7 (fun b7=>zA R4 (TO.store_row (p := 0) (cv := [_, _, _, _]) (cells' := [_, _, _, _]) rfl rfl rfl rfl rfl rfl rfl rfl rfl rfl (by first | rfl | simp [GS.one]) (by decide) rfl (zG (_::_::_::_::C) rfl (zN (zU rfl (zM R4 (zM R4 (zV R3 (vW 0 [_,_,_,_] R5 R4) (TO.pick (p := 3) rfl (zG (_::_::_::_::C) rfl (TO.pick (p := 3) rfl (zG (_::_::_::_::C) rfl (TO.pick (p := 3) rfl (zG (_::_::_::_::C) rfl (TO.callV rfl rfl rfl rfl rfl rfl (orcN rfl) (q_gat hk g i (b.gs.l.take i) f lr ll _ (by rw [List.length_take]; omega) hm hl) ?_))))))))))))))));rintro _ _ ⟨f1, lr1, ll1, rfl, rfl, hnew⟩;generalize hE : gathErr (b.gs.l.take i) g = E19;refine zG (_::_::_::_::C) rfl (zA R4 (zN (zU rfl (zM R4 (TO.neq rfl rfl rfl rfl rfl (fun c21 hc21=>zN ?_))))));cases c21 with
  | true =>
   replace hc21 := btrue hc21
   have hG : gathsErr [] b.gs.l 0 = some (i, E19) := by rw [he, drop_cons eg, gathsErr, hE, if_pos hc21]
   refine zC rfl (zU rfl (zM R4 (zM R4 (zA R4 (zA R4 (zN (T.keep (s' := ⟨[], [(4, _), (5, _)], _ :: _ :: _ :: C⟩) (sc (.cons_cons _ (.cons_cons _ (.cons_cons _ (.cons _ (.refl _)))))) (zR ?_))))))));exact ⟨rfl, _, rfl, _, _, _, _, _, rfl, .inr ⟨_, hG, rfl, hc21⟩, rfl⟩
  | false =>
   replace hc21 := bfalse hc21
   have hE0 : E19 = 0 := by omega
   have hG : gathsErr [] b.gs.l 0 = gathsErr (b.gs.l.take (i + 1)) (b.gs.l.drop (i + 1)) (i + 1) := by rw [he, drop_cons eg, gathsErr, hE, if_neg hc21, take_snoc eg]
   have hnew := hnew (hE.trans hE0);rw [← take_snoc eg] at hnew;refine zD rfl (zK (zT rfl (zV R3 (Val.add rfl rfl aO) (zM R4 (zN ?_)))));refine ⟨_, _, aO, ⟨i + 1, _, _, _, _, rfl, (by first | omega | simp_all), (by first | omega | simp_all), (by exact hG), (by exact hnew.1), (by exact hnew.2), rfl⟩, ⟨rfl, (keep_cons rfl (keep_cons rfl (keep_cons rfl (keep_cons rfl keep_nil)))), (.cons_cons _ (.cons_cons _ (.cons_cons _ (.cons _ (.refl _)))))⟩⟩
 | false =>
  replace hc12 := bfalse hc12
  have hG : gathsErr [] b.gs.l 0 = none := by rw [he, List.drop_eq_nil_of_le aO, gathsErr]
  refine zD rfl (zE (zU rfl (zA R4 (zA R4 (zN (T.keep (s' := ⟨[], [(4, _), (5, _)], _ :: _ :: _ :: C⟩) (sc (.cons_cons _ (.cons_cons _ (.cons_cons _ (.refl _))))) (zR ?_)))))));exact ⟨rfl, _, rfl, _, _, _, _, _, rfl, .inl ⟨hG, rfl, rfl⟩, rfl⟩
theorem q_Check (b : Book)  : Comes (EL 2) 56 [.agg (encB.f b)] (.tuple [iv (bookErr b).1, iv (bookErr b).2.1, iv (bookErr b).2.2]) := by
 refine Comes.of (TF.enter (fn := Go.Proofs.Try.f56) rfl rfl rfl rfl rfl ?_);refine zU rfl (zQ 2 [_,_] R7 (fun b1=>zA R4 (zA R4 (zA R4 (zN (zS (zB (zU rfl (zF 0 R6 (zL 0 R3 R6 (TO.build1 (en := encI) (a := _) rfl rfl rfl ⟨rfl, rfl⟩ ⟨_, rfl, rfl⟩ (by decide) (by decide) rfl rfl (fun v10=>TO.callD rfl rfl rfl rfl rfl (orcL rfl aD) (.cons .lit (.cons .lit (.cons (.ownL (p := 0) rfl .ints) .nil))) (sem_of (q_out _ _ _ (by exact out1_small))) (fun c11 hc11=>?_)))))))))))));replace hc11 := out1 hc11;refine zA R4 (zN ?_);cases c11 with
 | true =>
  replace hc11 := btrue hc11
  have hr1 : ¬ inR b.signed 0 12 := by unfold inR; omega
  clear hc11
  refine zC rfl (zU rfl (zA R4 (zA R4 (zA R4 (zN (zR ?_))))));exact ⟨rfl, _, rfl, RefN.cast (.tuple (.cons .lit (.cons .lit (.cons .lit .nil)))) (by unfold bookErr; simp_all)⟩
 | false =>
  replace hc11 := bfalse hc11
  have hr1 : inR b.signed 0 12 := by unfold inR; omega
  clear hc11
  refine zD rfl (zU rfl (zF 1 R6 (zL 1 R3 R6 (zV R3 (Val.len_gs rfl rfl) (TO.build1 (en := encI) (a := _) rfl rfl rfl ⟨rfl, rfl⟩ ⟨_, rfl, rfl⟩ (by decide) (by decide) rfl rfl (fun v16=>TO.callD rfl rfl rfl rfl rfl (orcL rfl aD) (.cons .lit (.cons .lit (.cons (.ownL (p := 0) rfl .ints) .nil))) (sem_of (q_out _ _ _ (by exact out1_small))) (fun c17 hc17=>?_)))))));replace hc17 := out1 hc17;refine zA R4 (zN ?_);cases c17 with
  | true =>
   replace hc17 := btrue hc17
   have hr2 : ¬ inR b.gs.l.length 1 30 := by unfold inR; omega
   clear hc17
   refine zC rfl (zU rfl (zA R4 (zA R4 (zA R4 (zN (zR ?_))))));exact ⟨rfl, _, rfl, RefN.cast (.tuple (.cons .lit (.cons .lit (.cons .lit .nil)))) (by unfold bookErr; simp_all)⟩
  | false =>
   replace hc17 := bfalse hc17
   have hr2 : inR b.gs.l.length 1 30 := by unfold inR; omega
   refine zD rfl (zK (zU rfl (TO.makeMap KPair rfl rfl rfl (fun m18=>zJ 1 [_] R7 (fun b5=>TO.store_row (p := 0) (cv := [_]) (cells' := [_]) rfl rfl rfl rfl rfl rfl rfl rfl rfl rfl (by first | rfl | simp [GS.one]) (by decide) rfl (zG ([_,_,_,_,_]) rfl (zN (zU rfl (zJ 2 [_,_] R7 (fun b6=>zN (zU rfl (zF 1 R6 (zL 5 R3 R6 (zV R3 (Val.makeFunc rfl rfl) (TO.pick (p := 2) rfl (zG ([_,_,_,_,_,_]) rfl (TO.pick (p := 2) rfl (zG ([_,_,_,_,_,_]) rfl (TO.callV rfl rfl rfl rfl rfl rfl (orcN rfl) (q_gats (by decide) b _ aO) ?_)))))))))))))))))));rintro _ _ ⟨i0, e0, f1, lr1, ll1, rfl, hG, rfl⟩;refine zG ([_,_,_,_,_,_]) rfl (zM R4 (zX R5 (zX R5 (zA R4 (zA R4 (zN (zS (zU rfl (zM R4 (TO.neq rfl rfl rfl rfl rfl (fun c27 hc27=>zN ?_)))))))))));cases c27 with
   | true =>
    replace hc27 := btrue hc27;obtain ⟨j0, hG, rfl, -⟩ : ∃ j, gathsErr [] b.gs.l 0 = some (j, e0) ∧ i0 = j ∧ e0 ≠ 0 := by rcases hG with ⟨-, -, h⟩ | h; exact absurd h hc27; exact h
    refine zC rfl (zU rfl (zM R4 (zM R4 (zA R4 (zA R4 (zA R4 (zN (zR ?_))))))));exact ⟨rfl, _, rfl, RefN.cast (.tuple (.cons .lit (.cons .lit (.cons .lit .nil)))) (by unfold bookErr; simp_all)⟩
   | false =>
    replace hc27 := bfalse hc27;replace hG : gathsErr [] b.gs.l 0 = none := by rcases hG with ⟨h, -, -⟩ | ⟨j, -, -, h⟩; exact h; exact absurd h hc27
    refine zD rfl (zK (zU rfl (zA R4 (zA R4 (zA R4 (zN (zR ?_)))))));exact ⟨rfl, _, rfl, RefN.cast (.tuple (.cons .lit (.cons .lit (.cons .lit .nil)))) (by unfold bookErr; simp_all)⟩
end Go.Am.Ythckcbfijdambaa
end
section
namespace Go.Am.Ythckcbfijdambaa
open Go.Am Go.RowKit
set_option linter.unusedVariables false
set_option linter.unusedSimpArgs false
def ArgL (x : Leaf) (vs : List AV) (G : List Thing) : Prop := vs = [.agg (encL.f x)] ∧ G = []
theorem lv_iter {k : Nat} {b : Book} {bx l : Nat} {Y Z : List Leaf → List Thing → Prop} (hb : Good b) (hy : VisitG (EL k) l ArgL (· <+: leavesOf b) Y Z) (C : List Thing) (hY : Y [] C) :
  TF (EL k) 103 [.yield l, .ptr bx 0 2] (.row bx 2 [iv b.signed, b.gs.v] :: C) (fun v hs' => ∃ C', hs' = .row bx 2 [iv b.signed, b.gs.v] :: C' ∧ (Y (leavesOf b) C' ∨ ∃ q r, leavesOf b = q ++ r ∧ Z q C')) := by
 have hgs := hb.gs;refine TF.enter (fn := Go.Proofs.Try.f103) rfl rfl rfl rfl rfl (zU rfl (zF 0 R6 (zF 1 R6 (zL 0 R3 R6 (zV R3 (Val.len_gs rfl rfl) (zM R4 (zN (zB (T.loop (fun μ s => ∃ i : Nat, ∃ j : Int, ∃ C1 : List Thing, μ = b.gs.l.length - i ∧ j = i ∧ i ≤ b.gs.l.length ∧ Y (leavesFrom 0 (b.gs.l.take i)) C1 ∧ s = ⟨[], [(0, .yield l), (1, .ptr bx 0 2), (16, b.gs.v), (17, iv (b.gs.l.length : Int)), (18, iv j)], (.row bx 2 [iv b.signed, b.gs.v]) :: C1⟩) (k := _) (s' := _) ⟨0, 0, _, rfl, (by first | rfl | omega | (simp; done) | (simp; omega) | simp_all), (by first | rfl | omega | (simp; done) | (simp; omega) | simp_all), (by simpa [leavesFrom] using hY), rfl⟩ ⟨rfl, (keep_cons rfl (keep_cons rfl (keep_cons rfl (keep_cons rfl (keep_cons rfl keep_nil))))), (.cons_cons _ (.refl _))⟩ ?_)))))))));rintro μ _ ⟨i, j, C1, hk0, hj, hi, hY1, rfl⟩;subst hj;refine zU rfl (TO.lss rfl rfl rfl rfl rfl (fun c19 hc19=>zN (zS ?_)));cases c19 with
 | true =>
  replace hc19 := btrue hc19;refine zC rfl (zK (zS (zB (zU rfl (zM R4 (TO.index_gs rfl rfl rfl ⟨rfl, rfl⟩ rfl rfl aO (fun g rg eg=>?_)))))))
  try simp only [Int.toNat_natCast] at eg
  obtain ⟨hg1, hg2, hg3, hg4, hg5⟩ := hb.each g (List.mem_of_getElem? eg);refine zV R3 (Val.load_trees (c := _) ⟨⟨_, rfl, rfl⟩, rfl, by decide⟩ rfl rfl) (zJ 4 [_,_,_,_] R7 (fun b4=>zA R4 (TO.store_row (p := 0) (cv := [_, _, _, _]) (cells' := [_, _, _, _]) rfl rfl rfl rfl rfl rfl rfl rfl rfl rfl (by first | rfl | simp [GS.one]) (by decide) rfl (zG (_::_::C1) rfl (zN (zU rfl (zF 3 R6 (zL 0 R3 R6 (zV R3 (Val.len_gs rfl rfl) (TO.makeEn (en := encC) ⟨0, 0, 0⟩ (m := g.ch.l.length) (b := 24) rfl rfl rfl ⟨rfl, rfl⟩ rfl rfl rfl rfl rfl aO aO (fun v26 hv26=>zA R4 (zN (zU rfl (zM R4 (zF 3 R6 (zL 1 R3 R6 (TO.eff rfl rfl rfl (Eff.copy_gs (en := encC) (l := _) (p := 0) ⟨rfl, rfl⟩ (by decide) rfl rfl rfl rfl (en_ones encC_ones _) (by simp)) ?_)))))))))))))))));rintro _ _ ⟨rfl, rfl⟩;refine zG (_::_::_::C1) rfl (zN (zU rfl (zF 2 R6 (zL 1 R3 R6 (zV R3 (Val.add rfl rfl aO) (zM R4 (zN (zB (T.loop (fun μ s => ∃ n : Nat, ∃ j1 : Int, ∃ tk : Nat, ∃ w : AV, ∃ C2 : List Thing, μ = (g.leaves + 1).toNat - n ∧ j1 = n ∧ (n : Int) ≤ g.leaves + 1 ∧ ViewOf v26 3 g.ch.l.length tk w ∧ (∀ c ∈ g.ch.l.take tk, c.at_ < n) ∧ (∀ c ∈ g.ch.l.drop tk, n ≤ c.at_) ∧ Y (leavesFrom 0 (b.gs.l.take i) ++ (List.range n).flatMap (numLeaves (i : Int) g)) C2 ∧ s = ⟨[], [(0, .yield l), (1, .ptr bx 0 2), (16, b.gs.v), (17, iv (b.gs.l.length : Int)), (18, iv (i : Int)), (3, iv (i : Int)), (4, .ptr b4 0 4), (5, w), (33, iv (g.leaves + 1)), (34, iv j1)], (ownL false v26 encC g.ch.l) :: (.row b4 4 [iv g.round, iv g.letter, iv g.leaves, g.ch.v]) :: (.row bx 2 [iv b.signed, b.gs.v]) :: C2⟩) (k := _) (s' := _) ⟨0, 0, 0, _, _, rfl, (by first | rfl | omega | (simp; done) | (simp; omega) | simp_all), (by first | rfl | omega | (simp; done) | (simp; omega) | simp_all), (by exact hv26), (by first | rfl | omega | (simp; done) | (simp; omega) | simp_all), (by intro c hc; exact (hg5.each c (List.mem_of_mem_drop hc)).2.2.1), (by simpa using hY1), rfl⟩ ⟨rfl, (keep_cons rfl (keep_cons rfl (keep_cons rfl (keep_cons rfl (keep_cons rfl (keep_cons rfl (keep_cons rfl (keep_cons rfl (keep_cons rfl (keep_cons rfl keep_nil)))))))))), (.cons_cons _ (.cons_cons _ (.cons_cons _ (.refl _))))⟩ ?_)))))))));rintro μ _ ⟨n, j1, tk, w, C2, hk1, hj1, hn, hw, hs1, hs2, hY2, rfl⟩;subst hj1;refine zU rfl (TO.lss rfl rfl rfl rfl rfl (fun c35 hc35=>zN (zS ?_)));cases c35 with
  | true =>
   replace hc35 := btrue hc35;refine zC rfl (zK (zS (zB (zU rfl (zM R4 (zA R4 (zN (zU rfl (zM R4 (zM R4 (zV R3 (Val.build (cs := [_, _, _, _]) (vs := [(_, _), (_, _)]) rfl rfl rfl) (zJ 4 [_,_,_,_] R7 (fun b7=>TO.store_row (p := 0) (cv := [_, _, _, _]) (cells' := [_, _, _, _]) rfl rfl rfl rfl rfl rfl rfl rfl rfl rfl (by first | rfl | simp [GS.one]) (by decide) rfl (zG (_::_::_::_::C2) rfl (zN (zU rfl (zM R4 (TO.gtr rfl rfl rfl rfl rfl (fun c41 hc41=>zA R4 (zA R4 (zN (zS (zB (T.loop (fun μ s => ∃ s3 : Nat, ∃ w3 : AV, ∃ th : Bool, ∃ kd : Int, ∃ mo : Int, μ = g.ch.l.length - s3 ∧ ViewOf v26 3 g.ch.l.length s3 w3 ∧ AtN g.ch.l n s3 ∧ (th = true ↔ 0 < (n : Int) ∧ (plusOf (g.ch.l.take s3) n).2 ≠ 1) ∧ kd = (if (plusOf (g.ch.l.take s3) n).2 = 2 then 1 else 0) ∧ mo = (plusOf (g.ch.l.take s3) n).1 ∧ s = ⟨[], [(0, .yield l), (1, .ptr bx 0 2), (16, b.gs.v), (17, iv (b.gs.l.length : Int)), (18, iv (i : Int)), (3, iv (i : Int)), (4, .ptr b4 0 4), (5, w3), (33, iv (g.leaves + 1)), (34, iv (n : Int)), (6, iv (n : Int)), (7, .ptr b7 0 4), (8, bv th), (9, iv mo)], (.row b7 4 [iv (i : Int), iv (n : Int), iv 0, iv kd]) :: (ownL false v26 encC g.ch.l) :: (.row b4 4 [iv g.round, iv g.letter, iv g.leaves, g.ch.v]) :: (.row bx 2 [iv b.signed, b.gs.v]) :: C2⟩) (k := _) (s' := _) ⟨tk, w, _, 0, 0, rfl, (by exact hw), (by exact (AtN.start hs1 hs2).1), (by rw [(AtN.start hs1 hs2).2, hc41]; simp), (by rw [(AtN.start hs1 hs2).2]; rfl), (by rw [(AtN.start hs1 hs2).2]), rfl⟩ ⟨rfl, (keep_cons rfl (keep_cons rfl (keep_cons rfl (keep_cons rfl (keep_cons rfl (keep_cons rfl (keep_cons rfl (keep_cons rfl (keep_cons rfl (keep_cons rfl (keep_cons rfl (keep_cons rfl (keep_cons rfl (keep_cons rfl keep_nil)))))))))))))), (.cons_cons _ (.cons_cons _ (.cons_cons _ (.cons_cons _ (.refl _)))))⟩ ?_))))))))))))))))))))))));rintro μ _ ⟨s3, w3, th, kd, mo, hk2, hw3, hat, hth, hkd, hmo, rfl⟩;refine zS (zU rfl (zM R4 (zV R3 (Val.len_view hw3 rfl rfl) (TO.gtr rfl rfl rfl rfl rfl (fun c44 hc44=>zM R4 ?_)))));cases c44 with
   | true =>
    replace hc44 := btrue hc44;refine zM R4 (TO.iaddr_view (en := encC) (p := 1) rfl rfl rfl ⟨rfl, rfl⟩ rfl hw3 rfl rfl (by show 0 ≤ (0 : Int) ∧ s3 + 0 < _; omega) (fun id47 c atc ec=>?_));replace ec : g.ch.l[s3]? = some c := ec;refine zV R3 (Val.faddr_ptr_ rfl rfl) (zV R3 (Val.load_ownL (en := encC) (p := 1) (j := 1) rfl atc ⟨_, rfl, rfl⟩ rfl ec rfl) (zM R4 (TO.eql rfl rfl rfl rfl rfl (fun c51 hc51=>zP R6 (zN ?_)))));cases c51 with
    | true =>
     replace hc51 := btrue hc51;refine zC rfl (zK (zB (zS (zU rfl (zM R4 (TO.iaddr_view (en := encC) (p := 1) rfl rfl rfl ⟨rfl, rfl⟩ rfl hw3 rfl rfl (by show 0 ≤ (0 : Int) ∧ s3 + 0 < _; omega) (fun id54 c2 atc2 ec2=>?_)))))))
     have e54 : c2 = c := Option.some.inj (Eq.trans (show some c2 = g.ch.l[s3]? from ec2.symm) ec);subst e54;refine zV R3 (Val.load_ownA (en := encC) (p := 1) rfl atc2 ⟨⟨_, rfl, rfl⟩, rfl, by decide⟩ rfl ec2) (TO.callIn rfl rfl rfl rfl rfl rfl (orcN rfl) (TF.enter (fn := Go.Proofs.Try.f81) rfl rfl rfl rfl rfl (zU rfl (zQ 3 [_,_,_] R7 (fun b1=>zA R4 (zN (zS (zU rfl (zF 0 R6 (zL 0 R3 R6 (zN (zB (zU rfl (TO.eql rfl rfl rfl rfl rfl (fun c6 hc6=>zA R4 (zN ?_))))))))))))))));cases c6 with
     | true =>
      replace hc6 := btrue hc6
      have hp0 := plusOf_first hg5.order ec hc51 aO
      have hp := step_less hg5.order ec hc51 hc6;refine zC rfl (zU rfl (zF 1 R6 (zL 0 R3 R6 (zV R3 (Val.build (cs := [_]) (vs := [(_, _)]) rfl rfl rfl) (zV R3 (Val.makeIface rfl rfl rfl) (zA R4 (zN (zR ?_))))))));refine ⟨rfl, _, rfl, ?_⟩;refine zN (zB (zU rfl (zV R3 (Val.assert_yes rfl rfl rfl rfl) (zX R5 (zX R5 (zN (zC rfl (zU rfl (zJ 1 [_] R7 (fun b10=>TO.store_row (p := 0) (cv := [_]) (cells' := [_]) rfl rfl rfl rfl rfl rfl rfl rfl rfl rfl (by first | rfl | simp [GS.one]) (by decide) rfl (zG (_::_::_::_::_::_::C2) rfl (zN (zT rfl (zA R4 (zN (zT rfl (zM R4 (TO.slice_view (en := encC) (p := 3) (j := 1) rfl rfl rfl ⟨rfl, rfl⟩ rfl hw3 rfl rfl aO (fun w70 hw70=>zA R4 (zN ?_))))))))))))))))))));refine ⟨_, _, aO, ⟨s3 + 1, _, _, _, _, rfl, (by exact hw70), (by exact hat.one ec hc51), (by rw [hp]; simp), (by rw [hp]; rw [hp0] at hkd; simpa using hkd), (by rw [hp]; rw [hp0] at hmo; exact hmo), rfl⟩, ⟨rfl, (keep_cons rfl (keep_cons rfl (keep_cons rfl (keep_cons rfl (keep_cons rfl (keep_cons rfl (keep_cons rfl (keep_cons rfl (keep_cons rfl (keep_cons rfl (keep_cons rfl (keep_cons rfl (keep_cons rfl (keep_cons rfl keep_nil)))))))))))))), (.cons _ (.cons _ (.cons_cons _ (.cons_cons _ (.cons_cons _ (.cons_cons _ (.refl _)))))))⟩⟩
     | false =>
      replace hc6 := bfalse hc6;refine zD rfl (zU rfl (TO.eql rfl rfl rfl rfl rfl (fun c12 hc12=>zA R4 (zN ?_))));cases c12 with
      | true =>
       replace hc12 := btrue hc12
       have hp0 := plusOf_first hg5.order ec hc51 aO
       have hp := step_swap hg5.order ec hc51 hc12;refine zC rfl (zU rfl (zF 1 R6 (zL 0 R3 R6 (zV R3 (Val.build (cs := [_]) (vs := [(_, _)]) rfl rfl rfl) (zV R3 (Val.makeIface rfl rfl rfl) (zA R4 (zN (zR ?_))))))));refine ⟨rfl, _, rfl, ?_⟩;refine zN (zB (zU rfl (zV R3 (Val.assert_no rfl rfl rfl rfl rfl) (zX R5 (zX R5 (zN (zD rfl (zU rfl (zV R3 (Val.assert_yes rfl rfl rfl rfl) (zX R5 (zX R5 (zN (zC rfl (zU rfl (zJ 1 [_] R7 (fun b11=>TO.store_row (p := 0) (cv := [_]) (cells' := [_]) rfl rfl rfl rfl rfl rfl rfl rfl rfl rfl (by first | rfl | simp [GS.one]) (by decide) rfl (zG (_::_::_::_::_::_::C2) rfl (zN (zT rfl (zF 3 R6 (TO.store_row (p := 2) (cv := [_]) (cells' := [_, _, _, _]) rfl rfl rfl rfl rfl rfl rfl rfl rfl rfl (by first | rfl | simp [GS.one]) (by decide) rfl (zG (_::_::_::_::_::_::C2) rfl (zN (zT rfl (zM R4 (TO.slice_view (en := encC) (p := 3) (j := 1) rfl rfl rfl ⟨rfl, rfl⟩ rfl hw3 rfl rfl aO (fun w70 hw70=>zA R4 (zN ?_))))))))))))))))))))))))))));refine ⟨_, _, aO, ⟨s3 + 1, _, _, _, _, rfl, (by exact hw70), (by exact hat.one ec hc51), (by rw [hp]; rw [hp0] at hth; simpa using hth), (by rw [hp]; rfl), (by rw [hp]; rw [hp0] at hmo; exact hmo), rfl⟩, ⟨rfl, (keep_cons rfl (keep_cons rfl (keep_cons rfl (keep_cons rfl (keep_cons rfl (keep_cons rfl (keep_cons rfl (keep_cons rfl (keep_cons rfl (keep_cons rfl (keep_cons rfl (keep_cons rfl (keep_cons rfl (keep_cons rfl keep_nil)))))))))))))), (.cons _ (.cons _ (.cons_cons _ (.cons_cons _ (.cons_cons _ (.cons_cons _ (.refl _)))))))⟩⟩
      | false =>
       replace hc12 := bfalse hc12;refine zD rfl (zU rfl (TO.eql rfl rfl rfl rfl rfl (fun c18 hc18=>zA R4 (zN ?_))));cases c18 with
       | true =>
        replace hc18 := btrue hc18
        have hp := step_plus ec hc51 hc18;refine zC rfl (zU rfl (zF 1 R6 (zL 0 R3 R6 (zF 2 R6 (zL 0 R3 R6 (zV R3 (Val.build (cs := [_, _]) (vs := [(_, _), (_, _)]) rfl rfl rfl) (zV R3 (Val.makeIface rfl rfl rfl) (zA R4 (zN (zR ?_))))))))));refine ⟨rfl, _, rfl, ?_⟩;refine zN (zB (zU rfl (zV R3 (Val.assert_no rfl rfl rfl rfl rfl) (zX R5 (zX R5 (zN (zD rfl (zU rfl (zV R3 (Val.assert_no rfl rfl rfl rfl rfl) (zX R5 (zX R5 (zN (zD rfl (zU rfl (zV R3 (Val.assert_yes rfl rfl rfl rfl) (zX R5 (zX R5 (zN (zC rfl (zU rfl (zJ 2 [_,_] R7 (fun b12=>TO.store_row (p := 0) (cv := [_, _]) (cells' := [_, _]) rfl rfl rfl rfl rfl rfl rfl rfl rfl rfl (by first | rfl | simp [GS.one]) (by decide) rfl (zG (_::_::_::_::_::_::C2) rfl (zN (zT rfl (zF 1 R6 (zL 0 R3 R6 (zA R4 (zN (zT rfl (zM R4 (TO.slice_view (en := encC) (p := 3) (j := 1) rfl rfl rfl ⟨rfl, rfl⟩ rfl hw3 rfl rfl aO (fun w70 hw70=>zA R4 (zN ?_))))))))))))))))))))))))))))))))));refine ⟨_, _, aO, ⟨s3 + 1, _, _, _, _, rfl, (by exact hw70), (by exact hat.one ec hc51), (by rw [hp]; exact hth), (by rw [hp]; exact hkd), (by rw [hp]), rfl⟩, ⟨rfl, (keep_cons rfl (keep_cons rfl (keep_cons rfl (keep_cons rfl (keep_cons rfl (keep_cons rfl (keep_cons rfl (keep_cons rfl (keep_cons rfl (keep_cons rfl (keep_cons rfl (keep_cons rfl (keep_cons rfl (keep_cons rfl keep_nil)))))))))))))), (.cons _ (.cons _ (.cons_cons _ (.cons_cons _ (.cons_cons _ (.cons_cons _ (.refl _)))))))⟩⟩
       | false =>
        replace hc18 := bfalse hc18
        exfalso; have := hg5.each _ (List.mem_of_getElem? ec); omega
    | false =>
     replace hc51 := bfalse hc51
     have hov := hat.over hg5.order (.inr ⟨_, ec, hc51⟩)
     have hmo4 : mo ≤ 4 := by rw [hmo]; exact plusOf_le fun c hc => (hg5.each c (List.mem_of_mem_take hc)).2.2.2.2
     refine zD rfl (zE (zS (zU rfl (zM R4 (zM R4 ?_)))));cases th with
     | true =>
      replace hth := btrue hth
      have hown : ownLeaf (i : Int) (n : Int) g = [⟨i, n, 0, kd⟩] := by unfold ownLeaf; rw [hov.1, if_pos hth, ← hkd]
      refine zM R4 (zV R3 (vW 0 [_,_,_,_] R5 R4) (TO.perm (hs' := C2 ++ [_, _, _, _]) List.perm_append_comm (TO.callY rfl rfl rfl rfl rfl (hy (leavesFrom 0 (b.gs.l.take i) ++ (List.range n).flatMap (numLeaves (i : Int) g)) ⟨(i : Int), (n : Int), 0, kd⟩ _ [] C2 _ (hown ▸ own_first eg hc35) ⟨rfl, rfl⟩ hY2) ?_)));rintro _ _ (⟨rfl, C9, rfl, hY9⟩ | ⟨rfl, C9, rfl, hZ9⟩)
      ·skip;refine TO.perm (hs' := [_, _, _, _] ++ C9) List.perm_append_comm (zG (_::_::_::_::C9) rfl (zV R3 (Val.not rfl) (zP R6 (zN (zD rfl (zK (zU rfl (zM R4 (zM R4 (zN (zB (T.loop (fun μ s => ∃ k1 : Nat, ∃ j3 : Int, ∃ C3 : List Thing, μ = mo.toNat - k1 ∧ j3 = k1 ∧ (k1 : Int) ≤ max 0 mo ∧ Y (leavesFrom 0 (b.gs.l.take i) ++ (List.range n).flatMap (numLeaves (i : Int) g) ++ ownLeaf (i : Int) (n : Int) g ++ newLeaves (i : Int) (n : Int) k1) C3 ∧ s = ⟨[], [(0, .yield l), (1, .ptr bx 0 2), (16, b.gs.v), (17, iv (b.gs.l.length : Int)), (18, iv (i : Int)), (3, iv (i : Int)), (4, .ptr b4 0 4), (5, w3), (33, iv (g.leaves + 1)), (34, iv (n : Int)), (6, iv (n : Int)), (78, iv mo), (79, iv j3)], (ownL false v26 encC g.ch.l) :: (.row b4 4 [iv g.round, iv g.letter, iv g.leaves, g.ch.v]) :: (.row bx 2 [iv b.signed, b.gs.v]) :: C3⟩) (k := _) (s' := _) ⟨0, 0, _, rfl, (by first | rfl | omega | (simp; done) | (simp; omega) | simp_all), (by first | rfl | omega | (simp; done) | (simp; omega) | simp_all), (by rw [hown, show newLeaves (i : Int) (n : Int) 0 = [] from rfl, List.append_nil]; first | exact hY9 | (rw [List.append_nil]; exact hY2)), rfl⟩ ⟨rfl, (keep_cons rfl (keep_cons rfl (keep_cons rfl (keep_cons rfl (keep_cons rfl (keep_cons rfl (keep_cons rfl (keep_cons rfl (keep_cons rfl (keep_cons rfl (keep_cons rfl (keep_cons rfl (keep_cons rfl keep_nil))))))))))))), (.cons _ (.cons_cons _ (.cons_cons _ (.cons_cons _ (.refl _)))))⟩ ?_))))))))))))
       rintro μ _ ⟨k1, j3, C3, hk3, hj3, hk1, hY3, rfl⟩;subst hj3;refine zU rfl (TO.lss rfl rfl rfl rfl rfl (fun c80 hc80=>zN (zS ?_)));cases c80 with
       | true =>
        replace hc80 := btrue hc80;refine zC rfl (zK (zS (zB (zU rfl (zM R4 (zA R4 (zN (zU rfl (zM R4 (zM R4 (zM R4 (zM R4 (zV R3 (Val.add rfl rfl aO) (zV R3 (Val.build (cs := [_, _, _, _]) (vs := [(_, _), (_, _), (_, _), (_, _)]) rfl rfl rfl) (TO.perm (hs' := C3 ++ [_, _, _]) List.perm_append_comm (TO.callY rfl rfl rfl rfl rfl (hy (leavesFrom 0 (b.gs.l.take i) ++ (List.range n).flatMap (numLeaves (i : Int) g) ++ ownLeaf (i : Int) (n : Int) g ++ newLeaves (i : Int) (n : Int) k1) ⟨(i : Int), (n : Int), (k1 : Int) + 1, 2⟩ _ [] C3 _ (by rw [List.append_assoc, ← newLeaves_succ]; exact new_first eg hc35 (by rw [hov.1, ← hmo]; omega)) ⟨rfl, rfl⟩ hY3) ?_))))))))))))))));rintro _ _ (⟨rfl, C9, rfl, hY9⟩ | ⟨rfl, C9, rfl, hZ9⟩)
        ·skip;refine TO.perm (hs' := [_, _, _] ++ C9) List.perm_append_comm (zG (_::_::_::C9) rfl (zV R3 (Val.not rfl) (zN (zD rfl (zK (zT rfl (zV R3 (Val.add rfl rfl aO) (zM R4 (zN ?_)))))))))
         refine ⟨_, _, aO, ⟨k1 + 1, _, _, rfl, (by first | omega | simp_all), (by first | omega | simp_all), (by rw [newLeaves_succ, ← List.append_assoc]; exact hY9), rfl⟩, ⟨rfl, (keep_cons rfl (keep_cons rfl (keep_cons rfl (keep_cons rfl (keep_cons rfl (keep_cons rfl (keep_cons rfl (keep_cons rfl (keep_cons rfl (keep_cons rfl (keep_cons rfl (keep_cons rfl (keep_cons rfl keep_nil))))))))))))), (.cons_cons _ (.cons_cons _ (.cons_cons _ (.refl _))))⟩⟩
        ·skip;refine TO.perm (hs' := [_, _, _] ++ C9) List.perm_append_comm (zG (_::_::_::C9) rfl (zV R3 (Val.not rfl) (zN (zC rfl (T.keep (s' := ⟨[], [], _ :: C9⟩) (sc (.cons _ (.cons _ (.cons_cons _ (.refl _))))) (zR ?_))))))
         obtain ⟨r9, hr9⟩ := new_first (j := k1 + 1) eg hc35 (by rw [hov.1, ← hmo]; omega); exact ⟨rfl, _, rfl, C9, rfl, .inr ⟨_, r9, hr9.symm, by rw [newLeaves_succ, ← List.append_assoc]; exact hZ9⟩⟩
       | false =>
        replace hc80 := bfalse hc80
        have hkm : k1 = mo.toNat := by omega
        have enum : numLeaves (i : Int) g n = ownLeaf (i : Int) (n : Int) g ++ newLeaves (i : Int) (n : Int) k1 := by unfold numLeaves; rw [hov.1, ← hmo, hkm]
        refine zD rfl (zE (zT rfl (zV R3 (Val.add rfl rfl aO) (zM R4 (zN ?_)))));refine ⟨_, _, aO, ⟨n + 1, _, _, _, _, rfl, (by first | omega | simp_all), (by first | omega | simp_all), (by exact hw3), (by intro c hc; have := hov.2.1 c hc; omega), (by intro c hc; have := hov.2.2 c hc; omega), (by rw [range_flat_succ, enum, ← List.append_assoc, ← List.append_assoc]; exact hY3), rfl⟩, ⟨rfl, (keep_cons rfl (keep_cons rfl (keep_cons rfl (keep_cons rfl (keep_cons rfl (keep_cons rfl (keep_cons rfl (keep_cons rfl (keep_cons rfl (keep_cons rfl keep_nil)))))))))), (.cons_cons _ (.cons_cons _ (.cons_cons _ (.refl _))))⟩⟩
      ·skip;refine TO.perm (hs' := [_, _, _, _] ++ C9) List.perm_append_comm (zG (_::_::_::_::C9) rfl (zV R3 (Val.not rfl) (zP R6 (zN (zC rfl (T.keep (s' := ⟨[], [], _ :: C9⟩) (sc (.cons _ (.cons _ (.cons _ (.cons_cons _ (.refl _)))))) (zR ?_)))))))
       obtain ⟨r9, hr9⟩ := new_first (j := 0) eg hc35 (Nat.zero_le _); exact ⟨rfl, _, rfl, C9, rfl, .inr ⟨_, r9, hr9.symm, by rw [hown, show newLeaves (i : Int) (n : Int) 0 = [] from rfl, List.append_nil]; exact hZ9⟩⟩
     | false =>
      replace hth := bfalse hth
      have hown : ownLeaf (i : Int) (n : Int) g = [] := by unfold ownLeaf; rw [hov.1, if_neg hth]
      refine zO R3 (zO R3 (zO R3 (zO R3 (zP R6 (zN (zD rfl (zK (zU rfl (zM R4 (zM R4 (zN (zB (T.loop (fun μ s => ∃ k1 : Nat, ∃ j3 : Int, ∃ C3 : List Thing, μ = mo.toNat - k1 ∧ j3 = k1 ∧ (k1 : Int) ≤ max 0 mo ∧ Y (leavesFrom 0 (b.gs.l.take i) ++ (List.range n).flatMap (numLeaves (i : Int) g) ++ ownLeaf (i : Int) (n : Int) g ++ newLeaves (i : Int) (n : Int) k1) C3 ∧ s = ⟨[], [(0, .yield l), (1, .ptr bx 0 2), (16, b.gs.v), (17, iv (b.gs.l.length : Int)), (18, iv (i : Int)), (3, iv (i : Int)), (4, .ptr b4 0 4), (5, w3), (33, iv (g.leaves + 1)), (34, iv (n : Int)), (6, iv (n : Int)), (78, iv mo), (79, iv j3)], (ownL false v26 encC g.ch.l) :: (.row b4 4 [iv g.round, iv g.letter, iv g.leaves, g.ch.v]) :: (.row bx 2 [iv b.signed, b.gs.v]) :: C3⟩) (k := _) (s' := _) ⟨0, 0, _, rfl, (by first | rfl | omega | (simp; done) | (simp; omega) | simp_all), (by first | rfl | omega | (simp; done) | (simp; omega) | simp_all), (by rw [hown, show newLeaves (i : Int) (n : Int) 0 = [] from rfl, List.append_nil]; first | exact hY9 | (rw [List.append_nil]; exact hY2)), rfl⟩ ⟨rfl, (keep_cons rfl (keep_cons rfl (keep_cons rfl (keep_cons rfl (keep_cons rfl (keep_cons rfl (keep_cons rfl (keep_cons rfl (keep_cons rfl (keep_cons rfl (keep_cons rfl (keep_cons rfl (keep_cons rfl keep_nil))))))))))))), (.cons _ (.cons_cons _ (.cons_cons _ (.cons_cons _ (.refl _)))))⟩ ?_)))))))))))));rintro μ _ ⟨k1, j3, C3, hk3, hj3, hk1, hY3, rfl⟩;subst hj3;refine zU rfl (TO.lss rfl rfl rfl rfl rfl (fun c80 hc80=>zN (zS ?_)));cases c80 with
      | true =>
       replace hc80 := btrue hc80;refine zC rfl (zK (zS (zB (zU rfl (zM R4 (zA R4 (zN (zU rfl (zM R4 (zM R4 (zM R4 (zM R4 (zV R3 (Val.add rfl rfl aO) (zV R3 (Val.build (cs := [_, _, _, _]) (vs := [(_, _), (_, _), (_, _), (_, _)]) rfl rfl rfl) (TO.perm (hs' := C3 ++ [_, _, _]) List.perm_append_comm (TO.callY rfl rfl rfl rfl rfl (hy (leavesFrom 0 (b.gs.l.take i) ++ (List.range n).flatMap (numLeaves (i : Int) g) ++ ownLeaf (i : Int) (n : Int) g ++ newLeaves (i : Int) (n : Int) k1) ⟨(i : Int), (n : Int), (k1 : Int) + 1, 2⟩ _ [] C3 _ (by rw [List.append_assoc, ← newLeaves_succ]; exact new_first eg hc35 (by rw [hov.1, ← hmo]; omega)) ⟨rfl, rfl⟩ hY3) ?_))))))))))))))));rintro _ _ (⟨rfl, C9, rfl, hY9⟩ | ⟨rfl, C9, rfl, hZ9⟩)
       ·skip;refine TO.perm (hs' := [_, _, _] ++ C9) List.perm_append_comm (zG (_::_::_::C9) rfl (zV R3 (Val.not rfl) (zN (zD rfl (zK (zT rfl (zV R3 (Val.add rfl rfl aO) (zM R4 (zN ?_)))))))))
        refine ⟨_, _, aO, ⟨k1 + 1, _, _, rfl, (by first | omega | simp_all), (by first | omega | simp_all), (by rw [newLeaves_succ, ← List.append_assoc]; exact hY9), rfl⟩, ⟨rfl, (keep_cons rfl (keep_cons rfl (keep_cons rfl (keep_cons rfl (keep_cons rfl (keep_cons rfl (keep_cons rfl (keep_cons rfl (keep_cons rfl (keep_cons rfl (keep_cons rfl (keep_cons rfl (keep_cons rfl keep_nil))))))))))))), (.cons_cons _ (.cons_cons _ (.cons_cons _ (.refl _))))⟩⟩
       ·skip;refine TO.perm (hs' := [_, _, _] ++ C9) List.perm_append_comm (zG (_::_::_::C9) rfl (zV R3 (Val.not rfl) (zN (zC rfl (T.keep (s' := ⟨[], [], _ :: C9⟩) (sc (.cons _ (.cons _ (.cons_cons _ (.refl _))))) (zR ?_))))))
        obtain ⟨r9, hr9⟩ := new_first (j := k1 + 1) eg hc35 (by rw [hov.1, ← hmo]; omega); exact ⟨rfl, _, rfl, C9, rfl, .inr ⟨_, r9, hr9.symm, by rw [newLeaves_succ, ← List.append_assoc]; exact hZ9⟩⟩
      | false =>
       replace hc80 := bfalse hc80
       have hkm : k1 = mo.toNat := by omega
       have enum : numLeaves (i : Int) g n = ownLeaf (i : Int) (n : Int) g ++ newLeaves (i : Int) (n : Int) k1 := by unfold numLeaves; rw [hov.1, ← hmo, hkm]
       refine zD rfl (zE (zT rfl (zV R3 (Val.add rfl rfl aO) (zM R4 (zN ?_)))));refine ⟨_, _, aO, ⟨n + 1, _, _, _, _, rfl, (by first | omega | simp_all), (by first | omega | simp_all), (by exact hw3), (by intro c hc; have := hov.2.1 c hc; omega), (by intro c hc; have := hov.2.2 c hc; omega), (by rw [range_flat_succ, enum, ← List.append_assoc, ← List.append_assoc]; exact hY3), rfl⟩, ⟨rfl, (keep_cons rfl (keep_cons rfl (keep_cons rfl (keep_cons rfl (keep_cons rfl (keep_cons rfl (keep_cons rfl (keep_cons rfl (keep_cons rfl (keep_cons rfl keep_nil)))))))))), (.cons_cons _ (.cons_cons _ (.cons_cons _ (.refl _))))⟩⟩
   | false =>
    replace hc44 := bfalse hc44
    have hov := hat.over hg5.order (.inl aO)
    have hmo4 : mo ≤ 4 := by rw [hmo]; exact plusOf_le fun c hc => (hg5.each c (List.mem_of_mem_take hc)).2.2.2.2
    refine zO R3 (zO R3 (zO R3 (zO R3 (zO R3 (zO R3 (zP R6 (zN (zD rfl (zE (zS (zU rfl (zM R4 (zM R4 ?_)))))))))))));cases th with
    | true =>
     replace hth := btrue hth
     have hown : ownLeaf (i : Int) (n : Int) g = [⟨i, n, 0, kd⟩] := by unfold ownLeaf; rw [hov.1, if_pos hth, ← hkd]
     refine zM R4 (zV R3 (vW 0 [_,_,_,_] R5 R4) (TO.perm (hs' := C2 ++ [_, _, _, _]) List.perm_append_comm (TO.callY rfl rfl rfl rfl rfl (hy (leavesFrom 0 (b.gs.l.take i) ++ (List.range n).flatMap (numLeaves (i : Int) g)) ⟨(i : Int), (n : Int), 0, kd⟩ _ [] C2 _ (hown ▸ own_first eg hc35) ⟨rfl, rfl⟩ hY2) ?_)));rintro _ _ (⟨rfl, C9, rfl, hY9⟩ | ⟨rfl, C9, rfl, hZ9⟩)
     ·skip;refine TO.perm (hs' := [_, _, _, _] ++ C9) List.perm_append_comm (zG (_::_::_::_::C9) rfl (zV R3 (Val.not rfl) (zP R6 (zN (zD rfl (zK (zU rfl (zM R4 (zM R4 (zN (zB (T.loop (fun μ s => ∃ k1 : Nat, ∃ j3 : Int, ∃ C3 : List Thing, μ = mo.toNat - k1 ∧ j3 = k1 ∧ (k1 : Int) ≤ max 0 mo ∧ Y (leavesFrom 0 (b.gs.l.take i) ++ (List.range n).flatMap (numLeaves (i : Int) g) ++ ownLeaf (i : Int) (n : Int) g ++ newLeaves (i : Int) (n : Int) k1) C3 ∧ s = ⟨[], [(0, .yield l), (1, .ptr bx 0 2), (16, b.gs.v), (17, iv (b.gs.l.length : Int)), (18, iv (i : Int)), (3, iv (i : Int)), (4, .ptr b4 0 4), (5, w3), (33, iv (g.leaves + 1)), (34, iv (n : Int)), (6, iv (n : Int)), (78, iv mo), (79, iv j3)], (ownL false v26 encC g.ch.l) :: (.row b4 4 [iv g.round, iv g.letter, iv g.leaves, g.ch.v]) :: (.row bx 2 [iv b.signed, b.gs.v]) :: C3⟩) (k := _) (s' := _) ⟨0, 0, _, rfl, (by first | rfl | omega | (simp; done) | (simp; omega) | simp_all), (by first | rfl | omega | (simp; done) | (simp; omega) | simp_all), (by rw [hown, show newLeaves (i : Int) (n : Int) 0 = [] from rfl, List.append_nil]; first | exact hY9 | (rw [List.append_nil]; exact hY2)), rfl⟩ ⟨rfl, (keep_cons rfl (keep_cons rfl (keep_cons rfl (keep_cons rfl (keep_cons rfl (keep_cons rfl (keep_cons rfl (keep_cons rfl (keep_cons rfl (keep_cons rfl (keep_cons rfl (keep_cons rfl (keep_cons rfl keep_nil))))))))))))), (.cons _ (.cons_cons _ (.cons_cons _ (.cons_cons _ (.refl _)))))⟩ ?_))))))))))))
      rintro μ _ ⟨k1, j3, C3, hk3, hj3, hk1, hY3, rfl⟩;subst hj3;refine zU rfl (TO.lss rfl rfl rfl rfl rfl (fun c80 hc80=>zN (zS ?_)));cases c80 with
      | true =>
       replace hc80 := btrue hc80;refine zC rfl (zK (zS (zB (zU rfl (zM R4 (zA R4 (zN (zU rfl (zM R4 (zM R4 (zM R4 (zM R4 (zV R3 (Val.add rfl rfl aO) (zV R3 (Val.build (cs := [_, _, _, _]) (vs := [(_, _), (_, _), (_, _), (_, _)]) rfl rfl rfl) (TO.perm (hs' := C3 ++ [_, _, _]) List.perm_append_comm (TO.callY rfl rfl rfl rfl rfl (hy (leavesFrom 0 (b.gs.l.take i) ++ (List.range n).flatMap (numLeaves (i : Int) g) ++ ownLeaf (i : Int) (n : Int) g ++ newLeaves (i : Int) (n : Int) k1) ⟨(i : Int), (n : Int), (k1 : Int) + 1, 2⟩ _ [] C3 _ (by rw [List.append_assoc, ← newLeaves_succ]; exact new_first eg hc35 (by rw [hov.1, ← hmo]; omega)) ⟨rfl, rfl⟩ hY3) ?_))))))))))))))));rintro _ _ (⟨rfl, C9, rfl, hY9⟩ | ⟨rfl, C9, rfl, hZ9⟩)
       ·skip;refine TO.perm (hs' := [_, _, _] ++ C9) List.perm_append_comm (zG (_::_::_::C9) rfl (zV R3 (Val.not rfl) (zN (zD rfl (zK (zT rfl (zV R3 (Val.add rfl rfl aO) (zM R4 (zN ?_)))))))))
        refine ⟨_, _, aO, ⟨k1 + 1, _, _, rfl, (by first | omega | simp_all), (by first | omega | simp_all), (by rw [newLeaves_succ, ← List.append_assoc]; exact hY9), rfl⟩, ⟨rfl, (keep_cons rfl (keep_cons rfl (keep_cons rfl (keep_cons rfl (keep_cons rfl (keep_cons rfl (keep_cons rfl (keep_cons rfl (keep_cons rfl (keep_cons rfl (keep_cons rfl (keep_cons rfl (keep_cons rfl keep_nil))))))))))))), (.cons_cons _ (.cons_cons _ (.cons_cons _ (.refl _))))⟩⟩
       ·skip;refine TO.perm (hs' := [_, _, _] ++ C9) List.perm_append_comm (zG (_::_::_::C9) rfl (zV R3 (Val.not rfl) (zN (zC rfl (T.keep (s' := ⟨[], [], _ :: C9⟩) (sc (.cons _ (.cons _ (.cons_cons _ (.refl _))))) (zR ?_))))))
        obtain ⟨r9, hr9⟩ := new_first (j := k1 + 1) eg hc35 (by rw [hov.1, ← hmo]; omega); exact ⟨rfl, _, rfl, C9, rfl, .inr ⟨_, r9, hr9.symm, by rw [newLeaves_succ, ← List.append_assoc]; exact hZ9⟩⟩
      | false =>
       replace hc80 := bfalse hc80
       have hkm : k1 = mo.toNat := by omega
       have enum : numLeaves (i : Int) g n = ownLeaf (i : Int) (n : Int) g ++ newLeaves (i : Int) (n : Int) k1 := by unfold numLeaves; rw [hov.1, ← hmo, hkm]
       refine zD rfl (zE (zT rfl (zV R3 (Val.add rfl rfl aO) (zM R4 (zN ?_)))));refine ⟨_, _, aO, ⟨n + 1, _, _, _, _, rfl, (by first | omega | simp_all), (by first | omega | simp_all), (by exact hw3), (by intro c hc; have := hov.2.1 c hc; omega), (by intro c hc; have := hov.2.2 c hc; omega), (by rw [range_flat_succ, enum, ← List.append_assoc, ← List.append_assoc]; exact hY3), rfl⟩, ⟨rfl, (keep_cons rfl (keep_cons rfl (keep_cons rfl (keep_cons rfl (keep_cons rfl (keep_cons rfl (keep_cons rfl (keep_cons rfl (keep_cons rfl (keep_cons rfl keep_nil)))))))))), (.cons_cons _ (.cons_cons _ (.cons_cons _ (.refl _))))⟩⟩
     ·skip;refine TO.perm (hs' := [_, _, _, _] ++ C9) List.perm_append_comm (zG (_::_::_::_::C9) rfl (zV R3 (Val.not rfl) (zP R6 (zN (zC rfl (T.keep (s' := ⟨[], [], _ :: C9⟩) (sc (.cons _ (.cons _ (.cons _ (.cons_cons _ (.refl _)))))) (zR ?_)))))))
      obtain ⟨r9, hr9⟩ := new_first (j := 0) eg hc35 (Nat.zero_le _); exact ⟨rfl, _, rfl, C9, rfl, .inr ⟨_, r9, hr9.symm, by rw [hown, show newLeaves (i : Int) (n : Int) 0 = [] from rfl, List.append_nil]; exact hZ9⟩⟩
    | false =>
     replace hth := bfalse hth
     have hown : ownLeaf (i : Int) (n : Int) g = [] := by unfold ownLeaf; rw [hov.1, if_neg hth]
     refine zO R3 (zO R3 (zO R3 (zO R3 (zP R6 (zN (zD rfl (zK (zU rfl (zM R4 (zM R4 (zN (zB (T.loop (fun μ s => ∃ k1 : Nat, ∃ j3 : Int, ∃ C3 : List Thing, μ = mo.toNat - k1 ∧ j3 = k1 ∧ (k1 : Int) ≤ max 0 mo ∧ Y (leavesFrom 0 (b.gs.l.take i) ++ (List.range n).flatMap (numLeaves (i : Int) g) ++ ownLeaf (i : Int) (n : Int) g ++ newLeaves (i : Int) (n : Int) k1) C3 ∧ s = ⟨[], [(0, .yield l), (1, .ptr bx 0 2), (16, b.gs.v), (17, iv (b.gs.l.length : Int)), (18, iv (i : Int)), (3, iv (i : Int)), (4, .ptr b4 0 4), (5, w3), (33, iv (g.leaves + 1)), (34, iv (n : Int)), (6, iv (n : Int)), (78, iv mo), (79, iv j3)], (ownL false v26 encC g.ch.l) :: (.row b4 4 [iv g.round, iv g.letter, iv g.leaves, g.ch.v]) :: (.row bx 2 [iv b.signed, b.gs.v]) :: C3⟩) (k := _) (s' := _) ⟨0, 0, _, rfl, (by first | rfl | omega | (simp; done) | (simp; omega) | simp_all), (by first | rfl | omega | (simp; done) | (simp; omega) | simp_all), (by rw [hown, show newLeaves (i : Int) (n : Int) 0 = [] from rfl, List.append_nil]; first | exact hY9 | (rw [List.append_nil]; exact hY2)), rfl⟩ ⟨rfl, (keep_cons rfl (keep_cons rfl (keep_cons rfl (keep_cons rfl (keep_cons rfl (keep_cons rfl (keep_cons rfl (keep_cons rfl (keep_cons rfl (keep_cons rfl (keep_cons rfl (keep_cons rfl (keep_cons rfl keep_nil))))))))))))), (.cons _ (.cons_cons _ (.cons_cons _ (.cons_cons _ (.refl _)))))⟩ ?_)))))))))))));rintro μ _ ⟨k1, j3, C3, hk3, hj3, hk1, hY3, rfl⟩;subst hj3;refine zU rfl (TO.lss rfl rfl rfl rfl rfl (fun c80 hc80=>zN (zS ?_)));cases c80 with
     | true =>
      replace hc80 := btrue hc80;refine zC rfl (zK (zS (zB (zU rfl (zM R4 (zA R4 (zN (zU rfl (zM R4 (zM R4 (zM R4 (zM R4 (zV R3 (Val.add rfl rfl aO) (zV R3 (Val.build (cs := [_, _, _, _]) (vs := [(_, _), (_, _), (_, _), (_, _)]) rfl rfl rfl) (TO.perm (hs' := C3 ++ [_, _, _]) List.perm_append_comm (TO.callY rfl rfl rfl rfl rfl (hy (leavesFrom 0 (b.gs.l.take i) ++ (List.range n).flatMap (numLeaves (i : Int) g) ++ ownLeaf (i : Int) (n : Int) g ++ newLeaves (i : Int) (n : Int) k1) ⟨(i : Int), (n : Int), (k1 : Int) + 1, 2⟩ _ [] C3 _ (by rw [List.append_assoc, ← newLeaves_succ]; exact new_first eg hc35 (by rw [hov.1, ← hmo]; omega)) ⟨rfl, rfl⟩ hY3) ?_))))))))))))))));rintro _ _ (⟨rfl, C9, rfl, hY9⟩ | ⟨rfl, C9, rfl, hZ9⟩)
      ·skip;refine TO.perm (hs' := [_, _, _] ++ C9) List.perm_append_comm (zG (_::_::_::C9) rfl (zV R3 (Val.not rfl) (zN (zD rfl (zK (zT rfl (zV R3 (Val.add rfl rfl aO) (zM R4 (zN ?_)))))))))
       refine ⟨_, _, aO, ⟨k1 + 1, _, _, rfl, (by first | omega | simp_all), (by first | omega | simp_all), (by rw [newLeaves_succ, ← List.append_assoc]; exact hY9), rfl⟩, ⟨rfl, (keep_cons rfl (keep_cons rfl (keep_cons rfl (keep_cons rfl (keep_cons rfl (keep_cons rfl (keep_cons rfl (keep_cons rfl (keep_cons rfl (keep_cons rfl (keep_cons rfl (keep_cons rfl (keep_cons rfl keep_nil))))))))))))), (.cons_cons _ (.cons_cons _ (.cons_cons _ (.refl _))))⟩⟩
      ·skip;refine TO.perm (hs' := [_, _, _] ++ C9) List.perm_append_comm (zG (_::_::_::C9) rfl (zV R3 (Val.not rfl) (zN (zC rfl (T.keep (s' := ⟨[], [], _ :: C9⟩) (sc (.cons _ (.cons _ (.cons_cons _ (.refl _))))) (zR ?_))))))
       obtain ⟨r9, hr9⟩ := new_first (j := k1 + 1) eg hc35 (by rw [hov.1, ← hmo]; omega); exact ⟨rfl, _, rfl, C9, rfl, .inr ⟨_, r9, hr9.symm, by rw [newLeaves_succ, ← List.append_assoc]; exact hZ9⟩⟩
     | false =>
      replace hc80 := bfalse hc80
      have hkm : k1 = mo.toNat := by omega
      have enum : numLeaves (i : Int) g n = ownLeaf (i : Int) (n : Int) g ++ newLeaves (i : Int) (n : Int) k1 := by unfold numLeaves; rw [hov.1, ← hmo, hkm]
      refine zD rfl (zE (zT rfl (zV R3 (Val.add rfl rfl aO) (zM R4 (zN ?_)))));refine ⟨_, _, aO, ⟨n + 1, _, _, _, _, rfl, (by first | omega | simp_all), (by first | omega | simp_all), (by exact hw3), (by intro c hc; have := hov.2.1 c hc; omega), (by intro c hc; have := hov.2.2 c hc; omega), (by rw [range_flat_succ, enum, ← List.append_assoc, ← List.append_assoc]; exact hY3), rfl⟩, ⟨rfl, (keep_cons rfl (keep_cons rfl (keep_cons rfl (keep_cons rfl (keep_cons rfl (keep_cons rfl (keep_cons rfl (keep_cons rfl (keep_cons rfl (keep_cons rfl keep_nil)))))))))), (.cons_cons _ (.cons_cons _ (.cons_cons _ (.refl _))))⟩⟩
  | false =>
   replace hc35 := bfalse hc35
   have hn1 : (g.leaves + 1).toNat = n := by omega
   refine zD rfl (zE (zT rfl (zV R3 (Val.add rfl rfl aO) (zM R4 (zN ?_)))));refine ⟨_, _, aO, ⟨i + 1, _, _, rfl, (by first | omega | simp_all), (by first | omega | simp_all), (by rw [take_snoc eg, leavesFrom_snoc, List.length_take, Nat.min_eq_left aO, Nat.zero_add]; unfold gatLeaves; rw [hn1]; exact hY2), rfl⟩, ⟨rfl, (keep_cons rfl (keep_cons rfl (keep_cons rfl (keep_cons rfl (keep_cons rfl keep_nil))))), (.cons _ (.cons _ (.cons_cons _ (.refl _))))⟩⟩
 | false =>
  replace hc19 := bfalse hc19;refine zD rfl (zE ?_);exact ⟨rfl, _, rfl, C1, rfl, .inl (by rw [List.take_of_length_le aO] at hY1; exact hY1)⟩
theorem q_Leaves (b : Book)  : Comes (EL 3) 57 [.agg (encB.f b)] (.tuple [(GSo true encL (if (bookErr b).2.2 = 0 then leavesOf b else [])).v, iv (bookErr b).2.2]) := by
 have hgood := fun h => book_good (b := b) h
 refine Comes.of (TF.enter (fn := Go.Proofs.Try.f57) rfl rfl rfl rfl rfl ?_);refine zU rfl (zQ 2 [_,_] R7 (fun b1=>zA R4 (zA R4 (zN (zU rfl (zV R3 (vW 0 [_,_] R5 R4) (TO.callIn rfl rfl rfl rfl rfl rfl (orcN rfl) (TF.enterG (fn := Go.Proofs.Try.f82) rfl rfl rfl rfl rfl (zU rfl (zQ 2 [_,_] R7 (fun b1_2=>zJ 2 [_,_] R7 (fun b2=>zA R4 (zN (zU rfl (zV R3 (vW 1 [_,_] R5 R4) (TO.call rfl rfl rfl rfl rfl (orcL rfl aD) (.cons (.agg (.cons .lit (.cons .gs .nil))) .nil) (sem_of (q_Check _ )) (zM R4 (zX R5 (zX R5 (zX R5 (zA R4 (zA R4 (zA R4 (zN (zU rfl (zV R3 (vW 1 [_,_] R5 R4) (zV R3 (Val.build (cs := [_, _]) (vs := [(_, _)]) rfl rfl rfl) (zM R4 (TO.store_row (p := 0) (cv := [_, _]) (cells' := [_, _]) rfl rfl rfl rfl rfl rfl rfl rfl rfl rfl (by first | rfl | simp [GS.one]) (by decide) rfl (zG ([_,_,_]) rfl (zA R4 (zN (zR ?_)))))))))))))))))))))))))))))))));refine ⟨rfl, _, rfl, [_, _], ⟨⟨_, rfl, LoadR.rows (p := 0) (c := [_, _]) rfl ⟨⟨_, rfl, rfl⟩, rfl, by decide⟩ rfl rfl rfl⟩, ⟨rfl, trivial⟩⟩, ?_⟩;refine zG ([_,_,_]) rfl (zM R4 (zX R5 (zX R5 (zJ 2 [_,_] R7 (fun b4=>TO.store_row (p := 0) (cv := [_, _]) (cells' := [_, _]) rfl rfl rfl rfl rfl rfl rfl rfl rfl rfl (by first | rfl | simp [GS.one]) (by decide) rfl (zG ([_,_,_,_]) rfl (zA R4 (zN (zS (zU rfl (zM R4 (TO.neq rfl rfl rfl rfl rfl (fun c12 hc12=>zN ?_)))))))))))));cases c12 with
 | true =>
  replace hc12 := btrue hc12;refine zC rfl (zU rfl (zM R4 (zA R4 (zA R4 (zN (zR ?_))))));exact ⟨rfl, _, rfl, RefN.cast (.tuple (.cons .lit (.cons .lit .nil))) (by rw [if_neg hc12]; rfl)⟩
 | false =>
  replace hc12 := bfalse hc12
  have hb := book_good (b := b) aO;refine zD rfl (zK (zU rfl (zV R3 (vW 0 [_,_] R5 R4) (TO.callIn rfl rfl rfl rfl rfl rfl (orcN rfl) (TF.enter (fn := Go.Proofs.Try.f84) rfl rfl rfl rfl rfl (zU rfl (zQ 2 [_,_] R7 (fun b1_3=>zA R4 (zN (zU rfl (zV R3 (Val.makeFunc rfl rfl) (zA R4 (zN (zR ?_))))))))))))));refine ⟨rfl, _, rfl, ?_⟩;refine TO.callIn rfl rfl rfl rfl rfl rfl (orcN rfl) (TF.enter (fn := Go.Proofs.Try.f83) rfl rfl rfl rfl rfl (zU rfl (zA R4 (zN (zU rfl (zM R4 (TO.callIn rfl rfl rfl rfl rfl rfl (orcN rfl) (TF.enterG (fn := Go.Proofs.Try.f102) rfl rfl rfl rfl rfl (zU rfl (zQ 1 [_] R7 (fun b2_2=>zA R4 (zN (zS (zU rfl (zM R4 (zN (zB (T.nilown (u := encL.u) (T.keep (s' := ⟨[], [(2, _), (6, _)], [_, _, _]⟩) (sc (.cons_cons _ (.cons_cons _ (.cons_cons _ (.cons _ (.cons _ (.cons _ (.cons _ .slnil)))))))) (T.pick (p := 1) rfl (T.things (hs' := [_, _, _]) rfl (T.pick (p := 2) rfl (T.things (hs' := [_, _, _]) rfl ?_)))))))))))))))))))))));refine T.range0 (ArgL) ((· <+: leavesOf b)) (leavesOf b) (fun vis A => ∃ v, A = [.row b2_2 1 [v], ownL true v encL vis] ∧ vis.length ≤ 1950) (fun _ _ _ => False) [_] [_, _] (by rfl) (by rfl) (by rfl) (.refl _) ⟨_, rfl, by decide⟩ ?_ ?_ ?_ ?_
  ·exact fun l YY ZZ hv C hY => lv_iter hb hv C hY
  ·intro l d vis a vs G A B hP ha hA;obtain ⟨rfl, rfl⟩ := ha;obtain ⟨v, rfl, hvl⟩ := hA;refine ⟨_, rfl, fun LR LB hLB => ?_⟩;refine T.things (hs' := _ :: _ :: _ :: B) rfl (zT rfl (zJ 4 [_,_,_,_] R7 (fun b5=>TO.store_row (p := 0) (cv := [_, _, _, _]) (cells' := [_, _, _, _]) rfl rfl rfl rfl rfl rfl rfl rfl rfl rfl (by first | rfl | simp [GS.one]) (by decide) rfl (zG (_::_::_::_::B) rfl (zN ?_)))));refine ⟨rfl, 1, rfl, ?_⟩;refine T.things (hs' := _ :: _ :: _ :: _ :: B) rfl (zB (zT rfl (zL 2 R3 R6 (zV R3 (vW 0 [_,_,_,_] R5 R4) (TO.build1 (en := encL) (a := ⟨_, _, _, _⟩) rfl rfl rfl ⟨rfl, rfl⟩ ⟨_, rfl, rfl⟩ (by decide) (by decide) rfl rfl (fun v10=>TO.append_own (b := 32) (en := encL) (l := _) (l2 := _) (p := 4) (q := 0) rfl rfl rfl ⟨rfl, rfl, rfl, ⟨_, rfl, rfl⟩, by decide, by decide⟩ rfl rfl rfl rfl rfl rfl (en_ones encL_ones _) (by simp; omega) (fun v11=>zG (_::_::_::_::_::B) rfl (TO.ownfact (p := 4) rfl (fun hoown=>TO.store_row (p := 3) (cv := [_]) (cells' := [_]) rfl rfl rfl rfl rfl rfl rfl hoown.1 rfl rfl (by simp [hoown.2]) (by decide) rfl (zG (_::_::_::_::_::B) rfl (zN ?_)))))))))));exact ⟨[_, _], (.cons _ (.cons _ (.cons_cons _ (.cons_cons _ (.cons_cons _ (.refl _)))))), .inl ⟨rfl, ⟨_, rfl, Nat.le_trans hP.length_le (leaves_len hb.fits)⟩⟩⟩
  ·intro d A hA;obtain ⟨v, rfl, hvl⟩ := hA;refine T.things (hs' := [_, _, _, _]) rfl (zU rfl (zL 2 R3 R6 (zA R4 (zN (zR ?_)))));refine ⟨rfl, _, ⟨1, rfl, rfl⟩, [_], ⟨rfl, trivial⟩, ?_⟩;refine zG ([_,_,_]) rfl (zA R4 (zN (zR ?_)));refine ⟨rfl, _, rfl, ?_⟩;refine zA R4 (zA R4 (zN (zR ?_)));exact ⟨rfl, _, rfl, RefN.cast (.tuple (.cons (.ownL (en := encL) (p := 2) rfl (.lits encL_lits)) (.cons .lit .nil))) (by have h0 : (bookErr b).2.2 = 0 := (by omega); simp [h0])⟩
  ·exact fun d e q r A hq hZ => hZ.elim
end Go.Am.Ythckcbfijdambaa
end
section
namespace Go.Am.Ythckcbfijdambaa
open Go.Am Go.RowKit
set_option linter.unusedVariables false
set_option linter.unusedSimpArgs false
theorem s_IndexL (l : GS encL) (x : Leaf) (hb : l.l.length < 4611686018427387904) : Comes (EL 0) 87 [l.v, .agg (encL.f x)] (iv (idxOf x l.l)) := by
 refine Comes.of (TF.enter (fn := Go.Proofs.Try.f87) rfl rfl rfl rfl rfl ?_);refine zU rfl (zQ 4 [_,_,_,_] R7 (fun b3=>zA R4 (zN (zS (zU rfl (zM R4 (zV R3 (Val.len_gs rfl rfl) (zM R4 (zN (zB (T.loop (fun μ s => ∃ i : Nat, ∃ j : Int, μ = l.l.length - i ∧ j = i ∧ i ≤ l.l.length ∧ idxOf x l.l = idxFrom x i (l.l.drop i) ∧ s = ⟨[], [(0, l.v), (3, .ptr b3 0 4), (7, iv (l.l.length : Int)), (8, iv j)], [.row b3 4 [iv x.g, iv x.num, iv x.plus, iv x.kind]]⟩) (k := _) (s' := _) ⟨0, 0, rfl, (by first | rfl | omega | (simp; done) | (simp; omega) | simp_all), (by first | rfl | omega | (simp; done) | (simp; omega) | simp_all), (by rfl), rfl⟩ ⟨rfl, (keep_cons rfl (keep_cons rfl (keep_cons rfl (keep_cons rfl keep_nil)))), (.cons_cons _ .slnil)⟩ ?_)))))))))));rintro μ _ ⟨i, j, hk0, hj, hi, he, rfl⟩;subst hj;refine zU rfl (TO.lss rfl rfl rfl rfl rfl (fun c9 hc9=>zN (zS ?_)));cases c9 with
 | true =>
  replace hc9 := btrue hc9;refine zC rfl (zK (zS (zB (zU rfl (zM R4 (zA R4 (zN (zS (T.draw (fun v => sameC_refl v) (l1 := [0, 1, 2, 3, 4, 5]) (l2 := []) (by kernel_rfl) (by kernel_rfl) (zV R3 (vW 0 [_,_,_,_] R5 R4) (zM R4 (zM R4 (TO.index_gs rfl rfl rfl ⟨rfl, rfl⟩ rfl rfl aO (fun y ry ey=>?_))))))))))))))
  try simp only [Int.toNat_natCast] at ey
  refine zV R3 (Val.load_trees (c := _) ⟨⟨_, rfl, rfl⟩, rfl, by decide⟩ rfl rfl) (TO.binP rfl rfl rfl rfl rfl (eql_ty104 _ _ _ _ _ _ _ _ _ _) (fun c16 hc16=>zN ?_));cases c16 with
  | true =>
   replace hc16 := btrue hc16;refine zC rfl (zU rfl (zM R4 (zA R4 (zN (zR ?_)))));exact ⟨rfl, _, rfl, RefN.cast .lit (by rw [he, drop_cons ey, idxFrom, if_pos (leaf_ext.1 hc16)])⟩
  | false =>
   replace hc16 := bfalse hc16;refine zD rfl (zK (zT rfl (zV R3 (Val.add rfl rfl aO) (zM R4 (zN ?_)))));refine ⟨_, _, aO, ⟨i + 1, _, rfl, (by first | omega | simp_all), (by first | omega | simp_all), (by rw [he, drop_cons ey, idxFrom, if_neg (fun e => hc16 (leaf_ext.2 e))]), rfl⟩, ⟨rfl, (keep_cons rfl (keep_cons rfl (keep_cons rfl (keep_cons rfl keep_nil)))), (.cons_cons _ .slnil)⟩⟩
 | false =>
  replace hc9 := bfalse hc9;refine zD rfl (zE (zU rfl (zA R4 (zN (zR ?_)))));exact ⟨rfl, _, rfl, RefN.cast .lit (by rw [he, List.drop_eq_nil_of_le aO, idxFrom])⟩
theorem q_Mate (b : Book) (n : Int)  : Comes (EL 4) 59 [.agg (encB.f b), iv n] (.tuple [iv (mateOf b n).1, iv (mateOf b n).2]) := by
 refine Comes.of (TF.enter (fn := Go.Proofs.Try.f59) rfl rfl rfl rfl rfl ?_);refine zU rfl (zQ 2 [_,_] R7 (fun b2=>zA R4 (zA R4 (zN (zU rfl (zV R3 (vW 0 [_,_] R5 R4) (TO.call rfl rfl rfl rfl rfl (orcL rfl aD) (.cons (.agg (.cons .lit (.cons .gs .nil))) .nil) (sem_of (q_Leaves _ )) (zM R4 (zX R5 (zX R5 (zA R4 (zA R4 (zN (zS (zB (zU rfl (zM R4 (TO.neq rfl rfl rfl rfl rfl (fun c17 hc17=>zA R4 (zN ?_))))))))))))))))))));cases c17 with
 | true =>
  replace hc17 := btrue hc17;refine zC rfl (zU rfl (zM R4 (zA R4 (zA R4 (zN (zR ?_))))));exact ⟨rfl, _, rfl, RefN.cast (.tuple (.cons .lit (.cons .lit .nil))) (by unfold mateOf; rw [if_pos hc17])⟩
 | false =>
  replace hc17 := bfalse hc17
  have h0 : (bookErr b).2.2 = 0 := by omega
  have hb := book_good h0
  have hll := leaves_len hb.fits;rw [if_pos h0];refine zD rfl (zU rfl (zM R4 (zV R3 (Val.len_gso rfl rfl) (zV R3 (Val.sub rfl rfl aO) (zM R4 (TO.build1 (en := encI) (a := _) rfl rfl rfl ⟨rfl, rfl⟩ ⟨_, rfl, rfl⟩ (by decide) (by decide) rfl rfl (fun v24=>TO.callD rfl rfl rfl rfl rfl (orcL rfl aD) (.cons .lit (.cons .lit (.cons (.ownL (p := 0) rfl .ints) .nil))) (sem_of (q_out _ _ _ (by exact out1_small))) (fun c25 hc25=>?_))))))));replace hc25 := out1 hc25;refine zA R4 (zN ?_);cases c25 with
  | true =>
   replace hc25 := btrue hc25;refine zC rfl (zU rfl (zA R4 (zA R4 (zN (zR ?_)))));exact ⟨rfl, _, rfl, RefN.cast (.tuple (.cons .lit (.cons .lit .nil))) (by unfold mateOf; rw [if_neg aO]; split; rfl; rename_i h1; exfalso; split at h1; have := (List.getElem?_eq_some_iff.1 h1).1; omega; cases h1)⟩
  | false =>
   replace hc25 := bfalse hc25;refine zD rfl (zK (zU rfl (zM R4 (zM R4 (TO.index_gso rfl rfl rfl ⟨rfl, rfl⟩ rfl rfl aO (fun x rx ex=>?_))))))
   try simp only [Int.toNat_natCast] at ex
   have hxm := List.mem_of_getElem? ex;obtain ⟨g0, hg0, hg1, hg2, hx1, hx2⟩ := mem_leaves hxm;refine zV R3 (Val.load_trees (c := _) ⟨⟨_, rfl, rfl⟩, rfl, by decide⟩ rfl rfl) (zJ 4 [_,_,_,_] R7 (fun b8=>TO.store_row (p := 0) (cv := [_, _, _, _]) (cells' := [_, _, _, _]) rfl rfl rfl rfl rfl rfl rfl rfl rfl rfl (by first | rfl | simp [GS.one]) (by decide) rfl (zG ([_,_,_]) rfl (zN (zS (T.drawE (l1 := [0, 1, 2, 3, 4, 5, 6, 7, 8, 9, 10, 11]) (l2 := [12]) (by kernel_rfl) (by kernel_rfl) (yL R4 (Val.faddr_ptr (fo := 1) rfl rfl rfl) (yR R4 (vR (p := 2) R6) (yL R4 (Val.faddr_ptr (fo := 0) rfl rfl rfl) (yR R4 (vR (p := 0) R6) (TD1.index_gs rfl rfl rfl ⟨rfl, rfl⟩ rfl rfl aO (fun g rg eg=>?_))))))))))))
   try simp only [Int.toNat_natCast] at eg
   have e34 := Option.some.inj (hg0.symm.trans eg);subst e34;obtain ⟨-, hgl1, hgl2, -, -⟩ := hb.each g0 (List.mem_of_getElem? hg0);refine yL R4 (Val.faddr_tree (fo := 2) rfl rfl rfl rfl) (yR R4 (Val.load_tree ⟨_, rfl, rfl⟩ rfl) (yL R4 (Val.add rfl rfl aO) (yL R4 (Val.faddr_ptr (fo := 1) rfl rfl rfl) (yR R4 (vR (p := 0) R6) (yL R4 (Val.sub rfl rfl aO) (yL R4 (Val.faddr_ptr (fo := 1) rfl rfl rfl) (TD1.over (fun v => sameC_refl v) (all_cons (⟨_, rfl, (vR (p := 0) R6)⟩) (all_cons (⟨_, rfl, (Val.load_tree ⟨_, rfl, rfl⟩ rfl)⟩) (all_cons (⟨_, rfl, (vR (p := 0) R6)⟩) (all_cons (⟨_, rfl, (vR (p := 2) R6)⟩) all_nil)))) (TD2.heavy (fun v => sameC_refl v) rfl (by decide) rfl rfl (OpS.eff (Eff.store_row (p := 0) (cv := [_]) (cells' := [_, _, _, _]) rfl rfl rfl rfl rfl rfl rfl rfl (by first | rfl | simp [GS.one]) (by decide) rfl)) ?_))))))));rintro _ _ rfl;refine ⟨(all_cons (.inl (by kernel_rfl)) (all_cons (.inl (by kernel_rfl)) (all_cons (.inl (by kernel_rfl)) (all_cons (.inl (by kernel_rfl)) all_nil)))), all_nil, ?_⟩;refine yG ([_,_,_]) rfl (TD2.nil (zS (zU rfl (zM R4 (zV R3 (vW 0 [_,_,_,_] R5 R4) (TO.call rfl rfl rfl rfl rfl (orcL rfl aD) (.cons .gs (.cons (.agg (.cons .lit (.cons .lit (.cons .lit (.cons .lit .nil))))) .nil)) (sem_of (s_IndexL _ ⟨x.g, g0.leaves + 1 - x.num, x.plus, x.kind⟩ (by show (leavesOf b).length < _; omega))) ?_))))));rw [show (GSo true encL (leavesOf b)).l = leavesOf b from rfl]
   have hmo : mateOf b n = if x.kind = 0 ∧ 0 ≤ idxOf (mirror b x) (leavesOf b) ∧ idxOf (mirror b x) (leavesOf b) ≠ n then (idxOf (mirror b x) (leavesOf b), 0) else (0, 4) := by unfold mateOf; rw [if_neg aO, if_pos aO, ex]
   have hmi : mirror b x = ⟨x.g, g0.leaves + 1 - x.num, x.plus, x.kind⟩ := by unfold mirror; rw [hg0]
   rw [hmi] at hmo
   have hir := idxFrom_range (x := ⟨x.g, g0.leaves + 1 - x.num, x.plus, x.kind⟩) (leavesOf b) 0
   change -1 ≤ idxOf _ _ ∧ idxOf _ _ < _ at hir
   refine zA R4 (zN (zU rfl (zF 3 R6 (zL 0 R3 R6 (TO.eql rfl rfl rfl rfl rfl (fun c47 hc47=>zM R4 ?_))))));cases c47 with
   | true =>
    replace hc47 := btrue hc47;refine zM R4 (TO.geq rfl rfl rfl rfl rfl (fun c50 hc50=>zP R6 (zM R4 ?_)));cases c50 with
    | true =>
     replace hc50 := btrue hc50;refine zM R4 (zM R4 (TO.neq rfl rfl rfl rfl rfl (fun c55 hc55=>zP R6 (zN ?_))));cases c55 with
     | true =>
      replace hc55 := btrue hc55;refine zC rfl (zU rfl (zM R4 (zA R4 (zA R4 (zN (zR ?_))))));exact ⟨rfl, _, rfl, RefN.cast (.tuple (.cons .lit (.cons .lit .nil))) (by rw [hmo]; split <;> first | rfl | (exfalso; omega))⟩
     | false =>
      replace hc55 := bfalse hc55;refine zD rfl (zK (zU rfl (zA R4 (zA R4 (zN (zR ?_))))));exact ⟨rfl, _, rfl, RefN.cast (.tuple (.cons .lit (.cons .lit .nil))) (by rw [hmo]; split <;> first | rfl | (exfalso; omega))⟩
    | false =>
     replace hc50 := bfalse hc50;refine zO R3 (zO R3 (zO R3 (zP R6 (zN (zD rfl (zK (zU rfl (zA R4 (zA R4 (zN (zR ?_)))))))))));exact ⟨rfl, _, rfl, RefN.cast (.tuple (.cons .lit (.cons .lit .nil))) (by rw [hmo]; split <;> first | rfl | (exfalso; omega))⟩
   | false =>
    replace hc47 := bfalse hc47;refine zO R3 (zO R3 (zP R6 (zM R4 (zO R3 (zO R3 (zO R3 (zP R6 (zN (zD rfl (zK (zU rfl (zA R4 (zA R4 (zN (zR ?_)))))))))))))));exact ⟨rfl, _, rfl, RefN.cast (.tuple (.cons .lit (.cons .lit .nil))) (by rw [hmo]; split <;> first | rfl | (exfalso; omega))⟩
end Go.Am.Ythckcbfijdambaa
end
section
namespace Go.Am.Ythckcbfijdambaa
open Go.Am Go.RowKit
set_option linter.unusedVariables false
set_option linter.unusedSimpArgs false
theorem w_r1_Check (s : Int) (g : GS encG) (r : Int × Int × Int) (h : P_r1_Check s g.l = some r) : Comes (EL 3) 63 [.agg [iv s, g.v]] (.tuple [iv r.1, iv r.2.1, iv r.2.2]) := by
 cases h; exact r1_Check ⟨s, g⟩
theorem w_r1_All (s : Int) (g : GS encG) (r : List Leaf) (h : P_r1_All s g.l = some r) : Comes (EL 1) 32 [.agg [iv s, g.v]] ((GSo true encL r).v) := by
 obtain ⟨hp, h⟩ := chk_some h; cases h; exact r1_All ⟨s, g⟩ ⟨hp.gs, hp.leaves⟩
theorem w_r1_Has (x : GS encI) (n : Int) (r : Bool) (h : P_r1_Has x.l n = some r) : Comes (EL 0) 31 [x.v, iv n] (bv r) := by
 obtain ⟨hp, h⟩ := chk_some h; cases h; exact r1_Has x n hp
theorem w_q_Check (s : Int) (g : GS encG) (r : Int × Int × Int) (h : P_q_Check s g.l = some r) : Comes (EL 2) 56 [.agg [iv s, g.v]] (.tuple [iv r.1, iv r.2.1, iv r.2.2]) := by
 cases h; exact q_Check ⟨s, g⟩
theorem w_q_Leaves (s : Int) (g : GS encG) (r : List Leaf × Int) (h : P_q_Leaves s g.l = some r) : Comes (EL 3) 57 [.agg [iv s, g.v]] (.tuple [(GSo true encL r.1).v, iv r.2]) := by
 cases h; exact q_Leaves ⟨s, g⟩
theorem w_q_Mate (s : Int) (g : GS encG) (n : Int) (r : Int × Int) (h : P_q_Mate s g.l n = some r) : Comes (EL 4) 59 [.agg [iv s, g.v], iv n] (.tuple [iv r.1, iv r.2]) := by
 cases h; exact q_Mate ⟨s, g⟩ n
theorem w_c_outside (lo hi : Int) (x : GS encI) (r : Bool) (h : P_c_outside lo hi x.l = some r) : Comes (EL 0) 58 [iv lo, iv hi, x.v] (bv r) := by
 obtain ⟨hp, h⟩ := chk_some h; cases h; exact c_outside lo hi x hp
end Go.Am.Ythckcbfijdambaa
end
section
namespace Go.Am
set_option linter.unusedVariables false
structure S_copy_run where
 item : Int
 first : Int
 last : Int
def enc_copy_run : En S_copy_run := ⟨3, fun x => [iv x.item, iv x.first, iv x.last], fun _ => rfl⟩
theorem enc_copy_run_ones : enc_copy_run.Ones := fun x => by simp [enc_copy_run]
end Go.Am
end
section
namespace Go.Am
set_option linter.unusedVariables false
noncomputable def P_r4_in (n : Int) (low : Int) (high : Int) : Option Bool :=
  andx (
    if n ≥ low then
      some (decide (n ≤ high))
    else
      some false) fun x6 =>
    some x6
noncomputable def P_r4_item_L1 (x_Could : List Int) (leaves : Int) : Int → Option (Stp Int (Ex Unit Int)) := fun i =>
  if i < (x_Could.length : Int) then
    el x_Could i fun a21 =>
    chk (I64 (leaves - 1)) (
      andx (P_r4_in a21 0 (leaves - 1)) fun y25 =>
        if y25 = true then
          chk (I64 (i + 1)) (
            some (Stp.ag (i + 1)))
        else
          some (Stp.dn (Ex.rt 4)))
  else
    some (Stp.dn (Ex.nx ()))
noncomputable def P_r4_item_L2 (x_Could : List Int) : Int → Option (Stp Int (Ex Unit Int)) := fun i =>
  if i < (x_Could.length : Int) then
    el x_Could i fun a37 =>
    chk (I64 (i - 1)) (
      el x_Could (i - 1) fun a43 =>
      if a37 ≤ a43 then
        some (Stp.dn (Ex.rt 2))
      else
        chk (I64 (i + 1)) (
          some (Stp.ag (i + 1))))
  else
    some (Stp.dn (Ex.nx ()))
noncomputable def P_r4_item (x_Could : List Int) (leaves : Int) : Option Int :=
  if (x_Could.length : Int) > 4 then
    some 3
  else
    seqx (
      iter (P_r4_item_L1 x_Could leaves) 0) fun _ =>
      seqx (
        iter (P_r4_item_L2 x_Could) 1) fun _ =>
        some 0
noncomputable def P_c_there_L1 (t : List Int) : (Int × (Int → Int)) → Option (Stp (Int × (Int → Int)) (Int → Int)) := fun (x11, m) =>
  if x11 < (t.length : Int) then
    el t x11 fun a13 =>
    chk (I64 ((m a13) + 1)) (
      chk (I64 (x11 + 1)) (
        some (Stp.ag ((x11 + 1), putI m a13 ((m a13) + 1)))))
  else
    some (Stp.dn m)
noncomputable def P_c_there (x_CpCase_Book_Signed : Int) (x_CpCase_Book_Gatherings : List Gat) (x_CpCase_Items : List Item) (x_leaves : List Leaf) (x_mates : List Int) (t : List Int) : Option (Int → Int) :=
  andx (
    iter (P_c_there_L1 t) (0, (fun _ => 0))) fun m =>
    some m
noncomputable def P_c_lost_L1 (x_leaves : List Leaf) (y9 : Int → Int) : (Int × (List Int)) → Option (Stp (Int × (List Int)) (List Int)) := fun (x15, l) =>
  if x15 < (x_leaves.length : Int) then
    andx (
      if (y9 x15) = 0 then
        chk (l.length + [x15].length < 1000000000) (
          some (l ++ [x15]))
      else
        some l) fun l_2 =>
      chk (I64 (x15 + 1)) (
        some (Stp.ag ((x15 + 1), l_2)))
  else
    some (Stp.dn l)
noncomputable def P_c_lost (x_CpCase_Book_Signed : Int) (x_CpCase_Book_Gatherings : List Gat) (x_CpCase_Items : List Item) (x_leaves : List Leaf) (x_mates : List Int) (t : List Int) : Option (List Int) :=
  andx (P_c_there x_CpCase_Book_Signed x_CpCase_Book_Gatherings x_CpCase_Items x_leaves x_mates t) fun y9 =>
    andx (
      iter (P_c_lost_L1 x_leaves y9) (0, [])) fun l =>
      some l
noncomputable def P_c_moved_L2 (l : List S_copy_run) (i : Int) : (Int × (List Int)) → Option (Stp (Int × (List Int)) (List Int)) := fun (k_, many_2) =>
  if k_ < (l.length : Int) then
    andx (
      el l k_ fun a27 =>
      el l i fun a32 =>
      if a27.first > a32.last then
        chk ((many_2.length : Int) * 1 = 120) (
          el many_2 i fun a38 =>
          chk ((many_2.length : Int) * 1 = 120) (
            el many_2 k_ fun a41 =>
            chk ((many_2.length : Int) * 1 = 120) (
              el many_2 i fun a44 =>
              some (List.set many_2 i.toNat (max a38 a41)))))
      else
        some many_2) fun many_3 =>
      chk (I64 (k_ + 1)) (
        some (Stp.ag ((k_ + 1), many_3)))
  else
    some (Stp.dn many_2)
noncomputable def P_c_moved_L1 (l : List S_copy_run) : (Int × Int × (List Int)) → Option (Stp (Int × Int × (List Int)) (Int × (List Int))) := fun (best, i, many) =>
  if i ≥ 0 then
    andx (
      andx (
        chk (I64 (i + 1)) (
          iter (P_c_moved_L2 l i) ((i + 1), many))) fun many_2 =>
        chk ((many_2.length : Int) * 1 = 120) (
          el many_2 i fun a46 =>
          chk (I64 (a46 + 1)) (
            chk ((many_2.length : Int) * 1 = 120) (
              el many_2 i fun a49 =>
              chk (((List.set many_2 i.toNat (a46 + 1)).length : Int) * 1 = 120) (
                el (List.set many_2 i.toNat (a46 + 1)) i fun a52 =>
                some ((max best a52), List.set many_2 i.toNat (a46 + 1))))))) fun (best_2, many_2) =>
      chk (I64 (i - 1)) (
        some (Stp.ag (best_2, (i - 1), many_2)))
  else
    some (Stp.dn (best, many))
noncomputable def P_c_moved_L3 (l : List S_copy_run) (many : List Int) : (Int × Int × (List Int) × Int × Int × Int) → Option (Stp (Int × Int × (List Int) × Int × Int × Int) (Int × Int × Int × (List Int))) := fun (best_2, x58, items, last_item, last_first, last_last) =>
  if x58 < (l.length : Int) then
    andx (
      el l x58 fun a61 =>
      andx (
        chk ((many.length : Int) * 1 = 120) (
          el many x58 fun a64 =>
          if a64 = best_2 then
            if last_item = (-1) ∧ last_first = (-1) ∧ last_last = (-1) then
              some true
            else
              some (decide (a61.first > last_last))
          else
            some false)) fun x79 =>
        if x79 = true then
          chk (I64 (best_2 - 1)) (
            some ((best_2 - 1), items, a61.item, a61.first, a61.last))
        else
          chk (items.length + [a61.item].length < 1000000000) (
            some (best_2, items ++ [a61.item], last_item, last_first, last_last))) fun (best_3, items_2, last_item_2, last_first_2, last_last_2) =>
      chk (I64 (x58 + 1)) (
        some (Stp.ag (best_3, (x58 + 1), items_2, last_item_2, last_first_2, last_last_2)))
  else
    some (Stp.dn (last_item, last_first, last_last, items))
noncomputable def P_c_moved (l : List S_copy_run) : Option (List Int) :=
  andx (
    chk (I64 ((l.length : Int) - 1)) (
      iter (P_c_moved_L1 l) (0, ((l.length : Int) - 1), List.replicate 120 (0 : Int)))) fun (best, many) =>
    andx (
      iter (P_c_moved_L3 l many) (best, 0, [], (-1), (-1), (-1))) fun (last_item, last_first, last_last, items) =>
      some items
noncomputable def P_c_faults_L1 (x_mates : List Int) (y16 : List Int) : (Int × (Int → Int) × Int) → Option (Stp (Int × (Int → Int) × Int) ((Int → Int) × Int)) := fun (x22, m, f_Pieces) =>
  if x22 < (y16.length : Int) then
    andx (
      el y16 x22 fun a24 =>
      el x_mates a24 fun a31 =>
      chk (I64 ((m a24) + 1)) (
        andx (
          if a31 < 0 then
            some true
          else
            some (decide (((putI m a24 ((m a24) + 1)) a31) = 0))) fun x44 =>
          if x44 = true then
            chk (I64 (f_Pieces + 1)) (
              some (putI m a24 ((m a24) + 1), (f_Pieces + 1)))
          else
            some (putI m a24 ((m a24) + 1), f_Pieces))) fun (m_2, f_Pieces_2) =>
      chk (I64 (x22 + 1)) (
        some (Stp.ag ((x22 + 1), m_2, f_Pieces_2)))
  else
    some (Stp.dn (m, f_Pieces))
noncomputable def P_c_faults_L2 (x_leaves : List Leaf) (t : List Int) : (Int × (List S_copy_run) × (List Int) × (List Int) × (Int → Int)) → Option (Stp (Int × (List S_copy_run) × (List Int) × (List Int) × (Int → Int)) ((Int → Int) × (List S_copy_run) × (List Int) × (List Int))) := fun (x53, l, f_Strange, f_Twice, m_2) =>
  if x53 < (t.length : Int) then
    andx (
      el t x53 fun a56 =>
      if a56 < 0 then
        chk (f_Strange.length + [x53].length < 1000000000) (
          some (l, f_Strange ++ [x53], f_Twice, m_2))
      else
        chk (I64 ((m_2 a56) + 1)) (
          if ((putI m_2 a56 ((m_2 a56) + 1)) a56) > 1 then
            chk (f_Twice.length + [x53].length < 1000000000) (
              some (l, f_Strange, f_Twice ++ [x53], putI m_2 a56 ((m_2 a56) + 1)))
          else
            seqx (
              chk (I64 ((l.length : Int) - 1)) (
                andx (
                  if ((l.length : Int) - 1) ≥ 0 then
                    el l ((l.length : Int) - 1) fun a88 =>
                    if a88.last < a56 then
                      el l ((l.length : Int) - 1) fun a101 =>
                      el x_leaves a101.last fun a104 =>
                      el x_leaves a56 fun a112 =>
                      some (decide (a104.g = a112.g))
                    else
                      some false
                  else
                    some false) fun x116 =>
                  if x116 = true then
                    el l ((l.length : Int) - 1) fun a120 =>
                    some (Ex.rt (List.set l ((l.length : Int) - 1).toNat (⟨a120.item, a120.first, a56⟩ : S_copy_run), f_Strange, f_Twice, putI m_2 a56 ((m_2 a56) + 1)))
                  else
                    some (Ex.nx ()))) fun _ =>
              chk (l.length + [(⟨x53, a56, a56⟩ : S_copy_run)].length < 1000000000) (
                some (l ++ [(⟨x53, a56, a56⟩ : S_copy_run)], f_Strange, f_Twice, putI m_2 a56 ((m_2 a56) + 1))))) fun (l_2, f_Strange_2, f_Twice_2, m_3) =>
      chk (I64 (x53 + 1)) (
        some (Stp.ag ((x53 + 1), l_2, f_Strange_2, f_Twice_2, m_3)))
  else
    some (Stp.dn (m_2, l, f_Strange, f_Twice))
noncomputable def P_c_faults (x_CpCase_Book_Signed : Int) (x_CpCase_Book_Gatherings : List Gat) (x_CpCase_Items : List Item) (x_leaves : List Leaf) (x_mates : List Int) (t : List Int) : Option ((List Int) × (List Int) × Int × (List Int) × (List Int) × (List Int) × Int) :=
  andx (P_c_lost x_CpCase_Book_Signed x_CpCase_Book_Gatherings x_CpCase_Items x_leaves x_mates t) fun y16 =>
    andx (
      iter (P_c_faults_L1 x_mates y16) (0, (fun _ => 0), 0)) fun (m, f_Pieces) =>
      andx (
        iter (P_c_faults_L2 x_leaves t) (0, [], [], [], (fun _ => 0))) fun (m_2, l, f_Strange, f_Twice) =>
        andx (P_c_moved l) fun y131 =>
          chk (I64 (f_Pieces + (f_Strange.length : Int))) (
            chk (I64 ((f_Pieces + (f_Strange.length : Int)) + (f_Twice.length : Int))) (
              chk (I64 (((f_Pieces + (f_Strange.length : Int)) + (f_Twice.length : Int)) + (y131.length : Int))) (
                some ([], y16, f_Pieces, f_Strange, f_Twice, y131, (((f_Pieces + (f_Strange.length : Int)) + (f_Twice.length : Int)) + (y131.length : Int))))))
end Go.Am
end
section
namespace Go.Am.Ythckcbfijdambaa
open Go.Am Go.RowKit
set_option linter.unusedVariables false
set_option linter.unusedSimpArgs false
theorem tr_yields {k : Nat} {D : List Thing} {bx xid : Nat} {sg : Int} {gsv itv lv mv : AV} {its : List Item} (hb : Thing.row bx 1 [.ptr xid 0 5] ∈ D) (hx : Thing.row xid 5 [iv sg, gsv, itv, lv, mv] ∈ D) (hi : Rdl D encIt itv its)
  (hk : its.length ≤ 120 ∧ ∀ x ∈ its, x.could.l.length ≤ 4) : Yields (EL k) 61 [] [.ptr bx 0 1] ArgT D (truthsOf its) := by
 intro l YY ZZ hv C hY;obtain ⟨D', hD⟩ := two_perm hb hx (by intro e; cases e)
 have hi' : Rdl D' encIt itv its := hi.perm2 hD (fun z e => by cases e) (fun z e => by cases e)
 have pm : ∀ C : List Thing, ([Thing.row bx 1 [.ptr xid 0 5], Thing.row xid 5 [iv sg, gsv, itv, lv, mv]] ++ (D' ++ C)).Perm (D ++ C) := fun C => List.Perm.append_right C hD.symm
 refine TF.perm (TF.conv (tr_iter (Y := YY) (Z := ZZ) hk.1 hi' hk.2 ?_ C hY) ?_) (pm C)
 ·intro bt by_ bi vt vis tr C hp hl hY
  have key : ∀ C : List Thing, (C ++ ([ownL false vt encI tr] ++ (D ++ [Thing.row bt 1 [vt], Thing.row by_ 1 [.yield l], Thing.row bi 1 [.func 62 [] [.ptr bt 0 1, .ptr by_ 0 1, .ptr bx 0 1, .ptr bi 0 1]]]))).Perm
    ([Thing.row bt 1 [vt], Thing.row by_ 1 [.yield l], Thing.row bx 1 [.ptr xid 0 5], Thing.row bi 1 [.func 62 [] [.ptr bt 0 1, .ptr by_ 0 1, .ptr bx 0 1, .ptr bi 0 1]], Thing.row xid 5 [iv sg, gsv, itv, lv, mv], ownL false vt encI tr] ++ D' ++ C) := fun C =>
   List.perm_append_comm.trans (List.Perm.append_right C ((List.Perm.append_left _ (List.Perm.append_right _ hD)).trans (perm_six _ _ _ _ _ _ _)))
  refine (hv vis tr [vt] [ownL false vt encI tr] C _ hp ⟨vt, rfl, rfl⟩ hY).conv (key C) ?_;rintro v h1 (⟨rfl, C', rfl, h⟩ | ⟨rfl, C', rfl, h⟩)
  ·exact ⟨_, key C', .inl ⟨rfl, C', rfl, h⟩⟩
  ·exact ⟨_, key C', .inr ⟨rfl, C', rfl, h⟩⟩
 ·rintro v h1 ⟨C', rfl, h⟩;exact ⟨_, pm C', C', rfl, h⟩
set_option maxRecDepth 10000 in
theorem tf_r4_in {k : Nat} (hk : 0 ≤ k) {C : List Thing} {n : Int} {low : Int} {high : Int} {r : Bool} (h : P_r4_in n low high = some r) :
  TF (EL k) 90 [iv (n), iv (low), iv (high)] C (RepF (fun (w : Unit) => bv r) (fun (w : Unit) => C)) := by
 unfold P_r4_in at h;refine TF.enter (fn := Go.Proofs.Try.f90) rfl rfl rfl rfl rfl (zU rfl (zA R4 (zN ?_)))
 show T _ _ _ _ _ _;apply T.joinA (r := r) (W := Unit) (fun j w => ⟨[], [(6, bv j)], C⟩) h
 ·intro j h;refine zT rfl (zM R4 (zM R4 ?_));obtain ⟨c9, hc9⟩ := zY (n ≥ low);refine zV R3 (Val.geq hc9 rfl rfl) (zM R4 ?_);obtain ⟨rfl, hc9, h⟩ | ⟨rfl, hc9, h⟩ := zI hc9 h
  ·refine zM R4 (zM R4 ?_);obtain ⟨c13, hc13⟩ := zY (n ≤ high);refine zV R3 (Val.leq hc13 rfl rfl) (zP R6 (zA R4 (zN ?_)));subst hc13;cases h;exact ⟨rfl, (), (sb .refl)⟩
  refine zO R3 (zO R3 (zO R3 (zP R6 (zA R4 (zN ?_)))));cases h;exact ⟨rfl, (), (sb .refl)⟩
 ·rintro x6 _ h;refine zR ?_;cases h;exact ⟨rfl, _, rfl, ⟨(), rfl, .refl⟩⟩
set_option maxRecDepth 10000 in
theorem tf_r4_item {k : Nat} (hk : 0 ≤ k) {C : List Thing} {v_x_Could : AV} {x_Could : List Int} {leaves : Int} (h_x_Could : Rdl C encI v_x_Could x_Could) {r : Int} (h : P_r4_item x_Could leaves = some r) :
  TF (EL k) 64 [.agg [v_x_Could], iv (leaves)] C (RepF (fun (w : Unit) => iv r) (fun (w : Unit) => C)) := by
 unfold P_r4_item at h;refine TF.enter (fn := Go.Proofs.Try.f64) rfl rfl rfl rfl rfl (zU rfl (zQ 1 [_] R7 (fun b2=>zA R4 (zN (zS (zU rfl (zF 0 R6 (zL 0 R3 R6 (zV R3 (Val.len_l h_x_Could M1 rfl rfl) ?_)))))))));obtain ⟨c10, hc10⟩ := zY ((x_Could.length : Int) > 4);refine zV R3 (Val.gtr hc10 rfl rfl) (zN ?_);obtain ⟨rfl, hc10, h⟩ | ⟨rfl, hc10, h⟩ := zI hc10 h
 ·refine zC rfl (zU rfl (zA R4 (zN (zR ?_))));cases h;exact ⟨rfl, _, rfl, ⟨(), rfl, (pk [98] rfl)⟩⟩
 refine zD rfl (zK ?_)
 show T _ _ _ _ _ _;apply T.join (r := r) (W := Unit) (fun j w => ⟨[], [(2, .ptr b2 0 1)], .row b2 1 [v_x_Could] :: C⟩) h
 ·intro j h;refine zU rfl (zA R4 (zN (zB ?_)))
  show T _ _ _ _ _ _;apply T.iter (r := j) (W := Unit) (fun j w => ⟨[], [(1, iv (leaves)), (2, .ptr b2 0 1), (5, iv (j))], .row b2 1 [v_x_Could] :: C⟩) (w0 := ()) h
  ·exact (sb .refl)
  rintro i _ a h;unfold P_r4_item_L1 at h;refine zS (zU rfl (zM R4 (zF 0 R6 (zL 0 R3 R6 (zV R3 (Val.len_l h_x_Could M1 rfl rfl) ?_)))));obtain ⟨c15, hc15⟩ := zY (i < (x_Could.length : Int));refine zV R3 (Val.lss hc15 rfl rfl) (zN ?_);obtain ⟨rfl, hc15, h⟩ | ⟨rfl, hc15, h⟩ := zI hc15 h
  ·refine zC rfl (zK (zS (zB (zU rfl (zF 0 R6 (zL 0 R3 R6 (zM R4 ?_)))))));obtain ⟨a21, hia21, ea21, h⟩ := el_some h;refine TO.fact (rdl_at h_x_Could M1 hia21 ea21) (fun hp=>?_);obtain ⟨pa21, hpa21, hva21⟩ := hp;refine zV R3 (hva21 ⟨rfl, rfl⟩ rfl rfl) (zV R3 (Val.load_e hpa21 M1 ⟨_, rfl, rfl⟩ rfl rfl) (zM R4 ?_));obtain ⟨hk24, h⟩ := chk_some h;refine zV R3 (Val.sub rfl rfl hk24) ?_;obtain ⟨y25, hr25, h⟩ := andx_some h;refine TO.callT (first := []) (cap := []) (vs := [iv (a21), iv (0), iv ((leaves - 1))]) rfl rfl rfl rfl rfl rfl (orcN rfl) (tf_r4_in aD hr25) ?_;rintro _;refine zG (_::C) rfl (zV R3 (Val.not rfl) (zN ?_));obtain ⟨rfl, h⟩ | ⟨rfl, h⟩ := zZ h
   ·refine zD rfl (zK (zT rfl (zM R4 ?_)));obtain ⟨hk17, h⟩ := chk_some h;refine zV R3 (Val.add rfl rfl hk17) (zA R4 (zN ?_));cases h;exact ⟨rfl, (), (sb .refl)⟩
   refine zC rfl (zU rfl (zA R4 (zN (zR ?_))));cases h;exact ⟨ret_ne, ⟨ret_ne, ⟨rfl, _, rfl, ⟨(), rfl, (pk [98] rfl)⟩⟩⟩⟩
  refine zD rfl (zE ?_);cases h;exact ⟨ex_ne, ⟨rfl, (), (sb .refl)⟩⟩
 ·rintro _ _ h
  show T _ _ _ _ _ _;apply T.join (r := r) (W := Unit) (fun j w => ⟨[], [], .row b2 1 [v_x_Could] :: C⟩) h
  ·intro j h;refine zU rfl (zA R4 (zN (zB ?_)))
   show T _ _ _ _ _ _;apply T.iter (r := j) (W := Unit) (fun j w => ⟨[], [(2, .ptr b2 0 1), (6, iv (j))], .row b2 1 [v_x_Could] :: C⟩) (w0 := ()) h
   ·exact (sb .refl)
   rintro i _ a h;unfold P_r4_item_L2 at h;refine zS (zU rfl (zM R4 (zF 0 R6 (zL 0 R3 R6 (zV R3 (Val.len_l h_x_Could M1 rfl rfl) ?_)))));obtain ⟨c31, hc31⟩ := zY (i < (x_Could.length : Int));refine zV R3 (Val.lss hc31 rfl rfl) (zN ?_);obtain ⟨rfl, hc31, h⟩ | ⟨rfl, hc31, h⟩ := zI hc31 h
   ·refine zC rfl (zK (zS (zB (zS (T.draw (fun v => sameC_refl v) (l1 := [0, 1, 2, 3, 4, 5, 6, 7, 8, 9, 10, 11]) (l2 := []) (by kernel_rfl) (by kernel_rfl) (zF 0 R6 (zL 0 R3 R6 (zM R4 ?_))))))));obtain ⟨a37, hia37, ea37, h⟩ := el_some h;refine TO.fact (rdl_at h_x_Could M1 hia37 ea37) (fun hp=>?_);obtain ⟨pa37, hpa37, hva37⟩ := hp;refine zV R3 (hva37 ⟨rfl, rfl⟩ rfl rfl) (zV R3 (Val.load_e hpa37 M1 ⟨_, rfl, rfl⟩ rfl rfl) (zF 0 R6 (zL 0 R3 R6 (zM R4 ?_))));obtain ⟨hk42, h⟩ := chk_some h;refine zV R3 (Val.sub rfl rfl hk42) ?_;obtain ⟨a43, hia43, ea43, h⟩ := el_some h;refine TO.fact (rdl_at h_x_Could M1 hia43 ea43) (fun hp=>?_);obtain ⟨pa43, hpa43, hva43⟩ := hp;refine zV R3 (hva43 ⟨rfl, rfl⟩ rfl rfl) (zV R3 (Val.load_e hpa43 M1 ⟨_, rfl, rfl⟩ rfl rfl) ?_);obtain ⟨c45, hc45⟩ := zY (a37 ≤ a43);refine zV R3 (Val.leq hc45 rfl rfl) (zN ?_);obtain ⟨rfl, hc45, h⟩ | ⟨rfl, hc45, h⟩ := zI hc45 h
    ·refine zC rfl (zU rfl (zA R4 (zN (zR ?_))));cases h;exact ⟨ret_ne, ⟨ret_ne, ⟨rfl, _, rfl, ⟨(), rfl, (pk [98] rfl)⟩⟩⟩⟩
    refine zD rfl (zK (zT rfl (zM R4 ?_)));obtain ⟨hk33, h⟩ := chk_some h;refine zV R3 (Val.add rfl rfl hk33) (zA R4 (zN ?_));cases h;exact ⟨rfl, (), (sb .refl)⟩
   refine zD rfl (zE ?_);cases h;exact ⟨ex_ne, ⟨rfl, (), (sb .refl)⟩⟩
  ·rintro _ _ h;refine zU rfl (zA R4 (zN (zR ?_)));cases h;exact ⟨rfl, _, rfl, ⟨(), rfl, (pk [98] rfl)⟩⟩
set_option maxRecDepth 10000 in
theorem tf_c_there {k : Nat} (hk : 0 ≤ k) {C : List Thing} {id_x : Nat} {x_CpCase_Book_Signed : Int} {v_x_CpCase_Book_Gatherings : AV} {x_CpCase_Book_Gatherings : List Gat} {v_x_CpCase_Items : AV} {x_CpCase_Items : List Item} {v_x_leaves : AV} {x_leaves : List Leaf} {v_x_mates : AV} {x_mates : List Int} {v_t : AV} {t : List Int} (h_x_CpCase_Book_Gatherings : Rdl C encG v_x_CpCase_Book_Gatherings x_CpCase_Book_Gatherings) (h_x_CpCase_Items : Rdl C encIt v_x_CpCase_Items x_CpCase_Items) (h_x_leaves : Rdl C encL v_x_leaves x_leaves) (h_x_mates : Rdl C encI v_x_mates x_mates) (h_x : Thing.row id_x 5 [iv (x_CpCase_Book_Signed), v_x_CpCase_Book_Gatherings, v_x_CpCase_Items, v_x_leaves, v_x_mates] ∈ C) (h_t : Rdl C encI v_t t) {r : (Int → Int)} (h : P_c_there x_CpCase_Book_Signed x_CpCase_Book_Gatherings x_CpCase_Items x_leaves x_mates t = some r) :
  TF (EL k) 40 [.ptr id_x 0 5, v_t] C (RepF (fun (w : Nat) => .map w) (fun (w : Nat) => .cnt w KInt (cntI r) [] :: C)) := by
 unfold P_c_there at h;refine TF.enter (fn := Go.Proofs.Try.f40) rfl rfl rfl rfl rfl (zU rfl (zA R4 (zN (zU rfl (TO.makeMapI rfl rfl rfl (fun m8=>zA R4 (zN ?_)))))))
 show T _ _ _ _ _ _;apply T.joinA (r := r) (W := Unit) (fun j w => ⟨[], [(5, .map m8)], .cnt m8 KInt (cntI j) [] :: C⟩) h
 ·intro j h;refine zU rfl (zM R4 (zV R3 (Val.len_l h_t M1 rfl rfl) (zM R4 (zN (zB ?_)))))
  show T _ _ _ _ _ _;apply T.iter (r := j) (W := Unit) (fun j w => ⟨[], [(5, .map m8), (9, v_t), (10, iv ((t.length : Int))), (11, iv (j.1))], .cnt m8 KInt (cntI j.2) [] :: C⟩) (w0 := ()) h
  ·exact (sb .refl)
  rintro ⟨x11, m⟩ _ a h;unfold P_c_there_L1 at h;dsimp only at h;dsimp only;refine zU rfl ?_;obtain ⟨c12, hc12⟩ := zY (x11 < (t.length : Int));refine zV R3 (Val.lss hc12 rfl rfl) (zN (zS ?_));obtain ⟨rfl, hc12, h⟩ | ⟨rfl, hc12, h⟩ := zI hc12 h
  ·refine zC rfl (zK (zS (zB (zU rfl ?_))));obtain ⟨a13, hia13, ea13, h⟩ := el_some h;refine TO.fact (rdl_at h_t M1 hia13 ea13) (fun hp=>?_);obtain ⟨pa13, hpa13, hva13⟩ := hp;refine zV R3 (hva13 ⟨rfl, rfl⟩ rfl rfl) (zV R3 (Val.load_e hpa13 M1 ⟨_, rfl, rfl⟩ rfl rfl) (zA R4 (zN (zT rfl (zM R4 (zM R4 (zV R3 (Val.lookupI (p := 0) rfl rfl key_ty3 rfl rfl rfl) ?_)))))));obtain ⟨hk18, h⟩ := chk_some h;refine zV R3 (Val.add rfl rfl hk18) (TO.eff0 rfl rfl (Eff.mapUpdateI (p := 0) rfl rfl key_ty3 rfl rfl rfl) ?_);rintro _ rfl;refine zG (_::C) rfl (zN (zT rfl ?_));obtain ⟨hk19, h⟩ := chk_some h;refine zV R3 (Val.add rfl rfl hk19) (zM R4 (zN ?_));cases h;exact ⟨rfl, (), (sb .refl)⟩
  refine zD rfl (zE ?_);cases h;exact ⟨ex_ne, ⟨rfl, (), (sb .refl)⟩⟩
 ·rintro m _ h;refine zU rfl (zM R4 (zA R4 (zN (zR ?_))));cases h;exact ⟨rfl, _, rfl, ⟨m8, rfl, .refl⟩⟩
set_option maxRecDepth 10000 in
theorem tf_c_lost {k : Nat} (hk : 0 ≤ k) {C : List Thing} {id_x : Nat} {x_CpCase_Book_Signed : Int} {v_x_CpCase_Book_Gatherings : AV} {x_CpCase_Book_Gatherings : List Gat} {v_x_CpCase_Items : AV} {x_CpCase_Items : List Item} {v_x_leaves : AV} {x_leaves : List Leaf} {v_x_mates : AV} {x_mates : List Int} {v_t : AV} {t : List Int} (h_x_CpCase_Book_Gatherings : Rdl C encG v_x_CpCase_Book_Gatherings x_CpCase_Book_Gatherings) (h_x_CpCase_Items : Rdl C encIt v_x_CpCase_Items x_CpCase_Items) (h_x_leaves : Rdl C encL v_x_leaves x_leaves) (h_x_mates : Rdl C encI v_x_mates x_mates) (h_x : Thing.row id_x 5 [iv (x_CpCase_Book_Signed), v_x_CpCase_Book_Gatherings, v_x_CpCase_Items, v_x_leaves, v_x_mates] ∈ C) (h_t : Rdl C encI v_t t) {r : (List Int)} (h : P_c_lost x_CpCase_Book_Signed x_CpCase_Book_Gatherings x_CpCase_Items x_leaves x_mates t = some r) :
  TF (EL k) 54 [.ptr id_x 0 5, v_t] C (RepF (fun (w : AV) => w) (fun (w : AV) => ownL true w encI r :: C)) := by
 unfold P_c_lost at h;refine TF.enter (fn := Go.Proofs.Try.f54) rfl rfl rfl rfl rfl (zU rfl (zA R4 (zN (zU rfl (zM R4 (zM R4 ?_))))));obtain ⟨y9, hr9, h⟩ := andx_some h;refine TO.callT (first := []) (cap := []) (vs := [.ptr id_x 0 5, v_t]) rfl rfl rfl rfl rfl rfl (orcN rfl) (tf_c_there aD (Rdl.mono h_x_CpCase_Book_Gatherings mem0) (Rdl.mono h_x_CpCase_Items mem0) (Rdl.mono h_x_leaves mem0) (Rdl.mono h_x_mates mem0) (mem0 _ h_x) (Rdl.mono h_t mem0) hr9) ?_;rintro w9;refine zG (_::C) rfl (zA R4 (zN ?_))
 show T _ _ _ _ _ _;apply T.joinA (r := r) (W := AV) (fun j w => ⟨[], [(4, w)], ownL true w encI j :: .cnt w9 KInt (cntI y9) [] :: C⟩) h
 ·intro j h;refine zU rfl (zM R4 (zV R3 (Val.nil_ptr rfl) (zF 3 R6 (zV R3 (Val.load_rowM h_x M1 ⟨_, rfl, rfl⟩ rfl rfl rfl) (zV R3 (Val.len_l h_x_leaves M1 rfl rfl) (zM R4 (zN (zB (T.nilown (u := encI.u) ?_)))))))))
  show T _ _ _ _ _ _;apply T.iter (r := j) (W := AV) (fun j w => ⟨[], [(4, w), (5, .map w9), (14, iv ((x_leaves.length : Int))), (15, iv (j.1))], ownL true w encI j.2 :: .cnt w9 KInt (cntI y9) [] :: C⟩) (w0 := nilS) h
  ·exact (sb .refl)
  rintro ⟨x15, l⟩ v2 a h;unfold P_c_lost_L1 at h;dsimp only at h;dsimp only;refine zU rfl ?_;obtain ⟨c16, hc16⟩ := zY (x15 < (x_leaves.length : Int));refine zV R3 (Val.lss hc16 rfl rfl) (zN (zS ?_));obtain ⟨rfl, hc16, h⟩ | ⟨rfl, hc16, h⟩ := zI hc16 h
  ·refine zC rfl (zK ?_)
   show T _ _ _ _ _ _;apply T.joinA (r := a) (W := AV) (fun j w => ⟨[], [(4, w), (5, .map w9), (14, iv ((x_leaves.length : Int))), (15, iv (x15))], ownL true w encI j :: .cnt w9 KInt (cntI y9) [] :: C⟩) h
   ·intro j h;refine zB (zU rfl (zM R4 (zA R4 (zN (zU rfl (zM R4 (zM R4 (zV R3 (Val.lookupI (p := 1) rfl rfl key_ty3 rfl rfl rfl) ?_))))))));obtain ⟨c21, hc21⟩ := zY ((y9 x15) = 0);refine zV R3 (Val.eql hc21 rfl rfl) (zN ?_);obtain ⟨rfl, hc21, h⟩ | ⟨rfl, hc21, h⟩ := zI hc21 h
    ·refine zC rfl (zT rfl (zM R4 (zM R4 (TO.build1 (en := encI) (a := x15) rfl rfl rfl ⟨rfl, rfl⟩ ⟨_, rfl, rfl⟩ (by decide) (by decide) rfl rfl (fun v24=>?_)))));obtain ⟨hk25, h⟩ := chk_some h;refine TO.eff rfl rfl rfl (Eff.append_own (b := 8) (en := encI) (l := l) (l2 := [x15]) (p := 1) (q := 0) ⟨rfl, rfl, rfl, ⟨_, rfl, rfl⟩, by decide, by decide⟩ rfl rfl rfl rfl rfl rfl (flat_ones _) (by decide) hk25) ?_;rintro v25 _ rfl;refine zG (_::_::_::C) rfl (zA R4 (zN ?_));cases h;exact ⟨rfl, v25, (sb (pk [1,1,98] rfl))⟩
    refine zD rfl (zK ?_);cases h;exact ⟨rfl, v2, (sb .refl)⟩
   ·rintro l_2 v2_2 h;refine zT rfl ?_;obtain ⟨hk26, h⟩ := chk_some h;refine zV R3 (Val.add rfl rfl hk26) (zM R4 (zN ?_));cases h;exact ⟨rfl, v2_2, (sb .refl)⟩
  refine zD rfl (zE ?_);cases h;exact ⟨ex_ne, ⟨rfl, v2, (sb .refl)⟩⟩
 ·rintro l v2 h;refine zU rfl (zM R4 (zA R4 (zN (zR ?_))));cases h;exact ⟨rfl, _, rfl, ⟨v2, rfl, (pk [0,98] rfl)⟩⟩
set_option maxRecDepth 10000 in
theorem tf_c_moved {k : Nat} (hk : 0 ≤ k) {C : List Thing} {v_l : AV} {l : List S_copy_run} (h_l : Rdl C enc_copy_run v_l l) {r : (List Int)} (h : P_c_moved l = some r) :
  TF (EL k) 66 [v_l] C (RepF (fun (w : AV) => w) (fun (w : AV) => ownL true w encI r :: C)) := by
 unfold P_c_moved at h;refine TF.enter (fn := Go.Proofs.Try.f66) rfl rfl rfl rfl rfl (zU rfl (zA R4 (zN (zU rfl (TO.allocA (en := encI) 0 120 rfl rfl rfl rfl (by kernel_rfl) rfl rfl (fun b3=>zN (zU rfl (zA R4 (zN ?_)))))))))
 show T _ _ _ _ _ _;apply T.joinA (r := r) (W := Unit) (fun j w => ⟨[], [(0, v_l), (2, nilS), (3, .ptr b3 0 120), (4, iv (j.1))], arrL b3 encI j.2 :: C⟩) h
 ·intro j h;refine zU rfl (zM R4 (zV R3 (Val.len_l h_l M1 rfl rfl) ?_));obtain ⟨hk12, h⟩ := chk_some h;refine zV R3 (Val.sub rfl rfl hk12) (zA R4 (zN (zB ?_)))
  show T _ _ _ _ _ _;apply T.iter (r := j) (W := Unit) (fun j w => ⟨[], [(0, v_l), (2, nilS), (3, .ptr b3 0 120), (4, iv (j.1)), (5, iv (j.2.1))], arrL b3 encI j.2.2 :: C⟩) (w0 := ()) h
  ·exact (sb .refl)
  rintro ⟨best, i, many⟩ _ a h;unfold P_c_moved_L1 at h;dsimp only at h;dsimp only;refine zS (zU rfl (zM R4 ?_));obtain ⟨c14, hc14⟩ := zY (i ≥ 0);refine zV R3 (Val.geq hc14 rfl rfl) (zN ?_);obtain ⟨rfl, hc14, h⟩ | ⟨rfl, hc14, h⟩ := zI hc14 h
  ·refine zC rfl (zK ?_)
   show T _ _ _ _ _ _;apply T.joinA (r := a) (W := Unit) (fun j w => ⟨[], [(0, v_l), (2, nilS), (3, .ptr b3 0 120), (4, iv (j.1)), (5, iv (i))], arrL b3 encI j.2 :: C⟩) h
   ·intro j h;refine zB ?_
    show T _ _ _ _ _ _;apply T.joinA (r := j) (W := Unit) (fun j w => ⟨[], [(0, v_l), (2, nilS), (3, .ptr b3 0 120), (4, iv (best)), (5, iv (i))], arrL b3 encI j :: C⟩) h
    ·intro j h;refine zU rfl (zM R4 ?_);obtain ⟨hk18, h⟩ := chk_some h;refine zV R3 (Val.add rfl rfl hk18) (zA R4 (zN (zB ?_)))
     show T _ _ _ _ _ _;apply T.iter (r := j) (W := Unit) (fun j w => ⟨[], [(0, v_l), (2, nilS), (3, .ptr b3 0 120), (4, iv (best)), (5, iv (i)), (6, iv (j.1))], arrL b3 encI j.2 :: C⟩) (w0 := ()) h
     ·exact (sb .refl)
     rintro ⟨k_, many_2⟩ _ a h;unfold P_c_moved_L2 at h;dsimp only at h;dsimp only;refine zS (zU rfl (zM R4 (zM R4 (zV R3 (Val.len_l h_l M1 rfl rfl) ?_))));obtain ⟨c22, hc22⟩ := zY (k_ < (l.length : Int));refine zV R3 (Val.lss hc22 rfl rfl) (zN ?_);obtain ⟨rfl, hc22, h⟩ | ⟨rfl, hc22, h⟩ := zI hc22 h
     ·refine zC rfl (zK ?_)
      show T _ _ _ _ _ _;apply T.joinA (r := a) (W := Unit) (fun j w => ⟨[], [(0, v_l), (2, nilS), (3, .ptr b3 0 120), (4, iv (best)), (5, iv (i)), (6, iv (k_))], arrL b3 encI j :: C⟩) h
      ·intro j h;refine zB (zS (T.draw (fun v => sameC_refl v) (l1 := [0, 1, 2, 3, 4, 5, 6, 7, 8, 9, 10]) (l2 := []) (by kernel_rfl) (by kernel_rfl) (zM R4 (zM R4 ?_))));obtain ⟨a27, hia27, ea27, h⟩ := el_some h;refine TO.fact (rdl_at h_l M1 hia27 ea27) (fun hp=>?_);obtain ⟨pa27, hpa27, hva27⟩ := hp;refine zV R3 (hva27 ⟨rfl, rfl⟩ rfl rfl) (zV R3 (Val.faddr_e (fo := 1) hpa27 rfl rfl rfl) (zV R3 (Val.load_e (PtE.add hpa27 (by decide)) M1 ⟨_, rfl, rfl⟩ rfl rfl) (zM R4 (zM R4 ?_))));obtain ⟨a32, hia32, ea32, h⟩ := el_some h;refine TO.fact (rdl_at h_l M1 hia32 ea32) (fun hp=>?_);obtain ⟨pa32, hpa32, hva32⟩ := hp;refine zV R3 (hva32 ⟨rfl, rfl⟩ rfl rfl) (zV R3 (Val.faddr_e (fo := 2) hpa32 rfl rfl rfl) (zV R3 (Val.load_e (PtE.add hpa32 (by decide)) M1 ⟨_, rfl, rfl⟩ rfl rfl) ?_));obtain ⟨c35, hc35⟩ := zY (a27.first > a32.last);refine zV R3 (Val.gtr hc35 rfl rfl) (zN ?_);obtain ⟨rfl, hc35, h⟩ | ⟨rfl, hc35, h⟩ := zI hc35 h
       ·refine zC rfl (T.drawE (l1 := [0, 1, 2, 3, 4, 5, 6]) (l2 := [7, 8, 9]) (by kernel_rfl) (by kernel_rfl) (yL R4 (Val.move rfl) (yL R4 (Val.move rfl) ?_)));obtain ⟨hk38, h⟩ := chk_some h;obtain ⟨a38, hia38, ea38, h⟩ := el_some h;refine yL R4 (Val.iaddr_array (m := 120) rfl rfl rfl rfl aO) (yR R4 (Val.load_arr (en := encI) (p := 0) (j := 0) rfl hk38 ⟨_, rfl, rfl⟩ rfl ea38 rfl) (yL R4 (Val.move rfl) ?_));obtain ⟨hk41, h⟩ := chk_some h;obtain ⟨a41, hia41, ea41, h⟩ := el_some h;refine yL R4 (Val.iaddr_array (m := 120) rfl rfl rfl rfl aO) (yR R4 (Val.load_arr (en := encI) (p := 0) (j := 0) rfl hk41 ⟨_, rfl, rfl⟩ rfl ea41 rfl) (TD1.over (fun v => sameC_refl v) (all_cons (⟨_, rfl, (Val.load_arr (en := encI) (p := 0) (j := 0) rfl hk41 ⟨_, rfl, rfl⟩ rfl ea41 rfl)⟩) (all_cons (⟨_, rfl, (Val.load_arr (en := encI) (p := 0) (j := 0) rfl hk38 ⟨_, rfl, rfl⟩ rfl ea38 rfl)⟩) all_nil)) (TD2.heavy (fun v => sameC_refl v) rfl (by decide) rfl rfl (OpS.eff (Eff.val (Val.bmax rfl rfl))) ?_)));rintro _ _ ⟨rfl, rfl⟩;refine ⟨(all_cons (.inl (by kernel_rfl)) (all_cons (.inl (by kernel_rfl)) all_nil)), all_nil, ?_⟩;obtain ⟨hk44, h⟩ := chk_some h;obtain ⟨a44, hia44, ea44, h⟩ := el_some h;refine yM R4 (Val.iaddr_array (m := 120) rfl rfl rfl rfl aO) (TD2.heavy (fun v => sameC_refl v) rfl (by decide) rfl rfl (OpS.eff (Eff.store_arr (en := encI) (p := 0) (a := a44) (a' := (max a38 a41)) (j := 0) (cv := [_]) rfl hk44 ea44 rfl rfl (by decide) rfl rfl rfl rfl aG rfl)) ?_);rintro _ _ rfl;refine ⟨(all_cons (.inl (by kernel_rfl)) (all_cons (.inl (by kernel_rfl)) all_nil)), all_nil, ?_⟩;refine yG (_::C) rfl (TD2.nil ?_);cases h;exact ⟨rfl, (), (sb .refl)⟩
       refine zD rfl (zK ?_);cases h;exact ⟨rfl, (), (sb .refl)⟩
      ·rintro many_3 _ h;refine zT rfl (zM R4 ?_);obtain ⟨hk24, h⟩ := chk_some h;refine zV R3 (Val.add rfl rfl hk24) (zA R4 (zN ?_));cases h;exact ⟨rfl, (), (sb .refl)⟩
     refine zD rfl (zE ?_);cases h;exact ⟨ex_ne, ⟨rfl, (), (sb .refl)⟩⟩
    ·rintro many_2 _ h;refine zU rfl (zM R4 ?_);obtain ⟨hk46, h⟩ := chk_some h;obtain ⟨a46, hia46, ea46, h⟩ := el_some h;refine zV R3 (Val.iaddr_array (m := 120) rfl rfl rfl rfl aO) (zV R3 (Val.load_arr (en := encI) (p := 0) (j := 0) rfl hk46 ⟨_, rfl, rfl⟩ rfl ea46 rfl) ?_);obtain ⟨hk48, h⟩ := chk_some h;refine zV R3 (Val.add rfl rfl hk48) ?_;obtain ⟨hk49, h⟩ := chk_some h;obtain ⟨a49, hia49, ea49, h⟩ := el_some h;refine zV R3 (Val.iaddr_array (m := 120) rfl rfl rfl rfl aO) (TO.eff0 rfl rfl (Eff.store_arr (en := encI) (p := 0) (a := a49) (a' := (a46 + 1)) (j := 0) (cv := [_]) rfl hk49 ea49 rfl rfl (by decide) rfl rfl rfl rfl aG rfl) ?_);rintro _ rfl;refine zG (_::C) rfl (zN (zT rfl (zM R4 (zM R4 ?_))));obtain ⟨hk52, h⟩ := chk_some h;obtain ⟨a52, hia52, ea52, h⟩ := el_some h;refine zV R3 (Val.iaddr_array (m := 120) rfl rfl rfl rfl aO) (zV R3 (Val.load_arr (en := encI) (p := 0) (j := 0) rfl hk52 ⟨_, rfl, rfl⟩ rfl ea52 rfl) (zV R3 (Val.bmax rfl rfl) (zA R4 (zN ?_))));cases h;exact ⟨rfl, (), (sb .refl)⟩
   ·rintro ⟨best_2, many_2⟩ _ h;dsimp only at h;dsimp only;refine zT rfl (zM R4 ?_);obtain ⟨hk16, h⟩ := chk_some h;refine zV R3 (Val.sub rfl rfl hk16) (zA R4 (zN ?_));cases h;exact ⟨rfl, (), (sb .refl)⟩
  refine zD rfl (zE ?_);cases h;exact ⟨ex_ne, ⟨rfl, (), (sb .refl)⟩⟩
 ·rintro ⟨best, many⟩ _ h;dsimp only at h;dsimp only;refine zU rfl (zV R3 (Val.buildC (cs := [_, _, _]) (vs := [(_, _), (_, _), (_, _)]) (ws := [(_, [_]), (_, [_]), (_, [_])]) rfl rfl (CellsL.cons rfl (CellsL.cons rfl (CellsL.cons rfl CellsL.nil))) rfl) (zJ 3 [_,_,_] R7 (fun b7=>TO.eff0 rfl rfl (Eff.store_row (p := 0) (cv := [_, _, _]) (cells' := [_, _, _]) rfl rfl rfl rfl rfl rfl rfl rfl aG (by decide) rfl) ?_)));rintro _ rfl;refine zG (_::_::C) rfl (zN ?_)
  show T _ _ _ _ _ _;apply T.joinA (r := r) (W := AV) (fun j w => ⟨[], [(2, w)], ownL true w encI j.2.2.2 :: .row b7 3 [iv (j.1), iv (j.2.1), iv (j.2.2.1)] :: arrL b3 encI many :: C⟩) h
  ·intro j h;refine zU rfl (zM R4 (zV R3 (Val.len_l h_l M2 rfl rfl) (zM R4 (zN (zB (T.nilown (u := encI.u) ?_))))))
   show T _ _ _ _ _ _;apply T.iter (r := j) (W := AV) (fun j w => ⟨[], [(2, w), (3, .ptr b3 0 120), (4, iv (j.1)), (7, .ptr b7 0 3), (56, v_l), (57, iv ((l.length : Int))), (58, iv (j.2.1))], ownL true w encI j.2.2.1 :: .row b7 3 [iv (j.2.2.2.1), iv (j.2.2.2.2.1), iv (j.2.2.2.2.2)] :: arrL b3 encI many :: C⟩) (w0 := nilS) h
   ·exact (sb .refl)
   rintro ⟨best_2, x58, items, last_item, last_first, last_last⟩ v3 a h;unfold P_c_moved_L3 at h;dsimp only at h;dsimp only;refine zU rfl ?_;obtain ⟨c59, hc59⟩ := zY (x58 < (l.length : Int));refine zV R3 (Val.lss hc59 rfl rfl) (zN (zS ?_));obtain ⟨rfl, hc59, h⟩ | ⟨rfl, hc59, h⟩ := zI hc59 h
   ·refine zC rfl (zK ?_)
    show T _ _ _ _ _ _;apply T.joinA (r := a) (W := AV) (fun j w => ⟨[], [(2, w), (3, .ptr b3 0 120), (4, iv (j.1)), (7, .ptr b7 0 3), (56, v_l), (57, iv ((l.length : Int))), (58, iv (x58))], ownL true w encI j.2.1 :: .row b7 3 [iv (j.2.2.1), iv (j.2.2.2.1), iv (j.2.2.2.2)] :: arrL b3 encI many :: C⟩) h
    ·intro j h;refine zB (zU rfl (zM R4 ?_));obtain ⟨a61, hia61, ea61, h⟩ := el_some h;refine TO.fact (rdl_at h_l M3 hia61 ea61) (fun hp=>?_);obtain ⟨pa61, hpa61, hva61⟩ := hp;refine zV R3 (hva61 ⟨rfl, rfl⟩ rfl rfl) (zV R3 (Val.load_es (c := [_, _, _]) hpa61 M3 ⟨⟨_, rfl, rfl⟩, rfl, by decide⟩ rfl rfl rfl) (zJ 3 [_,_,_] R7 (fun b9=>zA R4 (TO.eff0 rfl rfl (Eff.store_row (p := 0) (cv := [_, _, _]) (cells' := [_, _, _]) rfl rfl rfl rfl rfl rfl rfl rfl aG (by decide) rfl) ?_))));rintro _ rfl;refine zG (_::_::_::_::C) rfl (zN ?_)
     show T _ _ _ _ _ _;apply T.joinA (r := j) (W := Unit) (fun j w => ⟨[], [(2, v3), (3, .ptr b3 0 120), (4, iv (best_2)), (7, .ptr b7 0 3), (9, .ptr b9 0 3), (56, v_l), (57, iv ((l.length : Int))), (58, iv (x58)), (79, bv j)], .row b9 3 [iv (a61.item), iv (a61.first), iv (a61.last)] :: ownL true v3 encI items :: .row b7 3 [iv (last_item), iv (last_first), iv (last_last)] :: arrL b3 encI many :: C⟩) h
     ·intro j h;refine zT rfl (zM R4 ?_);obtain ⟨hk64, h⟩ := chk_some h;obtain ⟨a64, hia64, ea64, h⟩ := el_some h;refine zV R3 (Val.iaddr_array (m := 120) rfl rfl rfl rfl aO) (zV R3 (Val.load_arr (en := encI) (p := 3) (j := 0) rfl hk64 ⟨_, rfl, rfl⟩ rfl ea64 rfl) (zM R4 ?_));obtain ⟨c67, hc67⟩ := zY (a64 = best_2);refine zV R3 (Val.eql hc67 rfl rfl) (zM R4 ?_);obtain ⟨rfl, hc67, h⟩ | ⟨rfl, hc67, h⟩ := zI hc67 h
      ·refine zV R3 (vW 2 [_,_,_] R5 R4) (zV R3 (Val.buildC (cs := [_, _, _]) (vs := [(_, _), (_, _), (_, _)]) (ws := [(_, [_]), (_, [_]), (_, [_])]) rfl rfl (CellsL.cons rfl (CellsL.cons rfl (CellsL.cons rfl CellsL.nil))) rfl) ?_);obtain ⟨c71, hc71⟩ := zY (last_item = (-1) ∧ last_first = (-1) ∧ last_last = (-1));refine zV R3 (Val.binD hc71 rfl rfl (eql_ty124 _ _ _ _ _ _ _ _)) (zM R4 ?_);obtain ⟨rfl, hc71, h⟩ | ⟨rfl, hc71, h⟩ := zI hc71 h
       ·refine zO R3 (zO R3 (zO R3 (zO R3 (zO R3 (zP R6 (zP R6 (zN ?_)))))));cases h;exact ⟨rfl, (), (sb .refl)⟩
       refine zF 1 R6 (zL 0 R3 R6 (zF 2 R6 (zL 2 R3 R6 ?_)));obtain ⟨c77, hc77⟩ := zY (a61.first > last_last);refine zV R3 (Val.gtr hc77 rfl rfl) (zP R6 (zP R6 (zN ?_)));subst hc77;cases h;exact ⟨rfl, (), (sb .refl)⟩
      refine zO R3 (zO R3 (zO R3 (zO R3 (zO R3 (zO R3 (zO R3 (zO R3 (zO R3 (zO R3 (zP R6 (zN ?_)))))))))));cases h;exact ⟨rfl, (), (sb .refl)⟩
     ·rintro x79 _ h;obtain ⟨rfl, h⟩ | ⟨rfl, h⟩ := zZ h
      ·refine zC rfl (zU rfl (zV R3 (vW 0 [_,_,_] R5 R4) (TO.eff0 rfl rfl (Eff.store_row (p := 2) (cv := [_, _, _]) (cells' := [_, _, _]) rfl rfl rfl rfl rfl rfl rfl rfl aG (by decide) rfl) ?_)));rintro _ rfl;refine zG (_::_::_::_::C) rfl (zN (zT rfl (zM R4 ?_)));obtain ⟨hk82, h⟩ := chk_some h;refine zV R3 (Val.sub rfl rfl hk82) (zA R4 (zN ?_));cases h;exact ⟨rfl, v3, (sb (pk [1,1,1,98] rfl))⟩
      refine zD rfl (zT rfl (zM R4 (zF 0 R6 (zL 0 R3 R6 (TO.build1 (en := encI) (a := a61.item) rfl rfl rfl ⟨rfl, rfl⟩ ⟨_, rfl, rfl⟩ (by decide) (by decide) rfl rfl (fun v86=>?_))))));obtain ⟨hk87, h⟩ := chk_some h;refine TO.eff rfl rfl rfl (Eff.append_own (b := 8) (en := encI) (l := items) (l2 := [a61.item]) (p := 2) (q := 0) ⟨rfl, rfl, rfl, ⟨_, rfl, rfl⟩, by decide, by decide⟩ rfl rfl rfl rfl rfl rfl (flat_ones _) (by decide) hk87) ?_;rintro v87 _ rfl;refine zG (_::_::_::_::_::C) rfl (zA R4 (zN ?_));cases h;exact ⟨rfl, v87, (sb (pk [2,2,2,98,98] rfl))⟩
    ·rintro ⟨best_3, items_2, last_item_2, last_first_2, last_last_2⟩ v3_2 h;dsimp only at h;dsimp only;refine zT rfl ?_;obtain ⟨hk88, h⟩ := chk_some h;refine zV R3 (Val.add rfl rfl hk88) (zM R4 (zN ?_));cases h;exact ⟨rfl, v3_2, (sb .refl)⟩
   refine zD rfl (zE ?_);cases h;exact ⟨ex_ne, ⟨rfl, v3, (sb .refl)⟩⟩
  ·rintro ⟨last_item, last_first, last_last, items⟩ v3 h;dsimp only at h;dsimp only;refine zU rfl (zM R4 (zA R4 (zN (zR ?_))));cases h;exact ⟨rfl, _, rfl, ⟨v3, rfl, (pk [0,98,98] rfl)⟩⟩
set_option maxRecDepth 10000 in
theorem tf_c_faults {k : Nat} (hk : 0 ≤ k) {C : List Thing} {id_x : Nat} {x_CpCase_Book_Signed : Int} {v_x_CpCase_Book_Gatherings : AV} {x_CpCase_Book_Gatherings : List Gat} {v_x_CpCase_Items : AV} {x_CpCase_Items : List Item} {v_x_leaves : AV} {x_leaves : List Leaf} {v_x_mates : AV} {x_mates : List Int} {v_t : AV} {t : List Int} (h_x_CpCase_Book_Gatherings : Rdl C encG v_x_CpCase_Book_Gatherings x_CpCase_Book_Gatherings) (h_x_CpCase_Items : Rdl C encIt v_x_CpCase_Items x_CpCase_Items) (h_x_leaves : Rdl C encL v_x_leaves x_leaves) (h_x_mates : Rdl C encI v_x_mates x_mates) (h_x : Thing.row id_x 5 [iv (x_CpCase_Book_Signed), v_x_CpCase_Book_Gatherings, v_x_CpCase_Items, v_x_leaves, v_x_mates] ∈ C) (h_t : Rdl C encI v_t t) {r : (List Int) × (List Int) × Int × (List Int) × (List Int) × (List Int) × Int} (h : P_c_faults x_CpCase_Book_Signed x_CpCase_Book_Gatherings x_CpCase_Items x_leaves x_mates t = some r) :
  TF (EL k) 48 [.ptr id_x 0 5, v_t] C (RepF (fun (w : AV × AV × AV × AV × AV) => .agg [w.1, w.2.1, iv r.2.2.1, w.2.2.1, w.2.2.2.1, w.2.2.2.2, iv r.2.2.2.2.2.2]) (fun (w : AV × AV × AV × AV × AV) => ownL true w.1 encI r.1 :: ownL true w.2.1 encI r.2.1 :: ownL true w.2.2.1 encI r.2.2.2.1 :: ownL true w.2.2.2.1 encI r.2.2.2.2.1 :: ownL true w.2.2.2.2 encI r.2.2.2.2.2.1 :: C)) := by
 unfold P_c_faults at h;refine TF.enterG (fn := Go.Proofs.Try.f48) rfl rfl rfl rfl rfl (zU rfl (zJ 7 [_,_,_,_,_,_,_] R7 (fun b4=>zN (zU rfl (zM R4 (zM R4 ?_))))));obtain ⟨y16, hr16, h⟩ := andx_some h;refine TO.callT (first := []) (cap := []) (vs := [.ptr id_x 0 5, v_t]) rfl rfl rfl rfl rfl rfl (orcN rfl) (tf_c_lost aD (Rdl.mono h_x_CpCase_Book_Gatherings M1) (Rdl.mono h_x_CpCase_Items M1) (Rdl.mono h_x_leaves M1) (Rdl.mono h_x_mates M1) (M1 _ h_x) (Rdl.mono h_t M1) hr16) ?_;rintro w16;refine zG (_::_::C) rfl (zF 1 R6 (TO.fact (own_cellS (p := 0) rfl) (fun hot2=>TO.eff0 rfl rfl (Eff.store_row (p := 1) (cv := [_]) (cells' := [_, _, _, _, _, _, _]) rfl rfl rfl rfl rfl hot2.1 rfl rfl (by first | rfl | (simp [GS.one, hot2.2]; done)) (by decide) rfl) ?_)));rintro _ rfl;refine zG (_::_::C) rfl (zN (zU rfl (TO.makeMapI rfl rfl rfl (fun m18=>zA R4 (zN ?_)))))
 show T _ _ _ _ _ _;apply T.joinA (r := r) (W := Unit) (fun j w => ⟨[], [(0, .ptr id_x 0 5), (1, v_t), (4, .ptr b4 0 7)], .cnt m18 KInt (cntI j.1) [] :: ownL true w16 encI y16 :: .row b4 7 [nilS, w16, iv (j.2), nilS, nilS, nilS, iv (0)] :: C⟩) h
 ·intro j h;refine zU rfl (zF 1 R6 (zL 2 R3 R6 (zV R3 (Val.len_own (p := 1) rfl rfl rfl) (zM R4 (zN (zB ?_))))))
  show T _ _ _ _ _ _;apply T.iter (r := j) (W := Unit) (fun j w => ⟨[], [(0, .ptr id_x 0 5), (1, v_t), (4, .ptr b4 0 7), (5, .map m18), (20, w16), (21, iv ((y16.length : Int))), (22, iv (j.1))], .cnt m18 KInt (cntI j.2.1) [] :: ownL true w16 encI y16 :: .row b4 7 [nilS, w16, iv (j.2.2), nilS, nilS, nilS, iv (0)] :: C⟩) (w0 := ()) h
  ·exact (sb .refl)
  rintro ⟨x22, m, f_Pieces⟩ _ a h;unfold P_c_faults_L1 at h;dsimp only at h;dsimp only;refine zU rfl ?_;obtain ⟨c23, hc23⟩ := zY (x22 < (y16.length : Int));refine zV R3 (Val.lss hc23 rfl rfl) (zN (zS ?_));obtain ⟨rfl, hc23, h⟩ | ⟨rfl, hc23, h⟩ := zI hc23 h
  ·refine zC rfl (zK ?_)
   show T _ _ _ _ _ _;apply T.joinA (r := a) (W := Unit) (fun j w => ⟨[], [(0, .ptr id_x 0 5), (1, v_t), (4, .ptr b4 0 7), (5, .map m18), (20, w16), (21, iv ((y16.length : Int))), (22, iv (x22))], .cnt m18 KInt (cntI j.1) [] :: ownL true w16 encI y16 :: .row b4 7 [nilS, w16, iv (j.2), nilS, nilS, nilS, iv (0)] :: C⟩) h
   ·intro j h;refine zB (zU rfl ?_);obtain ⟨a24, hia24, ea24, h⟩ := el_some h;refine TO.fact (own_at (en := encI) (p := 1) rfl hia24) (fun hp=>?_);obtain ⟨ida24, ata24⟩ := hp;refine zV R3 (Val.iaddr_at (en := encI) ata24 ⟨rfl, rfl⟩ rfl rfl hia24) (zV R3 (Val.load_ownL (en := encI) (p := 1) (j := 0) rfl ata24 ⟨_, rfl, rfl⟩ rfl ea24 rfl) (zA R4 (zN (zU rfl (zM R4 (zV R3 (Val.nil_ptr rfl) (zF 4 R6 (zV R3 (Val.load_rowM h_x M3 ⟨_, rfl, rfl⟩ rfl rfl rfl) (zM R4 ?_)))))))));obtain ⟨a31, hia31, ea31, h⟩ := el_some h;refine TO.fact (rdl_at h_x_mates M3 hia31 ea31) (fun hp=>?_);obtain ⟨pa31, hpa31, hva31⟩ := hp;refine zV R3 (hva31 ⟨rfl, rfl⟩ rfl rfl) (zV R3 (Val.load_e hpa31 M3 ⟨_, rfl, rfl⟩ rfl rfl) (zA R4 (zN (zU rfl (zM R4 (zM R4 (zV R3 (Val.lookupI (p := 0) rfl rfl key_ty3 rfl rfl rfl) ?_)))))));obtain ⟨hk36, h⟩ := chk_some h;refine zV R3 (Val.add rfl rfl hk36) (TO.eff0 rfl rfl (Eff.mapUpdateI (p := 0) rfl rfl key_ty3 rfl rfl rfl) ?_);rintro _ rfl;refine zG (_::_::_::C) rfl (zN ?_)
    show T _ _ _ _ _ _;apply T.joinA (r := j) (W := Unit) (fun j w => ⟨[], [(0, .ptr id_x 0 5), (1, v_t), (4, .ptr b4 0 7), (5, .map m18), (20, w16), (21, iv ((y16.length : Int))), (22, iv (x22)), (44, bv j)], .cnt m18 KInt (cntI (putI m a24 ((m a24) + 1))) [] :: ownL true w16 encI y16 :: .row b4 7 [nilS, w16, iv (f_Pieces), nilS, nilS, nilS, iv (0)] :: C⟩) h
    ·intro j h;refine zT rfl (zM R4 ?_);obtain ⟨c38, hc38⟩ := zY (a31 < 0);refine zV R3 (Val.lss hc38 rfl rfl) (zM R4 ?_);obtain ⟨rfl, hc38, h⟩ | ⟨rfl, hc38, h⟩ := zI hc38 h
     ·refine zO R3 (zO R3 (zO R3 (zO R3 (zP R6 (zN ?_)))));cases h;exact ⟨rfl, (), (sb .refl)⟩
     refine zM R4 (zM R4 (zV R3 (Val.lookupI (p := 0) rfl rfl key_ty3 rfl rfl rfl) ?_));obtain ⟨c43, hc43⟩ := zY (((putI m a24 ((m a24) + 1)) a31) = 0);refine zV R3 (Val.eql hc43 rfl rfl) (zP R6 (zN ?_));subst hc43;cases h;exact ⟨rfl, (), (sb .refl)⟩
    ·rintro x44 _ h;obtain ⟨rfl, h⟩ | ⟨rfl, h⟩ := zZ h
     ·refine zC rfl (zT rfl (zF 2 R6 (zL 2 R3 R6 ?_)));obtain ⟨hk47, h⟩ := chk_some h;refine zV R3 (Val.add rfl rfl hk47) (zF 2 R6 (TO.eff0 rfl rfl (Eff.store_row (p := 2) (cv := [_]) (cells' := [_, _, _, _, _, _, _]) rfl rfl rfl rfl rfl rfl rfl rfl aG (by decide) rfl) ?_));rintro _ rfl;refine zG (_::_::_::C) rfl (zN ?_);cases h;exact ⟨rfl, (), (sb .refl)⟩
     refine zD rfl (zK ?_);cases h;exact ⟨rfl, (), (sb .refl)⟩
   ·rintro ⟨m_2, f_Pieces_2⟩ _ h;dsimp only at h;dsimp only;refine zT rfl ?_;obtain ⟨hk49, h⟩ := chk_some h;refine zV R3 (Val.add rfl rfl hk49) (zM R4 (zN ?_));cases h;exact ⟨rfl, (), (sb .refl)⟩
  refine zD rfl (zE ?_);cases h;exact ⟨ex_ne, ⟨rfl, (), (sb .refl)⟩⟩
 ·rintro ⟨m, f_Pieces⟩ _ h;dsimp only at h;dsimp only;refine zU rfl (zA R4 (zN (zU rfl (TO.makeMapI rfl rfl rfl (fun m50=>zA R4 (zN ?_))))))
  show T _ _ _ _ _ _;apply T.joinA (r := r) (W := AV × AV × AV) (fun j w => ⟨[], [(4, .ptr b4 0 7), (9, w.1)], ownL true w.1 enc_copy_run j.2.1 :: ownL true w.2.1 encI j.2.2.1 :: ownL true w.2.2 encI j.2.2.2 :: .cnt m50 KInt (cntI j.1) [] :: ownL true w16 encI y16 :: .row b4 7 [nilS, w16, iv (f_Pieces), w.2.1, w.2.2, nilS, iv (0)] :: C⟩) h
  ·intro j h;refine zU rfl (zM R4 (zV R3 (Val.len_l h_t M4 rfl rfl) (zM R4 (zN (zB (T.nilown (u := encI.u) (T.nilown (u := encI.u) (T.nilown (u := enc_copy_run.u) ?_))))))))
   show T _ _ _ _ _ _;apply T.iter (r := j) (W := AV × AV × AV) (fun j w => ⟨[], [(0, .ptr id_x 0 5), (4, .ptr b4 0 7), (9, w.1), (10, .map m50), (51, v_t), (52, iv ((t.length : Int))), (53, iv (j.1))], ownL true w.1 enc_copy_run j.2.1 :: ownL true w.2.1 encI j.2.2.1 :: ownL true w.2.2 encI j.2.2.2.1 :: .cnt m50 KInt (cntI j.2.2.2.2) [] :: ownL true w16 encI y16 :: .row b4 7 [nilS, w16, iv (f_Pieces), w.2.1, w.2.2, nilS, iv (0)] :: C⟩) (w0 := (nilS, nilS, nilS)) h
   ·exact (sb (pk [0,0,0,0,1,1,98] rfl))
   rintro ⟨x53, l, f_Strange, f_Twice, m_2⟩ ⟨v7, v6, v5⟩ a h;unfold P_c_faults_L2 at h;dsimp only at h;dsimp only;refine zU rfl ?_;obtain ⟨c54, hc54⟩ := zY (x53 < (t.length : Int));refine zV R3 (Val.lss hc54 rfl rfl) (zN (zS ?_));obtain ⟨rfl, hc54, h⟩ | ⟨rfl, hc54, h⟩ := zI hc54 h
   ·refine zC rfl (zK ?_)
    show T _ _ _ _ _ _;apply T.joinA (r := a) (W := AV × AV × AV) (fun j w => ⟨[], [(0, .ptr id_x 0 5), (4, .ptr b4 0 7), (9, w.1), (10, .map m50), (51, v_t), (52, iv ((t.length : Int))), (53, iv (x53))], ownL true w.1 enc_copy_run j.1 :: ownL true w.2.1 encI j.2.1 :: ownL true w.2.2 encI j.2.2.1 :: .cnt m50 KInt (cntI j.2.2.2) [] :: ownL true w16 encI y16 :: .row b4 7 [nilS, w16, iv (f_Pieces), w.2.1, w.2.2, nilS, iv (0)] :: C⟩) h
    ·intro j h;refine zB (zU rfl (zM R4 ?_));obtain ⟨a56, hia56, ea56, h⟩ := el_some h;refine TO.fact (rdl_at h_t M6 hia56 ea56) (fun hp=>?_);obtain ⟨pa56, hpa56, hva56⟩ := hp;refine zV R3 (hva56 ⟨rfl, rfl⟩ rfl rfl) (zV R3 (Val.load_e hpa56 M6 ⟨_, rfl, rfl⟩ rfl rfl) (zA R4 (zA R4 (zN (zS (zU rfl (zM R4 ?_)))))));obtain ⟨c59, hc59⟩ := zY (a56 < 0);refine zV R3 (Val.lss hc59 rfl rfl) (zN ?_);obtain ⟨rfl, hc59, h⟩ | ⟨rfl, hc59, h⟩ := zI hc59 h
     ·refine zC rfl (zU rfl (zF 3 R6 (zL 5 R3 R6 (zM R4 (TO.build1 (en := encI) (a := x53) rfl rfl rfl ⟨rfl, rfl⟩ ⟨_, rfl, rfl⟩ (by decide) (by decide) rfl rfl (fun v63=>?_))))));obtain ⟨hk64, h⟩ := chk_some h;refine TO.eff rfl rfl rfl (Eff.append_own (b := 8) (en := encI) (l := f_Strange) (l2 := [x53]) (p := 2) (q := 0) ⟨rfl, rfl, rfl, ⟨_, rfl, rfl⟩, by decide, by decide⟩ rfl rfl rfl rfl rfl rfl (flat_ones _) (by decide) hk64) ?_;rintro v64 _ rfl;refine zG (_::_::_::_::_::_::_::C) rfl (zF 3 R6 (TO.fact (own_cellS (p := 2) rfl) (fun hot6=>TO.eff0 rfl rfl (Eff.store_row (p := 6) (cv := [_]) (cells' := [_, _, _, _, _, _, _]) rfl rfl rfl rfl rfl hot6.1 rfl rfl (by first | rfl | (simp [GS.one, hot6.2]; done)) (by decide) rfl) ?_)));rintro _ rfl;refine zG (_::_::_::_::_::_::_::C) rfl (zN (zE ?_));cases h;exact ⟨rfl, (v7, v64, v5), (sb (pk [1,1,1,1,1,1,98] rfl))⟩
     refine zD rfl (zK (zS (zU rfl (zM R4 (zM R4 (zV R3 (Val.lookupI (p := 3) rfl rfl key_ty3 rfl rfl rfl) ?_))))));obtain ⟨hk69, h⟩ := chk_some h;refine zV R3 (Val.add rfl rfl hk69) (TO.eff0 rfl rfl (Eff.mapUpdateI (p := 3) rfl rfl key_ty3 rfl rfl rfl) ?_);rintro _ rfl;refine zG (_::_::_::_::_::_::C) rfl (zN (zU rfl (zM R4 (zM R4 (zV R3 (Val.lookupI (p := 3) rfl rfl key_ty3 rfl rfl rfl) ?_)))));obtain ⟨c73, hc73⟩ := zY (((putI m_2 a56 ((m_2 a56) + 1)) a56) > 1);refine zV R3 (Val.gtr hc73 rfl rfl) (zN ?_);obtain ⟨rfl, hc73, h⟩ | ⟨rfl, hc73, h⟩ := zI hc73 h
     ·refine zC rfl (zU rfl (zF 4 R6 (zL 5 R3 R6 (zM R4 (TO.build1 (en := encI) (a := x53) rfl rfl rfl ⟨rfl, rfl⟩ ⟨_, rfl, rfl⟩ (by decide) (by decide) rfl rfl (fun v77=>?_))))));obtain ⟨hk78, h⟩ := chk_some h;refine TO.eff rfl rfl rfl (Eff.append_own (b := 8) (en := encI) (l := f_Twice) (l2 := [x53]) (p := 3) (q := 0) ⟨rfl, rfl, rfl, ⟨_, rfl, rfl⟩, by decide, by decide⟩ rfl rfl rfl rfl rfl rfl (flat_ones _) (by decide) hk78) ?_;rintro v78 _ rfl;refine zG (_::_::_::_::_::_::_::C) rfl (zF 4 R6 (TO.fact (own_cellS (p := 3) rfl) (fun hot5=>TO.eff0 rfl rfl (Eff.store_row (p := 6) (cv := [_]) (cells' := [_, _, _, _, _, _, _]) rfl rfl rfl rfl rfl hot5.1 rfl rfl (by first | rfl | (simp [GS.one, hot5.2]; done)) (by decide) rfl) ?_)));rintro _ rfl;refine zG (_::_::_::_::_::_::_::C) rfl (zN (zE ?_));cases h;exact ⟨rfl, (v7, v6, v78), (sb (pk [1,1,1,1,1,1,98] rfl))⟩
     refine zD rfl (zK ?_)
     show T _ _ _ _ _ _;apply T.join (r := j) (W := Unit) (fun j w => ⟨[], [(0, .ptr id_x 0 5), (4, .ptr b4 0 7), (9, v7), (10, .map m50), (11, iv (x53)), (12, iv (a56)), (51, v_t), (52, iv ((t.length : Int))), (53, iv (x53))], ownL true v7 enc_copy_run l :: ownL true v6 encI f_Strange :: ownL true v5 encI f_Twice :: .cnt m50 KInt (cntI (putI m_2 a56 ((m_2 a56) + 1))) [] :: ownL true w16 encI y16 :: .row b4 7 [nilS, w16, iv (f_Pieces), v6, v5, nilS, iv (0)] :: C⟩) h
     ·intro j h;refine zU rfl (zM R4 (zV R3 (Val.len_own (p := 0) rfl rfl rfl) ?_));obtain ⟨hk82, h⟩ := chk_some h;refine zV R3 (Val.sub rfl rfl hk82) (zA R4 (zN ?_))
      show T _ _ _ _ _ _;apply T.joinA (r := j) (W := Unit) (fun j w => ⟨[], [(0, .ptr id_x 0 5), (4, .ptr b4 0 7), (9, v7), (10, .map m50), (11, iv (x53)), (12, iv (a56)), (13, iv (((l.length : Int) - 1))), (51, v_t), (52, iv ((t.length : Int))), (53, iv (x53)), (116, bv j)], ownL true v7 enc_copy_run l :: ownL true v6 encI f_Strange :: ownL true v5 encI f_Twice :: .cnt m50 KInt (cntI (putI m_2 a56 ((m_2 a56) + 1))) [] :: ownL true w16 encI y16 :: .row b4 7 [nilS, w16, iv (f_Pieces), v6, v5, nilS, iv (0)] :: C⟩) h
      ·intro j h;refine T.draw (fun v => sameC_refl v) (l1 := [0, 1, 2, 3, 4, 5, 6, 7, 8, 9, 10, 11, 12, 13, 14, 15, 16, 17, 18, 19, 20, 21, 22, 23, 24, 25, 26, 27, 28, 29, 30, 31, 32, 33]) (l2 := []) (by kernel_rfl) (by kernel_rfl) (zM R4 ?_);obtain ⟨c84, hc84⟩ := zY (((l.length : Int) - 1) ≥ 0);refine zV R3 (Val.geq hc84 rfl rfl) (zM R4 ?_);obtain ⟨rfl, hc84, h⟩ | ⟨rfl, hc84, h⟩ := zI hc84 h
       ·refine zM R4 (zM R4 ?_);obtain ⟨a88, hia88, ea88, h⟩ := el_some h;refine TO.fact (own_at (en := enc_copy_run) (p := 0) rfl hia88) (fun hp=>?_);obtain ⟨ida88, ata88⟩ := hp;refine zV R3 (Val.iaddr_at (en := enc_copy_run) ata88 ⟨rfl, rfl⟩ rfl rfl hia88) (zV R3 (Val.faddr_ptr_ rfl rfl) (zV R3 (Val.load_ownL (en := enc_copy_run) (p := 0) (j := 2) rfl ata88 ⟨_, rfl, rfl⟩ rfl ea88 rfl) (zM R4 ?_)));obtain ⟨c92, hc92⟩ := zY (a88.last < a56);refine zV R3 (Val.lss hc92 rfl rfl) (zP R6 (zM R4 ?_));obtain ⟨rfl, hc92, h⟩ | ⟨rfl, hc92, h⟩ := zI hc92 h
        ·refine zM R4 (zV R3 (Val.nil_ptr rfl) (zF 3 R6 (zV R3 (Val.load_rowM h_x M6 ⟨_, rfl, rfl⟩ rfl rfl rfl) (zM R4 (zM R4 ?_)))));obtain ⟨a101, hia101, ea101, h⟩ := el_some h;refine TO.fact (own_at (en := enc_copy_run) (p := 0) rfl hia101) (fun hp=>?_);obtain ⟨ida101, ata101⟩ := hp;refine zV R3 (Val.iaddr_at (en := enc_copy_run) ata101 ⟨rfl, rfl⟩ rfl rfl hia101) (zV R3 (Val.faddr_ptr_ rfl rfl) (zV R3 (Val.load_ownL (en := enc_copy_run) (p := 0) (j := 2) rfl ata101 ⟨_, rfl, rfl⟩ rfl ea101 rfl) ?_));obtain ⟨a104, hia104, ea104, h⟩ := el_some h;refine TO.fact (rdl_at h_x_leaves M6 hia104 ea104) (fun hp=>?_);obtain ⟨pa104, hpa104, hva104⟩ := hp;refine zV R3 (hva104 ⟨rfl, rfl⟩ rfl rfl) (zV R3 (Val.faddr_e (fo := 0) hpa104 rfl rfl rfl) (zV R3 (Val.load_e (PtE.add hpa104 (by decide)) M6 ⟨_, rfl, rfl⟩ rfl rfl) (zM R4 (zV R3 (Val.nil_ptr rfl) (zF 3 R6 (zV R3 (Val.load_rowM h_x M6 ⟨_, rfl, rfl⟩ rfl rfl rfl) (zM R4 ?_)))))));obtain ⟨a112, hia112, ea112, h⟩ := el_some h;refine TO.fact (rdl_at h_x_leaves M6 hia112 ea112) (fun hp=>?_);obtain ⟨pa112, hpa112, hva112⟩ := hp;refine zV R3 (hva112 ⟨rfl, rfl⟩ rfl rfl) (zV R3 (Val.faddr_e (fo := 0) hpa112 rfl rfl rfl) (zV R3 (Val.load_e (PtE.add hpa112 (by decide)) M6 ⟨_, rfl, rfl⟩ rfl rfl) ?_));obtain ⟨c115, hc115⟩ := zY (a104.g = a112.g);refine zV R3 (Val.eql hc115 rfl rfl) (zP R6 (zN ?_));subst hc115;cases h;exact ⟨rfl, (), (sb .refl)⟩
        refine zO R3 (zO R3 (zO R3 (zO R3 (zO R3 (zO R3 (zO R3 (zO R3 (zO R3 (zO R3 (zO R3 (zO R3 (zO R3 (zO R3 (zO R3 (zO R3 (zO R3 (zO R3 (zO R3 (zO R3 (zO R3 (zP R6 (zN ?_))))))))))))))))))))));cases h;exact ⟨rfl, (), (sb .refl)⟩
       refine zO R3 (zO R3 (zO R3 (zO R3 (zO R3 (zO R3 (zO R3 (zP R6 (zM R4 (zO R3 (zO R3 (zO R3 (zO R3 (zO R3 (zO R3 (zO R3 (zO R3 (zO R3 (zO R3 (zO R3 (zO R3 (zO R3 (zO R3 (zO R3 (zO R3 (zO R3 (zO R3 (zO R3 (zO R3 (zO R3 (zP R6 (zN ?_)))))))))))))))))))))))))))))));cases h;exact ⟨rfl, (), (sb .refl)⟩
      ·rintro x116 _ h;obtain ⟨rfl, h⟩ | ⟨rfl, h⟩ := zZ h
       ·refine zC rfl (zU rfl (zM R4 (zM R4 (zM R4 ?_))));obtain ⟨a120, hia120, ea120, h⟩ := el_some h;refine TO.fact (own_at (en := enc_copy_run) (p := 0) rfl hia120) (fun hp=>?_);obtain ⟨ida120, ata120⟩ := hp;refine zV R3 (Val.iaddr_at (en := enc_copy_run) ata120 ⟨rfl, rfl⟩ rfl rfl hia120) (zV R3 (Val.faddr_ptr_ rfl rfl) (TO.eff0 rfl rfl (Eff.store_ownE (en := enc_copy_run) (p := 0) (a := a120) (a' := (⟨a120.item, a120.first, a56⟩ : S_copy_run)) (j := 2) (cv := [_]) rfl ata120 ea120 rfl rfl (by decide) rfl rfl rfl rfl aG rfl) ?_));rintro _ rfl;refine zG (_::_::_::_::_::_::C) rfl (zN (zE ?_));cases h;exact ⟨ex_ne, ⟨rfl, (v7, v6, v5), (sb .refl)⟩⟩
       refine zD rfl (zK ?_);cases h;exact ⟨rfl, (), (sb .refl)⟩
     ·rintro _ _ h;refine zT rfl (zM R4 (zM R4 (zM R4 (zM R4 (zV R3 (Val.buildC (cs := [_, _, _]) (vs := [(_, _), (_, _), (_, _)]) (ws := [(_, [_]), (_, [_]), (_, [_])]) rfl rfl (CellsL.cons rfl (CellsL.cons rfl (CellsL.cons rfl CellsL.nil))) rfl) (TO.build1 (en := enc_copy_run) (a := (⟨x53, a56, a56⟩ : S_copy_run)) rfl rfl rfl ⟨rfl, rfl⟩ ⟨_, rfl, rfl⟩ (by decide) (by decide) rfl rfl (fun v127=>?_)))))));obtain ⟨hk128, h⟩ := chk_some h;refine TO.eff rfl rfl rfl (Eff.append_own (b := 24) (en := enc_copy_run) (l := l) (l2 := [(⟨x53, a56, a56⟩ : S_copy_run)]) (p := 1) (q := 0) ⟨rfl, rfl, rfl, ⟨_, rfl, rfl⟩, by decide, by decide⟩ rfl rfl rfl rfl rfl rfl (en_ones enc_copy_run_ones _) (by decide) hk128) ?_;rintro v128 _ rfl;refine zG (_::_::_::_::_::_::_::C) rfl (zA R4 (zN ?_));cases h;exact ⟨rfl, (v128, v6, v5), (sb (pk [1,1,1,1,1,1,98] rfl))⟩
    ·rintro ⟨l_2, f_Strange_2, f_Twice_2, m_3⟩ ⟨v7_2, v6_2, v5_2⟩ h;dsimp only at h;dsimp only;refine zT rfl ?_;obtain ⟨hk129, h⟩ := chk_some h;refine zV R3 (Val.add rfl rfl hk129) (zM R4 (zN ?_));cases h;exact ⟨rfl, (v7_2, v6_2, v5_2), (sb .refl)⟩
   refine zD rfl (zE ?_);cases h;exact ⟨ex_ne, ⟨rfl, (v7, v6, v5), (sb .refl)⟩⟩
  ·rintro ⟨m_2, l, f_Strange, f_Twice⟩ ⟨v7, v6, v5⟩ h;dsimp only at h;dsimp only;refine zU rfl (zM R4 ?_);obtain ⟨y131, hr131, h⟩ := andx_some h;refine TO.callT (first := []) (cap := []) (vs := [v7]) rfl rfl rfl rfl rfl rfl (orcN rfl) (tf_c_moved aD (Rdl.mono (Rdl.own (C := ownL true v7 enc_copy_run l :: ownL true v6 encI f_Strange :: ownL true v5 encI f_Twice :: .cnt m50 KInt (cntI m_2) [] :: ownL true w16 encI y16 :: .row b4 7 [nilS, w16, iv (f_Pieces), v6, v5, nilS, iv (0)] :: C) (p := 0) rfl) mem0) hr131) ?_;rintro w131;refine zG (_::_::_::_::_::_::_::C) rfl (zF 5 R6 (TO.fact (own_cellS (p := 0) rfl) (fun hot11=>TO.eff0 rfl rfl (Eff.store_row (p := 6) (cv := [_]) (cells' := [_, _, _, _, _, _, _]) rfl rfl rfl rfl rfl hot11.1 rfl rfl (by first | rfl | (simp [GS.one, hot11.2]; done)) (by decide) rfl) ?_)));rintro _ rfl;refine zG (_::_::_::_::_::_::_::C) rfl (zN (zU rfl (zF 2 R6 (zL 6 R3 R6 (zF 3 R6 (zL 6 R3 R6 (zV R3 (Val.len_own (p := 2) rfl rfl rfl) ?_)))))));obtain ⟨hk138, h⟩ := chk_some h;refine zV R3 (Val.add rfl rfl hk138) (zF 4 R6 (zL 6 R3 R6 (zV R3 (Val.len_own (p := 3) rfl rfl rfl) ?_)));obtain ⟨hk142, h⟩ := chk_some h;refine zV R3 (Val.add rfl rfl hk142) (zF 5 R6 (zL 6 R3 R6 (zV R3 (Val.len_own (p := 0) rfl rfl rfl) ?_)));obtain ⟨hk146, h⟩ := chk_some h;refine zV R3 (Val.add rfl rfl hk146) (zF 6 R6 (TO.eff0 rfl rfl (Eff.store_row (p := 6) (cv := [_]) (cells' := [_, _, _, _, _, _, _]) rfl rfl rfl rfl rfl rfl rfl rfl aG (by decide) rfl) ?_));rintro _ rfl;refine zG (_::_::_::_::_::_::_::C) rfl (zN (zU rfl (zV R3 (vW 6 [_,_,_,_,_,_,_] R5 R4) (TO.fact (own_cellS (p := 5) rfl) (fun hot2=>TO.fact (own_cellS (p := 2) rfl) (fun hot6=>TO.fact (own_cellS (p := 3) rfl) (fun hot5=>TO.fact (own_cellS (p := 0) rfl) (fun hot11=>TO.eff0 rfl rfl (Eff.store_row (p := 6) (cv := [_, _, _, _, _, _, _]) (cells' := [_, _, _, _, _, _, _]) rfl rfl rfl rfl rfl rfl rfl rfl (by first | rfl | (simp [GS.one, hot2.2, hot6.2, hot5.2, hot11.2]; done) | (simp [GS.one, hot2.2, hot6.2, hot5.2, hot11.2]; (repeat' apply And.intro) <;> rfl)) (by decide) rfl) ?_))))))));rintro _ rfl;refine zG (_::_::_::_::_::_::_::C) rfl (zN (T.nilown (u := encI.u) (zR ?_)));cases h;exact ⟨rfl, _, rfl, [_], ⟨⟨_, rfl, LoadR.rows (p := 7) (c := [_, _, _, _, _, _, _]) rfl ⟨⟨_, rfl, rfl⟩, rfl, by decide⟩ rfl rfl rfl⟩, trivial⟩, ⟨(nilS, w16, v6, v5, w131), rfl, (pk [0,5,2,2,0,98,98,98] rfl)⟩⟩
end Go.Am.Ythckcbfijdambaa
end
section
namespace Go.Am
set_option linter.unusedVariables false
noncomputable def P_c_wide_L1 (x_CpCase_Book_Signed : Int) (x_CpCase_Book_Gatherings : List Gat) (x_CpCase_Items : List Item) (x_leaves : List Leaf) (x_mates : List Int) : (Int × Int) → (List Int) → Option (Stp (Int × Int) (Int × Int)) := fun (s_Lo, s_Hi) t =>
 andx (P_c_faults x_CpCase_Book_Signed x_CpCase_Book_Gatherings x_CpCase_Items x_leaves x_mates t) fun (y24, y24_2, y24_3, y24_4, y24_5, y24_6, y24_7) =>
  some (Stp.ag ((min s_Lo y24_7), (max s_Hi y24_7)))
noncomputable def P_c_wide (x_CpCase_Book_Signed : Int) (x_CpCase_Book_Gatherings : List Gat) (x_CpCase_Items : List Item) (x_leaves : List Leaf) (x_mates : List Int) : Option (Int × Int) :=
  chk (I64 (2 * (x_CpCase_Items.length : Int))) (
    chk (I64 ((x_leaves.length : Int) + (2 * (x_CpCase_Items.length : Int)))) (
      andx (
        chk (x_CpCase_Items.length ≤ 120 ∧ ∀ x ∈ x_CpCase_Items, x.could.l.length ≤ 4) (
          seqx (foldx (P_c_wide_L1 x_CpCase_Book_Signed x_CpCase_Book_Gatherings x_CpCase_Items x_leaves x_mates) (truthsOf x_CpCase_Items) (((x_leaves.length : Int) + (2 * (x_CpCase_Items.length : Int))), 0)) fun (s_Lo, s_Hi) =>
            some (s_Lo, s_Hi))) fun (s_Lo, s_Hi) =>
        some (s_Lo, s_Hi)))
noncomputable def P_c_open_L2 (x44 : Int) (a47 : Item) : Int → Option (Stp Int (Ex Unit (Stp Int (Ex Unit (Sum (Int × Int × Int) (Int × (GS encL) × (List Int) × Int × Int × Int)))))) := fun x66 =>
  if x66 < (a47.could.l.length : Int) then
    seqx (
      el a47.could.l x66 fun a69 =>
      andx (
        if x66 > 0 then
          chk (I64 (x66 - 1)) (
            el a47.could.l (x66 - 1) fun a79 =>
            some (decide (a69 ≤ a79)))
        else
          some false) fun x82 =>
        if x82 = true then
          some (Ex.rt (Stp.dn (Ex.rt (Stp.dn (Ex.rt (Sum.inl (2, x44, 2)))))))
        else
          some (Ex.nx ())) fun _ =>
      chk (I64 (x66 + 1)) (
        some (Stp.ag (x66 + 1)))
  else
    some (Stp.dn (Ex.nx ()))
noncomputable def P_c_open_L1 (c_Items : List Item) (leaves31 : List Leaf) : Int → Option (Stp Int (Ex Unit (Sum (Int × Int × Int) (Int × (GS encL) × (List Int) × Int × Int × Int)))) := fun x44 =>
  if x44 < (c_Items.length : Int) then
    seqx (
      el c_Items x44 fun a47 =>
      if (a47.could.l.length : Int) > 4 then
        some (Ex.rt (Stp.dn (Ex.rt (Sum.inl (2, x44, 3)))))
      else
        chk (I64 ((leaves31.length : Int) - 1)) (
          andx (P_c_outside 0 ((leaves31.length : Int) - 1) a47.could.l) fun out61 =>
            if out61 = true then
              some (Ex.rt (Stp.dn (Ex.rt (Sum.inl (2, x44, 4)))))
            else
              iter (P_c_open_L2 x44 a47) 0)) fun _ =>
      chk (I64 (x44 + 1)) (
        some (Stp.ag (x44 + 1)))
  else
    some (Stp.dn (Ex.nx ()))
noncomputable def P_c_open_L3 (c_Items : List Item) : (Int × Int) → Option (Stp (Int × Int) (Ex Unit (Sum (Int × Int × Int) (Int × (GS encL) × (List Int) × Int × Int × Int)))) := fun (doubts, x89) =>
  if x89 < (c_Items.length : Int) then
    seqx (
      el c_Items x89 fun a92 =>
      andx (
        if (a92.could.l.length : Int) > 1 then
          chk (I64 (doubts + 1)) (
            some (doubts + 1))
        else
          some doubts) fun doubts_2 =>
        if doubts_2 > 3 then
          some (Ex.rt (Stp.dn (Ex.rt (Sum.inl (3, x89, 3)))))
        else
          some (Ex.nx doubts_2)) fun doubts_2 =>
      chk (I64 (x89 + 1)) (
        some (Stp.ag (doubts_2, (x89 + 1))))
  else
    some (Stp.dn (Ex.nx ()))
noncomputable def P_c_open_L4 (c_Book_Signed : Int) (c_Book_Gatherings : List Gat) (leaves31 : List Leaf) : (Int × (List Int)) → Option (Stp (Int × (List Int)) (List Int)) := fun (x110, b107_mates) =>
  if x110 < (leaves31.length : Int) then
    andx (
      andx (P_q_Mate c_Book_Signed c_Book_Gatherings x110) fun (mate117, e117) =>
        andx (
          if ¬ e117 = 0 then
            some (-1)
          else
            some mate117) fun m =>
          chk (b107_mates.length + [m].length < 1000000000) (
            some (b107_mates ++ [m]))) fun b107_mates_2 =>
      chk (I64 (x110 + 1)) (
        some (Stp.ag ((x110 + 1), b107_mates_2)))
  else
    some (Stp.dn b107_mates)
noncomputable def P_c_open (c_Book_Signed : Int) (c_Book_Gatherings : List Gat) (c_Items : List Item) : Option (Sum (Int × Int × Int) (Int × (GS encL) × (List Int) × Int × Int × Int)) :=
  andx (P_q_Check c_Book_Signed c_Book_Gatherings) fun (part21, at_21, e21) =>
    if ¬ e21 = 0 then
      some (Sum.inl (1, 0, e21))
    else
      andx (P_q_Leaves c_Book_Signed c_Book_Gatherings) fun (leaves31, e31) =>
        if (leaves31.length : Int) > 120 then
          some (Sum.inl (1, 0, 3))
        else
          if (c_Items.length : Int) > 120 then
            some (Sum.inl (2, 0, 3))
          else
            seqx (
              iter (P_c_open_L1 c_Items leaves31) 0) fun _ =>
              seqx (
                iter (P_c_open_L3 c_Items) (0, 0)) fun _ =>
                andx (
                  iter (P_c_open_L4 c_Book_Signed c_Book_Gatherings leaves31) (0, [])) fun b107_mates =>
                  some (Sum.inr (c_Book_Signed, (GSo true encL leaves31), b107_mates, 0, 0, 0))
noncomputable def P_c_Range (c_Book_Signed : Int) (c_Book_Gatherings : List Gat) (c_Items : List Item) : Option (Int × Int × Int) :=
  andx (P_c_open c_Book_Signed c_Book_Gatherings c_Items) fun y =>
    match y with
    | .inl (y10_2, y10_3, y10_4) =>
      chk (¬ y10_4 = 0) (
        some (0, 0, y10_4))
    | .inr (y10_2, y10_3, y10_4, y10_5, y10_6, y10_7) =>
      chk (y10_7 = 0) (
        andx (P_c_wide y10_2 c_Book_Gatherings c_Items y10_3.l y10_4) fun (y20, y20_2) =>
          some (y20, y20_2, 0))
end Go.Am
end
section
namespace Go.Am.Ythckcbfijdambaa
open Go.Am Go.RowKit
set_option linter.unusedVariables false
set_option linter.unusedSimpArgs false
set_option maxRecDepth 10000 in
theorem tf_c_wide {k : Nat} (hk : 0 ≤ k) {C : List Thing} {id_x : Nat} {x_CpCase_Book_Signed : Int} {v_x_CpCase_Book_Gatherings : AV} {x_CpCase_Book_Gatherings : List Gat} {v_x_CpCase_Items : AV} {x_CpCase_Items : List Item} {v_x_leaves : AV} {x_leaves : List Leaf} {v_x_mates : AV} {x_mates : List Int} (h_x_CpCase_Book_Gatherings : Rdl C encG v_x_CpCase_Book_Gatherings x_CpCase_Book_Gatherings) (h_x_CpCase_Items : Rdl C encIt v_x_CpCase_Items x_CpCase_Items) (h_x_leaves : Rdl C encL v_x_leaves x_leaves) (h_x_mates : Rdl C encI v_x_mates x_mates) (h_x : Thing.row id_x 5 [iv (x_CpCase_Book_Signed), v_x_CpCase_Book_Gatherings, v_x_CpCase_Items, v_x_leaves, v_x_mates] ∈ C) {r : Int × Int} (h : P_c_wide x_CpCase_Book_Signed x_CpCase_Book_Gatherings x_CpCase_Items x_leaves x_mates = some r) :
  TF (EL k) 47 [.ptr id_x 0 5] C (RepF (fun (w : Unit) => .agg [iv r.1, iv r.2]) (fun (w : Unit) => C)) := by
 unfold P_c_wide at h;refine TF.enterG (fn := Go.Proofs.Try.f47) rfl rfl rfl rfl rfl (zU rfl (zQ 1 [_] R7 (fun b1=>zJ 2 [_,_] R7 (fun b2=>zN (zS (T.drawE (l1 := [0, 1, 2, 3, 4, 5, 6, 7, 8, 9, 10, 11, 12, 13]) (l2 := [14]) (by kernel_rfl) (by kernel_rfl) (yR R4 (vR (p := 1) R6) (yL R4 (Val.nil_ptr rfl) (yL R4 (Val.faddr_ptr (fo := 3) rfl rfl rfl) (yR R4 (Val.load_rowM h_x M2 ⟨_, rfl, rfl⟩ rfl rfl rfl) (yR R4 (Val.len_l h_x_leaves M2 rfl rfl) (yR R4 (vR (p := 1) R6) (yL R4 (Val.nil_ptr rfl) (yL R4 (Val.faddr_ptr (fo := 0) rfl rfl rfl) (yL R4 (Val.faddr_ptr (fo := 2) rfl rfl rfl) (yR R4 (Val.load_rowM h_x M2 ⟨_, rfl, rfl⟩ rfl rfl rfl) (yR R4 (Val.len_l h_x_CpCase_Items M2 rfl rfl) ?_)))))))))))))))));obtain ⟨hk16, h⟩ := chk_some h;refine yL R4 (Val.mul rfl rfl hk16) ?_;obtain ⟨hk17, h⟩ := chk_some h;refine yL R4 (Val.add rfl rfl hk17) (yL R4 (Val.faddr_ptr (fo := 0) rfl rfl rfl) (TD1.over (fun v => sameC_refl v) (all_cons (⟨_, rfl, (Val.len_l h_x_CpCase_Items M2 rfl rfl)⟩) (all_cons (⟨_, rfl, (Val.load_rowM h_x M2 ⟨_, rfl, rfl⟩ rfl rfl rfl)⟩) (all_cons (⟨_, rfl, (vR (p := 1) R6)⟩) (all_cons (⟨_, rfl, (Val.len_l h_x_leaves M2 rfl rfl)⟩) (all_cons (⟨_, rfl, (Val.load_rowM h_x M2 ⟨_, rfl, rfl⟩ rfl rfl rfl)⟩) (all_cons (⟨_, rfl, (vR (p := 1) R6)⟩) all_nil)))))) (TD2.heavy (fun v => sameC_refl v) rfl (by decide) rfl rfl (OpS.eff (Eff.store_row (p := 0) (cv := [_]) (cells' := [_, _]) rfl rfl rfl rfl rfl rfl rfl rfl aG (by decide) rfl)) ?_)));rintro _ _ rfl;refine ⟨(all_cons (.inl (by kernel_rfl)) (all_cons (.inl (by kernel_rfl)) (all_cons (.inl (by kernel_rfl)) (all_cons (.inl (by kernel_rfl)) (all_cons (.inl (by kernel_rfl)) (all_cons (.inl (by kernel_rfl)) all_nil)))))), all_nil, ?_⟩;refine yG (_::_::C) rfl (TD2.nil ?_)
 show T _ _ _ _ _ _;apply T.joinA (r := r) (W := Nat) (fun j w => ⟨[w], [(2, .ptr b2 0 2)], .obj w (.dfr true) :: .row b2 2 [iv (j.1), iv (j.2)] :: .row b1 1 [.ptr id_x 0 5] :: C⟩) h
 ·intro j h;refine zU rfl (zL 1 R3 R6 (TO.callIn rfl rfl rfl rfl rfl rfl (orcN rfl) (TF.enter (fn := Go.Proofs.Try.f39) rfl rfl rfl rfl rfl (zU rfl (zQ 1 [_] R7 (fun b1_2=>zA R4 (zN (zU rfl (zV R3 (Val.makeFunc rfl rfl) (zA R4 (zN (zR ?_))))))))))));refine ⟨rfl, _, rfl, ?_⟩;refine zN (zB ?_);obtain ⟨hkR1, h⟩ := chk_some h
  show T _ _ _ _ _ _;apply T.rangeP (r := j) (W := Unit) (w0 := ()) ArgT (fun (j : Int × Int) (w : Unit) => [.row b2 2 [iv (j.1), iv (j.2)]]) (.row b1_2 1 [.ptr id_x 0 5] :: .row b1 1 [.ptr id_x 0 5] :: C) h
  ·rfl
  ·rfl
  ·rfl
  ·exact (pk [1] rfl)
  ·exact tr_yields (List.mem_of_getElem? (i := 0) rfl) (M2 _ h_x) (Rdl.mono h_x_CpCase_Items M2) hkR1
  ·rintro l1 d ⟨s_Lo, s_Hi⟩ _ t vs G F1 ans hmem harg hD hG h;unfold P_c_wide_L1 at h;dsimp only at h;obtain ⟨v_t, rfl, rfl⟩ := harg
   have h_t : Rdl F1 encI v_t t := .inr ⟨false, hG _ (by simp)⟩
   have hCF : ∀ x ∈ C, x ∈ F1 := fun x hx => hD x (memS M1 x hx)
   replace h_x_CpCase_Book_Gatherings := Rdl.mono h_x_CpCase_Book_Gatherings hCF;replace h_x_CpCase_Items := Rdl.mono h_x_CpCase_Items hCF;replace h_x_leaves := Rdl.mono h_x_leaves hCF;replace h_x_mates := Rdl.mono h_x_mates hCF;replace h_x := hCF _ h_x
   have hu1_t3 : Thing.row b1_2 1 [.ptr id_x 0 5] ∈ F1 := (hD _ (List.mem_of_getElem? (i := 0) rfl))
   have hu1_t1 : Thing.row b1 1 [.ptr id_x 0 5] ∈ F1 := (hD _ (List.mem_of_getElem? (i := 1) rfl));refine ⟨_, rfl, fun LR1 LB1 hLB1 => ?_⟩;refine T.things (hs' := LR1 :: .row b2 2 [iv (s_Lo), iv (s_Hi)] :: F1) rfl (zT rfl (zA R4 (zN ?_)));refine ⟨rfl, 0, rfl, ?_⟩;refine T.things (hs' := LB1 :: .row b2 2 [iv (s_Lo), iv (s_Hi)] :: F1) rfl (zB (zU rfl (zV R3 (Val.load_rowM hu1_t1 M2 ⟨_, rfl, rfl⟩ rfl rfl rfl) (zM R4 ?_))));obtain ⟨⟨y24, y24_2, y24_3, y24_4, y24_5, y24_6, y24_7⟩, hr24, h⟩ := andx_some h;dsimp only at h;refine TO.callT (first := []) (cap := []) (vs := [.ptr id_x 0 5, v_t]) rfl rfl rfl rfl rfl rfl (orcN rfl) (tf_c_faults aD (Rdl.mono h_x_CpCase_Book_Gatherings M2) (Rdl.mono h_x_CpCase_Items M2) (Rdl.mono h_x_leaves M2) (Rdl.mono h_x_mates M2) (M2 _ h_x) (Rdl.mono h_t M2) hr24) ?_;rintro ⟨w24, w24_2, w24_3, w24_4, w24_5⟩;refine zG (_::_::_::_::_::_::_::F1) rfl (zV R3 (Val.field (k := 0) rfl rfl rfl rfl rfl) (zA R4 (zN (zT rfl (zF 0 R6 (zL 6 R3 R6 (zM R4 (zV R3 (Val.bmin rfl rfl) (zF 1 R6 (zL 6 R3 R6 (zM R4 (zV R3 (Val.bmax rfl rfl) (zV R3 (Val.buildC (cs := [_, _]) (vs := [(_, _), (_, _)]) (ws := [(_, [_]), (_, [_])]) rfl rfl (CellsL.cons rfl (CellsL.cons rfl CellsL.nil)) rfl) (TO.eff0 rfl rfl (Eff.store_row (p := 6) (cv := [_, _]) (cells' := [_, _]) rfl rfl rfl rfl rfl rfl rfl rfl aG (by decide) rfl) ?_))))))))))))));rintro _ rfl;refine zG (_::_::_::_::_::_::_::F1) rfl (zN ?_);cases h;exact ⟨rfl, (), (pk [5,5,98,98,98,98,98] rfl)⟩
  ·rintro d ⟨s_Lo, s_Hi⟩ _ h;dsimp only at h;cases h;exact ⟨rfl, d, (sb (pk [0,0,1,98] rfl))⟩
 ·rintro ⟨s_Lo, s_Hi⟩ iddfr1 h;dsimp only at h;dsimp only;refine zU rfl (zV R3 (vW 1 [_,_] R5 R4) (TO.eff0 rfl rfl (Eff.store_row (p := 1) (cv := [_, _]) (cells' := [_, _]) rfl rfl rfl rfl rfl rfl rfl rfl aG (by decide) rfl) ?_));rintro _ rfl;refine zG (_::_::_::C) rfl (zN (zR ?_));cases h;exact ⟨rfl, _, ⟨0, rfl, rfl⟩, [_], ⟨⟨_, rfl, LoadR.rows (p := 0) (c := [_, _]) rfl ⟨⟨_, rfl, rfl⟩, rfl, by decide⟩ rfl rfl rfl⟩, trivial⟩, ⟨(), rfl, (pk [98,98] rfl)⟩⟩
set_option maxRecDepth 10000 in
theorem tf_c_open {k : Nat} (hk : 5 ≤ k) {C : List Thing} {c_Book_Signed : Int} {v_c_Book_Gatherings : AV} {c_Book_Gatherings : List Gat} {v_c_Items : AV} {c_Items : List Item} (h_c_Book_Gatherings : Rdl C encG v_c_Book_Gatherings c_Book_Gatherings) (h_c_Items : Rdl C encIt v_c_Items c_Items) {r : Sum (Int × Int × Int) (Int × (GS encL) × (List Int) × Int × Int × Int)} (h : P_c_open c_Book_Signed c_Book_Gatherings c_Items = some r) :
  TF (EL k) 36 [.agg [iv (c_Book_Signed), v_c_Book_Gatherings, v_c_Items]] C (RepS (fun (r : Int × Int × Int) => RepF (fun (w : Unit) => .tuple [.lit (.pointer none), iv r.1, iv r.2.1, iv r.2.2]) (fun (w : Unit) => C)) (fun (r : Int × (GS encL) × (List Int) × Int × Int × Int) => RepF (fun (w : Nat × AV) => .tuple [.ptr w.1 0 5, iv r.2.2.2.1, iv r.2.2.2.2.1, iv r.2.2.2.2.2]) (fun (w : Nat × AV) => .row w.1 5 [iv r.1, v_c_Book_Gatherings, v_c_Items, r.2.1.v, w.2] :: ownL true w.2 encI r.2.2.1 :: C)) r) := by
 unfold P_c_open at h;refine TF.enter (fn := Go.Proofs.Try.f36) rfl rfl rfl rfl rfl (zU rfl (zQ 3 [_,_,_] R7 (fun b1=>zA R4 (zA R4 (zA R4 (zA R4 (zN (zS (zU rfl (zF 0 R6 (zV R3 (vW 0 [_,_] R5 R4) ?_)))))))))));obtain ⟨⟨part21, at_21, e21⟩, hr21, h⟩ := andx_some h;dsimp only at h;obtain ⟨g, hgg, hrg⟩ := Rdl.reif (hs := .row b1 3 [iv (c_Book_Signed), v_c_Book_Gatherings, v_c_Items] :: C) h_c_Book_Gatherings M1 (ReifL.flat encG_tr);refine TO.call rfl rfl rfl rfl rfl (orcL rfl aD) (.cons (.agg (.cons .lit (.cons (hrg _) .nil))) .nil) (sem_of (w_q_Check c_Book_Signed g _ (by try rw [hgg]; exact hr21))) (zM R4 (zX R5 (zX R5 (zX R5 (zA R4 (zN (zU rfl (zM R4 ?_))))))));obtain ⟨c26, hc26⟩ := zY (¬ e21 = 0);refine zV R3 (Val.neq hc26 rfl rfl) (zN ?_);obtain ⟨rfl, hc26, h⟩ | ⟨rfl, hc26, h⟩ := zI hc26 h
 ·refine zC rfl (zU rfl (zM R4 (zA R4 (zA R4 (zA R4 (zA R4 (zN (zR ?_))))))));cases h;exact ⟨rfl, _, rfl, ⟨(), rfl, (pk [98] rfl)⟩⟩
 refine zD rfl (zK (zU rfl (zF 0 R6 (zV R3 (vW 0 [_,_] R5 R4) ?_))));obtain ⟨⟨leaves31, e31⟩, hr31, h⟩ := andx_some h;dsimp only at h;obtain ⟨g_2, hgg_2, hrg_2⟩ := Rdl.reif (hs := .row b1 3 [iv (c_Book_Signed), v_c_Book_Gatherings, v_c_Items] :: C) h_c_Book_Gatherings M1 (ReifL.flat encG_tr);refine TO.call rfl rfl rfl rfl rfl (orcL rfl aD) (.cons (.agg (.cons .lit (.cons (hrg_2 _) .nil))) .nil) (sem_of (w_q_Leaves c_Book_Signed g_2 _ (by try rw [hgg_2]; exact hr31))) (zM R4 (zX R5 (zX R5 (zA R4 (zA R4 (zN (zS (zU rfl (zM R4 (zV R3 (Val.len_gs rfl rfl) ?_))))))))));obtain ⟨c36, hc36⟩ := zY ((leaves31.length : Int) > 120);refine zV R3 (Val.gtr hc36 rfl rfl) (zN ?_);obtain ⟨rfl, hc36, h⟩ | ⟨rfl, hc36, h⟩ := zI hc36 h
 ·refine zC rfl (zU rfl (zA R4 (zA R4 (zA R4 (zA R4 (zN (zR ?_)))))));cases h;exact ⟨rfl, _, rfl, ⟨(), rfl, (pk [98] rfl)⟩⟩
 refine zD rfl (zK (zS (zU rfl (zF 2 R6 (zL 0 R3 R6 (zV R3 (Val.len_l h_c_Items M1 rfl rfl) ?_))))));obtain ⟨c40, hc40⟩ := zY ((c_Items.length : Int) > 120);refine zV R3 (Val.gtr hc40 rfl rfl) (zN ?_);obtain ⟨rfl, hc40, h⟩ | ⟨rfl, hc40, h⟩ := zI hc40 h
 ·refine zC rfl (zU rfl (zA R4 (zA R4 (zA R4 (zA R4 (zN (zR ?_)))))));cases h;exact ⟨rfl, _, rfl, ⟨(), rfl, (pk [98] rfl)⟩⟩
 refine zD rfl (zK ?_)
 show T _ _ _ _ _ _;apply T.join (r := r) (W := Unit) (fun j w => ⟨[], [(1, .ptr b1 0 3), (6, (GSo true encL leaves31).v)], .row b1 3 [iv (c_Book_Signed), v_c_Book_Gatherings, v_c_Items] :: C⟩) h
 ·intro j h;refine zU rfl (zF 2 R6 (zL 0 R3 R6 (zV R3 (Val.len_l h_c_Items M1 rfl rfl) (zM R4 (zN (zB ?_))))))
  show T _ _ _ _ _ _;apply T.iter (r := j) (W := Unit) (fun j w => ⟨[], [(1, .ptr b1 0 3), (6, (GSo true encL leaves31).v), (42, v_c_Items), (43, iv ((c_Items.length : Int))), (44, iv (j))], .row b1 3 [iv (c_Book_Signed), v_c_Book_Gatherings, v_c_Items] :: C⟩) (w0 := ()) h
  ·exact (sb .refl)
  rintro x44 _ a h;unfold P_c_open_L1 at h;refine zU rfl ?_;obtain ⟨c45, hc45⟩ := zY (x44 < (c_Items.length : Int));refine zV R3 (Val.lss hc45 rfl rfl) (zN (zS ?_));obtain ⟨rfl, hc45, h⟩ | ⟨rfl, hc45, h⟩ := zI hc45 h
  ·refine zC rfl (zK ?_)
   show T _ _ _ _ _ _;apply T.join (r := a) (W := Unit) (fun j w => ⟨[], [(1, .ptr b1 0 3), (6, (GSo true encL leaves31).v), (42, v_c_Items), (43, iv ((c_Items.length : Int))), (44, iv (x44))], .row b1 3 [iv (c_Book_Signed), v_c_Book_Gatherings, v_c_Items] :: C⟩) h
   ·intro j h;refine zB (zU rfl (zM R4 ?_));obtain ⟨a47, hia47, ea47, h⟩ := el_some h;refine TO.fact (rdl_at h_c_Items M1 hia47 ea47) (fun hp=>?_);obtain ⟨pa47, hpa47, hva47⟩ := hp;refine zV R3 (hva47 ⟨rfl, rfl⟩ rfl rfl) (zV R3 (Val.load_es (c := [_]) hpa47 M1 ⟨⟨_, rfl, rfl⟩, rfl, by decide⟩ rfl rfl rfl) (zJ 1 [_] R7 (fun b9=>zA R4 (TO.eff0 rfl rfl (Eff.store_row (p := 0) (cv := [_]) (cells' := [_]) rfl rfl rfl rfl rfl rfl rfl rfl aG (by decide) rfl) ?_))));rintro _ rfl;refine zG (_::_::C) rfl (zN (zS (zB (zU rfl (zF 0 R6 (zL 0 R3 R6 (zV R3 (Val.len_gs rfl rfl) ?_)))))));obtain ⟨c53, hc53⟩ := zY ((a47.could.l.length : Int) > 4);refine zV R3 (Val.gtr hc53 rfl rfl) (zA R4 (zN ?_));obtain ⟨rfl, hc53, h⟩ | ⟨rfl, hc53, h⟩ := zI hc53 h
    ·refine zC rfl (zU rfl (zM R4 (zA R4 (zA R4 (zA R4 (zA R4 (zN (zR ?_))))))));cases h;exact ⟨ret_ne, ⟨ret_ne, ⟨ret_ne, ⟨rfl, _, rfl, ⟨(), rfl, (pk [98,98] rfl)⟩⟩⟩⟩⟩
    refine zD rfl (zU rfl (zM R4 (zV R3 (Val.len_gs rfl rfl) ?_)));obtain ⟨hk58, h⟩ := chk_some h;refine zV R3 (Val.sub rfl rfl hk58) (zF 0 R6 (zL 0 R3 R6 ?_));obtain ⟨out61, hr61, h⟩ := andx_some h;refine TO.call rfl rfl rfl rfl rfl (orcL rfl aD) (.cons .lit (.cons .lit (.cons .gs .nil))) (sem_of (w_c_outside 0 ((leaves31.length : Int) - 1) a47.could _ (by exact hr61))) (zA R4 (zN ?_));obtain ⟨rfl, h⟩ | ⟨rfl, h⟩ := zZ h
    ·refine zC rfl (zU rfl (zM R4 (zA R4 (zA R4 (zA R4 (zA R4 (zN (zR ?_))))))));cases h;exact ⟨ret_ne, ⟨ret_ne, ⟨ret_ne, ⟨rfl, _, rfl, ⟨(), rfl, (pk [98,98] rfl)⟩⟩⟩⟩⟩
    refine zD rfl (zK (zU rfl (zF 0 R6 (zL 0 R3 R6 (zV R3 (Val.len_gs rfl rfl) (zM R4 (zN (zB ?_))))))))
    show T _ _ _ _ _ _;apply T.iter (r := j) (W := Unit) (fun j w => ⟨[], [(1, .ptr b1 0 3), (6, (GSo true encL leaves31).v), (8, iv (x44)), (9, .ptr b9 0 1), (42, v_c_Items), (43, iv ((c_Items.length : Int))), (44, iv (x44)), (64, a47.could.v), (65, iv ((a47.could.l.length : Int))), (66, iv (j))], .row b9 1 [a47.could.v] :: .row b1 3 [iv (c_Book_Signed), v_c_Book_Gatherings, v_c_Items] :: C⟩) (w0 := ()) h
    ·exact (sb .refl)
    rintro x66 _ a h;unfold P_c_open_L2 at h;refine zU rfl ?_;obtain ⟨c67, hc67⟩ := zY (x66 < (a47.could.l.length : Int));refine zV R3 (Val.lss hc67 rfl rfl) (zN (zS ?_));obtain ⟨rfl, hc67, h⟩ | ⟨rfl, hc67, h⟩ := zI hc67 h
    ·refine zC rfl (zK ?_)
     show T _ _ _ _ _ _;apply T.join (r := a) (W := Unit) (fun j w => ⟨[], [(1, .ptr b1 0 3), (6, (GSo true encL leaves31).v), (8, iv (x44)), (9, .ptr b9 0 1), (42, v_c_Items), (43, iv ((c_Items.length : Int))), (44, iv (x44)), (64, a47.could.v), (65, iv ((a47.could.l.length : Int))), (66, iv (x66))], .row b9 1 [a47.could.v] :: .row b1 3 [iv (c_Book_Signed), v_c_Book_Gatherings, v_c_Items] :: C⟩) h
     ·intro j h;refine zB (zU rfl (zM R4 ?_));obtain ⟨a69, hia69, ea69, h⟩ := el_some h;refine TO.fact (rdl_at (Rdl.gs (C := C) a47.could) M2 hia69 ea69) (fun hp=>?_);obtain ⟨pa69, hpa69, hva69⟩ := hp;refine zV R3 (hva69 ⟨rfl, rfl⟩ rfl rfl) (zV R3 (Val.load_e hpa69 M2 ⟨_, rfl, rfl⟩ rfl rfl) (zA R4 (zA R4 (zN ?_))))
      show T _ _ _ _ _ _;apply T.joinA (r := j) (W := Unit) (fun j w => ⟨[], [(1, .ptr b1 0 3), (6, (GSo true encL leaves31).v), (8, iv (x44)), (9, .ptr b9 0 1), (42, v_c_Items), (43, iv ((c_Items.length : Int))), (44, iv (x44)), (64, a47.could.v), (65, iv ((a47.could.l.length : Int))), (66, iv (x66)), (82, bv j)], .row b9 1 [a47.could.v] :: .row b1 3 [iv (c_Book_Signed), v_c_Book_Gatherings, v_c_Items] :: C⟩) h
      ·intro j h;refine zT rfl (zM R4 ?_);obtain ⟨c72, hc72⟩ := zY (x66 > 0);refine zV R3 (Val.gtr hc72 rfl rfl) (zM R4 ?_);obtain ⟨rfl, hc72, h⟩ | ⟨rfl, hc72, h⟩ := zI hc72 h
       ·refine zM R4 (zF 0 R6 (zL 0 R3 R6 (zM R4 ?_)));obtain ⟨hk78, h⟩ := chk_some h;refine zV R3 (Val.sub rfl rfl hk78) ?_;obtain ⟨a79, hia79, ea79, h⟩ := el_some h;refine TO.fact (rdl_at (Rdl.gs (C := C) a47.could) M2 hia79 ea79) (fun hp=>?_);obtain ⟨pa79, hpa79, hva79⟩ := hp;refine zV R3 (hva79 ⟨rfl, rfl⟩ rfl rfl) (zV R3 (Val.load_e hpa79 M2 ⟨_, rfl, rfl⟩ rfl rfl) ?_);obtain ⟨c81, hc81⟩ := zY (a69 ≤ a79);refine zV R3 (Val.leq hc81 rfl rfl) (zP R6 (zN ?_));subst hc81;cases h;exact ⟨rfl, (), (sb .refl)⟩
       refine zO R3 (zO R3 (zO R3 (zO R3 (zO R3 (zO R3 (zO R3 (zO R3 (zP R6 (zN ?_)))))))));cases h;exact ⟨rfl, (), (sb .refl)⟩
      ·rintro x82 _ h;obtain ⟨rfl, h⟩ | ⟨rfl, h⟩ := zZ h
       ·refine zC rfl (zU rfl (zM R4 (zA R4 (zA R4 (zA R4 (zA R4 (zN (zR ?_))))))));cases h;exact ⟨ret_ne, ⟨ret_ne, ⟨ret_ne, ⟨ret_ne, ⟨ret_ne, ⟨rfl, _, rfl, ⟨(), rfl, (pk [98,98] rfl)⟩⟩⟩⟩⟩⟩⟩
       refine zD rfl (zK ?_);cases h;exact ⟨rfl, (), (sb .refl)⟩
     ·rintro _ _ h;refine zT rfl ?_;obtain ⟨hk84, h⟩ := chk_some h;refine zV R3 (Val.add rfl rfl hk84) (zM R4 (zN ?_));cases h;exact ⟨rfl, (), (sb .refl)⟩
    refine zD rfl (zE ?_);cases h;exact ⟨ex_ne, ⟨rfl, (), (sb (pk [1,98] rfl))⟩⟩
   ·rintro _ _ h;refine zT rfl ?_;obtain ⟨hk85, h⟩ := chk_some h;refine zV R3 (Val.add rfl rfl hk85) (zM R4 (zN ?_));cases h;exact ⟨rfl, (), (sb .refl)⟩
  refine zD rfl (zE ?_);cases h;exact ⟨ex_ne, ⟨rfl, (), (sb .refl)⟩⟩
 ·rintro _ _ h;refine zU rfl (zA R4 (zN ?_))
  show T _ _ _ _ _ _;apply T.join (r := r) (W := Unit) (fun j w => ⟨[], [(1, .ptr b1 0 3), (6, (GSo true encL leaves31).v)], .row b1 3 [iv (c_Book_Signed), v_c_Book_Gatherings, v_c_Items] :: C⟩) h
  ·intro j h;refine zU rfl (zF 2 R6 (zL 0 R3 R6 (zV R3 (Val.len_l h_c_Items M1 rfl rfl) (zM R4 (zN (zB ?_))))))
   show T _ _ _ _ _ _;apply T.iter (r := j) (W := Unit) (fun j w => ⟨[], [(1, .ptr b1 0 3), (6, (GSo true encL leaves31).v), (12, iv (j.1)), (87, v_c_Items), (88, iv ((c_Items.length : Int))), (89, iv (j.2))], .row b1 3 [iv (c_Book_Signed), v_c_Book_Gatherings, v_c_Items] :: C⟩) (w0 := ()) h
   ·exact (sb .refl)
   rintro ⟨doubts, x89⟩ _ a h;unfold P_c_open_L3 at h;dsimp only at h;dsimp only;refine zU rfl ?_;obtain ⟨c90, hc90⟩ := zY (x89 < (c_Items.length : Int));refine zV R3 (Val.lss hc90 rfl rfl) (zN (zS ?_));obtain ⟨rfl, hc90, h⟩ | ⟨rfl, hc90, h⟩ := zI hc90 h
   ·refine zC rfl (zK ?_)
    show T _ _ _ _ _ _;apply T.join (r := a) (W := Unit) (fun j w => ⟨[], [(1, .ptr b1 0 3), (6, (GSo true encL leaves31).v), (12, iv (j)), (87, v_c_Items), (88, iv ((c_Items.length : Int))), (89, iv (x89))], .row b1 3 [iv (c_Book_Signed), v_c_Book_Gatherings, v_c_Items] :: C⟩) h
    ·intro j h;refine zB (zU rfl (zM R4 ?_));obtain ⟨a92, hia92, ea92, h⟩ := el_some h;refine TO.fact (rdl_at h_c_Items M1 hia92 ea92) (fun hp=>?_);obtain ⟨pa92, hpa92, hva92⟩ := hp;refine zV R3 (hva92 ⟨rfl, rfl⟩ rfl rfl) (zV R3 (Val.load_es (c := [_]) hpa92 M1 ⟨⟨_, rfl, rfl⟩, rfl, by decide⟩ rfl rfl rfl) (zJ 1 [_] R7 (fun b14=>zA R4 (TO.eff0 rfl rfl (Eff.store_row (p := 0) (cv := [_]) (cells' := [_]) rfl rfl rfl rfl rfl rfl rfl rfl aG (by decide) rfl) ?_))));rintro _ rfl;refine zG (_::_::C) rfl (zN ?_)
     show T _ _ _ _ _ _;apply T.joinA (r := j) (W := Unit) (fun j w => ⟨[], [(1, .ptr b1 0 3), (6, (GSo true encL leaves31).v), (12, iv (j)), (13, iv (x89)), (87, v_c_Items), (88, iv ((c_Items.length : Int))), (89, iv (x89))], .row b14 1 [a92.could.v] :: .row b1 3 [iv (c_Book_Signed), v_c_Book_Gatherings, v_c_Items] :: C⟩) h
     ·intro j h;refine zU rfl (zF 0 R6 (zL 0 R3 R6 (zV R3 (Val.len_gs rfl rfl) ?_)));obtain ⟨c97, hc97⟩ := zY ((a92.could.l.length : Int) > 1);refine zV R3 (Val.gtr hc97 rfl rfl) (zN ?_);obtain ⟨rfl, hc97, h⟩ | ⟨rfl, hc97, h⟩ := zI hc97 h
      ·refine zC rfl (zT rfl (zM R4 ?_));obtain ⟨hk99, h⟩ := chk_some h;refine zV R3 (Val.add rfl rfl hk99) (zA R4 (zN ?_));cases h;exact ⟨rfl, (), (sb .refl)⟩
      refine zD rfl (zK ?_);cases h;exact ⟨rfl, (), (sb .refl)⟩
     ·rintro doubts_2 _ h;refine zU rfl (zM R4 ?_);obtain ⟨c101, hc101⟩ := zY (doubts_2 > 3);refine zV R3 (Val.gtr hc101 rfl rfl) (zN ?_);obtain ⟨rfl, hc101, h⟩ | ⟨rfl, hc101, h⟩ := zI hc101 h
      ·refine zC rfl (zU rfl (zM R4 (zA R4 (zA R4 (zA R4 (zA R4 (zN (zR ?_))))))));cases h;exact ⟨ret_ne, ⟨ret_ne, ⟨ret_ne, ⟨rfl, _, rfl, ⟨(), rfl, (pk [98,98] rfl)⟩⟩⟩⟩⟩
      refine zD rfl (zK ?_);cases h;exact ⟨rfl, (), (sb (pk [1,98] rfl))⟩
    ·rintro doubts_2 _ h;refine zT rfl ?_;obtain ⟨hk103, h⟩ := chk_some h;refine zV R3 (Val.add rfl rfl hk103) (zM R4 (zN ?_));cases h;exact ⟨rfl, (), (sb .refl)⟩
   refine zD rfl (zE ?_);cases h;exact ⟨ex_ne, ⟨rfl, (), (sb .refl)⟩⟩
  ·rintro _ _ h;refine zU rfl (zV R3 (vW 0 [_,_,_] R5 R4) (zM R4 (zV R3 (Val.buildC (cs := [_, _, _, _, _]) (vs := [(_, _), (_, _)]) (ws := [(_, [_, _, _]), (_, [_])]) rfl rfl (CellsL.cons rfl (CellsL.cons (GS.cells (GSo true encL leaves31)).1 CellsL.nil)) rfl) (zQ 5 [_,_,_,_,_] R7 (fun b107=>zA R4 (zN ?_))))))
   show T _ _ _ _ _ _;apply T.joinA (r := r) (W := AV) (fun j w => ⟨[], [(2, .ptr b107 0 5)], ownL true w encI j :: .row b107 5 [iv (c_Book_Signed), v_c_Book_Gatherings, v_c_Items, (GSo true encL leaves31).v, w] :: .row b1 3 [iv (c_Book_Signed), v_c_Book_Gatherings, v_c_Items] :: C⟩) h
   ·intro j h;refine zU rfl (zM R4 (zV R3 (Val.len_gs rfl rfl) (zM R4 (zN (zB (T.nilown (u := encI.u) ?_))))))
    show T _ _ _ _ _ _;apply T.iter (r := j) (W := AV) (fun j w => ⟨[], [(1, .ptr b1 0 3), (2, .ptr b107 0 5), (109, iv ((leaves31.length : Int))), (110, iv (j.1))], ownL true w encI j.2 :: .row b107 5 [iv (c_Book_Signed), v_c_Book_Gatherings, v_c_Items, (GSo true encL leaves31).v, w] :: .row b1 3 [iv (c_Book_Signed), v_c_Book_Gatherings, v_c_Items] :: C⟩) (w0 := nilS) h
    ·exact (sb .refl)
    rintro ⟨x110, b107_mates⟩ v5 a h;unfold P_c_open_L4 at h;dsimp only at h;dsimp only;refine zU rfl ?_;obtain ⟨c111, hc111⟩ := zY (x110 < (leaves31.length : Int));refine zV R3 (Val.lss hc111 rfl rfl) (zN (zS ?_));obtain ⟨rfl, hc111, h⟩ | ⟨rfl, hc111, h⟩ := zI hc111 h
    ·refine zC rfl (zK ?_)
     show T _ _ _ _ _ _;apply T.joinA (r := a) (W := AV) (fun j w => ⟨[], [(1, .ptr b1 0 3), (2, .ptr b107 0 5), (109, iv ((leaves31.length : Int))), (110, iv (x110))], ownL true w encI j :: .row b107 5 [iv (c_Book_Signed), v_c_Book_Gatherings, v_c_Items, (GSo true encL leaves31).v, w] :: .row b1 3 [iv (c_Book_Signed), v_c_Book_Gatherings, v_c_Items] :: C⟩) h
     ·intro j h;refine zB (zU rfl (zM R4 (zA R4 (zN (zU rfl (zF 0 R6 (zV R3 (vW 2 [_,_] R5 R4) (zM R4 ?_))))))));obtain ⟨⟨mate117, e117⟩, hr117, h⟩ := andx_some h;dsimp only at h;obtain ⟨g_3, hgg_3, hrg_3⟩ := Rdl.reif (hs := ownL true v5 encI b107_mates :: .row b107 5 [iv (c_Book_Signed), v_c_Book_Gatherings, v_c_Items, (GSo true encL leaves31).v, v5] :: .row b1 3 [iv (c_Book_Signed), v_c_Book_Gatherings, v_c_Items] :: C) h_c_Book_Gatherings M3 (ReifL.flat encG_tr);refine TO.call rfl rfl rfl rfl rfl (orcL rfl aD) (.cons (.agg (.cons .lit (.cons (hrg_3 _) .nil))) (.cons .lit .nil)) (sem_of (w_q_Mate c_Book_Signed g_3 x110 _ (by try rw [hgg_3]; exact hr117))) (zM R4 (zX R5 (zX R5 (zA R4 (zA R4 (zN ?_))))))
      show T _ _ _ _ _ _;apply T.joinA (r := j) (W := Unit) (fun j w => ⟨[], [(1, .ptr b1 0 3), (2, .ptr b107 0 5), (16, iv (j)), (109, iv ((leaves31.length : Int))), (110, iv (x110))], ownL true v5 encI b107_mates :: .row b107 5 [iv (c_Book_Signed), v_c_Book_Gatherings, v_c_Items, (GSo true encL leaves31).v, v5] :: .row b1 3 [iv (c_Book_Signed), v_c_Book_Gatherings, v_c_Items] :: C⟩) h
      ·intro j h;refine zU rfl (zM R4 ?_);obtain ⟨c121, hc121⟩ := zY (¬ e117 = 0);refine zV R3 (Val.neq hc121 rfl rfl) (zN ?_);obtain ⟨rfl, hc121, h⟩ | ⟨rfl, hc121, h⟩ := zI hc121 h
       ·refine zC rfl (zT rfl (zA R4 (zN ?_)));cases h;exact ⟨rfl, (), (sb .refl)⟩
       refine zD rfl (zK ?_);cases h;exact ⟨rfl, (), (sb .refl)⟩
      ·rintro m _ h;refine zT rfl (zM R4 (zM R4 (zV R3 (Val.nil_ptr rfl) (zF 4 R6 (zL 1 R3 R6 (zM R4 (TO.build1 (en := encI) (a := m) rfl rfl rfl ⟨rfl, rfl⟩ ⟨_, rfl, rfl⟩ (by decide) (by decide) rfl rfl (fun v128=>?_))))))));obtain ⟨hk129, h⟩ := chk_some h;refine TO.eff rfl rfl rfl (Eff.append_own (b := 8) (en := encI) (l := b107_mates) (l2 := [m]) (p := 1) (q := 0) ⟨rfl, rfl, rfl, ⟨_, rfl, rfl⟩, by decide, by decide⟩ rfl rfl rfl rfl rfl rfl (flat_ones _) (by decide) hk129) ?_;rintro v129 _ rfl;refine zG (_::_::_::_::C) rfl (zV R3 (Val.nil_ptr rfl) (zF 4 R6 (TO.fact (own_cellS (p := 1) rfl) (fun hot5=>TO.eff0 rfl rfl (Eff.store_row (p := 2) (cv := [_]) (cells' := [_, _, _, _, _]) rfl rfl rfl rfl rfl hot5.1 rfl rfl (by first | rfl | (simp [GS.one, hot5.2]; done)) (by decide) rfl) ?_))));rintro _ rfl;refine zG (_::_::_::_::C) rfl (zN ?_);cases h;exact ⟨rfl, v129, (sb (pk [1,1,1,98] rfl))⟩
     ·rintro b107_mates_2 v5_2 h;refine zT rfl ?_;obtain ⟨hk132, h⟩ := chk_some h;refine zV R3 (Val.add rfl rfl hk132) (zM R4 (zN ?_));cases h;exact ⟨rfl, v5_2, (sb .refl)⟩
    refine zD rfl (zE ?_);cases h;exact ⟨ex_ne, ⟨rfl, v5, (sb .refl)⟩⟩
   ·rintro b107_mates v5 h;refine zU rfl (zM R4 (zA R4 (zA R4 (zA R4 (zA R4 (zN (zR ?_)))))));cases h;exact ⟨rfl, _, rfl, ⟨(b107, v5), rfl, (pk [1,0,98] rfl)⟩⟩
set_option maxRecDepth 10000 in
theorem tf_c_Range {k : Nat} (hk : 5 ≤ k) {C : List Thing} {c_Book_Signed : Int} {v_c_Book_Gatherings : AV} {c_Book_Gatherings : List Gat} {v_c_Items : AV} {c_Items : List Item} (ht_c_Book_Gatherings : RdT encG v_c_Book_Gatherings c_Book_Gatherings) (ht_c_Items : RdT encIt v_c_Items c_Items) {r : Int × Int × Int} (h : P_c_Range c_Book_Signed c_Book_Gatherings c_Items = some r) :
  TF (EL k) 27 [.agg [iv (c_Book_Signed), v_c_Book_Gatherings, v_c_Items]] C (RepF (fun (w : Unit) => .tuple [.agg [iv r.1, iv r.2.1], iv r.2.2]) (fun (w : Unit) => C)) := by
 unfold P_c_Range at h
 have h_c_Book_Gatherings : Rdl C encG v_c_Book_Gatherings c_Book_Gatherings := RdT.rdl ht_c_Book_Gatherings
 have h_c_Items : Rdl C encIt v_c_Items c_Items := RdT.rdl ht_c_Items;refine TF.enterG (fn := Go.Proofs.Try.f27) rfl rfl rfl rfl rfl (zU rfl (zQ 3 [_,_,_] R7 (fun b1=>zJ 2 [_,_] R7 (fun b2=>zA R4 (zN (zU rfl (zV R3 (vW 1 [_,_,_] R5 R4) ?_)))))));obtain ⟨y10, hr10, h⟩ := andx_some h;cases y10 with
 | inl y10 =>
  obtain ⟨y10_2, y10_3, y10_4⟩ := y10;dsimp only at h;obtain ⟨hkn10, h⟩ := chk_some h;refine TO.callT (first := []) (cap := []) (vs := [.agg [iv (c_Book_Signed), v_c_Book_Gatherings, v_c_Items]]) rfl rfl rfl rfl rfl rfl (orcN rfl) (tf_c_open aD (Rdl.mono h_c_Book_Gatherings M2) (Rdl.mono h_c_Items M2) hr10) ?_;rintro _;refine zG (_::_::C) rfl (zM R4 (zX R5 (zX R5 (zX R5 (zX R5 (zA R4 (zA R4 (zA R4 (zA R4 (zN (zS (zU rfl (zM R4 ?_)))))))))))));obtain ⟨c16, hc16⟩ := zY (¬ y10_4 = 0);refine zV R3 (Val.neq hc16 rfl rfl) (zN ?_);obtain rfl : c16 = true := hc16.trans (decide_eq_true hkn10);refine zC rfl (zU rfl (zV R3 (Val.buildC (cs := [_, _]) (vs := []) (ws := []) rfl rfl CellsL.nil rfl) (zM R4 (TO.eff0 rfl rfl (Eff.store_row (p := 0) (cv := [_, _]) (cells' := [_, _]) rfl rfl rfl rfl rfl rfl rfl rfl aG (by decide) rfl) ?_))));rintro _ rfl;refine zG (_::_::C) rfl (zA R4 (zN (zR ?_)));cases h;exact ⟨rfl, _, rfl, [_, _], ⟨⟨_, rfl, LoadR.rows (p := 0) (c := [_, _]) rfl ⟨⟨_, rfl, rfl⟩, rfl, by decide⟩ rfl rfl rfl⟩, ⟨rfl, trivial⟩⟩, ⟨(), rfl, (pk [98,98] rfl)⟩⟩
 | inr y10 =>
  obtain ⟨y10_2, y10_3, y10_4, y10_5, y10_6, y10_7⟩ := y10;dsimp only at h;obtain ⟨hkn10, h⟩ := chk_some h;refine TO.callT (first := []) (cap := []) (vs := [.agg [iv (c_Book_Signed), v_c_Book_Gatherings, v_c_Items]]) rfl rfl rfl rfl rfl rfl (orcN rfl) (tf_c_open aD (Rdl.mono h_c_Book_Gatherings M2) (Rdl.mono h_c_Items M2) hr10) ?_;rintro ⟨w10, w10_2⟩;refine zG (_::_::_::_::C) rfl (zM R4 (zX R5 (zX R5 (zX R5 (zX R5 (zA R4 (zA R4 (zA R4 (zA R4 (zN (zS (zU rfl (zM R4 ?_)))))))))))));obtain ⟨c16, hc16⟩ := zY (¬ y10_7 = 0);refine zV R3 (Val.neq hc16 rfl rfl) (zN ?_);obtain rfl : c16 = false := hc16.trans (decide_eq_false (fun x => x hkn10));refine zD rfl (zK (zU rfl (zM R4 ?_)));obtain ⟨⟨y20, y20_2⟩, hr20, h⟩ := andx_some h;dsimp only at h;refine TO.callT (first := []) (cap := []) (vs := [.ptr w10 0 5]) rfl rfl rfl rfl rfl rfl (orcN rfl) (tf_c_wide aD (Rdl.mono h_c_Book_Gatherings M4) (Rdl.mono h_c_Items M4) (Rdl.mono (Rdl.gs (C := C) y10_3) M4) (Rdl.mono (Rdl.own (C := .row w10 5 [iv (y10_2), v_c_Book_Gatherings, v_c_Items, y10_3.v, w10_2] :: ownL true w10_2 encI y10_4 :: .row b2 2 [iv (0), iv (0)] :: .row b1 3 [iv (c_Book_Signed), v_c_Book_Gatherings, v_c_Items] :: C) (p := 1) rfl) mem0) (List.mem_of_getElem? (i := 0) rfl) hr20) ?_;rintro _;refine zG (_::_::_::_::C) rfl (TO.eff0 rfl rfl (Eff.store_row (p := 2) (cv := [_, _]) (cells' := [_, _]) rfl rfl rfl rfl rfl rfl rfl rfl aG (by decide) rfl) ?_);rintro _ rfl;refine zG (_::_::_::_::C) rfl (zA R4 (zN (zR ?_)));cases h;exact ⟨rfl, _, rfl, [_, _], ⟨⟨_, rfl, LoadR.rows (p := 2) (c := [_, _]) rfl ⟨⟨_, rfl, rfl⟩, rfl, by decide⟩ rfl rfl rfl⟩, ⟨rfl, trivial⟩⟩, ⟨(), rfl, (pk [98,98,98,98] rfl)⟩⟩
theorem w_c_Range (c_Book_Signed : Int) (c_Book_Gatherings : GS encG) (c_Items : GS encIt) (r : Int × Int × Int) (h : P_c_Range c_Book_Signed c_Book_Gatherings.l c_Items.l = some r) : Comes (EL 5) 27 [.agg [iv (c_Book_Signed), c_Book_Gatherings.v, c_Items.v]] (.tuple [.agg [iv r.1, iv r.2.1], iv r.2.2]) :=
 TF.run (tf_c_Range (Nat.le_refl _) (RdT.gs c_Book_Gatherings) (RdT.gs c_Items) h) fun w => (.tuple (.cons (.agg (.cons .lit (.cons .lit .nil))) (.cons .lit .nil)))
end Go.Am.Ythckcbfijdambaa
end
section
namespace Go.Am
set_option linter.unusedVariables false
end Go.Am
end
section
namespace Go.Am.Ythckcbfijdambaa
open Go.Am Go.RowKit
set_option linter.unusedVariables false
set_option linter.unusedSimpArgs false
end Go.Am.Ythckcbfijdambaa
end
section
namespace Go.Am
set_option linter.unusedVariables false
noncomputable def P_r4_Check_L1 (c_Items : List Item) (all33 : List Leaf) : Int → Option (Stp Int (Ex Unit (Int × Int × Int))) := fun i =>
  if i < (c_Items.length : Int) then
    el c_Items i fun a49 =>
    andx (P_r4_item a49.could.l (all33.length : Int)) fun y52 =>
      if ¬ y52 = 0 then
        some (Stp.dn (Ex.rt (2, i, y52)))
      else
        chk (I64 (i + 1)) (
          some (Stp.ag (i + 1)))
  else
    some (Stp.dn (Ex.nx ()))
noncomputable def P_r4_Check_L2 (c_Items : List Item) : (Int × Int) → Option (Stp (Int × Int) (Ex Unit (Int × Int × Int))) := fun (doubts, i) =>
  if i < (c_Items.length : Int) then
    seqx (
      andx (
        el c_Items i fun a67 =>
        if (a67.could.l.length : Int) > 1 then
          chk (I64 (doubts + 1)) (
            some (doubts + 1))
        else
          some doubts) fun doubts_2 =>
        if doubts_2 > 3 then
          some (Ex.rt (Stp.dn (Ex.rt (3, i, 3))))
        else
          some (Ex.nx doubts_2)) fun doubts_2 =>
      chk (I64 (i + 1)) (
        some (Stp.ag (doubts_2, (i + 1))))
  else
    some (Stp.dn (Ex.nx ()))
noncomputable def P_r4_Check (c_Book_Signed : Int) (c_Book_Gatherings : List Gat) (c_Items : List Item) : Option (Int × Int × Int) :=
  andx (P_r1_Check c_Book_Signed c_Book_Gatherings) fun (part15, at_15, e15) =>
    andx (
      andx (
        if e15 = 0 then
          andx (P_r1_All c_Book_Signed c_Book_Gatherings) fun all24 =>
            some (decide ((all24.length : Int) > 120))
        else
          some false) fun x27 =>
        if x27 = true then
          some 3
        else
          some e15) fun e =>
      if ¬ e = 0 then
        some (1, 0, e)
      else
        andx (P_r1_All c_Book_Signed c_Book_Gatherings) fun all33 =>
          if (c_Items.length : Int) > 120 then
            some (2, 0, 3)
          else
            seqx (
              iter (P_r4_Check_L1 c_Items all33) 0) fun _ =>
              seqx (
                iter (P_r4_Check_L2 c_Items) (0, 0)) fun _ =>
                some (0, 0, 0)
end Go.Am
end
section
namespace Go.Am.Ythckcbfijdambaa
open Go.Am Go.RowKit
set_option linter.unusedVariables false
set_option linter.unusedSimpArgs false
set_option maxRecDepth 10000 in
theorem tf_r4_Check {k : Nat} (hk : 4 ≤ k) {C : List Thing} {c_Book_Signed : Int} {v_c_Book_Gatherings : AV} {c_Book_Gatherings : List Gat} {v_c_Items : AV} {c_Items : List Item} (ht_c_Book_Gatherings : RdT encG v_c_Book_Gatherings c_Book_Gatherings) (ht_c_Items : RdT encIt v_c_Items c_Items) {r : Int × Int × Int} (h : P_r4_Check c_Book_Signed c_Book_Gatherings c_Items = some r) :
  TF (EL k) 41 [.agg [iv (c_Book_Signed), v_c_Book_Gatherings, v_c_Items]] C (RepF (fun (w : Unit) => .tuple [iv r.1, iv r.2.1, iv r.2.2]) (fun (w : Unit) => C)) := by
 unfold P_r4_Check at h
 have h_c_Book_Gatherings : Rdl C encG v_c_Book_Gatherings c_Book_Gatherings := RdT.rdl ht_c_Book_Gatherings
 have h_c_Items : Rdl C encIt v_c_Items c_Items := RdT.rdl ht_c_Items;refine TF.enter (fn := Go.Proofs.Try.f41) rfl rfl rfl rfl rfl (zU rfl (zQ 3 [_,_,_] R7 (fun b1=>zA R4 (zA R4 (zA R4 (zN (zU rfl (zF 0 R6 (zV R3 (vW 0 [_,_] R5 R4) ?_)))))))));obtain ⟨⟨part15, at_15, e15⟩, hr15, h⟩ := andx_some h;dsimp only at h;obtain ⟨g, hgg, hrg⟩ := Rdl.reif (hs := .row b1 3 [iv (c_Book_Signed), v_c_Book_Gatherings, v_c_Items] :: C) h_c_Book_Gatherings M1 (ReifL.flat encG_tr);refine TO.call rfl rfl rfl rfl rfl (orcL rfl aD) (.cons (.agg (.cons .lit (.cons (hrg _) .nil))) .nil) (sem_of (w_r1_Check c_Book_Signed g _ (by try rw [hgg]; exact hr15))) (zM R4 (zX R5 (zX R5 (zX R5 (zA R4 (zA R4 (zA R4 (zN ?_))))))))
 show T _ _ _ _ _ _;apply T.joinA (r := r) (W := Unit) (fun j w => ⟨[], [(1, .ptr b1 0 3), (7, iv (j))], .row b1 3 [iv (c_Book_Signed), v_c_Book_Gatherings, v_c_Items] :: C⟩) h
 ·intro j h
  show T _ _ _ _ _ _;apply T.joinA (r := j) (W := Unit) (fun j w => ⟨[], [(1, .ptr b1 0 3), (7, iv (e15)), (27, bv j)], .row b1 3 [iv (c_Book_Signed), v_c_Book_Gatherings, v_c_Items] :: C⟩) h
  ·intro j h;refine zT rfl (zM R4 ?_);obtain ⟨c20, hc20⟩ := zY (e15 = 0);refine zV R3 (Val.eql hc20 rfl rfl) (zM R4 ?_);obtain ⟨rfl, hc20, h⟩ | ⟨rfl, hc20, h⟩ := zI hc20 h
   ·refine zF 0 R6 (zV R3 (vW 0 [_,_] R5 R4) ?_);obtain ⟨all24, hr24, h⟩ := andx_some h;obtain ⟨g_2, hgg_2, hrg_2⟩ := Rdl.reif (hs := .row b1 3 [iv (c_Book_Signed), v_c_Book_Gatherings, v_c_Items] :: C) h_c_Book_Gatherings M1 (ReifL.flat encG_tr);refine TO.call rfl rfl rfl rfl rfl (orcL rfl aD) (.cons (.agg (.cons .lit (.cons (hrg_2 _) .nil))) .nil) (sem_of (w_r1_All c_Book_Signed g_2 _ (by try rw [hgg_2]; exact hr24))) (zV R3 (Val.len_gs rfl rfl) ?_);obtain ⟨c26, hc26⟩ := zY ((all24.length : Int) > 120);refine zV R3 (Val.gtr hc26 rfl rfl) (zP R6 (zN ?_));subst hc26;cases h;exact ⟨rfl, (), (sb .refl)⟩
   refine zO R3 (zO R3 (zO R3 (zO R3 (zO R3 (zP R6 (zN ?_))))));cases h;exact ⟨rfl, (), (sb .refl)⟩
  ·rintro x27 _ h;obtain ⟨rfl, h⟩ | ⟨rfl, h⟩ := zZ h
   ·refine zC rfl (zT rfl (zA R4 (zN ?_)));cases h;exact ⟨rfl, (), (sb .refl)⟩
   refine zD rfl (zK ?_);cases h;exact ⟨rfl, (), (sb .refl)⟩
 ·rintro e _ h;refine zS (zU rfl (zM R4 ?_));obtain ⟨c29, hc29⟩ := zY (¬ e = 0);refine zV R3 (Val.neq hc29 rfl rfl) (zN ?_);obtain ⟨rfl, hc29, h⟩ | ⟨rfl, hc29, h⟩ := zI hc29 h
  ·refine zC rfl (zU rfl (zM R4 (zA R4 (zA R4 (zA R4 (zN (zR ?_)))))));cases h;exact ⟨rfl, _, rfl, ⟨(), rfl, (pk [98] rfl)⟩⟩
  refine zD rfl (zK (zU rfl (zF 0 R6 (zV R3 (vW 0 [_,_] R5 R4) ?_))));obtain ⟨all33, hr33, h⟩ := andx_some h;obtain ⟨g_2, hgg_2, hrg_2⟩ := Rdl.reif (hs := .row b1 3 [iv (c_Book_Signed), v_c_Book_Gatherings, v_c_Items] :: C) h_c_Book_Gatherings M1 (ReifL.flat encG_tr);refine TO.call rfl rfl rfl rfl rfl (orcL rfl aD) (.cons (.agg (.cons .lit (.cons (hrg_2 _) .nil))) .nil) (sem_of (w_r1_All c_Book_Signed g_2 _ (by try rw [hgg_2]; exact hr33))) (zV R3 (Val.len_gs rfl rfl) (zA R4 (zN (zS (zU rfl (zF 2 R6 (zL 0 R3 R6 (zV R3 (Val.len_l h_c_Items M1 rfl rfl) ?_))))))));obtain ⟨c38, hc38⟩ := zY ((c_Items.length : Int) > 120);refine zV R3 (Val.gtr hc38 rfl rfl) (zN ?_);obtain ⟨rfl, hc38, h⟩ | ⟨rfl, hc38, h⟩ := zI hc38 h
  ·refine zC rfl (zU rfl (zA R4 (zA R4 (zA R4 (zN (zR ?_))))));cases h;exact ⟨rfl, _, rfl, ⟨(), rfl, (pk [98] rfl)⟩⟩
  refine zD rfl (zK ?_)
  show T _ _ _ _ _ _;apply T.join (r := r) (W := Unit) (fun j w => ⟨[], [(1, .ptr b1 0 3)], .row b1 3 [iv (c_Book_Signed), v_c_Book_Gatherings, v_c_Items] :: C⟩) h
  ·intro j h;refine zU rfl (zA R4 (zN (zB ?_)))
   show T _ _ _ _ _ _;apply T.iter (r := j) (W := Unit) (fun j w => ⟨[], [(1, .ptr b1 0 3), (8, iv ((all33.length : Int))), (9, iv (j))], .row b1 3 [iv (c_Book_Signed), v_c_Book_Gatherings, v_c_Items] :: C⟩) (w0 := ()) h
   ·exact (sb .refl)
   rintro i _ a h;unfold P_r4_Check_L1 at h;refine zS (zU rfl (zM R4 (zF 2 R6 (zL 0 R3 R6 (zV R3 (Val.len_l h_c_Items M1 rfl rfl) ?_)))));obtain ⟨c43, hc43⟩ := zY (i < (c_Items.length : Int));refine zV R3 (Val.lss hc43 rfl rfl) (zN ?_);obtain ⟨rfl, hc43, h⟩ | ⟨rfl, hc43, h⟩ := zI hc43 h
   ·refine zC rfl (zK (zS (zB (zU rfl (zF 2 R6 (zL 0 R3 R6 (zM R4 ?_)))))));obtain ⟨a49, hia49, ea49, h⟩ := el_some h;refine TO.fact (rdl_at h_c_Items M1 hia49 ea49) (fun hp=>?_);obtain ⟨pa49, hpa49, hva49⟩ := hp;refine zV R3 (hva49 ⟨rfl, rfl⟩ rfl rfl) (zV R3 (Val.load_es (c := [_]) hpa49 M1 ⟨⟨_, rfl, rfl⟩, rfl, by decide⟩ rfl rfl rfl) (zM R4 ?_));obtain ⟨y52, hr52, h⟩ := andx_some h;refine TO.callT (first := []) (cap := []) (vs := [.agg [a49.could.v], iv ((all33.length : Int))]) rfl rfl rfl rfl rfl rfl (orcN rfl) (tf_r4_item aD (Rdl.mono (Rdl.gs (C := C) a49.could) M1) hr52) ?_;rintro _;refine zG (_::C) rfl (zA R4 (zN (zU rfl (zM R4 ?_))));obtain ⟨c54, hc54⟩ := zY (¬ y52 = 0);refine zV R3 (Val.neq hc54 rfl rfl) (zN ?_);obtain ⟨rfl, hc54, h⟩ | ⟨rfl, hc54, h⟩ := zI hc54 h
    ·refine zC rfl (zU rfl (zM R4 (zM R4 (zA R4 (zA R4 (zA R4 (zN (zR ?_))))))));cases h;exact ⟨ret_ne, ⟨ret_ne, ⟨rfl, _, rfl, ⟨(), rfl, (pk [98] rfl)⟩⟩⟩⟩
    refine zD rfl (zK (zT rfl (zM R4 ?_)));obtain ⟨hk45, h⟩ := chk_some h;refine zV R3 (Val.add rfl rfl hk45) (zA R4 (zN ?_));cases h;exact ⟨rfl, (), (sb .refl)⟩
   refine zD rfl (zE ?_);cases h;exact ⟨ex_ne, ⟨rfl, (), (sb .refl)⟩⟩
  ·rintro _ _ h;refine zU rfl (zA R4 (zN ?_))
   show T _ _ _ _ _ _;apply T.join (r := r) (W := Unit) (fun j w => ⟨[], [], .row b1 3 [iv (c_Book_Signed), v_c_Book_Gatherings, v_c_Items] :: C⟩) h
   ·intro j h;refine zU rfl (zA R4 (zN (zB ?_)))
    show T _ _ _ _ _ _;apply T.iter (r := j) (W := Unit) (fun j w => ⟨[], [(1, .ptr b1 0 3), (10, iv (j.1)), (11, iv (j.2))], .row b1 3 [iv (c_Book_Signed), v_c_Book_Gatherings, v_c_Items] :: C⟩) (w0 := ()) h
    ·exact (sb .refl)
    rintro ⟨doubts, i⟩ _ a h;unfold P_r4_Check_L2 at h;dsimp only at h;dsimp only;refine zS (zU rfl (zM R4 (zF 2 R6 (zL 0 R3 R6 (zV R3 (Val.len_l h_c_Items M1 rfl rfl) ?_)))));obtain ⟨c61, hc61⟩ := zY (i < (c_Items.length : Int));refine zV R3 (Val.lss hc61 rfl rfl) (zN ?_);obtain ⟨rfl, hc61, h⟩ | ⟨rfl, hc61, h⟩ := zI hc61 h
    ·refine zC rfl (zK ?_)
     show T _ _ _ _ _ _;apply T.join (r := a) (W := Unit) (fun j w => ⟨[], [(1, .ptr b1 0 3), (10, iv (j)), (11, iv (i))], .row b1 3 [iv (c_Book_Signed), v_c_Book_Gatherings, v_c_Items] :: C⟩) h
     ·intro j h;refine zB ?_
      show T _ _ _ _ _ _;apply T.joinA (r := j) (W := Unit) (fun j w => ⟨[], [(1, .ptr b1 0 3), (10, iv (j)), (11, iv (i))], .row b1 3 [iv (c_Book_Signed), v_c_Book_Gatherings, v_c_Items] :: C⟩) h
      ·intro j h;refine zU rfl (zF 2 R6 (zL 0 R3 R6 (zM R4 ?_)));obtain ⟨a67, hia67, ea67, h⟩ := el_some h;refine TO.fact (rdl_at h_c_Items M1 hia67 ea67) (fun hp=>?_);obtain ⟨pa67, hpa67, hva67⟩ := hp;refine zV R3 (hva67 ⟨rfl, rfl⟩ rfl rfl) (zV R3 (Val.faddr_e (fo := 0) hpa67 rfl rfl rfl) (zV R3 (Val.load_e (PtE.add hpa67 (by decide)) M1 ⟨_, rfl, rfl⟩ rfl rfl) (zV R3 (Val.len_gs rfl rfl) ?_)));obtain ⟨c71, hc71⟩ := zY ((a67.could.l.length : Int) > 1);refine zV R3 (Val.gtr hc71 rfl rfl) (zN ?_);obtain ⟨rfl, hc71, h⟩ | ⟨rfl, hc71, h⟩ := zI hc71 h
       ·refine zC rfl (zT rfl (zM R4 ?_));obtain ⟨hk73, h⟩ := chk_some h;refine zV R3 (Val.add rfl rfl hk73) (zA R4 (zN ?_));cases h;exact ⟨rfl, (), (sb .refl)⟩
       refine zD rfl (zK ?_);cases h;exact ⟨rfl, (), (sb .refl)⟩
      ·rintro doubts_2 _ h;refine zU rfl (zM R4 ?_);obtain ⟨c75, hc75⟩ := zY (doubts_2 > 3);refine zV R3 (Val.gtr hc75 rfl rfl) (zN ?_);obtain ⟨rfl, hc75, h⟩ | ⟨rfl, hc75, h⟩ := zI hc75 h
       ·refine zC rfl (zU rfl (zM R4 (zA R4 (zA R4 (zA R4 (zN (zR ?_)))))));cases h;exact ⟨ret_ne, ⟨ret_ne, ⟨ret_ne, ⟨rfl, _, rfl, ⟨(), rfl, (pk [98] rfl)⟩⟩⟩⟩⟩
       refine zD rfl (zK ?_);cases h;exact ⟨rfl, (), (sb .refl)⟩
     ·rintro doubts_2 _ h;refine zT rfl (zM R4 ?_);obtain ⟨hk63, h⟩ := chk_some h;refine zV R3 (Val.add rfl rfl hk63) (zA R4 (zN ?_));cases h;exact ⟨rfl, (), (sb .refl)⟩
    refine zD rfl (zE ?_);cases h;exact ⟨ex_ne, ⟨rfl, (), (sb .refl)⟩⟩
   ·rintro _ _ h;refine zU rfl (zA R4 (zA R4 (zA R4 (zN (zR ?_)))));cases h;exact ⟨rfl, _, rfl, ⟨(), rfl, (pk [98] rfl)⟩⟩
theorem w_r4_Check (c_Book_Signed : Int) (c_Book_Gatherings : GS encG) (c_Items : GS encIt) (r : Int × Int × Int) (h : P_r4_Check c_Book_Signed c_Book_Gatherings.l c_Items.l = some r) : Comes (EL 4) 41 [.agg [iv (c_Book_Signed), c_Book_Gatherings.v, c_Items.v]] (.tuple [iv r.1, iv r.2.1, iv r.2.2]) :=
 TF.run (tf_r4_Check (Nat.le_refl _) (RdT.gs c_Book_Gatherings) (RdT.gs c_Items) h) fun w => (.tuple (.cons .lit (.cons .lit (.cons .lit .nil))))
end Go.Am.Ythckcbfijdambaa
end
section
namespace Go.Am
set_option linter.unusedVariables false
end Go.Am
end
section
namespace Go.Am.Ythckcbfijdambaa
open Go.Am Go.RowKit
set_option linter.unusedVariables false
set_option linter.unusedSimpArgs false
end Go.Am.Ythckcbfijdambaa
end
section
namespace Go.Am
set_option linter.unusedVariables false
noncomputable def P_c_Ask_L2 (c_Book_Gatherings : List Gat) (c_Items : List Item) (y16_2 : Int) (y16_3 : GS encL) (y16_4 : List Int) (x27 : Int) (a30 : Item) : (Int × Int) → Option (Stp (Int × Int) Int) := fun (worst, x39) =>
  if x39 < (a30.could.l.length : Int) then
    andx (
      chk (0 < c_Items.length) (
        chk (([] : List Item).length + c_Items.length < 1000000000) (
          some (([] : List Item) ++ c_Items)))) fun l5 =>
      chk (I64 (x39 + 1)) (
        chk (0 ≤ x39 ∧ x39 ≤ (x39 + 1) ∧ (x39 + 1) ≤ (a30.could.l.length : Int)) (
          chk (x39 < (x39 + 1)) (
            el l5 x27 fun a60 =>
            andx (P_c_wide y16_2 c_Book_Gatherings (List.set l5 x27.toNat (⟨(GSo true encI (List.take ((x39 + 1) - x39).toNat (List.drop (x39 : Int).toNat a30.could.l)))⟩ : Item)) y16_3.l y16_4) fun (y62, y62_2) =>
              chk (I64 (y62_2 - y62)) (
                chk (I64 (x39 + 1)) (
                  some (Stp.ag ((max worst (y62_2 - y62)), (x39 + 1))))))))
  else
    some (Stp.dn worst)
noncomputable def P_c_Ask_L1 (c_Book_Gatherings : List Gat) (c_Items : List Item) (y16_2 : Int) (y16_3 : GS encL) (y16_4 : List Int) : (Int × Int × Int) → Option (Stp (Int × Int × Int) (Int × Int)) := fun (item, best, x27) =>
  if x27 < (c_Items.length : Int) then
    andx (
      el c_Items x27 fun a30 =>
      if (a30.could.l.length : Int) < 2 then
        some (item, best)
      else
        andx (
          iter (P_c_Ask_L2 c_Book_Gatherings c_Items y16_2 y16_3 y16_4 x27 a30) (0, 0)) fun worst =>
          andx (
            if best < 0 then
              some true
            else
              some (decide (worst < best))) fun x77 =>
            if x77 = true then
              some (x27, worst)
            else
              some (item, best)) fun (item_2, best_2) =>
      chk (I64 (x27 + 1)) (
        some (Stp.ag (item_2, best_2, (x27 + 1))))
  else
    some (Stp.dn (item, best))
noncomputable def P_c_Ask (c_Book_Signed : Int) (c_Book_Gatherings : List Gat) (c_Items : List Item) : Option (Int × Int) :=
  andx (P_c_open c_Book_Signed c_Book_Gatherings c_Items) fun y =>
    match y with
    | .inl (y16_2, y16_3, y16_4) =>
      chk (¬ y16_4 = 0) (
        some (0, y16_4))
    | .inr (y16_2, y16_3, y16_4, y16_5, y16_6, y16_7) =>
      chk (y16_7 = 0) (
        andx (
          iter (P_c_Ask_L1 c_Book_Gatherings c_Items y16_2 y16_3 y16_4) (0, (-1), 0)) fun (item, best) =>
          if best < 0 then
            some (0, 4)
          else
            some (item, 0))
end Go.Am
end
section
namespace Go.Am.Ythckcbfijdambaa
open Go.Am Go.RowKit
set_option linter.unusedVariables false
set_option linter.unusedSimpArgs false
set_option maxRecDepth 10000 in
theorem tf_c_Ask {k : Nat} (hk : 5 ≤ k) {C : List Thing} {c_Book_Signed : Int} {v_c_Book_Gatherings : AV} {c_Book_Gatherings : List Gat} {v_c_Items : AV} {c_Items : List Item} (ht_c_Book_Gatherings : RdT encG v_c_Book_Gatherings c_Book_Gatherings) (ht_c_Items : RdT encIt v_c_Items c_Items) {r : Int × Int} (h : P_c_Ask c_Book_Signed c_Book_Gatherings c_Items = some r) :
  TF (EL k) 18 [.agg [iv (c_Book_Signed), v_c_Book_Gatherings, v_c_Items]] C (RepF (fun (w : Unit) => .tuple [iv r.1, iv r.2]) (fun (w : Unit) => C)) := by
 unfold P_c_Ask at h
 have h_c_Book_Gatherings : Rdl C encG v_c_Book_Gatherings c_Book_Gatherings := RdT.rdl ht_c_Book_Gatherings
 have h_c_Items : Rdl C encIt v_c_Items c_Items := RdT.rdl ht_c_Items;refine TF.enter (fn := Go.Proofs.Try.f18) rfl rfl rfl rfl rfl (zU rfl (zQ 3 [_,_,_] R7 (fun b1=>zA R4 (zA R4 (zN (zU rfl (zV R3 (vW 0 [_,_,_] R5 R4) ?_)))))));obtain ⟨y16, hr16, h⟩ := andx_some h;cases y16 with
 | inl y16 =>
  obtain ⟨y16_2, y16_3, y16_4⟩ := y16;dsimp only at h;obtain ⟨hkn16, h⟩ := chk_some h;refine TO.callT (first := []) (cap := []) (vs := [.agg [iv (c_Book_Signed), v_c_Book_Gatherings, v_c_Items]]) rfl rfl rfl rfl rfl rfl (orcN rfl) (tf_c_open aD (Rdl.mono h_c_Book_Gatherings M1) (Rdl.mono h_c_Items M1) hr16) ?_;rintro _;refine zG (_::C) rfl (zM R4 (zX R5 (zX R5 (zX R5 (zX R5 (zA R4 (zA R4 (zA R4 (zA R4 (zN (zS (zU rfl (zM R4 ?_)))))))))))));obtain ⟨c22, hc22⟩ := zY (¬ y16_4 = 0);refine zV R3 (Val.neq hc22 rfl rfl) (zN ?_);obtain rfl : c22 = true := hc22.trans (decide_eq_true hkn16);refine zC rfl (zU rfl (zM R4 (zA R4 (zA R4 (zN (zR ?_))))));cases h;exact ⟨rfl, _, rfl, ⟨(), rfl, (pk [98] rfl)⟩⟩
 | inr y16 =>
  obtain ⟨y16_2, y16_3, y16_4, y16_5, y16_6, y16_7⟩ := y16;dsimp only at h;obtain ⟨hkn16, h⟩ := chk_some h;refine TO.callT (first := []) (cap := []) (vs := [.agg [iv (c_Book_Signed), v_c_Book_Gatherings, v_c_Items]]) rfl rfl rfl rfl rfl rfl (orcN rfl) (tf_c_open aD (Rdl.mono h_c_Book_Gatherings M1) (Rdl.mono h_c_Items M1) hr16) ?_;rintro ⟨w16, w16_2⟩;refine zG (_::_::_::C) rfl (zM R4 (zX R5 (zX R5 (zX R5 (zX R5 (zA R4 (zA R4 (zA R4 (zA R4 (zN (zS (zU rfl (zM R4 ?_)))))))))))));obtain ⟨c22, hc22⟩ := zY (¬ y16_7 = 0);refine zV R3 (Val.neq hc22 rfl rfl) (zN ?_);obtain rfl : c22 = false := hc22.trans (decide_eq_false (fun x => x hkn16));refine zD rfl (zK (zU rfl (zA R4 (zN ?_))))
  show T _ _ _ _ _ _;apply T.joinA (r := r) (W := Unit) (fun j w => ⟨[], [(2, iv (j.1)), (7, iv (j.2))], .row w16 5 [iv (y16_2), v_c_Book_Gatherings, v_c_Items, y16_3.v, w16_2] :: ownL true w16_2 encI y16_4 :: .row b1 3 [iv (c_Book_Signed), v_c_Book_Gatherings, v_c_Items] :: C⟩) h
  ·intro j h;refine zU rfl (zF 2 R6 (zL 2 R3 R6 (zV R3 (Val.len_l h_c_Items M3 rfl rfl) (zM R4 (zN (zB ?_))))))
   show T _ _ _ _ _ _;apply T.iter (r := j) (W := Unit) (fun j w => ⟨[], [(1, .ptr b1 0 3), (2, iv (j.1)), (4, .ptr w16 0 5), (7, iv (j.2.1)), (25, v_c_Items), (26, iv ((c_Items.length : Int))), (27, iv (j.2.2))], .row w16 5 [iv (y16_2), v_c_Book_Gatherings, v_c_Items, y16_3.v, w16_2] :: ownL true w16_2 encI y16_4 :: .row b1 3 [iv (c_Book_Signed), v_c_Book_Gatherings, v_c_Items] :: C⟩) (w0 := ()) h
   ·exact (sb .refl)
   rintro ⟨item, best, x27⟩ _ a h;unfold P_c_Ask_L1 at h;dsimp only at h;dsimp only;refine zU rfl ?_;obtain ⟨c28, hc28⟩ := zY (x27 < (c_Items.length : Int));refine zV R3 (Val.lss hc28 rfl rfl) (zN (zS ?_));obtain ⟨rfl, hc28, h⟩ | ⟨rfl, hc28, h⟩ := zI hc28 h
   ·refine zC rfl (zK ?_)
    show T _ _ _ _ _ _;apply T.joinA (r := a) (W := Unit) (fun j w => ⟨[], [(1, .ptr b1 0 3), (2, iv (j.1)), (4, .ptr w16 0 5), (7, iv (j.2)), (25, v_c_Items), (26, iv ((c_Items.length : Int))), (27, iv (x27))], .row w16 5 [iv (y16_2), v_c_Book_Gatherings, v_c_Items, y16_3.v, w16_2] :: ownL true w16_2 encI y16_4 :: .row b1 3 [iv (c_Book_Signed), v_c_Book_Gatherings, v_c_Items] :: C⟩) h
    ·intro j h;refine zB (zU rfl (zM R4 ?_));obtain ⟨a30, hia30, ea30, h⟩ := el_some h;refine TO.fact (rdl_at h_c_Items M3 hia30 ea30) (fun hp=>?_);obtain ⟨pa30, hpa30, hva30⟩ := hp;refine zV R3 (hva30 ⟨rfl, rfl⟩ rfl rfl) (zV R3 (Val.load_es (c := [_]) hpa30 M3 ⟨⟨_, rfl, rfl⟩, rfl, by decide⟩ rfl rfl rfl) (zJ 1 [_] R7 (fun b9=>zA R4 (TO.eff0 rfl rfl (Eff.store_row (p := 0) (cv := [_]) (cells' := [_]) rfl rfl rfl rfl rfl rfl rfl rfl aG (by decide) rfl) ?_))));rintro _ rfl;refine zG (_::_::_::_::C) rfl (zN (zS (zU rfl (zF 0 R6 (zL 0 R3 R6 (zV R3 (Val.len_gs rfl rfl) ?_))))));obtain ⟨c35, hc35⟩ := zY ((a30.could.l.length : Int) < 2);refine zV R3 (Val.lss hc35 rfl rfl) (zN ?_);obtain ⟨rfl, hc35, h⟩ | ⟨rfl, hc35, h⟩ := zI hc35 h
     ·refine zC rfl (zE ?_);cases h;exact ⟨rfl, (), (sb (pk [1,1,1,98] rfl))⟩
     refine zD rfl (zK (zU rfl (zA R4 (zN ?_))))
     show T _ _ _ _ _ _;apply T.joinA (r := j) (W := Unit) (fun j w => ⟨[], [(1, .ptr b1 0 3), (2, iv (item)), (4, .ptr w16 0 5), (7, iv (best)), (8, iv (x27)), (10, iv (j)), (25, v_c_Items), (26, iv ((c_Items.length : Int))), (27, iv (x27))], .row b9 1 [a30.could.v] :: .row w16 5 [iv (y16_2), v_c_Book_Gatherings, v_c_Items, y16_3.v, w16_2] :: ownL true w16_2 encI y16_4 :: .row b1 3 [iv (c_Book_Signed), v_c_Book_Gatherings, v_c_Items] :: C⟩) h
     ·intro j h;refine zU rfl (zF 0 R6 (zL 0 R3 R6 (zV R3 (Val.len_gs rfl rfl) (zM R4 (zN (zB ?_))))))
      show T _ _ _ _ _ _;apply T.iter (r := j) (W := Unit) (fun j w => ⟨[], [(1, .ptr b1 0 3), (2, iv (item)), (4, .ptr w16 0 5), (7, iv (best)), (8, iv (x27)), (9, .ptr b9 0 1), (10, iv (j.1)), (25, v_c_Items), (26, iv ((c_Items.length : Int))), (27, iv (x27)), (38, iv ((a30.could.l.length : Int))), (39, iv (j.2))], .row b9 1 [a30.could.v] :: .row w16 5 [iv (y16_2), v_c_Book_Gatherings, v_c_Items, y16_3.v, w16_2] :: ownL true w16_2 encI y16_4 :: .row b1 3 [iv (c_Book_Signed), v_c_Book_Gatherings, v_c_Items] :: C⟩) (w0 := ()) h
      ·exact (sb .refl)
      rintro ⟨worst, x39⟩ _ a h;unfold P_c_Ask_L2 at h;dsimp only at h;dsimp only;refine zU rfl ?_;obtain ⟨c40, hc40⟩ := zY (x39 < (a30.could.l.length : Int));refine zV R3 (Val.lss hc40 rfl rfl) (zN (zS ?_));obtain ⟨rfl, hc40, h⟩ | ⟨rfl, hc40, h⟩ := zI hc40 h
      ·refine zC rfl (zK (zS (zB (zU rfl (zM R4 (zA R4 (zN (zU rfl (zM R4 (zV R3 (Val.nil_ptr rfl) (zV R3 (vW 1 [_,_,_,_,_] R5 R4) (zJ 5 [_,_,_,_,_] R7 (fun b12=>TO.fact (rdl_cellS h_c_Book_Gatherings M5) (fun hoc_Book_Gatherings=>TO.fact (rdl_cellS h_c_Items M5) (fun hoc_Items=>TO.fact (own_cellS (p := 3) rfl) (fun hot3=>TO.eff0 rfl rfl (Eff.store_row (p := 0) (cv := [_, _, _, _, _]) (cells' := [_, _, _, _, _]) rfl rfl rfl rfl rfl rfl rfl rfl (by first | rfl | (simp [GS.one, hoc_Book_Gatherings.2, hoc_Items.2, hot3.2]; done) | (simp [GS.one, hoc_Book_Gatherings.2, hoc_Items.2, hot3.2]; (repeat' apply And.intro) <;> rfl)) (by decide) rfl) ?_))))))))))))))));rintro _ rfl;refine zG (_::_::_::_::_::C) rfl (zN (zU rfl (zF 2 R6 (zL 4 R3 R6 ?_))));refine TO.callJ (W := AV) (fun (j : (List Item)) (w : AV) => w) (fun (j : (List Item)) (w : AV) => ownL false w encIt j :: .row b12 5 [iv (y16_2), v_c_Book_Gatherings, v_c_Items, y16_3.v, w16_2] :: .row b9 1 [a30.could.v] :: .row w16 5 [iv (y16_2), v_c_Book_Gatherings, v_c_Items, y16_3.v, w16_2] :: ownL true w16_2 encI y16_4 :: .row b1 3 [iv (c_Book_Signed), v_c_Book_Gatherings, v_c_Items] :: C) h rfl rfl rfl rfl rfl rfl (orcN rfl) ?_ ?_
       ·intro j h;refine TF.enter (fn := Go.Proofs.Try.f46) rfl rfl rfl rfl rfl (zU rfl (zA R4 (zN (zS (zU rfl (zM R4 ?_))))));obtain ⟨hk4, h⟩ := chk_some h;refine zV R3 (Val.nil_eqT ht_c_Items hk4 rfl rfl rfl) (zN (zD rfl (zK (zU rfl (TO.build0 (en := encIt) rfl rfl rfl ⟨rfl, rfl⟩ (fun v5=>zM R4 ?_))))));obtain ⟨hk7, h⟩ := chk_some h;refine TO.eff rfl rfl rfl (Eff.append_l (b := 24) (en := encIt) (l := ([] : List Item)) (p := 0) ⟨rfl, rfl, rfl, ⟨_, rfl, rfl⟩, by decide, by decide⟩ rfl rfl rfl h_c_Items M6 rfl rfl (en_ones encIt_ones _) (by decide) hk7) ?_;rintro v7 _ rfl;refine zG (_::_::_::_::_::_::C) rfl (zA R4 (zN (zR ?_)));cases h;exact ⟨rfl, _, rfl, ⟨v7, rfl, .refl⟩⟩
       ·rintro l5 v7 h;refine zG (_::_::_::_::_::_::C) rfl (zF 0 R6 (zF 2 R6 (TO.fact (own_cellS (p := 0) rfl) (fun hot7=>TO.eff0 rfl rfl (Eff.store_row (p := 1) (cv := [_]) (cells' := [_, _, _, _, _]) rfl rfl rfl rfl rfl hot7.1 rfl rfl (by first | rfl | (simp [GS.one, hot7.2]; done)) (by decide) rfl) ?_))));rintro _ rfl;refine zG (_::_::_::_::_::_::C) rfl (zN (zS (T.drawE (l1 := [0, 1, 2, 3, 4, 5, 6, 7, 8, 9, 10, 11]) (l2 := [12]) (by kernel_rfl) (by kernel_rfl) (yL R4 (Val.faddr_ptr (fo := 0) rfl rfl rfl) (yL R4 (Val.faddr_ptr (fo := 2) rfl rfl rfl) (yR R4 (vR (p := 1) R6) (yL R4 (Val.move rfl) (yL R4 (Val.faddr_ptr (fo := 0) rfl rfl rfl) (yR R4 (vR (p := 2) R6) (yL R4 (Val.move rfl) (yL R4 (Val.move rfl) ?_)))))))))));obtain ⟨hk58, h⟩ := chk_some h;refine yL R4 (Val.add rfl rfl hk58) ?_;obtain ⟨hk59, h⟩ := chk_some h;obtain ⟨w59, htw59, hgw59, hvw59⟩ := slice_T (RdT.gs a30.could) hk59;obtain ⟨hk59_2, h⟩ := chk_some h;obtain rfl := hgw59 hk59_2;refine yR R4 (hvw59 ⟨rfl, rfl⟩ rfl (.some rfl) (.some rfl)) ?_;obtain ⟨a60, hia60, ea60, h⟩ := el_some h;refine TD1.fact (own_at (en := encIt) (p := 0) rfl hia60) (fun hp=>?_);obtain ⟨ida60, ata60⟩ := hp;refine yL R4 (Val.iaddr_at (en := encIt) ata60 ⟨rfl, rfl⟩ rfl rfl hia60) (yL R4 (Val.faddr_ptr_ rfl rfl) (TD1.over (fun v => sameC_refl v) (all_cons (⟨_, rfl, (hvw59 ⟨rfl, rfl⟩ rfl (.some rfl) (.some rfl))⟩) (all_cons (⟨_, rfl, (vR (p := 2) R6)⟩) (all_cons (⟨_, rfl, (vR (p := 1) R6)⟩) all_nil))) (TD2.heavy (fun v => sameC_refl v) rfl (by decide) rfl rfl (OpS.eff (Eff.store_ownE (en := encIt) (p := 0) (a := a60) (a' := (⟨(GSo true encI (List.take ((x39 + 1) - x39).toNat (List.drop (x39 : Int).toNat a30.could.l)))⟩ : Item)) (j := 0) (cv := [_]) rfl ata60 ea60 rfl rfl (by decide) rfl rfl (GS.cells (GSo true encI (List.take ((x39 + 1) - x39).toNat (List.drop (x39 : Int).toNat a30.could.l)))).1 rfl aG rfl)) ?_)));rintro _ _ rfl;refine ⟨(all_cons (.inl (by kernel_rfl)) (all_cons (.inl (by kernel_rfl)) (all_cons (.inl (by kernel_rfl)) all_nil))), all_nil, ?_⟩;refine yG (_::_::_::_::_::_::C) rfl (TD2.nil (zU rfl ?_));obtain ⟨⟨y62, y62_2⟩, hr62, h⟩ := andx_some h;dsimp only at h;refine TO.callT (first := []) (cap := []) (vs := [.ptr b12 0 5]) rfl rfl rfl rfl rfl rfl (orcN rfl) (tf_c_wide aD (Rdl.mono h_c_Book_Gatherings M6) (Rdl.mono (Rdl.own (C := ownL false v7 encIt (List.set l5 x27.toNat (⟨(GSo true encI (List.take ((x39 + 1) - x39).toNat (List.drop (x39 : Int).toNat a30.could.l)))⟩ : Item)) :: .row b12 5 [iv (y16_2), v_c_Book_Gatherings, v7, y16_3.v, w16_2] :: .row b9 1 [a30.could.v] :: .row w16 5 [iv (y16_2), v_c_Book_Gatherings, v_c_Items, y16_3.v, w16_2] :: ownL true w16_2 encI y16_4 :: .row b1 3 [iv (c_Book_Signed), v_c_Book_Gatherings, v_c_Items] :: C) (p := 0) rfl) mem0) (Rdl.mono (Rdl.gs (C := C) y16_3) M6) (Rdl.mono (Rdl.own (C := ownL false v7 encIt (List.set l5 x27.toNat (⟨(GSo true encI (List.take ((x39 + 1) - x39).toNat (List.drop (x39 : Int).toNat a30.could.l)))⟩ : Item)) :: .row b12 5 [iv (y16_2), v_c_Book_Gatherings, v7, y16_3.v, w16_2] :: .row b9 1 [a30.could.v] :: .row w16 5 [iv (y16_2), v_c_Book_Gatherings, v_c_Items, y16_3.v, w16_2] :: ownL true w16_2 encI y16_4 :: .row b1 3 [iv (c_Book_Signed), v_c_Book_Gatherings, v_c_Items] :: C) (p := 4) rfl) mem0) (List.mem_of_getElem? (i := 1) rfl) hr62) ?_
        rintro _;refine zG (_::_::_::_::_::_::C) rfl (zJ 2 [_,_] R7 (fun b13=>TO.eff0 rfl rfl (Eff.store_row (p := 0) (cv := [_, _]) (cells' := [_, _]) rfl rfl rfl rfl rfl rfl rfl rfl aG (by decide) rfl) ?_));rintro _ rfl;refine zG (_::_::_::_::_::_::_::C) rfl (zN (zT rfl (zM R4 (zF 1 R6 (zL 0 R3 R6 (zF 0 R6 (zL 0 R3 R6 ?_)))))));obtain ⟨hk68, h⟩ := chk_some h;refine zV R3 (Val.sub rfl rfl hk68) (zV R3 (Val.bmax rfl rfl) (zA R4 (zN (zT rfl ?_))));obtain ⟨hk70, h⟩ := chk_some h;refine zV R3 (Val.add rfl rfl hk70) (zM R4 (zN ?_));cases h;exact ⟨rfl, (), (sb (pk [3,3,3,3,98,98,98] rfl))⟩
      refine zD rfl (zE ?_);cases h;exact ⟨ex_ne, ⟨rfl, (), (sb .refl)⟩⟩
     ·rintro worst _ h
      show T _ _ _ _ _ _;apply T.joinA (r := j) (W := Unit) (fun j w => ⟨[], [(1, .ptr b1 0 3), (2, iv (item)), (4, .ptr w16 0 5), (7, iv (best)), (8, iv (x27)), (10, iv (worst)), (25, v_c_Items), (26, iv ((c_Items.length : Int))), (27, iv (x27)), (77, bv j)], .row b9 1 [a30.could.v] :: .row w16 5 [iv (y16_2), v_c_Book_Gatherings, v_c_Items, y16_3.v, w16_2] :: ownL true w16_2 encI y16_4 :: .row b1 3 [iv (c_Book_Signed), v_c_Book_Gatherings, v_c_Items] :: C⟩) h
      ·intro j h;refine zT rfl (zM R4 ?_);obtain ⟨c72, hc72⟩ := zY (best < 0);refine zV R3 (Val.lss hc72 rfl rfl) (zM R4 ?_);obtain ⟨rfl, hc72, h⟩ | ⟨rfl, hc72, h⟩ := zI hc72 h
       ·refine zO R3 (zO R3 (zO R3 (zP R6 (zN ?_))));cases h;exact ⟨rfl, (), (sb .refl)⟩
       refine zM R4 (zM R4 ?_);obtain ⟨c76, hc76⟩ := zY (worst < best);refine zV R3 (Val.lss hc76 rfl rfl) (zP R6 (zN ?_));subst hc76;cases h;exact ⟨rfl, (), (sb .refl)⟩
      ·rintro x77 _ h;obtain ⟨rfl, h⟩ | ⟨rfl, h⟩ := zZ h
       ·refine zC rfl (zT rfl (zM R4 (zM R4 (zA R4 (zA R4 (zN ?_))))));cases h;exact ⟨rfl, (), (sb (pk [1,1,1,98] rfl))⟩
       refine zD rfl (zK ?_);cases h;exact ⟨rfl, (), (sb (pk [1,1,1,98] rfl))⟩
    ·rintro ⟨item_2, best_2⟩ _ h;dsimp only at h;dsimp only;refine zT rfl ?_;obtain ⟨hk80, h⟩ := chk_some h;refine zV R3 (Val.add rfl rfl hk80) (zM R4 (zN ?_));cases h;exact ⟨rfl, (), (sb .refl)⟩
   refine zD rfl (zE ?_);cases h;exact ⟨ex_ne, ⟨rfl, (), (sb .refl)⟩⟩
  ·rintro ⟨item, best⟩ _ h;dsimp only at h;dsimp only;refine zS (zU rfl (zM R4 ?_));obtain ⟨c82, hc82⟩ := zY (best < 0);refine zV R3 (Val.lss hc82 rfl rfl) (zN ?_);obtain ⟨rfl, hc82, h⟩ | ⟨rfl, hc82, h⟩ := zI hc82 h
   ·refine zC rfl (zU rfl (zA R4 (zA R4 (zN (zR ?_)))));cases h;exact ⟨rfl, _, rfl, ⟨(), rfl, (pk [98,98,98] rfl)⟩⟩
   refine zD rfl (zK (zU rfl (zM R4 (zA R4 (zA R4 (zN (zR ?_)))))));cases h;exact ⟨rfl, _, rfl, ⟨(), rfl, (pk [98,98,98] rfl)⟩⟩
theorem w_c_Ask (c_Book_Signed : Int) (c_Book_Gatherings : GS encG) (c_Items : GS encIt) (r : Int × Int) (h : P_c_Ask c_Book_Signed c_Book_Gatherings.l c_Items.l = some r) : Comes (EL 5) 18 [.agg [iv (c_Book_Signed), c_Book_Gatherings.v, c_Items.v]] (.tuple [iv r.1, iv r.2]) :=
 TF.run (tf_c_Ask (Nat.le_refl _) (RdT.gs c_Book_Gatherings) (RdT.gs c_Items) h) fun w => (.tuple (.cons .lit (.cons .lit .nil)))
end Go.Am.Ythckcbfijdambaa
end
section
namespace Go.Am
set_option linter.unusedVariables false
noncomputable def P_l_valid (c_Book_Signed : Int) (c_Book_Gatherings : List Gat) (c_Items : List Item) : Option Bool :=
 andx (P_r4_Check c_Book_Signed c_Book_Gatherings c_Items) fun (y8, y8_2, y8_3) =>
  some (decide (y8_3 = 0))
noncomputable def P_l_width (c_Book_Signed : Int) (c_Book_Gatherings : List Gat) (c_Items : List Item) (item : Int) (which : Int) : Option Int :=
  el c_Items item fun a15 =>
  el a15.could.l which fun a19 =>
  andx (
    chk (([] : List Item).length + c_Items.length < 1000000000) (
      el (([] : List Item) ++ c_Items) item fun a18 =>
      some (c_Book_Signed, [a19], ([] : List Item) ++ c_Items, item.toNat))) fun (y21, l16, b6_Book_Signed, i) =>
    andx (P_c_Range y21 c_Book_Gatherings (List.set b6_Book_Signed i (⟨GSo false encI l16⟩ : Item))) fun (y22, y22_2, y22_3) =>
      if ¬ y22_3 = 0 then
        some (-1)
      else
        chk (I64 (y22_2 - y22)) (
          some (y22_2 - y22))
noncomputable def P_l_worst_L1 (c_Book_Signed : Int) (c_Book_Gatherings : List Gat) (c_Items : List Item) (item : Int) : (Int × Int) → Option (Stp (Int × Int) Int) := fun (n, k_) =>
  el c_Items item fun a11 =>
  if k_ < (a11.could.l.length : Int) then
    andx (P_l_width c_Book_Signed c_Book_Gatherings c_Items item k_) fun y22 =>
      chk (I64 (k_ + 1)) (
        some (Stp.ag ((max n y22), (k_ + 1))))
  else
    some (Stp.dn n)
noncomputable def P_l_worst (c_Book_Signed : Int) (c_Book_Gatherings : List Gat) (c_Items : List Item) (item : Int) : Option Int :=
  andx (
    iter (P_l_worst_L1 c_Book_Signed c_Book_Gatherings c_Items item) ((-1), 0)) fun n =>
    some n
noncomputable def P_law_CopyAsked_L1 (c_Items : List Item) : (Int × (List Int)) → Option (Stp (Int × (List Int)) (List Int)) := fun (k_, doubts) =>
  if k_ < (c_Items.length : Int) then
    andx (
      el c_Items k_ fun a39 =>
      if (a39.could.l.length : Int) > 1 then
        chk (doubts.length + [k_].length < 1000000000) (
          some (doubts ++ [k_]))
      else
        some doubts) fun doubts_2 =>
      chk (I64 (k_ + 1)) (
        some (Stp.ag ((k_ + 1), doubts_2)))
  else
    some (Stp.dn doubts)
noncomputable def P_law_CopyAsked (c_Book_Signed : Int) (c_Book_Gatherings : List Gat) (c_Items : List Item) (x : UInt16) : Option Bool :=
  andx (P_c_Ask c_Book_Signed c_Book_Gatherings c_Items) fun (y14, y14_2) =>
    andx (P_l_valid c_Book_Signed c_Book_Gatherings c_Items) fun y18 =>
      if y18 = true then
        andx (
          iter (P_law_CopyAsked_L1 c_Items) (0, [])) fun doubts =>
          if (doubts.length : Int) = 0 then
            andx (
              if y14_2 = 4 then
                if y14 = 0 then
                  some true
                else
                  some false
              else
                some false) fun x4 =>
              some x4
          else
            seqx (
              andx (
                if ¬ y14_2 = 0 then
                  some true
                else
                  andx (P_r1_Has doubts y14) fun has65 =>
                    some (!has65)) fun x67 =>
                if x67 = true then
                  some (Ex.rt false)
                else
                  some (Ex.nx ())) fun _ =>
              andx (P_c_Range c_Book_Signed c_Book_Gatherings c_Items) fun (y70, y70_2, y70_3) =>
                andx (P_l_worst c_Book_Signed c_Book_Gatherings c_Items y14) fun y75 =>
                  andx (
                    if y70_3 = 0 then
                      if y75 ≥ 0 then
                        chk (I64 (y70_2 - y70)) (
                          if y75 ≤ (y70_2 - y70) then
                            chk (-9223372036854775808 ≤ (x.toNat : Int) ∧ (x.toNat : Int) < 9223372036854775808) (
                              chk (0 < (doubts.length : Int)) (
                                el doubts (Int.tmod (x.toNat : Int) (doubts.length : Int)) fun a100 =>
                                andx (P_l_worst c_Book_Signed c_Book_Gatherings c_Items a100) fun y102 =>
                                  if y75 ≤ y102 then
                                    some true
                                  else
                                    some false))
                          else
                            some false)
                      else
                        some false
                    else
                      some false) fun x4 =>
                    some x4
      else
        andx (
          if ¬ y14_2 = 0 then
            if y14 = 0 then
              some true
            else
              some false
          else
            some false) fun x4 =>
          some x4
end Go.Am
end
section
namespace Go.Am.Ythckcbfijdambaa
open Go.Am Go.RowKit
set_option linter.unusedVariables false
set_option linter.unusedSimpArgs false
set_option maxRecDepth 10000 in
theorem tf_l_valid {k : Nat} (hk : 5 ≤ k) {C : List Thing} {c_Book_Signed : Int} {v_c_Book_Gatherings : AV} {c_Book_Gatherings : List Gat} {v_c_Items : AV} {c_Items : List Item} (ht_c_Book_Gatherings : RdT encG v_c_Book_Gatherings c_Book_Gatherings) (ht_c_Items : RdT encIt v_c_Items c_Items) {r : Bool} (h : P_l_valid c_Book_Signed c_Book_Gatherings c_Items = some r) :
  TF (EL k) 29 [.agg [iv (c_Book_Signed), v_c_Book_Gatherings, v_c_Items]] C (RepF (fun (w : Unit) => bv r) (fun (w : Unit) => C)) := by
 unfold P_l_valid at h
 have h_c_Book_Gatherings : Rdl C encG v_c_Book_Gatherings c_Book_Gatherings := RdT.rdl ht_c_Book_Gatherings
 have h_c_Items : Rdl C encIt v_c_Items c_Items := RdT.rdl ht_c_Items;refine TF.enter (fn := Go.Proofs.Try.f29) rfl rfl rfl rfl rfl (zU rfl (zQ 3 [_,_,_] R7 (fun b1=>zA R4 (zN (zU rfl (zV R3 (vW 0 [_,_,_] R5 R4) ?_))))));obtain ⟨⟨y8, y8_2, y8_3⟩, hr8, h⟩ := andx_some h;dsimp only at h;obtain ⟨g, hgg, hrg⟩ := Rdl.reif (hs := .row b1 3 [iv (c_Book_Signed), v_c_Book_Gatherings, v_c_Items] :: C) h_c_Book_Gatherings M1 (ReifL.flat encG_tr);obtain ⟨g_2, hgg_2, hrg_2⟩ := Rdl.reif (hs := .row b1 3 [iv (c_Book_Signed), v_c_Book_Gatherings, v_c_Items] :: C) h_c_Items M1 (ReifL.flat encIt_tr);refine TO.call rfl rfl rfl rfl rfl (orcL rfl aD) (.cons (.agg (.cons .lit (.cons (hrg _) (.cons (hrg_2 _) .nil)))) .nil) (sem_of (w_r4_Check c_Book_Signed g g_2 _ (by try rw [hgg]; try rw [hgg_2]; exact hr8))) (zM R4 (zX R5 (zX R5 (zX R5 (zA R4 (zA R4 (zA R4 (zN (zU rfl (zM R4 ?_))))))))));obtain ⟨c13, hc13⟩ := zY (y8_3 = 0);refine zV R3 (Val.eql hc13 rfl rfl) (zA R4 (zN (zR ?_)));subst hc13;cases h;exact ⟨rfl, _, rfl, ⟨(), rfl, (pk [98] rfl)⟩⟩
theorem w_l_valid (c_Book_Signed : Int) (c_Book_Gatherings : GS encG) (c_Items : GS encIt) (r : Bool) (h : P_l_valid c_Book_Signed c_Book_Gatherings.l c_Items.l = some r) : Comes (EL 5) 29 [.agg [iv (c_Book_Signed), c_Book_Gatherings.v, c_Items.v]] (bv r) :=
 TF.run (tf_l_valid (Nat.le_refl _) (RdT.gs c_Book_Gatherings) (RdT.gs c_Items) h) fun w => .lit
set_option maxRecDepth 10000 in
theorem tf_l_width {k : Nat} (hk : 6 ≤ k) {C : List Thing} {c_Book_Signed : Int} {v_c_Book_Gatherings : AV} {c_Book_Gatherings : List Gat} {v_c_Items : AV} {c_Items : List Item} {item : Int} {which : Int} (ht_c_Book_Gatherings : RdT encG v_c_Book_Gatherings c_Book_Gatherings) (ht_c_Items : RdT encIt v_c_Items c_Items) {r : Int} (h : P_l_width c_Book_Signed c_Book_Gatherings c_Items item which = some r) :
  TF (EL k) 55 [.agg [iv (c_Book_Signed), v_c_Book_Gatherings, v_c_Items], iv (item), iv (which)] C (RepF (fun (w : Unit) => iv r) (fun (w : Unit) => C)) := by
 unfold P_l_width at h
 have h_c_Book_Gatherings : Rdl C encG v_c_Book_Gatherings c_Book_Gatherings := RdT.rdl ht_c_Book_Gatherings
 have h_c_Items : Rdl C encIt v_c_Items c_Items := RdT.rdl ht_c_Items;refine TF.enter (fn := Go.Proofs.Try.f55) rfl rfl rfl rfl rfl (zU rfl (zQ 3 [_,_,_] R7 (fun b3=>zA R4 (zN (zS (T.drawE (l1 := [0, 1, 2, 3, 4, 5, 6, 7, 8, 9, 10, 16]) (l2 := [11, 12, 13, 14, 15, 17, 18]) (by kernel_rfl) (by kernel_rfl) (yR R4 (vW 0 [_,_,_] R5 R4) (yL R4 (Val.move rfl) (yL R4 (Val.faddr_ptr (fo := 2) rfl rfl rfl) (yR R4 (vR (p := 0) R6) (yL R4 (Val.move rfl) ?_)))))))))));obtain ⟨a15, hia15, ea15, h⟩ := el_some h;refine TD1.fact (rdl_at h_c_Items M1 hia15 ea15) (fun hp=>?_);obtain ⟨pa15, hpa15, hva15⟩ := hp;refine yL R4 (hva15 ⟨rfl, rfl⟩ rfl rfl) (yL R4 (Val.faddr_e (fo := 0) hpa15 rfl rfl rfl) (yR R4 (Val.load_e (PtE.add hpa15 (by decide)) M1 ⟨_, rfl, rfl⟩ rfl rfl) (yL R4 (Val.move rfl) ?_)));obtain ⟨a19, hia19, ea19, h⟩ := el_some h;refine TD1.fact (rdl_at (Rdl.gs (C := C) a15.could) M1 hia19 ea19) (fun hp=>?_);obtain ⟨pa19, hpa19, hva19⟩ := hp;refine yL R4 (hva19 ⟨rfl, rfl⟩ rfl rfl) (yR R4 (Val.load_e hpa19 M1 ⟨_, rfl, rfl⟩ rfl rfl) (TD1.floatN rfl rfl rfl rfl (New.alloc (k := 2) (cells := [_, _]) rfl rfl rfl rfl) (fun b7=>TD1.over (fun v => sameC_refl v) (all_cons (⟨_, rfl, (Val.load_e hpa19 M2 ⟨_, rfl, rfl⟩ rfl rfl)⟩) (all_cons (⟨_, rfl, (Val.load_e (PtE.add hpa15 (by decide)) M2 ⟨_, rfl, rfl⟩ rfl rfl)⟩) (all_cons (⟨_, rfl, (vR (p := 1) R6)⟩) (all_cons (⟨_, rfl, (vW 1 [_,_,_] R5 R4)⟩) all_nil)))) ?_)));refine TD2.callJ (fun v => sameC_refl v) (W := AV × AV) (fun (j : Int × (List Int) × (List Item) × Nat) (w : AV × AV) => .agg [iv (j.1), v_c_Book_Gatherings, w.2]) (fun (j : Int × (List Int) × (List Item) × Nat) (w : AV × AV) => ownL false w.1 encI j.2.1 :: mixL false w.2 j.2.2.1 j.2.2.2 w.1 :: .obj b7 (.row [iv (0), iv (0)] 2 0) :: .row b3 3 [iv (c_Book_Signed), v_c_Book_Gatherings, v_c_Items] :: C) h rfl (by decide) rfl rfl rfl rfl rfl (orcN rfl) ?_ ?_
 ·intro j h;refine TF.enterG (fn := Go.Proofs.Try.f72) rfl rfl rfl rfl rfl (zU rfl (zQ 3 [_,_,_] R7 (fun b3_2=>zJ 3 [_,_,_] R7 (fun b6=>zN (zU rfl (TO.build0 (en := encIt) rfl rfl rfl ⟨rfl, rfl⟩ (fun v7=>zF 2 R6 (zL 2 R3 R6 ?_))))))));obtain ⟨hk10, h⟩ := chk_some h;refine TO.eff rfl rfl rfl (Eff.append_l (b := 24) (en := encIt) (l := ([] : List Item)) (p := 0) ⟨rfl, rfl, rfl, ⟨_, rfl, rfl⟩, by decide, by decide⟩ rfl rfl rfl h_c_Items M5 rfl rfl (en_ones encIt_ones _) (by decide) hk10) ?_;rintro v10 _ rfl;refine zG (_::_::_::_::_::C) rfl (zF 2 R6 (TO.fact (own_cellS (p := 0) rfl) (fun hot5=>TO.eff0 rfl rfl (Eff.store_row (p := 2) (cv := [_]) (cells' := [_, _, _]) rfl rfl rfl rfl rfl hot5.1 rfl rfl (by first | rfl | (simp [GS.one, hot5.2]; done)) (by decide) rfl) ?_)));rintro _ rfl;refine zG (_::_::_::_::_::C) rfl (zN (zU rfl (zF 2 R6 (zL 2 R3 R6 (zM R4 (zM R4 (TO.build1 (en := encI) (a := a19) rfl rfl rfl ⟨rfl, rfl⟩ ⟨_, rfl, rfl⟩ (by decide) (by decide) rfl rfl (fun v16=>TO.fact (own_cellS (p := 0) rfl) (fun hot6=>zV R3 (Val.buildC (cs := [_]) (vs := [(_, _)]) (ws := [(_, [_])]) rfl rfl (CellsL.cons hot6.1 CellsL.nil) rfl) ?_)))))))));obtain ⟨a18, hia18, ea18, h⟩ := el_some h;refine TO.fact (own_at (en := encIt) (p := 1) rfl hia18) (fun hp=>?_);obtain ⟨ida18, ata18⟩ := hp;refine zV R3 (Val.iaddr_at (en := encIt) ata18 ⟨rfl, rfl⟩ rfl rfl hia18) (TO.fact (own_cellS (p := 0) rfl) (fun hot6=>TO.eff0 rfl rfl (Eff.store_mix (p := 1) (a := a18) rfl ata18 ea18 rfl rfl rfl rfl (by first | rfl | (simp [GS.one, hot6.2]; done))) ?_));rintro _ rfl;refine zG (_::_::_::_::_::_::C) rfl (zN (zU rfl (zV R3 (vW 3 [_,_,_] R5 R4) (TO.fact (rdl_cellS h_c_Book_Gatherings M6) (fun hoc_Book_Gatherings=>TO.fact (own_cellS (p := 1) rfl) (fun hot5=>TO.eff0 rfl rfl (Eff.store_row (p := 2) (cv := [_, _, _]) (cells' := [_, _, _]) rfl rfl rfl rfl rfl rfl rfl rfl (by first | rfl | (simp [GS.one, hoc_Book_Gatherings.2, hot5.2]; done) | (simp [GS.one, hoc_Book_Gatherings.2, hot5.2]; (repeat' apply And.intro) <;> rfl)) (by decide) rfl) ?_))))));rintro _ rfl;refine zG (_::_::_::_::_::_::C) rfl (zN (zR ?_));cases h;exact ⟨rfl, _, rfl, [_], ⟨⟨_, rfl, LoadR.rows (p := 2) (c := [_, _, _]) rfl ⟨⟨_, rfl, rfl⟩, rfl, by decide⟩ rfl rfl rfl⟩, trivial⟩, ⟨(v16, v10), rfl, (pk [0,0,2,2,98,98] rfl)⟩⟩
 ·rintro ⟨y21, l16, b6_Book_Signed, i⟩ ⟨v6, v7⟩ h;dsimp only at h;refine ⟨(all_cons (.inl (by kernel_rfl)) (all_cons (.inl (by kernel_rfl)) (all_cons (.inl (by kernel_rfl)) (all_cons (.inl (by kernel_rfl)) all_nil)))), (all_cons (.inr (by repeat first | exact List.mem_cons_self | apply List.mem_cons_of_mem)) all_nil), ?_⟩;refine yG (_::_::_::_::C) rfl ?_;obtain ⟨⟨y22, y22_2, y22_3⟩, hr22, h⟩ := andx_some h;dsimp only at h;obtain ⟨g, hgg, hrg⟩ := Rdl.reif (hs := ownL false v6 encI l16 :: mixL false v7 b6_Book_Signed i v6 :: .obj b7 (.row [iv (0), iv (0)] 2 0) :: .row b3 3 [iv (c_Book_Signed), v_c_Book_Gatherings, v_c_Items] :: C) h_c_Book_Gatherings M4 (ReifL.flat encG_tr);refine TD2.heavy (fun v => sameC_refl v) rfl (by decide) rfl rfl (OpS.call rfl rfl rfl (orcL rfl aD) (.cons (.agg (.cons .lit (.cons (hrg _) (.cons (.mix (p := 1) (q := 0) rfl rfl) .nil)))) .nil) (sem_of (w_c_Range y21 g (GSo false encIt (List.set b6_Book_Signed i (⟨GSo false encI l16⟩ : Item))) _ (by try rw [hgg]; exact hr22)))) ?_;rintro _ _ ⟨rfl, rfl⟩;refine ⟨(all_cons (.inl (by kernel_rfl)) (all_cons (.inl (by kernel_rfl)) (all_cons (.inl (by kernel_rfl)) (all_cons (.inl (by kernel_rfl)) all_nil)))), (all_cons (.inr (by repeat first | exact List.mem_cons_self | apply List.mem_cons_of_mem)) all_nil), ?_⟩;refine yM R4 (Val.move rfl) (yM R4 (Val.extract rfl rfl) (yM R4 (Val.extract rfl rfl) (TD2.less (Less.floatRow (p := 2) rfl) (yG (_::_::_::_::C) rfl (TD2.heavy (fun v => sameC_refl v) rfl (by decide) rfl rfl (OpS.eff (Eff.store_row (p := 2) (cv := [_, _]) (cells' := [_, _]) rfl rfl rfl rfl rfl rfl rfl rfl aG (by decide) rfl)) ?_)))));rintro _ _ rfl;refine ⟨(all_cons (.inl (by kernel_rfl)) (all_cons (.inl (by kernel_rfl)) (all_cons (.inl (by kernel_rfl)) (all_cons (.inl (by kernel_rfl)) all_nil)))), (all_cons (.inl (by kernel_rfl)) all_nil), ?_⟩;refine yG (_::_::_::_::C) rfl (yM R4 (Val.assign rfl) (TD2.nil (zS (zU rfl (zM R4 ?_)))));obtain ⟨c26, hc26⟩ := zY (¬ y22_3 = 0);refine zV R3 (Val.neq hc26 rfl rfl) (zN ?_);obtain ⟨rfl, hc26, h⟩ | ⟨rfl, hc26, h⟩ := zI hc26 h
  ·refine zC rfl (zU rfl (zA R4 (zN (zR ?_))));cases h;exact ⟨rfl, _, rfl, ⟨(), rfl, (pk [98,98,98,98] rfl)⟩⟩
  refine zD rfl (zK (zU rfl (zF 1 R6 (zL 2 R3 R6 (zF 0 R6 (zL 2 R3 R6 ?_))))));obtain ⟨hk31, h⟩ := chk_some h;refine zV R3 (Val.sub rfl rfl hk31) (zA R4 (zN (zR ?_)));cases h;exact ⟨rfl, _, rfl, ⟨(), rfl, (pk [98,98,98,98] rfl)⟩⟩
theorem w_l_width (c_Book_Signed : Int) (c_Book_Gatherings : GS encG) (c_Items : GS encIt) (item : Int) (which : Int) (r : Int) (h : P_l_width c_Book_Signed c_Book_Gatherings.l c_Items.l item which = some r) : Comes (EL 6) 55 [.agg [iv (c_Book_Signed), c_Book_Gatherings.v, c_Items.v], iv (item), iv (which)] (iv r) :=
 TF.run (tf_l_width (Nat.le_refl _) (RdT.gs c_Book_Gatherings) (RdT.gs c_Items) h) fun w => .lit
set_option maxRecDepth 10000 in
theorem tf_l_worst {k : Nat} (hk : 7 ≤ k) {C : List Thing} {c_Book_Signed : Int} {v_c_Book_Gatherings : AV} {c_Book_Gatherings : List Gat} {v_c_Items : AV} {c_Items : List Item} {item : Int} (ht_c_Book_Gatherings : RdT encG v_c_Book_Gatherings c_Book_Gatherings) (ht_c_Items : RdT encIt v_c_Items c_Items) {r : Int} (h : P_l_worst c_Book_Signed c_Book_Gatherings c_Items item = some r) :
  TF (EL k) 35 [.agg [iv (c_Book_Signed), v_c_Book_Gatherings, v_c_Items], iv (item)] C (RepF (fun (w : Unit) => iv r) (fun (w : Unit) => C)) := by
 unfold P_l_worst at h
 have h_c_Book_Gatherings : Rdl C encG v_c_Book_Gatherings c_Book_Gatherings := RdT.rdl ht_c_Book_Gatherings
 have h_c_Items : Rdl C encIt v_c_Items c_Items := RdT.rdl ht_c_Items;refine TF.enter (fn := Go.Proofs.Try.f35) rfl rfl rfl rfl rfl (zU rfl (zQ 3 [_,_,_] R7 (fun b2=>zA R4 (zN (zU rfl (zA R4 (zN ?_)))))))
 show T _ _ _ _ _ _;apply T.joinA (r := r) (W := Unit) (fun j w => ⟨[], [(5, iv (j))], .row b2 3 [iv (c_Book_Signed), v_c_Book_Gatherings, v_c_Items] :: C⟩) h
 ·intro j h;refine zU rfl (zA R4 (zN (zB ?_)))
  show T _ _ _ _ _ _;apply T.iter (r := j) (W := Unit) (fun j w => ⟨[], [(1, iv (item)), (2, .ptr b2 0 3), (5, iv (j.1)), (6, iv (j.2))], .row b2 3 [iv (c_Book_Signed), v_c_Book_Gatherings, v_c_Items] :: C⟩) (w0 := ()) h
  ·exact (sb .refl)
  rintro ⟨n, k_⟩ _ a h;unfold P_l_worst_L1 at h;dsimp only at h;dsimp only;refine zS (zU rfl (zM R4 (zF 2 R6 (zL 0 R3 R6 (zM R4 ?_)))));obtain ⟨a11, hia11, ea11, h⟩ := el_some h;refine TO.fact (rdl_at h_c_Items M1 hia11 ea11) (fun hp=>?_);obtain ⟨pa11, hpa11, hva11⟩ := hp;refine zV R3 (hva11 ⟨rfl, rfl⟩ rfl rfl) (zV R3 (Val.faddr_e (fo := 0) hpa11 rfl rfl rfl) (zV R3 (Val.load_e (PtE.add hpa11 (by decide)) M1 ⟨_, rfl, rfl⟩ rfl rfl) (zV R3 (Val.len_gs rfl rfl) ?_)));obtain ⟨c15, hc15⟩ := zY (k_ < (a11.could.l.length : Int));refine zV R3 (Val.lss hc15 rfl rfl) (zN ?_);obtain ⟨rfl, hc15, h⟩ | ⟨rfl, hc15, h⟩ := zI hc15 h
  ·refine zC rfl (zK (zS (zB (zT rfl (zM R4 (zV R3 (vW 0 [_,_,_] R5 R4) (zM R4 (zM R4 ?_))))))));obtain ⟨y22, hr22, h⟩ := andx_some h;obtain ⟨g, hgg, hrg⟩ := Rdl.reif (hs := .row b2 3 [iv (c_Book_Signed), v_c_Book_Gatherings, v_c_Items] :: C) h_c_Book_Gatherings M1 (ReifL.flat encG_tr);obtain ⟨g_2, hgg_2, hrg_2⟩ := Rdl.reif (hs := .row b2 3 [iv (c_Book_Signed), v_c_Book_Gatherings, v_c_Items] :: C) h_c_Items M1 (ReifL.flat encIt_tr);refine TO.call rfl rfl rfl rfl rfl (orcL rfl aD) (.cons (.agg (.cons .lit (.cons (hrg _) (.cons (hrg_2 _) .nil)))) (.cons .lit (.cons .lit .nil))) (sem_of (w_l_width c_Book_Signed g g_2 item k_ _ (by try rw [hgg]; try rw [hgg_2]; exact hr22))) (zV R3 (Val.bmax rfl rfl) (zA R4 (zN (zT rfl (zM R4 ?_)))));obtain ⟨hk17, h⟩ := chk_some h;refine zV R3 (Val.add rfl rfl hk17) (zA R4 (zN ?_));cases h;exact ⟨rfl, (), (sb .refl)⟩
  refine zD rfl (zE ?_);cases h;exact ⟨ex_ne, ⟨rfl, (), (sb .refl)⟩⟩
 ·rintro n _ h;refine zU rfl (zM R4 (zA R4 (zN (zR ?_))));cases h;exact ⟨rfl, _, rfl, ⟨(), rfl, (pk [98] rfl)⟩⟩
theorem w_l_worst (c_Book_Signed : Int) (c_Book_Gatherings : GS encG) (c_Items : GS encIt) (item : Int) (r : Int) (h : P_l_worst c_Book_Signed c_Book_Gatherings.l c_Items.l item = some r) : Comes (EL 7) 35 [.agg [iv (c_Book_Signed), c_Book_Gatherings.v, c_Items.v], iv (item)] (iv r) :=
 TF.run (tf_l_worst (Nat.le_refl _) (RdT.gs c_Book_Gatherings) (RdT.gs c_Items) h) fun w => .lit
set_option maxRecDepth 10000 in
theorem tf_law_CopyAsked {k : Nat} (hk : 8 ≤ k) {C : List Thing} {c_Book_Signed : Int} {v_c_Book_Gatherings : AV} {c_Book_Gatherings : List Gat} {v_c_Items : AV} {c_Items : List Item} {x : UInt16} (ht_c_Book_Gatherings : RdT encG v_c_Book_Gatherings c_Book_Gatherings) (ht_c_Items : RdT encIt v_c_Items c_Items) {r : Bool} (h : P_law_CopyAsked c_Book_Signed c_Book_Gatherings c_Items x = some r) :
  TF (EL k) 9 [.agg [iv (c_Book_Signed), v_c_Book_Gatherings, v_c_Items], ivk .u16 ((x.toNat : Int))] C (RepF (fun (w : Unit) => bv r) (fun (w : Unit) => C)) := by
 unfold P_law_CopyAsked at h
 have h_c_Book_Gatherings : Rdl C encG v_c_Book_Gatherings c_Book_Gatherings := RdT.rdl ht_c_Book_Gatherings
 have h_c_Items : Rdl C encIt v_c_Items c_Items := RdT.rdl ht_c_Items;refine TF.enter (fn := Go.Proofs.Try.f9) rfl rfl rfl rfl rfl (zU rfl (zQ 3 [_,_,_] R7 (fun b2=>zA R4 (zN (zU rfl (zV R3 (vW 0 [_,_,_] R5 R4) ?_))))));obtain ⟨⟨y14, y14_2⟩, hr14, h⟩ := andx_some h;dsimp only at h;obtain ⟨g, hgg, hrg⟩ := Rdl.reif (hs := .row b2 3 [iv (c_Book_Signed), v_c_Book_Gatherings, v_c_Items] :: C) h_c_Book_Gatherings M1 (ReifL.flat encG_tr);obtain ⟨g_2, hgg_2, hrg_2⟩ := Rdl.reif (hs := .row b2 3 [iv (c_Book_Signed), v_c_Book_Gatherings, v_c_Items] :: C) h_c_Items M1 (ReifL.flat encIt_tr);refine TO.call rfl rfl rfl rfl rfl (orcL rfl aD) (.cons (.agg (.cons .lit (.cons (hrg _) (.cons (hrg_2 _) .nil)))) .nil) (sem_of (w_c_Ask c_Book_Signed g g_2 _ (by try rw [hgg]; try rw [hgg_2]; exact hr14))) (zM R4 (zX R5 (zX R5 (zA R4 (zA R4 (zN (zS (zU rfl (zV R3 (vW 0 [_,_,_] R5 R4) ?_)))))))));obtain ⟨y18, hr18, h⟩ := andx_some h;obtain ⟨g_3, hgg_3, hrg_3⟩ := Rdl.reif (hs := .row b2 3 [iv (c_Book_Signed), v_c_Book_Gatherings, v_c_Items] :: C) h_c_Book_Gatherings M1 (ReifL.flat encG_tr);obtain ⟨g_4, hgg_4, hrg_4⟩ := Rdl.reif (hs := .row b2 3 [iv (c_Book_Signed), v_c_Book_Gatherings, v_c_Items] :: C) h_c_Items M1 (ReifL.flat encIt_tr);refine TO.call rfl rfl rfl rfl rfl (orcL rfl aD) (.cons (.agg (.cons .lit (.cons (hrg_3 _) (.cons (hrg_4 _) .nil)))) .nil) (sem_of (w_l_valid c_Book_Signed g_3 g_4 _ (by try rw [hgg_3]; try rw [hgg_4]; exact hr18))) (zV R3 (Val.not rfl) (zN ?_));obtain ⟨rfl, h⟩ | ⟨rfl, h⟩ := zZ h
 ·refine zD rfl (zK (zU rfl (zA R4 (zN ?_))))
  show T _ _ _ _ _ _;apply T.joinA (r := r) (W := AV) (fun j w => ⟨[], [(1, ivk .u16 ((x.toNat : Int))), (2, .ptr b2 0 3), (5, iv (y14)), (6, iv (y14_2)), (7, w)], ownL true w encI j :: .row b2 3 [iv (c_Book_Signed), v_c_Book_Gatherings, v_c_Items] :: C⟩) h
  ·intro j h;refine zU rfl (zA R4 (zN (zB (T.nilown (u := encI.u) ?_))))
   show T _ _ _ _ _ _;apply T.iter (r := j) (W := AV) (fun j w => ⟨[], [(1, ivk .u16 ((x.toNat : Int))), (2, .ptr b2 0 3), (5, iv (y14)), (6, iv (y14_2)), (7, w), (8, iv (j.1))], ownL true w encI j.2 :: .row b2 3 [iv (c_Book_Signed), v_c_Book_Gatherings, v_c_Items] :: C⟩) (w0 := nilS) h
   ·exact (sb .refl)
   rintro ⟨k_, doubts⟩ v2 a h;unfold P_law_CopyAsked_L1 at h;dsimp only at h;dsimp only;refine zS (zU rfl (zM R4 (zF 2 R6 (zL 1 R3 R6 (zV R3 (Val.len_l h_c_Items M2 rfl rfl) ?_)))));obtain ⟨c33, hc33⟩ := zY (k_ < (c_Items.length : Int));refine zV R3 (Val.lss hc33 rfl rfl) (zN ?_);obtain ⟨rfl, hc33, h⟩ | ⟨rfl, hc33, h⟩ := zI hc33 h
   ·refine zC rfl (zK ?_)
    show T _ _ _ _ _ _;apply T.joinA (r := a) (W := AV) (fun j w => ⟨[], [(1, ivk .u16 ((x.toNat : Int))), (2, .ptr b2 0 3), (5, iv (y14)), (6, iv (y14_2)), (7, w), (8, iv (k_))], ownL true w encI j :: .row b2 3 [iv (c_Book_Signed), v_c_Book_Gatherings, v_c_Items] :: C⟩) h
    ·intro j h;refine zB (zU rfl (zF 2 R6 (zL 1 R3 R6 (zM R4 ?_))));obtain ⟨a39, hia39, ea39, h⟩ := el_some h;refine TO.fact (rdl_at h_c_Items M2 hia39 ea39) (fun hp=>?_);obtain ⟨pa39, hpa39, hva39⟩ := hp;refine zV R3 (hva39 ⟨rfl, rfl⟩ rfl rfl) (zV R3 (Val.faddr_e (fo := 0) hpa39 rfl rfl rfl) (zV R3 (Val.load_e (PtE.add hpa39 (by decide)) M2 ⟨_, rfl, rfl⟩ rfl rfl) (zV R3 (Val.len_gs rfl rfl) ?_)));obtain ⟨c43, hc43⟩ := zY ((a39.could.l.length : Int) > 1);refine zV R3 (Val.gtr hc43 rfl rfl) (zN ?_);obtain ⟨rfl, hc43, h⟩ | ⟨rfl, hc43, h⟩ := zI hc43 h
     ·refine zC rfl (zT rfl (zM R4 (zM R4 (TO.build1 (en := encI) (a := k_) rfl rfl rfl ⟨rfl, rfl⟩ ⟨_, rfl, rfl⟩ (by decide) (by decide) rfl rfl (fun v46=>?_)))));obtain ⟨hk47, h⟩ := chk_some h;refine TO.eff rfl rfl rfl (Eff.append_own (b := 8) (en := encI) (l := doubts) (l2 := [k_]) (p := 1) (q := 0) ⟨rfl, rfl, rfl, ⟨_, rfl, rfl⟩, by decide, by decide⟩ rfl rfl rfl rfl rfl rfl (flat_ones _) (by decide) hk47) ?_;rintro v47 _ rfl;refine zG (_::_::_::C) rfl (zA R4 (zN ?_));cases h;exact ⟨rfl, v47, (sb (pk [1,1,98] rfl))⟩
     refine zD rfl (zK ?_);cases h;exact ⟨rfl, v2, (sb .refl)⟩
    ·rintro doubts_2 v2_2 h;refine zT rfl (zM R4 ?_);obtain ⟨hk35, h⟩ := chk_some h;refine zV R3 (Val.add rfl rfl hk35) (zA R4 (zN ?_));cases h;exact ⟨rfl, v2_2, (sb .refl)⟩
   refine zD rfl (zE ?_);cases h;exact ⟨ex_ne, ⟨rfl, v2, (sb .refl)⟩⟩
  ·rintro doubts v2 h;refine zS (zU rfl (zM R4 (zV R3 (Val.len_own (p := 0) rfl rfl rfl) ?_)));obtain ⟨c50, hc50⟩ := zY ((doubts.length : Int) = 0);refine zV R3 (Val.eql hc50 rfl rfl) (zN ?_);obtain ⟨rfl, hc50, h⟩ | ⟨rfl, hc50, h⟩ := zI hc50 h
   ·refine zC rfl ?_
    show T _ _ _ _ _ _;apply T.joinA (r := r) (W := Unit) (fun j w => ⟨[], [(4, bv j)], ownL true v2 encI doubts :: .row b2 3 [iv (c_Book_Signed), v_c_Book_Gatherings, v_c_Items] :: C⟩) h
    ·intro j h;refine zT rfl (zM R4 ?_);obtain ⟨c52, hc52⟩ := zY (y14_2 = 4);refine zV R3 (Val.eql hc52 rfl rfl) (zM R4 ?_);obtain ⟨rfl, hc52, h⟩ | ⟨rfl, hc52, h⟩ := zI hc52 h
     ·refine zM R4 ?_;obtain ⟨c55, hc55⟩ := zY (y14 = 0);refine zV R3 (Val.eql hc55 rfl rfl) (zP R6 (zM R4 ?_));obtain ⟨rfl, hc55, h⟩ | ⟨rfl, hc55, h⟩ := zI hc55 h
      ·refine TO.call rfl rfl rfl rfl rfl orcA .nil rfl (zP R6 (zA R4 (zN ?_)));cases h;exact ⟨rfl, (), (sb .refl)⟩
      refine zO R3 (zP R6 (zA R4 (zN ?_)));cases h;exact ⟨rfl, (), (sb .refl)⟩
     refine zO R3 (zO R3 (zP R6 (zM R4 (zO R3 (zP R6 (zA R4 (zN ?_)))))));cases h;exact ⟨rfl, (), (sb .refl)⟩
    ·rintro x4 _ h;refine zR ?_;cases h;exact ⟨rfl, _, rfl, ⟨(), rfl, (pk [98,98] rfl)⟩⟩
   refine zD rfl (zK ?_)
   show T _ _ _ _ _ _;apply T.join (r := r) (W := Unit) (fun j w => ⟨[], [(1, ivk .u16 ((x.toNat : Int))), (2, .ptr b2 0 3), (5, iv (y14)), (7, v2)], ownL true v2 encI doubts :: .row b2 3 [iv (c_Book_Signed), v_c_Book_Gatherings, v_c_Items] :: C⟩) h
   ·intro j h
    show T _ _ _ _ _ _;apply T.joinA (r := j) (W := Unit) (fun j w => ⟨[], [(1, ivk .u16 ((x.toNat : Int))), (2, .ptr b2 0 3), (5, iv (y14)), (7, v2), (67, bv j)], ownL true v2 encI doubts :: .row b2 3 [iv (c_Book_Signed), v_c_Book_Gatherings, v_c_Items] :: C⟩) h
    ·intro j h;refine zT rfl (zM R4 ?_);obtain ⟨c61, hc61⟩ := zY (¬ y14_2 = 0);refine zV R3 (Val.neq hc61 rfl rfl) (zM R4 ?_);obtain ⟨rfl, hc61, h⟩ | ⟨rfl, hc61, h⟩ := zI hc61 h
     ·refine zO R3 (zO R3 (zO R3 (zO R3 (zP R6 (zN ?_)))));cases h;exact ⟨rfl, (), (sb .refl)⟩
     refine zM R4 (zM R4 ?_);obtain ⟨has65, hr65, h⟩ := andx_some h;refine TO.call rfl rfl rfl rfl rfl (orcL rfl aD) (.cons (.ownL (p := 0) rfl ((ReifL.flat encI_tr) _ _)) (.cons .lit .nil)) (sem_of (w_r1_Has (GSo true encI doubts) y14 _ (by exact hr65))) (zV R3 (Val.not rfl) (zP R6 (zN ?_)));cases h;exact ⟨rfl, (), (sb .refl)⟩
    ·rintro x67 _ h;obtain ⟨rfl, h⟩ | ⟨rfl, h⟩ := zZ h
     ·refine zC rfl (zU rfl (zA R4 (zN (zR ?_))));cases h;exact ⟨ret_ne, ⟨rfl, _, rfl, ⟨(), rfl, (pk [98,98] rfl)⟩⟩⟩
     refine zD rfl (zK ?_);cases h;exact ⟨rfl, (), (sb .refl)⟩
   ·rintro _ _ h;refine zU rfl (zV R3 (vW 1 [_,_,_] R5 R4) ?_);obtain ⟨⟨y70, y70_2, y70_3⟩, hr70, h⟩ := andx_some h;dsimp only at h;obtain ⟨g_5, hgg_5, hrg_5⟩ := Rdl.reif (hs := ownL true v2 encI doubts :: .row b2 3 [iv (c_Book_Signed), v_c_Book_Gatherings, v_c_Items] :: C) h_c_Book_Gatherings M2 (ReifL.flat encG_tr);obtain ⟨g_6, hgg_6, hrg_6⟩ := Rdl.reif (hs := ownL true v2 encI doubts :: .row b2 3 [iv (c_Book_Signed), v_c_Book_Gatherings, v_c_Items] :: C) h_c_Items M2 (ReifL.flat encIt_tr);refine TO.call rfl rfl rfl rfl rfl (orcL rfl aD) (.cons (.agg (.cons .lit (.cons (hrg_5 _) (.cons (hrg_6 _) .nil)))) .nil) (sem_of (w_c_Range c_Book_Signed g_5 g_6 _ (by try rw [hgg_5]; try rw [hgg_6]; exact hr70))) (zM R4 (zX R5 (zX R5 (zJ 2 [_,_] R7 (fun b9=>TO.eff0 rfl rfl (Eff.store_row (p := 0) (cv := [_, _]) (cells' := [_, _]) rfl rfl rfl rfl rfl rfl rfl rfl aG (by decide) rfl) ?_)))));rintro _ rfl;refine zG (_::_::_::C) rfl (zA R4 (zN (zU rfl (zV R3 (vW 2 [_,_,_] R5 R4) (zM R4 ?_)))));obtain ⟨y75, hr75, h⟩ := andx_some h;obtain ⟨g_7, hgg_7, hrg_7⟩ := Rdl.reif (hs := .row b9 2 [iv (y70), iv (y70_2)] :: ownL true v2 encI doubts :: .row b2 3 [iv (c_Book_Signed), v_c_Book_Gatherings, v_c_Items] :: C) h_c_Book_Gatherings M3 (ReifL.flat encG_tr);obtain ⟨g_8, hgg_8, hrg_8⟩ := Rdl.reif (hs := .row b9 2 [iv (y70), iv (y70_2)] :: ownL true v2 encI doubts :: .row b2 3 [iv (c_Book_Signed), v_c_Book_Gatherings, v_c_Items] :: C) h_c_Items M3 (ReifL.flat encIt_tr);refine TO.call rfl rfl rfl rfl rfl (orcL rfl aD) (.cons (.agg (.cons .lit (.cons (hrg_7 _) (.cons (hrg_8 _) .nil)))) (.cons .lit .nil)) (sem_of (w_l_worst c_Book_Signed g_7 g_8 y14 _ (by try rw [hgg_7]; try rw [hgg_8]; exact hr75))) (zA R4 (zN ?_))
    show T _ _ _ _ _ _;apply T.joinA (r := r) (W := Unit) (fun j w => ⟨[], [(4, bv j)], .row b9 2 [iv (y70), iv (y70_2)] :: ownL true v2 encI doubts :: .row b2 3 [iv (c_Book_Signed), v_c_Book_Gatherings, v_c_Items] :: C⟩) h
    ·intro j h;refine T.draw (fun v => sameC_refl v) (l1 := [0, 1, 2, 3, 4, 5, 6, 7, 8, 9, 10, 11, 12, 13, 14, 15, 16, 17, 18, 19, 20, 21, 22, 23, 24, 25]) (l2 := [26, 27, 28, 29, 30, 31, 32]) (by kernel_rfl) (by kernel_rfl) (zM R4 ?_);obtain ⟨c77, hc77⟩ := zY (y70_3 = 0);refine zV R3 (Val.eql hc77 rfl rfl) (zM R4 ?_);obtain ⟨rfl, hc77, h⟩ | ⟨rfl, hc77, h⟩ := zI hc77 h
     ·refine zM R4 ?_;obtain ⟨c80, hc80⟩ := zY (y75 ≥ 0);refine zV R3 (Val.geq hc80 rfl rfl) (zP R6 (zM R4 ?_));obtain ⟨rfl, hc80, h⟩ | ⟨rfl, hc80, h⟩ := zI hc80 h
      ·refine zM R4 (zF 1 R6 (zL 0 R3 R6 (zF 0 R6 (zL 0 R3 R6 ?_))));obtain ⟨hk88, h⟩ := chk_some h;refine zV R3 (Val.sub rfl rfl hk88) ?_;obtain ⟨c89, hc89⟩ := zY (y75 ≤ (y70_2 - y70));refine zV R3 (Val.leq hc89 rfl rfl) (zP R6 (zM R4 ?_));obtain ⟨rfl, hc89, h⟩ | ⟨rfl, hc89, h⟩ := zI hc89 h
       ·refine zM R4 (zV R3 (vW 2 [_,_,_] R5 R4) (zM R4 (zM R4 ?_)));obtain ⟨hk96, h⟩ := chk_some h;refine zV R3 (Val.conv (cv_ty44_3 hk96) rfl) (zM R4 (zV R3 (Val.len_own (p := 1) rfl rfl rfl) ?_));obtain ⟨hk99, h⟩ := chk_some h;refine zV R3 (Val.rem rfl rfl hk99) ?_;obtain ⟨a100, hia100, ea100, h⟩ := el_some h;refine TO.fact (own_at (en := encI) (p := 1) rfl hia100) (fun hp=>?_);obtain ⟨ida100, ata100⟩ := hp;refine zV R3 (Val.iaddr_at (en := encI) ata100 ⟨rfl, rfl⟩ rfl rfl hia100) (zV R3 (Val.load_ownL (en := encI) (p := 1) (j := 0) rfl ata100 ⟨_, rfl, rfl⟩ rfl ea100 rfl) ?_);obtain ⟨y102, hr102, h⟩ := andx_some h;obtain ⟨g_9, hgg_9, hrg_9⟩ := Rdl.reif (hs := .row b9 2 [iv (y70), iv (y70_2)] :: ownL true v2 encI doubts :: .row b2 3 [iv (c_Book_Signed), v_c_Book_Gatherings, v_c_Items] :: C) h_c_Book_Gatherings M3 (ReifL.flat encG_tr);obtain ⟨g_10, hgg_10, hrg_10⟩ := Rdl.reif (hs := .row b9 2 [iv (y70), iv (y70_2)] :: ownL true v2 encI doubts :: .row b2 3 [iv (c_Book_Signed), v_c_Book_Gatherings, v_c_Items] :: C) h_c_Items M3 (ReifL.flat encIt_tr);refine TO.call rfl rfl rfl rfl rfl (orcL rfl aD) (.cons (.agg (.cons .lit (.cons (hrg_9 _) (.cons (hrg_10 _) .nil)))) (.cons .lit .nil)) (sem_of (w_l_worst c_Book_Signed g_9 g_10 a100 _ (by try rw [hgg_9]; try rw [hgg_10]; exact hr102))) ?_;obtain ⟨c103, hc103⟩ := zY (y75 ≤ y102);refine zV R3 (Val.leq hc103 rfl rfl) (zP R6 (zM R4 ?_));obtain ⟨rfl, hc103, h⟩ | ⟨rfl, hc103, h⟩ := zI hc103 h
        ·refine TO.call rfl rfl rfl rfl rfl orcA .nil rfl (zP R6 (zA R4 (zN ?_)));cases h;exact ⟨rfl, (), (sb .refl)⟩
        refine zO R3 (zP R6 (zA R4 (zN ?_)));cases h;exact ⟨rfl, (), (sb .refl)⟩
       refine zO R3 (zO R3 (zO R3 (zO R3 (zO R3 (zO R3 (zO R3 (zO R3 (zO R3 (zO R3 (zO R3 (zO R3 (zP R6 (zM R4 (zO R3 (zP R6 (zA R4 (zN ?_)))))))))))))))));cases h;exact ⟨rfl, (), (sb .refl)⟩
      refine zO R3 (zO R3 (zO R3 (zO R3 (zO R3 (zO R3 (zO R3 (zP R6 (zM R4 (zO R3 (zO R3 (zO R3 (zO R3 (zO R3 (zO R3 (zO R3 (zO R3 (zO R3 (zO R3 (zO R3 (zO R3 (zP R6 (zM R4 (zO R3 (zP R6 (zA R4 (zN ?_))))))))))))))))))))))))));cases h;exact ⟨rfl, (), (sb .refl)⟩
     refine zO R3 (zO R3 (zP R6 (zM R4 (zO R3 (zO R3 (zO R3 (zO R3 (zO R3 (zO R3 (zO R3 (zP R6 (zM R4 (zO R3 (zO R3 (zO R3 (zO R3 (zO R3 (zO R3 (zO R3 (zO R3 (zO R3 (zO R3 (zO R3 (zO R3 (zP R6 (zM R4 (zO R3 (zP R6 (zA R4 (zN ?_))))))))))))))))))))))))))))));cases h;exact ⟨rfl, (), (sb .refl)⟩
    ·rintro x4 _ h;refine zR ?_;cases h;exact ⟨rfl, _, rfl, ⟨(), rfl, (pk [98,98,98] rfl)⟩⟩
 refine zC rfl ?_
 show T _ _ _ _ _ _;apply T.joinA (r := r) (W := Unit) (fun j w => ⟨[], [(4, bv j)], .row b2 3 [iv (c_Book_Signed), v_c_Book_Gatherings, v_c_Items] :: C⟩) h
 ·intro j h;refine zT rfl (zM R4 ?_);obtain ⟨c21, hc21⟩ := zY (¬ y14_2 = 0);refine zV R3 (Val.neq hc21 rfl rfl) (zM R4 ?_);obtain ⟨rfl, hc21, h⟩ | ⟨rfl, hc21, h⟩ := zI hc21 h
  ·refine zM R4 ?_;obtain ⟨c24, hc24⟩ := zY (y14 = 0);refine zV R3 (Val.eql hc24 rfl rfl) (zP R6 (zM R4 ?_));obtain ⟨rfl, hc24, h⟩ | ⟨rfl, hc24, h⟩ := zI hc24 h
   ·refine TO.call rfl rfl rfl rfl rfl orcA .nil rfl (zP R6 (zA R4 (zN ?_)));cases h;exact ⟨rfl, (), (sb .refl)⟩
   refine zO R3 (zP R6 (zA R4 (zN ?_)));cases h;exact ⟨rfl, (), (sb .refl)⟩
  refine zO R3 (zO R3 (zP R6 (zM R4 (zO R3 (zP R6 (zA R4 (zN ?_)))))));cases h;exact ⟨rfl, (), (sb .refl)⟩
 ·rintro x4 _ h;refine zR ?_;cases h;exact ⟨rfl, _, rfl, ⟨(), rfl, (pk [98] rfl)⟩⟩
theorem w_law_CopyAsked (c_Book_Signed : Int) (c_Book_Gatherings : GS encG) (c_Items : GS encIt) (x : UInt16) (r : Bool) (h : P_law_CopyAsked c_Book_Signed c_Book_Gatherings.l c_Items.l x = some r) : Comes (EL 8) 9 [.agg [iv (c_Book_Signed), c_Book_Gatherings.v, c_Items.v], ivk .u16 ((x.toNat : Int))] (bv r) :=
 TF.run (tf_law_CopyAsked (Nat.le_refl _) (RdT.gs c_Book_Gatherings) (RdT.gs c_Items) h) fun w => .lit
end Go.Am.Ythckcbfijdambaa
end
section
namespace Go.Am
open Go.RowKit
def Lifts (P : Program) (t : TypeId) {α : Type} (e : En α) : Prop :=
 ∀ (H : Type) (enc : TypeId × Value → H) (W : World) (base : Nat) (held : Bool) (fuel : Nat) (cs : List Value) (x : DataW H × List MemPlace),
  DataW.trod enc P W base (fun _ => true) held fuel t cs = some x → ∃ a : α, RelL (snapR W 0) (e.f a) cs
theorem Lifts.int {P : Program} {t : TypeId} (ht : P.underlying t = some (.int .i64)) : Lifts P t encI := by
 intro H enc W base held fuel cs x hx;obtain ⟨n, rfl, _, _⟩ := DataW.trod_int ht hx;exact ⟨n, .cons (.lit _) (.nil _)⟩
theorem snap_cell {W : World} {b off : Nat} {v : Value} (h : W.cell? ⟨b, off, none⟩ = some v) : ∃ c, (snapR W 0).imm b = some c ∧ c[off]? = some v := by
 unfold World.cell? at h;split at h
 ·rename_i c _ _ hb
  simp at h;exact ⟨c, by simp only [snapR, snap, Nat.zero_le, if_true]; simp only [] at hb; rw [hb], h⟩
 ·cases h
theorem list_of {α : Type} {p : Nat → α → Prop} : ∀ n : Nat, (∀ i, i < n → ∃ a, p i a) → ∃ l : List α, l.length = n ∧ ∀ i a, l[i]? = some a → p i a := by
 intro n
 induction n with
 | zero => intro _; exact ⟨[], rfl, fun i a h => by simp at h⟩
 | succ n ih =>
  intro h;obtain ⟨l, h1, h2⟩ := ih fun i hi => h i (by omega)
  obtain ⟨a, ha⟩ := h n (by omega);refine ⟨l ++ [a], by simp [h1], fun i b hb => ?_⟩
  by_cases hi : i < l.length
  ·rw [List.getElem?_append_left hi] at hb; exact h2 i b hb
  ·rw [List.getElem?_append_right (by omega)] at hb
   have : i - l.length = 0 := by
    have := (List.getElem?_eq_some_iff.1 hb).1;simp at this; omega
   rw [this] at hb;simp at hb;subst hb
   have : i = n := by omega
   rw [this]; exact ha
theorem Lifts.slice {P : Program} {t e : TypeId} {α : Type} {en : En α} (ht : P.underlying t = some (.slice e)) (hu : P.cellsOf e = en.u) (h0 : 0 < en.u) (h : Lifts P e en) : Lifts P t (encSl en) := by
 intro H enc W base held fuel cs x hx
 rcases DataW.trod_slice ht hx with ⟨rfl, _⟩ | ⟨a, len, cap, elems, rest, n, _, rfl, _, hb, hl, _, hlen, hel, hsp, _⟩
 ·exact ⟨⟨nilS, [], .inl ⟨rfl, rfl, rfl⟩⟩, .cons (.lit _) (.nil _)⟩
 ·rw [hu] at hel hsp;obtain ⟨hrl, hr⟩ := hsp rfl
  by_cases hc : cap = 0
  ·subst hc
   have : len = 0 := by omega
   subst this;exact ⟨⟨.tree en.u 0 [], [], .inr ⟨rfl, by simp⟩⟩, .cons .tree0 (.nil _)⟩
  ·have hcell : ∀ i, i < len → ∃ (a' : α) (ci : List Value), W.cells? base (a.add (i * en.u)) en.u = some ci ∧ RelL (snapR W 0) (en.f a') ci := by
    intro i hi
    have he := hel i hi;rw [List.getElem?_eq_getElem (by omega)] at he;obtain ⟨ci, h1, h2⟩ := Option.bind_eq_some_iff.1 he;obtain ⟨a', h3⟩ := h _ _ _ _ _ _ _ _ h2;exact ⟨a', ci, h1, h3⟩
   have hspot : a.spot = none := by
    have : ∃ ci, W.cells? base (a.add (0 * en.u)) en.u = some ci := by
     by_cases hl0 : 0 < len
     ·obtain ⟨_, ci, h1, _⟩ := hcell 0 hl0;exact ⟨ci, h1⟩
     ·have hz : len = 0 := by omega
      have he := hr 0 (by omega);rw [List.getElem?_eq_getElem (by omega)] at he;obtain ⟨ci, h1, _⟩ := Option.bind_eq_some_iff.1 he;exact ⟨ci, by simpa [hz] using h1⟩
    obtain ⟨ci, h1⟩ := this;obtain ⟨_, h2, h3⟩ := World.cells?_some h1
    have h4 := h3 0 h0;rw [List.getElem?_eq_getElem (by omega)] at h4
    have := World.cell?_spot h4
    simpa [Addr.add] using this
   obtain ⟨b, off, sp⟩ := a;simp only at hspot;subst hspot;obtain ⟨l, hl1, hl2⟩ := list_of (p := fun i a' => ∃ ci : List Value, W.cells? base ((⟨b, off, none⟩ : Addr).add (i * en.u)) en.u = some ci ∧ RelL (snapR W 0) (en.f a') ci) len hcell
   have hfl : (l.flatMap en.f).length = len * en.u := by rw [flat_len, hl1]
   have each : ∀ j, j < len * en.u → ∃ v y c, (l.flatMap en.f)[j]? = some v ∧ (snapR W 0).imm b = some c ∧ c[off + j]? = some y ∧ RelV (snapR W 0) v y := by
    intro j hj
    have hi : j / en.u < l.length := by rw [hl1]; exact Nat.div_lt_of_lt_mul (by rw [Nat.mul_comm]; exact hj)
    have hk : j % en.u < en.u := Nat.mod_lt _ h0
    have hd : j / en.u * en.u + j % en.u = j := by rw [Nat.mul_comm]; exact Nat.div_add_mod j en.u
    obtain ⟨ci, h1, h2⟩ := hl2 _ _ (List.getElem?_eq_getElem hi);obtain ⟨_, h3, h4⟩ := World.cells?_some h1
    have h5 := h4 _ hk;rw [List.getElem?_eq_getElem (by omega)] at h5
    have h6 : ((⟨b, off, none⟩ : Addr).add (j / en.u * en.u)).add (j % en.u) = ⟨b, off + j, none⟩ := by
     simp only [addr_add]
     congr 1
     omega
    rw [h6] at h5;obtain ⟨c, h7, h8⟩ := snap_cell h5
    have hlen' := en.len l[j / en.u]
    have hv := List.getElem?_eq_getElem (l := en.f l[j / en.u]) (i := j % en.u) (by omega);refine ⟨_, _, c, ?_, h7, h8, h2.2 _ _ _ hv (List.getElem?_eq_getElem _)⟩
    have := flat_get (en := en) (List.getElem?_eq_getElem hi) hk;rw [hd] at this;rw [this, hv]
   refine ⟨⟨.tree en.u l.length (l.flatMap en.f), l, .inr ⟨rfl, by rw [hfl, hl1]⟩⟩, .cons ?_ (.nil _)⟩
   show RelV _ (.tree en.u l.length (l.flatMap en.f)) _;rw [hl1]
   by_cases hz : len * en.u = 0
   ·refine .tree (c := #[]) hfl hl (.inl (List.eq_nil_of_length_eq_zero (by omega))) fun i v x hv hx => by simp at hx
   ·obtain ⟨_, _, c, _, hc1, _, _⟩ := each (len * en.u - 1) (by omega);refine .tree (c := c) hfl hl (.inr ⟨hc1, ?_⟩) fun j v y hv hy => ?_
    ·obtain ⟨_, _, c', _, hc2, hc3, _⟩ := each (len * en.u - 1) (by omega);rw [hc1] at hc2;cases hc2
     have := (Array.getElem?_eq_some_iff.1 hc3).1;omega
    ·have hj := (List.getElem?_eq_some_iff.1 hv).1;obtain ⟨v', y', c', e1, e2, e3, e4⟩ := each j (by omega);rw [hc1] at e2;cases e2;rw [hv] at e1;rw [hy] at e3;cases e1;cases e3;exact e4
theorem RelL.glue {r : Ren} {a b : List AV} {cs : List Value} {n : Nat} (h1 : RelL r a (cs.take n)) (h2 : RelL r b (cs.drop n)) : RelL r (a ++ b) cs := by
 have := h1.append h2
 rwa [List.take_append_drop] at this
end Go.Am
end
section
namespace Go.Am
open Go.RowKit
def enPair {α β : Type} (a : En α) (b : En β) : En (α × β) := ⟨a.u + b.u, fun p => a.f p.1 ++ b.f p.2, fun p => by simp [a.len, b.len]⟩
theorem Lifts.map {P : Program} {t : TypeId} {α β : Type} {a : En α} {b : En β} (h : Lifts P t a) (hf : ∀ x, ∃ y, b.f y = a.f x) : Lifts P t b := by
 intro H enc W base held fuel cs x hx;obtain ⟨v, hv⟩ := h _ _ _ _ _ _ _ _ hx;obtain ⟨y, hy⟩ := hf v;exact ⟨y, by rw [hy]; exact hv⟩
theorem Lifts.struct1 {P : Program} {t : TypeId} {f0 : Field} {α : Type} {a : En α} (ht : P.underlying t = some (.struct #[f0])) (o0 : f0.offset = 0) (c0 : P.cellsOf f0.type = a.u) (ct : P.cellsOf t = a.u)
  (l0 : Lifts P f0.type a) : Lifts P t a := by
 intro H enc W base held fuel cs x hx;obtain ⟨xs, n, _, _, hl, hn, h⟩ := DataW.trod_struct ht hx
 have hn1 : xs.length = 1 := hn
 have h0 := h 0 f0 rfl;rw [List.getElem?_eq_getElem (by omega), o0, c0, List.drop_zero, List.take_of_length_le (by omega)] at h0;exact l0 _ _ _ _ _ _ _ _ h0
theorem Lifts.struct2 {P : Program} {t : TypeId} {f0 f1 : Field} {α β : Type} {a : En α} {b : En β} (ht : P.underlying t = some (.struct #[f0, f1])) (o0 : f0.offset = 0) (o1 : f1.offset = a.u)
  (c0 : P.cellsOf f0.type = a.u) (c1 : P.cellsOf f1.type = b.u) (ct : P.cellsOf t = a.u + b.u) (l0 : Lifts P f0.type a) (l1 : Lifts P f1.type b) : Lifts P t (enPair a b) := by
 intro H enc W base held fuel cs x hx;obtain ⟨xs, n, _, _, hl, hn, h⟩ := DataW.trod_struct ht hx
 have hn1 : xs.length = 2 := hn
 have h0 := h 0 f0 rfl
 have h1 := h 1 f1 rfl;rw [List.getElem?_eq_getElem (by omega), o0, c0, List.drop_zero] at h0;rw [List.getElem?_eq_getElem (by omega), o1, c1, List.take_of_length_le (by simp; omega)] at h1;obtain ⟨x0, r0⟩ := l0 _ _ _ _ _ _ _ _ h0;obtain ⟨x1, r1⟩ := l1 _ _ _ _ _ _ _ _ h1;exact ⟨(x0, x1), .glue r0 r1⟩
theorem Lifts.struct3 {P : Program} {t : TypeId} {f0 f1 f2 : Field} {α β γ : Type} {a : En α} {b : En β} {c : En γ} (ht : P.underlying t = some (.struct #[f0, f1, f2])) (o0 : f0.offset = 0) (o1 : f1.offset = a.u) (o2 : f2.offset = a.u + b.u)
  (c0 : P.cellsOf f0.type = a.u) (c1 : P.cellsOf f1.type = b.u) (c2 : P.cellsOf f2.type = c.u) (ct : P.cellsOf t = a.u + (b.u + c.u)) (l0 : Lifts P f0.type a) (l1 : Lifts P f1.type b) (l2 : Lifts P f2.type c) :
  Lifts P t (enPair a (enPair b c)) := by
 intro H enc W base held fuel cs x hx;obtain ⟨xs, n, _, _, hl, hn, h⟩ := DataW.trod_struct ht hx
 have hn1 : xs.length = 3 := hn
 have h0 := h 0 f0 rfl
 have h1 := h 1 f1 rfl
 have h2 := h 2 f2 rfl;rw [List.getElem?_eq_getElem (by omega), o0, c0, List.drop_zero] at h0;rw [List.getElem?_eq_getElem (by omega), o1, c1] at h1;rw [List.getElem?_eq_getElem (by omega), o2, c2, ← List.drop_drop, List.take_of_length_le (by simp; omega)] at h2;obtain ⟨x0, r0⟩ := l0 _ _ _ _ _ _ _ _ h0;obtain ⟨x1, r1⟩ := l1 _ _ _ _ _ _ _ _ h1;obtain ⟨x2, r2⟩ := l2 _ _ _ _ _ _ _ _ h2;exact ⟨(x0, x1, x2), .glue r0 (.glue r1 r2)⟩
theorem Lifts.arg {P : Program} {t : TypeId} {fs : Array Field} {α : Type} {en : En α} (hl : Lifts P t en) (ht : P.underlying t = some (.struct fs)) {W : World} {r : Reach} {b0 : Nat} {v : Value} (hval : Value.okWide P W r b0 t v)
  {H : Type} {enc : TypeId × Value → H} {base : Nat} {held : Bool} {d : DataW H} {ps : List MemPlace} (h : DataW.Trod enc P W base (fun _ => true) held t v d ps) : ∃ a, RelV (snapR W 0) (.agg (en.f a)) v := by
 simp only [Value.okWide, ht] at hval;obtain ⟨cs, rfl, _, _⟩ := hval;obtain ⟨fuel, hf⟩ := h;obtain ⟨a, ha⟩ := hl _ _ _ _ _ _ _ _ hf;exact ⟨a, by simpa [Value.cells] using RelV.agg ha.1 ha.2⟩
end Go.Am
end
