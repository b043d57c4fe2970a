/- Part 3. -/
import Derived.Test.YthckcbfijdambaaCopyWholeP2
section
namespace Go.Am.Ythckcbfijdambaa
open Go.Am Go.RowKit
set_option linter.unusedVariables false
set_option linter.unusedSimpArgs false
theorem r1_in (n : Int) (lo : Int) (hi : Int)  : Comes (EL 0) 88 [iv n, iv lo, iv hi] (bv (decide (inR n lo hi))) := by
 refine Comes.of (TF.enter (fn := Go.Proofs.Try.f88) rfl rfl rfl rfl rfl ?_);refine zU rfl (zA R4 (zN (zU rfl (zM R4 (zM R4 (TO.leq rfl rfl rfl rfl rfl (fun c9 hc9=>zM R4 ?_)))))));cases c9 with
 | true =>
  replace hc9 := btrue hc9;refine zM R4 (zM R4 (TO.leq rfl rfl rfl rfl rfl (fun c13 hc13=>zP R6 (zA R4 (zN (zR ?_))))));cases c13 with
  | true =>
   replace hc13 := btrue hc13;exact ⟨rfl, _, rfl, RefN.cast .lit (bv_t (by unfold inR; omega))⟩
  | false =>
   replace hc13 := bfalse hc13;exact ⟨rfl, _, rfl, RefN.cast .lit (bv_f (by unfold inR; omega))⟩
 | false =>
  replace hc9 := bfalse hc9;refine zO R3 (zO R3 (zO R3 (zP R6 (zA R4 (zN (zR ?_))))));exact ⟨rfl, _, rfl, RefN.cast .lit (bv_f (by unfold inR; omega))⟩
theorem r1_signature (s : Sg)  : Comes (EL 1) 105 [.agg (encS.f s)] (bv (decide (sigOk s))) := by
 refine Comes.of (TF.enter (fn := Go.Proofs.Try.f105) rfl rfl rfl rfl rfl ?_);refine zU rfl (zQ 2 [_,_] R7 (fun b1=>zA R4 (zN (zU rfl (zF 0 R6 (zL 0 R3 R6 (TO.callD rfl rfl rfl rfl rfl (orcL rfl aD) (.cons .lit (.cons .lit (.cons .lit .nil))) (sem_of (r1_in _ _ _ )) (fun c5 hc5=>zM R4 ?_))))))));cases c5 with
 | true =>
  replace hc5 := btrue hc5;refine zF 1 R6 (zL 0 R3 R6 (TO.callD rfl rfl rfl rfl rfl (orcL rfl aD) (.cons .lit (.cons .lit (.cons .lit .nil))) (sem_of (r1_in _ _ _ )) (fun c9 hc9=>zP R6 (zA R4 (zN (zR ?_))))));cases c9 with
  | true =>
   replace hc9 := btrue hc9;exact ⟨rfl, _, rfl, RefN.cast .lit (bv_t (by unfold sigOk; simp_all))⟩
  | false =>
   replace hc9 := bfalse hc9;exact ⟨rfl, _, rfl, RefN.cast .lit (bv_f (by unfold sigOk; simp_all))⟩
 | false =>
  replace hc5 := bfalse hc5;refine zO R3 (zO R3 (zO R3 (zP R6 (zA R4 (zN (zR ?_))))));exact ⟨rfl, _, rfl, RefN.cast .lit (bv_f (by unfold sigOk; simp_all))⟩
theorem r1_rank (s : Sg) (hs : sigOk s) : Comes (EL 0) 106 [.agg (encS.f s)] (iv (rank s)) := by
 obtain ⟨⟨hs1, hs2⟩, ⟨hs3, hs4⟩⟩ := hs;refine Comes.of (TF.enter (fn := Go.Proofs.Try.f106) rfl rfl rfl rfl rfl ?_);refine zU rfl (zQ 2 [_,_] R7 (fun b1=>zA R4 (zN (zS (zU rfl (zF 1 R6 (zL 0 R3 R6 (TO.geq rfl rfl rfl rfl rfl (fun c5 hc5=>zN ?_)))))))));cases c5 with
 | true =>
  replace hc5 := btrue hc5;refine zC rfl (zU rfl (zA R4 (zN (zR ?_))));exact ⟨rfl, _, rfl, RefN.cast .lit (by simp only [rank]; split <;> first | rfl | omega)⟩
 | false =>
  replace hc5 := bfalse hc5;refine zD rfl (zK (zU rfl (zF 0 R6 (zL 0 R3 R6 (zV R3 (Val.sub rfl rfl aO) (zV R3 (Val.mul rfl rfl aO) (zF 1 R6 (zL 0 R3 R6 (zV R3 (Val.add rfl rfl aO) (zA R4 (zN (zR ?_))))))))))));exact ⟨rfl, _, rfl, RefN.cast .lit (by simp only [rank]; split <;> first | rfl | omega)⟩
theorem r1_change (g : Gat) (i : Nat) (c : Chg) (hi : g.ch.l[i]? = some c) (hb : g.ch.l.length ≤ 4) : Comes (EL 1) 107 [.agg (encG.f g), iv (i : Int)] (iv (chgErr g.leaves c (if i = 0 then none else g.ch.l[i - 1]?))) := by
 have hlt := (List.getElem?_eq_some_iff.1 hi).1;refine Comes.of (TF.enter (fn := Go.Proofs.Try.f107) rfl rfl rfl rfl rfl ?_);refine zU rfl (zQ 4 [_,_,_,_] R7 (fun b2=>zA R4 (zN (zU rfl (zF 3 R6 (zL 0 R3 R6 (zM R4 (TO.index_gs rfl rfl rfl ⟨rfl, rfl⟩ rfl rfl aO (fun a12 ra12 ea12=>?_)))))))))
 try simp only [Int.toNat_natCast] at ea12
 have e12 := Option.some.inj (hi.symm.trans ea12);subst e12;refine zV R3 (Val.load_trees (c := _) ⟨⟨_, rfl, rfl⟩, rfl, by decide⟩ rfl rfl) (zJ 3 [_,_,_] R7 (fun b5=>TO.store_row (p := 0) (cv := [_, _, _]) (cells' := [_, _, _]) rfl rfl rfl rfl rfl rfl rfl rfl rfl rfl (by first | rfl | simp [GS.one]) (by decide) rfl (zG ([_,_]) rfl (zN (zS (zU rfl (zF 0 R6 (zL 0 R3 R6 (TO.callD rfl rfl rfl rfl rfl (orcL rfl aD) (.cons .lit (.cons .lit (.cons .lit .nil))) (sem_of (r1_in _ _ _ )) (fun c16 hc16=>zV R3 (Val.not rfl) (zN ?_)))))))))));cases c16 with
 | true =>
  replace hc16 := btrue hc16;refine zD rfl (zK (zS (T.draw (fun v => sameC_refl v) (l1 := [0, 1, 2, 3, 4]) (l2 := []) (by kernel_rfl) (by kernel_rfl) (zF 2 R6 (zL 0 R3 R6 (TO.eql rfl rfl rfl rfl rfl (fun c20 hc20=>zA R4 (zA R4 (zN (zS (zU rfl (zF 0 R6 (zL 0 R3 R6 (TO.eql rfl rfl rfl rfl rfl (fun c23 hc23=>zN ?_)))))))))))))));cases c23 with
  | true =>
   replace hc23 := btrue hc23;refine zC rfl (zT rfl (zF 2 R6 (zL 0 R3 R6 (TO.callD rfl rfl rfl rfl rfl (orcL rfl aD) (.cons .lit (.cons .lit (.cons .lit .nil))) (sem_of (r1_in _ _ _ )) (fun c26 hc26=>zA R4 (zA R4 (zN (zS (zU rfl (zF 1 R6 (zL 0 R3 R6 (zM R4 (zF 2 R6 (zL 1 R3 R6 (TO.callD rfl rfl rfl rfl rfl (orcL rfl aD) (.cons .lit (.cons .lit (.cons .lit .nil))) (sem_of (r1_in _ _ _ )) (fun c32 hc32=>zV R3 (Val.not rfl) (zM R4 ?_)))))))))))))))));cases c32 with
   | true =>
    replace hc32 := btrue hc32;refine zM R4 (zV R3 (Val.not rfl) (zP R6 (zN ?_)));cases c26 with
    | true =>
     replace hc26 := btrue hc26;refine zD rfl (zK (zS (zU rfl (zM R4 (TO.eql rfl rfl rfl rfl rfl (fun c39 hc39=>zN ?_))))));cases c39 with
     | true =>
      replace hc39 := btrue hc39;refine zC rfl (zU rfl (zA R4 (zN (zR ?_))));exact ⟨rfl, _, rfl, RefN.cast .lit (by simp_all [chgErr])⟩
     | false =>
      replace hc39 := bfalse hc39;refine zD rfl (zK (zU rfl (zF 3 R6 (zL 1 R3 R6 (zM R4 (zV R3 (Val.sub rfl rfl aO) (TO.index_gs rfl rfl rfl ⟨rfl, rfl⟩ rfl rfl aO (fun a44 ra44 ea44=>?_))))))))
      try simp only [Int.toNat_natCast] at ea44
      have e44 : ((i : Int) - 1).toNat = i - 1 := by omega
      rw [e44] at ea44;refine zV R3 (Val.load_trees (c := _) ⟨⟨_, rfl, rfl⟩, rfl, by decide⟩ rfl rfl) (zJ 3 [_,_,_] R7 (fun b8=>TO.store_row (p := 0) (cv := [_, _, _]) (cells' := [_, _, _]) rfl rfl rfl rfl rfl rfl rfl rfl rfl rfl (by first | rfl | simp [GS.one]) (by decide) rfl (zG ([_,_,_]) rfl (zN (zS (zU rfl (zF 1 R6 (zL 1 R3 R6 (zF 1 R6 (zL 0 R3 R6 (TO.lss rfl rfl rfl rfl rfl (fun c50 hc50=>zM R4 ?_))))))))))));cases c50 with
      | true =>
       replace hc50 := btrue hc50;refine zO R3 (zO R3 (zO R3 (zO R3 (zO R3 (zO R3 (zO R3 (zO R3 (zO R3 (zO R3 (zO R3 (zO R3 (zO R3 (zO R3 (zO R3 (zP R6 (zN (zC rfl (zU rfl (zA R4 (zN (zR ?_)))))))))))))))))))));exact ⟨rfl, _, rfl, RefN.cast .lit (by simp_all [chgErr])⟩
      | false =>
       replace hc50 := bfalse hc50;refine zF 1 R6 (zL 1 R3 R6 (zF 1 R6 (zL 0 R3 R6 (TO.eql rfl rfl rfl rfl rfl (fun c56 hc56=>zM R4 ?_)))));cases c56 with
       | true =>
        replace hc56 := btrue hc56;refine zF 0 R6 (zL 1 R3 R6 (TO.neq rfl rfl rfl rfl rfl (fun c60 hc60=>zM R4 ?_)));cases c60 with
        | true =>
         replace hc60 := btrue hc60;refine zO R3 (zO R3 (zO R3 (zP R6 (zP R6 (zP R6 (zN (zC rfl (zU rfl (zA R4 (zN (zR ?_)))))))))));exact ⟨rfl, _, rfl, RefN.cast .lit (by simp_all [chgErr])⟩
        | false =>
         replace hc60 := bfalse hc60;refine zF 0 R6 (zL 0 R3 R6 (TO.eql rfl rfl rfl rfl rfl (fun c64 hc64=>zP R6 (zP R6 (zP R6 (zN ?_))))));cases c64 with
         | true =>
          replace hc64 := btrue hc64;refine zC rfl (zU rfl (zA R4 (zN (zR ?_))));exact ⟨rfl, _, rfl, RefN.cast .lit (by simp_all [chgErr])⟩
         | false =>
          replace hc64 := bfalse hc64;refine zD rfl (zK (zU rfl (zA R4 (zN (zR ?_)))));exact ⟨rfl, _, rfl, RefN.cast .lit (by simp_all [chgErr])⟩
       | false =>
        replace hc56 := bfalse hc56;refine zO R3 (zO R3 (zO R3 (zO R3 (zO R3 (zO R3 (zO R3 (zO R3 (zP R6 (zP R6 (zN (zD rfl (zK (zU rfl (zA R4 (zN (zR ?_))))))))))))))));exact ⟨rfl, _, rfl, RefN.cast .lit (by simp_all [chgErr])⟩
    | false =>
     replace hc26 := bfalse hc26;refine zC rfl (zU rfl (zA R4 (zN (zR ?_))));exact ⟨rfl, _, rfl, RefN.cast .lit (by simp_all [chgErr])⟩
   | false =>
    replace hc32 := bfalse hc32;refine zO R3 (zO R3 (zP R6 (zN (zC rfl (zU rfl (zA R4 (zN (zR ?_))))))));exact ⟨rfl, _, rfl, RefN.cast .lit (by simp_all [chgErr])⟩
  | false =>
   replace hc23 := bfalse hc23;refine zD rfl (zK (zS (zU rfl (zF 1 R6 (zL 0 R3 R6 (zM R4 (zF 2 R6 (zL 1 R3 R6 (TO.callD rfl rfl rfl rfl rfl (orcL rfl aD) (.cons .lit (.cons .lit (.cons .lit .nil))) (sem_of (r1_in _ _ _ )) (fun c32 hc32=>zV R3 (Val.not rfl) (zM R4 ?_)))))))))));cases c32 with
   | true =>
    replace hc32 := btrue hc32;refine zM R4 (zV R3 (Val.not rfl) (zP R6 (zN ?_)));cases c20 with
    | true =>
     replace hc20 := btrue hc20;refine zD rfl (zK (zS (zU rfl (zM R4 (TO.eql rfl rfl rfl rfl rfl (fun c39 hc39=>zN ?_))))));cases c39 with
     | true =>
      replace hc39 := btrue hc39;refine zC rfl (zU rfl (zA R4 (zN (zR ?_))));exact ⟨rfl, _, rfl, RefN.cast .lit (by simp_all [chgErr])⟩
     | false =>
      replace hc39 := bfalse hc39;refine zD rfl (zK (zU rfl (zF 3 R6 (zL 1 R3 R6 (zM R4 (zV R3 (Val.sub rfl rfl aO) (TO.index_gs rfl rfl rfl ⟨rfl, rfl⟩ rfl rfl aO (fun a44 ra44 ea44=>?_))))))))
      try simp only [Int.toNat_natCast] at ea44
      have e44 : ((i : Int) - 1).toNat = i - 1 := by omega
      rw [e44] at ea44;refine zV R3 (Val.load_trees (c := _) ⟨⟨_, rfl, rfl⟩, rfl, by decide⟩ rfl rfl) (zJ 3 [_,_,_] R7 (fun b8=>TO.store_row (p := 0) (cv := [_, _, _]) (cells' := [_, _, _]) rfl rfl rfl rfl rfl rfl rfl rfl rfl rfl (by first | rfl | simp [GS.one]) (by decide) rfl (zG ([_,_,_]) rfl (zN (zS (zU rfl (zF 1 R6 (zL 1 R3 R6 (zF 1 R6 (zL 0 R3 R6 (TO.lss rfl rfl rfl rfl rfl (fun c50 hc50=>zM R4 ?_))))))))))));cases c50 with
      | true =>
       replace hc50 := btrue hc50;refine zO R3 (zO R3 (zO R3 (zO R3 (zO R3 (zO R3 (zO R3 (zO R3 (zO R3 (zO R3 (zO R3 (zO R3 (zO R3 (zO R3 (zO R3 (zP R6 (zN (zC rfl (zU rfl (zA R4 (zN (zR ?_)))))))))))))))))))));exact ⟨rfl, _, rfl, RefN.cast .lit (by simp_all [chgErr])⟩
      | false =>
       replace hc50 := bfalse hc50;refine zF 1 R6 (zL 1 R3 R6 (zF 1 R6 (zL 0 R3 R6 (TO.eql rfl rfl rfl rfl rfl (fun c56 hc56=>zM R4 ?_)))));cases c56 with
       | true =>
        replace hc56 := btrue hc56;refine zF 0 R6 (zL 1 R3 R6 (TO.neq rfl rfl rfl rfl rfl (fun c60 hc60=>zM R4 ?_)));cases c60 with
        | true =>
         replace hc60 := btrue hc60;refine zO R3 (zO R3 (zO R3 (zP R6 (zP R6 (zP R6 (zN (zC rfl (zU rfl (zA R4 (zN (zR ?_)))))))))));exact ⟨rfl, _, rfl, RefN.cast .lit (by simp_all [chgErr])⟩
        | false =>
         replace hc60 := bfalse hc60;refine zF 0 R6 (zL 0 R3 R6 (TO.eql rfl rfl rfl rfl rfl (fun c64 hc64=>zP R6 (zP R6 (zP R6 (zN ?_))))));cases c64 with
         | true =>
          replace hc64 := btrue hc64;refine zC rfl (zU rfl (zA R4 (zN (zR ?_))));exact ⟨rfl, _, rfl, RefN.cast .lit (by simp_all [chgErr])⟩
         | false =>
          replace hc64 := bfalse hc64;refine zD rfl (zK (zU rfl (zA R4 (zN (zR ?_)))));exact ⟨rfl, _, rfl, RefN.cast .lit (by simp_all [chgErr])⟩
       | false =>
        replace hc56 := bfalse hc56;refine zO R3 (zO R3 (zO R3 (zO R3 (zO R3 (zO R3 (zO R3 (zO R3 (zP R6 (zP R6 (zN (zD rfl (zK (zU rfl (zA R4 (zN (zR ?_))))))))))))))));exact ⟨rfl, _, rfl, RefN.cast .lit (by simp_all [chgErr])⟩
    | false =>
     replace hc20 := bfalse hc20;refine zC rfl (zU rfl (zA R4 (zN (zR ?_))));exact ⟨rfl, _, rfl, RefN.cast .lit (by simp_all [chgErr])⟩
   | false =>
    replace hc32 := bfalse hc32;refine zO R3 (zO R3 (zP R6 (zN (zC rfl (zU rfl (zA R4 (zN (zR ?_))))))));exact ⟨rfl, _, rfl, RefN.cast .lit (by simp_all [chgErr])⟩
 | false =>
  replace hc16 := bfalse hc16;refine zC rfl (zU rfl (zA R4 (zN (zR ?_))));exact ⟨rfl, _, rfl, RefN.cast .lit (by simp_all [chgErr])⟩
theorem r1_gathering (b : Book) (i : Nat) (g : Gat) (hi : b.gs.l[i]? = some g) (hb : b.gs.l.length ≤ 30) (hok : ∀ k x, k < i → b.gs.l[k]? = some x → sigOk x.sig) : Comes (EL 2) 89 [.agg (encB.f b), iv (i : Int)] (iv (gathErr (b.gs.l.take i) g)) := by
 have hlt := (List.getElem?_eq_some_iff.1 hi).1;refine Comes.of (TF.enter (fn := Go.Proofs.Try.f89) rfl rfl rfl rfl rfl ?_);refine zU rfl (zQ 2 [_,_] R7 (fun b2=>zA R4 (zN (zU rfl (zF 1 R6 (zL 0 R3 R6 (zM R4 (TO.index_gs rfl rfl rfl ⟨rfl, rfl⟩ rfl rfl aO (fun a13 ra13 ea13=>?_)))))))))
 try simp only [Int.toNat_natCast] at ea13
 have e13 := Option.some.inj (hi.symm.trans ea13);subst e13;refine zV R3 (Val.load_trees (c := _) ⟨⟨_, rfl, rfl⟩, rfl, by decide⟩ rfl rfl) (zJ 4 [_,_,_,_] R7 (fun b5=>TO.store_row (p := 0) (cv := [_, _, _, _]) (cells' := [_, _, _, _]) rfl rfl rfl rfl rfl rfl rfl rfl rfl rfl (by first | rfl | simp [GS.one]) (by decide) rfl (zG ([_,_]) rfl (zN (zS (zU rfl (zF 0 R6 (zV R3 (vW 0 [_,_] R5 R4) (TO.callD rfl rfl rfl rfl rfl (orcL rfl aD) (.cons (.agg (.cons .lit (.cons .lit .nil))) .nil) (sem_of (r1_signature g.sig )) (fun c17 hc17=>zV R3 (Val.not rfl) (zN ?_)))))))))));cases c17 with
 | true =>
  replace hc17 := btrue hc17;refine zD rfl (zK (zU rfl (zA R4 (zN (zS (zU rfl (zA R4 (zN (zB (T.loop (fun μ s => ∃ k : Nat, ∃ j : Int, ∃ m : Int, μ = i - k ∧ j = k ∧ k ≤ i ∧ (∀ x ∈ b.gs.l.take k, x.sig ≠ g.sig) ∧ m = lastRank (b.gs.l.take k) ∧ (-1 ≤ m ∧ m ≤ 100) ∧ s = ⟨[], [(1, iv (i : Int)), (2, .ptr b2 0 2), (5, .ptr b5 0 4), (6, iv m), (7, iv j)], [.row b5 4 [iv g.round, iv g.letter, iv g.leaves, g.ch.v], .row b2 2 [iv b.signed, b.gs.v]]⟩) (k := _) (s' := _) ⟨0, 0, -1, rfl, (by first | rfl | omega | (simp; done) | (simp; omega) | simp_all), (by first | rfl | omega | (simp; done) | (simp; omega) | simp_all), (by first | rfl | omega | (simp; done) | (simp; omega) | simp_all), (by first | rfl | omega | (simp; done) | (simp; omega) | simp_all), (by first | rfl | omega | (simp; done) | (simp; omega) | simp_all), rfl⟩ ⟨rfl, (keep_cons rfl (keep_cons rfl (keep_cons rfl (keep_cons rfl (keep_cons rfl keep_nil))))), (.cons_cons _ (.cons_cons _ .slnil))⟩ ?_))))))))));rintro μ _ ⟨k, j, m, hk0, hj, hk, hne, hm, hmb, rfl⟩;subst hj;refine zS (zU rfl (zM R4 (zM R4 (TO.lss rfl rfl rfl rfl rfl (fun c21 hc21=>zN ?_)))));cases c21 with
  | true =>
   replace hc21 := btrue hc21;refine zC rfl (zK (zS (zB (zS (zS (T.draw (fun v => sameC_refl v) (l1 := [0, 1, 2, 3, 4, 5, 6, 7, 8]) (l2 := []) (by kernel_rfl) (by kernel_rfl) (zF 1 R6 (zL 1 R3 R6 (zM R4 (TO.index_gs rfl rfl rfl ⟨rfl, rfl⟩ rfl rfl aO (fun a27 ra27 ea27=>?_)))))))))))
   try simp only [Int.toNat_natCast] at ea27
   refine zV R3 (Val.faddr_tree (fo := 0) rfl rfl rfl rfl) (zV R3 (Val.load_trees (c := [_, _]) ⟨⟨_, rfl, rfl⟩, rfl, by decide⟩ rfl rfl) (zF 0 R6 (zV R3 (vW 0 [_,_] R5 R4) (TO.binP rfl rfl rfl rfl rfl (eql_ty96 _ _ _ _ _ _) (fun c32 hc32=>zN ?_)))));cases c32 with
   | true =>
    replace hc32 := btrue hc32;refine zC rfl (zU rfl (zA R4 (zN (zR ?_))));exact ⟨rfl, _, rfl, RefN.cast .lit (by rw [gathErr, if_neg (by simp [hc17]), if_pos ⟨a27, mem_take ea27 aO, sig_eq hc32⟩])⟩
   | false =>
    replace hc32 := bfalse hc32;refine zD rfl (zK (zT rfl (zM R4 (zF 1 R6 (zL 1 R3 R6 (zM R4 (TO.index_gs rfl rfl rfl ⟨rfl, rfl⟩ rfl rfl aO (fun a37 ra37 ea37=>?_))))))))
    try simp only [Int.toNat_natCast] at ea37
    refine zV R3 (Val.faddr_tree (fo := 0) rfl rfl rfl rfl) (zV R3 (Val.load_trees (c := [_, _]) ⟨⟨_, rfl, rfl⟩, rfl, by decide⟩ rfl rfl) (TO.call rfl rfl rfl rfl rfl (orcL rfl aD) (.cons (.agg (.cons .lit (.cons .lit .nil))) .nil) (sem_of (r1_rank a37.sig (by exact hok _ _ aO ea37))) (TO.bmax rfl rfl rfl rfl rfl (zA R4 (zN (zT rfl (zM R4 (zV R3 (Val.add rfl rfl aO) (zA R4 (zN ?_))))))))));refine ⟨_, _, aO, ⟨k + 1, _, _, rfl, (by first | omega | simp_all), (by first | omega | simp_all), (by rw [take_snoc ea27]; intro x hx; rcases List.mem_append.1 hx with hx | hx; exact hne x hx; simp at hx; subst hx; exact sig_ne hc32), (by rw [take_snoc ea37, lastRank_snoc, hm]), (by have := rank_le (hok k _ aO ea37); omega), rfl⟩, ⟨rfl, (keep_cons rfl (keep_cons rfl (keep_cons rfl (keep_cons rfl (keep_cons rfl keep_nil))))), (.cons_cons _ (.cons_cons _ .slnil))⟩⟩
  | false =>
   replace hc21 := bfalse hc21;obtain rfl : k = i := by omega
   have hnx : ¬ ∃ x ∈ b.gs.l.take k, x.sig = g.sig := fun ⟨x, h1, h2⟩ => hne x h1 h2
   refine zD rfl (zE (zS (zU rfl (zF 0 R6 (zV R3 (vW 0 [_,_] R5 R4) (TO.call rfl rfl rfl rfl rfl (orcL rfl aD) (.cons (.agg (.cons .lit (.cons .lit .nil))) .nil) (sem_of (r1_rank g.sig (by assumption))) (TO.geq rfl rfl rfl rfl rfl (fun c45 hc45=>zM R4 ?_))))))));cases c45 with
   | true =>
    replace hc45 := btrue hc45;refine zF 0 R6 (zV R3 (vW 0 [_,_] R5 R4) (TO.call rfl rfl rfl rfl rfl (orcL rfl aD) (.cons (.agg (.cons .lit (.cons .lit .nil))) .nil) (sem_of (r1_rank g.sig (by assumption))) (zM R4 (TO.lss rfl rfl rfl rfl rfl (fun c51 hc51=>zP R6 (zN ?_))))));cases c51 with
    | true =>
     replace hc51 := btrue hc51;refine zC rfl (zU rfl (zA R4 (zN (zR ?_))));exact ⟨rfl, _, rfl, RefN.cast .lit (by unfold gathErr; (repeat' split) <;> first | rfl | rw [hce] | exact absurd (by assumption) hnx | (exfalso; simp_all; done) | (exfalso; simp_all; omega) | simp_all)⟩
    | false =>
     replace hc51 := bfalse hc51;refine zD rfl (zK (zS (zU rfl (zF 2 R6 (zL 0 R3 R6 (TO.neq rfl rfl rfl rfl rfl (fun c55 hc55=>zM R4 ?_)))))));cases c55 with
     | true =>
      replace hc55 := btrue hc55;refine zF 2 R6 (zL 0 R3 R6 (TO.callD rfl rfl rfl rfl rfl (orcL rfl aD) (.cons .lit (.cons .lit (.cons .lit .nil))) (sem_of (r1_in _ _ _ )) (fun c59 hc59=>zV R3 (Val.not rfl) (zM R4 ?_))));cases c59 with
      | true =>
       replace hc59 := btrue hc59;refine zF 2 R6 (zL 0 R3 R6 (zV R3 (Val.rem rfl rfl aO) (TO.eql rfl rfl rfl rfl rfl (fun c65 hc65=>zP R6 (zP R6 (zN ?_))))));cases c65 with
       | true =>
        replace hc65 := btrue hc65;refine zC rfl (zU rfl (zA R4 (zN (zR ?_))));exact ⟨rfl, _, rfl, RefN.cast .lit (by unfold gathErr; (repeat' split) <;> first | rfl | rw [hce] | exact absurd (by assumption) hnx | (exfalso; simp_all; done) | (exfalso; simp_all; omega) | simp_all)⟩
       | false =>
        replace hc65 := bfalse hc65;refine zD rfl (zK (zS (zU rfl (zF 3 R6 (zL 0 R3 R6 (zV R3 (Val.len_gs rfl rfl) (TO.gtr rfl rfl rfl rfl rfl (fun c71 hc71=>zN ?_))))))));cases c71 with
        | true =>
         replace hc71 := btrue hc71;refine zC rfl (zU rfl (zA R4 (zN (zR ?_))));exact ⟨rfl, _, rfl, RefN.cast .lit (by unfold gathErr; (repeat' split) <;> first | rfl | rw [hce] | exact absurd (by assumption) hnx | (exfalso; simp_all; done) | (exfalso; simp_all; omega) | simp_all)⟩
        | false =>
         replace hc71 := bfalse hc71;refine zD rfl (zK (zS (zU rfl (zA R4 (zN (zB (T.loop (fun μ s => ∃ k : Nat, ∃ j : Int, μ = g.ch.l.length - k ∧ j = k ∧ k ≤ g.ch.l.length ∧ chgsErr g.leaves none g.ch.l = chgsErr g.leaves (if k = 0 then none else g.ch.l[k - 1]?) (g.ch.l.drop k) ∧ s = ⟨[], [(5, .ptr b5 0 4), (8, iv j)], [.row b5 4 [iv g.round, iv g.letter, iv g.leaves, g.ch.v]]⟩) (k := _) (s' := _) ⟨0, 0, rfl, (by first | rfl | omega | (simp; done) | (simp; omega) | simp_all), (by first | rfl | omega | (simp; done) | (simp; omega) | simp_all), (by first | rfl | omega | (simp; done) | (simp; omega) | simp_all), rfl⟩ ⟨rfl, (keep_cons rfl (keep_cons rfl keep_nil)), (.cons_cons _ (.cons _ .slnil))⟩ ?_)))))));rintro μ _ ⟨k, j, hk1, hj, hk, he, rfl⟩;subst hj;refine zS (zU rfl (zM R4 (zF 3 R6 (zL 0 R3 R6 (zV R3 (Val.len_gs rfl rfl) (TO.lss rfl rfl rfl rfl rfl (fun c76 hc76=>zN ?_)))))));cases c76 with
         | true =>
          replace hc76 := btrue hc76;refine zC rfl (zK (zS (zB (zU rfl (zV R3 (vW 0 [_,_,_,_] R5 R4) (zM R4 ?_))))));obtain ⟨c81, e81⟩ : ∃ c, g.ch.l[k]? = some c := ⟨_, List.getElem?_eq_getElem aO⟩;refine TO.call rfl rfl rfl rfl rfl (orcL rfl aD) (.cons (.agg (.cons .lit (.cons .lit (.cons .lit (.cons .gs .nil))))) (.cons .lit .nil)) (sem_of (r1_change g k c81 (by exact e81) aO)) ?_;generalize hE : chgErr g.leaves c81 (if k = 0 then none else g.ch.l[k - 1]?) = E81;refine zA R4 (zN (zU rfl (zM R4 (TO.neq rfl rfl rfl rfl rfl (fun c83 hc83=>zN ?_)))));cases c83 with
          | true =>
           replace hc83 := btrue hc83
           have hce : chgsErr g.leaves none g.ch.l = E81 := by rw [he, drop_cons e81, chgsErr, hE, if_pos hc83]
           refine zC rfl (zU rfl (zM R4 (zA R4 (zN (zR ?_)))));exact ⟨rfl, _, rfl, RefN.cast .lit (by unfold gathErr; (repeat' split) <;> first | rfl | rw [hce] | exact absurd (by assumption) hnx | (exfalso; simp_all; done) | (exfalso; simp_all; omega) | simp_all)⟩
          | false =>
           replace hc83 := bfalse hc83
           have hce : chgsErr g.leaves none g.ch.l = chgsErr g.leaves (some c81) (g.ch.l.drop (k + 1)) := by rw [he, drop_cons e81, chgsErr, hE, if_neg hc83]
           refine zD rfl (zK (zT rfl (zM R4 (zV R3 (Val.add rfl rfl aO) (zA R4 (zN ?_))))));refine ⟨_, _, aO, ⟨k + 1, _, rfl, (by first | omega | simp_all), (by first | omega | simp_all), (by rw [hce]; simp [e81]), rfl⟩, ⟨rfl, (keep_cons rfl (keep_cons rfl keep_nil)), (.cons_cons _ .slnil)⟩⟩
         | false =>
          replace hc76 := bfalse hc76;obtain rfl : k = g.ch.l.length := by omega
          rw [List.drop_length, chgsErr] at he;refine zD rfl (zE (zU rfl (zA R4 (zN (zR ?_)))));exact ⟨rfl, _, rfl, RefN.cast .lit (by unfold gathErr; (repeat' split) <;> first | rfl | rw [hce] | exact absurd (by assumption) hnx | (exfalso; simp_all; done) | (exfalso; simp_all; omega) | simp_all)⟩
      | false =>
       replace hc59 := bfalse hc59;refine zO R3 (zO R3 (zO R3 (zO R3 (zP R6 (zP R6 (zN (zC rfl (zU rfl (zA R4 (zN (zR ?_)))))))))));exact ⟨rfl, _, rfl, RefN.cast .lit (by unfold gathErr; (repeat' split) <;> first | rfl | rw [hce] | exact absurd (by assumption) hnx | (exfalso; simp_all; done) | (exfalso; simp_all; omega) | simp_all)⟩
     | false =>
      replace hc55 := bfalse hc55;refine zO R3 (zO R3 (zO R3 (zO R3 (zO R3 (zO R3 (zO R3 (zO R3 (zO R3 (zO R3 (zP R6 (zN (zD rfl (zK (zS (zU rfl (zF 3 R6 (zL 0 R3 R6 (zV R3 (Val.len_gs rfl rfl) (TO.gtr rfl rfl rfl rfl rfl (fun c71 hc71=>zN ?_))))))))))))))))))));cases c71 with
      | true =>
       replace hc71 := btrue hc71;refine zC rfl (zU rfl (zA R4 (zN (zR ?_))));exact ⟨rfl, _, rfl, RefN.cast .lit (by unfold gathErr; (repeat' split) <;> first | rfl | rw [hce] | exact absurd (by assumption) hnx | (exfalso; simp_all; done) | (exfalso; simp_all; omega) | simp_all)⟩
      | false =>
       replace hc71 := bfalse hc71;refine zD rfl (zK (zS (zU rfl (zA R4 (zN (zB (T.loop (fun μ s => ∃ k : Nat, ∃ j : Int, μ = g.ch.l.length - k ∧ j = k ∧ k ≤ g.ch.l.length ∧ chgsErr g.leaves none g.ch.l = chgsErr g.leaves (if k = 0 then none else g.ch.l[k - 1]?) (g.ch.l.drop k) ∧ s = ⟨[], [(5, .ptr b5 0 4), (8, iv j)], [.row b5 4 [iv g.round, iv g.letter, iv g.leaves, g.ch.v]]⟩) (k := _) (s' := _) ⟨0, 0, rfl, (by first | rfl | omega | (simp; done) | (simp; omega) | simp_all), (by first | rfl | omega | (simp; done) | (simp; omega) | simp_all), (by first | rfl | omega | (simp; done) | (simp; omega) | simp_all), rfl⟩ ⟨rfl, (keep_cons rfl (keep_cons rfl keep_nil)), (.cons_cons _ (.cons _ .slnil))⟩ ?_)))))));rintro μ _ ⟨k, j, hk1, hj, hk, he, rfl⟩;subst hj;refine zS (zU rfl (zM R4 (zF 3 R6 (zL 0 R3 R6 (zV R3 (Val.len_gs rfl rfl) (TO.lss rfl rfl rfl rfl rfl (fun c76 hc76=>zN ?_)))))));cases c76 with
       | true =>
        replace hc76 := btrue hc76;refine zC rfl (zK (zS (zB (zU rfl (zV R3 (vW 0 [_,_,_,_] R5 R4) (zM R4 ?_))))));obtain ⟨c81, e81⟩ : ∃ c, g.ch.l[k]? = some c := ⟨_, List.getElem?_eq_getElem aO⟩;refine TO.call rfl rfl rfl rfl rfl (orcL rfl aD) (.cons (.agg (.cons .lit (.cons .lit (.cons .lit (.cons .gs .nil))))) (.cons .lit .nil)) (sem_of (r1_change g k c81 (by exact e81) aO)) ?_;generalize hE : chgErr g.leaves c81 (if k = 0 then none else g.ch.l[k - 1]?) = E81;refine zA R4 (zN (zU rfl (zM R4 (TO.neq rfl rfl rfl rfl rfl (fun c83 hc83=>zN ?_)))));cases c83 with
        | true =>
         replace hc83 := btrue hc83
         have hce : chgsErr g.leaves none g.ch.l = E81 := by rw [he, drop_cons e81, chgsErr, hE, if_pos hc83]
         refine zC rfl (zU rfl (zM R4 (zA R4 (zN (zR ?_)))));exact ⟨rfl, _, rfl, RefN.cast .lit (by unfold gathErr; (repeat' split) <;> first | rfl | rw [hce] | exact absurd (by assumption) hnx | (exfalso; simp_all; done) | (exfalso; simp_all; omega) | simp_all)⟩
        | false =>
         replace hc83 := bfalse hc83
         have hce : chgsErr g.leaves none g.ch.l = chgsErr g.leaves (some c81) (g.ch.l.drop (k + 1)) := by rw [he, drop_cons e81, chgsErr, hE, if_neg hc83]
         refine zD rfl (zK (zT rfl (zM R4 (zV R3 (Val.add rfl rfl aO) (zA R4 (zN ?_))))));refine ⟨_, _, aO, ⟨k + 1, _, rfl, (by first | omega | simp_all), (by first | omega | simp_all), (by first | omega | simp_all), rfl⟩, ⟨rfl, (keep_cons rfl (keep_cons rfl keep_nil)), (.cons_cons _ .slnil)⟩⟩
       | false =>
        replace hc76 := bfalse hc76;obtain rfl : k = g.ch.l.length := by omega
        rw [List.drop_length, chgsErr] at he;refine zD rfl (zE (zU rfl (zA R4 (zN (zR ?_)))));exact ⟨rfl, _, rfl, RefN.cast .lit (by unfold gathErr; (repeat' split) <;> first | rfl | rw [hce] | exact absurd (by assumption) hnx | (exfalso; simp_all; done) | (exfalso; simp_all; omega) | simp_all)⟩
   | false =>
    replace hc45 := bfalse hc45;refine zO R3 (zO R3 (zO R3 (zO R3 (zO R3 (zP R6 (zN (zD rfl (zK (zS (zU rfl (zF 2 R6 (zL 0 R3 R6 (TO.neq rfl rfl rfl rfl rfl (fun c55 hc55=>zM R4 ?_))))))))))))));cases c55 with
    | true =>
     replace hc55 := btrue hc55;refine zF 2 R6 (zL 0 R3 R6 (TO.callD rfl rfl rfl rfl rfl (orcL rfl aD) (.cons .lit (.cons .lit (.cons .lit .nil))) (sem_of (r1_in _ _ _ )) (fun c59 hc59=>zV R3 (Val.not rfl) (zM R4 ?_))));cases c59 with
     | true =>
      replace hc59 := btrue hc59;refine zF 2 R6 (zL 0 R3 R6 (zV R3 (Val.rem rfl rfl aO) (TO.eql rfl rfl rfl rfl rfl (fun c65 hc65=>zP R6 (zP R6 (zN ?_))))));cases c65 with
      | true =>
       replace hc65 := btrue hc65;refine zC rfl (zU rfl (zA R4 (zN (zR ?_))));exact ⟨rfl, _, rfl, RefN.cast .lit (by unfold gathErr; (repeat' split) <;> first | rfl | rw [hce] | exact absurd (by assumption) hnx | (exfalso; simp_all; done) | (exfalso; simp_all; omega) | simp_all)⟩
      | false =>
       replace hc65 := bfalse hc65;refine zD rfl (zK (zS (zU rfl (zF 3 R6 (zL 0 R3 R6 (zV R3 (Val.len_gs rfl rfl) (TO.gtr rfl rfl rfl rfl rfl (fun c71 hc71=>zN ?_))))))));cases c71 with
       | true =>
        replace hc71 := btrue hc71;refine zC rfl (zU rfl (zA R4 (zN (zR ?_))));exact ⟨rfl, _, rfl, RefN.cast .lit (by unfold gathErr; (repeat' split) <;> first | rfl | rw [hce] | exact absurd (by assumption) hnx | (exfalso; simp_all; done) | (exfalso; simp_all; omega) | simp_all)⟩
       | false =>
        replace hc71 := bfalse hc71;refine zD rfl (zK (zS (zU rfl (zA R4 (zN (zB (T.loop (fun μ s => ∃ k : Nat, ∃ j : Int, μ = g.ch.l.length - k ∧ j = k ∧ k ≤ g.ch.l.length ∧ chgsErr g.leaves none g.ch.l = chgsErr g.leaves (if k = 0 then none else g.ch.l[k - 1]?) (g.ch.l.drop k) ∧ s = ⟨[], [(5, .ptr b5 0 4), (8, iv j)], [.row b5 4 [iv g.round, iv g.letter, iv g.leaves, g.ch.v]]⟩) (k := _) (s' := _) ⟨0, 0, rfl, (by first | rfl | omega | (simp; done) | (simp; omega) | simp_all), (by first | rfl | omega | (simp; done) | (simp; omega) | simp_all), (by first | rfl | omega | (simp; done) | (simp; omega) | simp_all), rfl⟩ ⟨rfl, (keep_cons rfl (keep_cons rfl keep_nil)), (.cons_cons _ (.cons _ .slnil))⟩ ?_)))))));rintro μ _ ⟨k, j, hk1, hj, hk, he, rfl⟩;subst hj;refine zS (zU rfl (zM R4 (zF 3 R6 (zL 0 R3 R6 (zV R3 (Val.len_gs rfl rfl) (TO.lss rfl rfl rfl rfl rfl (fun c76 hc76=>zN ?_)))))));cases c76 with
        | true =>
         replace hc76 := btrue hc76;refine zC rfl (zK (zS (zB (zU rfl (zV R3 (vW 0 [_,_,_,_] R5 R4) (zM R4 ?_))))));obtain ⟨c81, e81⟩ : ∃ c, g.ch.l[k]? = some c := ⟨_, List.getElem?_eq_getElem aO⟩;refine TO.call rfl rfl rfl rfl rfl (orcL rfl aD) (.cons (.agg (.cons .lit (.cons .lit (.cons .lit (.cons .gs .nil))))) (.cons .lit .nil)) (sem_of (r1_change g k c81 (by exact e81) aO)) ?_;generalize hE : chgErr g.leaves c81 (if k = 0 then none else g.ch.l[k - 1]?) = E81;refine zA R4 (zN (zU rfl (zM R4 (TO.neq rfl rfl rfl rfl rfl (fun c83 hc83=>zN ?_)))));cases c83 with
         | true =>
          replace hc83 := btrue hc83
          have hce : chgsErr g.leaves none g.ch.l = E81 := by rw [he, drop_cons e81, chgsErr, hE, if_pos hc83]
          refine zC rfl (zU rfl (zM R4 (zA R4 (zN (zR ?_)))));exact ⟨rfl, _, rfl, RefN.cast .lit (by unfold gathErr; (repeat' split) <;> first | rfl | rw [hce] | exact absurd (by assumption) hnx | (exfalso; simp_all; done) | (exfalso; simp_all; omega) | simp_all)⟩
         | false =>
          replace hc83 := bfalse hc83
          have hce : chgsErr g.leaves none g.ch.l = chgsErr g.leaves (some c81) (g.ch.l.drop (k + 1)) := by rw [he, drop_cons e81, chgsErr, hE, if_neg hc83]
          refine zD rfl (zK (zT rfl (zM R4 (zV R3 (Val.add rfl rfl aO) (zA R4 (zN ?_))))));refine ⟨_, _, aO, ⟨k + 1, _, rfl, (by first | omega | simp_all), (by first | omega | simp_all), (by first | omega | simp_all), rfl⟩, ⟨rfl, (keep_cons rfl (keep_cons rfl keep_nil)), (.cons_cons _ .slnil)⟩⟩
        | false =>
         replace hc76 := bfalse hc76;obtain rfl : k = g.ch.l.length := by omega
         rw [List.drop_length, chgsErr] at he;refine zD rfl (zE (zU rfl (zA R4 (zN (zR ?_)))));exact ⟨rfl, _, rfl, RefN.cast .lit (by unfold gathErr; (repeat' split) <;> first | rfl | rw [hce] | exact absurd (by assumption) hnx | (exfalso; simp_all; done) | (exfalso; simp_all; omega) | simp_all)⟩
     | false =>
      replace hc59 := bfalse hc59;refine zO R3 (zO R3 (zO R3 (zO R3 (zP R6 (zP R6 (zN (zC rfl (zU rfl (zA R4 (zN (zR ?_)))))))))));exact ⟨rfl, _, rfl, RefN.cast .lit (by unfold gathErr; (repeat' split) <;> first | rfl | rw [hce] | exact absurd (by assumption) hnx | (exfalso; simp_all; done) | (exfalso; simp_all; omega) | simp_all)⟩
    | false =>
     replace hc55 := bfalse hc55;refine zO R3 (zO R3 (zO R3 (zO R3 (zO R3 (zO R3 (zO R3 (zO R3 (zO R3 (zO R3 (zP R6 (zN (zD rfl (zK (zS (zU rfl (zF 3 R6 (zL 0 R3 R6 (zV R3 (Val.len_gs rfl rfl) (TO.gtr rfl rfl rfl rfl rfl (fun c71 hc71=>zN ?_))))))))))))))))))));cases c71 with
     | true =>
      replace hc71 := btrue hc71;refine zC rfl (zU rfl (zA R4 (zN (zR ?_))));exact ⟨rfl, _, rfl, RefN.cast .lit (by unfold gathErr; (repeat' split) <;> first | rfl | rw [hce] | exact absurd (by assumption) hnx | (exfalso; simp_all; done) | (exfalso; simp_all; omega) | simp_all)⟩
     | false =>
      replace hc71 := bfalse hc71;refine zD rfl (zK (zS (zU rfl (zA R4 (zN (zB (T.loop (fun μ s => ∃ k : Nat, ∃ j : Int, μ = g.ch.l.length - k ∧ j = k ∧ k ≤ g.ch.l.length ∧ chgsErr g.leaves none g.ch.l = chgsErr g.leaves (if k = 0 then none else g.ch.l[k - 1]?) (g.ch.l.drop k) ∧ s = ⟨[], [(5, .ptr b5 0 4), (8, iv j)], [.row b5 4 [iv g.round, iv g.letter, iv g.leaves, g.ch.v]]⟩) (k := _) (s' := _) ⟨0, 0, rfl, (by first | rfl | omega | (simp; done) | (simp; omega) | simp_all), (by first | rfl | omega | (simp; done) | (simp; omega) | simp_all), (by first | rfl | omega | (simp; done) | (simp; omega) | simp_all), rfl⟩ ⟨rfl, (keep_cons rfl (keep_cons rfl keep_nil)), (.cons_cons _ (.cons _ .slnil))⟩ ?_)))))));rintro μ _ ⟨k, j, hk1, hj, hk, he, rfl⟩;subst hj;refine zS (zU rfl (zM R4 (zF 3 R6 (zL 0 R3 R6 (zV R3 (Val.len_gs rfl rfl) (TO.lss rfl rfl rfl rfl rfl (fun c76 hc76=>zN ?_)))))));cases c76 with
      | true =>
       replace hc76 := btrue hc76;refine zC rfl (zK (zS (zB (zU rfl (zV R3 (vW 0 [_,_,_,_] R5 R4) (zM R4 ?_))))));obtain ⟨c81, e81⟩ : ∃ c, g.ch.l[k]? = some c := ⟨_, List.getElem?_eq_getElem aO⟩;refine TO.call rfl rfl rfl rfl rfl (orcL rfl aD) (.cons (.agg (.cons .lit (.cons .lit (.cons .lit (.cons .gs .nil))))) (.cons .lit .nil)) (sem_of (r1_change g k c81 (by exact e81) aO)) ?_;generalize hE : chgErr g.leaves c81 (if k = 0 then none else g.ch.l[k - 1]?) = E81;refine zA R4 (zN (zU rfl (zM R4 (TO.neq rfl rfl rfl rfl rfl (fun c83 hc83=>zN ?_)))));cases c83 with
       | true =>
        replace hc83 := btrue hc83
        have hce : chgsErr g.leaves none g.ch.l = E81 := by rw [he, drop_cons e81, chgsErr, hE, if_pos hc83]
        refine zC rfl (zU rfl (zM R4 (zA R4 (zN (zR ?_)))));exact ⟨rfl, _, rfl, RefN.cast .lit (by unfold gathErr; (repeat' split) <;> first | rfl | rw [hce] | exact absurd (by assumption) hnx | (exfalso; simp_all; done) | (exfalso; simp_all; omega) | simp_all)⟩
       | false =>
        replace hc83 := bfalse hc83
        have hce : chgsErr g.leaves none g.ch.l = chgsErr g.leaves (some c81) (g.ch.l.drop (k + 1)) := by rw [he, drop_cons e81, chgsErr, hE, if_neg hc83]
        refine zD rfl (zK (zT rfl (zM R4 (zV R3 (Val.add rfl rfl aO) (zA R4 (zN ?_))))));refine ⟨_, _, aO, ⟨k + 1, _, rfl, (by first | omega | simp_all), (by first | omega | simp_all), (by first | omega | simp_all), rfl⟩, ⟨rfl, (keep_cons rfl (keep_cons rfl keep_nil)), (.cons_cons _ .slnil)⟩⟩
      | false =>
       replace hc76 := bfalse hc76;obtain rfl : k = g.ch.l.length := by omega
       rw [List.drop_length, chgsErr] at he;refine zD rfl (zE (zU rfl (zA R4 (zN (zR ?_)))));exact ⟨rfl, _, rfl, RefN.cast .lit (by unfold gathErr; (repeat' split) <;> first | rfl | rw [hce] | exact absurd (by assumption) hnx | (exfalso; simp_all; done) | (exfalso; simp_all; omega) | simp_all)⟩
 | false =>
  replace hc17 := bfalse hc17;refine zC rfl (zU rfl (zA R4 (zN (zR ?_))));exact ⟨rfl, _, rfl, RefN.cast .lit (by unfold gathErr; (repeat' split) <;> first | rfl | rw [hce] | exact absurd (by assumption) hnx | (exfalso; simp_all; done) | (exfalso; simp_all; omega) | simp_all)⟩
theorem r1_Check (b : Book)  : Comes (EL 3) 63 [.agg (encB.f b)] (.tuple [iv (bookErr b).1, iv (bookErr b).2.1, iv (bookErr b).2.2]) := by
 refine Comes.of (TF.enter (fn := Go.Proofs.Try.f63) rfl rfl rfl rfl rfl ?_);refine zU rfl (zQ 2 [_,_] R7 (fun b1=>zA R4 (zA R4 (zA R4 (zN (zS (zU rfl (zF 0 R6 (zL 0 R3 R6 (TO.callD rfl rfl rfl rfl rfl (orcL rfl aD) (.cons .lit (.cons .lit (.cons .lit .nil))) (sem_of (r1_in _ _ _ )) (fun c9 hc9=>zV R3 (Val.not rfl) (zN ?_))))))))))));cases c9 with
 | true =>
  replace hc9 := btrue hc9;refine zD rfl (zK (zS (zU rfl (zF 1 R6 (zL 0 R3 R6 (zV R3 (Val.len_gs rfl rfl) (TO.callD rfl rfl rfl rfl rfl (orcL rfl aD) (.cons .lit (.cons .lit (.cons .lit .nil))) (sem_of (r1_in _ _ _ )) (fun c14 hc14=>zV R3 (Val.not rfl) (zN ?_)))))))));cases c14 with
  | true =>
   replace hc14 := btrue hc14;obtain ⟨h30, h31⟩ := hc14;refine zD rfl (zK (zS (zU rfl (zA R4 (zN (zB (T.loop (fun μ s => ∃ i : Nat, ∃ j : Int, μ = b.gs.l.length - i ∧ j = i ∧ i ≤ b.gs.l.length ∧ gathsErr [] b.gs.l 0 = gathsErr (b.gs.l.take i) (b.gs.l.drop i) i ∧ (∀ k x, k < i → b.gs.l[k]? = some x → sigOk x.sig) ∧ s = ⟨[], [(1, .ptr b1 0 2), (5, iv j)], [.row b1 2 [iv b.signed, b.gs.v]]⟩) (k := _) (s' := _) ⟨0, 0, rfl, (by first | rfl | omega | (simp; done) | (simp; omega) | simp_all), (by first | rfl | omega | (simp; done) | (simp; omega) | simp_all), (by first | rfl | omega | (simp; done) | (simp; omega) | simp_all), (by intro k x hk; omega), rfl⟩ ⟨rfl, (keep_cons rfl (keep_cons rfl keep_nil)), (.cons_cons _ .slnil)⟩ ?_)))))));rintro μ _ ⟨i, j, hk0, hj, hi, he, hok, rfl⟩;subst hj;refine zS (zU rfl (zM R4 (zF 1 R6 (zL 0 R3 R6 (zV R3 (Val.len_gs rfl rfl) (TO.lss rfl rfl rfl rfl rfl (fun c20 hc20=>zN ?_)))))));cases c20 with
   | true =>
    replace hc20 := btrue hc20;refine zC rfl (zK (zS (zB (zU rfl (zV R3 (vW 0 [_,_] R5 R4) (zM R4 ?_))))));obtain ⟨g25, e25⟩ : ∃ g, b.gs.l[i]? = some g := ⟨_, List.getElem?_eq_getElem aO⟩;refine TO.call rfl rfl rfl rfl rfl (orcL rfl aD) (.cons (.agg (.cons .lit (.cons .gs .nil))) (.cons .lit .nil)) (sem_of (r1_gathering b i g25 (by exact e25) aO (by exact hok))) ?_;generalize hE : gathErr (b.gs.l.take i) g25 = E25;refine zA R4 (zN (zU rfl (zM R4 (TO.neq rfl rfl rfl rfl rfl (fun c27 hc27=>zN ?_)))));cases c27 with
    | true =>
     replace hc27 := btrue hc27
     have hG : gathsErr [] b.gs.l 0 = some (i, E25) := by rw [he, drop_cons e25, gathsErr, hE, if_pos hc27]
     clear he
     refine zC rfl (zU rfl (zM R4 (zM R4 (zA R4 (zA R4 (zA R4 (zN (zR ?_))))))));exact ⟨rfl, _, rfl, RefN.cast (.tuple (.cons .lit (.cons .lit (.cons .lit .nil)))) (by simp_all [bookErr, inR])⟩
    | false =>
     replace hc27 := bfalse hc27
     have hG : gathsErr [] b.gs.l 0 = gathsErr (b.gs.l.take (i + 1)) (b.gs.l.drop (i + 1)) (i + 1) := by rw [he, drop_cons e25, gathsErr, hE, if_neg hc27, take_snoc e25]
     refine zD rfl (zK (zT rfl (zM R4 (zV R3 (Val.add rfl rfl aO) (zA R4 (zN ?_))))));refine ⟨_, _, aO, ⟨i + 1, _, rfl, (by first | omega | simp_all), (by first | omega | simp_all), (by exact hG), (by intro k x hk hx; rcases Nat.lt_or_eq_of_le (Nat.le_of_lt_succ hk) with h | h; exact hok k x h hx; subst h; rw [e25] at hx; cases hx; exact gath_sig (by rw [hE]; omega)), rfl⟩, ⟨rfl, (keep_cons rfl (keep_cons rfl keep_nil)), (.cons_cons _ .slnil)⟩⟩
   | false =>
    replace hc20 := bfalse hc20
    have hG : gathsErr [] b.gs.l 0 = none := by rw [he, List.drop_eq_nil_of_le aO, gathsErr]
    clear he
    refine zD rfl (zE (zU rfl (zA R4 (zA R4 (zA R4 (zN (zR ?_)))))));exact ⟨rfl, _, rfl, RefN.cast (.tuple (.cons .lit (.cons .lit (.cons .lit .nil)))) (by simp_all [bookErr, inR])⟩
  | false =>
   replace hc14 := bfalse hc14;refine zC rfl (zU rfl (zA R4 (zA R4 (zA R4 (zN (zR ?_))))));exact ⟨rfl, _, rfl, RefN.cast (.tuple (.cons .lit (.cons .lit (.cons .lit .nil)))) (by simp_all [bookErr, inR])⟩
 | false =>
  replace hc9 := bfalse hc9;refine zC rfl (zU rfl (zA R4 (zA R4 (zA R4 (zN (zR ?_))))));exact ⟨rfl, _, rfl, RefN.cast (.tuple (.cons .lit (.cons .lit (.cons .lit .nil)))) (by simp_all [bookErr, inR])⟩
theorem r1_plus (g : Gat) (n : Int) (hb : g.ch.l.length ≤ 4) : Comes (EL 0) 52 [.agg (encG.f g), iv n] (.tuple [iv (plusOf g.ch.l n).1, iv (plusOf g.ch.l n).2]) := by
 refine Comes.of (TF.enter (fn := Go.Proofs.Try.f52) rfl rfl rfl rfl rfl ?_);refine zU rfl (zQ 4 [_,_,_,_] R7 (fun b2=>zA R4 (zA R4 (zN (zS (zU rfl (zA R4 (zN (zB (T.loop (fun μ s => ∃ i : Nat, ∃ j : Int, ∃ m1 : Int, ∃ m2 : Int, μ = g.ch.l.length - i ∧ j = i ∧ i ≤ g.ch.l.length ∧ m1 = (plusOf (g.ch.l.take i) n).1 ∧ m2 = (plusOf (g.ch.l.take i) n).2 ∧ s = ⟨[], [(1, iv n), (2, .ptr b2 0 4), (4, iv m1), (5, iv m2), (6, iv j)], [.row b2 4 [iv g.round, iv g.letter, iv g.leaves, g.ch.v]]⟩) (k := _) (s' := _) ⟨0, 0, 0, 0, rfl, (by first | rfl | omega | (simp; done) | (simp; omega) | simp_all), (by first | rfl | omega | (simp; done) | (simp; omega) | simp_all), (by first | rfl | omega | (simp; done) | (simp; omega) | simp_all), (by first | rfl | omega | (simp; done) | (simp; omega) | simp_all), rfl⟩ ⟨rfl, (keep_cons rfl (keep_cons rfl (keep_cons rfl (keep_cons rfl (keep_cons rfl keep_nil))))), (.cons_cons _ .slnil)⟩ ?_))))))))));rintro μ _ ⟨i, j, m1, m2, hk0, hj, hi, hm1, hm2, rfl⟩;subst hj;refine zS (zU rfl (zM R4 (zF 3 R6 (zL 0 R3 R6 (zV R3 (Val.len_gs rfl rfl) (TO.lss rfl rfl rfl rfl rfl (fun c11 hc11=>zN ?_)))))));cases c11 with
 | true =>
  replace hc11 := btrue hc11;refine zC rfl (zK (zS (zB (zS (zU rfl (zF 3 R6 (zL 0 R3 R6 (zM R4 (TO.index_gs rfl rfl rfl ⟨rfl, rfl⟩ rfl rfl aO (fun a17 ra17 ea17=>?_))))))))))
  try simp only [Int.toNat_natCast] at ea17
  refine zV R3 (Val.faddr_tree (fo := 1) rfl rfl rfl rfl) (zV R3 (Val.load_tree ⟨_, rfl, rfl⟩ rfl) (zM R4 (TO.eql rfl rfl rfl rfl rfl (fun c21 hc21=>zM R4 ?_))));cases c21 with
  | true =>
   replace hc21 := btrue hc21;refine zF 3 R6 (zL 0 R3 R6 (zM R4 (TO.index_gs rfl rfl rfl ⟨rfl, rfl⟩ rfl rfl aO (fun a26 ra26 ea26=>?_))))
   try simp only [Int.toNat_natCast] at ea26
   have e26 := Option.some.inj (ea17.symm.trans ea26);subst e26;refine zV R3 (Val.faddr_tree (fo := 0) rfl rfl rfl rfl) (zV R3 (Val.load_tree ⟨_, rfl, rfl⟩ rfl) (TO.eql rfl rfl rfl rfl rfl (fun c29 hc29=>zP R6 (zN ?_))));cases c29 with
   | true =>
    replace hc29 := btrue hc29;refine zC rfl (zT rfl (zF 3 R6 (zL 0 R3 R6 (zM R4 (TO.index_gs rfl rfl rfl ⟨rfl, rfl⟩ rfl rfl aO (fun a34 ra34 ea34=>?_))))))
    try simp only [Int.toNat_natCast] at ea34
    have e34 := Option.some.inj (ea17.symm.trans ea34);subst e34;refine zV R3 (Val.faddr_tree (fo := 2) rfl rfl rfl rfl) (zV R3 (Val.load_tree ⟨_, rfl, rfl⟩ rfl) (zA R4 (zN (zU rfl (zF 3 R6 (zL 0 R3 R6 (zM R4 (TO.index_gs rfl rfl rfl ⟨rfl, rfl⟩ rfl rfl aO (fun a40 ra40 ea40=>?_)))))))))
    try simp only [Int.toNat_natCast] at ea40
    have e40 := Option.some.inj (ea17.symm.trans ea40);subst e40;refine zV R3 (Val.faddr_tree (fo := 1) rfl rfl rfl rfl) (zV R3 (Val.load_tree ⟨_, rfl, rfl⟩ rfl) (zM R4 (TO.eql rfl rfl rfl rfl rfl (fun c44 hc44=>zM R4 ?_))));cases c44 with
    | true =>
     replace hc44 := btrue hc44;refine zF 3 R6 (zL 0 R3 R6 (zM R4 (TO.index_gs rfl rfl rfl ⟨rfl, rfl⟩ rfl rfl aO (fun a49 ra49 ea49=>?_))))
     try simp only [Int.toNat_natCast] at ea49
     have e49 := Option.some.inj (ea17.symm.trans ea49);subst e49;refine zV R3 (Val.faddr_tree (fo := 0) rfl rfl rfl rfl) (zV R3 (Val.load_tree ⟨_, rfl, rfl⟩ rfl) (TO.neq rfl rfl rfl rfl rfl (fun c52 hc52=>zP R6 (zN ?_))));cases c52 with
     | true =>
      replace hc52 := btrue hc52;refine zC rfl (zT rfl (zF 3 R6 (zL 0 R3 R6 (zM R4 (TO.index_gs rfl rfl rfl ⟨rfl, rfl⟩ rfl rfl aO (fun a57 ra57 ea57=>?_))))))
      try simp only [Int.toNat_natCast] at ea57
      have e57 := Option.some.inj (ea17.symm.trans ea57);subst e57;refine zV R3 (Val.faddr_tree (fo := 0) rfl rfl rfl rfl) (zV R3 (Val.load_tree ⟨_, rfl, rfl⟩ rfl) (zA R4 (zN (zT rfl (zM R4 (zV R3 (Val.add rfl rfl aO) (zA R4 (zN ?_))))))));refine ⟨_, _, aO, ⟨i + 1, _, _, _, rfl, (by first | omega | simp_all), (by first | omega | simp_all), (by rw [take_snoc ea17, plusOf_snoc]; simp_all), (by rw [take_snoc ea17, plusOf_snoc]; simp_all), rfl⟩, ⟨rfl, (keep_cons rfl (keep_cons rfl (keep_cons rfl (keep_cons rfl (keep_cons rfl keep_nil))))), (.cons_cons _ .slnil)⟩⟩
     | false =>
      replace hc52 := bfalse hc52;refine zD rfl (zK (zT rfl (zM R4 (zV R3 (Val.add rfl rfl aO) (zA R4 (zN ?_))))));refine ⟨_, _, aO, ⟨i + 1, _, _, _, rfl, (by first | omega | simp_all), (by first | omega | simp_all), (by rw [take_snoc ea17, plusOf_snoc]; simp_all), (by rw [take_snoc ea17, plusOf_snoc]; simp_all), rfl⟩, ⟨rfl, (keep_cons rfl (keep_cons rfl (keep_cons rfl (keep_cons rfl (keep_cons rfl keep_nil))))), (.cons_cons _ .slnil)⟩⟩
    | false =>
     replace hc44 := bfalse hc44;refine zO R3 (zO R3 (zO R3 (zO R3 (zO R3 (zO R3 (zO R3 (zP R6 (zN (zD rfl (zK (zT rfl (zM R4 (zV R3 (Val.add rfl rfl aO) (zA R4 (zN ?_)))))))))))))));refine ⟨_, _, aO, ⟨i + 1, _, _, _, rfl, (by first | omega | simp_all), (by first | omega | simp_all), (by rw [take_snoc ea17, plusOf_snoc]; simp_all), (by rw [take_snoc ea17, plusOf_snoc]; simp_all), rfl⟩, ⟨rfl, (keep_cons rfl (keep_cons rfl (keep_cons rfl (keep_cons rfl (keep_cons rfl keep_nil))))), (.cons_cons _ .slnil)⟩⟩
   | false =>
    replace hc29 := bfalse hc29;refine zD rfl (zK (zU rfl (zF 3 R6 (zL 0 R3 R6 (zM R4 (TO.index_gs rfl rfl rfl ⟨rfl, rfl⟩ rfl rfl aO (fun a40 ra40 ea40=>?_)))))))
    try simp only [Int.toNat_natCast] at ea40
    have e40 := Option.some.inj (ea17.symm.trans ea40);subst e40;refine zV R3 (Val.faddr_tree (fo := 1) rfl rfl rfl rfl) (zV R3 (Val.load_tree ⟨_, rfl, rfl⟩ rfl) (zM R4 (TO.eql rfl rfl rfl rfl rfl (fun c44 hc44=>zM R4 ?_))));cases c44 with
    | true =>
     replace hc44 := btrue hc44;refine zF 3 R6 (zL 0 R3 R6 (zM R4 (TO.index_gs rfl rfl rfl ⟨rfl, rfl⟩ rfl rfl aO (fun a49 ra49 ea49=>?_))))
     try simp only [Int.toNat_natCast] at ea49
     have e49 := Option.some.inj (ea17.symm.trans ea49);subst e49;refine zV R3 (Val.faddr_tree (fo := 0) rfl rfl rfl rfl) (zV R3 (Val.load_tree ⟨_, rfl, rfl⟩ rfl) (TO.neq rfl rfl rfl rfl rfl (fun c52 hc52=>zP R6 (zN ?_))));cases c52 with
     | true =>
      replace hc52 := btrue hc52;refine zC rfl (zT rfl (zF 3 R6 (zL 0 R3 R6 (zM R4 (TO.index_gs rfl rfl rfl ⟨rfl, rfl⟩ rfl rfl aO (fun a57 ra57 ea57=>?_))))))
      try simp only [Int.toNat_natCast] at ea57
      have e57 := Option.some.inj (ea17.symm.trans ea57);subst e57;refine zV R3 (Val.faddr_tree (fo := 0) rfl rfl rfl rfl) (zV R3 (Val.load_tree ⟨_, rfl, rfl⟩ rfl) (zA R4 (zN (zT rfl (zM R4 (zV R3 (Val.add rfl rfl aO) (zA R4 (zN ?_))))))));refine ⟨_, _, aO, ⟨i + 1, _, _, _, rfl, (by first | omega | simp_all), (by first | omega | simp_all), (by rw [take_snoc ea17, plusOf_snoc]; simp_all), (by rw [take_snoc ea17, plusOf_snoc]; simp_all), rfl⟩, ⟨rfl, (keep_cons rfl (keep_cons rfl (keep_cons rfl (keep_cons rfl (keep_cons rfl keep_nil))))), (.cons_cons _ .slnil)⟩⟩
     | false =>
      replace hc52 := bfalse hc52;refine zD rfl (zK (zT rfl (zM R4 (zV R3 (Val.add rfl rfl aO) (zA R4 (zN ?_))))));refine ⟨_, _, aO, ⟨i + 1, _, _, _, rfl, (by first | omega | simp_all), (by first | omega | simp_all), (by rw [take_snoc ea17, plusOf_snoc]; simp_all), (by rw [take_snoc ea17, plusOf_snoc]; simp_all), rfl⟩, ⟨rfl, (keep_cons rfl (keep_cons rfl (keep_cons rfl (keep_cons rfl (keep_cons rfl keep_nil))))), (.cons_cons _ .slnil)⟩⟩
    | false =>
     replace hc44 := bfalse hc44;refine zO R3 (zO R3 (zO R3 (zO R3 (zO R3 (zO R3 (zO R3 (zP R6 (zN (zD rfl (zK (zT rfl (zM R4 (zV R3 (Val.add rfl rfl aO) (zA R4 (zN ?_)))))))))))))));refine ⟨_, _, aO, ⟨i + 1, _, _, _, rfl, (by first | omega | simp_all), (by first | omega | simp_all), (by rw [take_snoc ea17, plusOf_snoc]; simp_all), (by rw [take_snoc ea17, plusOf_snoc]; simp_all), rfl⟩, ⟨rfl, (keep_cons rfl (keep_cons rfl (keep_cons rfl (keep_cons rfl (keep_cons rfl keep_nil))))), (.cons_cons _ .slnil)⟩⟩
  | false =>
   replace hc21 := bfalse hc21;refine zO R3 (zO R3 (zO R3 (zO R3 (zO R3 (zO R3 (zO R3 (zP R6 (zN (zD rfl (zK (zU rfl (zF 3 R6 (zL 0 R3 R6 (zM R4 (TO.index_gs rfl rfl rfl ⟨rfl, rfl⟩ rfl rfl aO (fun a40 ra40 ea40=>?_))))))))))))))))
   try simp only [Int.toNat_natCast] at ea40
   have e40 := Option.some.inj (ea17.symm.trans ea40);subst e40;refine zV R3 (Val.faddr_tree (fo := 1) rfl rfl rfl rfl) (zV R3 (Val.load_tree ⟨_, rfl, rfl⟩ rfl) (zM R4 (TO.eql rfl rfl rfl rfl rfl (fun c44 hc44=>zM R4 ?_))));cases c44 with
   | true =>
    replace hc44 := btrue hc44;refine zF 3 R6 (zL 0 R3 R6 (zM R4 (TO.index_gs rfl rfl rfl ⟨rfl, rfl⟩ rfl rfl aO (fun a49 ra49 ea49=>?_))))
    try simp only [Int.toNat_natCast] at ea49
    have e49 := Option.some.inj (ea17.symm.trans ea49);subst e49;refine zV R3 (Val.faddr_tree (fo := 0) rfl rfl rfl rfl) (zV R3 (Val.load_tree ⟨_, rfl, rfl⟩ rfl) (TO.neq rfl rfl rfl rfl rfl (fun c52 hc52=>zP R6 (zN ?_))));cases c52 with
    | true =>
     replace hc52 := btrue hc52;refine zC rfl (zT rfl (zF 3 R6 (zL 0 R3 R6 (zM R4 (TO.index_gs rfl rfl rfl ⟨rfl, rfl⟩ rfl rfl aO (fun a57 ra57 ea57=>?_))))))
     try simp only [Int.toNat_natCast] at ea57
     have e57 := Option.some.inj (ea17.symm.trans ea57);subst e57;refine zV R3 (Val.faddr_tree (fo := 0) rfl rfl rfl rfl) (zV R3 (Val.load_tree ⟨_, rfl, rfl⟩ rfl) (zA R4 (zN (zT rfl (zM R4 (zV R3 (Val.add rfl rfl aO) (zA R4 (zN ?_))))))));refine ⟨_, _, aO, ⟨i + 1, _, _, _, rfl, (by first | omega | simp_all), (by first | omega | simp_all), (by rw [take_snoc ea17, plusOf_snoc]; simp_all), (by rw [take_snoc ea17, plusOf_snoc]; simp_all), rfl⟩, ⟨rfl, (keep_cons rfl (keep_cons rfl (keep_cons rfl (keep_cons rfl (keep_cons rfl keep_nil))))), (.cons_cons _ .slnil)⟩⟩
    | false =>
     replace hc52 := bfalse hc52;refine zD rfl (zK (zT rfl (zM R4 (zV R3 (Val.add rfl rfl aO) (zA R4 (zN ?_))))));refine ⟨_, _, aO, ⟨i + 1, _, _, _, rfl, (by first | omega | simp_all), (by first | omega | simp_all), (by rw [take_snoc ea17, plusOf_snoc]; simp_all), (by rw [take_snoc ea17, plusOf_snoc]; simp_all), rfl⟩, ⟨rfl, (keep_cons rfl (keep_cons rfl (keep_cons rfl (keep_cons rfl (keep_cons rfl keep_nil))))), (.cons_cons _ .slnil)⟩⟩
   | false =>
    replace hc44 := bfalse hc44;refine zO R3 (zO R3 (zO R3 (zO R3 (zO R3 (zO R3 (zO R3 (zP R6 (zN (zD rfl (zK (zT rfl (zM R4 (zV R3 (Val.add rfl rfl aO) (zA R4 (zN ?_)))))))))))))));refine ⟨_, _, aO, ⟨i + 1, _, _, _, rfl, (by first | omega | simp_all), (by first | omega | simp_all), (by rw [take_snoc ea17, plusOf_snoc]; simp_all), (by rw [take_snoc ea17, plusOf_snoc]; simp_all), rfl⟩, ⟨rfl, (keep_cons rfl (keep_cons rfl (keep_cons rfl (keep_cons rfl (keep_cons rfl keep_nil))))), (.cons_cons _ .slnil)⟩⟩
 | false =>
  replace hc11 := bfalse hc11;refine zD rfl (zE (zU rfl (zM R4 (zM R4 (zA R4 (zA R4 (zN (zR ?_))))))));exact ⟨rfl, _, rfl, RefN.cast (.tuple (.cons .lit (.cons .lit .nil))) (by rw [List.take_of_length_le aO] at hm1 hm2; rw [hm1, hm2])⟩
theorem r1_All (b : Book) (hf : Fits b) : Comes (EL 1) 32 [.agg (encB.f b)] ((GSo true encL (leavesOf b)).v) := by
 have hgs := hf.gs;refine Comes.of (TF.enter (fn := Go.Proofs.Try.f32) rfl rfl rfl rfl rfl ?_);refine zU rfl (zQ 2 [_,_] R7 (fun b1=>zA R4 (zN (zU rfl (zA R4 (zN (zS (zU rfl (zA R4 (zN (zB (T.nilown (u := encL.u) (T.loop (fun μ s => ∃ i : Nat, ∃ j : Int, ∃ v : AV, ∃ acc : List Leaf, μ = b.gs.l.length - i ∧ j = i ∧ i ≤ b.gs.l.length ∧ acc = leavesFrom 0 (b.gs.l.take i) ∧ acc.length ≤ 65 * i ∧ s = ⟨[], [(1, .ptr b1 0 2), (3, v), (4, iv j)], [ownL true v encL acc, .row b1 2 [iv b.signed, b.gs.v]]⟩) (k := _) (s' := _) ⟨0, 0, _, [], rfl, (by first | rfl | omega | (simp; done) | (simp; omega) | simp_all), (by first | rfl | omega | (simp; done) | (simp; omega) | simp_all), (by first | rfl | omega | (simp; done) | (simp; omega) | simp_all), (by first | rfl | omega | (simp; done) | (simp; omega) | simp_all), rfl⟩ ⟨rfl, (keep_cons rfl (keep_cons rfl (keep_cons rfl keep_nil))), (.cons_cons _ (.cons_cons _ .slnil))⟩ ?_)))))))))))));rintro μ _ ⟨i, j, v, acc, hk0, hj, hi, hacc, hal, rfl⟩;subst hj;refine zS (zU rfl (zM R4 (zF 1 R6 (zL 1 R3 R6 (zV R3 (Val.len_gs rfl rfl) (TO.lss rfl rfl rfl rfl rfl (fun c15 hc15=>zN ?_)))))));cases c15 with
 | true =>
  replace hc15 := btrue hc15;refine zC rfl (zK (zS (zB (zU rfl (zF 1 R6 (zL 1 R3 R6 (zM R4 (TO.index_gs rfl rfl rfl ⟨rfl, rfl⟩ rfl rfl aO (fun g rg eg=>?_)))))))))
  try simp only [Int.toNat_natCast] at eg
  obtain ⟨hgl, hgc, hgp⟩ := hf.leaves g (List.mem_of_getElem? eg)
  have hgn := fun n => hgp n
  refine zV R3 (Val.load_trees (c := _) ⟨⟨_, rfl, rfl⟩, rfl, by decide⟩ rfl rfl) (zJ 4 [_,_,_,_] R7 (fun b5=>TO.store_row (p := 0) (cv := [_, _, _, _]) (cells' := [_, _, _, _]) rfl rfl rfl rfl rfl rfl rfl rfl rfl rfl (by first | rfl | simp [GS.one]) (by decide) rfl (zG ([_,_,_]) rfl (zN (zU rfl (zA R4 (zN (zB (T.loop (fun μ s => ∃ n : Nat, ∃ j : Int, ∃ v : AV, ∃ ac1 : List Leaf, μ = (g.leaves + 1).toNat - n ∧ j = n ∧ n ≤ (g.leaves + 1).toNat ∧ ac1 = acc ++ (List.range n).flatMap (numLeaves i g) ∧ ac1.length ≤ 65 * i + 5 * n ∧ s = ⟨[], [(1, .ptr b1 0 2), (3, v), (4, iv (i : Int)), (5, .ptr b5 0 4), (6, iv j)], [.row b5 4 [iv g.round, iv g.letter, iv g.leaves, g.ch.v], ownL true v encL ac1, .row b1 2 [iv b.signed, b.gs.v]]⟩) (k := _) (s' := _) ⟨0, 0, _, _, rfl, (by first | rfl | omega | (simp; done) | (simp; omega) | simp_all), (by first | rfl | omega | (simp; done) | (simp; omega) | simp_all), (by simp), (by first | rfl | omega | (simp; done) | (simp; omega) | simp_all), rfl⟩ ⟨rfl, (keep_cons rfl (keep_cons rfl (keep_cons rfl (keep_cons rfl (keep_cons rfl keep_nil))))), (.cons_cons _ (.cons_cons _ (.cons_cons _ .slnil)))⟩ ?_)))))))));rintro μ _ ⟨n, j, v, ac1, hk1, hj, hn, ha1, hl1, rfl⟩;subst hj;refine zS (zU rfl (zM R4 (zF 2 R6 (zL 0 R3 R6 (TO.leq rfl rfl rfl rfl rfl (fun c26 hc26=>zN ?_))))));cases c26 with
  | true =>
   replace hc26 := btrue hc26;refine zC rfl (zK (zS (zB (zU rfl (zV R3 (vW 0 [_,_,_,_] R5 R4) (zM R4 ?_))))))
   have hp := hgp n;refine TO.call rfl rfl rfl rfl rfl (orcL rfl aD) (.cons (.agg (.cons .lit (.cons .lit (.cons .lit (.cons .gs .nil))))) (.cons .lit .nil)) (sem_of (r1_plus _ _ (by exact hgc))) (zM R4 (zX R5 (zX R5 (zA R4 (zA R4 (zN (zS (zU rfl (zM R4 (TO.gtr rfl rfl rfl rfl rfl (fun c36 hc36=>zM R4 ?_)))))))))));cases c36 with
   | true =>
    replace hc36 := btrue hc36;refine zM R4 (TO.neq rfl rfl rfl rfl rfl (fun c39 hc39=>zP R6 (zN ?_)));cases c39 with
    | true =>
     replace hc39 := btrue hc39;refine zC rfl (zU rfl (zM R4 (zM R4 (zV R3 (Val.build (cs := [_, _, _, _]) (vs := [(_, _), (_, _)]) rfl rfl rfl) (zJ 4 [_,_,_,_] R7 (fun b9=>TO.store_row (p := 0) (cv := [_, _, _, _]) (cells' := [_, _, _, _]) rfl rfl rfl rfl rfl rfl rfl rfl rfl rfl (by first | rfl | simp [GS.one]) (by decide) rfl (zG ([_,_,_,_]) rfl (zN (zS (zU rfl (zM R4 (TO.eql rfl rfl rfl rfl rfl (fun c45 hc45=>zN ?_)))))))))))));cases c45 with
     | true =>
      replace hc45 := btrue hc45;refine zC rfl (zT rfl (zF 3 R6 (TO.store_row (p := 0) (cv := [_]) (cells' := [_, _, _, _]) rfl rfl rfl rfl rfl rfl rfl rfl rfl rfl (by first | rfl | simp [GS.one]) (by decide) rfl (zG ([_,_,_,_]) rfl (zN (zT rfl (zM R4 (zV R3 (vW 0 [_,_,_,_] R5 R4) (TO.build1 (en := encL) (a := ⟨_, _, _, _⟩) rfl rfl rfl ⟨rfl, rfl⟩ ⟨_, rfl, rfl⟩ (by decide) (by decide) rfl rfl (fun v49=>TO.append_own (b := 32) (en := encL) (l := _) (l2 := _) (p := 3) (q := 0) rfl rfl rfl ⟨rfl, rfl, rfl, ⟨_, rfl, rfl⟩, by decide, by decide⟩ rfl rfl rfl rfl rfl rfl (en_ones encL_ones _) (by simp; omega) (fun v50=>zG ([_,_,_,_,_]) rfl (zA R4 (zN (zU rfl (zA R4 (zN (zB (T.loop (fun μ s => ∃ k : Nat, ∃ j : Int, ∃ v : AV, ∃ ac2 : List Leaf, μ = (plusOf g.ch.l n).1.toNat - k ∧ j = k + 1 ∧ (k : Int) ≤ max 0 (plusOf g.ch.l n).1 ∧ ac2 = ac1 ++ ownLeaf i n g ++ newLeaves i n k ∧ ac2.length ≤ 65 * i + 5 * n + 1 + k ∧ s = ⟨[], [(1, .ptr b1 0 2), (3, v), (4, iv (i : Int)), (5, .ptr b5 0 4), (6, iv (n : Int)), (7, iv (plusOf g.ch.l n).1), (10, iv j)], [.row b5 4 [iv g.round, iv g.letter, iv g.leaves, g.ch.v], ownL true v encL ac2, .row b1 2 [iv b.signed, b.gs.v]]⟩) (k := _) (s' := _) ⟨0, _, _, _, rfl, (by first | rfl | omega | (simp; done) | (simp; omega) | simp_all), (by first | rfl | omega | (simp; done) | (simp; omega) | simp_all), (by simp_all [ownLeaf, newLeaves]), (by simp; omega), rfl⟩ ⟨rfl, (keep_cons rfl (keep_cons rfl (keep_cons rfl (keep_cons rfl (keep_cons rfl (keep_cons rfl (keep_cons rfl keep_nil))))))), (.cons _ (.cons _ (.cons_cons _ (.cons_cons _ (.cons_cons _ .slnil)))))⟩ ?_))))))))))))))))));rintro μ _ ⟨k, j, v, ac2, hk2, hj, hk, ha2, hl2, rfl⟩;subst hj;refine zS (zU rfl ?_)
      have hp := hgp n;refine zM R4 (zM R4 (TO.leq rfl rfl rfl rfl rfl (fun c53 hc53=>zN ?_)));cases c53 with
      | true =>
       replace hc53 := btrue hc53;refine zC rfl (zK (zS (zB (zT rfl (zM R4 (zM R4 (zM R4 (zM R4 (zV R3 (Val.build (cs := [_, _, _, _]) (vs := [(_, _), (_, _), (_, _), (_, _)]) rfl rfl rfl) (TO.build1 (en := encL) (a := ⟨_, _, _, _⟩) rfl rfl rfl ⟨rfl, rfl⟩ ⟨_, rfl, rfl⟩ (by decide) (by decide) rfl rfl (fun v61=>TO.append_own (b := 32) (en := encL) (l := _) (l2 := _) (p := 2) (q := 0) rfl rfl rfl ⟨rfl, rfl, rfl, ⟨_, rfl, rfl⟩, by decide, by decide⟩ rfl rfl rfl rfl rfl rfl (en_ones encL_ones _) (by simp; omega) (fun v62=>zG ([_,_,_,_]) rfl (zA R4 (zN (zT rfl (zM R4 (zV R3 (Val.add rfl rfl aO) (zA R4 (zN ?_)))))))))))))))))));refine ⟨_, _, aO, ⟨k + 1, _, _, _, rfl, (by first | omega | simp_all), (by first | omega | simp_all), (by rw [newLeaves_succ, ha2]; simp), (by simp; omega), rfl⟩, ⟨rfl, (keep_cons rfl (keep_cons rfl (keep_cons rfl (keep_cons rfl (keep_cons rfl (keep_cons rfl (keep_cons rfl keep_nil))))))), (.cons _ (.cons_cons _ (.cons_cons _ (.cons_cons _ .slnil))))⟩⟩
      | false =>
       replace hc53 := bfalse hc53
       have hk1 : k = (plusOf g.ch.l n).1.toNat := by omega
       refine zD rfl (zE (zT rfl (zM R4 (zV R3 (Val.add rfl rfl aO) (zA R4 (zN ?_))))));refine ⟨_, _, aO, ⟨n + 1, _, _, _, rfl, (by first | omega | simp_all), (by first | omega | simp_all), (by rw [range_flat_succ, numLeaves, ha2, ha1, hk1]; simp), aO, rfl⟩, ⟨rfl, (keep_cons rfl (keep_cons rfl (keep_cons rfl (keep_cons rfl (keep_cons rfl keep_nil))))), (.cons_cons _ (.cons_cons _ (.cons_cons _ .slnil)))⟩⟩
     | false =>
      replace hc45 := bfalse hc45;refine zD rfl (zK (zT rfl (zM R4 (zV R3 (vW 0 [_,_,_,_] R5 R4) (TO.build1 (en := encL) (a := ⟨_, _, _, _⟩) rfl rfl rfl ⟨rfl, rfl⟩ ⟨_, rfl, rfl⟩ (by decide) (by decide) rfl rfl (fun v49=>TO.append_own (b := 32) (en := encL) (l := _) (l2 := _) (p := 3) (q := 0) rfl rfl rfl ⟨rfl, rfl, rfl, ⟨_, rfl, rfl⟩, by decide, by decide⟩ rfl rfl rfl rfl rfl rfl (en_ones encL_ones _) (by simp; omega) (fun v50=>zG ([_,_,_,_,_]) rfl (zA R4 (zN (zU rfl (zA R4 (zN (zB (T.loop (fun μ s => ∃ k : Nat, ∃ j : Int, ∃ v : AV, ∃ ac2 : List Leaf, μ = (plusOf g.ch.l n).1.toNat - k ∧ j = k + 1 ∧ (k : Int) ≤ max 0 (plusOf g.ch.l n).1 ∧ ac2 = ac1 ++ ownLeaf i n g ++ newLeaves i n k ∧ ac2.length ≤ 65 * i + 5 * n + 1 + k ∧ s = ⟨[], [(1, .ptr b1 0 2), (3, v), (4, iv (i : Int)), (5, .ptr b5 0 4), (6, iv (n : Int)), (7, iv (plusOf g.ch.l n).1), (10, iv j)], [.row b5 4 [iv g.round, iv g.letter, iv g.leaves, g.ch.v], ownL true v encL ac2, .row b1 2 [iv b.signed, b.gs.v]]⟩) (k := _) (s' := _) ⟨0, _, _, _, rfl, (by first | rfl | omega | (simp; done) | (simp; omega) | simp_all), (by first | rfl | omega | (simp; done) | (simp; omega) | simp_all), (by simp_all [ownLeaf, newLeaves]), (by simp; omega), rfl⟩ ⟨rfl, (keep_cons rfl (keep_cons rfl (keep_cons rfl (keep_cons rfl (keep_cons rfl (keep_cons rfl (keep_cons rfl keep_nil))))))), (.cons _ (.cons _ (.cons_cons _ (.cons_cons _ (.cons_cons _ .slnil)))))⟩ ?_))))))))))))));rintro μ _ ⟨k, j, v, ac2, hk2, hj, hk, ha2, hl2, rfl⟩;subst hj;refine zS (zU rfl ?_)
      have hp := hgp n;refine zM R4 (zM R4 (TO.leq rfl rfl rfl rfl rfl (fun c53 hc53=>zN ?_)));cases c53 with
      | true =>
       replace hc53 := btrue hc53;refine zC rfl (zK (zS (zB (zT rfl (zM R4 (zM R4 (zM R4 (zM R4 (zV R3 (Val.build (cs := [_, _, _, _]) (vs := [(_, _), (_, _), (_, _), (_, _)]) rfl rfl rfl) (TO.build1 (en := encL) (a := ⟨_, _, _, _⟩) rfl rfl rfl ⟨rfl, rfl⟩ ⟨_, rfl, rfl⟩ (by decide) (by decide) rfl rfl (fun v61=>TO.append_own (b := 32) (en := encL) (l := _) (l2 := _) (p := 2) (q := 0) rfl rfl rfl ⟨rfl, rfl, rfl, ⟨_, rfl, rfl⟩, by decide, by decide⟩ rfl rfl rfl rfl rfl rfl (en_ones encL_ones _) (by simp; omega) (fun v62=>zG ([_,_,_,_]) rfl (zA R4 (zN (zT rfl (zM R4 (zV R3 (Val.add rfl rfl aO) (zA R4 (zN ?_)))))))))))))))))));refine ⟨_, _, aO, ⟨k + 1, _, _, _, rfl, (by first | omega | simp_all), (by first | omega | simp_all), (by rw [newLeaves_succ, ha2]; simp), (by simp; omega), rfl⟩, ⟨rfl, (keep_cons rfl (keep_cons rfl (keep_cons rfl (keep_cons rfl (keep_cons rfl (keep_cons rfl (keep_cons rfl keep_nil))))))), (.cons _ (.cons_cons _ (.cons_cons _ (.cons_cons _ .slnil))))⟩⟩
      | false =>
       replace hc53 := bfalse hc53
       have hk1 : k = (plusOf g.ch.l n).1.toNat := by omega
       refine zD rfl (zE (zT rfl (zM R4 (zV R3 (Val.add rfl rfl aO) (zA R4 (zN ?_))))));refine ⟨_, _, aO, ⟨n + 1, _, _, _, rfl, (by first | omega | simp_all), (by first | omega | simp_all), (by rw [range_flat_succ, numLeaves, ha2, ha1, hk1]; simp), aO, rfl⟩, ⟨rfl, (keep_cons rfl (keep_cons rfl (keep_cons rfl (keep_cons rfl (keep_cons rfl keep_nil))))), (.cons_cons _ (.cons_cons _ (.cons_cons _ .slnil)))⟩⟩
    | false =>
     replace hc39 := bfalse hc39;refine zD rfl (zK (zU rfl (zA R4 (zN (zB (T.loop (fun μ s => ∃ k : Nat, ∃ j : Int, ∃ v : AV, ∃ ac2 : List Leaf, μ = (plusOf g.ch.l n).1.toNat - k ∧ j = k + 1 ∧ (k : Int) ≤ max 0 (plusOf g.ch.l n).1 ∧ ac2 = ac1 ++ ownLeaf i n g ++ newLeaves i n k ∧ ac2.length ≤ 65 * i + 5 * n + 1 + k ∧ s = ⟨[], [(1, .ptr b1 0 2), (3, v), (4, iv (i : Int)), (5, .ptr b5 0 4), (6, iv (n : Int)), (7, iv (plusOf g.ch.l n).1), (10, iv j)], [.row b5 4 [iv g.round, iv g.letter, iv g.leaves, g.ch.v], ownL true v encL ac2, .row b1 2 [iv b.signed, b.gs.v]]⟩) (k := _) (s' := _) ⟨0, _, _, _, rfl, (by first | rfl | omega | (simp; done) | (simp; omega) | simp_all), (by first | rfl | omega | (simp; done) | (simp; omega) | simp_all), (by simp_all [ownLeaf, newLeaves]), (by simp; omega), rfl⟩ ⟨rfl, (keep_cons rfl (keep_cons rfl (keep_cons rfl (keep_cons rfl (keep_cons rfl (keep_cons rfl (keep_cons rfl keep_nil))))))), (.cons_cons _ (.cons_cons _ (.cons_cons _ .slnil)))⟩ ?_))))));rintro μ _ ⟨k, j, v, ac2, hk2, hj, hk, ha2, hl2, rfl⟩;subst hj;refine zS (zU rfl ?_)
     have hp := hgp n;refine zM R4 (zM R4 (TO.leq rfl rfl rfl rfl rfl (fun c53 hc53=>zN ?_)));cases c53 with
     | true =>
      replace hc53 := btrue hc53;refine zC rfl (zK (zS (zB (zT rfl (zM R4 (zM R4 (zM R4 (zM R4 (zV R3 (Val.build (cs := [_, _, _, _]) (vs := [(_, _), (_, _), (_, _), (_, _)]) rfl rfl rfl) (TO.build1 (en := encL) (a := ⟨_, _, _, _⟩) rfl rfl rfl ⟨rfl, rfl⟩ ⟨_, rfl, rfl⟩ (by decide) (by decide) rfl rfl (fun v61=>TO.append_own (b := 32) (en := encL) (l := _) (l2 := _) (p := 2) (q := 0) rfl rfl rfl ⟨rfl, rfl, rfl, ⟨_, rfl, rfl⟩, by decide, by decide⟩ rfl rfl rfl rfl rfl rfl (en_ones encL_ones _) (by simp; omega) (fun v62=>zG ([_,_,_,_]) rfl (zA R4 (zN (zT rfl (zM R4 (zV R3 (Val.add rfl rfl aO) (zA R4 (zN ?_)))))))))))))))))));refine ⟨_, _, aO, ⟨k + 1, _, _, _, rfl, (by first | omega | simp_all), (by first | omega | simp_all), (by rw [newLeaves_succ, ha2]; simp), (by simp; omega), rfl⟩, ⟨rfl, (keep_cons rfl (keep_cons rfl (keep_cons rfl (keep_cons rfl (keep_cons rfl (keep_cons rfl (keep_cons rfl keep_nil))))))), (.cons _ (.cons_cons _ (.cons_cons _ (.cons_cons _ .slnil))))⟩⟩
     | false =>
      replace hc53 := bfalse hc53
      have hk1 : k = (plusOf g.ch.l n).1.toNat := by omega
      refine zD rfl (zE (zT rfl (zM R4 (zV R3 (Val.add rfl rfl aO) (zA R4 (zN ?_))))));refine ⟨_, _, aO, ⟨n + 1, _, _, _, rfl, (by first | omega | simp_all), (by first | omega | simp_all), (by rw [range_flat_succ, numLeaves, ha2, ha1, hk1]; simp), aO, rfl⟩, ⟨rfl, (keep_cons rfl (keep_cons rfl (keep_cons rfl (keep_cons rfl (keep_cons rfl keep_nil))))), (.cons_cons _ (.cons_cons _ (.cons_cons _ .slnil)))⟩⟩
   | false =>
    replace hc36 := bfalse hc36;refine zO R3 (zO R3 (zP R6 (zN (zD rfl (zK (zU rfl (zA R4 (zN (zB (T.loop (fun μ s => ∃ k : Nat, ∃ j : Int, ∃ v : AV, ∃ ac2 : List Leaf, μ = (plusOf g.ch.l n).1.toNat - k ∧ j = k + 1 ∧ (k : Int) ≤ max 0 (plusOf g.ch.l n).1 ∧ ac2 = ac1 ++ ownLeaf i n g ++ newLeaves i n k ∧ ac2.length ≤ 65 * i + 5 * n + 1 + k ∧ s = ⟨[], [(1, .ptr b1 0 2), (3, v), (4, iv (i : Int)), (5, .ptr b5 0 4), (6, iv (n : Int)), (7, iv (plusOf g.ch.l n).1), (10, iv j)], [.row b5 4 [iv g.round, iv g.letter, iv g.leaves, g.ch.v], ownL true v encL ac2, .row b1 2 [iv b.signed, b.gs.v]]⟩) (k := _) (s' := _) ⟨0, _, _, _, rfl, (by first | rfl | omega | (simp; done) | (simp; omega) | simp_all), (by first | rfl | omega | (simp; done) | (simp; omega) | simp_all), (by simp_all [ownLeaf, newLeaves]), (by simp; omega), rfl⟩ ⟨rfl, (keep_cons rfl (keep_cons rfl (keep_cons rfl (keep_cons rfl (keep_cons rfl (keep_cons rfl (keep_cons rfl keep_nil))))))), (.cons_cons _ (.cons_cons _ (.cons_cons _ .slnil)))⟩ ?_))))))))));rintro μ _ ⟨k, j, v, ac2, hk2, hj, hk, ha2, hl2, rfl⟩;subst hj;refine zS (zU rfl ?_)
    have hp := hgp n;refine zM R4 (zM R4 (TO.leq rfl rfl rfl rfl rfl (fun c53 hc53=>zN ?_)));cases c53 with
    | true =>
     replace hc53 := btrue hc53;refine zC rfl (zK (zS (zB (zT rfl (zM R4 (zM R4 (zM R4 (zM R4 (zV R3 (Val.build (cs := [_, _, _, _]) (vs := [(_, _), (_, _), (_, _), (_, _)]) rfl rfl rfl) (TO.build1 (en := encL) (a := ⟨_, _, _, _⟩) rfl rfl rfl ⟨rfl, rfl⟩ ⟨_, rfl, rfl⟩ (by decide) (by decide) rfl rfl (fun v61=>TO.append_own (b := 32) (en := encL) (l := _) (l2 := _) (p := 2) (q := 0) rfl rfl rfl ⟨rfl, rfl, rfl, ⟨_, rfl, rfl⟩, by decide, by decide⟩ rfl rfl rfl rfl rfl rfl (en_ones encL_ones _) (by simp; omega) (fun v62=>zG ([_,_,_,_]) rfl (zA R4 (zN (zT rfl (zM R4 (zV R3 (Val.add rfl rfl aO) (zA R4 (zN ?_)))))))))))))))))));refine ⟨_, _, aO, ⟨k + 1, _, _, _, rfl, (by first | omega | simp_all), (by first | omega | simp_all), (by rw [newLeaves_succ, ha2]; simp), (by simp; omega), rfl⟩, ⟨rfl, (keep_cons rfl (keep_cons rfl (keep_cons rfl (keep_cons rfl (keep_cons rfl (keep_cons rfl (keep_cons rfl keep_nil))))))), (.cons _ (.cons_cons _ (.cons_cons _ (.cons_cons _ .slnil))))⟩⟩
    | false =>
     replace hc53 := bfalse hc53
     have hk1 : k = (plusOf g.ch.l n).1.toNat := by omega
     refine zD rfl (zE (zT rfl (zM R4 (zV R3 (Val.add rfl rfl aO) (zA R4 (zN ?_))))));refine ⟨_, _, aO, ⟨n + 1, _, _, _, rfl, (by first | omega | simp_all), (by first | omega | simp_all), (by rw [range_flat_succ, numLeaves, ha2, ha1, hk1]; simp), aO, rfl⟩, ⟨rfl, (keep_cons rfl (keep_cons rfl (keep_cons rfl (keep_cons rfl (keep_cons rfl keep_nil))))), (.cons_cons _ (.cons_cons _ (.cons_cons _ .slnil)))⟩⟩
  | false =>
   replace hc26 := bfalse hc26
   have hn1 : n = (g.leaves + 1).toNat := by omega
   refine zD rfl (zE (zT rfl (zM R4 (zV R3 (Val.add rfl rfl aO) (zA R4 (zN ?_))))));refine ⟨_, _, aO, ⟨i + 1, _, _, _, rfl, (by first | omega | simp_all), (by first | omega | simp_all), (by rw [take_snoc eg, leavesFrom_snoc, ha1, hacc, hn1, List.length_take, Nat.min_eq_left aO]; simp [gatLeaves]), aO, rfl⟩, ⟨rfl, (keep_cons rfl (keep_cons rfl (keep_cons rfl keep_nil))), (.cons _ (.cons_cons _ (.cons_cons _ .slnil)))⟩⟩
 | false =>
  replace hc15 := bfalse hc15;refine zD rfl (zE (zU rfl (zM R4 (zA R4 (zN (zR ?_))))));exact ⟨rfl, _, rfl, RefN.cast (.ownL (en := encL) (p := 0) rfl (.lits encL_lits)) (by rw [hacc, List.take_of_length_le aO]; rfl)⟩
end Go.Am.Ythckcbfijdambaa
end
section
namespace Go.Am.Ythckcbfijdambaa
open Go.Am Go.RowKit
set_option linter.unusedVariables false
set_option linter.unusedSimpArgs false
theorem r1_Pair (b : Book) (n : Nat) (hf : Fits b) (hn : n < (leavesOf b).length) : Comes (EL 2) 22 [.agg (encB.f b), iv (n : Int)] (iv (pairNo b n)) := by
 have hll := leaves_len hf;obtain ⟨x, hx⟩ : ∃ x, (leavesOf b)[n]? = some x := ⟨_, List.getElem?_eq_getElem hn⟩;obtain ⟨g, hg, hg1, hg2, hx1, hx2⟩ := mem_leaves (List.mem_of_getElem? hx)
 have hgl := (hf.leaves g (List.mem_of_getElem? hg)).1;refine Comes.of (TF.enter (fn := Go.Proofs.Try.f22) rfl rfl rfl rfl rfl ?_);refine zU rfl (zQ 2 [_,_] R7 (fun b2=>zA R4 (zN (zU rfl (zV R3 (vW 0 [_,_] R5 R4) (TO.call rfl rfl rfl rfl rfl (orcL rfl aD) (.cons (.agg (.cons .lit (.cons .gs .nil))) .nil) (sem_of (r1_All b (by exact hf))) (zA R4 (zN (zU rfl (zM R4 (zM R4 (TO.index_gso rfl rfl rfl ⟨rfl, rfl⟩ rfl rfl aO (fun a12 ra12 ea12=>?_)))))))))))))
 try simp only [Int.toNat_natCast] at ea12
 have e12 := Option.some.inj (hx.symm.trans ea12);subst e12;refine zV R3 (Val.load_trees (c := _) ⟨⟨_, rfl, rfl⟩, rfl, by decide⟩ rfl rfl) (zJ 4 [_,_,_,_] R7 (fun b6=>TO.store_row (p := 0) (cv := [_, _, _, _]) (cells' := [_, _, _, _]) rfl rfl rfl rfl rfl rfl rfl rfl rfl rfl (by first | rfl | simp [GS.one]) (by decide) rfl (zG ([_,_]) rfl (zN (zS (zU rfl (zF 3 R6 (zL 0 R3 R6 (TO.neq rfl rfl rfl rfl rfl (fun c16 hc16=>zN ?_))))))))));cases c16 with
 | true =>
  replace hc16 := btrue hc16;refine zC rfl (zU rfl (zA R4 (zN (zR ?_))));exact ⟨rfl, _, rfl, RefN.cast .lit (by simp only [pairNo, hx]; rw [if_pos hc16])⟩
 | false =>
  replace hc16 := bfalse hc16
  have hp : pairNo b n = pairFrom g.leaves x n 0 (leavesOf b) := by simp only [pairNo, hx, hg]; rw [if_neg hc16]
  refine zD rfl (zK (zS (zU rfl (zA R4 (zN (zB (T.loop (fun μ s => ∃ i : Nat, ∃ j : Int, μ = (leavesOf b).length - i ∧ j = i ∧ i ≤ (leavesOf b).length ∧ pairFrom g.leaves x n 0 (leavesOf b) = pairFrom g.leaves x n i ((leavesOf b).drop i) ∧ s = ⟨[], [(1, iv (n : Int)), (2, .ptr b2 0 2), (5, (GSo true encL (leavesOf b)).v), (6, .ptr b6 0 4), (7, iv j)], [.row b6 4 [iv x.g, iv x.num, iv x.plus, iv x.kind], .row b2 2 [iv b.signed, b.gs.v]]⟩) (k := _) (s' := _) ⟨0, 0, rfl, (by first | rfl | omega | (simp; done) | (simp; omega) | simp_all), (by first | rfl | omega | (simp; done) | (simp; omega) | simp_all), (by first | rfl | omega | (simp; done) | (simp; omega) | simp_all), rfl⟩ ⟨rfl, (keep_cons rfl (keep_cons rfl (keep_cons rfl (keep_cons rfl (keep_cons rfl keep_nil))))), (.cons_cons _ (.cons_cons _ .slnil))⟩ ?_)))))));rintro μ _ ⟨i, j, hk0, hj, hi, he, rfl⟩;subst hj;refine zS (zU rfl (zM R4 (zM R4 (zV R3 (Val.len_gso rfl rfl) (TO.lss rfl rfl rfl rfl rfl (fun c20 hc20=>zN ?_))))));cases c20 with
  | true =>
   replace hc20 := btrue hc20;refine zC rfl (zK (zS (zB (zS (T.draw (fun v => sameC_refl v) (l1 := [0, 1, 2, 3, 4, 5, 6, 7, 8, 9, 10, 11, 12, 13, 14, 15, 16, 17, 18, 19, 20, 21, 22, 23, 24, 25, 26, 27, 28, 29, 30, 31, 32, 33, 34, 35, 36, 37, 38, 39]) (l2 := []) (by kernel_rfl) (by kernel_rfl) (zM R4 (zM R4 (TO.neq rfl rfl rfl rfl rfl (fun c25 hc25=>zM R4 ?_)))))))));cases c25 with
   | true =>
    replace hc25 := btrue hc25;refine zM R4 (zM R4 (TO.index_gso rfl rfl rfl ⟨rfl, rfl⟩ rfl rfl aO (fun a29 ra29 ea29=>?_)))
    try simp only [Int.toNat_natCast] at ea29
    obtain ⟨gy, hgy, hy1, hy2, hy3, hy4⟩ := mem_leaves (List.mem_of_getElem? ea29)
    have hgyl := (hf.leaves gy (List.mem_of_getElem? hgy)).1;refine zV R3 (Val.faddr_tree (fo := 0) rfl rfl rfl rfl) (zV R3 (Val.load_tree ⟨_, rfl, rfl⟩ rfl) (zF 0 R6 (zL 0 R3 R6 (TO.eql rfl rfl rfl rfl rfl (fun c34 hc34=>zP R6 (zM R4 ?_))))));cases c34 with
    | true =>
     replace hc34 := btrue hc34;refine zM R4 (zM R4 (TO.index_gso rfl rfl rfl ⟨rfl, rfl⟩ rfl rfl aO (fun a39 ra39 ea39=>?_)))
     try simp only [Int.toNat_natCast] at ea39
     have e39 := Option.some.inj (ea29.symm.trans ea39);subst e39;refine zV R3 (Val.faddr_tree (fo := 3) rfl rfl rfl rfl) (zV R3 (Val.load_tree ⟨_, rfl, rfl⟩ rfl) (TO.eql rfl rfl rfl rfl rfl (fun c42 hc42=>zP R6 (zM R4 ?_))));cases c42 with
     | true =>
      replace hc42 := btrue hc42;refine zM R4 (zM R4 (TO.index_gso rfl rfl rfl ⟨rfl, rfl⟩ rfl rfl aO (fun a47 ra47 ea47=>?_)))
      try simp only [Int.toNat_natCast] at ea47
      have e47 := Option.some.inj (ea29.symm.trans ea47);subst e47;refine zV R3 (Val.faddr_tree (fo := 1) rfl rfl rfl rfl) (zV R3 (Val.load_tree ⟨_, rfl, rfl⟩ rfl) (zF 1 R6 (zL 0 R3 R6 (zV R3 (Val.add rfl rfl aO) (zF 1 R6 (zL 1 R3 R6 (zF 0 R6 (zL 0 R3 R6 (TO.index_gs rfl rfl rfl ⟨rfl, rfl⟩ rfl rfl aO (fun a57 ra57 ea57=>?_))))))))))
      try simp only [Int.toNat_natCast] at ea57
      have e57 := Option.some.inj (hg.symm.trans ea57);subst e57;refine zV R3 (Val.faddr_tree (fo := 2) rfl rfl rfl rfl) (zV R3 (Val.load_tree ⟨_, rfl, rfl⟩ rfl) (zV R3 (Val.add rfl rfl aO) (TO.eql rfl rfl rfl rfl rfl (fun c61 hc61=>zP R6 (zN ?_)))));cases c61 with
      | true =>
       replace hc61 := btrue hc61;refine zC rfl (zU rfl (zM R4 (zA R4 (zN (zR ?_)))));exact ⟨rfl, _, rfl, RefN.cast .lit (by rw [hp, he, drop_cons ea29, pairFrom, if_pos (by refine ⟨by omega, ?_⟩; simp_all)])⟩
      | false =>
       replace hc61 := bfalse hc61;refine zD rfl (zK (zT rfl (zM R4 (zV R3 (Val.add rfl rfl aO) (zA R4 (zN ?_))))));refine ⟨_, _, aO, ⟨i + 1, _, rfl, (by first | omega | simp_all), (by first | omega | simp_all), (by obtain ⟨y, hy⟩ : ∃ y, (leavesOf b)[i]? = some y := ⟨_, List.getElem?_eq_getElem aO⟩; rw [he, drop_cons hy, pairFrom, if_neg (by rintro ⟨q1, q2, q3, q4⟩; first | omega | (simp_all; done) | (simp_all; omega))]), rfl⟩, ⟨rfl, (keep_cons rfl (keep_cons rfl (keep_cons rfl (keep_cons rfl (keep_cons rfl keep_nil))))), (.cons_cons _ (.cons_cons _ .slnil))⟩⟩
     | false =>
      replace hc42 := bfalse hc42;refine zO R3 (zO R3 (zO R3 (zO R3 (zO R3 (zO R3 (zO R3 (zO R3 (zO R3 (zO R3 (zO R3 (zO R3 (zO R3 (zO R3 (zO R3 (zO R3 (zO R3 (zP R6 (zN (zD rfl (zK (zT rfl (zM R4 (zV R3 (Val.add rfl rfl aO) (zA R4 (zN ?_)))))))))))))))))))))))));refine ⟨_, _, aO, ⟨i + 1, _, rfl, (by first | omega | simp_all), (by first | omega | simp_all), (by obtain ⟨y, hy⟩ : ∃ y, (leavesOf b)[i]? = some y := ⟨_, List.getElem?_eq_getElem aO⟩; rw [he, drop_cons hy, pairFrom, if_neg (by rintro ⟨q1, q2, q3, q4⟩; first | omega | (simp_all; done) | (simp_all; omega))]), rfl⟩, ⟨rfl, (keep_cons rfl (keep_cons rfl (keep_cons rfl (keep_cons rfl (keep_cons rfl keep_nil))))), (.cons_cons _ (.cons_cons _ .slnil))⟩⟩
    | false =>
     replace hc34 := bfalse hc34;refine zO R3 (zO R3 (zO R3 (zO R3 (zO R3 (zO R3 (zP R6 (zM R4 (zO R3 (zO R3 (zO R3 (zO R3 (zO R3 (zO R3 (zO R3 (zO R3 (zO R3 (zO R3 (zO R3 (zO R3 (zO R3 (zO R3 (zO R3 (zO R3 (zO R3 (zP R6 (zN (zD rfl (zK (zT rfl (zM R4 (zV R3 (Val.add rfl rfl aO) (zA R4 (zN ?_)))))))))))))))))))))))))))))))));refine ⟨_, _, aO, ⟨i + 1, _, rfl, (by first | omega | simp_all), (by first | omega | simp_all), (by obtain ⟨y, hy⟩ : ∃ y, (leavesOf b)[i]? = some y := ⟨_, List.getElem?_eq_getElem aO⟩; rw [he, drop_cons hy, pairFrom, if_neg (by rintro ⟨q1, q2, q3, q4⟩; first | omega | (simp_all; done) | (simp_all; omega))]), rfl⟩, ⟨rfl, (keep_cons rfl (keep_cons rfl (keep_cons rfl (keep_cons rfl (keep_cons rfl keep_nil))))), (.cons_cons _ (.cons_cons _ .slnil))⟩⟩
   | false =>
    replace hc25 := bfalse hc25;refine zO R3 (zO R3 (zO R3 (zO R3 (zO R3 (zO R3 (zO R3 (zO R3 (zP R6 (zM R4 (zO R3 (zO R3 (zO R3 (zO R3 (zO R3 (zO R3 (zP R6 (zM R4 (zO R3 (zO R3 (zO R3 (zO R3 (zO R3 (zO R3 (zO R3 (zO R3 (zO R3 (zO R3 (zO R3 (zO R3 (zO R3 (zO R3 (zO R3 (zO R3 (zO R3 (zP R6 (zN (zD rfl (zK (zT rfl ?_)))))))))))))))))))))))))))))))))))))));refine zM R4 (zV R3 (Val.add rfl rfl aO) (zA R4 (zN ?_)));refine ⟨_, _, aO, ⟨i + 1, _, rfl, (by first | omega | simp_all), (by first | omega | simp_all), (by obtain ⟨y, hy⟩ : ∃ y, (leavesOf b)[i]? = some y := ⟨_, List.getElem?_eq_getElem aO⟩; rw [he, drop_cons hy, pairFrom, if_neg (by rintro ⟨q1, q2, q3, q4⟩; first | omega | (simp_all; done) | (simp_all; omega))]), rfl⟩, ⟨rfl, (keep_cons rfl (keep_cons rfl (keep_cons rfl (keep_cons rfl (keep_cons rfl keep_nil))))), (.cons_cons _ (.cons_cons _ .slnil))⟩⟩
  | false =>
   replace hc20 := bfalse hc20;refine zD rfl (zE (zU rfl (zA R4 (zN (zR ?_)))));exact ⟨rfl, _, rfl, RefN.cast .lit (by rw [hp, he, List.drop_eq_nil_of_le aO, pairFrom])⟩
end Go.Am.Ythckcbfijdambaa
end
section
namespace Go.Am.Ythckcbfijdambaa
open Go.Am Go.RowKit
set_option linter.unusedVariables false
set_option linter.unusedSimpArgs false
theorem flat_pre {α β : Type} {f : α → List β} {l : List α} {c : Nat} {a : α} (h : l[c]? = some a) : (l.take c).flatMap f ++ f a <+: l.flatMap f := by
 have e : l = l.take c ++ a :: l.drop (c + 1) := by rw [← drop_cons h, List.take_append_drop]
 refine ⟨(l.drop (c + 1)).flatMap f, ?_⟩
 conv => rhs; rw [e]
 rw [List.flatMap_append, List.flatMap_cons, List.append_assoc]
def Visit (k l : Nat) (vt : AV) (n : Nat) (all : List (List Int)) (B : List Int → List Thing) (Y Z : List (List Int) → List Thing → Prop) : Prop :=
 ∀ vis tr C, vis ++ [tr] <+: all → tr.length = n → Y vis C → TR (EL k) l [vt] (B tr ++ C) (fun v hs' => (v = bv true ∧ ∃ C', hs' = B tr ++ C' ∧ Y (vis ++ [tr]) C') ∨ (v = bv false ∧ ∃ C', hs' = B tr ++ C' ∧ Z (vis ++ [tr]) C'))
theorem tr_item {k : Nat} {its : List Item} {itv : AV} {D : List Thing} {sg : Int} {gsv lv mv vt : AV} {bt by_ bx bi xid l : Nat} {Y Z : List (List Int) → List Thing → Prop} (hn : its.length ≤ 120) (hi : Rdl D encIt itv its)
  (hcl : ∀ x ∈ its, x.could.l.length ≤ 4) {all : List (List Int)} (hy : Visit k l vt its.length all (fun tr => [.row bt 1 [vt], .row by_ 1 [.yield l], .row bx 1 [.ptr xid 0 5], .row bi 1 [.func 62 [] [.ptr bt 0 1, .ptr by_ 0 1, .ptr bx 0 1, .ptr bi 0 1]], .row xid 5 [iv sg, gsv, itv, lv, mv], ownL false vt encI tr] ++ D) Y Z) : ∀ (m i : Nat) (j : Int) (tr : List Int) (vis : List (List Int)) (C : List Thing), j = i → i + m = its.length → tr.length = its.length → Y vis C → vis ++ comps (tr.take i) (its.drop i) <+: all →
  TF (EL k) 62 [iv j, .ptr bt 0 1, .ptr by_ 0 1, .ptr bx 0 1, .ptr bi 0 1] ([.row bt 1 [vt], .row by_ 1 [.yield l], .row bx 1 [.ptr xid 0 5], .row bi 1 [.func 62 [] [.ptr bt 0 1, .ptr by_ 0 1, .ptr bx 0 1, .ptr bi 0 1]], .row xid 5 [iv sg, gsv, itv, lv, mv], ownL false vt encI tr] ++ (D ++ C)) (fun v hs' => ∃ tr' C', tr'.length = its.length ∧ tr'.take i = tr.take i ∧ hs' = [.row bt 1 [vt], .row by_ 1 [.yield l], .row bx 1 [.ptr xid 0 5], .row bi 1 [.func 62 [] [.ptr bt 0 1, .ptr by_ 0 1, .ptr bx 0 1, .ptr bi 0 1]], .row xid 5 [iv sg, gsv, itv, lv, mv], ownL false vt encI tr'] ++ (D ++ C') ∧
   ((v = bv true ∧ Y (vis ++ comps (tr.take i) (its.drop i)) C') ∨ (v = bv false ∧ ∃ q r, comps (tr.take i) (its.drop i) = q ++ r ∧ Z (vis ++ q) C'))) := by
 intro m
 induction m using Nat.strongRecOn with
 | _ m ih =>
 intro i j tr vis C hj hi' htr hY hp;subst hj;refine TF.enter (fn := Go.Proofs.Try.f62) rfl rfl rfl rfl rfl (zU rfl (zA R4 (zN (zS (zU rfl (zM R4 (zL 0 R3 R6 (zV R3 (Val.len_own (p := 5) rfl rfl rfl) (TO.eql rfl rfl rfl rfl rfl (fun c12 hc12=>zN ?_))))))))));cases c12 with
 | true =>
  replace hc12 := btrue hc12;refine zC rfl (zU rfl (zL 1 R3 R6 (zL 0 R3 R6 (TO.callY rfl rfl rfl rfl rfl (hy vis tr C (by have := hp; rw [comps_nil (List.drop_eq_nil_of_le aO), List.take_of_length_le aO] at this; exact this) htr hY) ?_))));rintro _ _ (⟨rfl, C1, rfl, hY1⟩ | ⟨rfl, C1, rfl, hZ1⟩)
  ·skip;refine zG (_::_::_::_::_::_::(D ++ C1)) rfl (zA R4 (zN (zR ?_)))
   exact ⟨rfl, _, rfl, tr, C1, htr, rfl, rfl, .inl ⟨rfl, by rw [comps_nil (List.drop_eq_nil_of_le aO), List.take_of_length_le aO]; exact hY1⟩⟩
  ·skip;refine zG (_::_::_::_::_::_::(D ++ C1)) rfl (zA R4 (zN (zR ?_)))
   exact ⟨rfl, _, rfl, tr, C1, htr, rfl, rfl, .inr ⟨rfl, [tr], [], by rw [comps_nil (List.drop_eq_nil_of_le aO), List.take_of_length_le aO]; rfl, hZ1⟩⟩
 | false =>
  replace hc12 := bfalse hc12;refine zD rfl (zK (zS (zU rfl (zL 0 R3 R6 (zM R4 (TO.iaddr_ownL (en := encI) (p := 5) rfl rfl rfl ⟨rfl, rfl⟩ rfl rfl rfl aO (fun id18 a18 ata18 ea18=>?_)))))))
  try simp only [Int.toNat_natCast] at ea18
  refine TO.store_ownL (en := encI) (p := 5) _ rfl rfl rfl ata18 rfl (by decide) rfl rfl rfl (by first | rfl | simp [GS.one]) (by (have := (List.getElem?_eq_some_iff.1 ea18).1; omega)) ?_;refine zG (_::_::_::_::_::_::(D ++ C)) rfl (zN (zU rfl (zL 2 R3 R6 (zV R3 (Val.nil_ptr rfl) (zF 0 R6 (zF 2 R6 (zL 4 R3 R6 (zM R4 (TO.fact (rdl_find (en := encIt) (v := itv) (l := its) (k := (i : Int)) hi (memS (memS (memS (memS (memS (memS (memL))))))) aO) (fun hq=>?_))))))))));obtain ⟨it, eit, pit, hpit, hvit⟩ := hq
  try simp only [Int.toNat_natCast] at eit
  refine zV R3 (hvit ⟨rfl, rfl⟩ rfl rfl) ?_
  have hitl := hcl it (List.mem_of_getElem? eit);refine zV R3 (Val.faddr_e (fo := 0) hpit rfl rfl rfl) (zV R3 (Val.load_e (PtE.add hpit (by decide)) (memS (memS (memS (memS (memS (memS (memL))))))) ⟨_, rfl, rfl⟩ rfl rfl) (zV R3 (Val.len_gs rfl rfl) (TO.eql rfl rfl rfl rfl rfl (fun c29 hc29=>zN ?_))));cases c29 with
  | true =>
   replace hc29 := btrue hc29;refine zC rfl (zU rfl (zL 3 R3 R6 (zM R4 (zV R3 (Val.add rfl rfl aO) (TO.callV rfl rfl rfl rfl rfl rfl (orcN rfl) (ih (m - 1) aO (i + 1) _ (tr.set i (-1)) vis C aO aO (by simpa using htr) hY (by rw [set_take aO, ← comps_one eit hc29]; exact hp)) ?_)))));rintro _ _ ⟨tr1, C1, ht1, hk1, rfl, (⟨rfl, hY1⟩ | ⟨rfl, q1, r1, hq1, hZ1⟩)⟩
   ·skip;refine zG (_::_::_::_::_::_::(D ++ C1)) rfl (zA R4 (zN (zR ?_)))
    exact ⟨rfl, _, rfl, tr1, C1, ht1, tr_keep hk1, rfl, .inl ⟨rfl, by rw [comps_one eit hc29, ← set_take aO]; exact hY1⟩⟩
   ·skip;refine zG (_::_::_::_::_::_::(D ++ C1)) rfl (zA R4 (zN (zR ?_)))
    exact ⟨rfl, _, rfl, tr1, C1, ht1, tr_keep hk1, rfl, .inr ⟨rfl, q1, r1, by rw [comps_one eit hc29, ← set_take aO]; exact hq1, hZ1⟩⟩
  | false =>
   replace hc29 := bfalse hc29;refine zD rfl (zK (zS (zU rfl (zL 2 R3 R6 (zV R3 (Val.nil_ptr rfl) (zF 0 R6 (zF 2 R6 (zL 4 R3 R6 (zM R4 (TO.fact (rdl_find (en := encIt) (v := itv) (l := its) (k := (i : Int)) hi (memS (memS (memS (memS (memS (memS (memL))))))) aO) (fun hq=>?_)))))))))));obtain ⟨it2, eit2, pit2, hpit2, hvit2⟩ := hq
   try simp only [Int.toNat_natCast] at eit2
   refine zV R3 (hvit2 ⟨rfl, rfl⟩ rfl rfl) ?_
   have e40 := Option.some.inj (eit.symm.trans eit2);subst e40;refine zV R3 (Val.faddr_e (fo := 0) hpit2 rfl rfl rfl) (zV R3 (Val.load_e (PtE.add hpit2 (by decide)) (memS (memS (memS (memS (memS (memS (memL))))))) ⟨_, rfl, rfl⟩ rfl rfl) (zV R3 (Val.len_gs rfl rfl) (zM R4 (zN (zB (T.loop (fun μ s => ∃ c : Nat, ∃ jc : Int, ∃ tr2 : List Int, ∃ C2 : List Thing, μ = it.could.l.length - c ∧ jc = c ∧ c ≤ it.could.l.length ∧ tr2.length = its.length ∧ tr2.take i = tr.take i ∧ Y (vis ++ (it.could.l.take c).flatMap fun a => comps (tr.take i ++ [a]) (its.drop (i + 1))) C2 ∧ s = ⟨[], [(0, iv (i : Int)), (1, .ptr bt 0 1), (2, .ptr by_ 0 1), (3, .ptr bx 0 1), (4, .ptr bi 0 1), (42, it.could.v), (43, iv (it.could.l.length : Int)), (44, iv jc)], (.row bt 1 [vt]) :: (.row by_ 1 [.yield l]) :: (.row bx 1 [.ptr xid 0 5]) :: (.row bi 1 [.func 62 [] [.ptr bt 0 1, .ptr by_ 0 1, .ptr bx 0 1, .ptr bi 0 1]]) :: (.row xid 5 [iv sg, gsv, itv, lv, mv]) :: (ownL false vt encI tr2) :: (D ++ C2)⟩) (k := _) (s' := _) ⟨0, 0, _, _, rfl, (by first | rfl | omega | (simp; done) | (simp; omega) | simp_all), (by first | rfl | omega | (simp; done) | (simp; omega) | simp_all), (by simpa using htr), (by exact set_takeL), (by simpa using hY), rfl⟩ ⟨rfl, (keep_cons rfl (keep_cons rfl (keep_cons rfl (keep_cons rfl (keep_cons rfl (keep_cons rfl (keep_cons rfl (keep_cons rfl keep_nil)))))))), (.cons_cons _ (.cons_cons _ (.cons_cons _ (.cons_cons _ (.cons_cons _ (.cons_cons _ (.refl _)))))))⟩ ?_))))));rintro μ _ ⟨c, jc, tr2, C2, hk0, hjc, hcl, ht2, hk2, hY2, rfl⟩;subst hjc;refine zU rfl (TO.lss rfl rfl rfl rfl rfl (fun c45 hc45=>zN (zS ?_)));cases c45 with
   | true =>
    replace hc45 := btrue hc45;refine zC rfl (zK (zS (zB (zU rfl (TO.index_gs rfl rfl rfl ⟨rfl, rfl⟩ rfl rfl aO (fun cc rcc ecc=>?_))))))
    try simp only [Int.toNat_natCast] at ecc
    refine zV R3 (Val.load_tree ⟨_, rfl, rfl⟩ rfl) (zA R4 (zN (zU rfl (zL 0 R3 R6 (zM R4 (zM R4 (TO.iaddr_ownL (en := encI) (p := 5) rfl rfl rfl ⟨rfl, rfl⟩ rfl rfl rfl aO (fun id51 a51 ata51 ea51=>?_))))))))
    try simp only [Int.toNat_natCast] at ea51
    refine TO.store_ownL (en := encI) (p := 5) _ rfl rfl rfl ata51 rfl (by decide) rfl rfl rfl (by first | rfl | simp [GS.one]) (by (have := (List.getElem?_eq_some_iff.1 ea51).1; omega)) ?_;refine zG (_::_::_::_::_::_::(D ++ C2)) rfl (zN (zU rfl (zL 3 R3 R6 (zM R4 (zV R3 (Val.add rfl rfl aO) (TO.callV rfl rfl rfl rfl rfl rfl (orcN rfl) (ih (m - 1) aO (i + 1) _ (tr2.set i cc) _ C2 aO aO (by simpa using ht2) hY2 (by rw [set_take aO, hk2, List.append_assoc]; rw [comps_all eit hc29] at hp; exact (pre_app (flat_pre ecc)).trans hp)) ?_))))));rintro _ _ ⟨tr1, C1, ht1, hk1, rfl, (⟨rfl, hY1⟩ | ⟨rfl, q1, r1, hq1, hZ1⟩)⟩
    ·skip;refine zG (_::_::_::_::_::_::(D ++ C1)) rfl (zV R3 (Val.not rfl) (zN (zD rfl (zK (zT rfl (zV R3 (Val.add rfl rfl aO) (zM R4 (zN ?_))))))))
     refine ⟨_, _, aO, ⟨c + 1, _, _, _, rfl, (by first | omega | simp_all), (by first | omega | simp_all), (by exact ht1), (by exact (tr_keep hk1).trans hk2), (by have e : tr.take i ++ [cc] = (tr2.set i cc).take (i + 1) := (by rw [set_take aO, hk2]); rw [take_snoc ecc, List.flatMap_append, ← List.append_assoc, List.flatMap_cons, List.flatMap_nil, List.append_nil, e]; exact hY1), rfl⟩, ⟨rfl, (keep_cons rfl (keep_cons rfl (keep_cons rfl (keep_cons rfl (keep_cons rfl (keep_cons rfl (keep_cons rfl (keep_cons rfl keep_nil)))))))), (.cons_cons _ (.cons_cons _ (.cons_cons _ (.cons_cons _ (.cons_cons _ (.cons_cons _ (.refl _)))))))⟩⟩
    ·skip;refine zG (_::_::_::_::_::_::(D ++ C1)) rfl (zV R3 (Val.not rfl) (zN (zC rfl (zU rfl (zA R4 (zN (zR ?_)))))))
     exact ⟨rfl, _, rfl, tr1, C1, ht1, (tr_keep hk1).trans hk2, rfl, .inr ⟨rfl, _, _, comps_cut eit ecc hc29 (by rw [← hk2, ← set_take aO]; exact hq1), by rw [← List.append_assoc]; exact hZ1⟩⟩
   | false =>
    replace hc45 := bfalse hc45;refine zD rfl (zE (zU rfl (zA R4 (zN (zR ?_)))));exact ⟨rfl, _, rfl, tr2, C2, ht2, hk2, rfl, .inl ⟨rfl, by rw [comps_all eit hc29]; rw [show it.could.l.take c = it.could.l from List.take_of_length_le aO] at hY2; exact hY2⟩⟩
theorem tr_iter {k : Nat} {its : List Item} {itv : AV} {D : List Thing} {sg : Int} {gsv lv mv : AV} {bx xid l : Nat} {Y Z : List (List Int) → List Thing → Prop} (hn : its.length ≤ 120) (hi : Rdl D encIt itv its)
  (hcl : ∀ x ∈ its, x.could.l.length ≤ 4) (hy : ∀ bt by_ bi vt, Visit k l vt its.length (truthsOf its) (fun tr => [.row bt 1 [vt], .row by_ 1 [.yield l], .row bx 1 [.ptr xid 0 5], .row bi 1 [.func 62 [] [.ptr bt 0 1, .ptr by_ 0 1, .ptr bx 0 1, .ptr bi 0 1]], .row xid 5 [iv sg, gsv, itv, lv, mv], ownL false vt encI tr] ++ D) Y Z) (C : List Thing) (hY : Y [] C) :
  TF (EL k) 61 [.yield l, .ptr bx 0 1] ([.row bx 1 [.ptr xid 0 5], .row xid 5 [iv sg, gsv, itv, lv, mv]] ++ (D ++ C)) (fun v hs' => ∃ C', hs' = [.row bx 1 [.ptr xid 0 5], .row xid 5 [iv sg, gsv, itv, lv, mv]] ++ (D ++ C') ∧
   (Y (truthsOf its) C' ∨ ∃ q r, truthsOf its = q ++ r ∧ Z q C')) := by
 refine TF.enter (fn := Go.Proofs.Try.f61) rfl rfl rfl rfl rfl (zU rfl (zQ 1 [_] R7 (fun b2=>zN (zU rfl (zL 1 R3 R6 (zV R3 (Val.nil_ptr rfl) (zF 0 R6 (zF 2 R6 (zL 2 R3 R6 (zV R3 (Val.len_l hi (memS (memS (memS (memL)))) rfl rfl) (TO.makeInts (m := its.length) (b := 8) rfl rfl rfl ⟨rfl, rfl⟩ rfl rfl rfl rfl aO aO (fun v11=>zJ 1 [_] R7 (fun b3=>TO.ownfact (p := 1) rfl (fun hot24=>TO.store_row (p := 0) (cv := [_]) (cells' := [_]) rfl rfl rfl rfl rfl rfl rfl hot24.1 rfl rfl (by simp [hot24.2]) (by decide) rfl (zG (_::_::_::_::_::(D ++ C)) rfl (zN (zU rfl (zJ 1 [_] R7 (fun b4=>zN (zU rfl (zV R3 (Val.makeFunc rfl rfl) (TO.store_row (p := 0) (cv := [_]) (cells' := [_]) rfl rfl rfl rfl rfl rfl rfl rfl rfl rfl (by first | rfl | simp [GS.one]) (by decide) rfl (zG (_::_::_::_::_::_::(D ++ C)) rfl (zN (zT rfl (zL 0 R3 R6 (TO.pick (p := 2) rfl (zG (_::_::_::_::_::_::(D ++ C)) rfl (TO.pick (p := 5) rfl (zG (_::_::_::_::_::_::(D ++ C)) rfl (TO.pick (p := 2) rfl (zG (_::_::_::_::_::_::(D ++ C)) rfl (TO.pick (p := 5) rfl (zG (_::_::_::_::_::_::(D ++ C)) rfl (TO.pick (p := 5) rfl ?_)))))))))))))))))))))))))))))))))));refine zG (_::_::_::_::_::_::(D ++ C)) rfl (TO.pick (p := 5) rfl (zG (_::_::_::_::_::_::(D ++ C)) rfl (TO.callV rfl rfl rfl rfl rfl rfl (orcN rfl) (tr_item hn hi hcl (hy _ _ _ _) its.length 0 0 _ [] C rfl aO (by simp) hY (by simp [truthsOf])) ?_)));rintro _ _ ⟨tr1, C1, ht1, hk1, rfl, (⟨rfl, hY1⟩ | ⟨rfl, q1, r1, hq1, hZ1⟩)⟩
 ·skip;refine zG (_::_::_::_::_::_::(D ++ C1)) rfl (TO.keep (s' := ⟨[], [], _ :: _ :: (D ++ C1)⟩) (sc (.cons _ (.cons _ (.cons_cons _ (.cons _ (.cons_cons _ (.cons _ (.refl _)))))))) (zN ?_))
  exact ⟨rfl, _, rfl, _, rfl, .inl (by simpa [truthsOf] using hY1)⟩
 ·skip;refine zG (_::_::_::_::_::_::(D ++ C1)) rfl (TO.keep (s' := ⟨[], [], _ :: _ :: (D ++ C1)⟩) (sc (.cons _ (.cons _ (.cons_cons _ (.cons _ (.cons_cons _ (.cons _ (.refl _)))))))) (zN ?_))
  exact ⟨rfl, _, rfl, _, rfl, .inr ⟨q1, r1, by simpa [truthsOf] using hq1, by simpa using hZ1⟩⟩
end Go.Am.Ythckcbfijdambaa
end
section
namespace Go.Am.Ythckcbfijdambaa
open Go.Am Go.RowKit
set_option linter.unusedVariables false
set_option linter.unusedSimpArgs false
theorem q_out (lo : Int) (hi : Int) (x : GS encI) (hb : x.l.length < 4611686018427387904) : Comes (EL 0) 73 [iv lo, iv hi, x.v] (bv (decide (∃ n ∈ x.l, n < lo ∨ hi < n))) := by
 refine Comes.of (TF.enter (fn := Go.Proofs.Try.f73) rfl rfl rfl rfl rfl ?_);refine zU rfl (zQ 1 [_] R7 (fun b3=>zQ 1 [_] R7 (fun b4=>zA R4 (zN (zU rfl (zM R4 (zV R3 (Val.makeFunc rfl rfl) (TO.callIn rfl rfl rfl rfl rfl rfl (orcN rfl) (TF.enter (fn := Go.Proofs.Try.f85) rfl rfl rfl rfl rfl (zU rfl (zA R4 (zN (zU rfl (zM R4 (zM R4 (TO.callIn rfl rfl rfl rfl rfl rfl (orcN rfl) (TF.enter (fn := Go.Proofs.Try.f104) rfl rfl rfl rfl rfl (zU rfl (zA R4 (zN (zS (zU rfl (zM R4 (zV R3 (Val.len_gs rfl rfl) (zM R4 (zN (zB (T.loop (fun μ s => ∃ i : Nat, ∃ j : Int, μ = x.l.length - i ∧ j = i ∧ i ≤ x.l.length ∧ (∀ n ∈ x.l.take i, ¬ (n < lo ∨ hi < n)) ∧ s = ⟨[], [(0, x.v), (1, .func 101 [] [.ptr b3 0 1, .ptr b4 0 1]), (7, iv (x.l.length : Int)), (8, iv j)], [.row b4 1 [iv hi], .row b3 1 [iv lo]]⟩) (k := _) (s' := _) ⟨0, 0, rfl, (by first | rfl | omega | (simp; done) | (simp; omega) | simp_all), (by first | rfl | omega | (simp; done) | (simp; omega) | simp_all), (by first | rfl | omega | (simp; done) | (simp; omega) | simp_all), rfl⟩ ⟨rfl, (keep_cons rfl (keep_cons rfl (keep_cons rfl (keep_cons rfl keep_nil)))), (.cons_cons _ (.cons_cons _ .slnil))⟩ ?_))))))))))))))))))))))))))));rintro μ _ ⟨i, j, hk0, hj, hil, hall, rfl⟩;subst hj;refine zU rfl (TO.lss rfl rfl rfl rfl rfl (fun c9 hc9=>zN (zS ?_)));cases c9 with
 | true =>
  replace hc9 := btrue hc9;refine zC rfl (zK (zS (zB (zU rfl (zM R4 (zA R4 (zN (zU rfl (zM R4 (zM R4 (zM R4 (TO.index_gs rfl rfl rfl ⟨rfl, rfl⟩ rfl rfl aO (fun a14 ra14 ea14=>?_)))))))))))))
  try simp only [Int.toNat_natCast] at ea14
  refine zV R3 (Val.load_tree ⟨_, rfl, rfl⟩ rfl) (TO.callIn rfl rfl rfl rfl rfl rfl (orcN rfl) (TF.enter (fn := Go.Proofs.Try.f101) rfl rfl rfl rfl rfl (zU rfl (zA R4 (zN (zU rfl (zM R4 (zL 1 R3 R6 (TO.lss rfl rfl rfl rfl rfl (fun c7 hc7=>zM R4 ?_))))))))));cases c7 with
  | true =>
   replace hc7 := btrue hc7;refine zO R3 (zO R3 (zO R3 (zP R6 (zA R4 (zN (zR ?_))))));refine ⟨rfl, _, rfl, ?_⟩;refine zN (zC rfl (zU rfl (zM R4 (zA R4 (zN (zR ?_))))));refine ⟨rfl, _, rfl, ?_⟩;refine TO.geq rfl rfl rfl rfl rfl (fun c8 hc8=>zA R4 (zN (zR ?_)));refine ⟨rfl, _, rfl, ?_⟩;refine zA R4 (zN (zR ?_));cases c8 with
   | true =>
    replace hc8 := btrue hc8;exact ⟨rfl, _, rfl, RefN.cast .lit (bv_t (by first | (exfalso; omega) | exact ⟨_, List.mem_of_getElem? ea14, by omega⟩ | (rw [List.take_of_length_le aO] at hall; exact fun ⟨n, h1, h2⟩ => hall n h1 h2)))⟩
   | false =>
    replace hc8 := bfalse hc8;exact ⟨rfl, _, rfl, RefN.cast .lit (bv_f (by first | (exfalso; omega) | exact ⟨_, List.mem_of_getElem? ea14, by omega⟩ | (rw [List.take_of_length_le aO] at hall; exact fun ⟨n, h1, h2⟩ => hall n h1 h2)))⟩
  | false =>
   replace hc7 := bfalse hc7;refine zM R4 (zL 0 R3 R6 (TO.gtr rfl rfl rfl rfl rfl (fun c11 hc11=>zP R6 (zA R4 (zN (zR ?_))))));refine ⟨rfl, _, rfl, ?_⟩;refine zN ?_;cases c11 with
   | true =>
    replace hc11 := btrue hc11;refine zC rfl (zU rfl (zM R4 (zA R4 (zN (zR ?_)))));refine ⟨rfl, _, rfl, ?_⟩;refine TO.geq rfl rfl rfl rfl rfl (fun c8 hc8=>zA R4 (zN (zR ?_)));refine ⟨rfl, _, rfl, ?_⟩;refine zA R4 (zN (zR ?_));cases c8 with
    | true =>
     replace hc8 := btrue hc8;exact ⟨rfl, _, rfl, RefN.cast .lit (bv_t (by first | (exfalso; omega) | exact ⟨_, List.mem_of_getElem? ea14, by omega⟩ | (rw [List.take_of_length_le aO] at hall; exact fun ⟨n, h1, h2⟩ => hall n h1 h2)))⟩
    | false =>
     replace hc8 := bfalse hc8;exact ⟨rfl, _, rfl, RefN.cast .lit (bv_f (by first | (exfalso; omega) | exact ⟨_, List.mem_of_getElem? ea14, by omega⟩ | (rw [List.take_of_length_le aO] at hall; exact fun ⟨n, h1, h2⟩ => hall n h1 h2)))⟩
   | false =>
    replace hc11 := bfalse hc11;refine zD rfl (zK (zT rfl (zV R3 (Val.add rfl rfl aO) (zM R4 (zN ?_)))));refine ⟨_, _, aO, ⟨i + 1, _, rfl, (by first | omega | simp_all), (by first | omega | simp_all), (by rw [take_snoc ea14]; intro n hn; rcases List.mem_append.1 hn with hn | hn; exact hall n hn; simp at hn; subst hn; omega), rfl⟩, ⟨rfl, (keep_cons rfl (keep_cons rfl (keep_cons rfl (keep_cons rfl keep_nil)))), (.cons_cons _ (.cons_cons _ .slnil))⟩⟩
 | false =>
  replace hc9 := bfalse hc9;refine zD rfl (zE (zU rfl (zA R4 (zN (zR ?_)))));refine ⟨rfl, _, rfl, ?_⟩;refine TO.geq rfl rfl rfl rfl rfl (fun c8 hc8=>zA R4 (zN (zR ?_)));refine ⟨rfl, _, rfl, ?_⟩;refine zA R4 (zN (zR ?_));cases c8 with
  | true =>
   replace hc8 := btrue hc8;exact ⟨rfl, _, rfl, RefN.cast .lit (bv_t (by first | (exfalso; omega) | exact ⟨_, List.mem_of_getElem? ea14, by omega⟩ | (rw [List.take_of_length_le aO] at hall; exact fun ⟨n, h1, h2⟩ => hall n h1 h2)))⟩
  | false =>
   replace hc8 := bfalse hc8;exact ⟨rfl, _, rfl, RefN.cast .lit (bv_f (by first | (exfalso; omega) | exact ⟨_, List.mem_of_getElem? ea14, by omega⟩ | (rw [List.take_of_length_le aO] at hall; exact fun ⟨n, h1, h2⟩ => hall n h1 h2)))⟩
theorem c_outside (lo : Int) (hi : Int) (x : GS encI) (hb : x.l.length < 4611686018427387904) : Comes (EL 0) 58 [iv lo, iv hi, x.v] (bv (decide (∃ n ∈ x.l, n < lo ∨ hi < n))) := by
 refine Comes.of (TF.enter (fn := Go.Proofs.Try.f58) rfl rfl rfl rfl rfl ?_);refine zU rfl (zQ 1 [_] R7 (fun b3=>zQ 1 [_] R7 (fun b4=>zA R4 (zN (zU rfl (zM R4 (zV R3 (Val.makeFunc rfl rfl) (TO.callIn rfl rfl rfl rfl rfl rfl (orcN rfl) (TF.enter (fn := Go.Proofs.Try.f85) rfl rfl rfl rfl rfl (zU rfl (zA R4 (zN (zU rfl (zM R4 (zM R4 (TO.callIn rfl rfl rfl rfl rfl rfl (orcN rfl) (TF.enter (fn := Go.Proofs.Try.f104) rfl rfl rfl rfl rfl (zU rfl (zA R4 (zN (zS (zU rfl (zM R4 (zV R3 (Val.len_gs rfl rfl) (zM R4 (zN (zB (T.loop (fun μ s => ∃ i : Nat, ∃ j : Int, μ = x.l.length - i ∧ j = i ∧ i ≤ x.l.length ∧ (∀ n ∈ x.l.take i, ¬ (n < lo ∨ hi < n)) ∧ s = ⟨[], [(0, x.v), (1, .func 86 [] [.ptr b3 0 1, .ptr b4 0 1]), (7, iv (x.l.length : Int)), (8, iv j)], [.row b4 1 [iv hi], .row b3 1 [iv lo]]⟩) (k := _) (s' := _) ⟨0, 0, rfl, (by first | rfl | omega | (simp; done) | (simp; omega) | simp_all), (by first | rfl | omega | (simp; done) | (simp; omega) | simp_all), (by first | rfl | omega | (simp; done) | (simp; omega) | simp_all), rfl⟩ ⟨rfl, (keep_cons rfl (keep_cons rfl (keep_cons rfl (keep_cons rfl keep_nil)))), (.cons_cons _ (.cons_cons _ .slnil))⟩ ?_))))))))))))))))))))))))))));rintro μ _ ⟨i, j, hk0, hj, hil, hall, rfl⟩;subst hj;refine zU rfl (TO.lss rfl rfl rfl rfl rfl (fun c9 hc9=>zN (zS ?_)));cases c9 with
 | true =>
  replace hc9 := btrue hc9;refine zC rfl (zK (zS (zB (zU rfl (zM R4 (zA R4 (zN (zU rfl (zM R4 (zM R4 (zM R4 (TO.index_gs rfl rfl rfl ⟨rfl, rfl⟩ rfl rfl aO (fun a14 ra14 ea14=>?_)))))))))))))
  try simp only [Int.toNat_natCast] at ea14
  refine zV R3 (Val.load_tree ⟨_, rfl, rfl⟩ rfl) (TO.callIn rfl rfl rfl rfl rfl rfl (orcN rfl) (TF.enter (fn := Go.Proofs.Try.f86) rfl rfl rfl rfl rfl (zU rfl (zA R4 (zN (zU rfl (zM R4 (zL 1 R3 R6 (TO.lss rfl rfl rfl rfl rfl (fun c7 hc7=>zM R4 ?_))))))))));cases c7 with
  | true =>
   replace hc7 := btrue hc7;refine zO R3 (zO R3 (zO R3 (zP R6 (zA R4 (zN (zR ?_))))));refine ⟨rfl, _, rfl, ?_⟩;refine zN (zC rfl (zU rfl (zM R4 (zA R4 (zN (zR ?_))))));refine ⟨rfl, _, rfl, ?_⟩;refine TO.geq rfl rfl rfl rfl rfl (fun c8 hc8=>zA R4 (zN (zR ?_)));refine ⟨rfl, _, rfl, ?_⟩;refine zA R4 (zN (zR ?_));cases c8 with
   | true =>
    replace hc8 := btrue hc8;exact ⟨rfl, _, rfl, RefN.cast .lit (bv_t (by first | (exfalso; omega) | exact ⟨_, List.mem_of_getElem? ea14, by omega⟩ | (rw [List.take_of_length_le aO] at hall; exact fun ⟨n, h1, h2⟩ => hall n h1 h2)))⟩
   | false =>
    replace hc8 := bfalse hc8;exact ⟨rfl, _, rfl, RefN.cast .lit (bv_f (by first | (exfalso; omega) | exact ⟨_, List.mem_of_getElem? ea14, by omega⟩ | (rw [List.take_of_length_le aO] at hall; exact fun ⟨n, h1, h2⟩ => hall n h1 h2)))⟩
  | false =>
   replace hc7 := bfalse hc7;refine zM R4 (zL 0 R3 R6 (TO.gtr rfl rfl rfl rfl rfl (fun c11 hc11=>zP R6 (zA R4 (zN (zR ?_))))));refine ⟨rfl, _, rfl, ?_⟩;refine zN ?_;cases c11 with
   | true =>
    replace hc11 := btrue hc11;refine zC rfl (zU rfl (zM R4 (zA R4 (zN (zR ?_)))));refine ⟨rfl, _, rfl, ?_⟩;refine TO.geq rfl rfl rfl rfl rfl (fun c8 hc8=>zA R4 (zN (zR ?_)));refine ⟨rfl, _, rfl, ?_⟩;refine zA R4 (zN (zR ?_));cases c8 with
    | true =>
     replace hc8 := btrue hc8;exact ⟨rfl, _, rfl, RefN.cast .lit (bv_t (by first | (exfalso; omega) | exact ⟨_, List.mem_of_getElem? ea14, by omega⟩ | (rw [List.take_of_length_le aO] at hall; exact fun ⟨n, h1, h2⟩ => hall n h1 h2)))⟩
    | false =>
     replace hc8 := bfalse hc8;exact ⟨rfl, _, rfl, RefN.cast .lit (bv_f (by first | (exfalso; omega) | exact ⟨_, List.mem_of_getElem? ea14, by omega⟩ | (rw [List.take_of_length_le aO] at hall; exact fun ⟨n, h1, h2⟩ => hall n h1 h2)))⟩
   | false =>
    replace hc11 := bfalse hc11;refine zD rfl (zK (zT rfl (zV R3 (Val.add rfl rfl aO) (zM R4 (zN ?_)))));refine ⟨_, _, aO, ⟨i + 1, _, rfl, (by first | omega | simp_all), (by first | omega | simp_all), (by rw [take_snoc ea14]; intro n hn; rcases List.mem_append.1 hn with hn | hn; exact hall n hn; simp at hn; subst hn; omega), rfl⟩, ⟨rfl, (keep_cons rfl (keep_cons rfl (keep_cons rfl (keep_cons rfl keep_nil)))), (.cons_cons _ (.cons_cons _ .slnil))⟩⟩
 | false =>
  replace hc9 := bfalse hc9;refine zD rfl (zE (zU rfl (zA R4 (zN (zR ?_)))));refine ⟨rfl, _, rfl, ?_⟩;refine TO.geq rfl rfl rfl rfl rfl (fun c8 hc8=>zA R4 (zN (zR ?_)));refine ⟨rfl, _, rfl, ?_⟩;refine zA R4 (zN (zR ?_));cases c8 with
  | true =>
   replace hc8 := btrue hc8;exact ⟨rfl, _, rfl, RefN.cast .lit (bv_t (by first | (exfalso; omega) | exact ⟨_, List.mem_of_getElem? ea14, by omega⟩ | (rw [List.take_of_length_le aO] at hall; exact fun ⟨n, h1, h2⟩ => hall n h1 h2)))⟩
  | false =>
   replace hc8 := bfalse hc8;exact ⟨rfl, _, rfl, RefN.cast .lit (bv_f (by first | (exfalso; omega) | exact ⟨_, List.mem_of_getElem? ea14, by omega⟩ | (rw [List.take_of_length_le aO] at hall; exact fun ⟨n, h1, h2⟩ => hall n h1 h2)))⟩
theorem q_lettered (s : Sg)  : Comes (EL 0) 77 [.agg (encS.f s)] (bv (decide (s.letter < 23))) := by
 refine Comes.of (TF.enter (fn := Go.Proofs.Try.f77) rfl rfl rfl rfl rfl ?_);refine zU rfl (zQ 2 [_,_] R7 (fun b1=>zA R4 (zN (zU rfl (zF 1 R6 (zL 0 R3 R6 (TO.lss rfl rfl rfl rfl rfl (fun c5 hc5=>zA R4 (zN (zR ?_))))))))));cases c5 with
 | true =>
  replace hc5 := btrue hc5;exact ⟨rfl, _, rfl, RefN.cast .lit (bv_t (by assumption))⟩
 | false =>
  replace hc5 := bfalse hc5;exact ⟨rfl, _, rfl, RefN.cast .lit (bv_f (by assumption))⟩
theorem q_before (a : Sg) (b : Sg)  : Comes (EL 0) 78 [.agg (encS.f a), .agg (encS.f b)] (bv (decide (a.round < b.round ∨ a.round = b.round ∧ a.letter < b.letter))) := by
 refine Comes.of (TF.enter (fn := Go.Proofs.Try.f78) rfl rfl rfl rfl rfl ?_);refine zU rfl (zQ 2 [_,_] R7 (fun b2=>zQ 2 [_,_] R7 (fun b3=>zA R4 (zN (zU rfl (zF 0 R6 (zL 1 R3 R6 (zF 0 R6 (zL 0 R3 R6 (TO.lss rfl rfl rfl rfl rfl (fun c9 hc9=>zM R4 ?_)))))))))));cases c9 with
 | true =>
  replace hc9 := btrue hc9;refine zO R3 (zO R3 (zO R3 (zO R3 (zO R3 (zO R3 (zO R3 (zO R3 (zO R3 (zO R3 (zO R3 (zO R3 (zP R6 (zA R4 (zN (zR ?_)))))))))))))));exact ⟨rfl, _, rfl, RefN.cast .lit (bv_t aO)⟩
 | false =>
  replace hc9 := bfalse hc9;refine zF 0 R6 (zL 1 R3 R6 (zF 0 R6 (zL 0 R3 R6 (TO.eql rfl rfl rfl rfl rfl (fun c15 hc15=>zM R4 ?_)))));cases c15 with
  | true =>
   replace hc15 := btrue hc15;refine zF 1 R6 (zL 1 R3 R6 (zF 1 R6 (zL 0 R3 R6 (TO.lss rfl rfl rfl rfl rfl (fun c21 hc21=>zP R6 (zP R6 (zA R4 (zN (zR ?_)))))))));cases c21 with
   | true =>
    replace hc21 := btrue hc21;exact ⟨rfl, _, rfl, RefN.cast .lit (bv_t aO)⟩
   | false =>
    replace hc21 := bfalse hc21;exact ⟨rfl, _, rfl, RefN.cast .lit (bv_f aO)⟩
  | false =>
   replace hc15 := bfalse hc15;refine zO R3 (zO R3 (zO R3 (zO R3 (zO R3 (zP R6 (zP R6 (zA R4 (zN (zR ?_)))))))));exact ⟨rfl, _, rfl, RefN.cast .lit (bv_f aO)⟩
end Go.Am.Ythckcbfijdambaa
end
section
namespace Go.Am.Ythckcbfijdambaa
open Go.Am Go.RowKit
set_option linter.unusedVariables false
set_option linter.unusedSimpArgs false
theorem q_none (s : Sg)  : Comes (EL 1) 76 [.agg (encS.f s)] (bv (decide (¬ sigOk s))) := by
 refine Comes.of (TF.enter (fn := Go.Proofs.Try.f76) rfl rfl rfl rfl rfl ?_);refine zU rfl (zQ 2 [_,_] R7 (fun b1=>zA R4 (zN (zU rfl (zF 0 R6 (zL 0 R3 R6 (TO.build1 (en := encI) (a := _) rfl rfl rfl ⟨rfl, rfl⟩ ⟨_, rfl, rfl⟩ (by decide) (by decide) rfl rfl (fun v5=>TO.callD rfl rfl rfl rfl rfl (orcL rfl aD) (.cons .lit (.cons .lit (.cons (.ownL (p := 0) rfl .ints) .nil))) (sem_of (q_out _ _ _ (by exact out1_small))) (fun c6 hc6=>?_)))))))));replace hc6 := out1 hc6;refine zM R4 ?_;cases c6 with
 | true =>
  replace hc6 := btrue hc6;refine zO R3 (zO R3 (zO R3 (zO R3 (zP R6 (zA R4 (zN (zR ?_)))))));exact ⟨rfl, _, rfl, RefN.cast .lit (bv_t (by unfold sigOk inR; omega))⟩
 | false =>
  replace hc6 := bfalse hc6;refine zF 1 R6 (zL 1 R3 R6 (TO.build1 (en := encI) (a := _) rfl rfl rfl ⟨rfl, rfl⟩ ⟨_, rfl, rfl⟩ (by decide) (by decide) rfl rfl (fun v10=>TO.callD rfl rfl rfl rfl rfl (orcL rfl aD) (.cons .lit (.cons .lit (.cons (.ownL (p := 0) rfl .ints) .nil))) (sem_of (q_out _ _ _ (by exact out1_small))) (fun c11 hc11=>?_))));replace hc11 := out1 hc11;refine zP R6 (zA R4 (zN (zR ?_)));cases c11 with
  | true =>
   replace hc11 := btrue hc11;exact ⟨rfl, _, rfl, RefN.cast .lit (bv_t (by unfold sigOk inR; omega))⟩
  | false =>
   replace hc11 := bfalse hc11;exact ⟨rfl, _, rfl, RefN.cast .lit (bv_f (by unfold sigOk inR; omega))⟩
theorem q_chg {k bg : Nat} (hk : 1 ≤ k) (g : Gat) (i : Nat) (c : Chg) (C : List Thing) (hi : g.ch.l[i]? = some c) (hb : g.ch.l.length ≤ 4) :
  TF (EL k) 80 [iv (i : Int), .agg (encC.f c), .ptr bg 0 4] (.row bg 4 [iv g.round, iv g.letter, iv g.leaves, g.ch.v] :: C) fun v hs' => v = iv (chgErr g.leaves c (if i = 0 then none else g.ch.l[i - 1]?)) ∧ hs' = .row bg 4 [iv g.round, iv g.letter, iv g.leaves, g.ch.v] :: C := by
 have hlt := (List.getElem?_eq_some_iff.1 hi).1;refine TF.enter (fn := Go.Proofs.Try.f80) rfl rfl rfl rfl rfl (zU rfl (zQ 3 [_,_,_] R7 (fun b4=>zA R4 (zN (zU rfl (zA R4 (zA R4 (zN (zS (zU rfl (zV R3 (vW 0 [_,_,_] R5 R4) (TO.callIn rfl rfl rfl rfl rfl rfl (orcN rfl) (TF.enter (fn := Go.Proofs.Try.f81) rfl rfl rfl rfl rfl (zU rfl (zQ 3 [_,_,_] R7 (fun b1=>zA R4 (zN (zS (zU rfl (zF 0 R6 (zL 0 R3 R6 (zN (zB (zU rfl (TO.eql rfl rfl rfl rfl rfl (fun c6 hc6=>zA R4 (zN ?_)))))))))))))))))))))))))));cases c6 with
 | true =>
  replace hc6 := btrue hc6;refine zC rfl (zU rfl (zF 1 R6 (zL 0 R3 R6 (zV R3 (Val.build (cs := [_]) (vs := [(_, _)]) rfl rfl rfl) (zV R3 (Val.makeIface rfl rfl rfl) (zA R4 (zN (zR ?_))))))));refine ⟨rfl, _, rfl, ?_⟩;refine zN (zB (zU rfl (zV R3 (Val.bin (r := bv false) rfl rfl (by kernel_rfl)) (zN (zD rfl (zU rfl (zV R3 (Val.assert_no rfl rfl rfl rfl rfl) (zX R5 (zX R5 (zN (zD rfl (zK (zS (zU rfl (zM R4 (zF 2 R6 (zL 2 R3 R6 (zF 1 R6 (zL 1 R3 R6 (TO.build1 (en := encI) (a := _) rfl rfl rfl ⟨rfl, rfl⟩ ⟨_, rfl, rfl⟩ (by decide) (by decide) rfl rfl (fun v20=>TO.callD rfl rfl rfl rfl rfl (orcL rfl aD) (.cons .lit (.cons .lit (.cons (.ownL (p := 0) rfl .ints) .nil))) (sem_of (q_out _ _ _ (by exact out1_small))) (fun c21 hc21=>?_))))))))))))))))))))));replace hc21 := out1 hc21;refine zM R4 ?_;cases c21 with
  | true =>
   replace hc21 := btrue hc21;refine zO R3 (zO R3 (zO R3 (zO R3 (zO R3 (zO R3 (zO R3 (zP R6 (zN (zC rfl (zU rfl (zA R4 (zN (T.keep (s' := ⟨[], [(5, _)], _ :: C⟩) (sc (.cons _ (.cons _ (.cons _ (.cons_cons _ (.refl _)))))) (zR ?_))))))))))))));exact ⟨rfl, _, rfl, congrArg iv (by first | (simp_all [chgErr, inR]; done) | (simp_all [chgErr, inR]; omega)), rfl⟩
  | false =>
   replace hc21 := bfalse hc21;refine zM R4 (TO.bmin rfl rfl rfl rfl rfl (zM R4 (zF 2 R6 (zL 2 R3 R6 (TO.build1 (en := encI) (a := _) rfl rfl rfl ⟨rfl, rfl⟩ ⟨_, rfl, rfl⟩ (by decide) (by decide) rfl rfl (fun v28=>TO.callD rfl rfl rfl rfl rfl (orcL rfl aD) (.cons .lit (.cons .lit (.cons (.ownL (p := 0) rfl .ints) .nil))) (sem_of (q_out _ _ _ (by exact out1_small))) (fun c29 hc29=>?_)))))));replace hc29 := out1 hc29;refine zP R6 (zN ?_);cases c29 with
   | true =>
    replace hc29 := btrue hc29;refine zC rfl (zU rfl (zA R4 (zN (T.keep (s' := ⟨[], [(5, _)], _ :: C⟩) (sc (.cons _ (.cons _ (.cons _ (.cons _ (.cons_cons _ (.refl _))))))) (zR ?_)))));exact ⟨rfl, _, rfl, congrArg iv (by first | (simp_all [chgErr, inR]; done) | (simp_all [chgErr, inR]; omega)), rfl⟩
   | false =>
    replace hc29 := bfalse hc29;refine zD rfl (zK (zS (zU rfl (zM R4 (TO.gtr rfl rfl rfl rfl rfl (fun c32 hc32=>zN ?_))))));cases c32 with
    | true =>
     replace hc32 := btrue hc32
     have hi0 : ¬ i = 0 := by omega
     refine zC rfl (zU rfl (zF 3 R6 (zL 4 R3 R6 (zM R4 (zV R3 (Val.sub rfl rfl aO) (TO.index_gs rfl rfl rfl ⟨rfl, rfl⟩ rfl rfl aO (fun a37 ra37 ea37=>?_)))))))
     try simp only [Int.toNat_natCast] at ea37
     have e37 : ((i : Int) - 1).toNat = i - 1 := by omega
     rw [e37] at ea37;refine zV R3 (Val.load_trees (c := _) ⟨⟨_, rfl, rfl⟩, rfl, by decide⟩ rfl rfl) (zJ 3 [_,_,_] R7 (fun b8=>TO.store_row (p := 0) (cv := [_, _, _]) (cells' := [_, _, _]) rfl rfl rfl rfl rfl rfl rfl rfl rfl rfl (by first | rfl | simp [GS.one]) (by decide) rfl (zG (_::_::_::_::_::_::C) rfl (zN (zU rfl (zF 1 R6 (zL 4 R3 R6 (zF 1 R6 (zL 0 R3 R6 (TO.lss rfl rfl rfl rfl rfl (fun c43 hc43=>zM R4 ?_)))))))))));cases c43 with
     | true =>
      replace hc43 := btrue hc43;refine zO R3 (zO R3 (zO R3 (zO R3 (zO R3 (zO R3 (zO R3 (zO R3 (zO R3 (zO R3 (zO R3 (zO R3 (zO R3 (zO R3 (zO R3 (zP R6 (zN (zC rfl (zU rfl (zA R4 (zN (T.keep (s' := ⟨[], [(5, _)], _ :: C⟩) (sc (.cons _ (.cons _ (.cons _ (.cons _ (.cons _ (.cons_cons _ (.refl _)))))))) (zR ?_))))))))))))))))))))));exact ⟨rfl, _, rfl, congrArg iv (by first | (simp_all [chgErr, inR]; done) | (simp_all [chgErr, inR]; omega)), rfl⟩
     | false =>
      replace hc43 := bfalse hc43;refine zF 1 R6 (zL 4 R3 R6 (zF 1 R6 (zL 0 R3 R6 (TO.eql rfl rfl rfl rfl rfl (fun c49 hc49=>zM R4 ?_)))));cases c49 with
      | true =>
       replace hc49 := btrue hc49;refine zF 0 R6 (zL 4 R3 R6 (TO.neq rfl rfl rfl rfl rfl (fun c53 hc53=>zM R4 ?_)));cases c53 with
       | true =>
        replace hc53 := btrue hc53;refine zO R3 (zO R3 (zO R3 (zP R6 (zP R6 (zP R6 (zN (zC rfl (zU rfl (zA R4 (zN (T.keep (s' := ⟨[], [(5, _)], _ :: C⟩) (sc (.cons _ (.cons _ (.cons _ (.cons _ (.cons _ (.cons_cons _ (.refl _)))))))) (zR ?_))))))))))));exact ⟨rfl, _, rfl, congrArg iv (by first | (simp_all [chgErr, inR]; done) | (simp_all [chgErr, inR]; omega)), rfl⟩
       | false =>
        replace hc53 := bfalse hc53;refine zF 0 R6 (zL 0 R3 R6 (TO.eql rfl rfl rfl rfl rfl (fun c57 hc57=>zP R6 (zP R6 (zP R6 (zN ?_))))));cases c57 with
        | true =>
         replace hc57 := btrue hc57;refine zC rfl (zU rfl (zA R4 (zN (T.keep (s' := ⟨[], [(5, _)], _ :: C⟩) (sc (.cons _ (.cons _ (.cons _ (.cons _ (.cons _ (.cons_cons _ (.refl _)))))))) (zR ?_)))));exact ⟨rfl, _, rfl, congrArg iv (by first | (simp_all [chgErr, inR]; done) | (simp_all [chgErr, inR]; omega)), rfl⟩
        | false =>
         replace hc57 := bfalse hc57;refine zD rfl (zK (zU rfl (zA R4 (zN (T.keep (s' := ⟨[], [(5, _)], _ :: C⟩) (sc (.cons _ (.cons _ (.cons _ (.cons _ (.cons _ (.cons_cons _ (.refl _)))))))) (zR ?_))))));exact ⟨rfl, _, rfl, congrArg iv (by first | (simp_all [chgErr, inR]; done) | (simp_all [chgErr, inR]; omega)), rfl⟩
      | false =>
       replace hc49 := bfalse hc49;refine zO R3 (zO R3 (zO R3 (zO R3 (zO R3 (zO R3 (zO R3 (zO R3 (zP R6 (zP R6 (zN (zD rfl (zK (zU rfl (zA R4 (zN (T.keep (s' := ⟨[], [(5, _)], _ :: C⟩) (sc (.cons _ (.cons _ (.cons _ (.cons _ (.cons _ (.cons_cons _ (.refl _)))))))) (zR ?_)))))))))))))))));exact ⟨rfl, _, rfl, congrArg iv (by first | (simp_all [chgErr, inR]; done) | (simp_all [chgErr, inR]; omega)), rfl⟩
    | false =>
     replace hc32 := bfalse hc32
     have hi0 : i = 0 := by omega
     refine zD rfl (zK (zU rfl (zA R4 (zN (T.keep (s' := ⟨[], [(5, _)], _ :: C⟩) (sc (.cons _ (.cons _ (.cons _ (.cons _ (.cons_cons _ (.refl _))))))) (zR ?_))))));exact ⟨rfl, _, rfl, congrArg iv (by first | (simp_all [chgErr, inR]; done) | (simp_all [chgErr, inR]; omega)), rfl⟩
 | false =>
  replace hc6 := bfalse hc6;refine zD rfl (zU rfl (TO.eql rfl rfl rfl rfl rfl (fun c12 hc12=>zA R4 (zN ?_))));cases c12 with
  | true =>
   replace hc12 := btrue hc12;refine zC rfl (zU rfl (zF 1 R6 (zL 0 R3 R6 (zV R3 (Val.build (cs := [_]) (vs := [(_, _)]) rfl rfl rfl) (zV R3 (Val.makeIface rfl rfl rfl) (zA R4 (zN (zR ?_))))))));refine ⟨rfl, _, rfl, ?_⟩;refine zN (zB (zU rfl (zV R3 (Val.bin (r := bv false) rfl rfl (by kernel_rfl)) (zN (zD rfl (zU rfl (zV R3 (Val.assert_no rfl rfl rfl rfl rfl) (zX R5 (zX R5 (zN (zD rfl (zK (zS (zU rfl (zM R4 (zF 2 R6 (zL 2 R3 R6 (zF 1 R6 (zL 1 R3 R6 (TO.build1 (en := encI) (a := _) rfl rfl rfl ⟨rfl, rfl⟩ ⟨_, rfl, rfl⟩ (by decide) (by decide) rfl rfl (fun v20=>TO.callD rfl rfl rfl rfl rfl (orcL rfl aD) (.cons .lit (.cons .lit (.cons (.ownL (p := 0) rfl .ints) .nil))) (sem_of (q_out _ _ _ (by exact out1_small))) (fun c21 hc21=>?_))))))))))))))))))))));replace hc21 := out1 hc21;refine zM R4 ?_;cases c21 with
   | true =>
    replace hc21 := btrue hc21;refine zO R3 (zO R3 (zO R3 (zO R3 (zO R3 (zO R3 (zO R3 (zP R6 (zN (zC rfl (zU rfl (zA R4 (zN (T.keep (s' := ⟨[], [(5, _)], _ :: C⟩) (sc (.cons _ (.cons _ (.cons _ (.cons_cons _ (.refl _)))))) (zR ?_))))))))))))));exact ⟨rfl, _, rfl, congrArg iv (by first | (simp_all [chgErr, inR]; done) | (simp_all [chgErr, inR]; omega)), rfl⟩
   | false =>
    replace hc21 := bfalse hc21;refine zM R4 (TO.bmin rfl rfl rfl rfl rfl (zM R4 (zF 2 R6 (zL 2 R3 R6 (TO.build1 (en := encI) (a := _) rfl rfl rfl ⟨rfl, rfl⟩ ⟨_, rfl, rfl⟩ (by decide) (by decide) rfl rfl (fun v28=>TO.callD rfl rfl rfl rfl rfl (orcL rfl aD) (.cons .lit (.cons .lit (.cons (.ownL (p := 0) rfl .ints) .nil))) (sem_of (q_out _ _ _ (by exact out1_small))) (fun c29 hc29=>?_)))))));replace hc29 := out1 hc29;refine zP R6 (zN ?_);cases c29 with
    | true =>
     replace hc29 := btrue hc29;refine zC rfl (zU rfl (zA R4 (zN (T.keep (s' := ⟨[], [(5, _)], _ :: C⟩) (sc (.cons _ (.cons _ (.cons _ (.cons _ (.cons_cons _ (.refl _))))))) (zR ?_)))));exact ⟨rfl, _, rfl, congrArg iv (by first | (simp_all [chgErr, inR]; done) | (simp_all [chgErr, inR]; omega)), rfl⟩
    | false =>
     replace hc29 := bfalse hc29;refine zD rfl (zK (zS (zU rfl (zM R4 (TO.gtr rfl rfl rfl rfl rfl (fun c32 hc32=>zN ?_))))));cases c32 with
     | true =>
      replace hc32 := btrue hc32
      have hi0 : ¬ i = 0 := by omega
      refine zC rfl (zU rfl (zF 3 R6 (zL 4 R3 R6 (zM R4 (zV R3 (Val.sub rfl rfl aO) (TO.index_gs rfl rfl rfl ⟨rfl, rfl⟩ rfl rfl aO (fun a37 ra37 ea37=>?_)))))))
      try simp only [Int.toNat_natCast] at ea37
      have e37 : ((i : Int) - 1).toNat = i - 1 := by omega
      rw [e37] at ea37;refine zV R3 (Val.load_trees (c := _) ⟨⟨_, rfl, rfl⟩, rfl, by decide⟩ rfl rfl) (zJ 3 [_,_,_] R7 (fun b8=>TO.store_row (p := 0) (cv := [_, _, _]) (cells' := [_, _, _]) rfl rfl rfl rfl rfl rfl rfl rfl rfl rfl (by first | rfl | simp [GS.one]) (by decide) rfl (zG (_::_::_::_::_::_::C) rfl (zN (zU rfl (zF 1 R6 (zL 4 R3 R6 (zF 1 R6 (zL 0 R3 R6 (TO.lss rfl rfl rfl rfl rfl (fun c43 hc43=>zM R4 ?_)))))))))));cases c43 with
      | true =>
       replace hc43 := btrue hc43;refine zO R3 (zO R3 (zO R3 (zO R3 (zO R3 (zO R3 (zO R3 (zO R3 (zO R3 (zO R3 (zO R3 (zO R3 (zO R3 (zO R3 (zO R3 (zP R6 (zN (zC rfl (zU rfl (zA R4 (zN (T.keep (s' := ⟨[], [(5, _)], _ :: C⟩) (sc (.cons _ (.cons _ (.cons _ (.cons _ (.cons _ (.cons_cons _ (.refl _)))))))) (zR ?_))))))))))))))))))))));exact ⟨rfl, _, rfl, congrArg iv (by first | (simp_all [chgErr, inR]; done) | (simp_all [chgErr, inR]; omega)), rfl⟩
      | false =>
       replace hc43 := bfalse hc43;refine zF 1 R6 (zL 4 R3 R6 (zF 1 R6 (zL 0 R3 R6 (TO.eql rfl rfl rfl rfl rfl (fun c49 hc49=>zM R4 ?_)))));cases c49 with
       | true =>
        replace hc49 := btrue hc49;refine zF 0 R6 (zL 4 R3 R6 (TO.neq rfl rfl rfl rfl rfl (fun c53 hc53=>zM R4 ?_)));cases c53 with
        | true =>
         replace hc53 := btrue hc53;refine zO R3 (zO R3 (zO R3 (zP R6 (zP R6 (zP R6 (zN (zC rfl (zU rfl (zA R4 (zN (T.keep (s' := ⟨[], [(5, _)], _ :: C⟩) (sc (.cons _ (.cons _ (.cons _ (.cons _ (.cons _ (.cons_cons _ (.refl _)))))))) (zR ?_))))))))))));exact ⟨rfl, _, rfl, congrArg iv (by first | (simp_all [chgErr, inR]; done) | (simp_all [chgErr, inR]; omega)), rfl⟩
        | false =>
         replace hc53 := bfalse hc53;refine zF 0 R6 (zL 0 R3 R6 (TO.eql rfl rfl rfl rfl rfl (fun c57 hc57=>zP R6 (zP R6 (zP R6 (zN ?_))))));cases c57 with
         | true =>
          replace hc57 := btrue hc57;refine zC rfl (zU rfl (zA R4 (zN (T.keep (s' := ⟨[], [(5, _)], _ :: C⟩) (sc (.cons _ (.cons _ (.cons _ (.cons _ (.cons _ (.cons_cons _ (.refl _)))))))) (zR ?_)))));exact ⟨rfl, _, rfl, congrArg iv (by first | (simp_all [chgErr, inR]; done) | (simp_all [chgErr, inR]; omega)), rfl⟩
         | false =>
          replace hc57 := bfalse hc57;refine zD rfl (zK (zU rfl (zA R4 (zN (T.keep (s' := ⟨[], [(5, _)], _ :: C⟩) (sc (.cons _ (.cons _ (.cons _ (.cons _ (.cons _ (.cons_cons _ (.refl _)))))))) (zR ?_))))));exact ⟨rfl, _, rfl, congrArg iv (by first | (simp_all [chgErr, inR]; done) | (simp_all [chgErr, inR]; omega)), rfl⟩
       | false =>
        replace hc49 := bfalse hc49;refine zO R3 (zO R3 (zO R3 (zO R3 (zO R3 (zO R3 (zO R3 (zO R3 (zP R6 (zP R6 (zN (zD rfl (zK (zU rfl (zA R4 (zN (T.keep (s' := ⟨[], [(5, _)], _ :: C⟩) (sc (.cons _ (.cons _ (.cons _ (.cons _ (.cons _ (.cons_cons _ (.refl _)))))))) (zR ?_)))))))))))))))));exact ⟨rfl, _, rfl, congrArg iv (by first | (simp_all [chgErr, inR]; done) | (simp_all [chgErr, inR]; omega)), rfl⟩
     | false =>
      replace hc32 := bfalse hc32
      have hi0 : i = 0 := by omega
      refine zD rfl (zK (zU rfl (zA R4 (zN (T.keep (s' := ⟨[], [(5, _)], _ :: C⟩) (sc (.cons _ (.cons _ (.cons _ (.cons _ (.cons_cons _ (.refl _))))))) (zR ?_))))));exact ⟨rfl, _, rfl, congrArg iv (by first | (simp_all [chgErr, inR]; done) | (simp_all [chgErr, inR]; omega)), rfl⟩
  | false =>
   replace hc12 := bfalse hc12;refine zD rfl (zU rfl (TO.eql rfl rfl rfl rfl rfl (fun c18 hc18=>zA R4 (zN ?_))));cases c18 with
   | true =>
    replace hc18 := btrue hc18;refine zC rfl (zU rfl (zF 1 R6 (zL 0 R3 R6 (zF 2 R6 (zL 0 R3 R6 (zV R3 (Val.build (cs := [_, _]) (vs := [(_, _), (_, _)]) rfl rfl rfl) (zV R3 (Val.makeIface rfl rfl rfl) (zA R4 (zN (zR ?_))))))))));refine ⟨rfl, _, rfl, ?_⟩;refine zN (zB (zU rfl (zV R3 (Val.bin (r := bv false) rfl rfl (by kernel_rfl)) (zN (zD rfl (zU rfl (zV R3 (Val.assert_yes rfl rfl rfl rfl) (zX R5 (zX R5 (zN (zC rfl (zT rfl (zA R4 (zA R4 (zN (zS (zU rfl (zM R4 (zF 2 R6 (zL 2 R3 R6 (zF 1 R6 (zL 1 R3 R6 (TO.build1 (en := encI) (a := _) rfl rfl rfl ⟨rfl, rfl⟩ ⟨_, rfl, rfl⟩ (by decide) (by decide) rfl rfl (fun v20=>TO.callD rfl rfl rfl rfl rfl (orcL rfl aD) (.cons .lit (.cons .lit (.cons (.ownL (p := 0) rfl .ints) .nil))) (sem_of (q_out _ _ _ (by exact out1_small))) (fun c21 hc21=>?_)))))))))))))))))))))))));replace hc21 := out1 hc21;refine zM R4 ?_;cases c21 with
    | true =>
     replace hc21 := btrue hc21;refine zO R3 (zO R3 (zO R3 (zO R3 (zO R3 (zO R3 (zO R3 (zP R6 (zN (zC rfl (zU rfl (zA R4 (zN (T.keep (s' := ⟨[], [(5, _)], _ :: C⟩) (sc (.cons _ (.cons _ (.cons _ (.cons_cons _ (.refl _)))))) (zR ?_))))))))))))));exact ⟨rfl, _, rfl, congrArg iv (by first | (simp_all [chgErr, inR]; done) | (simp_all [chgErr, inR]; omega)), rfl⟩
    | false =>
     replace hc21 := bfalse hc21;refine zM R4 (TO.bmin rfl rfl rfl rfl rfl (zM R4 (zF 2 R6 (zL 2 R3 R6 (TO.build1 (en := encI) (a := _) rfl rfl rfl ⟨rfl, rfl⟩ ⟨_, rfl, rfl⟩ (by decide) (by decide) rfl rfl (fun v28=>TO.callD rfl rfl rfl rfl rfl (orcL rfl aD) (.cons .lit (.cons .lit (.cons (.ownL (p := 0) rfl .ints) .nil))) (sem_of (q_out _ _ _ (by exact out1_small))) (fun c29 hc29=>?_)))))));replace hc29 := out1 hc29;refine zP R6 (zN ?_);cases c29 with
     | true =>
      replace hc29 := btrue hc29;refine zC rfl (zU rfl (zA R4 (zN (T.keep (s' := ⟨[], [(5, _)], _ :: C⟩) (sc (.cons _ (.cons _ (.cons _ (.cons _ (.cons_cons _ (.refl _))))))) (zR ?_)))));exact ⟨rfl, _, rfl, congrArg iv (by first | (simp_all [chgErr, inR]; done) | (simp_all [chgErr, inR]; omega)), rfl⟩
     | false =>
      replace hc29 := bfalse hc29;refine zD rfl (zK (zS (zU rfl (zM R4 (TO.gtr rfl rfl rfl rfl rfl (fun c32 hc32=>zN ?_))))));cases c32 with
      | true =>
       replace hc32 := btrue hc32
       have hi0 : ¬ i = 0 := by omega
       refine zC rfl (zU rfl (zF 3 R6 (zL 4 R3 R6 (zM R4 (zV R3 (Val.sub rfl rfl aO) (TO.index_gs rfl rfl rfl ⟨rfl, rfl⟩ rfl rfl aO (fun a37 ra37 ea37=>?_)))))))
       try simp only [Int.toNat_natCast] at ea37
       have e37 : ((i : Int) - 1).toNat = i - 1 := by omega
       rw [e37] at ea37;refine zV R3 (Val.load_trees (c := _) ⟨⟨_, rfl, rfl⟩, rfl, by decide⟩ rfl rfl) (zJ 3 [_,_,_] R7 (fun b8=>TO.store_row (p := 0) (cv := [_, _, _]) (cells' := [_, _, _]) rfl rfl rfl rfl rfl rfl rfl rfl rfl rfl (by first | rfl | simp [GS.one]) (by decide) rfl (zG (_::_::_::_::_::_::C) rfl (zN (zU rfl (zF 1 R6 (zL 4 R3 R6 (zF 1 R6 (zL 0 R3 R6 (TO.lss rfl rfl rfl rfl rfl (fun c43 hc43=>zM R4 ?_)))))))))));cases c43 with
       | true =>
        replace hc43 := btrue hc43;refine zO R3 (zO R3 (zO R3 (zO R3 (zO R3 (zO R3 (zO R3 (zO R3 (zO R3 (zO R3 (zO R3 (zO R3 (zO R3 (zO R3 (zO R3 (zP R6 (zN (zC rfl (zU rfl (zA R4 (zN (T.keep (s' := ⟨[], [(5, _)], _ :: C⟩) (sc (.cons _ (.cons _ (.cons _ (.cons _ (.cons _ (.cons_cons _ (.refl _)))))))) (zR ?_))))))))))))))))))))));exact ⟨rfl, _, rfl, congrArg iv (by first | (simp_all [chgErr, inR]; done) | (simp_all [chgErr, inR]; omega)), rfl⟩
       | false =>
        replace hc43 := bfalse hc43;refine zF 1 R6 (zL 4 R3 R6 (zF 1 R6 (zL 0 R3 R6 (TO.eql rfl rfl rfl rfl rfl (fun c49 hc49=>zM R4 ?_)))));cases c49 with
        | true =>
         replace hc49 := btrue hc49;refine zF 0 R6 (zL 4 R3 R6 (TO.neq rfl rfl rfl rfl rfl (fun c53 hc53=>zM R4 ?_)));cases c53 with
         | true =>
          replace hc53 := btrue hc53;refine zO R3 (zO R3 (zO R3 (zP R6 (zP R6 (zP R6 (zN (zC rfl (zU rfl (zA R4 (zN (T.keep (s' := ⟨[], [(5, _)], _ :: C⟩) (sc (.cons _ (.cons _ (.cons _ (.cons _ (.cons _ (.cons_cons _ (.refl _)))))))) (zR ?_))))))))))));exact ⟨rfl, _, rfl, congrArg iv (by first | (simp_all [chgErr, inR]; done) | (simp_all [chgErr, inR]; omega)), rfl⟩
         | false =>
          replace hc53 := bfalse hc53;refine zF 0 R6 (zL 0 R3 R6 (TO.eql rfl rfl rfl rfl rfl (fun c57 hc57=>zP R6 (zP R6 (zP R6 (zN ?_))))));cases c57 with
          | true =>
           replace hc57 := btrue hc57;refine zC rfl (zU rfl (zA R4 (zN (T.keep (s' := ⟨[], [(5, _)], _ :: C⟩) (sc (.cons _ (.cons _ (.cons _ (.cons _ (.cons _ (.cons_cons _ (.refl _)))))))) (zR ?_)))));exact ⟨rfl, _, rfl, congrArg iv (by first | (simp_all [chgErr, inR]; done) | (simp_all [chgErr, inR]; omega)), rfl⟩
          | false =>
           replace hc57 := bfalse hc57;refine zD rfl (zK (zU rfl (zA R4 (zN (T.keep (s' := ⟨[], [(5, _)], _ :: C⟩) (sc (.cons _ (.cons _ (.cons _ (.cons _ (.cons _ (.cons_cons _ (.refl _)))))))) (zR ?_))))));exact ⟨rfl, _, rfl, congrArg iv (by first | (simp_all [chgErr, inR]; done) | (simp_all [chgErr, inR]; omega)), rfl⟩
        | false =>
         replace hc49 := bfalse hc49;refine zO R3 (zO R3 (zO R3 (zO R3 (zO R3 (zO R3 (zO R3 (zO R3 (zP R6 (zP R6 (zN (zD rfl (zK (zU rfl (zA R4 (zN (T.keep (s' := ⟨[], [(5, _)], _ :: C⟩) (sc (.cons _ (.cons _ (.cons _ (.cons _ (.cons _ (.cons_cons _ (.refl _)))))))) (zR ?_)))))))))))))))));exact ⟨rfl, _, rfl, congrArg iv (by first | (simp_all [chgErr, inR]; done) | (simp_all [chgErr, inR]; omega)), rfl⟩
      | false =>
       replace hc32 := bfalse hc32
       have hi0 : i = 0 := by omega
       refine zD rfl (zK (zU rfl (zA R4 (zN (T.keep (s' := ⟨[], [(5, _)], _ :: C⟩) (sc (.cons _ (.cons _ (.cons _ (.cons _ (.cons_cons _ (.refl _))))))) (zR ?_))))));exact ⟨rfl, _, rfl, congrArg iv (by first | (simp_all [chgErr, inR]; done) | (simp_all [chgErr, inR]; omega)), rfl⟩
   | false =>
    replace hc18 := bfalse hc18;refine zD rfl (zK (zU rfl (zA R4 (zN (zR ?_)))));refine ⟨rfl, _, rfl, ?_⟩;refine zN (zB (zU rfl (zV R3 (Val.bin (r := bv true) rfl rfl (by kernel_rfl)) (zN (zC rfl (zU rfl (zA R4 (zN (T.keep (s' := ⟨[], [(5, _)], _ :: C⟩) (sc (.cons _ (.cons _ (.cons_cons _ (.refl _))))) (zR ?_))))))))));exact ⟨rfl, _, rfl, congrArg iv (by first | (simp_all [chgErr, inR]; done) | (simp_all [chgErr, inR]; omega)), rfl⟩
theorem q_chgs {k bg : Nat} (hk : 1 ≤ k) (g : Gat) (C : List Thing) (hb : g.ch.l.length ≤ 4) :
  TF (EL k) 79 [g.ch.v, .func 80 [] [.ptr bg 0 4]] (.row bg 4 [iv g.round, iv g.letter, iv g.leaves, g.ch.v] :: C) fun v hs' => ∃ i0, v = .tuple [iv i0, iv (chgsErr g.leaves none g.ch.l)] ∧ hs' = .row bg 4 [iv g.round, iv g.letter, iv g.leaves, g.ch.v] :: C := by
 refine TF.enter (fn := Go.Proofs.Try.f79) rfl rfl rfl rfl rfl (zU rfl (zA R4 (zA R4 (zN (zS (zU rfl (zM R4 (zV R3 (Val.len_gs rfl rfl) (zM R4 (zN (zB (T.loop (fun μ s => ∃ i : Nat, ∃ j : Int, μ = g.ch.l.length - i ∧ j = i ∧ i ≤ g.ch.l.length ∧ chgsErr g.leaves none g.ch.l = chgsErr g.leaves (if i = 0 then none else g.ch.l[i - 1]?) (g.ch.l.drop i) ∧ s = ⟨[], [(1, .func 80 [] [.ptr bg 0 4]), (9, g.ch.v), (10, iv (g.ch.l.length : Int)), (11, iv j)], (.row bg 4 [iv g.round, iv g.letter, iv g.leaves, g.ch.v]) :: C⟩) (k := _) (s' := _) ⟨0, 0, rfl, (by first | rfl | omega | (simp; done) | (simp; omega) | simp_all), (by first | rfl | omega | (simp; done) | (simp; omega) | simp_all), (by rfl), rfl⟩ ⟨rfl, (keep_cons rfl (keep_cons rfl (keep_cons rfl (keep_cons rfl keep_nil)))), (.cons_cons _ (.refl _))⟩ ?_))))))))))));rintro μ _ ⟨i, j, hk0, hj, hi, he, rfl⟩;subst hj;refine zU rfl (TO.lss rfl rfl rfl rfl rfl (fun c12 hc12=>zN (zS ?_)));cases c12 with
 | true =>
  replace hc12 := btrue hc12;refine zC rfl (zK (zS (zB (zU rfl (zM R4 (TO.index_gs rfl rfl rfl ⟨rfl, rfl⟩ rfl rfl aO (fun c rc ec=>?_)))))))
  try simp only [Int.toNat_natCast] at ec
  refine zV R3 (Val.load_trees (c := _) ⟨⟨_, rfl, rfl⟩, rfl, by decide⟩ rfl rfl) (zJ 3 [_,_,_] R7 (fun b7=>zA R4 (TO.store_row (p := 0) (cv := [_, _, _]) (cells' := [_, _, _]) rfl rfl rfl rfl rfl rfl rfl rfl rfl rfl (by first | rfl | simp [GS.one]) (by decide) rfl (zG (_::_::C) rfl (zN (zU rfl (zM R4 (zM R4 (zV R3 (vW 0 [_,_,_] R5 R4) (TO.pick (p := 1) rfl (zG (_::_::C) rfl (TO.callV rfl rfl rfl rfl rfl rfl (orcN rfl) (q_chg hk g i c _ ec hb) ?_))))))))))));rintro _ _ ⟨rfl, rfl⟩;generalize hE : chgErr g.leaves c (if i = 0 then none else g.ch.l[i - 1]?) = E19;refine zG (_::_::C) rfl (zA R4 (zN (zU rfl (zM R4 (TO.neq rfl rfl rfl rfl rfl (fun c21 hc21=>zN ?_))))));cases c21 with
  | true =>
   replace hc21 := btrue hc21
   have hce : chgsErr g.leaves none g.ch.l = E19 := by rw [he, drop_cons ec, chgsErr, hE, if_pos hc21]
   refine zC rfl (zU rfl (zM R4 (zM R4 (zA R4 (zA R4 (zN (T.keep (s' := ⟨[], [(4, _), (5, _)], _ :: C⟩) (sc (.cons_cons _ (.cons _ (.refl _)))) (zR ?_))))))));exact ⟨rfl, _, rfl, _, congrArg (fun x => AV.tuple [_, iv x]) hce.symm, rfl⟩
  | false =>
   replace hc21 := bfalse hc21
   have hce : chgsErr g.leaves none g.ch.l = chgsErr g.leaves (some c) (g.ch.l.drop (i + 1)) := by rw [he, drop_cons ec, chgsErr, hE, if_neg hc21]
   refine zD rfl (zK (zT rfl (zV R3 (Val.add rfl rfl aO) (zM R4 (zN ?_)))));refine ⟨_, _, aO, ⟨i + 1, _, rfl, (by first | omega | simp_all), (by first | omega | simp_all), (by rw [hce]; simp [ec]), rfl⟩, ⟨rfl, (keep_cons rfl (keep_cons rfl (keep_cons rfl (keep_cons rfl keep_nil)))), (.cons_cons _ (.cons _ (.refl _)))⟩⟩
 | false =>
  replace hc12 := bfalse hc12;obtain rfl : i = g.ch.l.length := by omega
  rw [List.drop_length, chgsErr] at he;refine zD rfl (zE (zU rfl (zA R4 (zA R4 (zN (T.keep (s' := ⟨[], [(4, _), (5, _)], _ :: C⟩) (sc (.cons_cons _ (.refl _))) (zR ?_)))))));exact ⟨rfl, _, rfl, _, congrArg (fun x => AV.tuple [_, iv x]) he.symm, rfl⟩
theorem q_gat {k bm bl mid : Nat} (hk : 2 ≤ k) (g : Gat) (i : Nat) (before : List Gat) (f : Value → Int) (lr ll : Int) (C : List Thing) (hb : before.length ≤ 30) (hm : MetOk before f) (hl : LastOk before ⟨lr, ll⟩) :
  TF (EL k) 75 [iv (i : Int), .agg (encG.f g), .ptr bm 0 1, .ptr bl 0 2] (.row bm 1 [.map mid] :: .cnt mid KPair f [] :: .row bl 2 [iv lr, iv ll] :: C) fun v hs' => ∃ f' lr' ll', v = iv (gathErr before g) ∧
   hs' = .row bm 1 [.map mid] :: .cnt mid KPair f' [] :: .row bl 2 [iv lr', iv ll'] :: C ∧ (gathErr before g = 0 → MetOk (before ++ [g]) f' ∧ LastOk (before ++ [g]) ⟨lr', ll'⟩) := by
 have hle : 0 ≤ f (.agg #[.int .i64 g.round, .int .i64 g.letter]) ∧ f (.agg #[.int .i64 g.round, .int .i64 g.letter]) ≤ before.length := hm.le g.sig
 have hpos : 0 < f (.agg #[.int .i64 g.round, .int .i64 g.letter]) ↔ ∃ x ∈ before, x.sig = g.sig := hm.pos g
 have hmet : MetOk _ (cput f (.agg #[.int .i64 g.round, .int .i64 g.letter]) (f (.agg #[.int .i64 g.round, .int .i64 g.letter]) + 1)) := hm.snoc g;refine TF.enter (fn := Go.Proofs.Try.f75) rfl rfl rfl rfl rfl (zU rfl (zQ 4 [_,_,_,_] R7 (fun b5=>zA R4 (zN (zS (T.drawE (l1 := [0, 1, 2, 3, 4]) (l2 := [5, 6, 7]) (by kernel_rfl) (by kernel_rfl) (yR R4 (vR (p := 1) R6) (yL R4 (Val.faddr_ptr (fo := 0) rfl rfl rfl) (yR R4 (vW 0 [_,_] R5 R4) (yR R4 (Val.lookup (p := 2) rfl rfl key_ty96 rfl rfl rfl rfl ⟨_, _, rfl⟩) (yL R4 (Val.add rfl rfl aO) (TD1.over (fun v => sameC_refl v) (all_cons (⟨_, rfl, (Val.lookup (p := 2) rfl rfl key_ty96 rfl rfl rfl rfl ⟨_, _, rfl⟩)⟩) (all_cons (⟨_, rfl, (vW 0 [_,_] R5 R4)⟩) (all_cons (⟨_, rfl, (vR (p := 1) R6)⟩) all_nil))) (TD2.heavy (fun v => sameC_refl v) rfl (by decide) rfl rfl (OpS.eff (Eff.mapEntry (p := 2) rfl rfl key_ty96 rfl rfl rfl rfl ⟨_, _, rfl⟩)) ?_)))))))))))));rintro _ _ ⟨e14, rfl, rfl⟩;refine ⟨(all_cons (.inr ⟨_, rfl, (Val.lookup (p := 2) rfl rfl key_ty96 rfl rfl rfl rfl ⟨_, _, rfl⟩)⟩) (all_cons (.inl (by kernel_rfl)) (all_cons (.inl (by kernel_rfl)) all_nil))), all_nil, ?_⟩;refine yG (_::_::_::_::C) rfl (yM R4 (Val.extract rfl rfl) (TD2.heavy (fun v => sameC_refl v) rfl (by decide) rfl rfl (OpS.eff (Eff.entryStore (p := 2) rfl List.mem_cons_self rfl rfl rfl)) ?_));rintro _ _ rfl;refine ⟨(all_cons (.inl (by kernel_rfl)) (all_cons (.inl (by kernel_rfl)) (all_cons (.inl (by kernel_rfl)) all_nil))), all_nil, ?_⟩;refine yG (_::_::_::_::C) rfl (TD2.nil (zS (zB (zU rfl (zF 0 R6 (zV R3 (vW 0 [_,_] R5 R4) (TO.callD rfl rfl rfl rfl rfl (orcL rfl aD) (.cons (.agg (.cons .lit (.cons .lit .nil))) .nil) (sem_of (q_none g.sig )) (fun c19 hc19=>zA R4 (zN ?_)))))))));cases c19 with
 | true =>
  replace hc19 := btrue hc19;refine zC rfl (zU rfl (zA R4 (zN (T.keep (s' := ⟨[], [(6, _)], _ :: _ :: _ :: C⟩) (sc (.cons _ (.cons_cons _ (.cons_cons _ (.cons_cons _ (.refl _)))))) (zR ?_)))))
  have hv : gathErr before g = 7 := by unfold gathErr; (repeat' split) <;> first | rfl | (exfalso; simp_all; done) | (exfalso; simp_all [inR]; omega) | simp_all [inR]
  exact ⟨rfl, _, rfl, _, _, _, congrArg iv hv.symm, rfl, fun h0 => aO⟩
 | false =>
  replace hc19 := bfalse hc19
  have hs : sigOk g.sig := Classical.not_not.1 hc19;refine zD rfl (zU rfl (zL 1 R3 R6 (zF 0 R6 (zV R3 (vW 0 [_,_] R5 R4) (zV R3 (Val.lookup (p := 2) rfl rfl key_ty96 rfl rfl rfl rfl ⟨_, _, rfl⟩) (TO.gtr rfl rfl rfl rfl rfl (fun c25 hc25=>?_)))))));replace hc25 := hc25.trans (hm.twice g);refine zA R4 (zN ?_);cases c25 with
  | true =>
   replace hc25 := btrue hc25;refine zC rfl (zU rfl (zA R4 (zN (T.keep (s' := ⟨[], [(6, _)], _ :: _ :: _ :: C⟩) (sc (.cons _ (.cons_cons _ (.cons_cons _ (.cons_cons _ (.refl _)))))) (zR ?_)))))
   have hv : gathErr before g = 5 := by unfold gathErr; (repeat' split) <;> first | rfl | (exfalso; simp_all; done) | (exfalso; simp_all [inR]; omega) | simp_all [inR]
   exact ⟨rfl, _, rfl, _, _, _, congrArg iv hv.symm, rfl, fun h0 => aO⟩
  | false =>
   replace hc25 := bfalse hc25;refine zD rfl (zU rfl (zF 0 R6 (zV R3 (vW 0 [_,_] R5 R4) (TO.callD rfl rfl rfl rfl rfl (orcL rfl aD) (.cons (.agg (.cons .lit (.cons .lit .nil))) .nil) (sem_of (q_lettered g.sig )) (fun c29 hc29=>zM R4 ?_)))));cases c29 with
   | true =>
    replace hc29 := btrue hc29;refine zF 0 R6 (zV R3 (vW 0 [_,_] R5 R4) (zV R3 (vW 3 [_,_] R5 R4) (TO.callD rfl rfl rfl rfl rfl (orcL rfl aD) (.cons (.agg (.cons .lit (.cons .lit .nil))) (.cons (.agg (.cons .lit (.cons .lit .nil))) .nil)) (sem_of (q_before g.sig ⟨lr, ll⟩ )) (fun c34 hc34=>?_))));replace hc34 := hc34.trans (hl.before hs hc29);refine zP R6 (zA R4 (zN ?_));cases c34 with
    | true =>
     replace hc34 := btrue hc34;refine zC rfl (zU rfl (zA R4 (zN (T.keep (s' := ⟨[], [(6, _)], _ :: _ :: _ :: C⟩) (sc (.cons _ (.cons_cons _ (.cons_cons _ (.cons_cons _ (.refl _)))))) (zR ?_)))))
     have hv : gathErr before g = 2 := by unfold gathErr; (repeat' split) <;> first | rfl | (exfalso; simp_all; done) | (exfalso; simp_all [inR]; omega) | simp_all [inR]
     exact ⟨rfl, _, rfl, _, _, _, congrArg iv hv.symm, rfl, fun h0 => aO⟩
    | false =>
     replace hc34 := bfalse hc34
     have hrk := hc34;refine zD rfl (zU rfl (zF 2 R6 (zL 0 R3 R6 (TO.neq rfl rfl rfl rfl rfl (fun c39 hc39=>zM R4 ?_)))));cases c39 with
     | true =>
      replace hc39 := btrue hc39;refine zF 2 R6 (zL 0 R3 R6 (TO.build1 (en := encI) (a := _) rfl rfl rfl ⟨rfl, rfl⟩ ⟨_, rfl, rfl⟩ (by decide) (by decide) rfl rfl (fun v43=>TO.callD rfl rfl rfl rfl rfl (orcL rfl aD) (.cons .lit (.cons .lit (.cons (.ownL (p := 0) rfl .ints) .nil))) (sem_of (q_out _ _ _ (by exact out1_small))) (fun c44 hc44=>?_))));replace hc44 := out1 hc44;refine zM R4 ?_;cases c44 with
      | true =>
       replace hc44 := btrue hc44;refine zO R3 (zO R3 (zO R3 (zO R3 (zP R6 (zP R6 (zA R4 (zN (zC rfl (zU rfl (zA R4 (zN (T.keep (s' := ⟨[], [(6, _)], _ :: _ :: _ :: C⟩) (sc (.cons _ (.cons _ (.cons_cons _ (.cons_cons _ (.cons_cons _ (.refl _))))))) (zR ?_)))))))))))))
       have hv : gathErr before g = 7 := by unfold gathErr; (repeat' split) <;> first | rfl | (exfalso; simp_all; done) | (exfalso; simp_all [inR]; omega) | simp_all [inR]
       exact ⟨rfl, _, rfl, _, _, _, congrArg iv hv.symm, rfl, fun h0 => aO⟩
      | false =>
       replace hc44 := bfalse hc44;refine zF 2 R6 (zL 1 R3 R6 (zV R3 (Val.rem rfl rfl aO) (TO.eql rfl rfl rfl rfl rfl (fun c49 hc49=>zP R6 (zP R6 (zA R4 (zN ?_)))))));cases c49 with
       | true =>
        replace hc49 := btrue hc49;refine zC rfl (zU rfl (zA R4 (zN (T.keep (s' := ⟨[], [(6, _)], _ :: _ :: _ :: C⟩) (sc (.cons _ (.cons _ (.cons_cons _ (.cons_cons _ (.cons_cons _ (.refl _))))))) (zR ?_)))))
        have hv : gathErr before g = 7 := by unfold gathErr; (repeat' split) <;> first | rfl | (exfalso; simp_all; done) | (exfalso; simp_all [inR]; omega) | simp_all [inR]
        exact ⟨rfl, _, rfl, _, _, _, congrArg iv hv.symm, rfl, fun h0 => aO⟩
       | false =>
        replace hc49 := bfalse hc49;refine zD rfl (zU rfl (zF 3 R6 (zL 1 R3 R6 (zV R3 (Val.len_gs rfl rfl) (TO.gtr rfl rfl rfl rfl rfl (fun c56 hc56=>zA R4 (zN ?_)))))));cases c56 with
        | true =>
         replace hc56 := btrue hc56;refine zC rfl (zU rfl (zA R4 (zN (T.keep (s' := ⟨[], [(6, _)], _ :: _ :: _ :: C⟩) (sc (.cons _ (.cons _ (.cons_cons _ (.cons_cons _ (.cons_cons _ (.refl _))))))) (zR ?_)))))
         have hv : gathErr before g = 3 := by unfold gathErr; (repeat' split) <;> first | rfl | (exfalso; simp_all; done) | (exfalso; simp_all [inR]; omega) | simp_all [inR]
         exact ⟨rfl, _, rfl, _, _, _, congrArg iv hv.symm, rfl, fun h0 => aO⟩
        | false =>
         replace hc56 := bfalse hc56;refine zD rfl (zK (zS (zU rfl (zF 0 R6 (zV R3 (vW 1 [_,_] R5 R4) (TO.callD rfl rfl rfl rfl rfl (orcL rfl aD) (.cons (.agg (.cons .lit (.cons .lit .nil))) .nil) (sem_of (q_lettered g.sig )) (fun c59 hc59=>zN ?_)))))));cases c59 with
         | true =>
          replace hc59 := btrue hc59;refine zC rfl (zT rfl (zF 0 R6 (zV R3 (vW 1 [_,_] R5 R4) (TO.store_row (p := 4) (cv := [_, _]) (cells' := [_, _]) rfl rfl rfl rfl rfl rfl rfl rfl rfl rfl (by first | rfl | simp [GS.one]) (by decide) rfl (zG (_::_::_::_::_::C) rfl (zN (zU rfl (zF 3 R6 (zL 1 R3 R6 (zV R3 (Val.makeFunc rfl rfl) (TO.pick (p := 1) rfl (zG (_::_::_::_::_::C) rfl (TO.callV rfl rfl rfl rfl rfl rfl (orcN rfl) (q_chgs aO g _ aO) ?_)))))))))))));rintro _ _ ⟨i0, rfl, rfl⟩;refine zG (_::_::_::_::_::C) rfl (zM R4 (zX R5 (zX R5 (zA R4 (zA R4 (zN (zU rfl (zM R4 (zA R4 (zN (T.keep (s' := ⟨[], [(6, _)], _ :: _ :: _ :: C⟩) (sc (.cons _ (.cons _ (.cons_cons _ (.cons_cons _ (.cons_cons _ (.refl _))))))) (zR ?_))))))))))))
          have hv : gathErr before g = chgsErr g.leaves none g.ch.l := by unfold gathErr; (repeat' split) <;> first | rfl | (exfalso; simp_all; done) | (exfalso; simp_all [inR]; omega) | simp_all [inR]
          exact ⟨rfl, _, rfl, _, _, _, congrArg iv hv.symm, rfl, fun h0 => (by first | exact ⟨hmet, hl.snoc hs hc59 hrk⟩ | exact ⟨hmet, hl.same hc59⟩)⟩
         | false =>
          replace hc59 := bfalse hc59;refine zD rfl (zK (zU rfl (zF 3 R6 (zL 1 R3 R6 (zV R3 (Val.makeFunc rfl rfl) (TO.pick (p := 1) rfl (zG (_::_::_::_::_::C) rfl (TO.callV rfl rfl rfl rfl rfl rfl (orcN rfl) (q_chgs aO g _ aO) ?_))))))));rintro _ _ ⟨i0, rfl, rfl⟩;refine zG (_::_::_::_::_::C) rfl (zM R4 (zX R5 (zX R5 (zA R4 (zA R4 (zN (zU rfl (zM R4 (zA R4 (zN (T.keep (s' := ⟨[], [(6, _)], _ :: _ :: _ :: C⟩) (sc (.cons _ (.cons _ (.cons_cons _ (.cons_cons _ (.cons_cons _ (.refl _))))))) (zR ?_))))))))))))
          have hv : gathErr before g = chgsErr g.leaves none g.ch.l := by unfold gathErr; (repeat' split) <;> first | rfl | (exfalso; simp_all; done) | (exfalso; simp_all [inR]; omega) | simp_all [inR]
          exact ⟨rfl, _, rfl, _, _, _, congrArg iv hv.symm, rfl, fun h0 => (by first | exact ⟨hmet, hl.snoc hs hc59 hrk⟩ | exact ⟨hmet, hl.same hc59⟩)⟩
     | false =>
      replace hc39 := bfalse hc39;refine zO R3 (zO R3 (zO R3 (zO R3 (zO R3 (zO R3 (zO R3 (zO R3 (zO R3 (zO R3 (zP R6 (zA R4 (zN (zD rfl (zU rfl (zF 3 R6 (zL 0 R3 R6 (zV R3 (Val.len_gs rfl rfl) (TO.gtr rfl rfl rfl rfl rfl (fun c56 hc56=>zA R4 (zN ?_))))))))))))))))))));cases c56 with
      | true =>
       replace hc56 := btrue hc56;refine zC rfl (zU rfl (zA R4 (zN (T.keep (s' := ⟨[], [(6, _)], _ :: _ :: _ :: C⟩) (sc (.cons _ (.cons_cons _ (.cons_cons _ (.cons_cons _ (.refl _)))))) (zR ?_)))))
       have hv : gathErr before g = 3 := by unfold gathErr; (repeat' split) <;> first | rfl | (exfalso; simp_all; done) | (exfalso; simp_all [inR]; omega) | simp_all [inR]
       exact ⟨rfl, _, rfl, _, _, _, congrArg iv hv.symm, rfl, fun h0 => aO⟩
      | false =>
       replace hc56 := bfalse hc56;refine zD rfl (zK (zS (zU rfl (zF 0 R6 (zV R3 (vW 0 [_,_] R5 R4) (TO.callD rfl rfl rfl rfl rfl (orcL rfl aD) (.cons (.agg (.cons .lit (.cons .lit .nil))) .nil) (sem_of (q_lettered g.sig )) (fun c59 hc59=>zN ?_)))))));cases c59 with
       | true =>
        replace hc59 := btrue hc59;refine zC rfl (zT rfl (zF 0 R6 (zV R3 (vW 0 [_,_] R5 R4) (TO.store_row (p := 3) (cv := [_, _]) (cells' := [_, _]) rfl rfl rfl rfl rfl rfl rfl rfl rfl rfl (by first | rfl | simp [GS.one]) (by decide) rfl (zG (_::_::_::_::C) rfl (zN (zU rfl (zF 3 R6 (zL 0 R3 R6 (zV R3 (Val.makeFunc rfl rfl) (TO.callV rfl rfl rfl rfl rfl rfl (orcN rfl) (q_chgs aO g _ aO) ?_)))))))))));rintro _ _ ⟨i0, rfl, rfl⟩;refine zG (_::_::_::_::C) rfl (zM R4 (zX R5 (zX R5 (zA R4 (zA R4 (zN (zU rfl (zM R4 (zA R4 (zN (T.keep (s' := ⟨[], [(6, _)], _ :: _ :: _ :: C⟩) (sc (.cons _ (.cons_cons _ (.cons_cons _ (.cons_cons _ (.refl _)))))) (zR ?_))))))))))))
        have hv : gathErr before g = chgsErr g.leaves none g.ch.l := by unfold gathErr; (repeat' split) <;> first | rfl | (exfalso; simp_all; done) | (exfalso; simp_all [inR]; omega) | simp_all [inR]
        exact ⟨rfl, _, rfl, _, _, _, congrArg iv hv.symm, rfl, fun h0 => (by first | exact ⟨hmet, hl.snoc hs hc59 hrk⟩ | exact ⟨hmet, hl.same hc59⟩)⟩
       | false =>
        replace hc59 := bfalse hc59;refine zD rfl (zK (zU rfl (zF 3 R6 (zL 0 R3 R6 (zV R3 (Val.makeFunc rfl rfl) (TO.callV rfl rfl rfl rfl rfl rfl (orcN rfl) (q_chgs aO g _ aO) ?_))))));rintro _ _ ⟨i0, rfl, rfl⟩;refine zG (_::_::_::_::C) rfl (zM R4 (zX R5 (zX R5 (zA R4 (zA R4 (zN (zU rfl (zM R4 (zA R4 (zN (T.keep (s' := ⟨[], [(6, _)], _ :: _ :: _ :: C⟩) (sc (.cons _ (.cons_cons _ (.cons_cons _ (.cons_cons _ (.refl _)))))) (zR ?_))))))))))))
        have hv : gathErr before g = chgsErr g.leaves none g.ch.l := by unfold gathErr; (repeat' split) <;> first | rfl | (exfalso; simp_all; done) | (exfalso; simp_all [inR]; omega) | simp_all [inR]
        exact ⟨rfl, _, rfl, _, _, _, congrArg iv hv.symm, rfl, fun h0 => (by first | exact ⟨hmet, hl.snoc hs hc59 hrk⟩ | exact ⟨hmet, hl.same hc59⟩)⟩
   | false =>
    replace hc29 := bfalse hc29
    have hrk : ¬ (rank g.sig ≥ 0 ∧ rank g.sig < lastRank before) := by rw [rank_neg hc29]; omega
    refine zO R3 (zO R3 (zO R3 (zO R3 (zP R6 (zA R4 (zN (zD rfl (zU rfl (zF 2 R6 (zL 0 R3 R6 (TO.neq rfl rfl rfl rfl rfl (fun c39 hc39=>zM R4 ?_))))))))))));cases c39 with
    | true =>
     replace hc39 := btrue hc39;refine zF 2 R6 (zL 0 R3 R6 (TO.build1 (en := encI) (a := _) rfl rfl rfl ⟨rfl, rfl⟩ ⟨_, rfl, rfl⟩ (by decide) (by decide) rfl rfl (fun v43=>TO.callD rfl rfl rfl rfl rfl (orcL rfl aD) (.cons .lit (.cons .lit (.cons (.ownL (p := 0) rfl .ints) .nil))) (sem_of (q_out _ _ _ (by exact out1_small))) (fun c44 hc44=>?_))));replace hc44 := out1 hc44;refine zM R4 ?_;cases c44 with
     | true =>
      replace hc44 := btrue hc44;refine zO R3 (zO R3 (zO R3 (zO R3 (zP R6 (zP R6 (zA R4 (zN (zC rfl (zU rfl (zA R4 (zN (T.keep (s' := ⟨[], [(6, _)], _ :: _ :: _ :: C⟩) (sc (.cons _ (.cons _ (.cons_cons _ (.cons_cons _ (.cons_cons _ (.refl _))))))) (zR ?_)))))))))))))
      have hv : gathErr before g = 7 := by unfold gathErr; (repeat' split) <;> first | rfl | (exfalso; simp_all; done) | (exfalso; simp_all [inR]; omega) | simp_all [inR]
      exact ⟨rfl, _, rfl, _, _, _, congrArg iv hv.symm, rfl, fun h0 => aO⟩
     | false =>
      replace hc44 := bfalse hc44;refine zF 2 R6 (zL 1 R3 R6 (zV R3 (Val.rem rfl rfl aO) (TO.eql rfl rfl rfl rfl rfl (fun c49 hc49=>zP R6 (zP R6 (zA R4 (zN ?_)))))));cases c49 with
      | true =>
       replace hc49 := btrue hc49;refine zC rfl (zU rfl (zA R4 (zN (T.keep (s' := ⟨[], [(6, _)], _ :: _ :: _ :: C⟩) (sc (.cons _ (.cons _ (.cons_cons _ (.cons_cons _ (.cons_cons _ (.refl _))))))) (zR ?_)))))
       have hv : gathErr before g = 7 := by unfold gathErr; (repeat' split) <;> first | rfl | (exfalso; simp_all; done) | (exfalso; simp_all [inR]; omega) | simp_all [inR]
       exact ⟨rfl, _, rfl, _, _, _, congrArg iv hv.symm, rfl, fun h0 => aO⟩
      | false =>
       replace hc49 := bfalse hc49;refine zD rfl (zU rfl (zF 3 R6 (zL 1 R3 R6 (zV R3 (Val.len_gs rfl rfl) (TO.gtr rfl rfl rfl rfl rfl (fun c56 hc56=>zA R4 (zN ?_)))))));cases c56 with
       | true =>
        replace hc56 := btrue hc56;refine zC rfl (zU rfl (zA R4 (zN (T.keep (s' := ⟨[], [(6, _)], _ :: _ :: _ :: C⟩) (sc (.cons _ (.cons _ (.cons_cons _ (.cons_cons _ (.cons_cons _ (.refl _))))))) (zR ?_)))))
        have hv : gathErr before g = 3 := by unfold gathErr; (repeat' split) <;> first | rfl | (exfalso; simp_all; done) | (exfalso; simp_all [inR]; omega) | simp_all [inR]
        exact ⟨rfl, _, rfl, _, _, _, congrArg iv hv.symm, rfl, fun h0 => aO⟩
       | false =>
        replace hc56 := bfalse hc56;refine zD rfl (zK (zS (zU rfl (zF 0 R6 (zV R3 (vW 1 [_,_] R5 R4) (TO.callD rfl rfl rfl rfl rfl (orcL rfl aD) (.cons (.agg (.cons .lit (.cons .lit .nil))) .nil) (sem_of (q_lettered g.sig )) (fun c59 hc59=>zN ?_)))))));cases c59 with
        | true =>
         replace hc59 := btrue hc59;refine zC rfl (zT rfl (zF 0 R6 (zV R3 (vW 1 [_,_] R5 R4) (TO.store_row (p := 4) (cv := [_, _]) (cells' := [_, _]) rfl rfl rfl rfl rfl rfl rfl rfl rfl rfl (by first | rfl | simp [GS.one]) (by decide) rfl (zG (_::_::_::_::_::C) rfl (zN (zU rfl (zF 3 R6 (zL 1 R3 R6 (zV R3 (Val.makeFunc rfl rfl) (TO.pick (p := 1) rfl (zG (_::_::_::_::_::C) rfl (TO.callV rfl rfl rfl rfl rfl rfl (orcN rfl) (q_chgs aO g _ aO) ?_)))))))))))));rintro _ _ ⟨i0, rfl, rfl⟩;refine zG (_::_::_::_::_::C) rfl (zM R4 (zX R5 (zX R5 (zA R4 (zA R4 (zN (zU rfl (zM R4 (zA R4 (zN (T.keep (s' := ⟨[], [(6, _)], _ :: _ :: _ :: C⟩) (sc (.cons _ (.cons _ (.cons_cons _ (.cons_cons _ (.cons_cons _ (.refl _))))))) (zR ?_))))))))))))
         have hv : gathErr before g = chgsErr g.leaves none g.ch.l := by unfold gathErr; (repeat' split) <;> first | rfl | (exfalso; simp_all; done) | (exfalso; simp_all [inR]; omega) | simp_all [inR]
         exact ⟨rfl, _, rfl, _, _, _, congrArg iv hv.symm, rfl, fun h0 => (by first | exact ⟨hmet, hl.snoc hs hc59 hrk⟩ | exact ⟨hmet, hl.same hc59⟩)⟩
        | false =>
         replace hc59 := bfalse hc59;refine zD rfl (zK (zU rfl (zF 3 R6 (zL 1 R3 R6 (zV R3 (Val.makeFunc rfl rfl) (TO.pick (p := 1) rfl (zG (_::_::_::_::_::C) rfl (TO.callV rfl rfl rfl rfl rfl rfl (orcN rfl) (q_chgs aO g _ aO) ?_))))))));rintro _ _ ⟨i0, rfl, rfl⟩;refine zG (_::_::_::_::_::C) rfl (zM R4 (zX R5 (zX R5 (zA R4 (zA R4 (zN (zU rfl (zM R4 (zA R4 (zN (T.keep (s' := ⟨[], [(6, _)], _ :: _ :: _ :: C⟩) (sc (.cons _ (.cons _ (.cons_cons _ (.cons_cons _ (.cons_cons _ (.refl _))))))) (zR ?_))))))))))))
         have hv : gathErr before g = chgsErr g.leaves none g.ch.l := by unfold gathErr; (repeat' split) <;> first | rfl | (exfalso; simp_all; done) | (exfalso; simp_all [inR]; omega) | simp_all [inR]
         exact ⟨rfl, _, rfl, _, _, _, congrArg iv hv.symm, rfl, fun h0 => (by first | exact ⟨hmet, hl.snoc hs hc59 hrk⟩ | exact ⟨hmet, hl.same hc59⟩)⟩
    | false =>
     replace hc39 := bfalse hc39;refine zO R3 (zO R3 (zO R3 (zO R3 (zO R3 (zO R3 (zO R3 (zO R3 (zO R3 (zO R3 (zP R6 (zA R4 (zN (zD rfl (zU rfl (zF 3 R6 (zL 0 R3 R6 (zV R3 (Val.len_gs rfl rfl) (TO.gtr rfl rfl rfl rfl rfl (fun c56 hc56=>zA R4 (zN ?_))))))))))))))))))));cases c56 with
     | true =>
      replace hc56 := btrue hc56;refine zC rfl (zU rfl (zA R4 (zN (T.keep (s' := ⟨[], [(6, _)], _ :: _ :: _ :: C⟩) (sc (.cons _ (.cons_cons _ (.cons_cons _ (.cons_cons _ (.refl _)))))) (zR ?_)))))
      have hv : gathErr before g = 3 := by unfold gathErr; (repeat' split) <;> first | rfl | (exfalso; simp_all; done) | (exfalso; simp_all [inR]; omega) | simp_all [inR]
      exact ⟨rfl, _, rfl, _, _, _, congrArg iv hv.symm, rfl, fun h0 => aO⟩
     | false =>
      replace hc56 := bfalse hc56;refine zD rfl (zK (zS (zU rfl (zF 0 R6 (zV R3 (vW 0 [_,_] R5 R4) (TO.callD rfl rfl rfl rfl rfl (orcL rfl aD) (.cons (.agg (.cons .lit (.cons .lit .nil))) .nil) (sem_of (q_lettered g.sig )) (fun c59 hc59=>zN ?_)))))));cases c59 with
      | true =>
       replace hc59 := btrue hc59;refine zC rfl (zT rfl (zF 0 R6 (zV R3 (vW 0 [_,_] R5 R4) (TO.store_row (p := 3) (cv := [_, _]) (cells' := [_, _]) rfl rfl rfl rfl rfl rfl rfl rfl rfl rfl (by first | rfl | simp [GS.one]) (by decide) rfl (zG (_::_::_::_::C) rfl (zN (zU rfl (zF 3 R6 (zL 0 R3 R6 (zV R3 (Val.makeFunc rfl rfl) (TO.callV rfl rfl rfl rfl rfl rfl (orcN rfl) (q_chgs aO g _ aO) ?_)))))))))));rintro _ _ ⟨i0, rfl, rfl⟩;refine zG (_::_::_::_::C) rfl (zM R4 (zX R5 (zX R5 (zA R4 (zA R4 (zN (zU rfl (zM R4 (zA R4 (zN (T.keep (s' := ⟨[], [(6, _)], _ :: _ :: _ :: C⟩) (sc (.cons _ (.cons_cons _ (.cons_cons _ (.cons_cons _ (.refl _)))))) (zR ?_))))))))))))
       have hv : gathErr before g = chgsErr g.leaves none g.ch.l := by unfold gathErr; (repeat' split) <;> first | rfl | (exfalso; simp_all; done) | (exfalso; simp_all [inR]; omega) | simp_all [inR]
       exact ⟨rfl, _, rfl, _, _, _, congrArg iv hv.symm, rfl, fun h0 => (by first | exact ⟨hmet, hl.snoc hs hc59 hrk⟩ | exact ⟨hmet, hl.same hc59⟩)⟩
      | false =>
       replace hc59 := bfalse hc59;refine zD rfl (zK (zU rfl (zF 3 R6 (zL 0 R3 R6 (zV R3 (Val.makeFunc rfl rfl) (TO.callV rfl rfl rfl rfl rfl rfl (orcN rfl) (q_chgs aO g _ aO) ?_))))));rintro _ _ ⟨i0, rfl, rfl⟩;refine zG (_::_::_::_::C) rfl (zM R4 (zX R5 (zX R5 (zA R4 (zA R4 (zN (zU rfl (zM R4 (zA R4 (zN (T.keep (s' := ⟨[], [(6, _)], _ :: _ :: _ :: C⟩) (sc (.cons _ (.cons_cons _ (.cons_cons _ (.cons_cons _ (.refl _)))))) (zR ?_))))))))))))
       have hv : gathErr before g = chgsErr g.leaves none g.ch.l := by unfold gathErr; (repeat' split) <;> first | rfl | (exfalso; simp_all; done) | (exfalso; simp_all [inR]; omega) | simp_all [inR]
       exact ⟨rfl, _, rfl, _, _, _, congrArg iv hv.symm, rfl, fun h0 => (by first | exact ⟨hmet, hl.snoc hs hc59 hrk⟩ | exact ⟨hmet, hl.same hc59⟩)⟩
theorem q_gats {k bm bl mid : Nat} (hk : 2 ≤ k) (b : Book) (C : List Thing) (hb : b.gs.l.length ≤ 30) :
  TF (EL k) 74 [b.gs.v, .func 75 [] [.ptr bm 0 1, .ptr bl 0 2]] (.row bm 1 [.map mid] :: .cnt mid KPair (fun _ => 0) [] :: .row bl 2 [iv 0, iv 0] :: C) fun v hs' => ∃ (i0 e0 : Int) (f : Value → Int) (lr ll : Int), v = .tuple [iv i0, iv e0] ∧
   (gathsErr [] b.gs.l 0 = none ∧ i0 = 0 ∧ e0 = 0 ∨ ∃ j, gathsErr [] b.gs.l 0 = some (j, e0) ∧ i0 = j ∧ e0 ≠ 0) ∧ hs' = .row bm 1 [.map mid] :: .cnt mid KPair f [] :: .row bl 2 [iv lr, iv ll] :: C := by
 refine TF.enter (fn := Go.Proofs.Try.f74) rfl rfl rfl rfl rfl (zU rfl (zA R4 (zA R4 (zN (zS (zU rfl (zM R4 (zV R3 (Val.len_gs rfl rfl) (zM R4 (zN (zB (T.loop (fun μ s => ∃ i : Nat, ∃ j : Int, ∃ f : Value → Int, ∃ lr : Int, ∃ ll : Int, μ = b.gs.l.length - i ∧ j = i ∧ i ≤ b.gs.l.length ∧ gathsErr [] b.gs.l 0 = gathsErr (b.gs.l.take i) (b.gs.l.drop i) i ∧ MetOk (b.gs.l.take i) f ∧ LastOk (b.gs.l.take i) ⟨lr, ll⟩ ∧ s = ⟨[], [(1, .func 75 [] [.ptr bm 0 1, .ptr bl 0 2]), (9, b.gs.v), (10, iv (b.gs.l.length : Int)), (11, iv j)], (.row bm 1 [.map mid]) :: (.cnt mid KPair f []) :: (.row bl 2 [iv lr, iv ll]) :: C⟩) (k := _) (s' := _) ⟨0, 0, _, _, _, rfl, (by first | rfl | omega | (simp; done) | (simp; omega) | simp_all), (by first | rfl | omega | (simp; done) | (simp; omega) | simp_all), (by rfl), (by exact MetOk.nil), (by exact LastOk.nil), rfl⟩ ⟨rfl, (keep_cons rfl (keep_cons rfl (keep_cons rfl (keep_cons rfl keep_nil)))), (.cons_cons _ (.cons_cons _ (.cons_cons _ (.refl _))))⟩ ?_))))))))))));rintro μ _ ⟨i, j, f, lr, ll, hk0, hj, hi, he, hm, hl, rfl⟩;subst hj;refine zU rfl (TO.lss rfl rfl rfl rfl rfl (fun c12 hc12=>zN (zS ?_)));cases c12 with
 | true =>
  replace hc12 := btrue hc12;refine zC rfl (zK (zS (zB (zU rfl (zM R4 (TO.index_gs rfl rfl rfl ⟨rfl, rfl⟩ rfl rfl aO (fun g rg eg=>?_)))))))
  try simp only [Int.toNat_natCast] at eg
  refine zV R3 (Val.load_trees (c := _) ⟨⟨_, rfl, rfl⟩, rfl, by decide⟩ rfl rfl) (zJ 4 [_,_,_,_] R7 (fun b7=>zA R4 (TO.store_row (p := 0) (cv := [_, _, _, _]) (cells' := [_, _, _, _]) rfl rfl rfl rfl rfl rfl rfl rfl rfl rfl (by first | rfl | simp [GS.one]) (by decide) rfl (zG (_::_::_::_::C) rfl (zN (zU rfl (zM R4 (zM R4 (zV R3 (vW 0 [_,_,_,_] R5 R4) (TO.pick (p := 3) rfl (zG (_::_::_::_::C) rfl (TO.pick (p := 3) rfl (zG (_::_::_::_::C) rfl (TO.pick (p := 3) rfl (zG (_::_::_::_::C) rfl (TO.callV rfl rfl rfl rfl rfl rfl (orcN rfl) (q_gat hk g i (b.gs.l.take i) f lr ll _ (by rw [List.length_take]; omega) hm hl) ?_))))))))))))))));rintro _ _ ⟨f1, lr1, ll1, rfl, rfl, hnew⟩;generalize hE : gathErr (b.gs.l.take i) g = E19;refine zG (_::_::_::_::C) rfl (zA R4 (zN (zU rfl (zM R4 (TO.neq rfl rfl rfl rfl rfl (fun c21 hc21=>zN ?_))))));cases c21 with
  | true =>
   replace hc21 := btrue hc21
   have hG : gathsErr [] b.gs.l 0 = some (i, E19) := by rw [he, drop_cons eg, gathsErr, hE, if_pos hc21]
   refine zC rfl (zU rfl (zM R4 (zM R4 (zA R4 (zA R4 (zN (T.keep (s' := ⟨[], [(4, _), (5, _)], _ :: _ :: _ :: C⟩) (sc (.cons_cons _ (.cons_cons _ (.cons_cons _ (.cons _ (.refl _)))))) (zR ?_))))))));exact ⟨rfl, _, rfl, _, _, _, _, _, rfl, .inr ⟨_, hG, rfl, hc21⟩, rfl⟩
  | false =>
   replace hc21 := bfalse hc21
   have hE0 : E19 = 0 := by omega
   have hG : gathsErr [] b.gs.l 0 = gathsErr (b.gs.l.take (i + 1)) (b.gs.l.drop (i + 1)) (i + 1) := by rw [he, drop_cons eg, gathsErr, hE, if_neg hc21, take_snoc eg]
   have hnew := hnew (hE.trans hE0);rw [← take_snoc eg] at hnew;refine zD rfl (zK (zT rfl (zV R3 (Val.add rfl rfl aO) (zM R4 (zN ?_)))));refine ⟨_, _, aO, ⟨i + 1, _, _, _, _, rfl, (by first | omega | simp_all), (by first | omega | simp_all), (by exact hG), (by exact hnew.1), (by exact hnew.2), rfl⟩, ⟨rfl, (keep_cons rfl (keep_cons rfl (keep_cons rfl (keep_cons rfl keep_nil)))), (.cons_cons _ (.cons_cons _ (.cons_cons _ (.cons _ (.refl _)))))⟩⟩
 | false =>
  replace hc12 := bfalse hc12
  have hG : gathsErr [] b.gs.l 0 = none := by rw [he, List.drop_eq_nil_of_le aO, gathsErr]
  refine zD rfl (zE (zU rfl (zA R4 (zA R4 (zN (T.keep (s' := ⟨[], [(4, _), (5, _)], _ :: _ :: _ :: C⟩) (sc (.cons_cons _ (.cons_cons _ (.cons_cons _ (.refl _))))) (zR ?_)))))));exact ⟨rfl, _, rfl, _, _, _, _, _, rfl, .inl ⟨hG, rfl, rfl⟩, rfl⟩
theorem q_Check (b : Book)  : Comes (EL 2) 56 [.agg (encB.f b)] (.tuple [iv (bookErr b).1, iv (bookErr b).2.1, iv (bookErr b).2.2]) := by
 refine Comes.of (TF.enter (fn := Go.Proofs.Try.f56) rfl rfl rfl rfl rfl ?_);refine zU rfl (zQ 2 [_,_] R7 (fun b1=>zA R4 (zA R4 (zA R4 (zN (zS (zB (zU rfl (zF 0 R6 (zL 0 R3 R6 (TO.build1 (en := encI) (a := _) rfl rfl rfl ⟨rfl, rfl⟩ ⟨_, rfl, rfl⟩ (by decide) (by decide) rfl rfl (fun v10=>TO.callD rfl rfl rfl rfl rfl (orcL rfl aD) (.cons .lit (.cons .lit (.cons (.ownL (p := 0) rfl .ints) .nil))) (sem_of (q_out _ _ _ (by exact out1_small))) (fun c11 hc11=>?_)))))))))))));replace hc11 := out1 hc11;refine zA R4 (zN ?_);cases c11 with
 | true =>
  replace hc11 := btrue hc11
  have hr1 : ¬ inR b.signed 0 12 := by unfold inR; omega
  clear hc11
  refine zC rfl (zU rfl (zA R4 (zA R4 (zA R4 (zN (zR ?_))))));exact ⟨rfl, _, rfl, RefN.cast (.tuple (.cons .lit (.cons .lit (.cons .lit .nil)))) (by unfold bookErr; simp_all)⟩
 | false =>
  replace hc11 := bfalse hc11
  have hr1 : inR b.signed 0 12 := by unfold inR; omega
  clear hc11
  refine zD rfl (zU rfl (zF 1 R6 (zL 1 R3 R6 (zV R3 (Val.len_gs rfl rfl) (TO.build1 (en := encI) (a := _) rfl rfl rfl ⟨rfl, rfl⟩ ⟨_, rfl, rfl⟩ (by decide) (by decide) rfl rfl (fun v16=>TO.callD rfl rfl rfl rfl rfl (orcL rfl aD) (.cons .lit (.cons .lit (.cons (.ownL (p := 0) rfl .ints) .nil))) (sem_of (q_out _ _ _ (by exact out1_small))) (fun c17 hc17=>?_)))))));replace hc17 := out1 hc17;refine zA R4 (zN ?_);cases c17 with
  | true =>
   replace hc17 := btrue hc17
   have hr2 : ¬ inR b.gs.l.length 1 30 := by unfold inR; omega
   clear hc17
   refine zC rfl (zU rfl (zA R4 (zA R4 (zA R4 (zN (zR ?_))))));exact ⟨rfl, _, rfl, RefN.cast (.tuple (.cons .lit (.cons .lit (.cons .lit .nil)))) (by unfold bookErr; simp_all)⟩
  | false =>
   replace hc17 := bfalse hc17
   have hr2 : inR b.gs.l.length 1 30 := by unfold inR; omega
   refine zD rfl (zK (zU rfl (TO.makeMap KPair rfl rfl rfl (fun m18=>zJ 1 [_] R7 (fun b5=>TO.store_row (p := 0) (cv := [_]) (cells' := [_]) rfl rfl rfl rfl rfl rfl rfl rfl rfl rfl (by first | rfl | simp [GS.one]) (by decide) rfl (zG ([_,_,_,_,_]) rfl (zN (zU rfl (zJ 2 [_,_] R7 (fun b6=>zN (zU rfl (zF 1 R6 (zL 5 R3 R6 (zV R3 (Val.makeFunc rfl rfl) (TO.pick (p := 2) rfl (zG ([_,_,_,_,_,_]) rfl (TO.pick (p := 2) rfl (zG ([_,_,_,_,_,_]) rfl (TO.callV rfl rfl rfl rfl rfl rfl (orcN rfl) (q_gats (by decide) b _ aO) ?_)))))))))))))))))));rintro _ _ ⟨i0, e0, f1, lr1, ll1, rfl, hG, rfl⟩;refine zG ([_,_,_,_,_,_]) rfl (zM R4 (zX R5 (zX R5 (zA R4 (zA R4 (zN (zS (zU rfl (zM R4 (TO.neq rfl rfl rfl rfl rfl (fun c27 hc27=>zN ?_)))))))))));cases c27 with
   | true =>
    replace hc27 := btrue hc27;obtain ⟨j0, hG, rfl, -⟩ : ∃ j, gathsErr [] b.gs.l 0 = some (j, e0) ∧ i0 = j ∧ e0 ≠ 0 := by rcases hG with ⟨-, -, h⟩ | h; exact absurd h hc27; exact h
    refine zC rfl (zU rfl (zM R4 (zM R4 (zA R4 (zA R4 (zA R4 (zN (zR ?_))))))));exact ⟨rfl, _, rfl, RefN.cast (.tuple (.cons .lit (.cons .lit (.cons .lit .nil)))) (by unfold bookErr; simp_all)⟩
   | false =>
    replace hc27 := bfalse hc27;replace hG : gathsErr [] b.gs.l 0 = none := by rcases hG with ⟨h, -, -⟩ | ⟨j, -, -, h⟩; exact h; exact absurd h hc27
    refine zD rfl (zK (zU rfl (zA R4 (zA R4 (zA R4 (zN (zR ?_)))))));exact ⟨rfl, _, rfl, RefN.cast (.tuple (.cons .lit (.cons .lit (.cons .lit .nil)))) (by unfold bookErr; simp_all)⟩
end Go.Am.Ythckcbfijdambaa
end
section
namespace Go.Am.Ythckcbfijdambaa
open Go.Am Go.RowKit
set_option linter.unusedVariables false
set_option linter.unusedSimpArgs false
def ArgL (x : Leaf) (vs : List AV) (G : List Thing) : Prop := vs = [.agg (encL.f x)] ∧ G = []
theorem lv_iter {k : Nat} {b : Book} {bx l : Nat} {Y Z : List Leaf → List Thing → Prop} (hb : Good b) (hy : VisitG (EL k) l ArgL (· <+: leavesOf b) Y Z) (C : List Thing) (hY : Y [] C) :
  TF (EL k) 103 [.yield l, .ptr bx 0 2] (.row bx 2 [iv b.signed, b.gs.v] :: C) (fun v hs' => ∃ C', hs' = .row bx 2 [iv b.signed, b.gs.v] :: C' ∧ (Y (leavesOf b) C' ∨ ∃ q r, leavesOf b = q ++ r ∧ Z q C')) := by
 have hgs := hb.gs;refine TF.enter (fn := Go.Proofs.Try.f103) rfl rfl rfl rfl rfl (zU rfl (zF 0 R6 (zF 1 R6 (zL 0 R3 R6 (zV R3 (Val.len_gs rfl rfl) (zM R4 (zN (zB (T.loop (fun μ s => ∃ i : Nat, ∃ j : Int, ∃ C1 : List Thing, μ = b.gs.l.length - i ∧ j = i ∧ i ≤ b.gs.l.length ∧ Y (leavesFrom 0 (b.gs.l.take i)) C1 ∧ s = ⟨[], [(0, .yield l), (1, .ptr bx 0 2), (16, b.gs.v), (17, iv (b.gs.l.length : Int)), (18, iv j)], (.row bx 2 [iv b.signed, b.gs.v]) :: C1⟩) (k := _) (s' := _) ⟨0, 0, _, rfl, (by first | rfl | omega | (simp; done) | (simp; omega) | simp_all), (by first | rfl | omega | (simp; done) | (simp; omega) | simp_all), (by simpa [leavesFrom] using hY), rfl⟩ ⟨rfl, (keep_cons rfl (keep_cons rfl (keep_cons rfl (keep_cons rfl (keep_cons rfl keep_nil))))), (.cons_cons _ (.refl _))⟩ ?_)))))))));rintro μ _ ⟨i, j, C1, hk0, hj, hi, hY1, rfl⟩;subst hj;refine zU rfl (TO.lss rfl rfl rfl rfl rfl (fun c19 hc19=>zN (zS ?_)));cases c19 with
 | true =>
  replace hc19 := btrue hc19;refine zC rfl (zK (zS (zB (zU rfl (zM R4 (TO.index_gs rfl rfl rfl ⟨rfl, rfl⟩ rfl rfl aO (fun g rg eg=>?_)))))))
  try simp only [Int.toNat_natCast] at eg
  obtain ⟨hg1, hg2, hg3, hg4, hg5⟩ := hb.each g (List.mem_of_getElem? eg);refine zV R3 (Val.load_trees (c := _) ⟨⟨_, rfl, rfl⟩, rfl, by decide⟩ rfl rfl) (zJ 4 [_,_,_,_] R7 (fun b4=>zA R4 (TO.store_row (p := 0) (cv := [_, _, _, _]) (cells' := [_, _, _, _]) rfl rfl rfl rfl rfl rfl rfl rfl rfl rfl (by first | rfl | simp [GS.one]) (by decide) rfl (zG (_::_::C1) rfl (zN (zU rfl (zF 3 R6 (zL 0 R3 R6 (zV R3 (Val.len_gs rfl rfl) (TO.makeEn (en := encC) ⟨0, 0, 0⟩ (m := g.ch.l.length) (b := 24) rfl rfl rfl ⟨rfl, rfl⟩ rfl rfl rfl rfl rfl aO aO (fun v26 hv26=>zA R4 (zN (zU rfl (zM R4 (zF 3 R6 (zL 1 R3 R6 (TO.eff rfl rfl rfl (Eff.copy_gs (en := encC) (l := _) (p := 0) ⟨rfl, rfl⟩ (by decide) rfl rfl rfl rfl (en_ones encC_ones _) (by simp)) ?_)))))))))))))))));rintro _ _ ⟨rfl, rfl⟩;refine zG (_::_::_::C1) rfl (zN (zU rfl (zF 2 R6 (zL 1 R3 R6 (zV R3 (Val.add rfl rfl aO) (zM R4 (zN (zB (T.loop (fun μ s => ∃ n : Nat, ∃ j1 : Int, ∃ tk : Nat, ∃ w : AV, ∃ C2 : List Thing, μ = (g.leaves + 1).toNat - n ∧ j1 = n ∧ (n : Int) ≤ g.leaves + 1 ∧ ViewOf v26 3 g.ch.l.length tk w ∧ (∀ c ∈ g.ch.l.take tk, c.at_ < n) ∧ (∀ c ∈ g.ch.l.drop tk, n ≤ c.at_) ∧ Y (leavesFrom 0 (b.gs.l.take i) ++ (List.range n).flatMap (numLeaves (i : Int) g)) C2 ∧ s = ⟨[], [(0, .yield l), (1, .ptr bx 0 2), (16, b.gs.v), (17, iv (b.gs.l.length : Int)), (18, iv (i : Int)), (3, iv (i : Int)), (4, .ptr b4 0 4), (5, w), (33, iv (g.leaves + 1)), (34, iv j1)], (ownL false v26 encC g.ch.l) :: (.row b4 4 [iv g.round, iv g.letter, iv g.leaves, g.ch.v]) :: (.row bx 2 [iv b.signed, b.gs.v]) :: C2⟩) (k := _) (s' := _) ⟨0, 0, 0, _, _, rfl, (by first | rfl | omega | (simp; done) | (simp; omega) | simp_all), (by first | rfl | omega | (simp; done) | (simp; omega) | simp_all), (by exact hv26), (by first | rfl | omega | (simp; done) | (simp; omega) | simp_all), (by intro c hc; exact (hg5.each c (List.mem_of_mem_drop hc)).2.2.1), (by simpa using hY1), rfl⟩ ⟨rfl, (keep_cons rfl (keep_cons rfl (keep_cons rfl (keep_cons rfl (keep_cons rfl (keep_cons rfl (keep_cons rfl (keep_cons rfl (keep_cons rfl (keep_cons rfl keep_nil)))))))))), (.cons_cons _ (.cons_cons _ (.cons_cons _ (.refl _))))⟩ ?_)))))))));rintro μ _ ⟨n, j1, tk, w, C2, hk1, hj1, hn, hw, hs1, hs2, hY2, rfl⟩;subst hj1;refine zU rfl (TO.lss rfl rfl rfl rfl rfl (fun c35 hc35=>zN (zS ?_)));cases c35 with
  | true =>
   replace hc35 := btrue hc35;refine zC rfl (zK (zS (zB (zU rfl (zM R4 (zA R4 (zN (zU rfl (zM R4 (zM R4 (zV R3 (Val.build (cs := [_, _, _, _]) (vs := [(_, _), (_, _)]) rfl rfl rfl) (zJ 4 [_,_,_,_] R7 (fun b7=>TO.store_row (p := 0) (cv := [_, _, _, _]) (cells' := [_, _, _, _]) rfl rfl rfl rfl rfl rfl rfl rfl rfl rfl (by first | rfl | simp [GS.one]) (by decide) rfl (zG (_::_::_::_::C2) rfl (zN (zU rfl (zM R4 (TO.gtr rfl rfl rfl rfl rfl (fun c41 hc41=>zA R4 (zA R4 (zN (zS (zB (T.loop (fun μ s => ∃ s3 : Nat, ∃ w3 : AV, ∃ th : Bool, ∃ kd : Int, ∃ mo : Int, μ = g.ch.l.length - s3 ∧ ViewOf v26 3 g.ch.l.length s3 w3 ∧ AtN g.ch.l n s3 ∧ (th = true ↔ 0 < (n : Int) ∧ (plusOf (g.ch.l.take s3) n).2 ≠ 1) ∧ kd = (if (plusOf (g.ch.l.take s3) n).2 = 2 then 1 else 0) ∧ mo = (plusOf (g.ch.l.take s3) n).1 ∧ s = ⟨[], [(0, .yield l), (1, .ptr bx 0 2), (16, b.gs.v), (17, iv (b.gs.l.length : Int)), (18, iv (i : Int)), (3, iv (i : Int)), (4, .ptr b4 0 4), (5, w3), (33, iv (g.leaves + 1)), (34, iv (n : Int)), (6, iv (n : Int)), (7, .ptr b7 0 4), (8, bv th), (9, iv mo)], (.row b7 4 [iv (i : Int), iv (n : Int), iv 0, iv kd]) :: (ownL false v26 encC g.ch.l) :: (.row b4 4 [iv g.round, iv g.letter, iv g.leaves, g.ch.v]) :: (.row bx 2 [iv b.signed, b.gs.v]) :: C2⟩) (k := _) (s' := _) ⟨tk, w, _, 0, 0, rfl, (by exact hw), (by exact (AtN.start hs1 hs2).1), (by rw [(AtN.start hs1 hs2).2, hc41]; simp), (by rw [(AtN.start hs1 hs2).2]; rfl), (by rw [(AtN.start hs1 hs2).2]), rfl⟩ ⟨rfl, (keep_cons rfl (keep_cons rfl (keep_cons rfl (keep_cons rfl (keep_cons rfl (keep_cons rfl (keep_cons rfl (keep_cons rfl (keep_cons rfl (keep_cons rfl (keep_cons rfl (keep_cons rfl (keep_cons rfl (keep_cons rfl keep_nil)))))))))))))), (.cons_cons _ (.cons_cons _ (.cons_cons _ (.cons_cons _ (.refl _)))))⟩ ?_))))))))))))))))))))))));rintro μ _ ⟨s3, w3, th, kd, mo, hk2, hw3, hat, hth, hkd, hmo, rfl⟩;refine zS (zU rfl (zM R4 (zV R3 (Val.len_view hw3 rfl rfl) (TO.gtr rfl rfl rfl rfl rfl (fun c44 hc44=>zM R4 ?_)))));cases c44 with
   | true =>
    replace hc44 := btrue hc44;refine zM R4 (TO.iaddr_view (en := encC) (p := 1) rfl rfl rfl ⟨rfl, rfl⟩ rfl hw3 rfl rfl (by show 0 ≤ (0 : Int) ∧ s3 + 0 < _; omega) (fun id47 c atc ec=>?_));replace ec : g.ch.l[s3]? = some c := ec;refine zV R3 (Val.faddr_ptr_ rfl rfl) (zV R3 (Val.load_ownL (en := encC) (p := 1) (j := 1) rfl atc ⟨_, rfl, rfl⟩ rfl ec rfl) (zM R4 (TO.eql rfl rfl rfl rfl rfl (fun c51 hc51=>zP R6 (zN ?_)))));cases c51 with
    | true =>
     replace hc51 := btrue hc51;refine zC rfl (zK (zB (zS (zU rfl (zM R4 (TO.iaddr_view (en := encC) (p := 1) rfl rfl rfl ⟨rfl, rfl⟩ rfl hw3 rfl rfl (by show 0 ≤ (0 : Int) ∧ s3 + 0 < _; omega) (fun id54 c2 atc2 ec2=>?_)))))))
     have e54 : c2 = c := Option.some.inj (Eq.trans (show some c2 = g.ch.l[s3]? from ec2.symm) ec);subst e54;refine zV R3 (Val.load_ownA (en := encC) (p := 1) rfl atc2 ⟨⟨_, rfl, rfl⟩, rfl, by decide⟩ rfl ec2) (TO.callIn rfl rfl rfl rfl rfl rfl (orcN rfl) (TF.enter (fn := Go.Proofs.Try.f81) rfl rfl rfl rfl rfl (zU rfl (zQ 3 [_,_,_] R7 (fun b1=>zA R4 (zN (zS (zU rfl (zF 0 R6 (zL 0 R3 R6 (zN (zB (zU rfl (TO.eql rfl rfl rfl rfl rfl (fun c6 hc6=>zA R4 (zN ?_))))))))))))))));cases c6 with
     | true =>
      replace hc6 := btrue hc6
      have hp0 := plusOf_first hg5.order ec hc51 aO
      have hp := step_less hg5.order ec hc51 hc6;refine zC rfl (zU rfl (zF 1 R6 (zL 0 R3 R6 (zV R3 (Val.build (cs := [_]) (vs := [(_, _)]) rfl rfl rfl) (zV R3 (Val.makeIface rfl rfl rfl) (zA R4 (zN (zR ?_))))))));refine ⟨rfl, _, rfl, ?_⟩;refine zN (zB (zU rfl (zV R3 (Val.assert_yes rfl rfl rfl rfl) (zX R5 (zX R5 (zN (zC rfl (zU rfl (zJ 1 [_] R7 (fun b10=>TO.store_row (p := 0) (cv := [_]) (cells' := [_]) rfl rfl rfl rfl rfl rfl rfl rfl rfl rfl (by first | rfl | simp [GS.one]) (by decide) rfl (zG (_::_::_::_::_::_::C2) rfl (zN (zT rfl (zA R4 (zN (zT rfl (zM R4 (TO.slice_view (en := encC) (p := 3) (j := 1) rfl rfl rfl ⟨rfl, rfl⟩ rfl hw3 rfl rfl aO (fun w70 hw70=>zA R4 (zN ?_))))))))))))))))))));refine ⟨_, _, aO, ⟨s3 + 1, _, _, _, _, rfl, (by exact hw70), (by exact hat.one ec hc51), (by rw [hp]; simp), (by rw [hp]; rw [hp0] at hkd; simpa using hkd), (by rw [hp]; rw [hp0] at hmo; exact hmo), rfl⟩, ⟨rfl, (keep_cons rfl (keep_cons rfl (keep_cons rfl (keep_cons rfl (keep_cons rfl (keep_cons rfl (keep_cons rfl (keep_cons rfl (keep_cons rfl (keep_cons rfl (keep_cons rfl (keep_cons rfl (keep_cons rfl (keep_cons rfl keep_nil)))))))))))))), (.cons _ (.cons _ (.cons_cons _ (.cons_cons _ (.cons_cons _ (.cons_cons _ (.refl _)))))))⟩⟩
     | false =>
      replace hc6 := bfalse hc6;refine zD rfl (zU rfl (TO.eql rfl rfl rfl rfl rfl (fun c12 hc12=>zA R4 (zN ?_))));cases c12 with
      | true =>
       replace hc12 := btrue hc12
       have hp0 := plusOf_first hg5.order ec hc51 aO
       have hp := step_swap hg5.order ec hc51 hc12;refine zC rfl (zU rfl (zF 1 R6 (zL 0 R3 R6 (zV R3 (Val.build (cs := [_]) (vs := [(_, _)]) rfl rfl rfl) (zV R3 (Val.makeIface rfl rfl rfl) (zA R4 (zN (zR ?_))))))));refine ⟨rfl, _, rfl, ?_⟩;refine zN (zB (zU rfl (zV R3 (Val.assert_no rfl rfl rfl rfl rfl) (zX R5 (zX R5 (zN (zD rfl (zU rfl (zV R3 (Val.assert_yes rfl rfl rfl rfl) (zX R5 (zX R5 (zN (zC rfl (zU rfl (zJ 1 [_] R7 (fun b11=>TO.store_row (p := 0) (cv := [_]) (cells' := [_]) rfl rfl rfl rfl rfl rfl rfl rfl rfl rfl (by first | rfl | simp [GS.one]) (by decide) rfl (zG (_::_::_::_::_::_::C2) rfl (zN (zT rfl (zF 3 R6 (TO.store_row (p := 2) (cv := [_]) (cells' := [_, _, _, _]) rfl rfl rfl rfl rfl rfl rfl rfl rfl rfl (by first | rfl | simp [GS.one]) (by decide) rfl (zG (_::_::_::_::_::_::C2) rfl (zN (zT rfl (zM R4 (TO.slice_view (en := encC) (p := 3) (j := 1) rfl rfl rfl ⟨rfl, rfl⟩ rfl hw3 rfl rfl aO (fun w70 hw70=>zA R4 (zN ?_))))))))))))))))))))))))))));refine ⟨_, _, aO, ⟨s3 + 1, _, _, _, _, rfl, (by exact hw70), (by exact hat.one ec hc51), (by rw [hp]; rw [hp0] at hth; simpa using hth), (by rw [hp]; rfl), (by rw [hp]; rw [hp0] at hmo; exact hmo), rfl⟩, ⟨rfl, (keep_cons rfl (keep_cons rfl (keep_cons rfl (keep_cons rfl (keep_cons rfl (keep_cons rfl (keep_cons rfl (keep_cons rfl (keep_cons rfl (keep_cons rfl (keep_cons rfl (keep_cons rfl (keep_cons rfl (keep_cons rfl keep_nil)))))))))))))), (.cons _ (.cons _ (.cons_cons _ (.cons_cons _ (.cons_cons _ (.cons_cons _ (.refl _)))))))⟩⟩
      | false =>
       replace hc12 := bfalse hc12;refine zD rfl (zU rfl (TO.eql rfl rfl rfl rfl rfl (fun c18 hc18=>zA R4 (zN ?_))));cases c18 with
       | true =>
        replace hc18 := btrue hc18
        have hp := step_plus ec hc51 hc18;refine zC rfl (zU rfl (zF 1 R6 (zL 0 R3 R6 (zF 2 R6 (zL 0 R3 R6 (zV R3 (Val.build (cs := [_, _]) (vs := [(_, _), (_, _)]) rfl rfl rfl) (zV R3 (Val.makeIface rfl rfl rfl) (zA R4 (zN (zR ?_))))))))));refine ⟨rfl, _, rfl, ?_⟩;refine zN (zB (zU rfl (zV R3 (Val.assert_no rfl rfl rfl rfl rfl) (zX R5 (zX R5 (zN (zD rfl (zU rfl (zV R3 (Val.assert_no rfl rfl rfl rfl rfl) (zX R5 (zX R5 (zN (zD rfl (zU rfl (zV R3 (Val.assert_yes rfl rfl rfl rfl) (zX R5 (zX R5 (zN (zC rfl (zU rfl (zJ 2 [_,_] R7 (fun b12=>TO.store_row (p := 0) (cv := [_, _]) (cells' := [_, _]) rfl rfl rfl rfl rfl rfl rfl rfl rfl rfl (by first | rfl | simp [GS.one]) (by decide) rfl (zG (_::_::_::_::_::_::C2) rfl (zN (zT rfl (zF 1 R6 (zL 0 R3 R6 (zA R4 (zN (zT rfl (zM R4 (TO.slice_view (en := encC) (p := 3) (j := 1) rfl rfl rfl ⟨rfl, rfl⟩ rfl hw3 rfl rfl aO (fun w70 hw70=>zA R4 (zN ?_))))))))))))))))))))))))))))))))));refine ⟨_, _, aO, ⟨s3 + 1, _, _, _, _, rfl, (by exact hw70), (by exact hat.one ec hc51), (by rw [hp]; exact hth), (by rw [hp]; exact hkd), (by rw [hp]), rfl⟩, ⟨rfl, (keep_cons rfl (keep_cons rfl (keep_cons rfl (keep_cons rfl (keep_cons rfl (keep_cons rfl (keep_cons rfl (keep_cons rfl (keep_cons rfl (keep_cons rfl (keep_cons rfl (keep_cons rfl (keep_cons rfl (keep_cons rfl keep_nil)))))))))))))), (.cons _ (.cons _ (.cons_cons _ (.cons_cons _ (.cons_cons _ (.cons_cons _ (.refl _)))))))⟩⟩
       | false =>
        replace hc18 := bfalse hc18
        exfalso; have := hg5.each _ (List.mem_of_getElem? ec); omega
    | false =>
     replace hc51 := bfalse hc51
     have hov := hat.over hg5.order (.inr ⟨_, ec, hc51⟩)
     have hmo4 : mo ≤ 4 := by rw [hmo]; exact plusOf_le fun c hc => (hg5.each c (List.mem_of_mem_take hc)).2.2.2.2
     refine zD rfl (zE (zS (zU rfl (zM R4 (zM R4 ?_)))));cases th with
     | true =>
      replace hth := btrue hth
      have hown : ownLeaf (i : Int) (n : Int) g = [⟨i, n, 0, kd⟩] := by unfold ownLeaf; rw [hov.1, if_pos hth, ← hkd]
      refine zM R4 (zV R3 (vW 0 [_,_,_,_] R5 R4) (TO.perm (hs' := C2 ++ [_, _, _, _]) List.perm_append_comm (TO.callY rfl rfl rfl rfl rfl (hy (leavesFrom 0 (b.gs.l.take i) ++ (List.range n).flatMap (numLeaves (i : Int) g)) ⟨(i : Int), (n : Int), 0, kd⟩ _ [] C2 _ (hown ▸ own_first eg hc35) ⟨rfl, rfl⟩ hY2) ?_)));rintro _ _ (⟨rfl, C9, rfl, hY9⟩ | ⟨rfl, C9, rfl, hZ9⟩)
      ·skip;refine TO.perm (hs' := [_, _, _, _] ++ C9) List.perm_append_comm (zG (_::_::_::_::C9) rfl (zV R3 (Val.not rfl) (zP R6 (zN (zD rfl (zK (zU rfl (zM R4 (zM R4 (zN (zB (T.loop (fun μ s => ∃ k1 : Nat, ∃ j3 : Int, ∃ C3 : List Thing, μ = mo.toNat - k1 ∧ j3 = k1 ∧ (k1 : Int) ≤ max 0 mo ∧ Y (leavesFrom 0 (b.gs.l.take i) ++ (List.range n).flatMap (numLeaves (i : Int) g) ++ ownLeaf (i : Int) (n : Int) g ++ newLeaves (i : Int) (n : Int) k1) C3 ∧ s = ⟨[], [(0, .yield l), (1, .ptr bx 0 2), (16, b.gs.v), (17, iv (b.gs.l.length : Int)), (18, iv (i : Int)), (3, iv (i : Int)), (4, .ptr b4 0 4), (5, w3), (33, iv (g.leaves + 1)), (34, iv (n : Int)), (6, iv (n : Int)), (78, iv mo), (79, iv j3)], (ownL false v26 encC g.ch.l) :: (.row b4 4 [iv g.round, iv g.letter, iv g.leaves, g.ch.v]) :: (.row bx 2 [iv b.signed, b.gs.v]) :: C3⟩) (k := _) (s' := _) ⟨0, 0, _, rfl, (by first | rfl | omega | (simp; done) | (simp; omega) | simp_all), (by first | rfl | omega | (simp; done) | (simp; omega) | simp_all), (by rw [hown, show newLeaves (i : Int) (n : Int) 0 = [] from rfl, List.append_nil]; first | exact hY9 | (rw [List.append_nil]; exact hY2)), rfl⟩ ⟨rfl, (keep_cons rfl (keep_cons rfl (keep_cons rfl (keep_cons rfl (keep_cons rfl (keep_cons rfl (keep_cons rfl (keep_cons rfl (keep_cons rfl (keep_cons rfl (keep_cons rfl (keep_cons rfl (keep_cons rfl keep_nil))))))))))))), (.cons _ (.cons_cons _ (.cons_cons _ (.cons_cons _ (.refl _)))))⟩ ?_))))))))))))
       rintro μ _ ⟨k1, j3, C3, hk3, hj3, hk1, hY3, rfl⟩;subst hj3;refine zU rfl (TO.lss rfl rfl rfl rfl rfl (fun c80 hc80=>zN (zS ?_)));cases c80 with
       | true =>
        replace hc80 := btrue hc80;refine zC rfl (zK (zS (zB (zU rfl (zM R4 (zA R4 (zN (zU rfl (zM R4 (zM R4 (zM R4 (zM R4 (zV R3 (Val.add rfl rfl aO) (zV R3 (Val.build (cs := [_, _, _, _]) (vs := [(_, _), (_, _), (_, _), (_, _)]) rfl rfl rfl) (TO.perm (hs' := C3 ++ [_, _, _]) List.perm_append_comm (TO.callY rfl rfl rfl rfl rfl (hy (leavesFrom 0 (b.gs.l.take i) ++ (List.range n).flatMap (numLeaves (i : Int) g) ++ ownLeaf (i : Int) (n : Int) g ++ newLeaves (i : Int) (n : Int) k1) ⟨(i : Int), (n : Int), (k1 : Int) + 1, 2⟩ _ [] C3 _ (by rw [List.append_assoc, ← newLeaves_succ]; exact new_first eg hc35 (by rw [hov.1, ← hmo]; omega)) ⟨rfl, rfl⟩ hY3) ?_))))))))))))))));rintro _ _ (⟨rfl, C9, rfl, hY9⟩ | ⟨rfl, C9, rfl, hZ9⟩)
        ·skip;refine TO.perm (hs' := [_, _, _] ++ C9) List.perm_append_comm (zG (_::_::_::C9) rfl (zV R3 (Val.not rfl) (zN (zD rfl (zK (zT rfl (zV R3 (Val.add rfl rfl aO) (zM R4 (zN ?_)))))))))
         refine ⟨_, _, aO, ⟨k1 + 1, _, _, rfl, (by first | omega | simp_all), (by first | omega | simp_all), (by rw [newLeaves_succ, ← List.append_assoc]; exact hY9), rfl⟩, ⟨rfl, (keep_cons rfl (keep_cons rfl (keep_cons rfl (keep_cons rfl (keep_cons rfl (keep_cons rfl (keep_cons rfl (keep_cons rfl (keep_cons rfl (keep_cons rfl (keep_cons rfl (keep_cons rfl (keep_cons rfl keep_nil))))))))))))), (.cons_cons _ (.cons_cons _ (.cons_cons _ (.refl _))))⟩⟩
        ·skip;refine TO.perm (hs' := [_, _, _] ++ C9) List.perm_append_comm (zG (_::_::_::C9) rfl (zV R3 (Val.not rfl) (zN (zC rfl (T.keep (s' := ⟨[], [], _ :: C9⟩) (sc (.cons _ (.cons _ (.cons_cons _ (.refl _))))) (zR ?_))))))
         obtain ⟨r9, hr9⟩ := new_first (j := k1 + 1) eg hc35 (by rw [hov.1, ← hmo]; omega); exact ⟨rfl, _, rfl, C9, rfl, .inr ⟨_, r9, hr9.symm, by rw [newLeaves_succ, ← List.append_assoc]; exact hZ9⟩⟩
       | false =>
        replace hc80 := bfalse hc80
        have hkm : k1 = mo.toNat := by omega
        have enum : numLeaves (i : Int) g n = ownLeaf (i : Int) (n : Int) g ++ newLeaves (i : Int) (n : Int) k1 := by unfold numLeaves; rw [hov.1, ← hmo, hkm]
        refine zD rfl (zE (zT rfl (zV R3 (Val.add rfl rfl aO) (zM R4 (zN ?_)))));refine ⟨_, _, aO, ⟨n + 1, _, _, _, _, rfl, (by first | omega | simp_all), (by first | omega | simp_all), (by exact hw3), (by intro c hc; have := hov.2.1 c hc; omega), (by intro c hc; have := hov.2.2 c hc; omega), (by rw [range_flat_succ, enum, ← List.append_assoc, ← List.append_assoc]; exact hY3), rfl⟩, ⟨rfl, (keep_cons rfl (keep_cons rfl (keep_cons rfl (keep_cons rfl (keep_cons rfl (keep_cons rfl (keep_cons rfl (keep_cons rfl (keep_cons rfl (keep_cons rfl keep_nil)))))))))), (.cons_cons _ (.cons_cons _ (.cons_cons _ (.refl _))))⟩⟩
      ·skip;refine TO.perm (hs' := [_, _, _, _] ++ C9) List.perm_append_comm (zG (_::_::_::_::C9) rfl (zV R3 (Val.not rfl) (zP R6 (zN (zC rfl (T.keep (s' := ⟨[], [], _ :: C9⟩) (sc (.cons _ (.cons _ (.cons _ (.cons_cons _ (.refl _)))))) (zR ?_)))))))
       obtain ⟨r9, hr9⟩ := new_first (j := 0) eg hc35 (Nat.zero_le _); exact ⟨rfl, _, rfl, C9, rfl, .inr ⟨_, r9, hr9.symm, by rw [hown, show newLeaves (i : Int) (n : Int) 0 = [] from rfl, List.append_nil]; exact hZ9⟩⟩
     | false =>
      replace hth := bfalse hth
      have hown : ownLeaf (i : Int) (n : Int) g = [] := by unfold ownLeaf; rw [hov.1, if_neg hth]
      refine zO R3 (zO R3 (zO R3 (zO R3 (zP R6 (zN (zD rfl (zK (zU rfl (zM R4 (zM R4 (zN (zB (T.loop (fun μ s => ∃ k1 : Nat, ∃ j3 : Int, ∃ C3 : List Thing, μ = mo.toNat - k1 ∧ j3 = k1 ∧ (k1 : Int) ≤ max 0 mo ∧ Y (leavesFrom 0 (b.gs.l.take i) ++ (List.range n).flatMap (numLeaves (i : Int) g) ++ ownLeaf (i : Int) (n : Int) g ++ newLeaves (i : Int) (n : Int) k1) C3 ∧ s = ⟨[], [(0, .yield l), (1, .ptr bx 0 2), (16, b.gs.v), (17, iv (b.gs.l.length : Int)), (18, iv (i : Int)), (3, iv (i : Int)), (4, .ptr b4 0 4), (5, w3), (33, iv (g.leaves + 1)), (34, iv (n : Int)), (6, iv (n : Int)), (78, iv mo), (79, iv j3)], (ownL false v26 encC g.ch.l) :: (.row b4 4 [iv g.round, iv g.letter, iv g.leaves, g.ch.v]) :: (.row bx 2 [iv b.signed, b.gs.v]) :: C3⟩) (k := _) (s' := _) ⟨0, 0, _, rfl, (by first | rfl | omega | (simp; done) | (simp; omega) | simp_all), (by first | rfl | omega | (simp; done) | (simp; omega) | simp_all), (by rw [hown, show newLeaves (i : Int) (n : Int) 0 = [] from rfl, List.append_nil]; first | exact hY9 | (rw [List.append_nil]; exact hY2)), rfl⟩ ⟨rfl, (keep_cons rfl (keep_cons rfl (keep_cons rfl (keep_cons rfl (keep_cons rfl (keep_cons rfl (keep_cons rfl (keep_cons rfl (keep_cons rfl (keep_cons rfl (keep_cons rfl (keep_cons rfl (keep_cons rfl keep_nil))))))))))))), (.cons _ (.cons_cons _ (.cons_cons _ (.cons_cons _ (.refl _)))))⟩ ?_)))))))))))));rintro μ _ ⟨k1, j3, C3, hk3, hj3, hk1, hY3, rfl⟩;subst hj3;refine zU rfl (TO.lss rfl rfl rfl rfl rfl (fun c80 hc80=>zN (zS ?_)));cases c80 with
      | true =>
       replace hc80 := btrue hc80;refine zC rfl (zK (zS (zB (zU rfl (zM R4 (zA R4 (zN (zU rfl (zM R4 (zM R4 (zM R4 (zM R4 (zV R3 (Val.add rfl rfl aO) (zV R3 (Val.build (cs := [_, _, _, _]) (vs := [(_, _), (_, _), (_, _), (_, _)]) rfl rfl rfl) (TO.perm (hs' := C3 ++ [_, _, _]) List.perm_append_comm (TO.callY rfl rfl rfl rfl rfl (hy (leavesFrom 0 (b.gs.l.take i) ++ (List.range n).flatMap (numLeaves (i : Int) g) ++ ownLeaf (i : Int) (n : Int) g ++ newLeaves (i : Int) (n : Int) k1) ⟨(i : Int), (n : Int), (k1 : Int) + 1, 2⟩ _ [] C3 _ (by rw [List.append_assoc, ← newLeaves_succ]; exact new_first eg hc35 (by rw [hov.1, ← hmo]; omega)) ⟨rfl, rfl⟩ hY3) ?_))))))))))))))));rintro _ _ (⟨rfl, C9, rfl, hY9⟩ | ⟨rfl, C9, rfl, hZ9⟩)
       ·skip;refine TO.perm (hs' := [_, _, _] ++ C9) List.perm_append_comm (zG (_::_::_::C9) rfl (zV R3 (Val.not rfl) (zN (zD rfl (zK (zT rfl (zV R3 (Val.add rfl rfl aO) (zM R4 (zN ?_)))))))))
        refine ⟨_, _, aO, ⟨k1 + 1, _, _, rfl, (by first | omega | simp_all), (by first | omega | simp_all), (by rw [newLeaves_succ, ← List.append_assoc]; exact hY9), rfl⟩, ⟨rfl, (keep_cons rfl (keep_cons rfl (keep_cons rfl (keep_cons rfl (keep_cons rfl (keep_cons rfl (keep_cons rfl (keep_cons rfl (keep_cons rfl (keep_cons rfl (keep_cons rfl (keep_cons rfl (keep_cons rfl keep_nil))))))))))))), (.cons_cons _ (.cons_cons _ (.cons_cons _ (.refl _))))⟩⟩
       ·skip;refine TO.perm (hs' := [_, _, _] ++ C9) List.perm_append_comm (zG (_::_::_::C9) rfl (zV R3 (Val.not rfl) (zN (zC rfl (T.keep (s' := ⟨[], [], _ :: C9⟩) (sc (.cons _ (.cons _ (.cons_cons _ (.refl _))))) (zR ?_))))))
        obtain ⟨r9, hr9⟩ := new_first (j := k1 + 1) eg hc35 (by rw [hov.1, ← hmo]; omega); exact ⟨rfl, _, rfl, C9, rfl, .inr ⟨_, r9, hr9.symm, by rw [newLeaves_succ, ← List.append_assoc]; exact hZ9⟩⟩
      | false =>
       replace hc80 := bfalse hc80
       have hkm : k1 = mo.toNat := by omega
       have enum : numLeaves (i : Int) g n = ownLeaf (i : Int) (n : Int) g ++ newLeaves (i : Int) (n : Int) k1 := by unfold numLeaves; rw [hov.1, ← hmo, hkm]
       refine zD rfl (zE (zT rfl (zV R3 (Val.add rfl rfl aO) (zM R4 (zN ?_)))));refine ⟨_, _, aO, ⟨n + 1, _, _, _, _, rfl, (by first | omega | simp_all), (by first | omega | simp_all), (by exact hw3), (by intro c hc; have := hov.2.1 c hc; omega), (by intro c hc; have := hov.2.2 c hc; omega), (by rw [range_flat_succ, enum, ← List.append_assoc, ← List.append_assoc]; exact hY3), rfl⟩, ⟨rfl, (keep_cons rfl (keep_cons rfl (keep_cons rfl (keep_cons rfl (keep_cons rfl (keep_cons rfl (keep_cons rfl (keep_cons rfl (keep_cons rfl (keep_cons rfl keep_nil)))))))))), (.cons_cons _ (.cons_cons _ (.cons_cons _ (.refl _))))⟩⟩
   | false =>
    replace hc44 := bfalse hc44
    have hov := hat.over hg5.order (.inl aO)
    have hmo4 : mo ≤ 4 := by rw [hmo]; exact plusOf_le fun c hc => (hg5.each c (List.mem_of_mem_take hc)).2.2.2.2
    refine zO R3 (zO R3 (zO R3 (zO R3 (zO R3 (zO R3 (zP R6 (zN (zD rfl (zE (zS (zU rfl (zM R4 (zM R4 ?_)))))))))))));cases th with
    | true =>
     replace hth := btrue hth
     have hown : ownLeaf (i : Int) (n : Int) g = [⟨i, n, 0, kd⟩] := by unfold ownLeaf; rw [hov.1, if_pos hth, ← hkd]
     refine zM R4 (zV R3 (vW 0 [_,_,_,_] R5 R4) (TO.perm (hs' := C2 ++ [_, _, _, _]) List.perm_append_comm (TO.callY rfl rfl rfl rfl rfl (hy (leavesFrom 0 (b.gs.l.take i) ++ (List.range n).flatMap (numLeaves (i : Int) g)) ⟨(i : Int), (n : Int), 0, kd⟩ _ [] C2 _ (hown ▸ own_first eg hc35) ⟨rfl, rfl⟩ hY2) ?_)));rintro _ _ (⟨rfl, C9, rfl, hY9⟩ | ⟨rfl, C9, rfl, hZ9⟩)
     ·skip;refine TO.perm (hs' := [_, _, _, _] ++ C9) List.perm_append_comm (zG (_::_::_::_::C9) rfl (zV R3 (Val.not rfl) (zP R6 (zN (zD rfl (zK (zU rfl (zM R4 (zM R4 (zN (zB (T.loop (fun μ s => ∃ k1 : Nat, ∃ j3 : Int, ∃ C3 : List Thing, μ = mo.toNat - k1 ∧ j3 = k1 ∧ (k1 : Int) ≤ max 0 mo ∧ Y (leavesFrom 0 (b.gs.l.take i) ++ (List.range n).flatMap (numLeaves (i : Int) g) ++ ownLeaf (i : Int) (n : Int) g ++ newLeaves (i : Int) (n : Int) k1) C3 ∧ s = ⟨[], [(0, .yield l), (1, .ptr bx 0 2), (16, b.gs.v), (17, iv (b.gs.l.length : Int)), (18, iv (i : Int)), (3, iv (i : Int)), (4, .ptr b4 0 4), (5, w3), (33, iv (g.leaves + 1)), (34, iv (n : Int)), (6, iv (n : Int)), (78, iv mo), (79, iv j3)], (ownL false v26 encC g.ch.l) :: (.row b4 4 [iv g.round, iv g.letter, iv g.leaves, g.ch.v]) :: (.row bx 2 [iv b.signed, b.gs.v]) :: C3⟩) (k := _) (s' := _) ⟨0, 0, _, rfl, (by first | rfl | omega | (simp; done) | (simp; omega) | simp_all), (by first | rfl | omega | (simp; done) | (simp; omega) | simp_all), (by rw [hown, show newLeaves (i : Int) (n : Int) 0 = [] from rfl, List.append_nil]; first | exact hY9 | (rw [List.append_nil]; exact hY2)), rfl⟩ ⟨rfl, (keep_cons rfl (keep_cons rfl (keep_cons rfl (keep_cons rfl (keep_cons rfl (keep_cons rfl (keep_cons rfl (keep_cons rfl (keep_cons rfl (keep_cons rfl (keep_cons rfl (keep_cons rfl (keep_cons rfl keep_nil))))))))))))), (.cons _ (.cons_cons _ (.cons_cons _ (.cons_cons _ (.refl _)))))⟩ ?_))))))))))))
      rintro μ _ ⟨k1, j3, C3, hk3, hj3, hk1, hY3, rfl⟩;subst hj3;refine zU rfl (TO.lss rfl rfl rfl rfl rfl (fun c80 hc80=>zN (zS ?_)));cases c80 with
      | true =>
       replace hc80 := btrue hc80;refine zC rfl (zK (zS (zB (zU rfl (zM R4 (zA R4 (zN (zU rfl (zM R4 (zM R4 (zM R4 (zM R4 (zV R3 (Val.add rfl rfl aO) (zV R3 (Val.build (cs := [_, _, _, _]) (vs := [(_, _), (_, _), (_, _), (_, _)]) rfl rfl rfl) (TO.perm (hs' := C3 ++ [_, _, _]) List.perm_append_comm (TO.callY rfl rfl rfl rfl rfl (hy (leavesFrom 0 (b.gs.l.take i) ++ (List.range n).flatMap (numLeaves (i : Int) g) ++ ownLeaf (i : Int) (n : Int) g ++ newLeaves (i : Int) (n : Int) k1) ⟨(i : Int), (n : Int), (k1 : Int) + 1, 2⟩ _ [] C3 _ (by rw [List.append_assoc, ← newLeaves_succ]; exact new_first eg hc35 (by rw [hov.1, ← hmo]; omega)) ⟨rfl, rfl⟩ hY3) ?_))))))))))))))));rintro _ _ (⟨rfl, C9, rfl, hY9⟩ | ⟨rfl, C9, rfl, hZ9⟩)
       ·skip;refine TO.perm (hs' := [_, _, _] ++ C9) List.perm_append_comm (zG (_::_::_::C9) rfl (zV R3 (Val.not rfl) (zN (zD rfl (zK (zT rfl (zV R3 (Val.add rfl rfl aO) (zM R4 (zN ?_)))))))))
        refine ⟨_, _, aO, ⟨k1 + 1, _, _, rfl, (by first | omega | simp_all), (by first | omega | simp_all), (by rw [newLeaves_succ, ← List.append_assoc]; exact hY9), rfl⟩, ⟨rfl, (keep_cons rfl (keep_cons rfl (keep_cons rfl (keep_cons rfl (keep_cons rfl (keep_cons rfl (keep_cons rfl (keep_cons rfl (keep_cons rfl (keep_cons rfl (keep_cons rfl (keep_cons rfl (keep_cons rfl keep_nil))))))))))))), (.cons_cons _ (.cons_cons _ (.cons_cons _ (.refl _))))⟩⟩
       ·skip;refine TO.perm (hs' := [_, _, _] ++ C9) List.perm_append_comm (zG (_::_::_::C9) rfl (zV R3 (Val.not rfl) (zN (zC rfl (T.keep (s' := ⟨[], [], _ :: C9⟩) (sc (.cons _ (.cons _ (.cons_cons _ (.refl _))))) (zR ?_))))))
        obtain ⟨r9, hr9⟩ := new_first (j := k1 + 1) eg hc35 (by rw [hov.1, ← hmo]; omega); exact ⟨rfl, _, rfl, C9, rfl, .inr ⟨_, r9, hr9.symm, by rw [newLeaves_succ, ← List.append_assoc]; exact hZ9⟩⟩
      | false =>
       replace hc80 := bfalse hc80
       have hkm : k1 = mo.toNat := by omega
       have enum : numLeaves (i : Int) g n = ownLeaf (i : Int) (n : Int) g ++ newLeaves (i : Int) (n : Int) k1 := by unfold numLeaves; rw [hov.1, ← hmo, hkm]
       refine zD rfl (zE (zT rfl (zV R3 (Val.add rfl rfl aO) (zM R4 (zN ?_)))));refine ⟨_, _, aO, ⟨n + 1, _, _, _, _, rfl, (by first | omega | simp_all), (by first | omega | simp_all), (by exact hw3), (by intro c hc; have := hov.2.1 c hc; omega), (by intro c hc; have := hov.2.2 c hc; omega), (by rw [range_flat_succ, enum, ← List.append_assoc, ← List.append_assoc]; exact hY3), rfl⟩, ⟨rfl, (keep_cons rfl (keep_cons rfl (keep_cons rfl (keep_cons rfl (keep_cons rfl (keep_cons rfl (keep_cons rfl (keep_cons rfl (keep_cons rfl (keep_cons rfl keep_nil)))))))))), (.cons_cons _ (.cons_cons _ (.cons_cons _ (.refl _))))⟩⟩
     ·skip;refine TO.perm (hs' := [_, _, _, _] ++ C9) List.perm_append_comm (zG (_::_::_::_::C9) rfl (zV R3 (Val.not rfl) (zP R6 (zN (zC rfl (T.keep (s' := ⟨[], [], _ :: C9⟩) (sc (.cons _ (.cons _ (.cons _ (.cons_cons _ (.refl _)))))) (zR ?_)))))))
      obtain ⟨r9, hr9⟩ := new_first (j := 0) eg hc35 (Nat.zero_le _); exact ⟨rfl, _, rfl, C9, rfl, .inr ⟨_, r9, hr9.symm, by rw [hown, show newLeaves (i : Int) (n : Int) 0 = [] from rfl, List.append_nil]; exact hZ9⟩⟩
    | false =>
     replace hth := bfalse hth
     have hown : ownLeaf (i : Int) (n : Int) g = [] := by unfold ownLeaf; rw [hov.1, if_neg hth]
     refine zO R3 (zO R3 (zO R3 (zO R3 (zP R6 (zN (zD rfl (zK (zU rfl (zM R4 (zM R4 (zN (zB (T.loop (fun μ s => ∃ k1 : Nat, ∃ j3 : Int, ∃ C3 : List Thing, μ = mo.toNat - k1 ∧ j3 = k1 ∧ (k1 : Int) ≤ max 0 mo ∧ Y (leavesFrom 0 (b.gs.l.take i) ++ (List.range n).flatMap (numLeaves (i : Int) g) ++ ownLeaf (i : Int) (n : Int) g ++ newLeaves (i : Int) (n : Int) k1) C3 ∧ s = ⟨[], [(0, .yield l), (1, .ptr bx 0 2), (16, b.gs.v), (17, iv (b.gs.l.length : Int)), (18, iv (i : Int)), (3, iv (i : Int)), (4, .ptr b4 0 4), (5, w3), (33, iv (g.leaves + 1)), (34, iv (n : Int)), (6, iv (n : Int)), (78, iv mo), (79, iv j3)], (ownL false v26 encC g.ch.l) :: (.row b4 4 [iv g.round, iv g.letter, iv g.leaves, g.ch.v]) :: (.row bx 2 [iv b.signed, b.gs.v]) :: C3⟩) (k := _) (s' := _) ⟨0, 0, _, rfl, (by first | rfl | omega | (simp; done) | (simp; omega) | simp_all), (by first | rfl | omega | (simp; done) | (simp; omega) | simp_all), (by rw [hown, show newLeaves (i : Int) (n : Int) 0 = [] from rfl, List.append_nil]; first | exact hY9 | (rw [List.append_nil]; exact hY2)), rfl⟩ ⟨rfl, (keep_cons rfl (keep_cons rfl (keep_cons rfl (keep_cons rfl (keep_cons rfl (keep_cons rfl (keep_cons rfl (keep_cons rfl (keep_cons rfl (keep_cons rfl (keep_cons rfl (keep_cons rfl (keep_cons rfl keep_nil))))))))))))), (.cons _ (.cons_cons _ (.cons_cons _ (.cons_cons _ (.refl _)))))⟩ ?_)))))))))))));rintro μ _ ⟨k1, j3, C3, hk3, hj3, hk1, hY3, rfl⟩;subst hj3;refine zU rfl (TO.lss rfl rfl rfl rfl rfl (fun c80 hc80=>zN (zS ?_)));cases c80 with
     | true =>
      replace hc80 := btrue hc80;refine zC rfl (zK (zS (zB (zU rfl (zM R4 (zA R4 (zN (zU rfl (zM R4 (zM R4 (zM R4 (zM R4 (zV R3 (Val.add rfl rfl aO) (zV R3 (Val.build (cs := [_, _, _, _]) (vs := [(_, _), (_, _), (_, _), (_, _)]) rfl rfl rfl) (TO.perm (hs' := C3 ++ [_, _, _]) List.perm_append_comm (TO.callY rfl rfl rfl rfl rfl (hy (leavesFrom 0 (b.gs.l.take i) ++ (List.range n).flatMap (numLeaves (i : Int) g) ++ ownLeaf (i : Int) (n : Int) g ++ newLeaves (i : Int) (n : Int) k1) ⟨(i : Int), (n : Int), (k1 : Int) + 1, 2⟩ _ [] C3 _ (by rw [List.append_assoc, ← newLeaves_succ]; exact new_first eg hc35 (by rw [hov.1, ← hmo]; omega)) ⟨rfl, rfl⟩ hY3) ?_))))))))))))))));rintro _ _ (⟨rfl, C9, rfl, hY9⟩ | ⟨rfl, C9, rfl, hZ9⟩)
      ·skip;refine TO.perm (hs' := [_, _, _] ++ C9) List.perm_append_comm (zG (_::_::_::C9) rfl (zV R3 (Val.not rfl) (zN (zD rfl (zK (zT rfl (zV R3 (Val.add rfl rfl aO) (zM R4 (zN ?_)))))))))
       refine ⟨_, _, aO, ⟨k1 + 1, _, _, rfl, (by first | omega | simp_all), (by first | omega | simp_all), (by rw [newLeaves_succ, ← List.append_assoc]; exact hY9), rfl⟩, ⟨rfl, (keep_cons rfl (keep_cons rfl (keep_cons rfl (keep_cons rfl (keep_cons rfl (keep_cons rfl (keep_cons rfl (keep_cons rfl (keep_cons rfl (keep_cons rfl (keep_cons rfl (keep_cons rfl (keep_cons rfl keep_nil))))))))))))), (.cons_cons _ (.cons_cons _ (.cons_cons _ (.refl _))))⟩⟩
      ·skip;refine TO.perm (hs' := [_, _, _] ++ C9) List.perm_append_comm (zG (_::_::_::C9) rfl (zV R3 (Val.not rfl) (zN (zC rfl (T.keep (s' := ⟨[], [], _ :: C9⟩) (sc (.cons _ (.cons _ (.cons_cons _ (.refl _))))) (zR ?_))))))
       obtain ⟨r9, hr9⟩ := new_first (j := k1 + 1) eg hc35 (by rw [hov.1, ← hmo]; omega); exact ⟨rfl, _, rfl, C9, rfl, .inr ⟨_, r9, hr9.symm, by rw [newLeaves_succ, ← List.append_assoc]; exact hZ9⟩⟩
     | false =>
      replace hc80 := bfalse hc80
      have hkm : k1 = mo.toNat := by omega
      have enum : numLeaves (i : Int) g n = ownLeaf (i : Int) (n : Int) g ++ newLeaves (i : Int) (n : Int) k1 := by unfold numLeaves; rw [hov.1, ← hmo, hkm]
      refine zD rfl (zE (zT rfl (zV R3 (Val.add rfl rfl aO) (zM R4 (zN ?_)))));refine ⟨_, _, aO, ⟨n + 1, _, _, _, _, rfl, (by first | omega | simp_all), (by first | omega | simp_all), (by exact hw3), (by intro c hc; have := hov.2.1 c hc; omega), (by intro c hc; have := hov.2.2 c hc; omega), (by rw [range_flat_succ, enum, ← List.append_assoc, ← List.append_assoc]; exact hY3), rfl⟩, ⟨rfl, (keep_cons rfl (keep_cons rfl (keep_cons rfl (keep_cons rfl (keep_cons rfl (keep_cons rfl (keep_cons rfl (keep_cons rfl (keep_cons rfl (keep_cons rfl keep_nil)))))))))), (.cons_cons _ (.cons_cons _ (.cons_cons _ (.refl _))))⟩⟩
  | false =>
   replace hc35 := bfalse hc35
   have hn1 : (g.leaves + 1).toNat = n := by omega
   refine zD rfl (zE (zT rfl (zV R3 (Val.add rfl rfl aO) (zM R4 (zN ?_)))));refine ⟨_, _, aO, ⟨i + 1, _, _, rfl, (by first | omega | simp_all), (by first | omega | simp_all), (by rw [take_snoc eg, leavesFrom_snoc, List.length_take, Nat.min_eq_left aO, Nat.zero_add]; unfold gatLeaves; rw [hn1]; exact hY2), rfl⟩, ⟨rfl, (keep_cons rfl (keep_cons rfl (keep_cons rfl (keep_cons rfl (keep_cons rfl keep_nil))))), (.cons _ (.cons _ (.cons_cons _ (.refl _))))⟩⟩
 | false =>
  replace hc19 := bfalse hc19;refine zD rfl (zE ?_);exact ⟨rfl, _, rfl, C1, rfl, .inl (by rw [List.take_of_length_le aO] at hY1; exact hY1)⟩
theorem q_Leaves (b : Book)  : Comes (EL 3) 57 [.agg (encB.f b)] (.tuple [(GSo true encL (if (bookErr b).2.2 = 0 then leavesOf b else [])).v, iv (bookErr b).2.2]) := by
 have hgood := fun h => book_good (b := b) h
 refine Comes.of (TF.enter (fn := Go.Proofs.Try.f57) rfl rfl rfl rfl rfl ?_);refine zU rfl (zQ 2 [_,_] R7 (fun b1=>zA R4 (zA R4 (zN (zU rfl (zV R3 (vW 0 [_,_] R5 R4) (TO.callIn rfl rfl rfl rfl rfl rfl (orcN rfl) (TF.enterG (fn := Go.Proofs.Try.f82) rfl rfl rfl rfl rfl (zU rfl (zQ 2 [_,_] R7 (fun b1_2=>zJ 2 [_,_] R7 (fun b2=>zA R4 (zN (zU rfl (zV R3 (vW 1 [_,_] R5 R4) (TO.call rfl rfl rfl rfl rfl (orcL rfl aD) (.cons (.agg (.cons .lit (.cons .gs .nil))) .nil) (sem_of (q_Check _ )) (zM R4 (zX R5 (zX R5 (zX R5 (zA R4 (zA R4 (zA R4 (zN (zU rfl (zV R3 (vW 1 [_,_] R5 R4) (zV R3 (Val.build (cs := [_, _]) (vs := [(_, _)]) rfl rfl rfl) (zM R4 (TO.store_row (p := 0) (cv := [_, _]) (cells' := [_, _]) rfl rfl rfl rfl rfl rfl rfl rfl rfl rfl (by first | rfl | simp [GS.one]) (by decide) rfl (zG ([_,_,_]) rfl (zA R4 (zN (zR ?_)))))))))))))))))))))))))))))))));refine ⟨rfl, _, rfl, [_, _], ⟨⟨_, rfl, LoadR.rows (p := 0) (c := [_, _]) rfl ⟨⟨_, rfl, rfl⟩, rfl, by decide⟩ rfl rfl rfl⟩, ⟨rfl, trivial⟩⟩, ?_⟩;refine zG ([_,_,_]) rfl (zM R4 (zX R5 (zX R5 (zJ 2 [_,_] R7 (fun b4=>TO.store_row (p := 0) (cv := [_, _]) (cells' := [_, _]) rfl rfl rfl rfl rfl rfl rfl rfl rfl rfl (by first | rfl | simp [GS.one]) (by decide) rfl (zG ([_,_,_,_]) rfl (zA R4 (zN (zS (zU rfl (zM R4 (TO.neq rfl rfl rfl rfl rfl (fun c12 hc12=>zN ?_)))))))))))));cases c12 with
 | true =>
  replace hc12 := btrue hc12;refine zC rfl (zU rfl (zM R4 (zA R4 (zA R4 (zN (zR ?_))))));exact ⟨rfl, _, rfl, RefN.cast (.tuple (.cons .lit (.cons .lit .nil))) (by rw [if_neg hc12]; rfl)⟩
 | false =>
  replace hc12 := bfalse hc12
  have hb := book_good (b := b) aO;refine zD rfl (zK (zU rfl (zV R3 (vW 0 [_,_] R5 R4) (TO.callIn rfl rfl rfl rfl rfl rfl (orcN rfl) (TF.enter (fn := Go.Proofs.Try.f84) rfl rfl rfl rfl rfl (zU rfl (zQ 2 [_,_] R7 (fun b1_3=>zA R4 (zN (zU rfl (zV R3 (Val.makeFunc rfl rfl) (zA R4 (zN (zR ?_))))))))))))));refine ⟨rfl, _, rfl, ?_⟩;refine TO.callIn rfl rfl rfl rfl rfl rfl (orcN rfl) (TF.enter (fn := Go.Proofs.Try.f83) rfl rfl rfl rfl rfl (zU rfl (zA R4 (zN (zU rfl (zM R4 (TO.callIn rfl rfl rfl rfl rfl rfl (orcN rfl) (TF.enterG (fn := Go.Proofs.Try.f102) rfl rfl rfl rfl rfl (zU rfl (zQ 1 [_] R7 (fun b2_2=>zA R4 (zN (zS (zU rfl (zM R4 (zN (zB (T.nilown (u := encL.u) (T.keep (s' := ⟨[], [(2, _), (6, _)], [_, _, _]⟩) (sc (.cons_cons _ (.cons_cons _ (.cons_cons _ (.cons _ (.cons _ (.cons _ (.cons _ .slnil)))))))) (T.pick (p := 1) rfl (T.things (hs' := [_, _, _]) rfl (T.pick (p := 2) rfl (T.things (hs' := [_, _, _]) rfl ?_)))))))))))))))))))))));refine T.range0 (ArgL) ((· <+: leavesOf b)) (leavesOf b) (fun vis A => ∃ v, A = [.row b2_2 1 [v], ownL true v encL vis] ∧ vis.length ≤ 1950) (fun _ _ _ => False) [_] [_, _] (by rfl) (by rfl) (by rfl) (.refl _) ⟨_, rfl, by decide⟩ ?_ ?_ ?_ ?_
  ·exact fun l YY ZZ hv C hY => lv_iter hb hv C hY
  ·intro l d vis a vs G A B hP ha hA;obtain ⟨rfl, rfl⟩ := ha;obtain ⟨v, rfl, hvl⟩ := hA;refine ⟨_, rfl, fun LR LB hLB => ?_⟩;refine T.things (hs' := _ :: _ :: _ :: B) rfl (zT rfl (zJ 4 [_,_,_,_] R7 (fun b5=>TO.store_row (p := 0) (cv := [_, _, _, _]) (cells' := [_, _, _, _]) rfl rfl rfl rfl rfl rfl rfl rfl rfl rfl (by first | rfl | simp [GS.one]) (by decide) rfl (zG (_::_::_::_::B) rfl (zN ?_)))));refine ⟨rfl, 1, rfl, ?_⟩;refine T.things (hs' := _ :: _ :: _ :: _ :: B) rfl (zB (zT rfl (zL 2 R3 R6 (zV R3 (vW 0 [_,_,_,_] R5 R4) (TO.build1 (en := encL) (a := ⟨_, _, _, _⟩) rfl rfl rfl ⟨rfl, rfl⟩ ⟨_, rfl, rfl⟩ (by decide) (by decide) rfl rfl (fun v10=>TO.append_own (b := 32) (en := encL) (l := _) (l2 := _) (p := 4) (q := 0) rfl rfl rfl ⟨rfl, rfl, rfl, ⟨_, rfl, rfl⟩, by decide, by decide⟩ rfl rfl rfl rfl rfl rfl (en_ones encL_ones _) (by simp; omega) (fun v11=>zG (_::_::_::_::_::B) rfl (TO.ownfact (p := 4) rfl (fun hoown=>TO.store_row (p := 3) (cv := [_]) (cells' := [_]) rfl rfl rfl rfl rfl rfl rfl hoown.1 rfl rfl (by simp [hoown.2]) (by decide) rfl (zG (_::_::_::_::_::B) rfl (zN ?_)))))))))));exact ⟨[_, _], (.cons _ (.cons _ (.cons_cons _ (.cons_cons _ (.cons_cons _ (.refl _)))))), .inl ⟨rfl, ⟨_, rfl, Nat.le_trans hP.length_le (leaves_len hb.fits)⟩⟩⟩
  ·intro d A hA;obtain ⟨v, rfl, hvl⟩ := hA;refine T.things (hs' := [_, _, _, _]) rfl (zU rfl (zL 2 R3 R6 (zA R4 (zN (zR ?_)))));refine ⟨rfl, _, ⟨1, rfl, rfl⟩, [_], ⟨rfl, trivial⟩, ?_⟩;refine zG ([_,_,_]) rfl (zA R4 (zN (zR ?_)));refine ⟨rfl, _, rfl, ?_⟩;refine zA R4 (zA R4 (zN (zR ?_)));exact ⟨rfl, _, rfl, RefN.cast (.tuple (.cons (.ownL (en := encL) (p := 2) rfl (.lits encL_lits)) (.cons .lit .nil))) (by have h0 : (bookErr b).2.2 = 0 := (by omega); simp [h0])⟩
  ·exact fun d e q r A hq hZ => hZ.elim
end Go.Am.Ythckcbfijdambaa
end
section
namespace Go.Am.Ythckcbfijdambaa
open Go.Am Go.RowKit
set_option linter.unusedVariables false
set_option linter.unusedSimpArgs false
theorem s_IndexL (l : GS encL) (x : Leaf) (hb : l.l.length < 4611686018427387904) : Comes (EL 0) 87 [l.v, .agg (encL.f x)] (iv (idxOf x l.l)) := by
 refine Comes.of (TF.enter (fn := Go.Proofs.Try.f87) rfl rfl rfl rfl rfl ?_);refine zU rfl (zQ 4 [_,_,_,_] R7 (fun b3=>zA R4 (zN (zS (zU rfl (zM R4 (zV R3 (Val.len_gs rfl rfl) (zM R4 (zN (zB (T.loop (fun μ s => ∃ i : Nat, ∃ j : Int, μ = l.l.length - i ∧ j = i ∧ i ≤ l.l.length ∧ idxOf x l.l = idxFrom x i (l.l.drop i) ∧ s = ⟨[], [(0, l.v), (3, .ptr b3 0 4), (7, iv (l.l.length : Int)), (8, iv j)], [.row b3 4 [iv x.g, iv x.num, iv x.plus, iv x.kind]]⟩) (k := _) (s' := _) ⟨0, 0, rfl, (by first | rfl | omega | (simp; done) | (simp; omega) | simp_all), (by first | rfl | omega | (simp; done) | (simp; omega) | simp_all), (by rfl), rfl⟩ ⟨rfl, (keep_cons rfl (keep_cons rfl (keep_cons rfl (keep_cons rfl keep_nil)))), (.cons_cons _ .slnil)⟩ ?_)))))))))));rintro μ _ ⟨i, j, hk0, hj, hi, he, rfl⟩;subst hj;refine zU rfl (TO.lss rfl rfl rfl rfl rfl (fun c9 hc9=>zN (zS ?_)));cases c9 with
 | true =>
  replace hc9 := btrue hc9;refine zC rfl (zK (zS (zB (zU rfl (zM R4 (zA R4 (zN (zS (T.draw (fun v => sameC_refl v) (l1 := [0, 1, 2, 3, 4, 5]) (l2 := []) (by kernel_rfl) (by kernel_rfl) (zV R3 (vW 0 [_,_,_,_] R5 R4) (zM R4 (zM R4 (TO.index_gs rfl rfl rfl ⟨rfl, rfl⟩ rfl rfl aO (fun y ry ey=>?_))))))))))))))
  try simp only [Int.toNat_natCast] at ey
  refine zV R3 (Val.load_trees (c := _) ⟨⟨_, rfl, rfl⟩, rfl, by decide⟩ rfl rfl) (TO.binP rfl rfl rfl rfl rfl (eql_ty104 _ _ _ _ _ _ _ _ _ _) (fun c16 hc16=>zN ?_));cases c16 with
  | true =>
   replace hc16 := btrue hc16;refine zC rfl (zU rfl (zM R4 (zA R4 (zN (zR ?_)))));exact ⟨rfl, _, rfl, RefN.cast .lit (by rw [he, drop_cons ey, idxFrom, if_pos (leaf_ext.1 hc16)])⟩
  | false =>
   replace hc16 := bfalse hc16;refine zD rfl (zK (zT rfl (zV R3 (Val.add rfl rfl aO) (zM R4 (zN ?_)))));refine ⟨_, _, aO, ⟨i + 1, _, rfl, (by first | omega | simp_all), (by first | omega | simp_all), (by rw [he, drop_cons ey, idxFrom, if_neg (fun e => hc16 (leaf_ext.2 e))]), rfl⟩, ⟨rfl, (keep_cons rfl (keep_cons rfl (keep_cons rfl (keep_cons rfl keep_nil)))), (.cons_cons _ .slnil)⟩⟩
 | false =>
  replace hc9 := bfalse hc9;refine zD rfl (zE (zU rfl (zA R4 (zN (zR ?_)))));exact ⟨rfl, _, rfl, RefN.cast .lit (by rw [he, List.drop_eq_nil_of_le aO, idxFrom])⟩
theorem q_Mate (b : Book) (n : Int)  : Comes (EL 4) 59 [.agg (encB.f b), iv n] (.tuple [iv (mateOf b n).1, iv (mateOf b n).2]) := by
 refine Comes.of (TF.enter (fn := Go.Proofs.Try.f59) rfl rfl rfl rfl rfl ?_);refine zU rfl (zQ 2 [_,_] R7 (fun b2=>zA R4 (zA R4 (zN (zU rfl (zV R3 (vW 0 [_,_] R5 R4) (TO.call rfl rfl rfl rfl rfl (orcL rfl aD) (.cons (.agg (.cons .lit (.cons .gs .nil))) .nil) (sem_of (q_Leaves _ )) (zM R4 (zX R5 (zX R5 (zA R4 (zA R4 (zN (zS (zB (zU rfl (zM R4 (TO.neq rfl rfl rfl rfl rfl (fun c17 hc17=>zA R4 (zN ?_))))))))))))))))))));cases c17 with
 | true =>
  replace hc17 := btrue hc17;refine zC rfl (zU rfl (zM R4 (zA R4 (zA R4 (zN (zR ?_))))));exact ⟨rfl, _, rfl, RefN.cast (.tuple (.cons .lit (.cons .lit .nil))) (by unfold mateOf; rw [if_pos hc17])⟩
 | false =>
  replace hc17 := bfalse hc17
  have h0 : (bookErr b).2.2 = 0 := by omega
  have hb := book_good h0
  have hll := leaves_len hb.fits;rw [if_pos h0];refine zD rfl (zU rfl (zM R4 (zV R3 (Val.len_gso rfl rfl) (zV R3 (Val.sub rfl rfl aO) (zM R4 (TO.build1 (en := encI) (a := _) rfl rfl rfl ⟨rfl, rfl⟩ ⟨_, rfl, rfl⟩ (by decide) (by decide) rfl rfl (fun v24=>TO.callD rfl rfl rfl rfl rfl (orcL rfl aD) (.cons .lit (.cons .lit (.cons (.ownL (p := 0) rfl .ints) .nil))) (sem_of (q_out _ _ _ (by exact out1_small))) (fun c25 hc25=>?_))))))));replace hc25 := out1 hc25;refine zA R4 (zN ?_);cases c25 with
  | true =>
   replace hc25 := btrue hc25;refine zC rfl (zU rfl (zA R4 (zA R4 (zN (zR ?_)))));exact ⟨rfl, _, rfl, RefN.cast (.tuple (.cons .lit (.cons .lit .nil))) (by unfold mateOf; rw [if_neg aO]; split; rfl; rename_i h1; exfalso; split at h1; have := (List.getElem?_eq_some_iff.1 h1).1; omega; cases h1)⟩
  | false =>
   replace hc25 := bfalse hc25;refine zD rfl (zK (zU rfl (zM R4 (zM R4 (TO.index_gso rfl rfl rfl ⟨rfl, rfl⟩ rfl rfl aO (fun x rx ex=>?_))))))
   try simp only [Int.toNat_natCast] at ex
   have hxm := List.mem_of_getElem? ex;obtain ⟨g0, hg0, hg1, hg2, hx1, hx2⟩ := mem_leaves hxm;refine zV R3 (Val.load_trees (c := _) ⟨⟨_, rfl, rfl⟩, rfl, by decide⟩ rfl rfl) (zJ 4 [_,_,_,_] R7 (fun b8=>TO.store_row (p := 0) (cv := [_, _, _, _]) (cells' := [_, _, _, _]) rfl rfl rfl rfl rfl rfl rfl rfl rfl rfl (by first | rfl | simp [GS.one]) (by decide) rfl (zG ([_,_,_]) rfl (zN (zS (T.drawE (l1 := [0, 1, 2, 3, 4, 5, 6, 7, 8, 9, 10, 11]) (l2 := [12]) (by kernel_rfl) (by kernel_rfl) (yL R4 (Val.faddr_ptr (fo := 1) rfl rfl rfl) (yR R4 (vR (p := 2) R6) (yL R4 (Val.faddr_ptr (fo := 0) rfl rfl rfl) (yR R4 (vR (p := 0) R6) (TD1.index_gs rfl rfl rfl ⟨rfl, rfl⟩ rfl rfl aO (fun g rg eg=>?_))))))))))))
   try simp only [Int.toNat_natCast] at eg
   have e34 := Option.some.inj (hg0.symm.trans eg);subst e34;obtain ⟨-, hgl1, hgl2, -, -⟩ := hb.each g0 (List.mem_of_getElem? hg0);refine yL R4 (Val.faddr_tree (fo := 2) rfl rfl rfl rfl) (yR R4 (Val.load_tree ⟨_, rfl, rfl⟩ rfl) (yL R4 (Val.add rfl rfl aO) (yL R4 (Val.faddr_ptr (fo := 1) rfl rfl rfl) (yR R4 (vR (p := 0) R6) (yL R4 (Val.sub rfl rfl aO) (yL R4 (Val.faddr_ptr (fo := 1) rfl rfl rfl) (TD1.over (fun v => sameC_refl v) (all_cons (⟨_, rfl, (vR (p := 0) R6)⟩) (all_cons (⟨_, rfl, (Val.load_tree ⟨_, rfl, rfl⟩ rfl)⟩) (all_cons (⟨_, rfl, (vR (p := 0) R6)⟩) (all_cons (⟨_, rfl, (vR (p := 2) R6)⟩) all_nil)))) (TD2.heavy (fun v => sameC_refl v) rfl (by decide) rfl rfl (OpS.eff (Eff.store_row (p := 0) (cv := [_]) (cells' := [_, _, _, _]) rfl rfl rfl rfl rfl rfl rfl rfl (by first | rfl | simp [GS.one]) (by decide) rfl)) ?_))))))));rintro _ _ rfl;refine ⟨(all_cons (.inl (by kernel_rfl)) (all_cons (.inl (by kernel_rfl)) (all_cons (.inl (by kernel_rfl)) (all_cons (.inl (by kernel_rfl)) all_nil)))), all_nil, ?_⟩;refine yG ([_,_,_]) rfl (TD2.nil (zS (zU rfl (zM R4 (zV R3 (vW 0 [_,_,_,_] R5 R4) (TO.call rfl rfl rfl rfl rfl (orcL rfl aD) (.cons .gs (.cons (.agg (.cons .lit (.cons .lit (.cons .lit (.cons .lit .nil))))) .nil)) (sem_of (s_IndexL _ ⟨x.g, g0.leaves + 1 - x.num, x.plus, x.kind⟩ (by show (leavesOf b).length < _; omega))) ?_))))));rw [show (GSo true encL (leavesOf b)).l = leavesOf b from rfl]
   have hmo : mateOf b n = if x.kind = 0 ∧ 0 ≤ idxOf (mirror b x) (leavesOf b) ∧ idxOf (mirror b x) (leavesOf b) ≠ n then (idxOf (mirror b x) (leavesOf b), 0) else (0, 4) := by unfold mateOf; rw [if_neg aO, if_pos aO, ex]
   have hmi : mirror b x = ⟨x.g, g0.leaves + 1 - x.num, x.plus, x.kind⟩ := by unfold mirror; rw [hg0]
   rw [hmi] at hmo
   have hir := idxFrom_range (x := ⟨x.g, g0.leaves + 1 - x.num, x.plus, x.kind⟩) (leavesOf b) 0
   change -1 ≤ idxOf _ _ ∧ idxOf _ _ < _ at hir
   refine zA R4 (zN (zU rfl (zF 3 R6 (zL 0 R3 R6 (TO.eql rfl rfl rfl rfl rfl (fun c47 hc47=>zM R4 ?_))))));cases c47 with
   | true =>
    replace hc47 := btrue hc47;refine zM R4 (TO.geq rfl rfl rfl rfl rfl (fun c50 hc50=>zP R6 (zM R4 ?_)));cases c50 with
    | true =>
     replace hc50 := btrue hc50;refine zM R4 (zM R4 (TO.neq rfl rfl rfl rfl rfl (fun c55 hc55=>zP R6 (zN ?_))));cases c55 with
     | true =>
      replace hc55 := btrue hc55;refine zC rfl (zU rfl (zM R4 (zA R4 (zA R4 (zN (zR ?_))))));exact ⟨rfl, _, rfl, RefN.cast (.tuple (.cons .lit (.cons .lit .nil))) (by rw [hmo]; split <;> first | rfl | (exfalso; omega))⟩
     | false =>
      replace hc55 := bfalse hc55;refine zD rfl (zK (zU rfl (zA R4 (zA R4 (zN (zR ?_))))));exact ⟨rfl, _, rfl, RefN.cast (.tuple (.cons .lit (.cons .lit .nil))) (by rw [hmo]; split <;> first | rfl | (exfalso; omega))⟩
    | false =>
     replace hc50 := bfalse hc50;refine zO R3 (zO R3 (zO R3 (zP R6 (zN (zD rfl (zK (zU rfl (zA R4 (zA R4 (zN (zR ?_)))))))))));exact ⟨rfl, _, rfl, RefN.cast (.tuple (.cons .lit (.cons .lit .nil))) (by rw [hmo]; split <;> first | rfl | (exfalso; omega))⟩
   | false =>
    replace hc47 := bfalse hc47;refine zO R3 (zO R3 (zP R6 (zM R4 (zO R3 (zO R3 (zO R3 (zP R6 (zN (zD rfl (zK (zU rfl (zA R4 (zA R4 (zN (zR ?_)))))))))))))));exact ⟨rfl, _, rfl, RefN.cast (.tuple (.cons .lit (.cons .lit .nil))) (by rw [hmo]; split <;> first | rfl | (exfalso; omega))⟩
end Go.Am.Ythckcbfijdambaa
end
section
namespace Go.Am.Ythckcbfijdambaa
open Go.Am Go.RowKit
set_option linter.unusedVariables false
set_option linter.unusedSimpArgs false
theorem w_r1_Check (s : Int) (g : GS encG) (r : Int × Int × Int) (h : P_r1_Check s g.l = some r) : Comes (EL 3) 63 [.agg [iv s, g.v]] (.tuple [iv r.1, iv r.2.1, iv r.2.2]) := by
 cases h; exact r1_Check ⟨s, g⟩
theorem w_r1_All (s : Int) (g : GS encG) (r : List Leaf) (h : P_r1_All s g.l = some r) : Comes (EL 1) 32 [.agg [iv s, g.v]] ((GSo true encL r).v) := by
 obtain ⟨hp, h⟩ := chk_some h; cases h; exact r1_All ⟨s, g⟩ ⟨hp.gs, hp.leaves⟩
theorem w_r1_Pair (s : Int) (g : GS encG) (n : Int) (r : Int) (h : P_r1_Pair s g.l n = some r) : Comes (EL 2) 22 [.agg [iv s, g.v], iv n] (iv r) := by
 obtain ⟨⟨hp, h0, h1⟩, h⟩ := chk_some h; cases h; have := r1_Pair ⟨s, g⟩ n.toNat ⟨hp.gs, hp.leaves⟩ h1; rw [Int.toNat_of_nonneg h0] at this; exact this
theorem w_q_Check (s : Int) (g : GS encG) (r : Int × Int × Int) (h : P_q_Check s g.l = some r) : Comes (EL 2) 56 [.agg [iv s, g.v]] (.tuple [iv r.1, iv r.2.1, iv r.2.2]) := by
 cases h; exact q_Check ⟨s, g⟩
theorem w_q_Leaves (s : Int) (g : GS encG) (r : List Leaf × Int) (h : P_q_Leaves s g.l = some r) : Comes (EL 3) 57 [.agg [iv s, g.v]] (.tuple [(GSo true encL r.1).v, iv r.2]) := by
 cases h; exact q_Leaves ⟨s, g⟩
theorem w_q_Mate (s : Int) (g : GS encG) (n : Int) (r : Int × Int) (h : P_q_Mate s g.l n = some r) : Comes (EL 4) 59 [.agg [iv s, g.v], iv n] (.tuple [iv r.1, iv r.2]) := by
 cases h; exact q_Mate ⟨s, g⟩ n
theorem w_c_outside (lo hi : Int) (x : GS encI) (r : Bool) (h : P_c_outside lo hi x.l = some r) : Comes (EL 0) 58 [iv lo, iv hi, x.v] (bv r) := by
 obtain ⟨hp, h⟩ := chk_some h; cases h; exact c_outside lo hi x hp
end Go.Am.Ythckcbfijdambaa
end
section
namespace Go.Am
set_option linter.unusedVariables false
structure S_copy_run where
 item : Int
 first : Int
 last : Int
def enc_copy_run : En S_copy_run := ⟨3, fun x => [iv x.item, iv x.first, iv x.last], fun _ => rfl⟩
theorem enc_copy_run_ones : enc_copy_run.Ones := fun x => by simp [enc_copy_run]
end Go.Am
end
section
namespace Go.Am
set_option linter.unusedVariables false
noncomputable def P_r4_in (n : Int) (low : Int) (high : Int) : Option Bool :=
  andx (
    if n ≥ low then
      some (decide (n ≤ high))
    else
      some false) fun x6 =>
    some x6
noncomputable def P_r4_item_L1 (x_Could : List Int) (leaves : Int) : Int → Option (Stp Int (Ex Unit Int)) := fun i =>
  if i < (x_Could.length : Int) then
    el x_Could i fun a21 =>
    chk (I64 (leaves - 1)) (
      andx (P_r4_in a21 0 (leaves - 1)) fun y25 =>
        if y25 = true then
          chk (I64 (i + 1)) (
            some (Stp.ag (i + 1)))
        else
          some (Stp.dn (Ex.rt 4)))
  else
    some (Stp.dn (Ex.nx ()))
noncomputable def P_r4_item_L2 (x_Could : List Int) : Int → Option (Stp Int (Ex Unit Int)) := fun i =>
  if i < (x_Could.length : Int) then
    el x_Could i fun a37 =>
    chk (I64 (i - 1)) (
      el x_Could (i - 1) fun a43 =>
      if a37 ≤ a43 then
        some (Stp.dn (Ex.rt 2))
      else
        chk (I64 (i + 1)) (
          some (Stp.ag (i + 1))))
  else
    some (Stp.dn (Ex.nx ()))
noncomputable def P_r4_item (x_Could : List Int) (leaves : Int) : Option Int :=
  if (x_Could.length : Int) > 4 then
    some 3
  else
    seqx (
      iter (P_r4_item_L1 x_Could leaves) 0) fun _ =>
      seqx (
        iter (P_r4_item_L2 x_Could) 1) fun _ =>
        some 0
noncomputable def P_c_there_L1 (t : List Int) : (Int × (Int → Int)) → Option (Stp (Int × (Int → Int)) (Int → Int)) := fun (x11, m) =>
  if x11 < (t.length : Int) then
    el t x11 fun a13 =>
    chk (I64 ((m a13) + 1)) (
      chk (I64 (x11 + 1)) (
        some (Stp.ag ((x11 + 1), putI m a13 ((m a13) + 1)))))
  else
    some (Stp.dn m)
noncomputable def P_c_there (x_CpCase_Book_Signed : Int) (x_CpCase_Book_Gatherings : List Gat) (x_CpCase_Items : List Item) (x_leaves : List Leaf) (x_mates : List Int) (t : List Int) : Option (Int → Int) :=
  andx (
    iter (P_c_there_L1 t) (0, (fun _ => 0))) fun m =>
    some m
noncomputable def P_c_lost_L1 (x_leaves : List Leaf) (y9 : Int → Int) : (Int × (List Int)) → Option (Stp (Int × (List Int)) (List Int)) := fun (x15, l) =>
  if x15 < (x_leaves.length : Int) then
    andx (
      if (y9 x15) = 0 then
        chk (l.length + [x15].length < 1000000000) (
          some (l ++ [x15]))
      else
        some l) fun l_2 =>
      chk (I64 (x15 + 1)) (
        some (Stp.ag ((x15 + 1), l_2)))
  else
    some (Stp.dn l)
noncomputable def P_c_lost (x_CpCase_Book_Signed : Int) (x_CpCase_Book_Gatherings : List Gat) (x_CpCase_Items : List Item) (x_leaves : List Leaf) (x_mates : List Int) (t : List Int) : Option (List Int) :=
  andx (P_c_there x_CpCase_Book_Signed x_CpCase_Book_Gatherings x_CpCase_Items x_leaves x_mates t) fun y9 =>
    andx (
      iter (P_c_lost_L1 x_leaves y9) (0, [])) fun l =>
      some l
noncomputable def P_c_moved_L2 (l : List S_copy_run) (i : Int) : (Int × (List Int)) → Option (Stp (Int × (List Int)) (List Int)) := fun (k_, many_2) =>
  if k_ < (l.length : Int) then
    andx (
      el l k_ fun a27 =>
      el l i fun a32 =>
      if a27.first > a32.last then
        chk ((many_2.length : Int) * 1 = 120) (
          el many_2 i fun a38 =>
          chk ((many_2.length : Int) * 1 = 120) (
            el many_2 k_ fun a41 =>
            chk ((many_2.length : Int) * 1 = 120) (
              el many_2 i fun a44 =>
              some (List.set many_2 i.toNat (max a38 a41)))))
      else
        some many_2) fun many_3 =>
      chk (I64 (k_ + 1)) (
        some (Stp.ag ((k_ + 1), many_3)))
  else
    some (Stp.dn many_2)
noncomputable def P_c_moved_L1 (l : List S_copy_run) : (Int × Int × (List Int)) → Option (Stp (Int × Int × (List Int)) (Int × (List Int))) := fun (best, i, many) =>
  if i ≥ 0 then
    andx (
      andx (
        chk (I64 (i + 1)) (
          iter (P_c_moved_L2 l i) ((i + 1), many))) fun many_2 =>
        chk ((many_2.length : Int) * 1 = 120) (
          el many_2 i fun a46 =>
          chk (I64 (a46 + 1)) (
            chk ((many_2.length : Int) * 1 = 120) (
              el many_2 i fun a49 =>
              chk (((List.set many_2 i.toNat (a46 + 1)).length : Int) * 1 = 120) (
                el (List.set many_2 i.toNat (a46 + 1)) i fun a52 =>
                some ((max best a52), List.set many_2 i.toNat (a46 + 1))))))) fun (best_2, many_2) =>
      chk (I64 (i - 1)) (
        some (Stp.ag (best_2, (i - 1), many_2)))
  else
    some (Stp.dn (best, many))
noncomputable def P_c_moved_L3 (l : List S_copy_run) (many : List Int) : (Int × Int × (List Int) × Int × Int × Int) → Option (Stp (Int × Int × (List Int) × Int × Int × Int) (Int × Int × Int × (List Int))) := fun (best_2, x58, items, last_item, last_first, last_last) =>
  if x58 < (l.length : Int) then
    andx (
      el l x58 fun a61 =>
      andx (
        chk ((many.length : Int) * 1 = 120) (
          el many x58 fun a64 =>
          if a64 = best_2 then
            if last_item = (-1) ∧ last_first = (-1) ∧ last_last = (-1) then
              some true
            else
              some (decide (a61.first > last_last))
          else
            some false)) fun x79 =>
        if x79 = true then
          chk (I64 (best_2 - 1)) (
            some ((best_2 - 1), items, a61.item, a61.first, a61.last))
        else
          chk (items.length + [a61.item].length < 1000000000) (
            some (best_2, items ++ [a61.item], last_item, last_first, last_last))) fun (best_3, items_2, last_item_2, last_first_2, last_last_2) =>
      chk (I64 (x58 + 1)) (
        some (Stp.ag (best_3, (x58 + 1), items_2, last_item_2, last_first_2, last_last_2)))
  else
    some (Stp.dn (last_item, last_first, last_last, items))
noncomputable def P_c_moved (l : List S_copy_run) : Option (List Int) :=
  andx (
    chk (I64 ((l.length : Int) - 1)) (
      iter (P_c_moved_L1 l) (0, ((l.length : Int) - 1), List.replicate 120 (0 : Int)))) fun (best, many) =>
    andx (
      iter (P_c_moved_L3 l many) (best, 0, [], (-1), (-1), (-1))) fun (last_item, last_first, last_last, items) =>
      some items
noncomputable def P_c_faults_L1 (x_mates : List Int) (y16 : List Int) : (Int × (Int → Int) × Int) → Option (Stp (Int × (Int → Int) × Int) ((Int → Int) × Int)) := fun (x22, m, f_Pieces) =>
  if x22 < (y16.length : Int) then
    andx (
      el y16 x22 fun a24 =>
      el x_mates a24 fun a31 =>
      chk (I64 ((m a24) + 1)) (
        andx (
          if a31 < 0 then
            some true
          else
            some (decide (((putI m a24 ((m a24) + 1)) a31) = 0))) fun x44 =>
          if x44 = true then
            chk (I64 (f_Pieces + 1)) (
              some (putI m a24 ((m a24) + 1), (f_Pieces + 1)))
          else
            some (putI m a24 ((m a24) + 1), f_Pieces))) fun (m_2, f_Pieces_2) =>
      chk (I64 (x22 + 1)) (
        some (Stp.ag ((x22 + 1), m_2, f_Pieces_2)))
  else
    some (Stp.dn (m, f_Pieces))
noncomputable def P_c_faults_L2 (x_leaves : List Leaf) (t : List Int) : (Int × (List S_copy_run) × (List Int) × (List Int) × (Int → Int)) → Option (Stp (Int × (List S_copy_run) × (List Int) × (List Int) × (Int → Int)) ((Int → Int) × (List S_copy_run) × (List Int) × (List Int))) := fun (x53, l, f_Strange, f_Twice, m_2) =>
  if x53 < (t.length : Int) then
    andx (
      el t x53 fun a56 =>
      if a56 < 0 then
        chk (f_Strange.length + [x53].length < 1000000000) (
          some (l, f_Strange ++ [x53], f_Twice, m_2))
      else
        chk (I64 ((m_2 a56) + 1)) (
          if ((putI m_2 a56 ((m_2 a56) + 1)) a56) > 1 then
            chk (f_Twice.length + [x53].length < 1000000000) (
              some (l, f_Strange, f_Twice ++ [x53], putI m_2 a56 ((m_2 a56) + 1)))
          else
            seqx (
              chk (I64 ((l.length : Int) - 1)) (
                andx (
                  if ((l.length : Int) - 1) ≥ 0 then
                    el l ((l.length : Int) - 1) fun a88 =>
                    if a88.last < a56 then
                      el l ((l.length : Int) - 1) fun a101 =>
                      el x_leaves a101.last fun a104 =>
                      el x_leaves a56 fun a112 =>
                      some (decide (a104.g = a112.g))
                    else
                      some false
                  else
                    some false) fun x116 =>
                  if x116 = true then
                    el l ((l.length : Int) - 1) fun a120 =>
                    some (Ex.rt (List.set l ((l.length : Int) - 1).toNat (⟨a120.item, a120.first, a56⟩ : S_copy_run), f_Strange, f_Twice, putI m_2 a56 ((m_2 a56) + 1)))
                  else
                    some (Ex.nx ()))) fun _ =>
              chk (l.length + [(⟨x53, a56, a56⟩ : S_copy_run)].length < 1000000000) (
                some (l ++ [(⟨x53, a56, a56⟩ : S_copy_run)], f_Strange, f_Twice, putI m_2 a56 ((m_2 a56) + 1))))) fun (l_2, f_Strange_2, f_Twice_2, m_3) =>
      chk (I64 (x53 + 1)) (
        some (Stp.ag ((x53 + 1), l_2, f_Strange_2, f_Twice_2, m_3)))
  else
    some (Stp.dn (m_2, l, f_Strange, f_Twice))
noncomputable def P_c_faults (x_CpCase_Book_Signed : Int) (x_CpCase_Book_Gatherings : List Gat) (x_CpCase_Items : List Item) (x_leaves : List Leaf) (x_mates : List Int) (t : List Int) : Option ((List Int) × (List Int) × Int × (List Int) × (List Int) × (List Int) × Int) :=
  andx (P_c_lost x_CpCase_Book_Signed x_CpCase_Book_Gatherings x_CpCase_Items x_leaves x_mates t) fun y16 =>
    andx (
      iter (P_c_faults_L1 x_mates y16) (0, (fun _ => 0), 0)) fun (m, f_Pieces) =>
      andx (
        iter (P_c_faults_L2 x_leaves t) (0, [], [], [], (fun _ => 0))) fun (m_2, l, f_Strange, f_Twice) =>
        andx (P_c_moved l) fun y131 =>
          chk (I64 (f_Pieces + (f_Strange.length : Int))) (
            chk (I64 ((f_Pieces + (f_Strange.length : Int)) + (f_Twice.length : Int))) (
              chk (I64 (((f_Pieces + (f_Strange.length : Int)) + (f_Twice.length : Int)) + (y131.length : Int))) (
                some ([], y16, f_Pieces, f_Strange, f_Twice, y131, (((f_Pieces + (f_Strange.length : Int)) + (f_Twice.length : Int)) + (y131.length : Int))))))
end Go.Am
end
section
namespace Go.Am.Ythckcbfijdambaa
open Go.Am Go.RowKit
set_option linter.unusedVariables false
set_option linter.unusedSimpArgs false
theorem tr_yields {k : Nat} {D : List Thing} {bx xid : Nat} {sg : Int} {gsv itv lv mv : AV} {its : List Item} (hb : Thing.row bx 1 [.ptr xid 0 5] ∈ D) (hx : Thing.row xid 5 [iv sg, gsv, itv, lv, mv] ∈ D) (hi : Rdl D encIt itv its)
  (hk : its.length ≤ 120 ∧ ∀ x ∈ its, x.could.l.length ≤ 4) : Yields (EL k) 61 [] [.ptr bx 0 1] ArgT D (truthsOf its) := by
 intro l YY ZZ hv C hY;obtain ⟨D', hD⟩ := two_perm hb hx (by intro e; cases e)
 have hi' : Rdl D' encIt itv its := hi.perm2 hD (fun z e => by cases e) (fun z e => by cases e)
 have pm : ∀ C : List Thing, ([Thing.row bx 1 [.ptr xid 0 5], Thing.row xid 5 [iv sg, gsv, itv, lv, mv]] ++ (D' ++ C)).Perm (D ++ C) := fun C => List.Perm.append_right C hD.symm
 refine TF.perm (TF.conv (tr_iter (Y := YY) (Z := ZZ) hk.1 hi' hk.2 ?_ C hY) ?_) (pm C)
 ·intro bt by_ bi vt vis tr C hp hl hY
  have key : ∀ C : List Thing, (C ++ ([ownL false vt encI tr] ++ (D ++ [Thing.row bt 1 [vt], Thing.row by_ 1 [.yield l], Thing.row bi 1 [.func 62 [] [.ptr bt 0 1, .ptr by_ 0 1, .ptr bx 0 1, .ptr bi 0 1]]]))).Perm
    ([Thing.row bt 1 [vt], Thing.row by_ 1 [.yield l], Thing.row bx 1 [.ptr xid 0 5], Thing.row bi 1 [.func 62 [] [.ptr bt 0 1, .ptr by_ 0 1, .ptr bx 0 1, .ptr bi 0 1]], Thing.row xid 5 [iv sg, gsv, itv, lv, mv], ownL false vt encI tr] ++ D' ++ C) := fun C =>
   List.perm_append_comm.trans (List.Perm.append_right C ((List.Perm.append_left _ (List.Perm.append_right _ hD)).trans (perm_six _ _ _ _ _ _ _)))
  refine (hv vis tr [vt] [ownL false vt encI tr] C _ hp ⟨vt, rfl, rfl⟩ hY).conv (key C) ?_;rintro v h1 (⟨rfl, C', rfl, h⟩ | ⟨rfl, C', rfl, h⟩)
  ·exact ⟨_, key C', .inl ⟨rfl, C', rfl, h⟩⟩
  ·exact ⟨_, key C', .inr ⟨rfl, C', rfl, h⟩⟩
 ·rintro v h1 ⟨C', rfl, h⟩;exact ⟨_, pm C', C', rfl, h⟩
set_option maxRecDepth 10000 in
theorem tf_r4_in {k : Nat} (hk : 0 ≤ k) {C : List Thing} {n : Int} {low : Int} {high : Int} {r : Bool} (h : P_r4_in n low high = some r) :
  TF (EL k) 90 [iv (n), iv (low), iv (high)] C (RepF (fun (w : Unit) => bv r) (fun (w : Unit) => C)) := by
 unfold P_r4_in at h;refine TF.enter (fn := Go.Proofs.Try.f90) rfl rfl rfl rfl rfl (zU rfl (zA R4 (zN ?_)))
 show T _ _ _ _ _ _;apply T.joinA (r := r) (W := Unit) (fun j w => ⟨[], [(6, bv j)], C⟩) h
 ·intro j h;refine zT rfl (zM R4 (zM R4 ?_));obtain ⟨c9, hc9⟩ := zY (n ≥ low);refine zV R3 (Val.geq hc9 rfl rfl) (zM R4 ?_);obtain ⟨rfl, hc9, h⟩ | ⟨rfl, hc9, h⟩ := zI hc9 h
  ·refine zM R4 (zM R4 ?_);obtain ⟨c13, hc13⟩ := zY (n ≤ high);refine zV R3 (Val.leq hc13 rfl rfl) (zP R6 (zA R4 (zN ?_)));subst hc13;cases h;exact ⟨rfl, (), (sb .refl)⟩
  refine zO R3 (zO R3 (zO R3 (zP R6 (zA R4 (zN ?_)))));cases h;exact ⟨rfl, (), (sb .refl)⟩
 ·rintro x6 _ h;refine zR ?_;cases h;exact ⟨rfl, _, rfl, ⟨(), rfl, .refl⟩⟩
set_option maxRecDepth 10000 in
theorem tf_r4_item {k : Nat} (hk : 0 ≤ k) {C : List Thing} {v_x_Could : AV} {x_Could : List Int} {leaves : Int} (h_x_Could : Rdl C encI v_x_Could x_Could) {r : Int} (h : P_r4_item x_Could leaves = some r) :
  TF (EL k) 64 [.agg [v_x_Could], iv (leaves)] C (RepF (fun (w : Unit) => iv r) (fun (w : Unit) => C)) := by
 unfold P_r4_item at h;refine TF.enter (fn := Go.Proofs.Try.f64) rfl rfl rfl rfl rfl (zU rfl (zQ 1 [_] R7 (fun b2=>zA R4 (zN (zS (zU rfl (zF 0 R6 (zL 0 R3 R6 (zV R3 (Val.len_l h_x_Could M1 rfl rfl) ?_)))))))));obtain ⟨c10, hc10⟩ := zY ((x_Could.length : Int) > 4);refine zV R3 (Val.gtr hc10 rfl rfl) (zN ?_);obtain ⟨rfl, hc10, h⟩ | ⟨rfl, hc10, h⟩ := zI hc10 h
 ·refine zC rfl (zU rfl (zA R4 (zN (zR ?_))));cases h;exact ⟨rfl, _, rfl, ⟨(), rfl, (pk [98] rfl)⟩⟩
 refine zD rfl (zK ?_)
 show T _ _ _ _ _ _;apply T.join (r := r) (W := Unit) (fun j w => ⟨[], [(2, .ptr b2 0 1)], .row b2 1 [v_x_Could] :: C⟩) h
 ·intro j h;refine zU rfl (zA R4 (zN (zB ?_)))
  show T _ _ _ _ _ _;apply T.iter (r := j) (W := Unit) (fun j w => ⟨[], [(1, iv (leaves)), (2, .ptr b2 0 1), (5, iv (j))], .row b2 1 [v_x_Could] :: C⟩) (w0 := ()) h
  ·exact (sb .refl)
  rintro i _ a h;unfold P_r4_item_L1 at h;refine zS (zU rfl (zM R4 (zF 0 R6 (zL 0 R3 R6 (zV R3 (Val.len_l h_x_Could M1 rfl rfl) ?_)))));obtain ⟨c15, hc15⟩ := zY (i < (x_Could.length : Int));refine zV R3 (Val.lss hc15 rfl rfl) (zN ?_);obtain ⟨rfl, hc15, h⟩ | ⟨rfl, hc15, h⟩ := zI hc15 h
  ·refine zC rfl (zK (zS (zB (zU rfl (zF 0 R6 (zL 0 R3 R6 (zM R4 ?_)))))));obtain ⟨a21, hia21, ea21, h⟩ := el_some h;refine TO.fact (rdl_at h_x_Could M1 hia21 ea21) (fun hp=>?_);obtain ⟨pa21, hpa21, hva21⟩ := hp;refine zV R3 (hva21 ⟨rfl, rfl⟩ rfl rfl) (zV R3 (Val.load_e hpa21 M1 ⟨_, rfl, rfl⟩ rfl rfl) (zM R4 ?_));obtain ⟨hk24, h⟩ := chk_some h;refine zV R3 (Val.sub rfl rfl hk24) ?_;obtain ⟨y25, hr25, h⟩ := andx_some h;refine TO.callT (first := []) (cap := []) (vs := [iv (a21), iv (0), iv ((leaves - 1))]) rfl rfl rfl rfl rfl rfl (orcN rfl) (tf_r4_in aD hr25) ?_;rintro _;refine zG (_::C) rfl (zV R3 (Val.not rfl) (zN ?_));obtain ⟨rfl, h⟩ | ⟨rfl, h⟩ := zZ h
   ·refine zD rfl (zK (zT rfl (zM R4 ?_)));obtain ⟨hk17, h⟩ := chk_some h;refine zV R3 (Val.add rfl rfl hk17) (zA R4 (zN ?_));cases h;exact ⟨rfl, (), (sb .refl)⟩
   refine zC rfl (zU rfl (zA R4 (zN (zR ?_))));cases h;exact ⟨ret_ne, ⟨ret_ne, ⟨rfl, _, rfl, ⟨(), rfl, (pk [98] rfl)⟩⟩⟩⟩
  refine zD rfl (zE ?_);cases h;exact ⟨ex_ne, ⟨rfl, (), (sb .refl)⟩⟩
 ·rintro _ _ h
  show T _ _ _ _ _ _;apply T.join (r := r) (W := Unit) (fun j w => ⟨[], [], .row b2 1 [v_x_Could] :: C⟩) h
  ·intro j h;refine zU rfl (zA R4 (zN (zB ?_)))
   show T _ _ _ _ _ _;apply T.iter (r := j) (W := Unit) (fun j w => ⟨[], [(2, .ptr b2 0 1), (6, iv (j))], .row b2 1 [v_x_Could] :: C⟩) (w0 := ()) h
   ·exact (sb .refl)
   rintro i _ a h;unfold P_r4_item_L2 at h;refine zS (zU rfl (zM R4 (zF 0 R6 (zL 0 R3 R6 (zV R3 (Val.len_l h_x_Could M1 rfl rfl) ?_)))));obtain ⟨c31, hc31⟩ := zY (i < (x_Could.length : Int));refine zV R3 (Val.lss hc31 rfl rfl) (zN ?_);obtain ⟨rfl, hc31, h⟩ | ⟨rfl, hc31, h⟩ := zI hc31 h
   ·refine zC rfl (zK (zS (zB (zS (T.draw (fun v => sameC_refl v) (l1 := [0, 1, 2, 3, 4, 5, 6, 7, 8, 9, 10, 11]) (l2 := []) (by kernel_rfl) (by kernel_rfl) (zF 0 R6 (zL 0 R3 R6 (zM R4 ?_))))))));obtain ⟨a37, hia37, ea37, h⟩ := el_some h;refine TO.fact (rdl_at h_x_Could M1 hia37 ea37) (fun hp=>?_);obtain ⟨pa37, hpa37, hva37⟩ := hp;refine zV R3 (hva37 ⟨rfl, rfl⟩ rfl rfl) (zV R3 (Val.load_e hpa37 M1 ⟨_, rfl, rfl⟩ rfl rfl) (zF 0 R6 (zL 0 R3 R6 (zM R4 ?_))));obtain ⟨hk42, h⟩ := chk_some h;refine zV R3 (Val.sub rfl rfl hk42) ?_;obtain ⟨a43, hia43, ea43, h⟩ := el_some h;refine TO.fact (rdl_at h_x_Could M1 hia43 ea43) (fun hp=>?_);obtain ⟨pa43, hpa43, hva43⟩ := hp;refine zV R3 (hva43 ⟨rfl, rfl⟩ rfl rfl) (zV R3 (Val.load_e hpa43 M1 ⟨_, rfl, rfl⟩ rfl rfl) ?_);obtain ⟨c45, hc45⟩ := zY (a37 ≤ a43);refine zV R3 (Val.leq hc45 rfl rfl) (zN ?_);obtain ⟨rfl, hc45, h⟩ | ⟨rfl, hc45, h⟩ := zI hc45 h
    ·refine zC rfl (zU rfl (zA R4 (zN (zR ?_))));cases h;exact ⟨ret_ne, ⟨ret_ne, ⟨rfl, _, rfl, ⟨(), rfl, (pk [98] rfl)⟩⟩⟩⟩
    refine zD rfl (zK (zT rfl (zM R4 ?_)));obtain ⟨hk33, h⟩ := chk_some h;refine zV R3 (Val.add rfl rfl hk33) (zA R4 (zN ?_));cases h;exact ⟨rfl, (), (sb .refl)⟩
   refine zD rfl (zE ?_);cases h;exact ⟨ex_ne, ⟨rfl, (), (sb .refl)⟩⟩
  ·rintro _ _ h;refine zU rfl (zA R4 (zN (zR ?_)));cases h;exact ⟨rfl, _, rfl, ⟨(), rfl, (pk [98] rfl)⟩⟩
set_option maxRecDepth 10000 in
theorem tf_c_there {k : Nat} (hk : 0 ≤ k) {C : List Thing} {id_x : Nat} {x_CpCase_Book_Signed : Int} {v_x_CpCase_Book_Gatherings : AV} {x_CpCase_Book_Gatherings : List Gat} {v_x_CpCase_Items : AV} {x_CpCase_Items : List Item} {v_x_leaves : AV} {x_leaves : List Leaf} {v_x_mates : AV} {x_mates : List Int} {v_t : AV} {t : List Int} (h_x_CpCase_Book_Gatherings : Rdl C encG v_x_CpCase_Book_Gatherings x_CpCase_Book_Gatherings) (h_x_CpCase_Items : Rdl C encIt v_x_CpCase_Items x_CpCase_Items) (h_x_leaves : Rdl C encL v_x_leaves x_leaves) (h_x_mates : Rdl C encI v_x_mates x_mates) (h_x : Thing.row id_x 5 [iv (x_CpCase_Book_Signed), v_x_CpCase_Book_Gatherings, v_x_CpCase_Items, v_x_leaves, v_x_mates] ∈ C) (h_t : Rdl C encI v_t t) {r : (Int → Int)} (h : P_c_there x_CpCase_Book_Signed x_CpCase_Book_Gatherings x_CpCase_Items x_leaves x_mates t = some r) :
  TF (EL k) 40 [.ptr id_x 0 5, v_t] C (RepF (fun (w : Nat) => .map w) (fun (w : Nat) => .cnt w KInt (cntI r) [] :: C)) := by
 unfold P_c_there at h;refine TF.enter (fn := Go.Proofs.Try.f40) rfl rfl rfl rfl rfl (zU rfl (zA R4 (zN (zU rfl (TO.makeMapI rfl rfl rfl (fun m8=>zA R4 (zN ?_)))))))
 show T _ _ _ _ _ _;apply T.joinA (r := r) (W := Unit) (fun j w => ⟨[], [(5, .map m8)], .cnt m8 KInt (cntI j) [] :: C⟩) h
 ·intro j h;refine zU rfl (zM R4 (zV R3 (Val.len_l h_t M1 rfl rfl) (zM R4 (zN (zB ?_)))))
  show T _ _ _ _ _ _;apply T.iter (r := j) (W := Unit) (fun j w => ⟨[], [(5, .map m8), (9, v_t), (10, iv ((t.length : Int))), (11, iv (j.1))], .cnt m8 KInt (cntI j.2) [] :: C⟩) (w0 := ()) h
  ·exact (sb .refl)
  rintro ⟨x11, m⟩ _ a h;unfold P_c_there_L1 at h;dsimp only at h;dsimp only;refine zU rfl ?_;obtain ⟨c12, hc12⟩ := zY (x11 < (t.length : Int));refine zV R3 (Val.lss hc12 rfl rfl) (zN (zS ?_));obtain ⟨rfl, hc12, h⟩ | ⟨rfl, hc12, h⟩ := zI hc12 h
  ·refine zC rfl (zK (zS (zB (zU rfl ?_))));obtain ⟨a13, hia13, ea13, h⟩ := el_some h;refine TO.fact (rdl_at h_t M1 hia13 ea13) (fun hp=>?_);obtain ⟨pa13, hpa13, hva13⟩ := hp;refine zV R3 (hva13 ⟨rfl, rfl⟩ rfl rfl) (zV R3 (Val.load_e hpa13 M1 ⟨_, rfl, rfl⟩ rfl rfl) (zA R4 (zN (zT rfl (zM R4 (zM R4 (zV R3 (Val.lookupI (p := 0) rfl rfl key_ty3 rfl rfl rfl) ?_)))))));obtain ⟨hk18, h⟩ := chk_some h;refine zV R3 (Val.add rfl rfl hk18) (TO.eff0 rfl rfl (Eff.mapUpdateI (p := 0) rfl rfl key_ty3 rfl rfl rfl) ?_);rintro _ rfl;refine zG (_::C) rfl (zN (zT rfl ?_));obtain ⟨hk19, h⟩ := chk_some h;refine zV R3 (Val.add rfl rfl hk19) (zM R4 (zN ?_));cases h;exact ⟨rfl, (), (sb .refl)⟩
  refine zD rfl (zE ?_);cases h;exact ⟨ex_ne, ⟨rfl, (), (sb .refl)⟩⟩
 ·rintro m _ h;refine zU rfl (zM R4 (zA R4 (zN (zR ?_))));cases h;exact ⟨rfl, _, rfl, ⟨m8, rfl, .refl⟩⟩
set_option maxRecDepth 10000 in
theorem tf_c_lost {k : Nat} (hk : 0 ≤ k) {C : List Thing} {id_x : Nat} {x_CpCase_Book_Signed : Int} {v_x_CpCase_Book_Gatherings : AV} {x_CpCase_Book_Gatherings : List Gat} {v_x_CpCase_Items : AV} {x_CpCase_Items : List Item} {v_x_leaves : AV} {x_leaves : List Leaf} {v_x_mates : AV} {x_mates : List Int} {v_t : AV} {t : List Int} (h_x_CpCase_Book_Gatherings : Rdl C encG v_x_CpCase_Book_Gatherings x_CpCase_Book_Gatherings) (h_x_CpCase_Items : Rdl C encIt v_x_CpCase_Items x_CpCase_Items) (h_x_leaves : Rdl C encL v_x_leaves x_leaves) (h_x_mates : Rdl C encI v_x_mates x_mates) (h_x : Thing.row id_x 5 [iv (x_CpCase_Book_Signed), v_x_CpCase_Book_Gatherings, v_x_CpCase_Items, v_x_leaves, v_x_mates] ∈ C) (h_t : Rdl C encI v_t t) {r : (List Int)} (h : P_c_lost x_CpCase_Book_Signed x_CpCase_Book_Gatherings x_CpCase_Items x_leaves x_mates t = some r) :
  TF (EL k) 54 [.ptr id_x 0 5, v_t] C (RepF (fun (w : AV) => w) (fun (w : AV) => ownL true w encI r :: C)) := by
 unfold P_c_lost at h;refine TF.enter (fn := Go.Proofs.Try.f54) rfl rfl rfl rfl rfl (zU rfl (zA R4 (zN (zU rfl (zM R4 (zM R4 ?_))))));obtain ⟨y9, hr9, h⟩ := andx_some h;refine TO.callT (first := []) (cap := []) (vs := [.ptr id_x 0 5, v_t]) rfl rfl rfl rfl rfl rfl (orcN rfl) (tf_c_there aD (Rdl.mono h_x_CpCase_Book_Gatherings mem0) (Rdl.mono h_x_CpCase_Items mem0) (Rdl.mono h_x_leaves mem0) (Rdl.mono h_x_mates mem0) (mem0 _ h_x) (Rdl.mono h_t mem0) hr9) ?_;rintro w9;refine zG (_::C) rfl (zA R4 (zN ?_))
 show T _ _ _ _ _ _;apply T.joinA (r := r) (W := AV) (fun j w => ⟨[], [(4, w)], ownL true w encI j :: .cnt w9 KInt (cntI y9) [] :: C⟩) h
 ·intro j h;refine zU rfl (zM R4 (zV R3 (Val.nil_ptr rfl) (zF 3 R6 (zV R3 (Val.load_rowM h_x M1 ⟨_, rfl, rfl⟩ rfl rfl rfl) (zV R3 (Val.len_l h_x_leaves M1 rfl rfl) (zM R4 (zN (zB (T.nilown (u := encI.u) ?_)))))))))
  show T _ _ _ _ _ _;apply T.iter (r := j) (W := AV) (fun j w => ⟨[], [(4, w), (5, .map w9), (14, iv ((x_leaves.length : Int))), (15, iv (j.1))], ownL true w encI j.2 :: .cnt w9 KInt (cntI y9) [] :: C⟩) (w0 := nilS) h
  ·exact (sb .refl)
  rintro ⟨x15, l⟩ v2 a h;unfold P_c_lost_L1 at h;dsimp only at h;dsimp only;refine zU rfl ?_;obtain ⟨c16, hc16⟩ := zY (x15 < (x_leaves.length : Int));refine zV R3 (Val.lss hc16 rfl rfl) (zN (zS ?_));obtain ⟨rfl, hc16, h⟩ | ⟨rfl, hc16, h⟩ := zI hc16 h
  ·refine zC rfl (zK ?_)
   show T _ _ _ _ _ _;apply T.joinA (r := a) (W := AV) (fun j w => ⟨[], [(4, w), (5, .map w9), (14, iv ((x_leaves.length : Int))), (15, iv (x15))], ownL true w encI j :: .cnt w9 KInt (cntI y9) [] :: C⟩) h
   ·intro j h;refine zB (zU rfl (zM R4 (zA R4 (zN (zU rfl (zM R4 (zM R4 (zV R3 (Val.lookupI (p := 1) rfl rfl key_ty3 rfl rfl rfl) ?_))))))));obtain ⟨c21, hc21⟩ := zY ((y9 x15) = 0);refine zV R3 (Val.eql hc21 rfl rfl) (zN ?_);obtain ⟨rfl, hc21, h⟩ | ⟨rfl, hc21, h⟩ := zI hc21 h
    ·refine zC rfl (zT rfl (zM R4 (zM R4 (TO.build1 (en := encI) (a := x15) rfl rfl rfl ⟨rfl, rfl⟩ ⟨_, rfl, rfl⟩ (by decide) (by decide) rfl rfl (fun v24=>?_)))));obtain ⟨hk25, h⟩ := chk_some h;refine TO.eff rfl rfl rfl (Eff.append_own (b := 8) (en := encI) (l := l) (l2 := [x15]) (p := 1) (q := 0) ⟨rfl, rfl, rfl, ⟨_, rfl, rfl⟩, by decide, by decide⟩ rfl rfl rfl rfl rfl rfl (flat_ones _) (by decide) hk25) ?_;rintro v25 _ rfl;refine zG (_::_::_::C) rfl (zA R4 (zN ?_));cases h;exact ⟨rfl, v25, (sb (pk [1,1,98] rfl))⟩
    refine zD rfl (zK ?_);cases h;exact ⟨rfl, v2, (sb .refl)⟩
   ·rintro l_2 v2_2 h;refine zT rfl ?_;obtain ⟨hk26, h⟩ := chk_some h;refine zV R3 (Val.add rfl rfl hk26) (zM R4 (zN ?_));cases h;exact ⟨rfl, v2_2, (sb .refl)⟩
  refine zD rfl (zE ?_);cases h;exact ⟨ex_ne, ⟨rfl, v2, (sb .refl)⟩⟩
 ·rintro l v2 h;refine zU rfl (zM R4 (zA R4 (zN (zR ?_))));cases h;exact ⟨rfl, _, rfl, ⟨v2, rfl, (pk [0,98] rfl)⟩⟩
set_option maxRecDepth 10000 in
theorem tf_c_moved {k : Nat} (hk : 0 ≤ k) {C : List Thing} {v_l : AV} {l : List S_copy_run} (h_l : Rdl C enc_copy_run v_l l) {r : (List Int)} (h : P_c_moved l = some r) :
  TF (EL k) 66 [v_l] C (RepF (fun (w : AV) => w) (fun (w : AV) => ownL true w encI r :: C)) := by
 unfold P_c_moved at h;refine TF.enter (fn := Go.Proofs.Try.f66) rfl rfl rfl rfl rfl (zU rfl (zA R4 (zN (zU rfl (TO.allocA (en := encI) 0 120 rfl rfl rfl rfl (by kernel_rfl) rfl rfl (fun b3=>zN (zU rfl (zA R4 (zN ?_)))))))))
 show T _ _ _ _ _ _;apply T.joinA (r := r) (W := Unit) (fun j w => ⟨[], [(0, v_l), (2, nilS), (3, .ptr b3 0 120), (4, iv (j.1))], arrL b3 encI j.2 :: C⟩) h
 ·intro j h;refine zU rfl (zM R4 (zV R3 (Val.len_l h_l M1 rfl rfl) ?_));obtain ⟨hk12, h⟩ := chk_some h;refine zV R3 (Val.sub rfl rfl hk12) (zA R4 (zN (zB ?_)))
  show T _ _ _ _ _ _;apply T.iter (r := j) (W := Unit) (fun j w => ⟨[], [(0, v_l), (2, nilS), (3, .ptr b3 0 120), (4, iv (j.1)), (5, iv (j.2.1))], arrL b3 encI j.2.2 :: C⟩) (w0 := ()) h
  ·exact (sb .refl)
  rintro ⟨best, i, many⟩ _ a h;unfold P_c_moved_L1 at h;dsimp only at h;dsimp only;refine zS (zU rfl (zM R4 ?_));obtain ⟨c14, hc14⟩ := zY (i ≥ 0);refine zV R3 (Val.geq hc14 rfl rfl) (zN ?_);obtain ⟨rfl, hc14, h⟩ | ⟨rfl, hc14, h⟩ := zI hc14 h
  ·refine zC rfl (zK ?_)
   show T _ _ _ _ _ _;apply T.joinA (r := a) (W := Unit) (fun j w => ⟨[], [(0, v_l), (2, nilS), (3, .ptr b3 0 120), (4, iv (j.1)), (5, iv (i))], arrL b3 encI j.2 :: C⟩) h
   ·intro j h;refine zB ?_
    show T _ _ _ _ _ _;apply T.joinA (r := j) (W := Unit) (fun j w => ⟨[], [(0, v_l), (2, nilS), (3, .ptr b3 0 120), (4, iv (best)), (5, iv (i))], arrL b3 encI j :: C⟩) h
    ·intro j h;refine zU rfl (zM R4 ?_);obtain ⟨hk18, h⟩ := chk_some h;refine zV R3 (Val.add rfl rfl hk18) (zA R4 (zN (zB ?_)))
     show T _ _ _ _ _ _;apply T.iter (r := j) (W := Unit) (fun j w => ⟨[], [(0, v_l), (2, nilS), (3, .ptr b3 0 120), (4, iv (best)), (5, iv (i)), (6, iv (j.1))], arrL b3 encI j.2 :: C⟩) (w0 := ()) h
     ·exact (sb .refl)
     rintro ⟨k_, many_2⟩ _ a h;unfold P_c_moved_L2 at h;dsimp only at h;dsimp only;refine zS (zU rfl (zM R4 (zM R4 (zV R3 (Val.len_l h_l M1 rfl rfl) ?_))));obtain ⟨c22, hc22⟩ := zY (k_ < (l.length : Int));refine zV R3 (Val.lss hc22 rfl rfl) (zN ?_);obtain ⟨rfl, hc22, h⟩ | ⟨rfl, hc22, h⟩ := zI hc22 h
     ·refine zC rfl (zK ?_)
      show T _ _ _ _ _ _;apply T.joinA (r := a) (W := Unit) (fun j w => ⟨[], [(0, v_l), (2, nilS), (3, .ptr b3 0 120), (4, iv (best)), (5, iv (i)), (6, iv (k_))], arrL b3 encI j :: C⟩) h
      ·intro j h;refine zB (zS (T.draw (fun v => sameC_refl v) (l1 := [0, 1, 2, 3, 4, 5, 6, 7, 8, 9, 10]) (l2 := []) (by kernel_rfl) (by kernel_rfl) (zM R4 (zM R4 ?_))));obtain ⟨a27, hia27, ea27, h⟩ := el_some h;refine TO.fact (rdl_at h_l M1 hia27 ea27) (fun hp=>?_);obtain ⟨pa27, hpa27, hva27⟩ := hp;refine zV R3 (hva27 ⟨rfl, rfl⟩ rfl rfl) (zV R3 (Val.faddr_e (fo := 1) hpa27 rfl rfl rfl) (zV R3 (Val.load_e (PtE.add hpa27 (by decide)) M1 ⟨_, rfl, rfl⟩ rfl rfl) (zM R4 (zM R4 ?_))));obtain ⟨a32, hia32, ea32, h⟩ := el_some h;refine TO.fact (rdl_at h_l M1 hia32 ea32) (fun hp=>?_);obtain ⟨pa32, hpa32, hva32⟩ := hp;refine zV R3 (hva32 ⟨rfl, rfl⟩ rfl rfl) (zV R3 (Val.faddr_e (fo := 2) hpa32 rfl rfl rfl) (zV R3 (Val.load_e (PtE.add hpa32 (by decide)) M1 ⟨_, rfl, rfl⟩ rfl rfl) ?_));obtain ⟨c35, hc35⟩ := zY (a27.first > a32.last);refine zV R3 (Val.gtr hc35 rfl rfl) (zN ?_);obtain ⟨rfl, hc35, h⟩ | ⟨rfl, hc35, h⟩ := zI hc35 h
       ·refine zC rfl (T.drawE (l1 := [0, 1, 2, 3, 4, 5, 6]) (l2 := [7, 8, 9]) (by kernel_rfl) (by kernel_rfl) (yL R4 (Val.move rfl) (yL R4 (Val.move rfl) ?_)));obtain ⟨hk38, h⟩ := chk_some h;obtain ⟨a38, hia38, ea38, h⟩ := el_some h;refine yL R4 (Val.iaddr_array (m := 120) rfl rfl rfl rfl aO) (yR R4 (Val.load_arr (en := encI) (p := 0) (j := 0) rfl hk38 ⟨_, rfl, rfl⟩ rfl ea38 rfl) (yL R4 (Val.move rfl) ?_));obtain ⟨hk41, h⟩ := chk_some h;obtain ⟨a41, hia41, ea41, h⟩ := el_some h;refine yL R4 (Val.iaddr_array (m := 120) rfl rfl rfl rfl aO) (yR R4 (Val.load_arr (en := encI) (p := 0) (j := 0) rfl hk41 ⟨_, rfl, rfl⟩ rfl ea41 rfl) (TD1.over (fun v => sameC_refl v) (all_cons (⟨_, rfl, (Val.load_arr (en := encI) (p := 0) (j := 0) rfl hk41 ⟨_, rfl, rfl⟩ rfl ea41 rfl)⟩) (all_cons (⟨_, rfl, (Val.load_arr (en := encI) (p := 0) (j := 0) rfl hk38 ⟨_, rfl, rfl⟩ rfl ea38 rfl)⟩) all_nil)) (TD2.heavy (fun v => sameC_refl v) rfl (by decide) rfl rfl (OpS.eff (Eff.val (Val.bmax rfl rfl))) ?_)));rintro _ _ ⟨rfl, rfl⟩;refine ⟨(all_cons (.inl (by kernel_rfl)) (all_cons (.inl (by kernel_rfl)) all_nil)), all_nil, ?_⟩;obtain ⟨hk44, h⟩ := chk_some h;obtain ⟨a44, hia44, ea44, h⟩ := el_some h;refine yM R4 (Val.iaddr_array (m := 120) rfl rfl rfl rfl aO) (TD2.heavy (fun v => sameC_refl v) rfl (by decide) rfl rfl (OpS.eff (Eff.store_arr (en := encI) (p := 0) (a := a44) (a' := (max a38 a41)) (j := 0) (cv := [_]) rfl hk44 ea44 rfl rfl (by decide) rfl rfl rfl rfl aG rfl)) ?_);rintro _ _ rfl;refine ⟨(all_cons (.inl (by kernel_rfl)) (all_cons (.inl (by kernel_rfl)) all_nil)), all_nil, ?_⟩;refine yG (_::C) rfl (TD2.nil ?_);cases h;exact ⟨rfl, (), (sb .refl)⟩
       refine zD rfl (zK ?_);cases h;exact ⟨rfl, (), (sb .refl)⟩
      ·rintro many_3 _ h;refine zT rfl (zM R4 ?_);obtain ⟨hk24, h⟩ := chk_some h;refine zV R3 (Val.add rfl rfl hk24) (zA R4 (zN ?_));cases h;exact ⟨rfl, (), (sb .refl)⟩
     refine zD rfl (zE ?_);cases h;exact ⟨ex_ne, ⟨rfl, (), (sb .refl)⟩⟩
    ·rintro many_2 _ h;refine zU rfl (zM R4 ?_);obtain ⟨hk46, h⟩ := chk_some h;obtain ⟨a46, hia46, ea46, h⟩ := el_some h;refine zV R3 (Val.iaddr_array (m := 120) rfl rfl rfl rfl aO) (zV R3 (Val.load_arr (en := encI) (p := 0) (j := 0) rfl hk46 ⟨_, rfl, rfl⟩ rfl ea46 rfl) ?_);obtain ⟨hk48, h⟩ := chk_some h;refine zV R3 (Val.add rfl rfl hk48) ?_;obtain ⟨hk49, h⟩ := chk_some h;obtain ⟨a49, hia49, ea49, h⟩ := el_some h;refine zV R3 (Val.iaddr_array (m := 120) rfl rfl rfl rfl aO) (TO.eff0 rfl rfl (Eff.store_arr (en := encI) (p := 0) (a := a49) (a' := (a46 + 1)) (j := 0) (cv := [_]) rfl hk49 ea49 rfl rfl (by decide) rfl rfl rfl rfl aG rfl) ?_);rintro _ rfl;refine zG (_::C) rfl (zN (zT rfl (zM R4 (zM R4 ?_))));obtain ⟨hk52, h⟩ := chk_some h;obtain ⟨a52, hia52, ea52, h⟩ := el_some h;refine zV R3 (Val.iaddr_array (m := 120) rfl rfl rfl rfl aO) (zV R3 (Val.load_arr (en := encI) (p := 0) (j := 0) rfl hk52 ⟨_, rfl, rfl⟩ rfl ea52 rfl) (zV R3 (Val.bmax rfl rfl) (zA R4 (zN ?_))));cases h;exact ⟨rfl, (), (sb .refl)⟩
   ·rintro ⟨best_2, many_2⟩ _ h;dsimp only at h;dsimp only;refine zT rfl (zM R4 ?_);obtain ⟨hk16, h⟩ := chk_some h;refine zV R3 (Val.sub rfl rfl hk16) (zA R4 (zN ?_));cases h;exact ⟨rfl, (), (sb .refl)⟩
  refine zD rfl (zE ?_);cases h;exact ⟨ex_ne, ⟨rfl, (), (sb .refl)⟩⟩
 ·rintro ⟨best, many⟩ _ h;dsimp only at h;dsimp only;refine zU rfl (zV R3 (Val.buildC (cs := [_, _, _]) (vs := [(_, _), (_, _), (_, _)]) (ws := [(_, [_]), (_, [_]), (_, [_])]) rfl rfl (CellsL.cons rfl (CellsL.cons rfl (CellsL.cons rfl CellsL.nil))) rfl) (zJ 3 [_,_,_] R7 (fun b7=>TO.eff0 rfl rfl (Eff.store_row (p := 0) (cv := [_, _, _]) (cells' := [_, _, _]) rfl rfl rfl rfl rfl rfl rfl rfl aG (by decide) rfl) ?_)));rintro _ rfl;refine zG (_::_::C) rfl (zN ?_)
  show T _ _ _ _ _ _;apply T.joinA (r := r) (W := AV) (fun j w => ⟨[], [(2, w)], ownL true w encI j.2.2.2 :: .row b7 3 [iv (j.1), iv (j.2.1), iv (j.2.2.1)] :: arrL b3 encI many :: C⟩) h
  ·intro j h;refine zU rfl (zM R4 (zV R3 (Val.len_l h_l M2 rfl rfl) (zM R4 (zN (zB (T.nilown (u := encI.u) ?_))))))
   show T _ _ _ _ _ _;apply T.iter (r := j) (W := AV) (fun j w => ⟨[], [(2, w), (3, .ptr b3 0 120), (4, iv (j.1)), (7, .ptr b7 0 3), (56, v_l), (57, iv ((l.length : Int))), (58, iv (j.2.1))], ownL true w encI j.2.2.1 :: .row b7 3 [iv (j.2.2.2.1), iv (j.2.2.2.2.1), iv (j.2.2.2.2.2)] :: arrL b3 encI many :: C⟩) (w0 := nilS) h
   ·exact (sb .refl)
   rintro ⟨best_2, x58, items, last_item, last_first, last_last⟩ v3 a h;unfold P_c_moved_L3 at h;dsimp only at h;dsimp only;refine zU rfl ?_;obtain ⟨c59, hc59⟩ := zY (x58 < (l.length : Int));refine zV R3 (Val.lss hc59 rfl rfl) (zN (zS ?_));obtain ⟨rfl, hc59, h⟩ | ⟨rfl, hc59, h⟩ := zI hc59 h
   ·refine zC rfl (zK ?_)
    show T _ _ _ _ _ _;apply T.joinA (r := a) (W := AV) (fun j w => ⟨[], [(2, w), (3, .ptr b3 0 120), (4, iv (j.1)), (7, .ptr b7 0 3), (56, v_l), (57, iv ((l.length : Int))), (58, iv (x58))], ownL true w encI j.2.1 :: .row b7 3 [iv (j.2.2.1), iv (j.2.2.2.1), iv (j.2.2.2.2)] :: arrL b3 encI many :: C⟩) h
    ·intro j h;refine zB (zU rfl (zM R4 ?_));obtain ⟨a61, hia61, ea61, h⟩ := el_some h;refine TO.fact (rdl_at h_l M3 hia61 ea61) (fun hp=>?_);obtain ⟨pa61, hpa61, hva61⟩ := hp;refine zV R3 (hva61 ⟨rfl, rfl⟩ rfl rfl) (zV R3 (Val.load_es (c := [_, _, _]) hpa61 M3 ⟨⟨_, rfl, rfl⟩, rfl, by decide⟩ rfl rfl rfl) (zJ 3 [_,_,_] R7 (fun b9=>zA R4 (TO.eff0 rfl rfl (Eff.store_row (p := 0) (cv := [_, _, _]) (cells' := [_, _, _]) rfl rfl rfl rfl rfl rfl rfl rfl aG (by decide) rfl) ?_))));rintro _ rfl;refine zG (_::_::_::_::C) rfl (zN ?_)
     show T _ _ _ _ _ _;apply T.joinA (r := j) (W := Unit) (fun j w => ⟨[], [(2, v3), (3, .ptr b3 0 120), (4, iv (best_2)), (7, .ptr b7 0 3), (9, .ptr b9 0 3), (56, v_l), (57, iv ((l.length : Int))), (58, iv (x58)), (79, bv j)], .row b9 3 [iv (a61.item), iv (a61.first), iv (a61.last)] :: ownL true v3 encI items :: .row b7 3 [iv (last_item), iv (last_first), iv (last_last)] :: arrL b3 encI many :: C⟩) h
     ·intro j h;refine zT rfl (zM R4 ?_);obtain ⟨hk64, h⟩ := chk_some h;obtain ⟨a64, hia64, ea64, h⟩ := el_some h;refine zV R3 (Val.iaddr_array (m := 120) rfl rfl rfl rfl aO) (zV R3 (Val.load_arr (en := encI) (p := 3) (j := 0) rfl hk64 ⟨_, rfl, rfl⟩ rfl ea64 rfl) (zM R4 ?_));obtain ⟨c67, hc67⟩ := zY (a64 = best_2);refine zV R3 (Val.eql hc67 rfl rfl) (zM R4 ?_);obtain ⟨rfl, hc67, h⟩ | ⟨rfl, hc67, h⟩ := zI hc67 h
      ·refine zV R3 (vW 2 [_,_,_] R5 R4) (zV R3 (Val.buildC (cs := [_, _, _]) (vs := [(_, _), (_, _), (_, _)]) (ws := [(_, [_]), (_, [_]), (_, [_])]) rfl rfl (CellsL.cons rfl (CellsL.cons rfl (CellsL.cons rfl CellsL.nil))) rfl) ?_);obtain ⟨c71, hc71⟩ := zY (last_item = (-1) ∧ last_first = (-1) ∧ last_last = (-1));refine zV R3 (Val.binD hc71 rfl rfl (eql_ty124 _ _ _ _ _ _ _ _)) (zM R4 ?_);obtain ⟨rfl, hc71, h⟩ | ⟨rfl, hc71, h⟩ := zI hc71 h
       ·refine zO R3 (zO R3 (zO R3 (zO R3 (zO R3 (zP R6 (zP R6 (zN ?_)))))));cases h;exact ⟨rfl, (), (sb .refl)⟩
       refine zF 1 R6 (zL 0 R3 R6 (zF 2 R6 (zL 2 R3 R6 ?_)));obtain ⟨c77, hc77⟩ := zY (a61.first > last_last);refine zV R3 (Val.gtr hc77 rfl rfl) (zP R6 (zP R6 (zN ?_)));subst hc77;cases h;exact ⟨rfl, (), (sb .refl)⟩
      refine zO R3 (zO R3 (zO R3 (zO R3 (zO R3 (zO R3 (zO R3 (zO R3 (zO R3 (zO R3 (zP R6 (zN ?_)))))))))));cases h;exact ⟨rfl, (), (sb .refl)⟩
     ·rintro x79 _ h;obtain ⟨rfl, h⟩ | ⟨rfl, h⟩ := zZ h
      ·refine zC rfl (zU rfl (zV R3 (vW 0 [_,_,_] R5 R4) (TO.eff0 rfl rfl (Eff.store_row (p := 2) (cv := [_, _, _]) (cells' := [_, _, _]) rfl rfl rfl rfl rfl rfl rfl rfl aG (by decide) rfl) ?_)));rintro _ rfl;refine zG (_::_::_::_::C) rfl (zN (zT rfl (zM R4 ?_)));obtain ⟨hk82, h⟩ := chk_some h;refine zV R3 (Val.sub rfl rfl hk82) (zA R4 (zN ?_));cases h;exact ⟨rfl, v3, (sb (pk [1,1,1,98] rfl))⟩
      refine zD rfl (zT rfl (zM R4 (zF 0 R6 (zL 0 R3 R6 (TO.build1 (en := encI) (a := a61.item) rfl rfl rfl ⟨rfl, rfl⟩ ⟨_, rfl, rfl⟩ (by decide) (by decide) rfl rfl (fun v86=>?_))))));obtain ⟨hk87, h⟩ := chk_some h;refine TO.eff rfl rfl rfl (Eff.append_own (b := 8) (en := encI) (l := items) (l2 := [a61.item]) (p := 2) (q := 0) ⟨rfl, rfl, rfl, ⟨_, rfl, rfl⟩, by decide, by decide⟩ rfl rfl rfl rfl rfl rfl (flat_ones _) (by decide) hk87) ?_;rintro v87 _ rfl;refine zG (_::_::_::_::_::C) rfl (zA R4 (zN ?_));cases h;exact ⟨rfl, v87, (sb (pk [2,2,2,98,98] rfl))⟩
    ·rintro ⟨best_3, items_2, last_item_2, last_first_2, last_last_2⟩ v3_2 h;dsimp only at h;dsimp only;refine zT rfl ?_;obtain ⟨hk88, h⟩ := chk_some h;refine zV R3 (Val.add rfl rfl hk88) (zM R4 (zN ?_));cases h;exact ⟨rfl, v3_2, (sb .refl)⟩
   refine zD rfl (zE ?_);cases h;exact ⟨ex_ne, ⟨rfl, v3, (sb .refl)⟩⟩
  ·rintro ⟨last_item, last_first, last_last, items⟩ v3 h;dsimp only at h;dsimp only;refine zU rfl (zM R4 (zA R4 (zN (zR ?_))));cases h;exact ⟨rfl, _, rfl, ⟨v3, rfl, (pk [0,98,98] rfl)⟩⟩
set_option maxRecDepth 10000 in
theorem tf_c_faults {k : Nat} (hk : 0 ≤ k) {C : List Thing} {id_x : Nat} {x_CpCase_Book_Signed : Int} {v_x_CpCase_Book_Gatherings : AV} {x_CpCase_Book_Gatherings : List Gat} {v_x_CpCase_Items : AV} {x_CpCase_Items : List Item} {v_x_leaves : AV} {x_leaves : List Leaf} {v_x_mates : AV} {x_mates : List Int} {v_t : AV} {t : List Int} (h_x_CpCase_Book_Gatherings : Rdl C encG v_x_CpCase_Book_Gatherings x_CpCase_Book_Gatherings) (h_x_CpCase_Items : Rdl C encIt v_x_CpCase_Items x_CpCase_Items) (h_x_leaves : Rdl C encL v_x_leaves x_leaves) (h_x_mates : Rdl C encI v_x_mates x_mates) (h_x : Thing.row id_x 5 [iv (x_CpCase_Book_Signed), v_x_CpCase_Book_Gatherings, v_x_CpCase_Items, v_x_leaves, v_x_mates] ∈ C) (h_t : Rdl C encI v_t t) {r : (List Int) × (List Int) × Int × (List Int) × (List Int) × (List Int) × Int} (h : P_c_faults x_CpCase_Book_Signed x_CpCase_Book_Gatherings x_CpCase_Items x_leaves x_mates t = some r) :
  TF (EL k) 48 [.ptr id_x 0 5, v_t] C (RepF (fun (w : AV × AV × AV × AV × AV) => .agg [w.1, w.2.1, iv r.2.2.1, w.2.2.1, w.2.2.2.1, w.2.2.2.2, iv r.2.2.2.2.2.2]) (fun (w : AV × AV × AV × AV × AV) => ownL true w.1 encI r.1 :: ownL true w.2.1 encI r.2.1 :: ownL true w.2.2.1 encI r.2.2.2.1 :: ownL true w.2.2.2.1 encI r.2.2.2.2.1 :: ownL true w.2.2.2.2 encI r.2.2.2.2.2.1 :: C)) := by
 unfold P_c_faults at h;refine TF.enterG (fn := Go.Proofs.Try.f48) rfl rfl rfl rfl rfl (zU rfl (zJ 7 [_,_,_,_,_,_,_] R7 (fun b4=>zN (zU rfl (zM R4 (zM R4 ?_))))));obtain ⟨y16, hr16, h⟩ := andx_some h;refine TO.callT (first := []) (cap := []) (vs := [.ptr id_x 0 5, v_t]) rfl rfl rfl rfl rfl rfl (orcN rfl) (tf_c_lost aD (Rdl.mono h_x_CpCase_Book_Gatherings M1) (Rdl.mono h_x_CpCase_Items M1) (Rdl.mono h_x_leaves M1) (Rdl.mono h_x_mates M1) (M1 _ h_x) (Rdl.mono h_t M1) hr16) ?_;rintro w16;refine zG (_::_::C) rfl (zF 1 R6 (TO.fact (own_cellS (p := 0) rfl) (fun hot2=>TO.eff0 rfl rfl (Eff.store_row (p := 1) (cv := [_]) (cells' := [_, _, _, _, _, _, _]) rfl rfl rfl rfl rfl hot2.1 rfl rfl (by first | rfl | (simp [GS.one, hot2.2]; done)) (by decide) rfl) ?_)));rintro _ rfl;refine zG (_::_::C) rfl (zN (zU rfl (TO.makeMapI rfl rfl rfl (fun m18=>zA R4 (zN ?_)))))
 show T _ _ _ _ _ _;apply T.joinA (r := r) (W := Unit) (fun j w => ⟨[], [(0, .ptr id_x 0 5), (1, v_t), (4, .ptr b4 0 7)], .cnt m18 KInt (cntI j.1) [] :: ownL true w16 encI y16 :: .row b4 7 [nilS, w16, iv (j.2), nilS, nilS, nilS, iv (0)] :: C⟩) h
 ·intro j h;refine zU rfl (zF 1 R6 (zL 2 R3 R6 (zV R3 (Val.len_own (p := 1) rfl rfl rfl) (zM R4 (zN (zB ?_))))))
  show T _ _ _ _ _ _;apply T.iter (r := j) (W := Unit) (fun j w => ⟨[], [(0, .ptr id_x 0 5), (1, v_t), (4, .ptr b4 0 7), (5, .map m18), (20, w16), (21, iv ((y16.length : Int))), (22, iv (j.1))], .cnt m18 KInt (cntI j.2.1) [] :: ownL true w16 encI y16 :: .row b4 7 [nilS, w16, iv (j.2.2), nilS, nilS, nilS, iv (0)] :: C⟩) (w0 := ()) h
  ·exact (sb .refl)
  rintro ⟨x22, m, f_Pieces⟩ _ a h;unfold P_c_faults_L1 at h;dsimp only at h;dsimp only;refine zU rfl ?_;obtain ⟨c23, hc23⟩ := zY (x22 < (y16.length : Int));refine zV R3 (Val.lss hc23 rfl rfl) (zN (zS ?_));obtain ⟨rfl, hc23, h⟩ | ⟨rfl, hc23, h⟩ := zI hc23 h
  ·refine zC rfl (zK ?_)
   show T _ _ _ _ _ _;apply T.joinA (r := a) (W := Unit) (fun j w => ⟨[], [(0, .ptr id_x 0 5), (1, v_t), (4, .ptr b4 0 7), (5, .map m18), (20, w16), (21, iv ((y16.length : Int))), (22, iv (x22))], .cnt m18 KInt (cntI j.1) [] :: ownL true w16 encI y16 :: .row b4 7 [nilS, w16, iv (j.2), nilS, nilS, nilS, iv (0)] :: C⟩) h
   ·intro j h;refine zB (zU rfl ?_);obtain ⟨a24, hia24, ea24, h⟩ := el_some h;refine TO.fact (own_at (en := encI) (p := 1) rfl hia24) (fun hp=>?_);obtain ⟨ida24, ata24⟩ := hp;refine zV R3 (Val.iaddr_at (en := encI) ata24 ⟨rfl, rfl⟩ rfl rfl hia24) (zV R3 (Val.load_ownL (en := encI) (p := 1) (j := 0) rfl ata24 ⟨_, rfl, rfl⟩ rfl ea24 rfl) (zA R4 (zN (zU rfl (zM R4 (zV R3 (Val.nil_ptr rfl) (zF 4 R6 (zV R3 (Val.load_rowM h_x M3 ⟨_, rfl, rfl⟩ rfl rfl rfl) (zM R4 ?_)))))))));obtain ⟨a31, hia31, ea31, h⟩ := el_some h;refine TO.fact (rdl_at h_x_mates M3 hia31 ea31) (fun hp=>?_);obtain ⟨pa31, hpa31, hva31⟩ := hp;refine zV R3 (hva31 ⟨rfl, rfl⟩ rfl rfl) (zV R3 (Val.load_e hpa31 M3 ⟨_, rfl, rfl⟩ rfl rfl) (zA R4 (zN (zU rfl (zM R4 (zM R4 (zV R3 (Val.lookupI (p := 0) rfl rfl key_ty3 rfl rfl rfl) ?_)))))));obtain ⟨hk36, h⟩ := chk_some h;refine zV R3 (Val.add rfl rfl hk36) (TO.eff0 rfl rfl (Eff.mapUpdateI (p := 0) rfl rfl key_ty3 rfl rfl rfl) ?_);rintro _ rfl;refine zG (_::_::_::C) rfl (zN ?_)
    show T _ _ _ _ _ _;apply T.joinA (r := j) (W := Unit) (fun j w => ⟨[], [(0, .ptr id_x 0 5), (1, v_t), (4, .ptr b4 0 7), (5, .map m18), (20, w16), (21, iv ((y16.length : Int))), (22, iv (x22)), (44, bv j)], .cnt m18 KInt (cntI (putI m a24 ((m a24) + 1))) [] :: ownL true w16 encI y16 :: .row b4 7 [nilS, w16, iv (f_Pieces), nilS, nilS, nilS, iv (0)] :: C⟩) h
    ·intro j h;refine zT rfl (zM R4 ?_);obtain ⟨c38, hc38⟩ := zY (a31 < 0);refine zV R3 (Val.lss hc38 rfl rfl) (zM R4 ?_);obtain ⟨rfl, hc38, h⟩ | ⟨rfl, hc38, h⟩ := zI hc38 h
     ·refine zO R3 (zO R3 (zO R3 (zO R3 (zP R6 (zN ?_)))));cases h;exact ⟨rfl, (), (sb .refl)⟩
     refine zM R4 (zM R4 (zV R3 (Val.lookupI (p := 0) rfl rfl key_ty3 rfl rfl rfl) ?_));obtain ⟨c43, hc43⟩ := zY (((putI m a24 ((m a24) + 1)) a31) = 0);refine zV R3 (Val.eql hc43 rfl rfl) (zP R6 (zN ?_));subst hc43;cases h;exact ⟨rfl, (), (sb .refl)⟩
    ·rintro x44 _ h;obtain ⟨rfl, h⟩ | ⟨rfl, h⟩ := zZ h
     ·refine zC rfl (zT rfl (zF 2 R6 (zL 2 R3 R6 ?_)));obtain ⟨hk47, h⟩ := chk_some h;refine zV R3 (Val.add rfl rfl hk47) (zF 2 R6 (TO.eff0 rfl rfl (Eff.store_row (p := 2) (cv := [_]) (cells' := [_, _, _, _, _, _, _]) rfl rfl rfl rfl rfl rfl rfl rfl aG (by decide) rfl) ?_));rintro _ rfl;refine zG (_::_::_::C) rfl (zN ?_);cases h;exact ⟨rfl, (), (sb .refl)⟩
     refine zD rfl (zK ?_);cases h;exact ⟨rfl, (), (sb .refl)⟩
   ·rintro ⟨m_2, f_Pieces_2⟩ _ h;dsimp only at h;dsimp only;refine zT rfl ?_;obtain ⟨hk49, h⟩ := chk_some h;refine zV R3 (Val.add rfl rfl hk49) (zM R4 (zN ?_));cases h;exact ⟨rfl, (), (sb .refl)⟩
  refine zD rfl (zE ?_);cases h;exact ⟨ex_ne, ⟨rfl, (), (sb .refl)⟩⟩
 ·rintro ⟨m, f_Pieces⟩ _ h;dsimp only at h;dsimp only;refine zU rfl (zA R4 (zN (zU rfl (TO.makeMapI rfl rfl rfl (fun m50=>zA R4 (zN ?_))))))
  show T _ _ _ _ _ _;apply T.joinA (r := r) (W := AV × AV × AV) (fun j w => ⟨[], [(4, .ptr b4 0 7), (9, w.1)], ownL true w.1 enc_copy_run j.2.1 :: ownL true w.2.1 encI j.2.2.1 :: ownL true w.2.2 encI j.2.2.2 :: .cnt m50 KInt (cntI j.1) [] :: ownL true w16 encI y16 :: .row b4 7 [nilS, w16, iv (f_Pieces), w.2.1, w.2.2, nilS, iv (0)] :: C⟩) h
  ·intro j h;refine zU rfl (zM R4 (zV R3 (Val.len_l h_t M4 rfl rfl) (zM R4 (zN (zB (T.nilown (u := encI.u) (T.nilown (u := encI.u) (T.nilown (u := enc_copy_run.u) ?_))))))))
   show T _ _ _ _ _ _;apply T.iter (r := j) (W := AV × AV × AV) (fun j w => ⟨[], [(0, .ptr id_x 0 5), (4, .ptr b4 0 7), (9, w.1), (10, .map m50), (51, v_t), (52, iv ((t.length : Int))), (53, iv (j.1))], ownL true w.1 enc_copy_run j.2.1 :: ownL true w.2.1 encI j.2.2.1 :: ownL true w.2.2 encI j.2.2.2.1 :: .cnt m50 KInt (cntI j.2.2.2.2) [] :: ownL true w16 encI y16 :: .row b4 7 [nilS, w16, iv (f_Pieces), w.2.1, w.2.2, nilS, iv (0)] :: C⟩) (w0 := (nilS, nilS, nilS)) h
   ·exact (sb (pk [0,0,0,0,1,1,98] rfl))
   rintro ⟨x53, l, f_Strange, f_Twice, m_2⟩ ⟨v7, v6, v5⟩ a h;unfold P_c_faults_L2 at h;dsimp only at h;dsimp only;refine zU rfl ?_;obtain ⟨c54, hc54⟩ := zY (x53 < (t.length : Int));refine zV R3 (Val.lss hc54 rfl rfl) (zN (zS ?_));obtain ⟨rfl, hc54, h⟩ | ⟨rfl, hc54, h⟩ := zI hc54 h
   ·refine zC rfl (zK ?_)
    show T _ _ _ _ _ _;apply T.joinA (r := a) (W := AV × AV × AV) (fun j w => ⟨[], [(0, .ptr id_x 0 5), (4, .ptr b4 0 7), (9, w.1), (10, .map m50), (51, v_t), (52, iv ((t.length : Int))), (53, iv (x53))], ownL true w.1 enc_copy_run j.1 :: ownL true w.2.1 encI j.2.1 :: ownL true w.2.2 encI j.2.2.1 :: .cnt m50 KInt (cntI j.2.2.2) [] :: ownL true w16 encI y16 :: .row b4 7 [nilS, w16, iv (f_Pieces), w.2.1, w.2.2, nilS, iv (0)] :: C⟩) h
    ·intro j h;refine zB (zU rfl (zM R4 ?_));obtain ⟨a56, hia56, ea56, h⟩ := el_some h;refine TO.fact (rdl_at h_t M6 hia56 ea56) (fun hp=>?_);obtain ⟨pa56, hpa56, hva56⟩ := hp;refine zV R3 (hva56 ⟨rfl, rfl⟩ rfl rfl) (zV R3 (Val.load_e hpa56 M6 ⟨_, rfl, rfl⟩ rfl rfl) (zA R4 (zA R4 (zN (zS (zU rfl (zM R4 ?_)))))));obtain ⟨c59, hc59⟩ := zY (a56 < 0);refine zV R3 (Val.lss hc59 rfl rfl) (zN ?_);obtain ⟨rfl, hc59, h⟩ | ⟨rfl, hc59, h⟩ := zI hc59 h
     ·refine zC rfl (zU rfl (zF 3 R6 (zL 5 R3 R6 (zM R4 (TO.build1 (en := encI) (a := x53) rfl rfl rfl ⟨rfl, rfl⟩ ⟨_, rfl, rfl⟩ (by decide) (by decide) rfl rfl (fun v63=>?_))))));obtain ⟨hk64, h⟩ := chk_some h;refine TO.eff rfl rfl rfl (Eff.append_own (b := 8) (en := encI) (l := f_Strange) (l2 := [x53]) (p := 2) (q := 0) ⟨rfl, rfl, rfl, ⟨_, rfl, rfl⟩, by decide, by decide⟩ rfl rfl rfl rfl rfl rfl (flat_ones _) (by decide) hk64) ?_;rintro v64 _ rfl;refine zG (_::_::_::_::_::_::_::C) rfl (zF 3 R6 (TO.fact (own_cellS (p := 2) rfl) (fun hot6=>TO.eff0 rfl rfl (Eff.store_row (p := 6) (cv := [_]) (cells' := [_, _, _, _, _, _, _]) rfl rfl rfl rfl rfl hot6.1 rfl rfl (by first | rfl | (simp [GS.one, hot6.2]; done)) (by decide) rfl) ?_)));rintro _ rfl;refine zG (_::_::_::_::_::_::_::C) rfl (zN (zE ?_));cases h;exact ⟨rfl, (v7, v64, v5), (sb (pk [1,1,1,1,1,1,98] rfl))⟩
     refine zD rfl (zK (zS (zU rfl (zM R4 (zM R4 (zV R3 (Val.lookupI (p := 3) rfl rfl key_ty3 rfl rfl rfl) ?_))))));obtain ⟨hk69, h⟩ := chk_some h;refine zV R3 (Val.add rfl rfl hk69) (TO.eff0 rfl rfl (Eff.mapUpdateI (p := 3) rfl rfl key_ty3 rfl rfl rfl) ?_);rintro _ rfl;refine zG (_::_::_::_::_::_::C) rfl (zN (zU rfl (zM R4 (zM R4 (zV R3 (Val.lookupI (p := 3) rfl rfl key_ty3 rfl rfl rfl) ?_)))));obtain ⟨c73, hc73⟩ := zY (((putI m_2 a56 ((m_2 a56) + 1)) a56) > 1);refine zV R3 (Val.gtr hc73 rfl rfl) (zN ?_);obtain ⟨rfl, hc73, h⟩ | ⟨rfl, hc73, h⟩ := zI hc73 h
     ·refine zC rfl (zU rfl (zF 4 R6 (zL 5 R3 R6 (zM R4 (TO.build1 (en := encI) (a := x53) rfl rfl rfl ⟨rfl, rfl⟩ ⟨_, rfl, rfl⟩ (by decide) (by decide) rfl rfl (fun v77=>?_))))));obtain ⟨hk78, h⟩ := chk_some h;refine TO.eff rfl rfl rfl (Eff.append_own (b := 8) (en := encI) (l := f_Twice) (l2 := [x53]) (p := 3) (q := 0) ⟨rfl, rfl, rfl, ⟨_, rfl, rfl⟩, by decide, by decide⟩ rfl rfl rfl rfl rfl rfl (flat_ones _) (by decide) hk78) ?_;rintro v78 _ rfl;refine zG (_::_::_::_::_::_::_::C) rfl (zF 4 R6 (TO.fact (own_cellS (p := 3) rfl) (fun hot5=>TO.eff0 rfl rfl (Eff.store_row (p := 6) (cv := [_]) (cells' := [_, _, _, _, _, _, _]) rfl rfl rfl rfl rfl hot5.1 rfl rfl (by first | rfl | (simp [GS.one, hot5.2]; done)) (by decide) rfl) ?_)));rintro _ rfl;refine zG (_::_::_::_::_::_::_::C) rfl (zN (zE ?_));cases h;exact ⟨rfl, (v7, v6, v78), (sb (pk [1,1,1,1,1,1,98] rfl))⟩
     refine zD rfl (zK ?_)
     show T _ _ _ _ _ _;apply T.join (r := j) (W := Unit) (fun j w => ⟨[], [(0, .ptr id_x 0 5), (4, .ptr b4 0 7), (9, v7), (10, .map m50), (11, iv (x53)), (12, iv (a56)), (51, v_t), (52, iv ((t.length : Int))), (53, iv (x53))], ownL true v7 enc_copy_run l :: ownL true v6 encI f_Strange :: ownL true v5 encI f_Twice :: .cnt m50 KInt (cntI (putI m_2 a56 ((m_2 a56) + 1))) [] :: ownL true w16 encI y16 :: .row b4 7 [nilS, w16, iv (f_Pieces), v6, v5, nilS, iv (0)] :: C⟩) h
     ·intro j h;refine zU rfl (zM R4 (zV R3 (Val.len_own (p := 0) rfl rfl rfl) ?_));obtain ⟨hk82, h⟩ := chk_some h;refine zV R3 (Val.sub rfl rfl hk82) (zA R4 (zN ?_))
      show T _ _ _ _ _ _;apply T.joinA (r := j) (W := Unit) (fun j w => ⟨[], [(0, .ptr id_x 0 5), (4, .ptr b4 0 7), (9, v7), (10, .map m50), (11, iv (x53)), (12, iv (a56)), (13, iv (((l.length : Int) - 1))), (51, v_t), (52, iv ((t.length : Int))), (53, iv (x53)), (116, bv j)], ownL true v7 enc_copy_run l :: ownL true v6 encI f_Strange :: ownL true v5 encI f_Twice :: .cnt m50 KInt (cntI (putI m_2 a56 ((m_2 a56) + 1))) [] :: ownL true w16 encI y16 :: .row b4 7 [nilS, w16, iv (f_Pieces), v6, v5, nilS, iv (0)] :: C⟩) h
      ·intro j h;refine T.draw (fun v => sameC_refl v) (l1 := [0, 1, 2, 3, 4, 5, 6, 7, 8, 9, 10, 11, 12, 13, 14, 15, 16, 17, 18, 19, 20, 21, 22, 23, 24, 25, 26, 27, 28, 29, 30, 31, 32, 33]) (l2 := []) (by kernel_rfl) (by kernel_rfl) (zM R4 ?_);obtain ⟨c84, hc84⟩ := zY (((l.length : Int) - 1) ≥ 0);refine zV R3 (Val.geq hc84 rfl rfl) (zM R4 ?_);obtain ⟨rfl, hc84, h⟩ | ⟨rfl, hc84, h⟩ := zI hc84 h
       ·refine zM R4 (zM R4 ?_);obtain ⟨a88, hia88, ea88, h⟩ := el_some h;refine TO.fact (own_at (en := enc_copy_run) (p := 0) rfl hia88) (fun hp=>?_);obtain ⟨ida88, ata88⟩ := hp;refine zV R3 (Val.iaddr_at (en := enc_copy_run) ata88 ⟨rfl, rfl⟩ rfl rfl hia88) (zV R3 (Val.faddr_ptr_ rfl rfl) (zV R3 (Val.load_ownL (en := enc_copy_run) (p := 0) (j := 2) rfl ata88 ⟨_, rfl, rfl⟩ rfl ea88 rfl) (zM R4 ?_)));obtain ⟨c92, hc92⟩ := zY (a88.last < a56);refine zV R3 (Val.lss hc92 rfl rfl) (zP R6 (zM R4 ?_));obtain ⟨rfl, hc92, h⟩ | ⟨rfl, hc92, h⟩ := zI hc92 h
        ·refine zM R4 (zV R3 (Val.nil_ptr rfl) (zF 3 R6 (zV R3 (Val.load_rowM h_x M6 ⟨_, rfl, rfl⟩ rfl rfl rfl) (zM R4 (zM R4 ?_)))));obtain ⟨a101, hia101, ea101, h⟩ := el_some h;refine TO.fact (own_at (en := enc_copy_run) (p := 0) rfl hia101) (fun hp=>?_);obtain ⟨ida101, ata101⟩ := hp;refine zV R3 (Val.iaddr_at (en := enc_copy_run) ata101 ⟨rfl, rfl⟩ rfl rfl hia101) (zV R3 (Val.faddr_ptr_ rfl rfl) (zV R3 (Val.load_ownL (en := enc_copy_run) (p := 0) (j := 2) rfl ata101 ⟨_, rfl, rfl⟩ rfl ea101 rfl) ?_));obtain ⟨a104, hia104, ea104, h⟩ := el_some h;refine TO.fact (rdl_at h_x_leaves M6 hia104 ea104) (fun hp=>?_);obtain ⟨pa104, hpa104, hva104⟩ := hp;refine zV R3 (hva104 ⟨rfl, rfl⟩ rfl rfl) (zV R3 (Val.faddr_e (fo := 0) hpa104 rfl rfl rfl) (zV R3 (Val.load_e (PtE.add hpa104 (by decide)) M6 ⟨_, rfl, rfl⟩ rfl rfl) (zM R4 (zV R3 (Val.nil_ptr rfl) (zF 3 R6 (zV R3 (Val.load_rowM h_x M6 ⟨_, rfl, rfl⟩ rfl rfl rfl) (zM R4 ?_)))))));obtain ⟨a112, hia112, ea112, h⟩ := el_some h;refine TO.fact (rdl_at h_x_leaves M6 hia112 ea112) (fun hp=>?_);obtain ⟨pa112, hpa112, hva112⟩ := hp;refine zV R3 (hva112 ⟨rfl, rfl⟩ rfl rfl) (zV R3 (Val.faddr_e (fo := 0) hpa112 rfl rfl rfl) (zV R3 (Val.load_e (PtE.add hpa112 (by decide)) M6 ⟨_, rfl, rfl⟩ rfl rfl) ?_));obtain ⟨c115, hc115⟩ := zY (a104.g = a112.g);refine zV R3 (Val.eql hc115 rfl rfl) (zP R6 (zN ?_));subst hc115;cases h;exact ⟨rfl, (), (sb .refl)⟩
        refine zO R3 (zO R3 (zO R3 (zO R3 (zO R3 (zO R3 (zO R3 (zO R3 (zO R3 (zO R3 (zO R3 (zO R3 (zO R3 (zO R3 (zO R3 (zO R3 (zO R3 (zO R3 (zO R3 (zO R3 (zO R3 (zP R6 (zN ?_))))))))))))))))))))));cases h;exact ⟨rfl, (), (sb .refl)⟩
       refine zO R3 (zO R3 (zO R3 (zO R3 (zO R3 (zO R3 (zO R3 (zP R6 (zM R4 (zO R3 (zO R3 (zO R3 (zO R3 (zO R3 (zO R3 (zO R3 (zO R3 (zO R3 (zO R3 (zO R3 (zO R3 (zO R3 (zO R3 (zO R3 (zO R3 (zO R3 (zO R3 (zO R3 (zO R3 (zO R3 (zP R6 (zN ?_)))))))))))))))))))))))))))))));cases h;exact ⟨rfl, (), (sb .refl)⟩
      ·rintro x116 _ h;obtain ⟨rfl, h⟩ | ⟨rfl, h⟩ := zZ h
       ·refine zC rfl (zU rfl (zM R4 (zM R4 (zM R4 ?_))));obtain ⟨a120, hia120, ea120, h⟩ := el_some h;refine TO.fact (own_at (en := enc_copy_run) (p := 0) rfl hia120) (fun hp=>?_);obtain ⟨ida120, ata120⟩ := hp;refine zV R3 (Val.iaddr_at (en := enc_copy_run) ata120 ⟨rfl, rfl⟩ rfl rfl hia120) (zV R3 (Val.faddr_ptr_ rfl rfl) (TO.eff0 rfl rfl (Eff.store_ownE (en := enc_copy_run) (p := 0) (a := a120) (a' := (⟨a120.item, a120.first, a56⟩ : S_copy_run)) (j := 2) (cv := [_]) rfl ata120 ea120 rfl rfl (by decide) rfl rfl rfl rfl aG rfl) ?_));rintro _ rfl;refine zG (_::_::_::_::_::_::C) rfl (zN (zE ?_));cases h;exact ⟨ex_ne, ⟨rfl, (v7, v6, v5), (sb .refl)⟩⟩
       refine zD rfl (zK ?_);cases h;exact ⟨rfl, (), (sb .refl)⟩
     ·rintro _ _ h;refine zT rfl (zM R4 (zM R4 (zM R4 (zM R4 (zV R3 (Val.buildC (cs := [_, _, _]) (vs := [(_, _), (_, _), (_, _)]) (ws := [(_, [_]), (_, [_]), (_, [_])]) rfl rfl (CellsL.cons rfl (CellsL.cons rfl (CellsL.cons rfl CellsL.nil))) rfl) (TO.build1 (en := enc_copy_run) (a := (⟨x53, a56, a56⟩ : S_copy_run)) rfl rfl rfl ⟨rfl, rfl⟩ ⟨_, rfl, rfl⟩ (by decide) (by decide) rfl rfl (fun v127=>?_)))))));obtain ⟨hk128, h⟩ := chk_some h;refine TO.eff rfl rfl rfl (Eff.append_own (b := 24) (en := enc_copy_run) (l := l) (l2 := [(⟨x53, a56, a56⟩ : S_copy_run)]) (p := 1) (q := 0) ⟨rfl, rfl, rfl, ⟨_, rfl, rfl⟩, by decide, by decide⟩ rfl rfl rfl rfl rfl rfl (en_ones enc_copy_run_ones _) (by decide) hk128) ?_;rintro v128 _ rfl;refine zG (_::_::_::_::_::_::_::C) rfl (zA R4 (zN ?_));cases h;exact ⟨rfl, (v128, v6, v5), (sb (pk [1,1,1,1,1,1,98] rfl))⟩
    ·rintro ⟨l_2, f_Strange_2, f_Twice_2, m_3⟩ ⟨v7_2, v6_2, v5_2⟩ h;dsimp only at h;dsimp only;refine zT rfl ?_;obtain ⟨hk129, h⟩ := chk_some h;refine zV R3 (Val.add rfl rfl hk129) (zM R4 (zN ?_));cases h;exact ⟨rfl, (v7_2, v6_2, v5_2), (sb .refl)⟩
   refine zD rfl (zE ?_);cases h;exact ⟨ex_ne, ⟨rfl, (v7, v6, v5), (sb .refl)⟩⟩
  ·rintro ⟨m_2, l, f_Strange, f_Twice⟩ ⟨v7, v6, v5⟩ h;dsimp only at h;dsimp only;refine zU rfl (zM R4 ?_);obtain ⟨y131, hr131, h⟩ := andx_some h;refine TO.callT (first := []) (cap := []) (vs := [v7]) rfl rfl rfl rfl rfl rfl (orcN rfl) (tf_c_moved aD (Rdl.mono (Rdl.own (C := ownL true v7 enc_copy_run l :: ownL true v6 encI f_Strange :: ownL true v5 encI f_Twice :: .cnt m50 KInt (cntI m_2) [] :: ownL true w16 encI y16 :: .row b4 7 [nilS, w16, iv (f_Pieces), v6, v5, nilS, iv (0)] :: C) (p := 0) rfl) mem0) hr131) ?_;rintro w131;refine zG (_::_::_::_::_::_::_::C) rfl (zF 5 R6 (TO.fact (own_cellS (p := 0) rfl) (fun hot11=>TO.eff0 rfl rfl (Eff.store_row (p := 6) (cv := [_]) (cells' := [_, _, _, _, _, _, _]) rfl rfl rfl rfl rfl hot11.1 rfl rfl (by first | rfl | (simp [GS.one, hot11.2]; done)) (by decide) rfl) ?_)));rintro _ rfl;refine zG (_::_::_::_::_::_::_::C) rfl (zN (zU rfl (zF 2 R6 (zL 6 R3 R6 (zF 3 R6 (zL 6 R3 R6 (zV R3 (Val.len_own (p := 2) rfl rfl rfl) ?_)))))));obtain ⟨hk138, h⟩ := chk_some h;refine zV R3 (Val.add rfl rfl hk138) (zF 4 R6 (zL 6 R3 R6 (zV R3 (Val.len_own (p := 3) rfl rfl rfl) ?_)));obtain ⟨hk142, h⟩ := chk_some h;refine zV R3 (Val.add rfl rfl hk142) (zF 5 R6 (zL 6 R3 R6 (zV R3 (Val.len_own (p := 0) rfl rfl rfl) ?_)));obtain ⟨hk146, h⟩ := chk_some h;refine zV R3 (Val.add rfl rfl hk146) (zF 6 R6 (TO.eff0 rfl rfl (Eff.store_row (p := 6) (cv := [_]) (cells' := [_, _, _, _, _, _, _]) rfl rfl rfl rfl rfl rfl rfl rfl aG (by decide) rfl) ?_));rintro _ rfl;refine zG (_::_::_::_::_::_::_::C) rfl (zN (zU rfl (zV R3 (vW 6 [_,_,_,_,_,_,_] R5 R4) (TO.fact (own_cellS (p := 5) rfl) (fun hot2=>TO.fact (own_cellS (p := 2) rfl) (fun hot6=>TO.fact (own_cellS (p := 3) rfl) (fun hot5=>TO.fact (own_cellS (p := 0) rfl) (fun hot11=>TO.eff0 rfl rfl (Eff.store_row (p := 6) (cv := [_, _, _, _, _, _, _]) (cells' := [_, _, _, _, _, _, _]) rfl rfl rfl rfl rfl rfl rfl rfl (by first | rfl | (simp [GS.one, hot2.2, hot6.2, hot5.2, hot11.2]; done) | (simp [GS.one, hot2.2, hot6.2, hot5.2, hot11.2]; (repeat' apply And.intro) <;> rfl)) (by decide) rfl) ?_))))))));rintro _ rfl;refine zG (_::_::_::_::_::_::_::C) rfl (zN (T.nilown (u := encI.u) (zR ?_)));cases h;exact ⟨rfl, _, rfl, [_], ⟨⟨_, rfl, LoadR.rows (p := 7) (c := [_, _, _, _, _, _, _]) rfl ⟨⟨_, rfl, rfl⟩, rfl, by decide⟩ rfl rfl rfl⟩, trivial⟩, ⟨(nilS, w16, v6, v5, w131), rfl, (pk [0,5,2,2,0,98,98,98] rfl)⟩⟩
end Go.Am.Ythckcbfijdambaa
end
section
namespace Go.Am
set_option linter.unusedVariables false
noncomputable def P_c_wide_L1 (x_CpCase_Book_Signed : Int) (x_CpCase_Book_Gatherings : List Gat) (x_CpCase_Items : List Item) (x_leaves : List Leaf) (x_mates : List Int) : (Int × Int) → (List Int) → Option (Stp (Int × Int) (Int × Int)) := fun (s_Lo, s_Hi) t =>
 andx (P_c_faults x_CpCase_Book_Signed x_CpCase_Book_Gatherings x_CpCase_Items x_leaves x_mates t) fun (y24, y24_2, y24_3, y24_4, y24_5, y24_6, y24_7) =>
  some (Stp.ag ((min s_Lo y24_7), (max s_Hi y24_7)))
noncomputable def P_c_wide (x_CpCase_Book_Signed : Int) (x_CpCase_Book_Gatherings : List Gat) (x_CpCase_Items : List Item) (x_leaves : List Leaf) (x_mates : List Int) : Option (Int × Int) :=
  chk (I64 (2 * (x_CpCase_Items.length : Int))) (
    chk (I64 ((x_leaves.length : Int) + (2 * (x_CpCase_Items.length : Int)))) (
      andx (
        chk (x_CpCase_Items.length ≤ 120 ∧ ∀ x ∈ x_CpCase_Items, x.could.l.length ≤ 4) (
          seqx (foldx (P_c_wide_L1 x_CpCase_Book_Signed x_CpCase_Book_Gatherings x_CpCase_Items x_leaves x_mates) (truthsOf x_CpCase_Items) (((x_leaves.length : Int) + (2 * (x_CpCase_Items.length : Int))), 0)) fun (s_Lo, s_Hi) =>
            some (s_Lo, s_Hi))) fun (s_Lo, s_Hi) =>
        some (s_Lo, s_Hi)))
noncomputable def P_c_open_L2 (x44 : Int) (a47 : Item) : Int → Option (Stp Int (Ex Unit (Stp Int (Ex Unit (Sum (Int × Int × Int) (Int × (GS encL) × (List Int) × Int × Int × Int)))))) := fun x66 =>
  if x66 < (a47.could.l.length : Int) then
    seqx (
      el a47.could.l x66 fun a69 =>
      andx (
        if x66 > 0 then
          chk (I64 (x66 - 1)) (
            el a47.could.l (x66 - 1) fun a79 =>
            some (decide (a69 ≤ a79)))
        else
          some false) fun x82 =>
        if x82 = true then
          some (Ex.rt (Stp.dn (Ex.rt (Stp.dn (Ex.rt (Sum.inl (2, x44, 2)))))))
        else
          some (Ex.nx ())) fun _ =>
      chk (I64 (x66 + 1)) (
        some (Stp.ag (x66 + 1)))
  else
    some (Stp.dn (Ex.nx ()))
noncomputable def P_c_open_L1 (c_Items : List Item) (leaves31 : List Leaf) : Int → Option (Stp Int (Ex Unit (Sum (Int × Int × Int) (Int × (GS encL) × (List Int) × Int × Int × Int)))) := fun x44 =>
  if x44 < (c_Items.length : Int) then
    seqx (
      el c_Items x44 fun a47 =>
      if (a47.could.l.length : Int) > 4 then
        some (Ex.rt (Stp.dn (Ex.rt (Sum.inl (2, x44, 3)))))
      else
        chk (I64 ((leaves31.length : Int) - 1)) (
          andx (P_c_outside 0 ((leaves31.length : Int) - 1) a47.could.l) fun out61 =>
            if out61 = true then
              some (Ex.rt (Stp.dn (Ex.rt (Sum.inl (2, x44, 4)))))
            else
              iter (P_c_open_L2 x44 a47) 0)) fun _ =>
      chk (I64 (x44 + 1)) (
        some (Stp.ag (x44 + 1)))
  else
    some (Stp.dn (Ex.nx ()))
noncomputable def P_c_open_L3 (c_Items : List Item) : (Int × Int) → Option (Stp (Int × Int) (Ex Unit (Sum (Int × Int × Int) (Int × (GS encL) × (List Int) × Int × Int × Int)))) := fun (doubts, x89) =>
  if x89 < (c_Items.length : Int) then
    seqx (
      el c_Items x89 fun a92 =>
      andx (
        if (a92.could.l.length : Int) > 1 then
          chk (I64 (doubts + 1)) (
            some (doubts + 1))
        else
          some doubts) fun doubts_2 =>
        if doubts_2 > 3 then
          some (Ex.rt (Stp.dn (Ex.rt (Sum.inl (3, x89, 3)))))
        else
          some (Ex.nx doubts_2)) fun doubts_2 =>
      chk (I64 (x89 + 1)) (
        some (Stp.ag (doubts_2, (x89 + 1))))
  else
    some (Stp.dn (Ex.nx ()))
noncomputable def P_c_open_L4 (c_Book_Signed : Int) (c_Book_Gatherings : List Gat) (leaves31 : List Leaf) : (Int × (List Int)) → Option (Stp (Int × (List Int)) (List Int)) := fun (x110, b107_mates) =>
  if x110 < (leaves31.length : Int) then
    andx (
      andx (P_q_Mate c_Book_Signed c_Book_Gatherings x110) fun (mate117, e117) =>
        andx (
          if ¬ e117 = 0 then
            some (-1)
          else
            some mate117) fun m =>
          chk (b107_mates.length + [m].length < 1000000000) (
            some (b107_mates ++ [m]))) fun b107_mates_2 =>
      chk (I64 (x110 + 1)) (
        some (Stp.ag ((x110 + 1), b107_mates_2)))
  else
    some (Stp.dn b107_mates)
noncomputable def P_c_open (c_Book_Signed : Int) (c_Book_Gatherings : List Gat) (c_Items : List Item) : Option (Sum (Int × Int × Int) (Int × (GS encL) × (List Int) × Int × Int × Int)) :=
  andx (P_q_Check c_Book_Signed c_Book_Gatherings) fun (part21, at_21, e21) =>
    if ¬ e21 = 0 then
      some (Sum.inl (1, 0, e21))
    else
      andx (P_q_Leaves c_Book_Signed c_Book_Gatherings) fun (leaves31, e31) =>
        if (leaves31.length : Int) > 120 then
          some (Sum.inl (1, 0, 3))
        else
          if (c_Items.length : Int) > 120 then
            some (Sum.inl (2, 0, 3))
          else
            seqx (
              iter (P_c_open_L1 c_Items leaves31) 0) fun _ =>
              seqx (
                iter (P_c_open_L3 c_Items) (0, 0)) fun _ =>
                andx (
                  iter (P_c_open_L4 c_Book_Signed c_Book_Gatherings leaves31) (0, [])) fun b107_mates =>
                  some (Sum.inr (c_Book_Signed, (GSo true encL leaves31), b107_mates, 0, 0, 0))
noncomputable def P_c_Faults_L1 (c_Book_Gatherings : List Gat) (c_Items : List Item) (y12_2 : Int) (y12_3 : GS encL) (y12_4 : List Int) : ((List Int) × Bool × (List Int) × (List Int) × (List Int) × (List Int) × Bool × Int × Int) → (List Int) → Option (Stp ((List Int) × Bool × (List Int) × (List Int) × (List Int) × (List Int) × Bool × Int × Int) ((List Int) × Bool × (List Int) × (List Int) × (List Int) × (List Int) × Bool × Int × Int)) := fun (best_Leaves, z, best_Lost, best_Strange, best_Twice, best_Moved, first, best_Pieces, best_All) t =>
  andx (P_c_faults y12_2 c_Book_Gatherings c_Items y12_3.l y12_4 t) fun (y26, y26_2, y26_3, y26_4, y26_5, y26_6, y26_7) =>
    seqx (
      andx (
        if first = true then
          some (false, true)
        else
          some (decide (y26_7 ≥ best_All), false)) fun (x35, first_2) =>
        if x35 = true then
          some (Ex.rt (Stp.ag (best_Leaves, z, best_Lost, best_Strange, best_Twice, best_Moved, first_2, best_Pieces, best_All)))
        else
          some (Ex.nx first_2)) fun first_2 =>
      chk (0 ≤ (t.length : Int) ∧ (t.length : Int) ≤ 1000000000) (
        chk ((List.replicate (t.length : Int).toNat (0 : Int)).length = t.length) (
          some (Stp.ag (t, false, y26_2, y26_4, y26_5, y26_6, false, y26_3, y26_7))))
noncomputable def P_c_Faults (c_Book_Signed : Int) (c_Book_Gatherings : List Gat) (c_Items : List Item) : Option ((List Int) × Bool × (List Int) × Bool × Int × (List Int) × Bool × (List Int) × Bool × (List Int) × Bool × Int × Int) :=
  andx (P_c_open c_Book_Signed c_Book_Gatherings c_Items) fun y =>
    match y with
    | .inl (y12_2, y12_3, y12_4) =>
      chk (¬ y12_4 = 0) (
        some ([], true, [], true, 0, [], true, [], true, [], true, 0, y12_4))
    | .inr (y12_2, y12_3, y12_4, y12_5, y12_6, y12_7) =>
      chk (y12_7 = 0) (
        andx (
          chk (c_Items.length ≤ 120 ∧ ∀ x ∈ c_Items, x.could.l.length ≤ 4) (
            seqx (foldx (P_c_Faults_L1 c_Book_Gatherings c_Items y12_2 y12_3 y12_4) (truthsOf c_Items) ([], true, [], [], [], [], true, 0, 0)) fun (best_Leaves, z, best_Lost, best_Strange, best_Twice, best_Moved, first, best_Pieces, best_All) =>
              some (best_Leaves, z, best_Lost, best_Strange, best_Twice, best_Moved, first, best_Pieces, best_All))) fun (best_Leaves, z, best_Lost, best_Strange, best_Twice, best_Moved, first, best_Pieces, best_All) =>
          some (best_Leaves, z, best_Lost, true, best_Pieces, best_Strange, true, best_Twice, true, best_Moved, true, best_All, 0))
noncomputable def P_c_Range (c_Book_Signed : Int) (c_Book_Gatherings : List Gat) (c_Items : List Item) : Option (Int × Int × Int) :=
  andx (P_c_open c_Book_Signed c_Book_Gatherings c_Items) fun y =>
    match y with
    | .inl (y10_2, y10_3, y10_4) =>
      chk (¬ y10_4 = 0) (
        some (0, 0, y10_4))
    | .inr (y10_2, y10_3, y10_4, y10_5, y10_6, y10_7) =>
      chk (y10_7 = 0) (
        andx (P_c_wide y10_2 c_Book_Gatherings c_Items y10_3.l y10_4) fun (y20, y20_2) =>
          some (y20, y20_2, 0))
end Go.Am
end
