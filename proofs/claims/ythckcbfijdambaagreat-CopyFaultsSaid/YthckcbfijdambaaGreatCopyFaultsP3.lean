/- Part 3. -/
import Derived.Test.YthckcbfijdambaaGreatCopyFaultsP2
section
namespace Go.Am.YthckcbfijdambaaGreat
open Go.Am Go.RowKit
set_option linter.unusedVariables false
set_option linter.unusedSimpArgs false
theorem r1_in (n : Int) (lo : Int) (hi : Int)  : Comes (EL 0) 50 [iv n, iv lo, iv hi] (bv (decide (inR n lo hi))) := by
 refine Comes.of (TF.enter (fn := Go.Proofs.Tryz.f50) rfl rfl rfl rfl rfl ?_);refine zU rfl (zA R4 (zN (zU rfl (zM R4 (zM R4 (TO.leq rfl rfl rfl rfl rfl (fun c9 hc9=>zM R4 ?_)))))));cases c9 with
 | true =>
  replace hc9 := btrue hc9;refine zM R4 (zM R4 (TO.leq rfl rfl rfl rfl rfl (fun c13 hc13=>zP R6 (zA R4 (zN (zR ?_))))));cases c13 with
  | true =>
   replace hc13 := btrue hc13;exact ⟨rfl, _, rfl, RefN.cast .lit (bv_t (by unfold inR; omega))⟩
  | false =>
   replace hc13 := bfalse hc13;exact ⟨rfl, _, rfl, RefN.cast .lit (bv_f (by unfold inR; omega))⟩
 | false =>
  replace hc9 := bfalse hc9;refine zO R3 (zO R3 (zO R3 (zP R6 (zA R4 (zN (zR ?_))))));exact ⟨rfl, _, rfl, RefN.cast .lit (bv_f (by unfold inR; omega))⟩
theorem r1_signature (s : Sg)  : Comes (EL 1) 98 [.agg (encS.f s)] (bv (decide (sigOk s))) := by
 refine Comes.of (TF.enter (fn := Go.Proofs.Tryz.f98) rfl rfl rfl rfl rfl ?_);refine zU rfl (zQ 2 [_,_] R7 (fun b1=>zA R4 (zN (zU rfl (zF 0 R6 (zL 0 R3 R6 (TO.callD rfl rfl rfl rfl rfl (orcL rfl aD) (.cons .lit (.cons .lit (.cons .lit .nil))) (sem_of (r1_in _ _ _ )) (fun c5 hc5=>zM R4 ?_))))))));cases c5 with
 | true =>
  replace hc5 := btrue hc5;refine zF 1 R6 (zL 0 R3 R6 (TO.callD rfl rfl rfl rfl rfl (orcL rfl aD) (.cons .lit (.cons .lit (.cons .lit .nil))) (sem_of (r1_in _ _ _ )) (fun c9 hc9=>zP R6 (zA R4 (zN (zR ?_))))));cases c9 with
  | true =>
   replace hc9 := btrue hc9;exact ⟨rfl, _, rfl, RefN.cast .lit (bv_t (by unfold sigOk; simp_all))⟩
  | false =>
   replace hc9 := bfalse hc9;exact ⟨rfl, _, rfl, RefN.cast .lit (bv_f (by unfold sigOk; simp_all))⟩
 | false =>
  replace hc5 := bfalse hc5;refine zO R3 (zO R3 (zO R3 (zP R6 (zA R4 (zN (zR ?_))))));exact ⟨rfl, _, rfl, RefN.cast .lit (bv_f (by unfold sigOk; simp_all))⟩
theorem r1_rank (s : Sg) (hs : sigOk s) : Comes (EL 0) 99 [.agg (encS.f s)] (iv (rank s)) := by
 obtain ⟨⟨hs1, hs2⟩, ⟨hs3, hs4⟩⟩ := hs;refine Comes.of (TF.enter (fn := Go.Proofs.Tryz.f99) rfl rfl rfl rfl rfl ?_);refine zU rfl (zQ 2 [_,_] R7 (fun b1=>zA R4 (zN (zS (zU rfl (zF 1 R6 (zL 0 R3 R6 (TO.geq rfl rfl rfl rfl rfl (fun c5 hc5=>zN ?_)))))))));cases c5 with
 | true =>
  replace hc5 := btrue hc5;refine zC rfl (zU rfl (zA R4 (zN (zR ?_))));exact ⟨rfl, _, rfl, RefN.cast .lit (by simp only [rank]; split <;> first | rfl | omega)⟩
 | false =>
  replace hc5 := bfalse hc5;refine zD rfl (zK (zU rfl (zF 0 R6 (zL 0 R3 R6 (zV R3 (Val.sub rfl rfl aO) (zV R3 (Val.mul rfl rfl aO) (zF 1 R6 (zL 0 R3 R6 (zV R3 (Val.add rfl rfl aO) (zA R4 (zN (zR ?_))))))))))));exact ⟨rfl, _, rfl, RefN.cast .lit (by simp only [rank]; split <;> first | rfl | omega)⟩
theorem r1_change (g : Gat) (i : Nat) (c : Chg) (hi : g.ch.l[i]? = some c) (hb : g.ch.l.length ≤ 4) : Comes (EL 1) 100 [.agg (encG.f g), iv (i : Int)] (iv (chgErr g.leaves c (if i = 0 then none else g.ch.l[i - 1]?))) := by
 have hlt := (List.getElem?_eq_some_iff.1 hi).1;refine Comes.of (TF.enter (fn := Go.Proofs.Tryz.f100) rfl rfl rfl rfl rfl ?_);refine zU rfl (zQ 4 [_,_,_,_] R7 (fun b2=>zA R4 (zN (zU rfl (zF 3 R6 (zL 0 R3 R6 (zM R4 (TO.index_gs rfl rfl rfl ⟨rfl, rfl⟩ rfl rfl aO (fun a12 ra12 ea12=>?_)))))))))
 try simp only [Int.toNat_natCast] at ea12
 have e12 := Option.some.inj (hi.symm.trans ea12);subst e12;refine zV R3 (Val.load_trees (c := _) ⟨⟨_, rfl, rfl⟩, rfl, by decide⟩ rfl rfl) (zJ 3 [_,_,_] R7 (fun b5=>TO.store_row (p := 0) (cv := [_, _, _]) (cells' := [_, _, _]) rfl rfl rfl rfl rfl rfl rfl rfl rfl rfl (by first | rfl | simp [GS.one]) (by decide) rfl (zG ([_,_]) rfl (zN (zS (zU rfl (zF 0 R6 (zL 0 R3 R6 (TO.callD rfl rfl rfl rfl rfl (orcL rfl aD) (.cons .lit (.cons .lit (.cons .lit .nil))) (sem_of (r1_in _ _ _ )) (fun c16 hc16=>zV R3 (Val.not rfl) (zN ?_)))))))))));cases c16 with
 | true =>
  replace hc16 := btrue hc16;refine zD rfl (zK (zS (T.draw (fun v => sameC_refl v) (l1 := [0, 1, 2, 3, 4]) (l2 := []) (by kernel_rfl) (by kernel_rfl) (zF 2 R6 (zL 0 R3 R6 (TO.eql rfl rfl rfl rfl rfl (fun c20 hc20=>zA R4 (zA R4 (zN (zS (zU rfl (zF 0 R6 (zL 0 R3 R6 (TO.eql rfl rfl rfl rfl rfl (fun c23 hc23=>zN ?_)))))))))))))));cases c23 with
  | true =>
   replace hc23 := btrue hc23;refine zC rfl (zT rfl (zF 2 R6 (zL 0 R3 R6 (TO.callD rfl rfl rfl rfl rfl (orcL rfl aD) (.cons .lit (.cons .lit (.cons .lit .nil))) (sem_of (r1_in _ _ _ )) (fun c26 hc26=>zA R4 (zA R4 (zN (zS (zU rfl (zF 1 R6 (zL 0 R3 R6 (zM R4 (zF 2 R6 (zL 1 R3 R6 (TO.callD rfl rfl rfl rfl rfl (orcL rfl aD) (.cons .lit (.cons .lit (.cons .lit .nil))) (sem_of (r1_in _ _ _ )) (fun c32 hc32=>zV R3 (Val.not rfl) (zM R4 ?_)))))))))))))))));cases c32 with
   | true =>
    replace hc32 := btrue hc32;refine zM R4 (zV R3 (Val.not rfl) (zP R6 (zN ?_)));cases c26 with
    | true =>
     replace hc26 := btrue hc26;refine zD rfl (zK (zS (zU rfl (zM R4 (TO.eql rfl rfl rfl rfl rfl (fun c39 hc39=>zN ?_))))));cases c39 with
     | true =>
      replace hc39 := btrue hc39;refine zC rfl (zU rfl (zA R4 (zN (zR ?_))));exact ⟨rfl, _, rfl, RefN.cast .lit (by simp_all [chgErr])⟩
     | false =>
      replace hc39 := bfalse hc39;refine zD rfl (zK (zU rfl (zF 3 R6 (zL 1 R3 R6 (zM R4 (zV R3 (Val.sub rfl rfl aO) (TO.index_gs rfl rfl rfl ⟨rfl, rfl⟩ rfl rfl aO (fun a44 ra44 ea44=>?_))))))))
      try simp only [Int.toNat_natCast] at ea44
      have e44 : ((i : Int) - 1).toNat = i - 1 := by omega
      rw [e44] at ea44;refine zV R3 (Val.load_trees (c := _) ⟨⟨_, rfl, rfl⟩, rfl, by decide⟩ rfl rfl) (zJ 3 [_,_,_] R7 (fun b8=>TO.store_row (p := 0) (cv := [_, _, _]) (cells' := [_, _, _]) rfl rfl rfl rfl rfl rfl rfl rfl rfl rfl (by first | rfl | simp [GS.one]) (by decide) rfl (zG ([_,_,_]) rfl (zN (zS (zU rfl (zF 1 R6 (zL 1 R3 R6 (zF 1 R6 (zL 0 R3 R6 (TO.lss rfl rfl rfl rfl rfl (fun c50 hc50=>zM R4 ?_))))))))))));cases c50 with
      | true =>
       replace hc50 := btrue hc50;refine zO R3 (zO R3 (zO R3 (zO R3 (zO R3 (zO R3 (zO R3 (zO R3 (zO R3 (zO R3 (zO R3 (zO R3 (zO R3 (zO R3 (zO R3 (zP R6 (zN (zC rfl (zU rfl (zA R4 (zN (zR ?_)))))))))))))))))))));exact ⟨rfl, _, rfl, RefN.cast .lit (by simp_all [chgErr])⟩
      | false =>
       replace hc50 := bfalse hc50;refine zF 1 R6 (zL 1 R3 R6 (zF 1 R6 (zL 0 R3 R6 (TO.eql rfl rfl rfl rfl rfl (fun c56 hc56=>zM R4 ?_)))));cases c56 with
       | true =>
        replace hc56 := btrue hc56;refine zF 0 R6 (zL 1 R3 R6 (TO.neq rfl rfl rfl rfl rfl (fun c60 hc60=>zM R4 ?_)));cases c60 with
        | true =>
         replace hc60 := btrue hc60;refine zO R3 (zO R3 (zO R3 (zP R6 (zP R6 (zP R6 (zN (zC rfl (zU rfl (zA R4 (zN (zR ?_)))))))))));exact ⟨rfl, _, rfl, RefN.cast .lit (by simp_all [chgErr])⟩
        | false =>
         replace hc60 := bfalse hc60;refine zF 0 R6 (zL 0 R3 R6 (TO.eql rfl rfl rfl rfl rfl (fun c64 hc64=>zP R6 (zP R6 (zP R6 (zN ?_))))));cases c64 with
         | true =>
          replace hc64 := btrue hc64;refine zC rfl (zU rfl (zA R4 (zN (zR ?_))));exact ⟨rfl, _, rfl, RefN.cast .lit (by simp_all [chgErr])⟩
         | false =>
          replace hc64 := bfalse hc64;refine zD rfl (zK (zU rfl (zA R4 (zN (zR ?_)))));exact ⟨rfl, _, rfl, RefN.cast .lit (by simp_all [chgErr])⟩
       | false =>
        replace hc56 := bfalse hc56;refine zO R3 (zO R3 (zO R3 (zO R3 (zO R3 (zO R3 (zO R3 (zO R3 (zP R6 (zP R6 (zN (zD rfl (zK (zU rfl (zA R4 (zN (zR ?_))))))))))))))));exact ⟨rfl, _, rfl, RefN.cast .lit (by simp_all [chgErr])⟩
    | false =>
     replace hc26 := bfalse hc26;refine zC rfl (zU rfl (zA R4 (zN (zR ?_))));exact ⟨rfl, _, rfl, RefN.cast .lit (by simp_all [chgErr])⟩
   | false =>
    replace hc32 := bfalse hc32;refine zO R3 (zO R3 (zP R6 (zN (zC rfl (zU rfl (zA R4 (zN (zR ?_))))))));exact ⟨rfl, _, rfl, RefN.cast .lit (by simp_all [chgErr])⟩
  | false =>
   replace hc23 := bfalse hc23;refine zD rfl (zK (zS (zU rfl (zF 1 R6 (zL 0 R3 R6 (zM R4 (zF 2 R6 (zL 1 R3 R6 (TO.callD rfl rfl rfl rfl rfl (orcL rfl aD) (.cons .lit (.cons .lit (.cons .lit .nil))) (sem_of (r1_in _ _ _ )) (fun c32 hc32=>zV R3 (Val.not rfl) (zM R4 ?_)))))))))));cases c32 with
   | true =>
    replace hc32 := btrue hc32;refine zM R4 (zV R3 (Val.not rfl) (zP R6 (zN ?_)));cases c20 with
    | true =>
     replace hc20 := btrue hc20;refine zD rfl (zK (zS (zU rfl (zM R4 (TO.eql rfl rfl rfl rfl rfl (fun c39 hc39=>zN ?_))))));cases c39 with
     | true =>
      replace hc39 := btrue hc39;refine zC rfl (zU rfl (zA R4 (zN (zR ?_))));exact ⟨rfl, _, rfl, RefN.cast .lit (by simp_all [chgErr])⟩
     | false =>
      replace hc39 := bfalse hc39;refine zD rfl (zK (zU rfl (zF 3 R6 (zL 1 R3 R6 (zM R4 (zV R3 (Val.sub rfl rfl aO) (TO.index_gs rfl rfl rfl ⟨rfl, rfl⟩ rfl rfl aO (fun a44 ra44 ea44=>?_))))))))
      try simp only [Int.toNat_natCast] at ea44
      have e44 : ((i : Int) - 1).toNat = i - 1 := by omega
      rw [e44] at ea44;refine zV R3 (Val.load_trees (c := _) ⟨⟨_, rfl, rfl⟩, rfl, by decide⟩ rfl rfl) (zJ 3 [_,_,_] R7 (fun b8=>TO.store_row (p := 0) (cv := [_, _, _]) (cells' := [_, _, _]) rfl rfl rfl rfl rfl rfl rfl rfl rfl rfl (by first | rfl | simp [GS.one]) (by decide) rfl (zG ([_,_,_]) rfl (zN (zS (zU rfl (zF 1 R6 (zL 1 R3 R6 (zF 1 R6 (zL 0 R3 R6 (TO.lss rfl rfl rfl rfl rfl (fun c50 hc50=>zM R4 ?_))))))))))));cases c50 with
      | true =>
       replace hc50 := btrue hc50;refine zO R3 (zO R3 (zO R3 (zO R3 (zO R3 (zO R3 (zO R3 (zO R3 (zO R3 (zO R3 (zO R3 (zO R3 (zO R3 (zO R3 (zO R3 (zP R6 (zN (zC rfl (zU rfl (zA R4 (zN (zR ?_)))))))))))))))))))));exact ⟨rfl, _, rfl, RefN.cast .lit (by simp_all [chgErr])⟩
      | false =>
       replace hc50 := bfalse hc50;refine zF 1 R6 (zL 1 R3 R6 (zF 1 R6 (zL 0 R3 R6 (TO.eql rfl rfl rfl rfl rfl (fun c56 hc56=>zM R4 ?_)))));cases c56 with
       | true =>
        replace hc56 := btrue hc56;refine zF 0 R6 (zL 1 R3 R6 (TO.neq rfl rfl rfl rfl rfl (fun c60 hc60=>zM R4 ?_)));cases c60 with
        | true =>
         replace hc60 := btrue hc60;refine zO R3 (zO R3 (zO R3 (zP R6 (zP R6 (zP R6 (zN (zC rfl (zU rfl (zA R4 (zN (zR ?_)))))))))));exact ⟨rfl, _, rfl, RefN.cast .lit (by simp_all [chgErr])⟩
        | false =>
         replace hc60 := bfalse hc60;refine zF 0 R6 (zL 0 R3 R6 (TO.eql rfl rfl rfl rfl rfl (fun c64 hc64=>zP R6 (zP R6 (zP R6 (zN ?_))))));cases c64 with
         | true =>
          replace hc64 := btrue hc64;refine zC rfl (zU rfl (zA R4 (zN (zR ?_))));exact ⟨rfl, _, rfl, RefN.cast .lit (by simp_all [chgErr])⟩
         | false =>
          replace hc64 := bfalse hc64;refine zD rfl (zK (zU rfl (zA R4 (zN (zR ?_)))));exact ⟨rfl, _, rfl, RefN.cast .lit (by simp_all [chgErr])⟩
       | false =>
        replace hc56 := bfalse hc56;refine zO R3 (zO R3 (zO R3 (zO R3 (zO R3 (zO R3 (zO R3 (zO R3 (zP R6 (zP R6 (zN (zD rfl (zK (zU rfl (zA R4 (zN (zR ?_))))))))))))))));exact ⟨rfl, _, rfl, RefN.cast .lit (by simp_all [chgErr])⟩
    | false =>
     replace hc20 := bfalse hc20;refine zC rfl (zU rfl (zA R4 (zN (zR ?_))));exact ⟨rfl, _, rfl, RefN.cast .lit (by simp_all [chgErr])⟩
   | false =>
    replace hc32 := bfalse hc32;refine zO R3 (zO R3 (zP R6 (zN (zC rfl (zU rfl (zA R4 (zN (zR ?_))))))));exact ⟨rfl, _, rfl, RefN.cast .lit (by simp_all [chgErr])⟩
 | false =>
  replace hc16 := bfalse hc16;refine zC rfl (zU rfl (zA R4 (zN (zR ?_))));exact ⟨rfl, _, rfl, RefN.cast .lit (by simp_all [chgErr])⟩
theorem r1_gathering (b : Book) (i : Nat) (g : Gat) (hi : b.gs.l[i]? = some g) (hb : b.gs.l.length ≤ 30) (hok : ∀ k x, k < i → b.gs.l[k]? = some x → sigOk x.sig) : Comes (EL 2) 77 [.agg (encB.f b), iv (i : Int)] (iv (gathErr (b.gs.l.take i) g)) := by
 have hlt := (List.getElem?_eq_some_iff.1 hi).1;refine Comes.of (TF.enter (fn := Go.Proofs.Tryz.f77) rfl rfl rfl rfl rfl ?_);refine zU rfl (zQ 2 [_,_] R7 (fun b2=>zA R4 (zN (zU rfl (zF 1 R6 (zL 0 R3 R6 (zM R4 (TO.index_gs rfl rfl rfl ⟨rfl, rfl⟩ rfl rfl aO (fun a13 ra13 ea13=>?_)))))))))
 try simp only [Int.toNat_natCast] at ea13
 have e13 := Option.some.inj (hi.symm.trans ea13);subst e13;refine zV R3 (Val.load_trees (c := _) ⟨⟨_, rfl, rfl⟩, rfl, by decide⟩ rfl rfl) (zJ 4 [_,_,_,_] R7 (fun b5=>TO.store_row (p := 0) (cv := [_, _, _, _]) (cells' := [_, _, _, _]) rfl rfl rfl rfl rfl rfl rfl rfl rfl rfl (by first | rfl | simp [GS.one]) (by decide) rfl (zG ([_,_]) rfl (zN (zS (zU rfl (zF 0 R6 (zV R3 (vW 0 [_,_] R5 R4) (TO.callD rfl rfl rfl rfl rfl (orcL rfl aD) (.cons (.agg (.cons .lit (.cons .lit .nil))) .nil) (sem_of (r1_signature g.sig )) (fun c17 hc17=>zV R3 (Val.not rfl) (zN ?_)))))))))));cases c17 with
 | true =>
  replace hc17 := btrue hc17;refine zD rfl (zK (zU rfl (zA R4 (zN (zS (zU rfl (zA R4 (zN (zB (T.loop (fun μ s => ∃ k : Nat, ∃ j : Int, ∃ m : Int, μ = i - k ∧ j = k ∧ k ≤ i ∧ (∀ x ∈ b.gs.l.take k, x.sig ≠ g.sig) ∧ m = lastRank (b.gs.l.take k) ∧ (-1 ≤ m ∧ m ≤ 100) ∧ s = ⟨[], [(1, iv (i : Int)), (2, .ptr b2 0 2), (5, .ptr b5 0 4), (6, iv m), (7, iv j)], [.row b5 4 [iv g.round, iv g.letter, iv g.leaves, g.ch.v], .row b2 2 [iv b.signed, b.gs.v]]⟩) (k := _) (s' := _) ⟨0, 0, -1, rfl, (by first | rfl | omega | (simp; done) | (simp; omega) | simp_all), (by first | rfl | omega | (simp; done) | (simp; omega) | simp_all), (by first | rfl | omega | (simp; done) | (simp; omega) | simp_all), (by first | rfl | omega | (simp; done) | (simp; omega) | simp_all), (by first | rfl | omega | (simp; done) | (simp; omega) | simp_all), rfl⟩ ⟨rfl, (keep_cons rfl (keep_cons rfl (keep_cons rfl (keep_cons rfl (keep_cons rfl keep_nil))))), (.cons_cons _ (.cons_cons _ .slnil))⟩ ?_))))))))));rintro μ _ ⟨k, j, m, hk0, hj, hk, hne, hm, hmb, rfl⟩;subst hj;refine zS (zU rfl (zM R4 (zM R4 (TO.lss rfl rfl rfl rfl rfl (fun c21 hc21=>zN ?_)))));cases c21 with
  | true =>
   replace hc21 := btrue hc21;refine zC rfl (zK (zS (zB (zS (zS (T.draw (fun v => sameC_refl v) (l1 := [0, 1, 2, 3, 4, 5, 6, 7, 8]) (l2 := []) (by kernel_rfl) (by kernel_rfl) (zF 1 R6 (zL 1 R3 R6 (zM R4 (TO.index_gs rfl rfl rfl ⟨rfl, rfl⟩ rfl rfl aO (fun a27 ra27 ea27=>?_)))))))))))
   try simp only [Int.toNat_natCast] at ea27
   refine zV R3 (Val.faddr_tree (fo := 0) rfl rfl rfl rfl) (zV R3 (Val.load_trees (c := [_, _]) ⟨⟨_, rfl, rfl⟩, rfl, by decide⟩ rfl rfl) (zF 0 R6 (zV R3 (vW 0 [_,_] R5 R4) (TO.binP rfl rfl rfl rfl rfl (eql_ty107 _ _ _ _ _ _) (fun c32 hc32=>zN ?_)))));cases c32 with
   | true =>
    replace hc32 := btrue hc32;refine zC rfl (zU rfl (zA R4 (zN (zR ?_))));exact ⟨rfl, _, rfl, RefN.cast .lit (by rw [gathErr, if_neg (by simp [hc17]), if_pos ⟨a27, mem_take ea27 aO, sig_eq hc32⟩])⟩
   | false =>
    replace hc32 := bfalse hc32;refine zD rfl (zK (zT rfl (zM R4 (zF 1 R6 (zL 1 R3 R6 (zM R4 (TO.index_gs rfl rfl rfl ⟨rfl, rfl⟩ rfl rfl aO (fun a37 ra37 ea37=>?_))))))))
    try simp only [Int.toNat_natCast] at ea37
    refine zV R3 (Val.faddr_tree (fo := 0) rfl rfl rfl rfl) (zV R3 (Val.load_trees (c := [_, _]) ⟨⟨_, rfl, rfl⟩, rfl, by decide⟩ rfl rfl) (TO.call rfl rfl rfl rfl rfl (orcL rfl aD) (.cons (.agg (.cons .lit (.cons .lit .nil))) .nil) (sem_of (r1_rank a37.sig (by exact hok _ _ aO ea37))) (TO.bmax rfl rfl rfl rfl rfl (zA R4 (zN (zT rfl (zM R4 (zV R3 (Val.add rfl rfl aO) (zA R4 (zN ?_))))))))));refine ⟨_, _, aO, ⟨k + 1, _, _, rfl, (by first | omega | simp_all), (by first | omega | simp_all), (by rw [take_snoc ea27]; intro x hx; rcases List.mem_append.1 hx with hx | hx; exact hne x hx; simp at hx; subst hx; exact sig_ne hc32), (by rw [take_snoc ea37, lastRank_snoc, hm]), (by have := rank_le (hok k _ aO ea37); omega), rfl⟩, ⟨rfl, (keep_cons rfl (keep_cons rfl (keep_cons rfl (keep_cons rfl (keep_cons rfl keep_nil))))), (.cons_cons _ (.cons_cons _ .slnil))⟩⟩
  | false =>
   replace hc21 := bfalse hc21;obtain rfl : k = i := by omega
   have hnx : ¬ ∃ x ∈ b.gs.l.take k, x.sig = g.sig := fun ⟨x, h1, h2⟩ => hne x h1 h2
   refine zD rfl (zE (zS (zU rfl (zF 0 R6 (zV R3 (vW 0 [_,_] R5 R4) (TO.call rfl rfl rfl rfl rfl (orcL rfl aD) (.cons (.agg (.cons .lit (.cons .lit .nil))) .nil) (sem_of (r1_rank g.sig (by assumption))) (TO.geq rfl rfl rfl rfl rfl (fun c45 hc45=>zM R4 ?_))))))));cases c45 with
   | true =>
    replace hc45 := btrue hc45;refine zF 0 R6 (zV R3 (vW 0 [_,_] R5 R4) (TO.call rfl rfl rfl rfl rfl (orcL rfl aD) (.cons (.agg (.cons .lit (.cons .lit .nil))) .nil) (sem_of (r1_rank g.sig (by assumption))) (zM R4 (TO.lss rfl rfl rfl rfl rfl (fun c51 hc51=>zP R6 (zN ?_))))));cases c51 with
    | true =>
     replace hc51 := btrue hc51;refine zC rfl (zU rfl (zA R4 (zN (zR ?_))));exact ⟨rfl, _, rfl, RefN.cast .lit (by unfold gathErr; (repeat' split) <;> first | rfl | rw [hce] | exact absurd (by assumption) hnx | (exfalso; simp_all; done) | (exfalso; simp_all; omega) | simp_all)⟩
    | false =>
     replace hc51 := bfalse hc51;refine zD rfl (zK (zS (zU rfl (zF 2 R6 (zL 0 R3 R6 (TO.neq rfl rfl rfl rfl rfl (fun c55 hc55=>zM R4 ?_)))))));cases c55 with
     | true =>
      replace hc55 := btrue hc55;refine zF 2 R6 (zL 0 R3 R6 (TO.callD rfl rfl rfl rfl rfl (orcL rfl aD) (.cons .lit (.cons .lit (.cons .lit .nil))) (sem_of (r1_in _ _ _ )) (fun c59 hc59=>zV R3 (Val.not rfl) (zM R4 ?_))));cases c59 with
      | true =>
       replace hc59 := btrue hc59;refine zF 2 R6 (zL 0 R3 R6 (zV R3 (Val.rem rfl rfl aO) (TO.eql rfl rfl rfl rfl rfl (fun c65 hc65=>zP R6 (zP R6 (zN ?_))))));cases c65 with
       | true =>
        replace hc65 := btrue hc65;refine zC rfl (zU rfl (zA R4 (zN (zR ?_))));exact ⟨rfl, _, rfl, RefN.cast .lit (by unfold gathErr; (repeat' split) <;> first | rfl | rw [hce] | exact absurd (by assumption) hnx | (exfalso; simp_all; done) | (exfalso; simp_all; omega) | simp_all)⟩
       | false =>
        replace hc65 := bfalse hc65;refine zD rfl (zK (zS (zU rfl (zF 3 R6 (zL 0 R3 R6 (zV R3 (Val.len_gs rfl rfl) (TO.gtr rfl rfl rfl rfl rfl (fun c71 hc71=>zN ?_))))))));cases c71 with
        | true =>
         replace hc71 := btrue hc71;refine zC rfl (zU rfl (zA R4 (zN (zR ?_))));exact ⟨rfl, _, rfl, RefN.cast .lit (by unfold gathErr; (repeat' split) <;> first | rfl | rw [hce] | exact absurd (by assumption) hnx | (exfalso; simp_all; done) | (exfalso; simp_all; omega) | simp_all)⟩
        | false =>
         replace hc71 := bfalse hc71;refine zD rfl (zK (zS (zU rfl (zA R4 (zN (zB (T.loop (fun μ s => ∃ k : Nat, ∃ j : Int, μ = g.ch.l.length - k ∧ j = k ∧ k ≤ g.ch.l.length ∧ chgsErr g.leaves none g.ch.l = chgsErr g.leaves (if k = 0 then none else g.ch.l[k - 1]?) (g.ch.l.drop k) ∧ s = ⟨[], [(5, .ptr b5 0 4), (8, iv j)], [.row b5 4 [iv g.round, iv g.letter, iv g.leaves, g.ch.v]]⟩) (k := _) (s' := _) ⟨0, 0, rfl, (by first | rfl | omega | (simp; done) | (simp; omega) | simp_all), (by first | rfl | omega | (simp; done) | (simp; omega) | simp_all), (by first | rfl | omega | (simp; done) | (simp; omega) | simp_all), rfl⟩ ⟨rfl, (keep_cons rfl (keep_cons rfl keep_nil)), (.cons_cons _ (.cons _ .slnil))⟩ ?_)))))));rintro μ _ ⟨k, j, hk1, hj, hk, he, rfl⟩;subst hj;refine zS (zU rfl (zM R4 (zF 3 R6 (zL 0 R3 R6 (zV R3 (Val.len_gs rfl rfl) (TO.lss rfl rfl rfl rfl rfl (fun c76 hc76=>zN ?_)))))));cases c76 with
         | true =>
          replace hc76 := btrue hc76;refine zC rfl (zK (zS (zB (zU rfl (zV R3 (vW 0 [_,_,_,_] R5 R4) (zM R4 ?_))))));obtain ⟨c81, e81⟩ : ∃ c, g.ch.l[k]? = some c := ⟨_, List.getElem?_eq_getElem aO⟩;refine TO.call rfl rfl rfl rfl rfl (orcL rfl aD) (.cons (.agg (.cons .lit (.cons .lit (.cons .lit (.cons .gs .nil))))) (.cons .lit .nil)) (sem_of (r1_change g k c81 (by exact e81) aO)) ?_;generalize hE : chgErr g.leaves c81 (if k = 0 then none else g.ch.l[k - 1]?) = E81;refine zA R4 (zN (zU rfl (zM R4 (TO.neq rfl rfl rfl rfl rfl (fun c83 hc83=>zN ?_)))));cases c83 with
          | true =>
           replace hc83 := btrue hc83
           have hce : chgsErr g.leaves none g.ch.l = E81 := by rw [he, drop_cons e81, chgsErr, hE, if_pos hc83]
           refine zC rfl (zU rfl (zM R4 (zA R4 (zN (zR ?_)))));exact ⟨rfl, _, rfl, RefN.cast .lit (by unfold gathErr; (repeat' split) <;> first | rfl | rw [hce] | exact absurd (by assumption) hnx | (exfalso; simp_all; done) | (exfalso; simp_all; omega) | simp_all)⟩
          | false =>
           replace hc83 := bfalse hc83
           have hce : chgsErr g.leaves none g.ch.l = chgsErr g.leaves (some c81) (g.ch.l.drop (k + 1)) := by rw [he, drop_cons e81, chgsErr, hE, if_neg hc83]
           refine zD rfl (zK (zT rfl (zM R4 (zV R3 (Val.add rfl rfl aO) (zA R4 (zN ?_))))));refine ⟨_, _, aO, ⟨k + 1, _, rfl, (by first | omega | simp_all), (by first | omega | simp_all), (by rw [hce]; simp [e81]), rfl⟩, ⟨rfl, (keep_cons rfl (keep_cons rfl keep_nil)), (.cons_cons _ .slnil)⟩⟩
         | false =>
          replace hc76 := bfalse hc76;obtain rfl : k = g.ch.l.length := by omega
          rw [List.drop_length, chgsErr] at he;refine zD rfl (zE (zU rfl (zA R4 (zN (zR ?_)))));exact ⟨rfl, _, rfl, RefN.cast .lit (by unfold gathErr; (repeat' split) <;> first | rfl | rw [hce] | exact absurd (by assumption) hnx | (exfalso; simp_all; done) | (exfalso; simp_all; omega) | simp_all)⟩
      | false =>
       replace hc59 := bfalse hc59;refine zO R3 (zO R3 (zO R3 (zO R3 (zP R6 (zP R6 (zN (zC rfl (zU rfl (zA R4 (zN (zR ?_)))))))))));exact ⟨rfl, _, rfl, RefN.cast .lit (by unfold gathErr; (repeat' split) <;> first | rfl | rw [hce] | exact absurd (by assumption) hnx | (exfalso; simp_all; done) | (exfalso; simp_all; omega) | simp_all)⟩
     | false =>
      replace hc55 := bfalse hc55;refine zO R3 (zO R3 (zO R3 (zO R3 (zO R3 (zO R3 (zO R3 (zO R3 (zO R3 (zO R3 (zP R6 (zN (zD rfl (zK (zS (zU rfl (zF 3 R6 (zL 0 R3 R6 (zV R3 (Val.len_gs rfl rfl) (TO.gtr rfl rfl rfl rfl rfl (fun c71 hc71=>zN ?_))))))))))))))))))));cases c71 with
      | true =>
       replace hc71 := btrue hc71;refine zC rfl (zU rfl (zA R4 (zN (zR ?_))));exact ⟨rfl, _, rfl, RefN.cast .lit (by unfold gathErr; (repeat' split) <;> first | rfl | rw [hce] | exact absurd (by assumption) hnx | (exfalso; simp_all; done) | (exfalso; simp_all; omega) | simp_all)⟩
      | false =>
       replace hc71 := bfalse hc71;refine zD rfl (zK (zS (zU rfl (zA R4 (zN (zB (T.loop (fun μ s => ∃ k : Nat, ∃ j : Int, μ = g.ch.l.length - k ∧ j = k ∧ k ≤ g.ch.l.length ∧ chgsErr g.leaves none g.ch.l = chgsErr g.leaves (if k = 0 then none else g.ch.l[k - 1]?) (g.ch.l.drop k) ∧ s = ⟨[], [(5, .ptr b5 0 4), (8, iv j)], [.row b5 4 [iv g.round, iv g.letter, iv g.leaves, g.ch.v]]⟩) (k := _) (s' := _) ⟨0, 0, rfl, (by first | rfl | omega | (simp; done) | (simp; omega) | simp_all), (by first | rfl | omega | (simp; done) | (simp; omega) | simp_all), (by first | rfl | omega | (simp; done) | (simp; omega) | simp_all), rfl⟩ ⟨rfl, (keep_cons rfl (keep_cons rfl keep_nil)), (.cons_cons _ (.cons _ .slnil))⟩ ?_)))))));rintro μ _ ⟨k, j, hk1, hj, hk, he, rfl⟩;subst hj;refine zS (zU rfl (zM R4 (zF 3 R6 (zL 0 R3 R6 (zV R3 (Val.len_gs rfl rfl) (TO.lss rfl rfl rfl rfl rfl (fun c76 hc76=>zN ?_)))))));cases c76 with
       | true =>
        replace hc76 := btrue hc76;refine zC rfl (zK (zS (zB (zU rfl (zV R3 (vW 0 [_,_,_,_] R5 R4) (zM R4 ?_))))));obtain ⟨c81, e81⟩ : ∃ c, g.ch.l[k]? = some c := ⟨_, List.getElem?_eq_getElem aO⟩;refine TO.call rfl rfl rfl rfl rfl (orcL rfl aD) (.cons (.agg (.cons .lit (.cons .lit (.cons .lit (.cons .gs .nil))))) (.cons .lit .nil)) (sem_of (r1_change g k c81 (by exact e81) aO)) ?_;generalize hE : chgErr g.leaves c81 (if k = 0 then none else g.ch.l[k - 1]?) = E81;refine zA R4 (zN (zU rfl (zM R4 (TO.neq rfl rfl rfl rfl rfl (fun c83 hc83=>zN ?_)))));cases c83 with
        | true =>
         replace hc83 := btrue hc83
         have hce : chgsErr g.leaves none g.ch.l = E81 := by rw [he, drop_cons e81, chgsErr, hE, if_pos hc83]
         refine zC rfl (zU rfl (zM R4 (zA R4 (zN (zR ?_)))));exact ⟨rfl, _, rfl, RefN.cast .lit (by unfold gathErr; (repeat' split) <;> first | rfl | rw [hce] | exact absurd (by assumption) hnx | (exfalso; simp_all; done) | (exfalso; simp_all; omega) | simp_all)⟩
        | false =>
         replace hc83 := bfalse hc83
         have hce : chgsErr g.leaves none g.ch.l = chgsErr g.leaves (some c81) (g.ch.l.drop (k + 1)) := by rw [he, drop_cons e81, chgsErr, hE, if_neg hc83]
         refine zD rfl (zK (zT rfl (zM R4 (zV R3 (Val.add rfl rfl aO) (zA R4 (zN ?_))))));refine ⟨_, _, aO, ⟨k + 1, _, rfl, (by first | omega | simp_all), (by first | omega | simp_all), (by first | omega | simp_all), rfl⟩, ⟨rfl, (keep_cons rfl (keep_cons rfl keep_nil)), (.cons_cons _ .slnil)⟩⟩
       | false =>
        replace hc76 := bfalse hc76;obtain rfl : k = g.ch.l.length := by omega
        rw [List.drop_length, chgsErr] at he;refine zD rfl (zE (zU rfl (zA R4 (zN (zR ?_)))));exact ⟨rfl, _, rfl, RefN.cast .lit (by unfold gathErr; (repeat' split) <;> first | rfl | rw [hce] | exact absurd (by assumption) hnx | (exfalso; simp_all; done) | (exfalso; simp_all; omega) | simp_all)⟩
   | false =>
    replace hc45 := bfalse hc45;refine zO R3 (zO R3 (zO R3 (zO R3 (zO R3 (zP R6 (zN (zD rfl (zK (zS (zU rfl (zF 2 R6 (zL 0 R3 R6 (TO.neq rfl rfl rfl rfl rfl (fun c55 hc55=>zM R4 ?_))))))))))))));cases c55 with
    | true =>
     replace hc55 := btrue hc55;refine zF 2 R6 (zL 0 R3 R6 (TO.callD rfl rfl rfl rfl rfl (orcL rfl aD) (.cons .lit (.cons .lit (.cons .lit .nil))) (sem_of (r1_in _ _ _ )) (fun c59 hc59=>zV R3 (Val.not rfl) (zM R4 ?_))));cases c59 with
     | true =>
      replace hc59 := btrue hc59;refine zF 2 R6 (zL 0 R3 R6 (zV R3 (Val.rem rfl rfl aO) (TO.eql rfl rfl rfl rfl rfl (fun c65 hc65=>zP R6 (zP R6 (zN ?_))))));cases c65 with
      | true =>
       replace hc65 := btrue hc65;refine zC rfl (zU rfl (zA R4 (zN (zR ?_))));exact ⟨rfl, _, rfl, RefN.cast .lit (by unfold gathErr; (repeat' split) <;> first | rfl | rw [hce] | exact absurd (by assumption) hnx | (exfalso; simp_all; done) | (exfalso; simp_all; omega) | simp_all)⟩
      | false =>
       replace hc65 := bfalse hc65;refine zD rfl (zK (zS (zU rfl (zF 3 R6 (zL 0 R3 R6 (zV R3 (Val.len_gs rfl rfl) (TO.gtr rfl rfl rfl rfl rfl (fun c71 hc71=>zN ?_))))))));cases c71 with
       | true =>
        replace hc71 := btrue hc71;refine zC rfl (zU rfl (zA R4 (zN (zR ?_))));exact ⟨rfl, _, rfl, RefN.cast .lit (by unfold gathErr; (repeat' split) <;> first | rfl | rw [hce] | exact absurd (by assumption) hnx | (exfalso; simp_all; done) | (exfalso; simp_all; omega) | simp_all)⟩
       | false =>
        replace hc71 := bfalse hc71;refine zD rfl (zK (zS (zU rfl (zA R4 (zN (zB (T.loop (fun μ s => ∃ k : Nat, ∃ j : Int, μ = g.ch.l.length - k ∧ j = k ∧ k ≤ g.ch.l.length ∧ chgsErr g.leaves none g.ch.l = chgsErr g.leaves (if k = 0 then none else g.ch.l[k - 1]?) (g.ch.l.drop k) ∧ s = ⟨[], [(5, .ptr b5 0 4), (8, iv j)], [.row b5 4 [iv g.round, iv g.letter, iv g.leaves, g.ch.v]]⟩) (k := _) (s' := _) ⟨0, 0, rfl, (by first | rfl | omega | (simp; done) | (simp; omega) | simp_all), (by first | rfl | omega | (simp; done) | (simp; omega) | simp_all), (by first | rfl | omega | (simp; done) | (simp; omega) | simp_all), rfl⟩ ⟨rfl, (keep_cons rfl (keep_cons rfl keep_nil)), (.cons_cons _ (.cons _ .slnil))⟩ ?_)))))));rintro μ _ ⟨k, j, hk1, hj, hk, he, rfl⟩;subst hj;refine zS (zU rfl (zM R4 (zF 3 R6 (zL 0 R3 R6 (zV R3 (Val.len_gs rfl rfl) (TO.lss rfl rfl rfl rfl rfl (fun c76 hc76=>zN ?_)))))));cases c76 with
        | true =>
         replace hc76 := btrue hc76;refine zC rfl (zK (zS (zB (zU rfl (zV R3 (vW 0 [_,_,_,_] R5 R4) (zM R4 ?_))))));obtain ⟨c81, e81⟩ : ∃ c, g.ch.l[k]? = some c := ⟨_, List.getElem?_eq_getElem aO⟩;refine TO.call rfl rfl rfl rfl rfl (orcL rfl aD) (.cons (.agg (.cons .lit (.cons .lit (.cons .lit (.cons .gs .nil))))) (.cons .lit .nil)) (sem_of (r1_change g k c81 (by exact e81) aO)) ?_;generalize hE : chgErr g.leaves c81 (if k = 0 then none else g.ch.l[k - 1]?) = E81;refine zA R4 (zN (zU rfl (zM R4 (TO.neq rfl rfl rfl rfl rfl (fun c83 hc83=>zN ?_)))));cases c83 with
         | true =>
          replace hc83 := btrue hc83
          have hce : chgsErr g.leaves none g.ch.l = E81 := by rw [he, drop_cons e81, chgsErr, hE, if_pos hc83]
          refine zC rfl (zU rfl (zM R4 (zA R4 (zN (zR ?_)))));exact ⟨rfl, _, rfl, RefN.cast .lit (by unfold gathErr; (repeat' split) <;> first | rfl | rw [hce] | exact absurd (by assumption) hnx | (exfalso; simp_all; done) | (exfalso; simp_all; omega) | simp_all)⟩
         | false =>
          replace hc83 := bfalse hc83
          have hce : chgsErr g.leaves none g.ch.l = chgsErr g.leaves (some c81) (g.ch.l.drop (k + 1)) := by rw [he, drop_cons e81, chgsErr, hE, if_neg hc83]
          refine zD rfl (zK (zT rfl (zM R4 (zV R3 (Val.add rfl rfl aO) (zA R4 (zN ?_))))));refine ⟨_, _, aO, ⟨k + 1, _, rfl, (by first | omega | simp_all), (by first | omega | simp_all), (by first | omega | simp_all), rfl⟩, ⟨rfl, (keep_cons rfl (keep_cons rfl keep_nil)), (.cons_cons _ .slnil)⟩⟩
        | false =>
         replace hc76 := bfalse hc76;obtain rfl : k = g.ch.l.length := by omega
         rw [List.drop_length, chgsErr] at he;refine zD rfl (zE (zU rfl (zA R4 (zN (zR ?_)))));exact ⟨rfl, _, rfl, RefN.cast .lit (by unfold gathErr; (repeat' split) <;> first | rfl | rw [hce] | exact absurd (by assumption) hnx | (exfalso; simp_all; done) | (exfalso; simp_all; omega) | simp_all)⟩
     | false =>
      replace hc59 := bfalse hc59;refine zO R3 (zO R3 (zO R3 (zO R3 (zP R6 (zP R6 (zN (zC rfl (zU rfl (zA R4 (zN (zR ?_)))))))))));exact ⟨rfl, _, rfl, RefN.cast .lit (by unfold gathErr; (repeat' split) <;> first | rfl | rw [hce] | exact absurd (by assumption) hnx | (exfalso; simp_all; done) | (exfalso; simp_all; omega) | simp_all)⟩
    | false =>
     replace hc55 := bfalse hc55;refine zO R3 (zO R3 (zO R3 (zO R3 (zO R3 (zO R3 (zO R3 (zO R3 (zO R3 (zO R3 (zP R6 (zN (zD rfl (zK (zS (zU rfl (zF 3 R6 (zL 0 R3 R6 (zV R3 (Val.len_gs rfl rfl) (TO.gtr rfl rfl rfl rfl rfl (fun c71 hc71=>zN ?_))))))))))))))))))));cases c71 with
     | true =>
      replace hc71 := btrue hc71;refine zC rfl (zU rfl (zA R4 (zN (zR ?_))));exact ⟨rfl, _, rfl, RefN.cast .lit (by unfold gathErr; (repeat' split) <;> first | rfl | rw [hce] | exact absurd (by assumption) hnx | (exfalso; simp_all; done) | (exfalso; simp_all; omega) | simp_all)⟩
     | false =>
      replace hc71 := bfalse hc71;refine zD rfl (zK (zS (zU rfl (zA R4 (zN (zB (T.loop (fun μ s => ∃ k : Nat, ∃ j : Int, μ = g.ch.l.length - k ∧ j = k ∧ k ≤ g.ch.l.length ∧ chgsErr g.leaves none g.ch.l = chgsErr g.leaves (if k = 0 then none else g.ch.l[k - 1]?) (g.ch.l.drop k) ∧ s = ⟨[], [(5, .ptr b5 0 4), (8, iv j)], [.row b5 4 [iv g.round, iv g.letter, iv g.leaves, g.ch.v]]⟩) (k := _) (s' := _) ⟨0, 0, rfl, (by first | rfl | omega | (simp; done) | (simp; omega) | simp_all), (by first | rfl | omega | (simp; done) | (simp; omega) | simp_all), (by first | rfl | omega | (simp; done) | (simp; omega) | simp_all), rfl⟩ ⟨rfl, (keep_cons rfl (keep_cons rfl keep_nil)), (.cons_cons _ (.cons _ .slnil))⟩ ?_)))))));rintro μ _ ⟨k, j, hk1, hj, hk, he, rfl⟩;subst hj;refine zS (zU rfl (zM R4 (zF 3 R6 (zL 0 R3 R6 (zV R3 (Val.len_gs rfl rfl) (TO.lss rfl rfl rfl rfl rfl (fun c76 hc76=>zN ?_)))))));cases c76 with
      | true =>
       replace hc76 := btrue hc76;refine zC rfl (zK (zS (zB (zU rfl (zV R3 (vW 0 [_,_,_,_] R5 R4) (zM R4 ?_))))));obtain ⟨c81, e81⟩ : ∃ c, g.ch.l[k]? = some c := ⟨_, List.getElem?_eq_getElem aO⟩;refine TO.call rfl rfl rfl rfl rfl (orcL rfl aD) (.cons (.agg (.cons .lit (.cons .lit (.cons .lit (.cons .gs .nil))))) (.cons .lit .nil)) (sem_of (r1_change g k c81 (by exact e81) aO)) ?_;generalize hE : chgErr g.leaves c81 (if k = 0 then none else g.ch.l[k - 1]?) = E81;refine zA R4 (zN (zU rfl (zM R4 (TO.neq rfl rfl rfl rfl rfl (fun c83 hc83=>zN ?_)))));cases c83 with
       | true =>
        replace hc83 := btrue hc83
        have hce : chgsErr g.leaves none g.ch.l = E81 := by rw [he, drop_cons e81, chgsErr, hE, if_pos hc83]
        refine zC rfl (zU rfl (zM R4 (zA R4 (zN (zR ?_)))));exact ⟨rfl, _, rfl, RefN.cast .lit (by unfold gathErr; (repeat' split) <;> first | rfl | rw [hce] | exact absurd (by assumption) hnx | (exfalso; simp_all; done) | (exfalso; simp_all; omega) | simp_all)⟩
       | false =>
        replace hc83 := bfalse hc83
        have hce : chgsErr g.leaves none g.ch.l = chgsErr g.leaves (some c81) (g.ch.l.drop (k + 1)) := by rw [he, drop_cons e81, chgsErr, hE, if_neg hc83]
        refine zD rfl (zK (zT rfl (zM R4 (zV R3 (Val.add rfl rfl aO) (zA R4 (zN ?_))))));refine ⟨_, _, aO, ⟨k + 1, _, rfl, (by first | omega | simp_all), (by first | omega | simp_all), (by first | omega | simp_all), rfl⟩, ⟨rfl, (keep_cons rfl (keep_cons rfl keep_nil)), (.cons_cons _ .slnil)⟩⟩
      | false =>
       replace hc76 := bfalse hc76;obtain rfl : k = g.ch.l.length := by omega
       rw [List.drop_length, chgsErr] at he;refine zD rfl (zE (zU rfl (zA R4 (zN (zR ?_)))));exact ⟨rfl, _, rfl, RefN.cast .lit (by unfold gathErr; (repeat' split) <;> first | rfl | rw [hce] | exact absurd (by assumption) hnx | (exfalso; simp_all; done) | (exfalso; simp_all; omega) | simp_all)⟩
 | false =>
  replace hc17 := bfalse hc17;refine zC rfl (zU rfl (zA R4 (zN (zR ?_))));exact ⟨rfl, _, rfl, RefN.cast .lit (by unfold gathErr; (repeat' split) <;> first | rfl | rw [hce] | exact absurd (by assumption) hnx | (exfalso; simp_all; done) | (exfalso; simp_all; omega) | simp_all)⟩
theorem r1_Check (b : Book)  : Comes (EL 3) 56 [.agg (encB.f b)] (.tuple [iv (bookErr b).1, iv (bookErr b).2.1, iv (bookErr b).2.2]) := by
 refine Comes.of (TF.enter (fn := Go.Proofs.Tryz.f56) rfl rfl rfl rfl rfl ?_);refine zU rfl (zQ 2 [_,_] R7 (fun b1=>zA R4 (zA R4 (zA R4 (zN (zS (zU rfl (zF 0 R6 (zL 0 R3 R6 (TO.callD rfl rfl rfl rfl rfl (orcL rfl aD) (.cons .lit (.cons .lit (.cons .lit .nil))) (sem_of (r1_in _ _ _ )) (fun c9 hc9=>zV R3 (Val.not rfl) (zN ?_))))))))))));cases c9 with
 | true =>
  replace hc9 := btrue hc9;refine zD rfl (zK (zS (zU rfl (zF 1 R6 (zL 0 R3 R6 (zV R3 (Val.len_gs rfl rfl) (TO.callD rfl rfl rfl rfl rfl (orcL rfl aD) (.cons .lit (.cons .lit (.cons .lit .nil))) (sem_of (r1_in _ _ _ )) (fun c14 hc14=>zV R3 (Val.not rfl) (zN ?_)))))))));cases c14 with
  | true =>
   replace hc14 := btrue hc14;obtain ⟨h30, h31⟩ := hc14;refine zD rfl (zK (zS (zU rfl (zA R4 (zN (zB (T.loop (fun μ s => ∃ i : Nat, ∃ j : Int, μ = b.gs.l.length - i ∧ j = i ∧ i ≤ b.gs.l.length ∧ gathsErr [] b.gs.l 0 = gathsErr (b.gs.l.take i) (b.gs.l.drop i) i ∧ (∀ k x, k < i → b.gs.l[k]? = some x → sigOk x.sig) ∧ s = ⟨[], [(1, .ptr b1 0 2), (5, iv j)], [.row b1 2 [iv b.signed, b.gs.v]]⟩) (k := _) (s' := _) ⟨0, 0, rfl, (by first | rfl | omega | (simp; done) | (simp; omega) | simp_all), (by first | rfl | omega | (simp; done) | (simp; omega) | simp_all), (by first | rfl | omega | (simp; done) | (simp; omega) | simp_all), (by intro k x hk; omega), rfl⟩ ⟨rfl, (keep_cons rfl (keep_cons rfl keep_nil)), (.cons_cons _ .slnil)⟩ ?_)))))));rintro μ _ ⟨i, j, hk0, hj, hi, he, hok, rfl⟩;subst hj;refine zS (zU rfl (zM R4 (zF 1 R6 (zL 0 R3 R6 (zV R3 (Val.len_gs rfl rfl) (TO.lss rfl rfl rfl rfl rfl (fun c20 hc20=>zN ?_)))))));cases c20 with
   | true =>
    replace hc20 := btrue hc20;refine zC rfl (zK (zS (zB (zU rfl (zV R3 (vW 0 [_,_] R5 R4) (zM R4 ?_))))));obtain ⟨g25, e25⟩ : ∃ g, b.gs.l[i]? = some g := ⟨_, List.getElem?_eq_getElem aO⟩;refine TO.call rfl rfl rfl rfl rfl (orcL rfl aD) (.cons (.agg (.cons .lit (.cons .gs .nil))) (.cons .lit .nil)) (sem_of (r1_gathering b i g25 (by exact e25) aO (by exact hok))) ?_;generalize hE : gathErr (b.gs.l.take i) g25 = E25;refine zA R4 (zN (zU rfl (zM R4 (TO.neq rfl rfl rfl rfl rfl (fun c27 hc27=>zN ?_)))));cases c27 with
    | true =>
     replace hc27 := btrue hc27
     have hG : gathsErr [] b.gs.l 0 = some (i, E25) := by rw [he, drop_cons e25, gathsErr, hE, if_pos hc27]
     clear he
     refine zC rfl (zU rfl (zM R4 (zM R4 (zA R4 (zA R4 (zA R4 (zN (zR ?_))))))));exact ⟨rfl, _, rfl, RefN.cast (.tuple (.cons .lit (.cons .lit (.cons .lit .nil)))) (by simp_all [bookErr, inR])⟩
    | false =>
     replace hc27 := bfalse hc27
     have hG : gathsErr [] b.gs.l 0 = gathsErr (b.gs.l.take (i + 1)) (b.gs.l.drop (i + 1)) (i + 1) := by rw [he, drop_cons e25, gathsErr, hE, if_neg hc27, take_snoc e25]
     refine zD rfl (zK (zT rfl (zM R4 (zV R3 (Val.add rfl rfl aO) (zA R4 (zN ?_))))));refine ⟨_, _, aO, ⟨i + 1, _, rfl, (by first | omega | simp_all), (by first | omega | simp_all), (by exact hG), (by intro k x hk hx; rcases Nat.lt_or_eq_of_le (Nat.le_of_lt_succ hk) with h | h; exact hok k x h hx; subst h; rw [e25] at hx; cases hx; exact gath_sig (by rw [hE]; omega)), rfl⟩, ⟨rfl, (keep_cons rfl (keep_cons rfl keep_nil)), (.cons_cons _ .slnil)⟩⟩
   | false =>
    replace hc20 := bfalse hc20
    have hG : gathsErr [] b.gs.l 0 = none := by rw [he, List.drop_eq_nil_of_le aO, gathsErr]
    clear he
    refine zD rfl (zE (zU rfl (zA R4 (zA R4 (zA R4 (zN (zR ?_)))))));exact ⟨rfl, _, rfl, RefN.cast (.tuple (.cons .lit (.cons .lit (.cons .lit .nil)))) (by simp_all [bookErr, inR])⟩
  | false =>
   replace hc14 := bfalse hc14;refine zC rfl (zU rfl (zA R4 (zA R4 (zA R4 (zN (zR ?_))))));exact ⟨rfl, _, rfl, RefN.cast (.tuple (.cons .lit (.cons .lit (.cons .lit .nil)))) (by simp_all [bookErr, inR])⟩
 | false =>
  replace hc9 := bfalse hc9;refine zC rfl (zU rfl (zA R4 (zA R4 (zA R4 (zN (zR ?_))))));exact ⟨rfl, _, rfl, RefN.cast (.tuple (.cons .lit (.cons .lit (.cons .lit .nil)))) (by simp_all [bookErr, inR])⟩
theorem r1_plus (g : Gat) (n : Int) (hb : g.ch.l.length ≤ 4) : Comes (EL 0) 65 [.agg (encG.f g), iv n] (.tuple [iv (plusOf g.ch.l n).1, iv (plusOf g.ch.l n).2]) := by
 refine Comes.of (TF.enter (fn := Go.Proofs.Tryz.f65) rfl rfl rfl rfl rfl ?_);refine zU rfl (zQ 4 [_,_,_,_] R7 (fun b2=>zA R4 (zA R4 (zN (zS (zU rfl (zA R4 (zN (zB (T.loop (fun μ s => ∃ i : Nat, ∃ j : Int, ∃ m1 : Int, ∃ m2 : Int, μ = g.ch.l.length - i ∧ j = i ∧ i ≤ g.ch.l.length ∧ m1 = (plusOf (g.ch.l.take i) n).1 ∧ m2 = (plusOf (g.ch.l.take i) n).2 ∧ s = ⟨[], [(1, iv n), (2, .ptr b2 0 4), (4, iv m1), (5, iv m2), (6, iv j)], [.row b2 4 [iv g.round, iv g.letter, iv g.leaves, g.ch.v]]⟩) (k := _) (s' := _) ⟨0, 0, 0, 0, rfl, (by first | rfl | omega | (simp; done) | (simp; omega) | simp_all), (by first | rfl | omega | (simp; done) | (simp; omega) | simp_all), (by first | rfl | omega | (simp; done) | (simp; omega) | simp_all), (by first | rfl | omega | (simp; done) | (simp; omega) | simp_all), rfl⟩ ⟨rfl, (keep_cons rfl (keep_cons rfl (keep_cons rfl (keep_cons rfl (keep_cons rfl keep_nil))))), (.cons_cons _ .slnil)⟩ ?_))))))))));rintro μ _ ⟨i, j, m1, m2, hk0, hj, hi, hm1, hm2, rfl⟩;subst hj;refine zS (zU rfl (zM R4 (zF 3 R6 (zL 0 R3 R6 (zV R3 (Val.len_gs rfl rfl) (TO.lss rfl rfl rfl rfl rfl (fun c11 hc11=>zN ?_)))))));cases c11 with
 | true =>
  replace hc11 := btrue hc11;refine zC rfl (zK (zS (zB (zS (zU rfl (zF 3 R6 (zL 0 R3 R6 (zM R4 (TO.index_gs rfl rfl rfl ⟨rfl, rfl⟩ rfl rfl aO (fun a17 ra17 ea17=>?_))))))))))
  try simp only [Int.toNat_natCast] at ea17
  refine zV R3 (Val.faddr_tree (fo := 1) rfl rfl rfl rfl) (zV R3 (Val.load_tree ⟨_, rfl, rfl⟩ rfl) (zM R4 (TO.eql rfl rfl rfl rfl rfl (fun c21 hc21=>zM R4 ?_))));cases c21 with
  | true =>
   replace hc21 := btrue hc21;refine zF 3 R6 (zL 0 R3 R6 (zM R4 (TO.index_gs rfl rfl rfl ⟨rfl, rfl⟩ rfl rfl aO (fun a26 ra26 ea26=>?_))))
   try simp only [Int.toNat_natCast] at ea26
   have e26 := Option.some.inj (ea17.symm.trans ea26);subst e26;refine zV R3 (Val.faddr_tree (fo := 0) rfl rfl rfl rfl) (zV R3 (Val.load_tree ⟨_, rfl, rfl⟩ rfl) (TO.eql rfl rfl rfl rfl rfl (fun c29 hc29=>zP R6 (zN ?_))));cases c29 with
   | true =>
    replace hc29 := btrue hc29;refine zC rfl (zT rfl (zF 3 R6 (zL 0 R3 R6 (zM R4 (TO.index_gs rfl rfl rfl ⟨rfl, rfl⟩ rfl rfl aO (fun a34 ra34 ea34=>?_))))))
    try simp only [Int.toNat_natCast] at ea34
    have e34 := Option.some.inj (ea17.symm.trans ea34);subst e34;refine zV R3 (Val.faddr_tree (fo := 2) rfl rfl rfl rfl) (zV R3 (Val.load_tree ⟨_, rfl, rfl⟩ rfl) (zA R4 (zN (zU rfl (zF 3 R6 (zL 0 R3 R6 (zM R4 (TO.index_gs rfl rfl rfl ⟨rfl, rfl⟩ rfl rfl aO (fun a40 ra40 ea40=>?_)))))))))
    try simp only [Int.toNat_natCast] at ea40
    have e40 := Option.some.inj (ea17.symm.trans ea40);subst e40;refine zV R3 (Val.faddr_tree (fo := 1) rfl rfl rfl rfl) (zV R3 (Val.load_tree ⟨_, rfl, rfl⟩ rfl) (zM R4 (TO.eql rfl rfl rfl rfl rfl (fun c44 hc44=>zM R4 ?_))));cases c44 with
    | true =>
     replace hc44 := btrue hc44;refine zF 3 R6 (zL 0 R3 R6 (zM R4 (TO.index_gs rfl rfl rfl ⟨rfl, rfl⟩ rfl rfl aO (fun a49 ra49 ea49=>?_))))
     try simp only [Int.toNat_natCast] at ea49
     have e49 := Option.some.inj (ea17.symm.trans ea49);subst e49;refine zV R3 (Val.faddr_tree (fo := 0) rfl rfl rfl rfl) (zV R3 (Val.load_tree ⟨_, rfl, rfl⟩ rfl) (TO.neq rfl rfl rfl rfl rfl (fun c52 hc52=>zP R6 (zN ?_))));cases c52 with
     | true =>
      replace hc52 := btrue hc52;refine zC rfl (zT rfl (zF 3 R6 (zL 0 R3 R6 (zM R4 (TO.index_gs rfl rfl rfl ⟨rfl, rfl⟩ rfl rfl aO (fun a57 ra57 ea57=>?_))))))
      try simp only [Int.toNat_natCast] at ea57
      have e57 := Option.some.inj (ea17.symm.trans ea57);subst e57;refine zV R3 (Val.faddr_tree (fo := 0) rfl rfl rfl rfl) (zV R3 (Val.load_tree ⟨_, rfl, rfl⟩ rfl) (zA R4 (zN (zT rfl (zM R4 (zV R3 (Val.add rfl rfl aO) (zA R4 (zN ?_))))))));refine ⟨_, _, aO, ⟨i + 1, _, _, _, rfl, (by first | omega | simp_all), (by first | omega | simp_all), (by rw [take_snoc ea17, plusOf_snoc]; simp_all), (by rw [take_snoc ea17, plusOf_snoc]; simp_all), rfl⟩, ⟨rfl, (keep_cons rfl (keep_cons rfl (keep_cons rfl (keep_cons rfl (keep_cons rfl keep_nil))))), (.cons_cons _ .slnil)⟩⟩
     | false =>
      replace hc52 := bfalse hc52;refine zD rfl (zK (zT rfl (zM R4 (zV R3 (Val.add rfl rfl aO) (zA R4 (zN ?_))))));refine ⟨_, _, aO, ⟨i + 1, _, _, _, rfl, (by first | omega | simp_all), (by first | omega | simp_all), (by rw [take_snoc ea17, plusOf_snoc]; simp_all), (by rw [take_snoc ea17, plusOf_snoc]; simp_all), rfl⟩, ⟨rfl, (keep_cons rfl (keep_cons rfl (keep_cons rfl (keep_cons rfl (keep_cons rfl keep_nil))))), (.cons_cons _ .slnil)⟩⟩
    | false =>
     replace hc44 := bfalse hc44;refine zO R3 (zO R3 (zO R3 (zO R3 (zO R3 (zO R3 (zO R3 (zP R6 (zN (zD rfl (zK (zT rfl (zM R4 (zV R3 (Val.add rfl rfl aO) (zA R4 (zN ?_)))))))))))))));refine ⟨_, _, aO, ⟨i + 1, _, _, _, rfl, (by first | omega | simp_all), (by first | omega | simp_all), (by rw [take_snoc ea17, plusOf_snoc]; simp_all), (by rw [take_snoc ea17, plusOf_snoc]; simp_all), rfl⟩, ⟨rfl, (keep_cons rfl (keep_cons rfl (keep_cons rfl (keep_cons rfl (keep_cons rfl keep_nil))))), (.cons_cons _ .slnil)⟩⟩
   | false =>
    replace hc29 := bfalse hc29;refine zD rfl (zK (zU rfl (zF 3 R6 (zL 0 R3 R6 (zM R4 (TO.index_gs rfl rfl rfl ⟨rfl, rfl⟩ rfl rfl aO (fun a40 ra40 ea40=>?_)))))))
    try simp only [Int.toNat_natCast] at ea40
    have e40 := Option.some.inj (ea17.symm.trans ea40);subst e40;refine zV R3 (Val.faddr_tree (fo := 1) rfl rfl rfl rfl) (zV R3 (Val.load_tree ⟨_, rfl, rfl⟩ rfl) (zM R4 (TO.eql rfl rfl rfl rfl rfl (fun c44 hc44=>zM R4 ?_))));cases c44 with
    | true =>
     replace hc44 := btrue hc44;refine zF 3 R6 (zL 0 R3 R6 (zM R4 (TO.index_gs rfl rfl rfl ⟨rfl, rfl⟩ rfl rfl aO (fun a49 ra49 ea49=>?_))))
     try simp only [Int.toNat_natCast] at ea49
     have e49 := Option.some.inj (ea17.symm.trans ea49);subst e49;refine zV R3 (Val.faddr_tree (fo := 0) rfl rfl rfl rfl) (zV R3 (Val.load_tree ⟨_, rfl, rfl⟩ rfl) (TO.neq rfl rfl rfl rfl rfl (fun c52 hc52=>zP R6 (zN ?_))));cases c52 with
     | true =>
      replace hc52 := btrue hc52;refine zC rfl (zT rfl (zF 3 R6 (zL 0 R3 R6 (zM R4 (TO.index_gs rfl rfl rfl ⟨rfl, rfl⟩ rfl rfl aO (fun a57 ra57 ea57=>?_))))))
      try simp only [Int.toNat_natCast] at ea57
      have e57 := Option.some.inj (ea17.symm.trans ea57);subst e57;refine zV R3 (Val.faddr_tree (fo := 0) rfl rfl rfl rfl) (zV R3 (Val.load_tree ⟨_, rfl, rfl⟩ rfl) (zA R4 (zN (zT rfl (zM R4 (zV R3 (Val.add rfl rfl aO) (zA R4 (zN ?_))))))));refine ⟨_, _, aO, ⟨i + 1, _, _, _, rfl, (by first | omega | simp_all), (by first | omega | simp_all), (by rw [take_snoc ea17, plusOf_snoc]; simp_all), (by rw [take_snoc ea17, plusOf_snoc]; simp_all), rfl⟩, ⟨rfl, (keep_cons rfl (keep_cons rfl (keep_cons rfl (keep_cons rfl (keep_cons rfl keep_nil))))), (.cons_cons _ .slnil)⟩⟩
     | false =>
      replace hc52 := bfalse hc52;refine zD rfl (zK (zT rfl (zM R4 (zV R3 (Val.add rfl rfl aO) (zA R4 (zN ?_))))));refine ⟨_, _, aO, ⟨i + 1, _, _, _, rfl, (by first | omega | simp_all), (by first | omega | simp_all), (by rw [take_snoc ea17, plusOf_snoc]; simp_all), (by rw [take_snoc ea17, plusOf_snoc]; simp_all), rfl⟩, ⟨rfl, (keep_cons rfl (keep_cons rfl (keep_cons rfl (keep_cons rfl (keep_cons rfl keep_nil))))), (.cons_cons _ .slnil)⟩⟩
    | false =>
     replace hc44 := bfalse hc44;refine zO R3 (zO R3 (zO R3 (zO R3 (zO R3 (zO R3 (zO R3 (zP R6 (zN (zD rfl (zK (zT rfl (zM R4 (zV R3 (Val.add rfl rfl aO) (zA R4 (zN ?_)))))))))))))));refine ⟨_, _, aO, ⟨i + 1, _, _, _, rfl, (by first | omega | simp_all), (by first | omega | simp_all), (by rw [take_snoc ea17, plusOf_snoc]; simp_all), (by rw [take_snoc ea17, plusOf_snoc]; simp_all), rfl⟩, ⟨rfl, (keep_cons rfl (keep_cons rfl (keep_cons rfl (keep_cons rfl (keep_cons rfl keep_nil))))), (.cons_cons _ .slnil)⟩⟩
  | false =>
   replace hc21 := bfalse hc21;refine zO R3 (zO R3 (zO R3 (zO R3 (zO R3 (zO R3 (zO R3 (zP R6 (zN (zD rfl (zK (zU rfl (zF 3 R6 (zL 0 R3 R6 (zM R4 (TO.index_gs rfl rfl rfl ⟨rfl, rfl⟩ rfl rfl aO (fun a40 ra40 ea40=>?_))))))))))))))))
   try simp only [Int.toNat_natCast] at ea40
   have e40 := Option.some.inj (ea17.symm.trans ea40);subst e40;refine zV R3 (Val.faddr_tree (fo := 1) rfl rfl rfl rfl) (zV R3 (Val.load_tree ⟨_, rfl, rfl⟩ rfl) (zM R4 (TO.eql rfl rfl rfl rfl rfl (fun c44 hc44=>zM R4 ?_))));cases c44 with
   | true =>
    replace hc44 := btrue hc44;refine zF 3 R6 (zL 0 R3 R6 (zM R4 (TO.index_gs rfl rfl rfl ⟨rfl, rfl⟩ rfl rfl aO (fun a49 ra49 ea49=>?_))))
    try simp only [Int.toNat_natCast] at ea49
    have e49 := Option.some.inj (ea17.symm.trans ea49);subst e49;refine zV R3 (Val.faddr_tree (fo := 0) rfl rfl rfl rfl) (zV R3 (Val.load_tree ⟨_, rfl, rfl⟩ rfl) (TO.neq rfl rfl rfl rfl rfl (fun c52 hc52=>zP R6 (zN ?_))));cases c52 with
    | true =>
     replace hc52 := btrue hc52;refine zC rfl (zT rfl (zF 3 R6 (zL 0 R3 R6 (zM R4 (TO.index_gs rfl rfl rfl ⟨rfl, rfl⟩ rfl rfl aO (fun a57 ra57 ea57=>?_))))))
     try simp only [Int.toNat_natCast] at ea57
     have e57 := Option.some.inj (ea17.symm.trans ea57);subst e57;refine zV R3 (Val.faddr_tree (fo := 0) rfl rfl rfl rfl) (zV R3 (Val.load_tree ⟨_, rfl, rfl⟩ rfl) (zA R4 (zN (zT rfl (zM R4 (zV R3 (Val.add rfl rfl aO) (zA R4 (zN ?_))))))));refine ⟨_, _, aO, ⟨i + 1, _, _, _, rfl, (by first | omega | simp_all), (by first | omega | simp_all), (by rw [take_snoc ea17, plusOf_snoc]; simp_all), (by rw [take_snoc ea17, plusOf_snoc]; simp_all), rfl⟩, ⟨rfl, (keep_cons rfl (keep_cons rfl (keep_cons rfl (keep_cons rfl (keep_cons rfl keep_nil))))), (.cons_cons _ .slnil)⟩⟩
    | false =>
     replace hc52 := bfalse hc52;refine zD rfl (zK (zT rfl (zM R4 (zV R3 (Val.add rfl rfl aO) (zA R4 (zN ?_))))));refine ⟨_, _, aO, ⟨i + 1, _, _, _, rfl, (by first | omega | simp_all), (by first | omega | simp_all), (by rw [take_snoc ea17, plusOf_snoc]; simp_all), (by rw [take_snoc ea17, plusOf_snoc]; simp_all), rfl⟩, ⟨rfl, (keep_cons rfl (keep_cons rfl (keep_cons rfl (keep_cons rfl (keep_cons rfl keep_nil))))), (.cons_cons _ .slnil)⟩⟩
   | false =>
    replace hc44 := bfalse hc44;refine zO R3 (zO R3 (zO R3 (zO R3 (zO R3 (zO R3 (zO R3 (zP R6 (zN (zD rfl (zK (zT rfl (zM R4 (zV R3 (Val.add rfl rfl aO) (zA R4 (zN ?_)))))))))))))));refine ⟨_, _, aO, ⟨i + 1, _, _, _, rfl, (by first | omega | simp_all), (by first | omega | simp_all), (by rw [take_snoc ea17, plusOf_snoc]; simp_all), (by rw [take_snoc ea17, plusOf_snoc]; simp_all), rfl⟩, ⟨rfl, (keep_cons rfl (keep_cons rfl (keep_cons rfl (keep_cons rfl (keep_cons rfl keep_nil))))), (.cons_cons _ .slnil)⟩⟩
 | false =>
  replace hc11 := bfalse hc11;refine zD rfl (zE (zU rfl (zM R4 (zM R4 (zA R4 (zA R4 (zN (zR ?_))))))));exact ⟨rfl, _, rfl, RefN.cast (.tuple (.cons .lit (.cons .lit .nil))) (by rw [List.take_of_length_le aO] at hm1 hm2; rw [hm1, hm2])⟩
theorem r1_All (b : Book) (hf : Fits b) : Comes (EL 1) 38 [.agg (encB.f b)] ((GSo true encL (leavesOf b)).v) := by
 have hgs := hf.gs;refine Comes.of (TF.enter (fn := Go.Proofs.Tryz.f38) rfl rfl rfl rfl rfl ?_);refine zU rfl (zQ 2 [_,_] R7 (fun b1=>zA R4 (zN (zU rfl (zA R4 (zN (zS (zU rfl (zA R4 (zN (zB (T.nilown (u := encL.u) (T.loop (fun μ s => ∃ i : Nat, ∃ j : Int, ∃ v : AV, ∃ acc : List Leaf, μ = b.gs.l.length - i ∧ j = i ∧ i ≤ b.gs.l.length ∧ acc = leavesFrom 0 (b.gs.l.take i) ∧ acc.length ≤ 65 * i ∧ s = ⟨[], [(1, .ptr b1 0 2), (3, v), (4, iv j)], [ownL true v encL acc, .row b1 2 [iv b.signed, b.gs.v]]⟩) (k := _) (s' := _) ⟨0, 0, _, [], rfl, (by first | rfl | omega | (simp; done) | (simp; omega) | simp_all), (by first | rfl | omega | (simp; done) | (simp; omega) | simp_all), (by first | rfl | omega | (simp; done) | (simp; omega) | simp_all), (by first | rfl | omega | (simp; done) | (simp; omega) | simp_all), rfl⟩ ⟨rfl, (keep_cons rfl (keep_cons rfl (keep_cons rfl keep_nil))), (.cons_cons _ (.cons_cons _ .slnil))⟩ ?_)))))))))))));rintro μ _ ⟨i, j, v, acc, hk0, hj, hi, hacc, hal, rfl⟩;subst hj;refine zS (zU rfl (zM R4 (zF 1 R6 (zL 1 R3 R6 (zV R3 (Val.len_gs rfl rfl) (TO.lss rfl rfl rfl rfl rfl (fun c15 hc15=>zN ?_)))))));cases c15 with
 | true =>
  replace hc15 := btrue hc15;refine zC rfl (zK (zS (zB (zU rfl (zF 1 R6 (zL 1 R3 R6 (zM R4 (TO.index_gs rfl rfl rfl ⟨rfl, rfl⟩ rfl rfl aO (fun g rg eg=>?_)))))))))
  try simp only [Int.toNat_natCast] at eg
  obtain ⟨hgl, hgc, hgp⟩ := hf.leaves g (List.mem_of_getElem? eg)
  have hgn := fun n => hgp n
  refine zV R3 (Val.load_trees (c := _) ⟨⟨_, rfl, rfl⟩, rfl, by decide⟩ rfl rfl) (zJ 4 [_,_,_,_] R7 (fun b5=>TO.store_row (p := 0) (cv := [_, _, _, _]) (cells' := [_, _, _, _]) rfl rfl rfl rfl rfl rfl rfl rfl rfl rfl (by first | rfl | simp [GS.one]) (by decide) rfl (zG ([_,_,_]) rfl (zN (zU rfl (zA R4 (zN (zB (T.loop (fun μ s => ∃ n : Nat, ∃ j : Int, ∃ v : AV, ∃ ac1 : List Leaf, μ = (g.leaves + 1).toNat - n ∧ j = n ∧ n ≤ (g.leaves + 1).toNat ∧ ac1 = acc ++ (List.range n).flatMap (numLeaves i g) ∧ ac1.length ≤ 65 * i + 5 * n ∧ s = ⟨[], [(1, .ptr b1 0 2), (3, v), (4, iv (i : Int)), (5, .ptr b5 0 4), (6, iv j)], [.row b5 4 [iv g.round, iv g.letter, iv g.leaves, g.ch.v], ownL true v encL ac1, .row b1 2 [iv b.signed, b.gs.v]]⟩) (k := _) (s' := _) ⟨0, 0, _, _, rfl, (by first | rfl | omega | (simp; done) | (simp; omega) | simp_all), (by first | rfl | omega | (simp; done) | (simp; omega) | simp_all), (by simp), (by first | rfl | omega | (simp; done) | (simp; omega) | simp_all), rfl⟩ ⟨rfl, (keep_cons rfl (keep_cons rfl (keep_cons rfl (keep_cons rfl (keep_cons rfl keep_nil))))), (.cons_cons _ (.cons_cons _ (.cons_cons _ .slnil)))⟩ ?_)))))))));rintro μ _ ⟨n, j, v, ac1, hk1, hj, hn, ha1, hl1, rfl⟩;subst hj;refine zS (zU rfl (zM R4 (zF 2 R6 (zL 0 R3 R6 (TO.leq rfl rfl rfl rfl rfl (fun c26 hc26=>zN ?_))))));cases c26 with
  | true =>
   replace hc26 := btrue hc26;refine zC rfl (zK (zS (zB (zU rfl (zV R3 (vW 0 [_,_,_,_] R5 R4) (zM R4 ?_))))))
   have hp := hgp n;refine TO.call rfl rfl rfl rfl rfl (orcL rfl aD) (.cons (.agg (.cons .lit (.cons .lit (.cons .lit (.cons .gs .nil))))) (.cons .lit .nil)) (sem_of (r1_plus _ _ (by exact hgc))) (zM R4 (zX R5 (zX R5 (zA R4 (zA R4 (zN (zS (zU rfl (zM R4 (TO.gtr rfl rfl rfl rfl rfl (fun c36 hc36=>zM R4 ?_)))))))))));cases c36 with
   | true =>
    replace hc36 := btrue hc36;refine zM R4 (TO.neq rfl rfl rfl rfl rfl (fun c39 hc39=>zP R6 (zN ?_)));cases c39 with
    | true =>
     replace hc39 := btrue hc39;refine zC rfl (zU rfl (zM R4 (zM R4 (zV R3 (Val.build (cs := [_, _, _, _]) (vs := [(_, _), (_, _)]) rfl rfl rfl) (zJ 4 [_,_,_,_] R7 (fun b9=>TO.store_row (p := 0) (cv := [_, _, _, _]) (cells' := [_, _, _, _]) rfl rfl rfl rfl rfl rfl rfl rfl rfl rfl (by first | rfl | simp [GS.one]) (by decide) rfl (zG ([_,_,_,_]) rfl (zN (zS (zU rfl (zM R4 (TO.eql rfl rfl rfl rfl rfl (fun c45 hc45=>zN ?_)))))))))))));cases c45 with
     | true =>
      replace hc45 := btrue hc45;refine zC rfl (zT rfl (zF 3 R6 (TO.store_row (p := 0) (cv := [_]) (cells' := [_, _, _, _]) rfl rfl rfl rfl rfl rfl rfl rfl rfl rfl (by first | rfl | simp [GS.one]) (by decide) rfl (zG ([_,_,_,_]) rfl (zN (zT rfl (zM R4 (zV R3 (vW 0 [_,_,_,_] R5 R4) (TO.build1 (en := encL) (a := ⟨_, _, _, _⟩) rfl rfl rfl ⟨rfl, rfl⟩ ⟨_, rfl, rfl⟩ (by decide) (by decide) rfl rfl (fun v49=>TO.append_own (b := 32) (en := encL) (l := _) (l2 := _) (p := 3) (q := 0) rfl rfl rfl ⟨rfl, rfl, rfl, ⟨_, rfl, rfl⟩, by decide, by decide⟩ rfl rfl rfl rfl rfl rfl (en_ones encL_ones _) (by simp; omega) (fun v50=>zG ([_,_,_,_,_]) rfl (zA R4 (zN (zU rfl (zA R4 (zN (zB (T.loop (fun μ s => ∃ k : Nat, ∃ j : Int, ∃ v : AV, ∃ ac2 : List Leaf, μ = (plusOf g.ch.l n).1.toNat - k ∧ j = k + 1 ∧ (k : Int) ≤ max 0 (plusOf g.ch.l n).1 ∧ ac2 = ac1 ++ ownLeaf i n g ++ newLeaves i n k ∧ ac2.length ≤ 65 * i + 5 * n + 1 + k ∧ s = ⟨[], [(1, .ptr b1 0 2), (3, v), (4, iv (i : Int)), (5, .ptr b5 0 4), (6, iv (n : Int)), (7, iv (plusOf g.ch.l n).1), (10, iv j)], [.row b5 4 [iv g.round, iv g.letter, iv g.leaves, g.ch.v], ownL true v encL ac2, .row b1 2 [iv b.signed, b.gs.v]]⟩) (k := _) (s' := _) ⟨0, _, _, _, rfl, (by first | rfl | omega | (simp; done) | (simp; omega) | simp_all), (by first | rfl | omega | (simp; done) | (simp; omega) | simp_all), (by simp_all [ownLeaf, newLeaves]), (by simp; omega), rfl⟩ ⟨rfl, (keep_cons rfl (keep_cons rfl (keep_cons rfl (keep_cons rfl (keep_cons rfl (keep_cons rfl (keep_cons rfl keep_nil))))))), (.cons _ (.cons _ (.cons_cons _ (.cons_cons _ (.cons_cons _ .slnil)))))⟩ ?_))))))))))))))))));rintro μ _ ⟨k, j, v, ac2, hk2, hj, hk, ha2, hl2, rfl⟩;subst hj;refine zS (zU rfl ?_)
      have hp := hgp n;refine zM R4 (zM R4 (TO.leq rfl rfl rfl rfl rfl (fun c53 hc53=>zN ?_)));cases c53 with
      | true =>
       replace hc53 := btrue hc53;refine zC rfl (zK (zS (zB (zT rfl (zM R4 (zM R4 (zM R4 (zM R4 (zV R3 (Val.build (cs := [_, _, _, _]) (vs := [(_, _), (_, _), (_, _), (_, _)]) rfl rfl rfl) (TO.build1 (en := encL) (a := ⟨_, _, _, _⟩) rfl rfl rfl ⟨rfl, rfl⟩ ⟨_, rfl, rfl⟩ (by decide) (by decide) rfl rfl (fun v61=>TO.append_own (b := 32) (en := encL) (l := _) (l2 := _) (p := 2) (q := 0) rfl rfl rfl ⟨rfl, rfl, rfl, ⟨_, rfl, rfl⟩, by decide, by decide⟩ rfl rfl rfl rfl rfl rfl (en_ones encL_ones _) (by simp; omega) (fun v62=>zG ([_,_,_,_]) rfl (zA R4 (zN (zT rfl (zM R4 (zV R3 (Val.add rfl rfl aO) (zA R4 (zN ?_)))))))))))))))))));refine ⟨_, _, aO, ⟨k + 1, _, _, _, rfl, (by first | omega | simp_all), (by first | omega | simp_all), (by rw [newLeaves_succ, ha2]; simp), (by simp; omega), rfl⟩, ⟨rfl, (keep_cons rfl (keep_cons rfl (keep_cons rfl (keep_cons rfl (keep_cons rfl (keep_cons rfl (keep_cons rfl keep_nil))))))), (.cons _ (.cons_cons _ (.cons_cons _ (.cons_cons _ .slnil))))⟩⟩
      | false =>
       replace hc53 := bfalse hc53
       have hk1 : k = (plusOf g.ch.l n).1.toNat := by omega
       refine zD rfl (zE (zT rfl (zM R4 (zV R3 (Val.add rfl rfl aO) (zA R4 (zN ?_))))));refine ⟨_, _, aO, ⟨n + 1, _, _, _, rfl, (by first | omega | simp_all), (by first | omega | simp_all), (by rw [range_flat_succ, numLeaves, ha2, ha1, hk1]; simp), aO, rfl⟩, ⟨rfl, (keep_cons rfl (keep_cons rfl (keep_cons rfl (keep_cons rfl (keep_cons rfl keep_nil))))), (.cons_cons _ (.cons_cons _ (.cons_cons _ .slnil)))⟩⟩
     | false =>
      replace hc45 := bfalse hc45;refine zD rfl (zK (zT rfl (zM R4 (zV R3 (vW 0 [_,_,_,_] R5 R4) (TO.build1 (en := encL) (a := ⟨_, _, _, _⟩) rfl rfl rfl ⟨rfl, rfl⟩ ⟨_, rfl, rfl⟩ (by decide) (by decide) rfl rfl (fun v49=>TO.append_own (b := 32) (en := encL) (l := _) (l2 := _) (p := 3) (q := 0) rfl rfl rfl ⟨rfl, rfl, rfl, ⟨_, rfl, rfl⟩, by decide, by decide⟩ rfl rfl rfl rfl rfl rfl (en_ones encL_ones _) (by simp; omega) (fun v50=>zG ([_,_,_,_,_]) rfl (zA R4 (zN (zU rfl (zA R4 (zN (zB (T.loop (fun μ s => ∃ k : Nat, ∃ j : Int, ∃ v : AV, ∃ ac2 : List Leaf, μ = (plusOf g.ch.l n).1.toNat - k ∧ j = k + 1 ∧ (k : Int) ≤ max 0 (plusOf g.ch.l n).1 ∧ ac2 = ac1 ++ ownLeaf i n g ++ newLeaves i n k ∧ ac2.length ≤ 65 * i + 5 * n + 1 + k ∧ s = ⟨[], [(1, .ptr b1 0 2), (3, v), (4, iv (i : Int)), (5, .ptr b5 0 4), (6, iv (n : Int)), (7, iv (plusOf g.ch.l n).1), (10, iv j)], [.row b5 4 [iv g.round, iv g.letter, iv g.leaves, g.ch.v], ownL true v encL ac2, .row b1 2 [iv b.signed, b.gs.v]]⟩) (k := _) (s' := _) ⟨0, _, _, _, rfl, (by first | rfl | omega | (simp; done) | (simp; omega) | simp_all), (by first | rfl | omega | (simp; done) | (simp; omega) | simp_all), (by simp_all [ownLeaf, newLeaves]), (by simp; omega), rfl⟩ ⟨rfl, (keep_cons rfl (keep_cons rfl (keep_cons rfl (keep_cons rfl (keep_cons rfl (keep_cons rfl (keep_cons rfl keep_nil))))))), (.cons _ (.cons _ (.cons_cons _ (.cons_cons _ (.cons_cons _ .slnil)))))⟩ ?_))))))))))))));rintro μ _ ⟨k, j, v, ac2, hk2, hj, hk, ha2, hl2, rfl⟩;subst hj;refine zS (zU rfl ?_)
      have hp := hgp n;refine zM R4 (zM R4 (TO.leq rfl rfl rfl rfl rfl (fun c53 hc53=>zN ?_)));cases c53 with
      | true =>
       replace hc53 := btrue hc53;refine zC rfl (zK (zS (zB (zT rfl (zM R4 (zM R4 (zM R4 (zM R4 (zV R3 (Val.build (cs := [_, _, _, _]) (vs := [(_, _), (_, _), (_, _), (_, _)]) rfl rfl rfl) (TO.build1 (en := encL) (a := ⟨_, _, _, _⟩) rfl rfl rfl ⟨rfl, rfl⟩ ⟨_, rfl, rfl⟩ (by decide) (by decide) rfl rfl (fun v61=>TO.append_own (b := 32) (en := encL) (l := _) (l2 := _) (p := 2) (q := 0) rfl rfl rfl ⟨rfl, rfl, rfl, ⟨_, rfl, rfl⟩, by decide, by decide⟩ rfl rfl rfl rfl rfl rfl (en_ones encL_ones _) (by simp; omega) (fun v62=>zG ([_,_,_,_]) rfl (zA R4 (zN (zT rfl (zM R4 (zV R3 (Val.add rfl rfl aO) (zA R4 (zN ?_)))))))))))))))))));refine ⟨_, _, aO, ⟨k + 1, _, _, _, rfl, (by first | omega | simp_all), (by first | omega | simp_all), (by rw [newLeaves_succ, ha2]; simp), (by simp; omega), rfl⟩, ⟨rfl, (keep_cons rfl (keep_cons rfl (keep_cons rfl (keep_cons rfl (keep_cons rfl (keep_cons rfl (keep_cons rfl keep_nil))))))), (.cons _ (.cons_cons _ (.cons_cons _ (.cons_cons _ .slnil))))⟩⟩
      | false =>
       replace hc53 := bfalse hc53
       have hk1 : k = (plusOf g.ch.l n).1.toNat := by omega
       refine zD rfl (zE (zT rfl (zM R4 (zV R3 (Val.add rfl rfl aO) (zA R4 (zN ?_))))));refine ⟨_, _, aO, ⟨n + 1, _, _, _, rfl, (by first | omega | simp_all), (by first | omega | simp_all), (by rw [range_flat_succ, numLeaves, ha2, ha1, hk1]; simp), aO, rfl⟩, ⟨rfl, (keep_cons rfl (keep_cons rfl (keep_cons rfl (keep_cons rfl (keep_cons rfl keep_nil))))), (.cons_cons _ (.cons_cons _ (.cons_cons _ .slnil)))⟩⟩
    | false =>
     replace hc39 := bfalse hc39;refine zD rfl (zK (zU rfl (zA R4 (zN (zB (T.loop (fun μ s => ∃ k : Nat, ∃ j : Int, ∃ v : AV, ∃ ac2 : List Leaf, μ = (plusOf g.ch.l n).1.toNat - k ∧ j = k + 1 ∧ (k : Int) ≤ max 0 (plusOf g.ch.l n).1 ∧ ac2 = ac1 ++ ownLeaf i n g ++ newLeaves i n k ∧ ac2.length ≤ 65 * i + 5 * n + 1 + k ∧ s = ⟨[], [(1, .ptr b1 0 2), (3, v), (4, iv (i : Int)), (5, .ptr b5 0 4), (6, iv (n : Int)), (7, iv (plusOf g.ch.l n).1), (10, iv j)], [.row b5 4 [iv g.round, iv g.letter, iv g.leaves, g.ch.v], ownL true v encL ac2, .row b1 2 [iv b.signed, b.gs.v]]⟩) (k := _) (s' := _) ⟨0, _, _, _, rfl, (by first | rfl | omega | (simp; done) | (simp; omega) | simp_all), (by first | rfl | omega | (simp; done) | (simp; omega) | simp_all), (by simp_all [ownLeaf, newLeaves]), (by simp; omega), rfl⟩ ⟨rfl, (keep_cons rfl (keep_cons rfl (keep_cons rfl (keep_cons rfl (keep_cons rfl (keep_cons rfl (keep_cons rfl keep_nil))))))), (.cons_cons _ (.cons_cons _ (.cons_cons _ .slnil)))⟩ ?_))))));rintro μ _ ⟨k, j, v, ac2, hk2, hj, hk, ha2, hl2, rfl⟩;subst hj;refine zS (zU rfl ?_)
     have hp := hgp n;refine zM R4 (zM R4 (TO.leq rfl rfl rfl rfl rfl (fun c53 hc53=>zN ?_)));cases c53 with
     | true =>
      replace hc53 := btrue hc53;refine zC rfl (zK (zS (zB (zT rfl (zM R4 (zM R4 (zM R4 (zM R4 (zV R3 (Val.build (cs := [_, _, _, _]) (vs := [(_, _), (_, _), (_, _), (_, _)]) rfl rfl rfl) (TO.build1 (en := encL) (a := ⟨_, _, _, _⟩) rfl rfl rfl ⟨rfl, rfl⟩ ⟨_, rfl, rfl⟩ (by decide) (by decide) rfl rfl (fun v61=>TO.append_own (b := 32) (en := encL) (l := _) (l2 := _) (p := 2) (q := 0) rfl rfl rfl ⟨rfl, rfl, rfl, ⟨_, rfl, rfl⟩, by decide, by decide⟩ rfl rfl rfl rfl rfl rfl (en_ones encL_ones _) (by simp; omega) (fun v62=>zG ([_,_,_,_]) rfl (zA R4 (zN (zT rfl (zM R4 (zV R3 (Val.add rfl rfl aO) (zA R4 (zN ?_)))))))))))))))))));refine ⟨_, _, aO, ⟨k + 1, _, _, _, rfl, (by first | omega | simp_all), (by first | omega | simp_all), (by rw [newLeaves_succ, ha2]; simp), (by simp; omega), rfl⟩, ⟨rfl, (keep_cons rfl (keep_cons rfl (keep_cons rfl (keep_cons rfl (keep_cons rfl (keep_cons rfl (keep_cons rfl keep_nil))))))), (.cons _ (.cons_cons _ (.cons_cons _ (.cons_cons _ .slnil))))⟩⟩
     | false =>
      replace hc53 := bfalse hc53
      have hk1 : k = (plusOf g.ch.l n).1.toNat := by omega
      refine zD rfl (zE (zT rfl (zM R4 (zV R3 (Val.add rfl rfl aO) (zA R4 (zN ?_))))));refine ⟨_, _, aO, ⟨n + 1, _, _, _, rfl, (by first | omega | simp_all), (by first | omega | simp_all), (by rw [range_flat_succ, numLeaves, ha2, ha1, hk1]; simp), aO, rfl⟩, ⟨rfl, (keep_cons rfl (keep_cons rfl (keep_cons rfl (keep_cons rfl (keep_cons rfl keep_nil))))), (.cons_cons _ (.cons_cons _ (.cons_cons _ .slnil)))⟩⟩
   | false =>
    replace hc36 := bfalse hc36;refine zO R3 (zO R3 (zP R6 (zN (zD rfl (zK (zU rfl (zA R4 (zN (zB (T.loop (fun μ s => ∃ k : Nat, ∃ j : Int, ∃ v : AV, ∃ ac2 : List Leaf, μ = (plusOf g.ch.l n).1.toNat - k ∧ j = k + 1 ∧ (k : Int) ≤ max 0 (plusOf g.ch.l n).1 ∧ ac2 = ac1 ++ ownLeaf i n g ++ newLeaves i n k ∧ ac2.length ≤ 65 * i + 5 * n + 1 + k ∧ s = ⟨[], [(1, .ptr b1 0 2), (3, v), (4, iv (i : Int)), (5, .ptr b5 0 4), (6, iv (n : Int)), (7, iv (plusOf g.ch.l n).1), (10, iv j)], [.row b5 4 [iv g.round, iv g.letter, iv g.leaves, g.ch.v], ownL true v encL ac2, .row b1 2 [iv b.signed, b.gs.v]]⟩) (k := _) (s' := _) ⟨0, _, _, _, rfl, (by first | rfl | omega | (simp; done) | (simp; omega) | simp_all), (by first | rfl | omega | (simp; done) | (simp; omega) | simp_all), (by simp_all [ownLeaf, newLeaves]), (by simp; omega), rfl⟩ ⟨rfl, (keep_cons rfl (keep_cons rfl (keep_cons rfl (keep_cons rfl (keep_cons rfl (keep_cons rfl (keep_cons rfl keep_nil))))))), (.cons_cons _ (.cons_cons _ (.cons_cons _ .slnil)))⟩ ?_))))))))));rintro μ _ ⟨k, j, v, ac2, hk2, hj, hk, ha2, hl2, rfl⟩;subst hj;refine zS (zU rfl ?_)
    have hp := hgp n;refine zM R4 (zM R4 (TO.leq rfl rfl rfl rfl rfl (fun c53 hc53=>zN ?_)));cases c53 with
    | true =>
     replace hc53 := btrue hc53;refine zC rfl (zK (zS (zB (zT rfl (zM R4 (zM R4 (zM R4 (zM R4 (zV R3 (Val.build (cs := [_, _, _, _]) (vs := [(_, _), (_, _), (_, _), (_, _)]) rfl rfl rfl) (TO.build1 (en := encL) (a := ⟨_, _, _, _⟩) rfl rfl rfl ⟨rfl, rfl⟩ ⟨_, rfl, rfl⟩ (by decide) (by decide) rfl rfl (fun v61=>TO.append_own (b := 32) (en := encL) (l := _) (l2 := _) (p := 2) (q := 0) rfl rfl rfl ⟨rfl, rfl, rfl, ⟨_, rfl, rfl⟩, by decide, by decide⟩ rfl rfl rfl rfl rfl rfl (en_ones encL_ones _) (by simp; omega) (fun v62=>zG ([_,_,_,_]) rfl (zA R4 (zN (zT rfl (zM R4 (zV R3 (Val.add rfl rfl aO) (zA R4 (zN ?_)))))))))))))))))));refine ⟨_, _, aO, ⟨k + 1, _, _, _, rfl, (by first | omega | simp_all), (by first | omega | simp_all), (by rw [newLeaves_succ, ha2]; simp), (by simp; omega), rfl⟩, ⟨rfl, (keep_cons rfl (keep_cons rfl (keep_cons rfl (keep_cons rfl (keep_cons rfl (keep_cons rfl (keep_cons rfl keep_nil))))))), (.cons _ (.cons_cons _ (.cons_cons _ (.cons_cons _ .slnil))))⟩⟩
    | false =>
     replace hc53 := bfalse hc53
     have hk1 : k = (plusOf g.ch.l n).1.toNat := by omega
     refine zD rfl (zE (zT rfl (zM R4 (zV R3 (Val.add rfl rfl aO) (zA R4 (zN ?_))))));refine ⟨_, _, aO, ⟨n + 1, _, _, _, rfl, (by first | omega | simp_all), (by first | omega | simp_all), (by rw [range_flat_succ, numLeaves, ha2, ha1, hk1]; simp), aO, rfl⟩, ⟨rfl, (keep_cons rfl (keep_cons rfl (keep_cons rfl (keep_cons rfl (keep_cons rfl keep_nil))))), (.cons_cons _ (.cons_cons _ (.cons_cons _ .slnil)))⟩⟩
  | false =>
   replace hc26 := bfalse hc26
   have hn1 : n = (g.leaves + 1).toNat := by omega
   refine zD rfl (zE (zT rfl (zM R4 (zV R3 (Val.add rfl rfl aO) (zA R4 (zN ?_))))));refine ⟨_, _, aO, ⟨i + 1, _, _, _, rfl, (by first | omega | simp_all), (by first | omega | simp_all), (by rw [take_snoc eg, leavesFrom_snoc, ha1, hacc, hn1, List.length_take, Nat.min_eq_left aO]; simp [gatLeaves]), aO, rfl⟩, ⟨rfl, (keep_cons rfl (keep_cons rfl (keep_cons rfl keep_nil))), (.cons _ (.cons_cons _ (.cons_cons _ .slnil)))⟩⟩
 | false =>
  replace hc15 := bfalse hc15;refine zD rfl (zE (zU rfl (zM R4 (zA R4 (zN (zR ?_))))));exact ⟨rfl, _, rfl, RefN.cast (.ownL (en := encL) (p := 0) rfl (.lits encL_lits)) (by rw [hacc, List.take_of_length_le aO]; rfl)⟩
end Go.Am.YthckcbfijdambaaGreat
end
section
namespace Go.Am.YthckcbfijdambaaGreat
open Go.Am Go.RowKit
set_option linter.unusedVariables false
set_option linter.unusedSimpArgs false
theorem r1_Pair (b : Book) (n : Nat) (hf : Fits b) (hn : n < (leavesOf b).length) : Comes (EL 2) 73 [.agg (encB.f b), iv (n : Int)] (iv (pairNo b n)) := by
 have hll := leaves_len hf;obtain ⟨x, hx⟩ : ∃ x, (leavesOf b)[n]? = some x := ⟨_, List.getElem?_eq_getElem hn⟩;obtain ⟨g, hg, hg1, hg2, hx1, hx2⟩ := mem_leaves (List.mem_of_getElem? hx)
 have hgl := (hf.leaves g (List.mem_of_getElem? hg)).1;refine Comes.of (TF.enter (fn := Go.Proofs.Tryz.f73) rfl rfl rfl rfl rfl ?_);refine zU rfl (zQ 2 [_,_] R7 (fun b2=>zA R4 (zN (zU rfl (zV R3 (vW 0 [_,_] R5 R4) (TO.call rfl rfl rfl rfl rfl (orcL rfl aD) (.cons (.agg (.cons .lit (.cons .gs .nil))) .nil) (sem_of (r1_All b (by exact hf))) (zA R4 (zN (zU rfl (zM R4 (zM R4 (TO.index_gso rfl rfl rfl ⟨rfl, rfl⟩ rfl rfl aO (fun a12 ra12 ea12=>?_)))))))))))))
 try simp only [Int.toNat_natCast] at ea12
 have e12 := Option.some.inj (hx.symm.trans ea12);subst e12;refine zV R3 (Val.load_trees (c := _) ⟨⟨_, rfl, rfl⟩, rfl, by decide⟩ rfl rfl) (zJ 4 [_,_,_,_] R7 (fun b6=>TO.store_row (p := 0) (cv := [_, _, _, _]) (cells' := [_, _, _, _]) rfl rfl rfl rfl rfl rfl rfl rfl rfl rfl (by first | rfl | simp [GS.one]) (by decide) rfl (zG ([_,_]) rfl (zN (zS (zU rfl (zF 3 R6 (zL 0 R3 R6 (TO.neq rfl rfl rfl rfl rfl (fun c16 hc16=>zN ?_))))))))));cases c16 with
 | true =>
  replace hc16 := btrue hc16;refine zC rfl (zU rfl (zA R4 (zN (zR ?_))));exact ⟨rfl, _, rfl, RefN.cast .lit (by simp only [pairNo, hx]; rw [if_pos hc16])⟩
 | false =>
  replace hc16 := bfalse hc16
  have hp : pairNo b n = pairFrom g.leaves x n 0 (leavesOf b) := by simp only [pairNo, hx, hg]; rw [if_neg hc16]
  refine zD rfl (zK (zS (zU rfl (zA R4 (zN (zB (T.loop (fun μ s => ∃ i : Nat, ∃ j : Int, μ = (leavesOf b).length - i ∧ j = i ∧ i ≤ (leavesOf b).length ∧ pairFrom g.leaves x n 0 (leavesOf b) = pairFrom g.leaves x n i ((leavesOf b).drop i) ∧ s = ⟨[], [(1, iv (n : Int)), (2, .ptr b2 0 2), (5, (GSo true encL (leavesOf b)).v), (6, .ptr b6 0 4), (7, iv j)], [.row b6 4 [iv x.g, iv x.num, iv x.plus, iv x.kind], .row b2 2 [iv b.signed, b.gs.v]]⟩) (k := _) (s' := _) ⟨0, 0, rfl, (by first | rfl | omega | (simp; done) | (simp; omega) | simp_all), (by first | rfl | omega | (simp; done) | (simp; omega) | simp_all), (by first | rfl | omega | (simp; done) | (simp; omega) | simp_all), rfl⟩ ⟨rfl, (keep_cons rfl (keep_cons rfl (keep_cons rfl (keep_cons rfl (keep_cons rfl keep_nil))))), (.cons_cons _ (.cons_cons _ .slnil))⟩ ?_)))))));rintro μ _ ⟨i, j, hk0, hj, hi, he, rfl⟩;subst hj;refine zS (zU rfl (zM R4 (zM R4 (zV R3 (Val.len_gso rfl rfl) (TO.lss rfl rfl rfl rfl rfl (fun c20 hc20=>zN ?_))))));cases c20 with
  | true =>
   replace hc20 := btrue hc20;refine zC rfl (zK (zS (zB (zS (T.draw (fun v => sameC_refl v) (l1 := [0, 1, 2, 3, 4, 5, 6, 7, 8, 9, 10, 11, 12, 13, 14, 15, 16, 17, 18, 19, 20, 21, 22, 23, 24, 25, 26, 27, 28, 29, 30, 31, 32, 33, 34, 35, 36, 37, 38, 39]) (l2 := []) (by kernel_rfl) (by kernel_rfl) (zM R4 (zM R4 (TO.neq rfl rfl rfl rfl rfl (fun c25 hc25=>zM R4 ?_)))))))));cases c25 with
   | true =>
    replace hc25 := btrue hc25;refine zM R4 (zM R4 (TO.index_gso rfl rfl rfl ⟨rfl, rfl⟩ rfl rfl aO (fun a29 ra29 ea29=>?_)))
    try simp only [Int.toNat_natCast] at ea29
    obtain ⟨gy, hgy, hy1, hy2, hy3, hy4⟩ := mem_leaves (List.mem_of_getElem? ea29)
    have hgyl := (hf.leaves gy (List.mem_of_getElem? hgy)).1;refine zV R3 (Val.faddr_tree (fo := 0) rfl rfl rfl rfl) (zV R3 (Val.load_tree ⟨_, rfl, rfl⟩ rfl) (zF 0 R6 (zL 0 R3 R6 (TO.eql rfl rfl rfl rfl rfl (fun c34 hc34=>zP R6 (zM R4 ?_))))));cases c34 with
    | true =>
     replace hc34 := btrue hc34;refine zM R4 (zM R4 (TO.index_gso rfl rfl rfl ⟨rfl, rfl⟩ rfl rfl aO (fun a39 ra39 ea39=>?_)))
     try simp only [Int.toNat_natCast] at ea39
     have e39 := Option.some.inj (ea29.symm.trans ea39);subst e39;refine zV R3 (Val.faddr_tree (fo := 3) rfl rfl rfl rfl) (zV R3 (Val.load_tree ⟨_, rfl, rfl⟩ rfl) (TO.eql rfl rfl rfl rfl rfl (fun c42 hc42=>zP R6 (zM R4 ?_))));cases c42 with
     | true =>
      replace hc42 := btrue hc42;refine zM R4 (zM R4 (TO.index_gso rfl rfl rfl ⟨rfl, rfl⟩ rfl rfl aO (fun a47 ra47 ea47=>?_)))
      try simp only [Int.toNat_natCast] at ea47
      have e47 := Option.some.inj (ea29.symm.trans ea47);subst e47;refine zV R3 (Val.faddr_tree (fo := 1) rfl rfl rfl rfl) (zV R3 (Val.load_tree ⟨_, rfl, rfl⟩ rfl) (zF 1 R6 (zL 0 R3 R6 (zV R3 (Val.add rfl rfl aO) (zF 1 R6 (zL 1 R3 R6 (zF 0 R6 (zL 0 R3 R6 (TO.index_gs rfl rfl rfl ⟨rfl, rfl⟩ rfl rfl aO (fun a57 ra57 ea57=>?_))))))))))
      try simp only [Int.toNat_natCast] at ea57
      have e57 := Option.some.inj (hg.symm.trans ea57);subst e57;refine zV R3 (Val.faddr_tree (fo := 2) rfl rfl rfl rfl) (zV R3 (Val.load_tree ⟨_, rfl, rfl⟩ rfl) (zV R3 (Val.add rfl rfl aO) (TO.eql rfl rfl rfl rfl rfl (fun c61 hc61=>zP R6 (zN ?_)))));cases c61 with
      | true =>
       replace hc61 := btrue hc61;refine zC rfl (zU rfl (zM R4 (zA R4 (zN (zR ?_)))));exact ⟨rfl, _, rfl, RefN.cast .lit (by rw [hp, he, drop_cons ea29, pairFrom, if_pos (by refine ⟨by omega, ?_⟩; simp_all)])⟩
      | false =>
       replace hc61 := bfalse hc61;refine zD rfl (zK (zT rfl (zM R4 (zV R3 (Val.add rfl rfl aO) (zA R4 (zN ?_))))));refine ⟨_, _, aO, ⟨i + 1, _, rfl, (by first | omega | simp_all), (by first | omega | simp_all), (by obtain ⟨y, hy⟩ : ∃ y, (leavesOf b)[i]? = some y := ⟨_, List.getElem?_eq_getElem aO⟩; rw [he, drop_cons hy, pairFrom, if_neg (by rintro ⟨q1, q2, q3, q4⟩; first | omega | (simp_all; done) | (simp_all; omega))]), rfl⟩, ⟨rfl, (keep_cons rfl (keep_cons rfl (keep_cons rfl (keep_cons rfl (keep_cons rfl keep_nil))))), (.cons_cons _ (.cons_cons _ .slnil))⟩⟩
     | false =>
      replace hc42 := bfalse hc42;refine zO R3 (zO R3 (zO R3 (zO R3 (zO R3 (zO R3 (zO R3 (zO R3 (zO R3 (zO R3 (zO R3 (zO R3 (zO R3 (zO R3 (zO R3 (zO R3 (zO R3 (zP R6 (zN (zD rfl (zK (zT rfl (zM R4 (zV R3 (Val.add rfl rfl aO) (zA R4 (zN ?_)))))))))))))))))))))))));refine ⟨_, _, aO, ⟨i + 1, _, rfl, (by first | omega | simp_all), (by first | omega | simp_all), (by obtain ⟨y, hy⟩ : ∃ y, (leavesOf b)[i]? = some y := ⟨_, List.getElem?_eq_getElem aO⟩; rw [he, drop_cons hy, pairFrom, if_neg (by rintro ⟨q1, q2, q3, q4⟩; first | omega | (simp_all; done) | (simp_all; omega))]), rfl⟩, ⟨rfl, (keep_cons rfl (keep_cons rfl (keep_cons rfl (keep_cons rfl (keep_cons rfl keep_nil))))), (.cons_cons _ (.cons_cons _ .slnil))⟩⟩
    | false =>
     replace hc34 := bfalse hc34;refine zO R3 (zO R3 (zO R3 (zO R3 (zO R3 (zO R3 (zP R6 (zM R4 (zO R3 (zO R3 (zO R3 (zO R3 (zO R3 (zO R3 (zO R3 (zO R3 (zO R3 (zO R3 (zO R3 (zO R3 (zO R3 (zO R3 (zO R3 (zO R3 (zO R3 (zP R6 (zN (zD rfl (zK (zT rfl (zM R4 (zV R3 (Val.add rfl rfl aO) (zA R4 (zN ?_)))))))))))))))))))))))))))))))));refine ⟨_, _, aO, ⟨i + 1, _, rfl, (by first | omega | simp_all), (by first | omega | simp_all), (by obtain ⟨y, hy⟩ : ∃ y, (leavesOf b)[i]? = some y := ⟨_, List.getElem?_eq_getElem aO⟩; rw [he, drop_cons hy, pairFrom, if_neg (by rintro ⟨q1, q2, q3, q4⟩; first | omega | (simp_all; done) | (simp_all; omega))]), rfl⟩, ⟨rfl, (keep_cons rfl (keep_cons rfl (keep_cons rfl (keep_cons rfl (keep_cons rfl keep_nil))))), (.cons_cons _ (.cons_cons _ .slnil))⟩⟩
   | false =>
    replace hc25 := bfalse hc25;refine zO R3 (zO R3 (zO R3 (zO R3 (zO R3 (zO R3 (zO R3 (zO R3 (zP R6 (zM R4 (zO R3 (zO R3 (zO R3 (zO R3 (zO R3 (zO R3 (zP R6 (zM R4 (zO R3 (zO R3 (zO R3 (zO R3 (zO R3 (zO R3 (zO R3 (zO R3 (zO R3 (zO R3 (zO R3 (zO R3 (zO R3 (zO R3 (zO R3 (zO R3 (zO R3 (zP R6 (zN (zD rfl (zK (zT rfl ?_)))))))))))))))))))))))))))))))))))))));refine zM R4 (zV R3 (Val.add rfl rfl aO) (zA R4 (zN ?_)));refine ⟨_, _, aO, ⟨i + 1, _, rfl, (by first | omega | simp_all), (by first | omega | simp_all), (by obtain ⟨y, hy⟩ : ∃ y, (leavesOf b)[i]? = some y := ⟨_, List.getElem?_eq_getElem aO⟩; rw [he, drop_cons hy, pairFrom, if_neg (by rintro ⟨q1, q2, q3, q4⟩; first | omega | (simp_all; done) | (simp_all; omega))]), rfl⟩, ⟨rfl, (keep_cons rfl (keep_cons rfl (keep_cons rfl (keep_cons rfl (keep_cons rfl keep_nil))))), (.cons_cons _ (.cons_cons _ .slnil))⟩⟩
  | false =>
   replace hc20 := bfalse hc20;refine zD rfl (zE (zU rfl (zA R4 (zN (zR ?_)))));exact ⟨rfl, _, rfl, RefN.cast .lit (by rw [hp, he, List.drop_eq_nil_of_le aO, pairFrom])⟩
theorem r1_Has (x : GS encI) (n : Int) (hb : x.l.length < 4611686018427387904) : Comes (EL 0) 25 [x.v, iv n] (bv (decide (n ∈ x.l))) := by
 refine Comes.of (TF.enter (fn := Go.Proofs.Tryz.f25) rfl rfl rfl rfl rfl ?_);refine zU rfl (zA R4 (zN (zS (zU rfl (zA R4 (zN (zB (T.loop (fun μ s => ∃ i : Nat, ∃ j : Int, μ = x.l.length - i ∧ j = i ∧ i ≤ x.l.length ∧ n ∉ x.l.take i ∧ s = ⟨[], [(0, x.v), (1, iv n), (5, iv j)], []⟩) (k := _) (s' := _) ⟨0, 0, rfl, (by first | rfl | omega | (simp; done) | (simp; omega) | simp_all), (by first | rfl | omega | (simp; done) | (simp; omega) | simp_all), (by first | rfl | omega | (simp; done) | (simp; omega) | simp_all), rfl⟩ ⟨rfl, (keep_cons rfl (keep_cons rfl (keep_cons rfl keep_nil))), .slnil⟩ ?_))))))));rintro μ _ ⟨i, j, hk0, hj, hi, hc, rfl⟩;subst hj;refine zS (zU rfl (zM R4 (zM R4 (zV R3 (Val.len_gs rfl rfl) (TO.lss rfl rfl rfl rfl rfl (fun c9 hc9=>zN ?_))))));cases c9 with
 | true =>
  replace hc9 := btrue hc9;refine zC rfl (zK (zS (zB (zU rfl (zM R4 (zM R4 (TO.index_gs rfl rfl rfl ⟨rfl, rfl⟩ rfl rfl aO (fun a14 ra14 ea14=>?_))))))))
  try simp only [Int.toNat_natCast] at ea14
  refine zV R3 (Val.load_tree ⟨_, rfl, rfl⟩ rfl) (zM R4 (TO.eql rfl rfl rfl rfl rfl (fun c17 hc17=>zN ?_)));cases c17 with
  | true =>
   replace hc17 := btrue hc17;refine zC rfl (zU rfl (zA R4 (zN (zR ?_))));exact ⟨rfl, _, rfl, RefN.cast .lit (bv_t (by rw [← hc17]; exact List.mem_of_getElem? ea14))⟩
  | false =>
   replace hc17 := bfalse hc17;refine zD rfl (zK (zT rfl (zM R4 (zV R3 (Val.add rfl rfl aO) (zA R4 (zN ?_))))));refine ⟨_, _, aO, ⟨i + 1, _, rfl, (by first | omega | simp_all), (by first | omega | simp_all), (by rw [take_snoc ea14]; simp_all; exact fun e => hc17 e.symm), rfl⟩, ⟨rfl, (keep_cons rfl (keep_cons rfl (keep_cons rfl keep_nil))), .slnil⟩⟩
 | false =>
  replace hc9 := bfalse hc9;refine zD rfl (zE (zU rfl (zA R4 (zN (zR ?_)))));exact ⟨rfl, _, rfl, RefN.cast .lit (bv_f (by rw [List.take_of_length_le aO] at hc; exact hc))⟩
theorem r1_Ints (x : GS encI) (y : GS encI) (hb : x.l.length < 4611686018427387904) : Comes (EL 0) 9 [x.v, y.v] (bv (decide (x.l = y.l))) := by
 refine Comes.of (TF.enter (fn := Go.Proofs.Tryz.f9) rfl rfl rfl rfl rfl ?_);refine zU rfl (zA R4 (zN (zU rfl (zM R4 (zV R3 (Val.len_gs rfl rfl) (zM R4 (zV R3 (Val.len_gs rfl rfl) (TO.eql rfl rfl rfl rfl rfl (fun c11 hc11=>zA R4 (zN (zS (zU rfl (zA R4 (zN (zB (T.loop (fun μ s => ∃ i : Nat, ∃ j : Int, ∃ c : Bool, μ = x.l.length - i ∧ j = i ∧ i ≤ x.l.length ∧ (c = true ↔ (x.l.length = y.l.length ∧ x.l.take i = y.l.take i)) ∧ s = ⟨[], [(0, x.v), (1, y.v), (5, bv c), (6, iv j)], []⟩) (k := _) (s' := _) ⟨0, 0, _, rfl, (by first | rfl | omega | (simp; done) | (simp; omega) | simp_all), (by first | rfl | omega | (simp; done) | (simp; omega) | simp_all), (by rw [hc11]; simp; omega), rfl⟩ ⟨rfl, (keep_cons rfl (keep_cons rfl (keep_cons rfl (keep_cons rfl keep_nil)))), .slnil⟩ ?_))))))))))))))));rintro μ _ ⟨i, j, c, hk0, hj, hi, hc, rfl⟩;subst hj;refine zS (zU rfl (zM R4 (zM R4 ?_)));cases c with
 | true =>
  replace hc := btrue hc;refine zM R4 (zM R4 (zV R3 (Val.len_gs rfl rfl) (TO.lss rfl rfl rfl rfl rfl (fun c17 hc17=>zP R6 (zN ?_)))));cases c17 with
  | true =>
   replace hc17 := btrue hc17;refine zC rfl (zK (zS (zB (T.draw (fun v => sameC_refl v) (l1 := [0, 1, 2, 3, 4, 5, 6, 7, 8, 9]) (l2 := []) (by kernel_rfl) (by kernel_rfl) (zM R4 (zM R4 (TO.index_gs rfl rfl rfl ⟨rfl, rfl⟩ rfl rfl aO (fun a23 ra23 ea23=>?_))))))))
   try simp only [Int.toNat_natCast] at ea23
   refine zV R3 (Val.load_tree ⟨_, rfl, rfl⟩ rfl) (zM R4 (zM R4 (TO.index_gs rfl rfl rfl ⟨rfl, rfl⟩ rfl rfl aO (fun a27 ra27 ea27=>?_))))
   try simp only [Int.toNat_natCast] at ea27
   refine zV R3 (Val.load_tree ⟨_, rfl, rfl⟩ rfl) (TO.eql rfl rfl rfl rfl rfl (fun c29 hc29=>zA R4 (zN (zT rfl (zM R4 (zV R3 (Val.add rfl rfl aO) (zA R4 (zN ?_))))))));refine ⟨_, _, aO, ⟨i + 1, _, _, rfl, (by first | omega | simp_all), (by first | omega | simp_all), (by exact ints_step hc ea23 ea27 hc29), rfl⟩, ⟨rfl, (keep_cons rfl (keep_cons rfl (keep_cons rfl (keep_cons rfl keep_nil)))), .slnil⟩⟩
  | false =>
   replace hc17 := bfalse hc17;refine zD rfl (zE (zU rfl (zM R4 (zA R4 (zN (zR ?_))))));exact ⟨rfl, _, rfl, RefN.cast .lit (bv_t (by first | (rw [List.take_of_length_le aO, List.take_of_length_le aO] at hc; exact hc.2) | exact fun h => hc ⟨by rw [h], by rw [h]⟩))⟩
 | false =>
  replace hc := bfalse hc;refine zO R3 (zO R3 (zO R3 (zO R3 (zP R6 (zN (zD rfl (zE (zU rfl (zM R4 (zA R4 (zN (zR ?_))))))))))));exact ⟨rfl, _, rfl, RefN.cast .lit (bv_f (by first | (rw [List.take_of_length_le aO, List.take_of_length_le aO] at hc; exact hc.2) | exact fun h => hc ⟨by rw [h], by rw [h]⟩))⟩
end Go.Am.YthckcbfijdambaaGreat
end
section
namespace Go.Am.YthckcbfijdambaaGreat
open Go.Am Go.RowKit
set_option linter.unusedVariables false
set_option linter.unusedSimpArgs false
theorem flat_pre {α β : Type} {f : α → List β} {l : List α} {c : Nat} {a : α} (h : l[c]? = some a) : (l.take c).flatMap f ++ f a <+: l.flatMap f := by
 have e : l = l.take c ++ a :: l.drop (c + 1) := by rw [← drop_cons h, List.take_append_drop]
 refine ⟨(l.drop (c + 1)).flatMap f, ?_⟩
 conv => rhs; rw [e]
 rw [List.flatMap_append, List.flatMap_cons, List.append_assoc]
def Visit (k l : Nat) (vt : AV) (n : Nat) (all : List (List Int)) (B : List Int → List Thing) (Y Z : List (List Int) → List Thing → Prop) : Prop :=
 ∀ vis tr C, vis ++ [tr] <+: all → tr.length = n → Y vis C → TR (EL k) l [vt] (B tr ++ C) (fun v hs' => (v = bv true ∧ ∃ C', hs' = B tr ++ C' ∧ Y (vis ++ [tr]) C') ∨ (v = bv false ∧ ∃ C', hs' = B tr ++ C' ∧ Z (vis ++ [tr]) C'))
theorem tr_item {k : Nat} {its : List Item} {itv : AV} {D : List Thing} {sg : Int} {gsv lv mv vt : AV} {bt by_ bx bi xid l : Nat} {Y Z : List (List Int) → List Thing → Prop} (hn : its.length ≤ 120) (hi : Rdl D encIt itv its)
  (hcl : ∀ x ∈ its, x.could.l.length ≤ 4) {all : List (List Int)} (hy : Visit k l vt its.length all (fun tr => [.row bt 1 [vt], .row by_ 1 [.yield l], .row bx 1 [.ptr xid 0 5], .row bi 1 [.func 75 [] [.ptr bt 0 1, .ptr by_ 0 1, .ptr bx 0 1, .ptr bi 0 1]], .row xid 5 [iv sg, gsv, itv, lv, mv], ownL false vt encI tr] ++ D) Y Z) : ∀ (m i : Nat) (j : Int) (tr : List Int) (vis : List (List Int)) (C : List Thing), j = i → i + m = its.length → tr.length = its.length → Y vis C → vis ++ comps (tr.take i) (its.drop i) <+: all →
  TF (EL k) 75 [iv j, .ptr bt 0 1, .ptr by_ 0 1, .ptr bx 0 1, .ptr bi 0 1] ([.row bt 1 [vt], .row by_ 1 [.yield l], .row bx 1 [.ptr xid 0 5], .row bi 1 [.func 75 [] [.ptr bt 0 1, .ptr by_ 0 1, .ptr bx 0 1, .ptr bi 0 1]], .row xid 5 [iv sg, gsv, itv, lv, mv], ownL false vt encI tr] ++ (D ++ C)) (fun v hs' => ∃ tr' C', tr'.length = its.length ∧ tr'.take i = tr.take i ∧ hs' = [.row bt 1 [vt], .row by_ 1 [.yield l], .row bx 1 [.ptr xid 0 5], .row bi 1 [.func 75 [] [.ptr bt 0 1, .ptr by_ 0 1, .ptr bx 0 1, .ptr bi 0 1]], .row xid 5 [iv sg, gsv, itv, lv, mv], ownL false vt encI tr'] ++ (D ++ C') ∧
   ((v = bv true ∧ Y (vis ++ comps (tr.take i) (its.drop i)) C') ∨ (v = bv false ∧ ∃ q r, comps (tr.take i) (its.drop i) = q ++ r ∧ Z (vis ++ q) C'))) := by
 intro m
 induction m using Nat.strongRecOn with
 | _ m ih =>
 intro i j tr vis C hj hi' htr hY hp;subst hj;refine TF.enter (fn := Go.Proofs.Tryz.f75) rfl rfl rfl rfl rfl (zU rfl (zA R4 (zN (zS (zU rfl (zM R4 (zL 0 R3 R6 (zV R3 (Val.len_own (p := 5) rfl rfl rfl) (TO.eql rfl rfl rfl rfl rfl (fun c12 hc12=>zN ?_))))))))));cases c12 with
 | true =>
  replace hc12 := btrue hc12;refine zC rfl (zU rfl (zL 1 R3 R6 (zL 0 R3 R6 (TO.callY rfl rfl rfl rfl rfl (hy vis tr C (by have := hp; rw [comps_nil (List.drop_eq_nil_of_le aO), List.take_of_length_le aO] at this; exact this) htr hY) ?_))));rintro _ _ (⟨rfl, C1, rfl, hY1⟩ | ⟨rfl, C1, rfl, hZ1⟩)
  ·skip;refine zG (_::_::_::_::_::_::(D ++ C1)) rfl (zA R4 (zN (zR ?_)))
   exact ⟨rfl, _, rfl, tr, C1, htr, rfl, rfl, .inl ⟨rfl, by rw [comps_nil (List.drop_eq_nil_of_le aO), List.take_of_length_le aO]; exact hY1⟩⟩
  ·skip;refine zG (_::_::_::_::_::_::(D ++ C1)) rfl (zA R4 (zN (zR ?_)))
   exact ⟨rfl, _, rfl, tr, C1, htr, rfl, rfl, .inr ⟨rfl, [tr], [], by rw [comps_nil (List.drop_eq_nil_of_le aO), List.take_of_length_le aO]; rfl, hZ1⟩⟩
 | false =>
  replace hc12 := bfalse hc12;refine zD rfl (zK (zS (zU rfl (zL 0 R3 R6 (zM R4 (TO.iaddr_ownL (en := encI) (p := 5) rfl rfl rfl ⟨rfl, rfl⟩ rfl rfl rfl aO (fun id18 a18 ata18 ea18=>?_)))))))
  try simp only [Int.toNat_natCast] at ea18
  refine TO.store_ownL (en := encI) (p := 5) _ rfl rfl rfl ata18 rfl (by decide) rfl rfl rfl (by first | rfl | simp [GS.one]) (by (have := (List.getElem?_eq_some_iff.1 ea18).1; omega)) ?_;refine zG (_::_::_::_::_::_::(D ++ C)) rfl (zN (zU rfl (zL 2 R3 R6 (zV R3 (Val.nil_ptr rfl) (zF 0 R6 (zF 2 R6 (zL 4 R3 R6 (zM R4 (TO.fact (rdl_find (en := encIt) (v := itv) (l := its) (k := (i : Int)) hi (memS (memS (memS (memS (memS (memS (memL))))))) aO) (fun hq=>?_))))))))));obtain ⟨it, eit, pit, hpit, hvit⟩ := hq
  try simp only [Int.toNat_natCast] at eit
  refine zV R3 (hvit ⟨rfl, rfl⟩ rfl rfl) ?_
  have hitl := hcl it (List.mem_of_getElem? eit);refine zV R3 (Val.faddr_e (fo := 0) hpit rfl rfl rfl) (zV R3 (Val.load_e (PtE.add hpit (by decide)) (memS (memS (memS (memS (memS (memS (memL))))))) ⟨_, rfl, rfl⟩ rfl rfl) (zV R3 (Val.len_gs rfl rfl) (TO.eql rfl rfl rfl rfl rfl (fun c29 hc29=>zN ?_))));cases c29 with
  | true =>
   replace hc29 := btrue hc29;refine zC rfl (zU rfl (zL 3 R3 R6 (zM R4 (zV R3 (Val.add rfl rfl aO) (TO.callV rfl rfl rfl rfl rfl rfl (orcN rfl) (ih (m - 1) aO (i + 1) _ (tr.set i (-1)) vis C aO aO (by simpa using htr) hY (by rw [set_take aO, ← comps_one eit hc29]; exact hp)) ?_)))));rintro _ _ ⟨tr1, C1, ht1, hk1, rfl, (⟨rfl, hY1⟩ | ⟨rfl, q1, r1, hq1, hZ1⟩)⟩
   ·skip;refine zG (_::_::_::_::_::_::(D ++ C1)) rfl (zA R4 (zN (zR ?_)))
    exact ⟨rfl, _, rfl, tr1, C1, ht1, tr_keep hk1, rfl, .inl ⟨rfl, by rw [comps_one eit hc29, ← set_take aO]; exact hY1⟩⟩
   ·skip;refine zG (_::_::_::_::_::_::(D ++ C1)) rfl (zA R4 (zN (zR ?_)))
    exact ⟨rfl, _, rfl, tr1, C1, ht1, tr_keep hk1, rfl, .inr ⟨rfl, q1, r1, by rw [comps_one eit hc29, ← set_take aO]; exact hq1, hZ1⟩⟩
  | false =>
   replace hc29 := bfalse hc29;refine zD rfl (zK (zS (zU rfl (zL 2 R3 R6 (zV R3 (Val.nil_ptr rfl) (zF 0 R6 (zF 2 R6 (zL 4 R3 R6 (zM R4 (TO.fact (rdl_find (en := encIt) (v := itv) (l := its) (k := (i : Int)) hi (memS (memS (memS (memS (memS (memS (memL))))))) aO) (fun hq=>?_)))))))))));obtain ⟨it2, eit2, pit2, hpit2, hvit2⟩ := hq
   try simp only [Int.toNat_natCast] at eit2
   refine zV R3 (hvit2 ⟨rfl, rfl⟩ rfl rfl) ?_
   have e40 := Option.some.inj (eit.symm.trans eit2);subst e40;refine zV R3 (Val.faddr_e (fo := 0) hpit2 rfl rfl rfl) (zV R3 (Val.load_e (PtE.add hpit2 (by decide)) (memS (memS (memS (memS (memS (memS (memL))))))) ⟨_, rfl, rfl⟩ rfl rfl) (zV R3 (Val.len_gs rfl rfl) (zM R4 (zN (zB (T.loop (fun μ s => ∃ c : Nat, ∃ jc : Int, ∃ tr2 : List Int, ∃ C2 : List Thing, μ = it.could.l.length - c ∧ jc = c ∧ c ≤ it.could.l.length ∧ tr2.length = its.length ∧ tr2.take i = tr.take i ∧ Y (vis ++ (it.could.l.take c).flatMap fun a => comps (tr.take i ++ [a]) (its.drop (i + 1))) C2 ∧ s = ⟨[], [(0, iv (i : Int)), (1, .ptr bt 0 1), (2, .ptr by_ 0 1), (3, .ptr bx 0 1), (4, .ptr bi 0 1), (42, it.could.v), (43, iv (it.could.l.length : Int)), (44, iv jc)], (.row bt 1 [vt]) :: (.row by_ 1 [.yield l]) :: (.row bx 1 [.ptr xid 0 5]) :: (.row bi 1 [.func 75 [] [.ptr bt 0 1, .ptr by_ 0 1, .ptr bx 0 1, .ptr bi 0 1]]) :: (.row xid 5 [iv sg, gsv, itv, lv, mv]) :: (ownL false vt encI tr2) :: (D ++ C2)⟩) (k := _) (s' := _) ⟨0, 0, _, _, rfl, (by first | rfl | omega | (simp; done) | (simp; omega) | simp_all), (by first | rfl | omega | (simp; done) | (simp; omega) | simp_all), (by simpa using htr), (by exact set_takeL), (by simpa using hY), rfl⟩ ⟨rfl, (keep_cons rfl (keep_cons rfl (keep_cons rfl (keep_cons rfl (keep_cons rfl (keep_cons rfl (keep_cons rfl (keep_cons rfl keep_nil)))))))), (.cons_cons _ (.cons_cons _ (.cons_cons _ (.cons_cons _ (.cons_cons _ (.cons_cons _ (.refl _)))))))⟩ ?_))))));rintro μ _ ⟨c, jc, tr2, C2, hk0, hjc, hcl, ht2, hk2, hY2, rfl⟩;subst hjc;refine zU rfl (TO.lss rfl rfl rfl rfl rfl (fun c45 hc45=>zN (zS ?_)));cases c45 with
   | true =>
    replace hc45 := btrue hc45;refine zC rfl (zK (zS (zB (zU rfl (TO.index_gs rfl rfl rfl ⟨rfl, rfl⟩ rfl rfl aO (fun cc rcc ecc=>?_))))))
    try simp only [Int.toNat_natCast] at ecc
    refine zV R3 (Val.load_tree ⟨_, rfl, rfl⟩ rfl) (zA R4 (zN (zU rfl (zL 0 R3 R6 (zM R4 (zM R4 (TO.iaddr_ownL (en := encI) (p := 5) rfl rfl rfl ⟨rfl, rfl⟩ rfl rfl rfl aO (fun id51 a51 ata51 ea51=>?_))))))))
    try simp only [Int.toNat_natCast] at ea51
    refine TO.store_ownL (en := encI) (p := 5) _ rfl rfl rfl ata51 rfl (by decide) rfl rfl rfl (by first | rfl | simp [GS.one]) (by (have := (List.getElem?_eq_some_iff.1 ea51).1; omega)) ?_;refine zG (_::_::_::_::_::_::(D ++ C2)) rfl (zN (zU rfl (zL 3 R3 R6 (zM R4 (zV R3 (Val.add rfl rfl aO) (TO.callV rfl rfl rfl rfl rfl rfl (orcN rfl) (ih (m - 1) aO (i + 1) _ (tr2.set i cc) _ C2 aO aO (by simpa using ht2) hY2 (by rw [set_take aO, hk2, List.append_assoc]; rw [comps_all eit hc29] at hp; exact (pre_app (flat_pre ecc)).trans hp)) ?_))))));rintro _ _ ⟨tr1, C1, ht1, hk1, rfl, (⟨rfl, hY1⟩ | ⟨rfl, q1, r1, hq1, hZ1⟩)⟩
    ·skip;refine zG (_::_::_::_::_::_::(D ++ C1)) rfl (zV R3 (Val.not rfl) (zN (zD rfl (zK (zT rfl (zV R3 (Val.add rfl rfl aO) (zM R4 (zN ?_))))))))
     refine ⟨_, _, aO, ⟨c + 1, _, _, _, rfl, (by first | omega | simp_all), (by first | omega | simp_all), (by exact ht1), (by exact (tr_keep hk1).trans hk2), (by have e : tr.take i ++ [cc] = (tr2.set i cc).take (i + 1) := (by rw [set_take aO, hk2]); rw [take_snoc ecc, List.flatMap_append, ← List.append_assoc, List.flatMap_cons, List.flatMap_nil, List.append_nil, e]; exact hY1), rfl⟩, ⟨rfl, (keep_cons rfl (keep_cons rfl (keep_cons rfl (keep_cons rfl (keep_cons rfl (keep_cons rfl (keep_cons rfl (keep_cons rfl keep_nil)))))))), (.cons_cons _ (.cons_cons _ (.cons_cons _ (.cons_cons _ (.cons_cons _ (.cons_cons _ (.refl _)))))))⟩⟩
    ·skip;refine zG (_::_::_::_::_::_::(D ++ C1)) rfl (zV R3 (Val.not rfl) (zN (zC rfl (zU rfl (zA R4 (zN (zR ?_)))))))
     exact ⟨rfl, _, rfl, tr1, C1, ht1, (tr_keep hk1).trans hk2, rfl, .inr ⟨rfl, _, _, comps_cut eit ecc hc29 (by rw [← hk2, ← set_take aO]; exact hq1), by rw [← List.append_assoc]; exact hZ1⟩⟩
   | false =>
    replace hc45 := bfalse hc45;refine zD rfl (zE (zU rfl (zA R4 (zN (zR ?_)))));exact ⟨rfl, _, rfl, tr2, C2, ht2, hk2, rfl, .inl ⟨rfl, by rw [comps_all eit hc29]; rw [show it.could.l.take c = it.could.l from List.take_of_length_le aO] at hY2; exact hY2⟩⟩
theorem tr_iter {k : Nat} {its : List Item} {itv : AV} {D : List Thing} {sg : Int} {gsv lv mv : AV} {bx xid l : Nat} {Y Z : List (List Int) → List Thing → Prop} (hn : its.length ≤ 120) (hi : Rdl D encIt itv its)
  (hcl : ∀ x ∈ its, x.could.l.length ≤ 4) (hy : ∀ bt by_ bi vt, Visit k l vt its.length (truthsOf its) (fun tr => [.row bt 1 [vt], .row by_ 1 [.yield l], .row bx 1 [.ptr xid 0 5], .row bi 1 [.func 75 [] [.ptr bt 0 1, .ptr by_ 0 1, .ptr bx 0 1, .ptr bi 0 1]], .row xid 5 [iv sg, gsv, itv, lv, mv], ownL false vt encI tr] ++ D) Y Z) (C : List Thing) (hY : Y [] C) :
  TF (EL k) 74 [.yield l, .ptr bx 0 1] ([.row bx 1 [.ptr xid 0 5], .row xid 5 [iv sg, gsv, itv, lv, mv]] ++ (D ++ C)) (fun v hs' => ∃ C', hs' = [.row bx 1 [.ptr xid 0 5], .row xid 5 [iv sg, gsv, itv, lv, mv]] ++ (D ++ C') ∧
   (Y (truthsOf its) C' ∨ ∃ q r, truthsOf its = q ++ r ∧ Z q C')) := by
 refine TF.enter (fn := Go.Proofs.Tryz.f74) rfl rfl rfl rfl rfl (zU rfl (zQ 1 [_] R7 (fun b2=>zN (zU rfl (zL 1 R3 R6 (zV R3 (Val.nil_ptr rfl) (zF 0 R6 (zF 2 R6 (zL 2 R3 R6 (zV R3 (Val.len_l hi (memS (memS (memS (memL)))) rfl rfl) (TO.makeInts (m := its.length) (b := 8) rfl rfl rfl ⟨rfl, rfl⟩ rfl rfl rfl rfl aO aO (fun v11=>zJ 1 [_] R7 (fun b3=>TO.ownfact (p := 1) rfl (fun hot24=>TO.store_row (p := 0) (cv := [_]) (cells' := [_]) rfl rfl rfl rfl rfl rfl rfl hot24.1 rfl rfl (by simp [hot24.2]) (by decide) rfl (zG (_::_::_::_::_::(D ++ C)) rfl (zN (zU rfl (zJ 1 [_] R7 (fun b4=>zN (zU rfl (zV R3 (Val.makeFunc rfl rfl) (TO.store_row (p := 0) (cv := [_]) (cells' := [_]) rfl rfl rfl rfl rfl rfl rfl rfl rfl rfl (by first | rfl | simp [GS.one]) (by decide) rfl (zG (_::_::_::_::_::_::(D ++ C)) rfl (zN (zT rfl (zL 0 R3 R6 (TO.pick (p := 2) rfl (zG (_::_::_::_::_::_::(D ++ C)) rfl (TO.pick (p := 5) rfl (zG (_::_::_::_::_::_::(D ++ C)) rfl (TO.pick (p := 2) rfl (zG (_::_::_::_::_::_::(D ++ C)) rfl (TO.pick (p := 5) rfl (zG (_::_::_::_::_::_::(D ++ C)) rfl (TO.pick (p := 5) rfl ?_)))))))))))))))))))))))))))))))))));refine zG (_::_::_::_::_::_::(D ++ C)) rfl (TO.pick (p := 5) rfl (zG (_::_::_::_::_::_::(D ++ C)) rfl (TO.callV rfl rfl rfl rfl rfl rfl (orcN rfl) (tr_item hn hi hcl (hy _ _ _ _) its.length 0 0 _ [] C rfl aO (by simp) hY (by simp [truthsOf])) ?_)));rintro _ _ ⟨tr1, C1, ht1, hk1, rfl, (⟨rfl, hY1⟩ | ⟨rfl, q1, r1, hq1, hZ1⟩)⟩
 ·skip;refine zG (_::_::_::_::_::_::(D ++ C1)) rfl (TO.keep (s' := ⟨[], [], _ :: _ :: (D ++ C1)⟩) (sc (.cons _ (.cons _ (.cons_cons _ (.cons _ (.cons_cons _ (.cons _ (.refl _)))))))) (zN ?_))
  exact ⟨rfl, _, rfl, _, rfl, .inl (by simpa [truthsOf] using hY1)⟩
 ·skip;refine zG (_::_::_::_::_::_::(D ++ C1)) rfl (TO.keep (s' := ⟨[], [], _ :: _ :: (D ++ C1)⟩) (sc (.cons _ (.cons _ (.cons_cons _ (.cons _ (.cons_cons _ (.cons _ (.refl _)))))))) (zN ?_))
  exact ⟨rfl, _, rfl, _, rfl, .inr ⟨q1, r1, by simpa [truthsOf] using hq1, by simpa using hZ1⟩⟩
end Go.Am.YthckcbfijdambaaGreat
end
section
namespace Go.Am.YthckcbfijdambaaGreat
open Go.Am Go.RowKit
set_option linter.unusedVariables false
set_option linter.unusedSimpArgs false
theorem q_out (lo : Int) (hi : Int) (x : GS encI) (hb : x.l.length < 4611686018427387904) : Comes (EL 0) 82 [iv lo, iv hi, x.v] (bv (decide (∃ n ∈ x.l, n < lo ∨ hi < n))) := by
 refine Comes.of (TF.enter (fn := Go.Proofs.Tryz.f82) rfl rfl rfl rfl rfl ?_);refine zU rfl (zQ 1 [_] R7 (fun b3=>zQ 1 [_] R7 (fun b4=>zA R4 (zN (zU rfl (zM R4 (zV R3 (Val.makeFunc rfl rfl) (TO.callIn rfl rfl rfl rfl rfl rfl (orcN rfl) (TF.enter (fn := Go.Proofs.Tryz.f94) rfl rfl rfl rfl rfl (zU rfl (zA R4 (zN (zU rfl (zM R4 (zM R4 (TO.callIn rfl rfl rfl rfl rfl rfl (orcN rfl) (TF.enter (fn := Go.Proofs.Tryz.f114) rfl rfl rfl rfl rfl (zU rfl (zA R4 (zN (zS (zU rfl (zM R4 (zV R3 (Val.len_gs rfl rfl) (zM R4 (zN (zB (T.loop (fun μ s => ∃ i : Nat, ∃ j : Int, μ = x.l.length - i ∧ j = i ∧ i ≤ x.l.length ∧ (∀ n ∈ x.l.take i, ¬ (n < lo ∨ hi < n)) ∧ s = ⟨[], [(0, x.v), (1, .func 111 [] [.ptr b3 0 1, .ptr b4 0 1]), (7, iv (x.l.length : Int)), (8, iv j)], [.row b4 1 [iv hi], .row b3 1 [iv lo]]⟩) (k := _) (s' := _) ⟨0, 0, rfl, (by first | rfl | omega | (simp; done) | (simp; omega) | simp_all), (by first | rfl | omega | (simp; done) | (simp; omega) | simp_all), (by first | rfl | omega | (simp; done) | (simp; omega) | simp_all), rfl⟩ ⟨rfl, (keep_cons rfl (keep_cons rfl (keep_cons rfl (keep_cons rfl keep_nil)))), (.cons_cons _ (.cons_cons _ .slnil))⟩ ?_))))))))))))))))))))))))))));rintro μ _ ⟨i, j, hk0, hj, hil, hall, rfl⟩;subst hj;refine zU rfl (TO.lss rfl rfl rfl rfl rfl (fun c9 hc9=>zN (zS ?_)));cases c9 with
 | true =>
  replace hc9 := btrue hc9;refine zC rfl (zK (zS (zB (zU rfl (zM R4 (zA R4 (zN (zU rfl (zM R4 (zM R4 (zM R4 (TO.index_gs rfl rfl rfl ⟨rfl, rfl⟩ rfl rfl aO (fun a14 ra14 ea14=>?_)))))))))))))
  try simp only [Int.toNat_natCast] at ea14
  refine zV R3 (Val.load_tree ⟨_, rfl, rfl⟩ rfl) (TO.callIn rfl rfl rfl rfl rfl rfl (orcN rfl) (TF.enter (fn := Go.Proofs.Tryz.f111) rfl rfl rfl rfl rfl (zU rfl (zA R4 (zN (zU rfl (zM R4 (zL 1 R3 R6 (TO.lss rfl rfl rfl rfl rfl (fun c7 hc7=>zM R4 ?_))))))))));cases c7 with
  | true =>
   replace hc7 := btrue hc7;refine zO R3 (zO R3 (zO R3 (zP R6 (zA R4 (zN (zR ?_))))));refine ⟨rfl, _, rfl, ?_⟩;refine zN (zC rfl (zU rfl (zM R4 (zA R4 (zN (zR ?_))))));refine ⟨rfl, _, rfl, ?_⟩;refine TO.geq rfl rfl rfl rfl rfl (fun c8 hc8=>zA R4 (zN (zR ?_)));refine ⟨rfl, _, rfl, ?_⟩;refine zA R4 (zN (zR ?_));cases c8 with
   | true =>
    replace hc8 := btrue hc8;exact ⟨rfl, _, rfl, RefN.cast .lit (bv_t (by first | (exfalso; omega) | exact ⟨_, List.mem_of_getElem? ea14, by omega⟩ | (rw [List.take_of_length_le aO] at hall; exact fun ⟨n, h1, h2⟩ => hall n h1 h2)))⟩
   | false =>
    replace hc8 := bfalse hc8;exact ⟨rfl, _, rfl, RefN.cast .lit (bv_f (by first | (exfalso; omega) | exact ⟨_, List.mem_of_getElem? ea14, by omega⟩ | (rw [List.take_of_length_le aO] at hall; exact fun ⟨n, h1, h2⟩ => hall n h1 h2)))⟩
  | false =>
   replace hc7 := bfalse hc7;refine zM R4 (zL 0 R3 R6 (TO.gtr rfl rfl rfl rfl rfl (fun c11 hc11=>zP R6 (zA R4 (zN (zR ?_))))));refine ⟨rfl, _, rfl, ?_⟩;refine zN ?_;cases c11 with
   | true =>
    replace hc11 := btrue hc11;refine zC rfl (zU rfl (zM R4 (zA R4 (zN (zR ?_)))));refine ⟨rfl, _, rfl, ?_⟩;refine TO.geq rfl rfl rfl rfl rfl (fun c8 hc8=>zA R4 (zN (zR ?_)));refine ⟨rfl, _, rfl, ?_⟩;refine zA R4 (zN (zR ?_));cases c8 with
    | true =>
     replace hc8 := btrue hc8;exact ⟨rfl, _, rfl, RefN.cast .lit (bv_t (by first | (exfalso; omega) | exact ⟨_, List.mem_of_getElem? ea14, by omega⟩ | (rw [List.take_of_length_le aO] at hall; exact fun ⟨n, h1, h2⟩ => hall n h1 h2)))⟩
    | false =>
     replace hc8 := bfalse hc8;exact ⟨rfl, _, rfl, RefN.cast .lit (bv_f (by first | (exfalso; omega) | exact ⟨_, List.mem_of_getElem? ea14, by omega⟩ | (rw [List.take_of_length_le aO] at hall; exact fun ⟨n, h1, h2⟩ => hall n h1 h2)))⟩
   | false =>
    replace hc11 := bfalse hc11;refine zD rfl (zK (zT rfl (zV R3 (Val.add rfl rfl aO) (zM R4 (zN ?_)))));refine ⟨_, _, aO, ⟨i + 1, _, rfl, (by first | omega | simp_all), (by first | omega | simp_all), (by rw [take_snoc ea14]; intro n hn; rcases List.mem_append.1 hn with hn | hn; exact hall n hn; simp at hn; subst hn; omega), rfl⟩, ⟨rfl, (keep_cons rfl (keep_cons rfl (keep_cons rfl (keep_cons rfl keep_nil)))), (.cons_cons _ (.cons_cons _ .slnil))⟩⟩
 | false =>
  replace hc9 := bfalse hc9;refine zD rfl (zE (zU rfl (zA R4 (zN (zR ?_)))));refine ⟨rfl, _, rfl, ?_⟩;refine TO.geq rfl rfl rfl rfl rfl (fun c8 hc8=>zA R4 (zN (zR ?_)));refine ⟨rfl, _, rfl, ?_⟩;refine zA R4 (zN (zR ?_));cases c8 with
  | true =>
   replace hc8 := btrue hc8;exact ⟨rfl, _, rfl, RefN.cast .lit (bv_t (by first | (exfalso; omega) | exact ⟨_, List.mem_of_getElem? ea14, by omega⟩ | (rw [List.take_of_length_le aO] at hall; exact fun ⟨n, h1, h2⟩ => hall n h1 h2)))⟩
  | false =>
   replace hc8 := bfalse hc8;exact ⟨rfl, _, rfl, RefN.cast .lit (bv_f (by first | (exfalso; omega) | exact ⟨_, List.mem_of_getElem? ea14, by omega⟩ | (rw [List.take_of_length_le aO] at hall; exact fun ⟨n, h1, h2⟩ => hall n h1 h2)))⟩
theorem c_outside (lo : Int) (hi : Int) (x : GS encI) (hb : x.l.length < 4611686018427387904) : Comes (EL 0) 68 [iv lo, iv hi, x.v] (bv (decide (∃ n ∈ x.l, n < lo ∨ hi < n))) := by
 refine Comes.of (TF.enter (fn := Go.Proofs.Tryz.f68) rfl rfl rfl rfl rfl ?_);refine zU rfl (zQ 1 [_] R7 (fun b3=>zQ 1 [_] R7 (fun b4=>zA R4 (zN (zU rfl (zM R4 (zV R3 (Val.makeFunc rfl rfl) (TO.callIn rfl rfl rfl rfl rfl rfl (orcN rfl) (TF.enter (fn := Go.Proofs.Tryz.f94) rfl rfl rfl rfl rfl (zU rfl (zA R4 (zN (zU rfl (zM R4 (zM R4 (TO.callIn rfl rfl rfl rfl rfl rfl (orcN rfl) (TF.enter (fn := Go.Proofs.Tryz.f114) rfl rfl rfl rfl rfl (zU rfl (zA R4 (zN (zS (zU rfl (zM R4 (zV R3 (Val.len_gs rfl rfl) (zM R4 (zN (zB (T.loop (fun μ s => ∃ i : Nat, ∃ j : Int, μ = x.l.length - i ∧ j = i ∧ i ≤ x.l.length ∧ (∀ n ∈ x.l.take i, ¬ (n < lo ∨ hi < n)) ∧ s = ⟨[], [(0, x.v), (1, .func 95 [] [.ptr b3 0 1, .ptr b4 0 1]), (7, iv (x.l.length : Int)), (8, iv j)], [.row b4 1 [iv hi], .row b3 1 [iv lo]]⟩) (k := _) (s' := _) ⟨0, 0, rfl, (by first | rfl | omega | (simp; done) | (simp; omega) | simp_all), (by first | rfl | omega | (simp; done) | (simp; omega) | simp_all), (by first | rfl | omega | (simp; done) | (simp; omega) | simp_all), rfl⟩ ⟨rfl, (keep_cons rfl (keep_cons rfl (keep_cons rfl (keep_cons rfl keep_nil)))), (.cons_cons _ (.cons_cons _ .slnil))⟩ ?_))))))))))))))))))))))))))));rintro μ _ ⟨i, j, hk0, hj, hil, hall, rfl⟩;subst hj;refine zU rfl (TO.lss rfl rfl rfl rfl rfl (fun c9 hc9=>zN (zS ?_)));cases c9 with
 | true =>
  replace hc9 := btrue hc9;refine zC rfl (zK (zS (zB (zU rfl (zM R4 (zA R4 (zN (zU rfl (zM R4 (zM R4 (zM R4 (TO.index_gs rfl rfl rfl ⟨rfl, rfl⟩ rfl rfl aO (fun a14 ra14 ea14=>?_)))))))))))))
  try simp only [Int.toNat_natCast] at ea14
  refine zV R3 (Val.load_tree ⟨_, rfl, rfl⟩ rfl) (TO.callIn rfl rfl rfl rfl rfl rfl (orcN rfl) (TF.enter (fn := Go.Proofs.Tryz.f95) rfl rfl rfl rfl rfl (zU rfl (zA R4 (zN (zU rfl (zM R4 (zL 1 R3 R6 (TO.lss rfl rfl rfl rfl rfl (fun c7 hc7=>zM R4 ?_))))))))));cases c7 with
  | true =>
   replace hc7 := btrue hc7;refine zO R3 (zO R3 (zO R3 (zP R6 (zA R4 (zN (zR ?_))))));refine ⟨rfl, _, rfl, ?_⟩;refine zN (zC rfl (zU rfl (zM R4 (zA R4 (zN (zR ?_))))));refine ⟨rfl, _, rfl, ?_⟩;refine TO.geq rfl rfl rfl rfl rfl (fun c8 hc8=>zA R4 (zN (zR ?_)));refine ⟨rfl, _, rfl, ?_⟩;refine zA R4 (zN (zR ?_));cases c8 with
   | true =>
    replace hc8 := btrue hc8;exact ⟨rfl, _, rfl, RefN.cast .lit (bv_t (by first | (exfalso; omega) | exact ⟨_, List.mem_of_getElem? ea14, by omega⟩ | (rw [List.take_of_length_le aO] at hall; exact fun ⟨n, h1, h2⟩ => hall n h1 h2)))⟩
   | false =>
    replace hc8 := bfalse hc8;exact ⟨rfl, _, rfl, RefN.cast .lit (bv_f (by first | (exfalso; omega) | exact ⟨_, List.mem_of_getElem? ea14, by omega⟩ | (rw [List.take_of_length_le aO] at hall; exact fun ⟨n, h1, h2⟩ => hall n h1 h2)))⟩
  | false =>
   replace hc7 := bfalse hc7;refine zM R4 (zL 0 R3 R6 (TO.gtr rfl rfl rfl rfl rfl (fun c11 hc11=>zP R6 (zA R4 (zN (zR ?_))))));refine ⟨rfl, _, rfl, ?_⟩;refine zN ?_;cases c11 with
   | true =>
    replace hc11 := btrue hc11;refine zC rfl (zU rfl (zM R4 (zA R4 (zN (zR ?_)))));refine ⟨rfl, _, rfl, ?_⟩;refine TO.geq rfl rfl rfl rfl rfl (fun c8 hc8=>zA R4 (zN (zR ?_)));refine ⟨rfl, _, rfl, ?_⟩;refine zA R4 (zN (zR ?_));cases c8 with
    | true =>
     replace hc8 := btrue hc8;exact ⟨rfl, _, rfl, RefN.cast .lit (bv_t (by first | (exfalso; omega) | exact ⟨_, List.mem_of_getElem? ea14, by omega⟩ | (rw [List.take_of_length_le aO] at hall; exact fun ⟨n, h1, h2⟩ => hall n h1 h2)))⟩
    | false =>
     replace hc8 := bfalse hc8;exact ⟨rfl, _, rfl, RefN.cast .lit (bv_f (by first | (exfalso; omega) | exact ⟨_, List.mem_of_getElem? ea14, by omega⟩ | (rw [List.take_of_length_le aO] at hall; exact fun ⟨n, h1, h2⟩ => hall n h1 h2)))⟩
   | false =>
    replace hc11 := bfalse hc11;refine zD rfl (zK (zT rfl (zV R3 (Val.add rfl rfl aO) (zM R4 (zN ?_)))));refine ⟨_, _, aO, ⟨i + 1, _, rfl, (by first | omega | simp_all), (by first | omega | simp_all), (by rw [take_snoc ea14]; intro n hn; rcases List.mem_append.1 hn with hn | hn; exact hall n hn; simp at hn; subst hn; omega), rfl⟩, ⟨rfl, (keep_cons rfl (keep_cons rfl (keep_cons rfl (keep_cons rfl keep_nil)))), (.cons_cons _ (.cons_cons _ .slnil))⟩⟩
 | false =>
  replace hc9 := bfalse hc9;refine zD rfl (zE (zU rfl (zA R4 (zN (zR ?_)))));refine ⟨rfl, _, rfl, ?_⟩;refine TO.geq rfl rfl rfl rfl rfl (fun c8 hc8=>zA R4 (zN (zR ?_)));refine ⟨rfl, _, rfl, ?_⟩;refine zA R4 (zN (zR ?_));cases c8 with
  | true =>
   replace hc8 := btrue hc8;exact ⟨rfl, _, rfl, RefN.cast .lit (bv_t (by first | (exfalso; omega) | exact ⟨_, List.mem_of_getElem? ea14, by omega⟩ | (rw [List.take_of_length_le aO] at hall; exact fun ⟨n, h1, h2⟩ => hall n h1 h2)))⟩
  | false =>
   replace hc8 := bfalse hc8;exact ⟨rfl, _, rfl, RefN.cast .lit (bv_f (by first | (exfalso; omega) | exact ⟨_, List.mem_of_getElem? ea14, by omega⟩ | (rw [List.take_of_length_le aO] at hall; exact fun ⟨n, h1, h2⟩ => hall n h1 h2)))⟩
theorem q_lettered (s : Sg)  : Comes (EL 0) 86 [.agg (encS.f s)] (bv (decide (s.letter < 23))) := by
 refine Comes.of (TF.enter (fn := Go.Proofs.Tryz.f86) rfl rfl rfl rfl rfl ?_);refine zU rfl (zQ 2 [_,_] R7 (fun b1=>zA R4 (zN (zU rfl (zF 1 R6 (zL 0 R3 R6 (TO.lss rfl rfl rfl rfl rfl (fun c5 hc5=>zA R4 (zN (zR ?_))))))))));cases c5 with
 | true =>
  replace hc5 := btrue hc5;exact ⟨rfl, _, rfl, RefN.cast .lit (bv_t (by assumption))⟩
 | false =>
  replace hc5 := bfalse hc5;exact ⟨rfl, _, rfl, RefN.cast .lit (bv_f (by assumption))⟩
theorem q_before (a : Sg) (b : Sg)  : Comes (EL 0) 87 [.agg (encS.f a), .agg (encS.f b)] (bv (decide (a.round < b.round ∨ a.round = b.round ∧ a.letter < b.letter))) := by
 refine Comes.of (TF.enter (fn := Go.Proofs.Tryz.f87) rfl rfl rfl rfl rfl ?_);refine zU rfl (zQ 2 [_,_] R7 (fun b2=>zQ 2 [_,_] R7 (fun b3=>zA R4 (zN (zU rfl (zF 0 R6 (zL 1 R3 R6 (zF 0 R6 (zL 0 R3 R6 (TO.lss rfl rfl rfl rfl rfl (fun c9 hc9=>zM R4 ?_)))))))))));cases c9 with
 | true =>
  replace hc9 := btrue hc9;refine zO R3 (zO R3 (zO R3 (zO R3 (zO R3 (zO R3 (zO R3 (zO R3 (zO R3 (zO R3 (zO R3 (zO R3 (zP R6 (zA R4 (zN (zR ?_)))))))))))))));exact ⟨rfl, _, rfl, RefN.cast .lit (bv_t aO)⟩
 | false =>
  replace hc9 := bfalse hc9;refine zF 0 R6 (zL 1 R3 R6 (zF 0 R6 (zL 0 R3 R6 (TO.eql rfl rfl rfl rfl rfl (fun c15 hc15=>zM R4 ?_)))));cases c15 with
  | true =>
   replace hc15 := btrue hc15;refine zF 1 R6 (zL 1 R3 R6 (zF 1 R6 (zL 0 R3 R6 (TO.lss rfl rfl rfl rfl rfl (fun c21 hc21=>zP R6 (zP R6 (zA R4 (zN (zR ?_)))))))));cases c21 with
   | true =>
    replace hc21 := btrue hc21;exact ⟨rfl, _, rfl, RefN.cast .lit (bv_t aO)⟩
   | false =>
    replace hc21 := bfalse hc21;exact ⟨rfl, _, rfl, RefN.cast .lit (bv_f aO)⟩
  | false =>
   replace hc15 := bfalse hc15;refine zO R3 (zO R3 (zO R3 (zO R3 (zO R3 (zP R6 (zP R6 (zA R4 (zN (zR ?_)))))))));exact ⟨rfl, _, rfl, RefN.cast .lit (bv_f aO)⟩
end Go.Am.YthckcbfijdambaaGreat
end
section
namespace Go.Am.YthckcbfijdambaaGreat
open Go.Am Go.RowKit
set_option linter.unusedVariables false
set_option linter.unusedSimpArgs false
theorem q_none (s : Sg)  : Comes (EL 1) 85 [.agg (encS.f s)] (bv (decide (¬ sigOk s))) := by
 refine Comes.of (TF.enter (fn := Go.Proofs.Tryz.f85) rfl rfl rfl rfl rfl ?_);refine zU rfl (zQ 2 [_,_] R7 (fun b1=>zA R4 (zN (zU rfl (zF 0 R6 (zL 0 R3 R6 (TO.build1 (en := encI) (a := _) rfl rfl rfl ⟨rfl, rfl⟩ ⟨_, rfl, rfl⟩ (by decide) (by decide) rfl rfl (fun v5=>TO.callD rfl rfl rfl rfl rfl (orcL rfl aD) (.cons .lit (.cons .lit (.cons (.ownL (p := 0) rfl .ints) .nil))) (sem_of (q_out _ _ _ (by exact out1_small))) (fun c6 hc6=>?_)))))))));replace hc6 := out1 hc6;refine zM R4 ?_;cases c6 with
 | true =>
  replace hc6 := btrue hc6;refine zO R3 (zO R3 (zO R3 (zO R3 (zP R6 (zA R4 (zN (zR ?_)))))));exact ⟨rfl, _, rfl, RefN.cast .lit (bv_t (by unfold sigOk inR; omega))⟩
 | false =>
  replace hc6 := bfalse hc6;refine zF 1 R6 (zL 1 R3 R6 (TO.build1 (en := encI) (a := _) rfl rfl rfl ⟨rfl, rfl⟩ ⟨_, rfl, rfl⟩ (by decide) (by decide) rfl rfl (fun v10=>TO.callD rfl rfl rfl rfl rfl (orcL rfl aD) (.cons .lit (.cons .lit (.cons (.ownL (p := 0) rfl .ints) .nil))) (sem_of (q_out _ _ _ (by exact out1_small))) (fun c11 hc11=>?_))));replace hc11 := out1 hc11;refine zP R6 (zA R4 (zN (zR ?_)));cases c11 with
  | true =>
   replace hc11 := btrue hc11;exact ⟨rfl, _, rfl, RefN.cast .lit (bv_t (by unfold sigOk inR; omega))⟩
  | false =>
   replace hc11 := bfalse hc11;exact ⟨rfl, _, rfl, RefN.cast .lit (bv_f (by unfold sigOk inR; omega))⟩
theorem q_chg {k bg : Nat} (hk : 1 ≤ k) (g : Gat) (i : Nat) (c : Chg) (C : List Thing) (hi : g.ch.l[i]? = some c) (hb : g.ch.l.length ≤ 4) :
  TF (EL k) 89 [iv (i : Int), .agg (encC.f c), .ptr bg 0 4] (.row bg 4 [iv g.round, iv g.letter, iv g.leaves, g.ch.v] :: C) fun v hs' => v = iv (chgErr g.leaves c (if i = 0 then none else g.ch.l[i - 1]?)) ∧ hs' = .row bg 4 [iv g.round, iv g.letter, iv g.leaves, g.ch.v] :: C := by
 have hlt := (List.getElem?_eq_some_iff.1 hi).1;refine TF.enter (fn := Go.Proofs.Tryz.f89) rfl rfl rfl rfl rfl (zU rfl (zQ 3 [_,_,_] R7 (fun b4=>zA R4 (zN (zU rfl (zA R4 (zA R4 (zN (zS (zU rfl (zV R3 (vW 0 [_,_,_] R5 R4) (TO.callIn rfl rfl rfl rfl rfl rfl (orcN rfl) (TF.enter (fn := Go.Proofs.Tryz.f90) rfl rfl rfl rfl rfl (zU rfl (zQ 3 [_,_,_] R7 (fun b1=>zA R4 (zN (zS (zU rfl (zF 0 R6 (zL 0 R3 R6 (zN (zB (zU rfl (TO.eql rfl rfl rfl rfl rfl (fun c6 hc6=>zA R4 (zN ?_)))))))))))))))))))))))))));cases c6 with
 | true =>
  replace hc6 := btrue hc6;refine zC rfl (zU rfl (zF 1 R6 (zL 0 R3 R6 (zV R3 (Val.build (cs := [_]) (vs := [(_, _)]) rfl rfl rfl) (zV R3 (Val.makeIface rfl rfl rfl) (zA R4 (zN (zR ?_))))))));refine ⟨rfl, _, rfl, ?_⟩;refine zN (zB (zU rfl (zV R3 (Val.bin (r := bv false) rfl rfl (by kernel_rfl)) (zN (zD rfl (zU rfl (zV R3 (Val.assert_no rfl rfl rfl rfl rfl) (zX R5 (zX R5 (zN (zD rfl (zK (zS (zU rfl (zM R4 (zF 2 R6 (zL 2 R3 R6 (zF 1 R6 (zL 1 R3 R6 (TO.build1 (en := encI) (a := _) rfl rfl rfl ⟨rfl, rfl⟩ ⟨_, rfl, rfl⟩ (by decide) (by decide) rfl rfl (fun v20=>TO.callD rfl rfl rfl rfl rfl (orcL rfl aD) (.cons .lit (.cons .lit (.cons (.ownL (p := 0) rfl .ints) .nil))) (sem_of (q_out _ _ _ (by exact out1_small))) (fun c21 hc21=>?_))))))))))))))))))))));replace hc21 := out1 hc21;refine zM R4 ?_;cases c21 with
  | true =>
   replace hc21 := btrue hc21;refine zO R3 (zO R3 (zO R3 (zO R3 (zO R3 (zO R3 (zO R3 (zP R6 (zN (zC rfl (zU rfl (zA R4 (zN (T.keep (s' := ⟨[], [(5, _)], _ :: C⟩) (sc (.cons _ (.cons _ (.cons _ (.cons_cons _ (.refl _)))))) (zR ?_))))))))))))));exact ⟨rfl, _, rfl, congrArg iv (by first | (simp_all [chgErr, inR]; done) | (simp_all [chgErr, inR]; omega)), rfl⟩
  | false =>
   replace hc21 := bfalse hc21;refine zM R4 (TO.bmin rfl rfl rfl rfl rfl (zM R4 (zF 2 R6 (zL 2 R3 R6 (TO.build1 (en := encI) (a := _) rfl rfl rfl ⟨rfl, rfl⟩ ⟨_, rfl, rfl⟩ (by decide) (by decide) rfl rfl (fun v28=>TO.callD rfl rfl rfl rfl rfl (orcL rfl aD) (.cons .lit (.cons .lit (.cons (.ownL (p := 0) rfl .ints) .nil))) (sem_of (q_out _ _ _ (by exact out1_small))) (fun c29 hc29=>?_)))))));replace hc29 := out1 hc29;refine zP R6 (zN ?_);cases c29 with
   | true =>
    replace hc29 := btrue hc29;refine zC rfl (zU rfl (zA R4 (zN (T.keep (s' := ⟨[], [(5, _)], _ :: C⟩) (sc (.cons _ (.cons _ (.cons _ (.cons _ (.cons_cons _ (.refl _))))))) (zR ?_)))));exact ⟨rfl, _, rfl, congrArg iv (by first | (simp_all [chgErr, inR]; done) | (simp_all [chgErr, inR]; omega)), rfl⟩
   | false =>
    replace hc29 := bfalse hc29;refine zD rfl (zK (zS (zU rfl (zM R4 (TO.gtr rfl rfl rfl rfl rfl (fun c32 hc32=>zN ?_))))));cases c32 with
    | true =>
     replace hc32 := btrue hc32
     have hi0 : ¬ i = 0 := by omega
     refine zC rfl (zU rfl (zF 3 R6 (zL 4 R3 R6 (zM R4 (zV R3 (Val.sub rfl rfl aO) (TO.index_gs rfl rfl rfl ⟨rfl, rfl⟩ rfl rfl aO (fun a37 ra37 ea37=>?_)))))))
     try simp only [Int.toNat_natCast] at ea37
     have e37 : ((i : Int) - 1).toNat = i - 1 := by omega
     rw [e37] at ea37;refine zV R3 (Val.load_trees (c := _) ⟨⟨_, rfl, rfl⟩, rfl, by decide⟩ rfl rfl) (zJ 3 [_,_,_] R7 (fun b8=>TO.store_row (p := 0) (cv := [_, _, _]) (cells' := [_, _, _]) rfl rfl rfl rfl rfl rfl rfl rfl rfl rfl (by first | rfl | simp [GS.one]) (by decide) rfl (zG (_::_::_::_::_::_::C) rfl (zN (zU rfl (zF 1 R6 (zL 4 R3 R6 (zF 1 R6 (zL 0 R3 R6 (TO.lss rfl rfl rfl rfl rfl (fun c43 hc43=>zM R4 ?_)))))))))));cases c43 with
     | true =>
      replace hc43 := btrue hc43;refine zO R3 (zO R3 (zO R3 (zO R3 (zO R3 (zO R3 (zO R3 (zO R3 (zO R3 (zO R3 (zO R3 (zO R3 (zO R3 (zO R3 (zO R3 (zP R6 (zN (zC rfl (zU rfl (zA R4 (zN (T.keep (s' := ⟨[], [(5, _)], _ :: C⟩) (sc (.cons _ (.cons _ (.cons _ (.cons _ (.cons _ (.cons_cons _ (.refl _)))))))) (zR ?_))))))))))))))))))))));exact ⟨rfl, _, rfl, congrArg iv (by first | (simp_all [chgErr, inR]; done) | (simp_all [chgErr, inR]; omega)), rfl⟩
     | false =>
      replace hc43 := bfalse hc43;refine zF 1 R6 (zL 4 R3 R6 (zF 1 R6 (zL 0 R3 R6 (TO.eql rfl rfl rfl rfl rfl (fun c49 hc49=>zM R4 ?_)))));cases c49 with
      | true =>
       replace hc49 := btrue hc49;refine zF 0 R6 (zL 4 R3 R6 (TO.neq rfl rfl rfl rfl rfl (fun c53 hc53=>zM R4 ?_)));cases c53 with
       | true =>
        replace hc53 := btrue hc53;refine zO R3 (zO R3 (zO R3 (zP R6 (zP R6 (zP R6 (zN (zC rfl (zU rfl (zA R4 (zN (T.keep (s' := ⟨[], [(5, _)], _ :: C⟩) (sc (.cons _ (.cons _ (.cons _ (.cons _ (.cons _ (.cons_cons _ (.refl _)))))))) (zR ?_))))))))))));exact ⟨rfl, _, rfl, congrArg iv (by first | (simp_all [chgErr, inR]; done) | (simp_all [chgErr, inR]; omega)), rfl⟩
       | false =>
        replace hc53 := bfalse hc53;refine zF 0 R6 (zL 0 R3 R6 (TO.eql rfl rfl rfl rfl rfl (fun c57 hc57=>zP R6 (zP R6 (zP R6 (zN ?_))))));cases c57 with
        | true =>
         replace hc57 := btrue hc57;refine zC rfl (zU rfl (zA R4 (zN (T.keep (s' := ⟨[], [(5, _)], _ :: C⟩) (sc (.cons _ (.cons _ (.cons _ (.cons _ (.cons _ (.cons_cons _ (.refl _)))))))) (zR ?_)))));exact ⟨rfl, _, rfl, congrArg iv (by first | (simp_all [chgErr, inR]; done) | (simp_all [chgErr, inR]; omega)), rfl⟩
        | false =>
         replace hc57 := bfalse hc57;refine zD rfl (zK (zU rfl (zA R4 (zN (T.keep (s' := ⟨[], [(5, _)], _ :: C⟩) (sc (.cons _ (.cons _ (.cons _ (.cons _ (.cons _ (.cons_cons _ (.refl _)))))))) (zR ?_))))));exact ⟨rfl, _, rfl, congrArg iv (by first | (simp_all [chgErr, inR]; done) | (simp_all [chgErr, inR]; omega)), rfl⟩
      | false =>
       replace hc49 := bfalse hc49;refine zO R3 (zO R3 (zO R3 (zO R3 (zO R3 (zO R3 (zO R3 (zO R3 (zP R6 (zP R6 (zN (zD rfl (zK (zU rfl (zA R4 (zN (T.keep (s' := ⟨[], [(5, _)], _ :: C⟩) (sc (.cons _ (.cons _ (.cons _ (.cons _ (.cons _ (.cons_cons _ (.refl _)))))))) (zR ?_)))))))))))))))));exact ⟨rfl, _, rfl, congrArg iv (by first | (simp_all [chgErr, inR]; done) | (simp_all [chgErr, inR]; omega)), rfl⟩
    | false =>
     replace hc32 := bfalse hc32
     have hi0 : i = 0 := by omega
     refine zD rfl (zK (zU rfl (zA R4 (zN (T.keep (s' := ⟨[], [(5, _)], _ :: C⟩) (sc (.cons _ (.cons _ (.cons _ (.cons _ (.cons_cons _ (.refl _))))))) (zR ?_))))));exact ⟨rfl, _, rfl, congrArg iv (by first | (simp_all [chgErr, inR]; done) | (simp_all [chgErr, inR]; omega)), rfl⟩
 | false =>
  replace hc6 := bfalse hc6;refine zD rfl (zU rfl (TO.eql rfl rfl rfl rfl rfl (fun c12 hc12=>zA R4 (zN ?_))));cases c12 with
  | true =>
   replace hc12 := btrue hc12;refine zC rfl (zU rfl (zF 1 R6 (zL 0 R3 R6 (zV R3 (Val.build (cs := [_]) (vs := [(_, _)]) rfl rfl rfl) (zV R3 (Val.makeIface rfl rfl rfl) (zA R4 (zN (zR ?_))))))));refine ⟨rfl, _, rfl, ?_⟩;refine zN (zB (zU rfl (zV R3 (Val.bin (r := bv false) rfl rfl (by kernel_rfl)) (zN (zD rfl (zU rfl (zV R3 (Val.assert_no rfl rfl rfl rfl rfl) (zX R5 (zX R5 (zN (zD rfl (zK (zS (zU rfl (zM R4 (zF 2 R6 (zL 2 R3 R6 (zF 1 R6 (zL 1 R3 R6 (TO.build1 (en := encI) (a := _) rfl rfl rfl ⟨rfl, rfl⟩ ⟨_, rfl, rfl⟩ (by decide) (by decide) rfl rfl (fun v20=>TO.callD rfl rfl rfl rfl rfl (orcL rfl aD) (.cons .lit (.cons .lit (.cons (.ownL (p := 0) rfl .ints) .nil))) (sem_of (q_out _ _ _ (by exact out1_small))) (fun c21 hc21=>?_))))))))))))))))))))));replace hc21 := out1 hc21;refine zM R4 ?_;cases c21 with
   | true =>
    replace hc21 := btrue hc21;refine zO R3 (zO R3 (zO R3 (zO R3 (zO R3 (zO R3 (zO R3 (zP R6 (zN (zC rfl (zU rfl (zA R4 (zN (T.keep (s' := ⟨[], [(5, _)], _ :: C⟩) (sc (.cons _ (.cons _ (.cons _ (.cons_cons _ (.refl _)))))) (zR ?_))))))))))))));exact ⟨rfl, _, rfl, congrArg iv (by first | (simp_all [chgErr, inR]; done) | (simp_all [chgErr, inR]; omega)), rfl⟩
   | false =>
    replace hc21 := bfalse hc21;refine zM R4 (TO.bmin rfl rfl rfl rfl rfl (zM R4 (zF 2 R6 (zL 2 R3 R6 (TO.build1 (en := encI) (a := _) rfl rfl rfl ⟨rfl, rfl⟩ ⟨_, rfl, rfl⟩ (by decide) (by decide) rfl rfl (fun v28=>TO.callD rfl rfl rfl rfl rfl (orcL rfl aD) (.cons .lit (.cons .lit (.cons (.ownL (p := 0) rfl .ints) .nil))) (sem_of (q_out _ _ _ (by exact out1_small))) (fun c29 hc29=>?_)))))));replace hc29 := out1 hc29;refine zP R6 (zN ?_);cases c29 with
    | true =>
     replace hc29 := btrue hc29;refine zC rfl (zU rfl (zA R4 (zN (T.keep (s' := ⟨[], [(5, _)], _ :: C⟩) (sc (.cons _ (.cons _ (.cons _ (.cons _ (.cons_cons _ (.refl _))))))) (zR ?_)))));exact ⟨rfl, _, rfl, congrArg iv (by first | (simp_all [chgErr, inR]; done) | (simp_all [chgErr, inR]; omega)), rfl⟩
    | false =>
     replace hc29 := bfalse hc29;refine zD rfl (zK (zS (zU rfl (zM R4 (TO.gtr rfl rfl rfl rfl rfl (fun c32 hc32=>zN ?_))))));cases c32 with
     | true =>
      replace hc32 := btrue hc32
      have hi0 : ¬ i = 0 := by omega
      refine zC rfl (zU rfl (zF 3 R6 (zL 4 R3 R6 (zM R4 (zV R3 (Val.sub rfl rfl aO) (TO.index_gs rfl rfl rfl ⟨rfl, rfl⟩ rfl rfl aO (fun a37 ra37 ea37=>?_)))))))
      try simp only [Int.toNat_natCast] at ea37
      have e37 : ((i : Int) - 1).toNat = i - 1 := by omega
      rw [e37] at ea37;refine zV R3 (Val.load_trees (c := _) ⟨⟨_, rfl, rfl⟩, rfl, by decide⟩ rfl rfl) (zJ 3 [_,_,_] R7 (fun b8=>TO.store_row (p := 0) (cv := [_, _, _]) (cells' := [_, _, _]) rfl rfl rfl rfl rfl rfl rfl rfl rfl rfl (by first | rfl | simp [GS.one]) (by decide) rfl (zG (_::_::_::_::_::_::C) rfl (zN (zU rfl (zF 1 R6 (zL 4 R3 R6 (zF 1 R6 (zL 0 R3 R6 (TO.lss rfl rfl rfl rfl rfl (fun c43 hc43=>zM R4 ?_)))))))))));cases c43 with
      | true =>
       replace hc43 := btrue hc43;refine zO R3 (zO R3 (zO R3 (zO R3 (zO R3 (zO R3 (zO R3 (zO R3 (zO R3 (zO R3 (zO R3 (zO R3 (zO R3 (zO R3 (zO R3 (zP R6 (zN (zC rfl (zU rfl (zA R4 (zN (T.keep (s' := ⟨[], [(5, _)], _ :: C⟩) (sc (.cons _ (.cons _ (.cons _ (.cons _ (.cons _ (.cons_cons _ (.refl _)))))))) (zR ?_))))))))))))))))))))));exact ⟨rfl, _, rfl, congrArg iv (by first | (simp_all [chgErr, inR]; done) | (simp_all [chgErr, inR]; omega)), rfl⟩
      | false =>
       replace hc43 := bfalse hc43;refine zF 1 R6 (zL 4 R3 R6 (zF 1 R6 (zL 0 R3 R6 (TO.eql rfl rfl rfl rfl rfl (fun c49 hc49=>zM R4 ?_)))));cases c49 with
       | true =>
        replace hc49 := btrue hc49;refine zF 0 R6 (zL 4 R3 R6 (TO.neq rfl rfl rfl rfl rfl (fun c53 hc53=>zM R4 ?_)));cases c53 with
        | true =>
         replace hc53 := btrue hc53;refine zO R3 (zO R3 (zO R3 (zP R6 (zP R6 (zP R6 (zN (zC rfl (zU rfl (zA R4 (zN (T.keep (s' := ⟨[], [(5, _)], _ :: C⟩) (sc (.cons _ (.cons _ (.cons _ (.cons _ (.cons _ (.cons_cons _ (.refl _)))))))) (zR ?_))))))))))));exact ⟨rfl, _, rfl, congrArg iv (by first | (simp_all [chgErr, inR]; done) | (simp_all [chgErr, inR]; omega)), rfl⟩
        | false =>
         replace hc53 := bfalse hc53;refine zF 0 R6 (zL 0 R3 R6 (TO.eql rfl rfl rfl rfl rfl (fun c57 hc57=>zP R6 (zP R6 (zP R6 (zN ?_))))));cases c57 with
         | true =>
          replace hc57 := btrue hc57;refine zC rfl (zU rfl (zA R4 (zN (T.keep (s' := ⟨[], [(5, _)], _ :: C⟩) (sc (.cons _ (.cons _ (.cons _ (.cons _ (.cons _ (.cons_cons _ (.refl _)))))))) (zR ?_)))));exact ⟨rfl, _, rfl, congrArg iv (by first | (simp_all [chgErr, inR]; done) | (simp_all [chgErr, inR]; omega)), rfl⟩
         | false =>
          replace hc57 := bfalse hc57;refine zD rfl (zK (zU rfl (zA R4 (zN (T.keep (s' := ⟨[], [(5, _)], _ :: C⟩) (sc (.cons _ (.cons _ (.cons _ (.cons _ (.cons _ (.cons_cons _ (.refl _)))))))) (zR ?_))))));exact ⟨rfl, _, rfl, congrArg iv (by first | (simp_all [chgErr, inR]; done) | (simp_all [chgErr, inR]; omega)), rfl⟩
       | false =>
        replace hc49 := bfalse hc49;refine zO R3 (zO R3 (zO R3 (zO R3 (zO R3 (zO R3 (zO R3 (zO R3 (zP R6 (zP R6 (zN (zD rfl (zK (zU rfl (zA R4 (zN (T.keep (s' := ⟨[], [(5, _)], _ :: C⟩) (sc (.cons _ (.cons _ (.cons _ (.cons _ (.cons _ (.cons_cons _ (.refl _)))))))) (zR ?_)))))))))))))))));exact ⟨rfl, _, rfl, congrArg iv (by first | (simp_all [chgErr, inR]; done) | (simp_all [chgErr, inR]; omega)), rfl⟩
     | false =>
      replace hc32 := bfalse hc32
      have hi0 : i = 0 := by omega
      refine zD rfl (zK (zU rfl (zA R4 (zN (T.keep (s' := ⟨[], [(5, _)], _ :: C⟩) (sc (.cons _ (.cons _ (.cons _ (.cons _ (.cons_cons _ (.refl _))))))) (zR ?_))))));exact ⟨rfl, _, rfl, congrArg iv (by first | (simp_all [chgErr, inR]; done) | (simp_all [chgErr, inR]; omega)), rfl⟩
  | false =>
   replace hc12 := bfalse hc12;refine zD rfl (zU rfl (TO.eql rfl rfl rfl rfl rfl (fun c18 hc18=>zA R4 (zN ?_))));cases c18 with
   | true =>
    replace hc18 := btrue hc18;refine zC rfl (zU rfl (zF 1 R6 (zL 0 R3 R6 (zF 2 R6 (zL 0 R3 R6 (zV R3 (Val.build (cs := [_, _]) (vs := [(_, _), (_, _)]) rfl rfl rfl) (zV R3 (Val.makeIface rfl rfl rfl) (zA R4 (zN (zR ?_))))))))));refine ⟨rfl, _, rfl, ?_⟩;refine zN (zB (zU rfl (zV R3 (Val.bin (r := bv false) rfl rfl (by kernel_rfl)) (zN (zD rfl (zU rfl (zV R3 (Val.assert_yes rfl rfl rfl rfl) (zX R5 (zX R5 (zN (zC rfl (zT rfl (zA R4 (zA R4 (zN (zS (zU rfl (zM R4 (zF 2 R6 (zL 2 R3 R6 (zF 1 R6 (zL 1 R3 R6 (TO.build1 (en := encI) (a := _) rfl rfl rfl ⟨rfl, rfl⟩ ⟨_, rfl, rfl⟩ (by decide) (by decide) rfl rfl (fun v20=>TO.callD rfl rfl rfl rfl rfl (orcL rfl aD) (.cons .lit (.cons .lit (.cons (.ownL (p := 0) rfl .ints) .nil))) (sem_of (q_out _ _ _ (by exact out1_small))) (fun c21 hc21=>?_)))))))))))))))))))))))));replace hc21 := out1 hc21;refine zM R4 ?_;cases c21 with
    | true =>
     replace hc21 := btrue hc21;refine zO R3 (zO R3 (zO R3 (zO R3 (zO R3 (zO R3 (zO R3 (zP R6 (zN (zC rfl (zU rfl (zA R4 (zN (T.keep (s' := ⟨[], [(5, _)], _ :: C⟩) (sc (.cons _ (.cons _ (.cons _ (.cons_cons _ (.refl _)))))) (zR ?_))))))))))))));exact ⟨rfl, _, rfl, congrArg iv (by first | (simp_all [chgErr, inR]; done) | (simp_all [chgErr, inR]; omega)), rfl⟩
    | false =>
     replace hc21 := bfalse hc21;refine zM R4 (TO.bmin rfl rfl rfl rfl rfl (zM R4 (zF 2 R6 (zL 2 R3 R6 (TO.build1 (en := encI) (a := _) rfl rfl rfl ⟨rfl, rfl⟩ ⟨_, rfl, rfl⟩ (by decide) (by decide) rfl rfl (fun v28=>TO.callD rfl rfl rfl rfl rfl (orcL rfl aD) (.cons .lit (.cons .lit (.cons (.ownL (p := 0) rfl .ints) .nil))) (sem_of (q_out _ _ _ (by exact out1_small))) (fun c29 hc29=>?_)))))));replace hc29 := out1 hc29;refine zP R6 (zN ?_);cases c29 with
     | true =>
      replace hc29 := btrue hc29;refine zC rfl (zU rfl (zA R4 (zN (T.keep (s' := ⟨[], [(5, _)], _ :: C⟩) (sc (.cons _ (.cons _ (.cons _ (.cons _ (.cons_cons _ (.refl _))))))) (zR ?_)))));exact ⟨rfl, _, rfl, congrArg iv (by first | (simp_all [chgErr, inR]; done) | (simp_all [chgErr, inR]; omega)), rfl⟩
     | false =>
      replace hc29 := bfalse hc29;refine zD rfl (zK (zS (zU rfl (zM R4 (TO.gtr rfl rfl rfl rfl rfl (fun c32 hc32=>zN ?_))))));cases c32 with
      | true =>
       replace hc32 := btrue hc32
       have hi0 : ¬ i = 0 := by omega
       refine zC rfl (zU rfl (zF 3 R6 (zL 4 R3 R6 (zM R4 (zV R3 (Val.sub rfl rfl aO) (TO.index_gs rfl rfl rfl ⟨rfl, rfl⟩ rfl rfl aO (fun a37 ra37 ea37=>?_)))))))
       try simp only [Int.toNat_natCast] at ea37
       have e37 : ((i : Int) - 1).toNat = i - 1 := by omega
       rw [e37] at ea37;refine zV R3 (Val.load_trees (c := _) ⟨⟨_, rfl, rfl⟩, rfl, by decide⟩ rfl rfl) (zJ 3 [_,_,_] R7 (fun b8=>TO.store_row (p := 0) (cv := [_, _, _]) (cells' := [_, _, _]) rfl rfl rfl rfl rfl rfl rfl rfl rfl rfl (by first | rfl | simp [GS.one]) (by decide) rfl (zG (_::_::_::_::_::_::C) rfl (zN (zU rfl (zF 1 R6 (zL 4 R3 R6 (zF 1 R6 (zL 0 R3 R6 (TO.lss rfl rfl rfl rfl rfl (fun c43 hc43=>zM R4 ?_)))))))))));cases c43 with
       | true =>
        replace hc43 := btrue hc43;refine zO R3 (zO R3 (zO R3 (zO R3 (zO R3 (zO R3 (zO R3 (zO R3 (zO R3 (zO R3 (zO R3 (zO R3 (zO R3 (zO R3 (zO R3 (zP R6 (zN (zC rfl (zU rfl (zA R4 (zN (T.keep (s' := ⟨[], [(5, _)], _ :: C⟩) (sc (.cons _ (.cons _ (.cons _ (.cons _ (.cons _ (.cons_cons _ (.refl _)))))))) (zR ?_))))))))))))))))))))));exact ⟨rfl, _, rfl, congrArg iv (by first | (simp_all [chgErr, inR]; done) | (simp_all [chgErr, inR]; omega)), rfl⟩
       | false =>
        replace hc43 := bfalse hc43;refine zF 1 R6 (zL 4 R3 R6 (zF 1 R6 (zL 0 R3 R6 (TO.eql rfl rfl rfl rfl rfl (fun c49 hc49=>zM R4 ?_)))));cases c49 with
        | true =>
         replace hc49 := btrue hc49;refine zF 0 R6 (zL 4 R3 R6 (TO.neq rfl rfl rfl rfl rfl (fun c53 hc53=>zM R4 ?_)));cases c53 with
         | true =>
          replace hc53 := btrue hc53;refine zO R3 (zO R3 (zO R3 (zP R6 (zP R6 (zP R6 (zN (zC rfl (zU rfl (zA R4 (zN (T.keep (s' := ⟨[], [(5, _)], _ :: C⟩) (sc (.cons _ (.cons _ (.cons _ (.cons _ (.cons _ (.cons_cons _ (.refl _)))))))) (zR ?_))))))))))));exact ⟨rfl, _, rfl, congrArg iv (by first | (simp_all [chgErr, inR]; done) | (simp_all [chgErr, inR]; omega)), rfl⟩
         | false =>
          replace hc53 := bfalse hc53;refine zF 0 R6 (zL 0 R3 R6 (TO.eql rfl rfl rfl rfl rfl (fun c57 hc57=>zP R6 (zP R6 (zP R6 (zN ?_))))));cases c57 with
          | true =>
           replace hc57 := btrue hc57;refine zC rfl (zU rfl (zA R4 (zN (T.keep (s' := ⟨[], [(5, _)], _ :: C⟩) (sc (.cons _ (.cons _ (.cons _ (.cons _ (.cons _ (.cons_cons _ (.refl _)))))))) (zR ?_)))));exact ⟨rfl, _, rfl, congrArg iv (by first | (simp_all [chgErr, inR]; done) | (simp_all [chgErr, inR]; omega)), rfl⟩
          | false =>
           replace hc57 := bfalse hc57;refine zD rfl (zK (zU rfl (zA R4 (zN (T.keep (s' := ⟨[], [(5, _)], _ :: C⟩) (sc (.cons _ (.cons _ (.cons _ (.cons _ (.cons _ (.cons_cons _ (.refl _)))))))) (zR ?_))))));exact ⟨rfl, _, rfl, congrArg iv (by first | (simp_all [chgErr, inR]; done) | (simp_all [chgErr, inR]; omega)), rfl⟩
        | false =>
         replace hc49 := bfalse hc49;refine zO R3 (zO R3 (zO R3 (zO R3 (zO R3 (zO R3 (zO R3 (zO R3 (zP R6 (zP R6 (zN (zD rfl (zK (zU rfl (zA R4 (zN (T.keep (s' := ⟨[], [(5, _)], _ :: C⟩) (sc (.cons _ (.cons _ (.cons _ (.cons _ (.cons _ (.cons_cons _ (.refl _)))))))) (zR ?_)))))))))))))))));exact ⟨rfl, _, rfl, congrArg iv (by first | (simp_all [chgErr, inR]; done) | (simp_all [chgErr, inR]; omega)), rfl⟩
      | false =>
       replace hc32 := bfalse hc32
       have hi0 : i = 0 := by omega
       refine zD rfl (zK (zU rfl (zA R4 (zN (T.keep (s' := ⟨[], [(5, _)], _ :: C⟩) (sc (.cons _ (.cons _ (.cons _ (.cons _ (.cons_cons _ (.refl _))))))) (zR ?_))))));exact ⟨rfl, _, rfl, congrArg iv (by first | (simp_all [chgErr, inR]; done) | (simp_all [chgErr, inR]; omega)), rfl⟩
   | false =>
    replace hc18 := bfalse hc18;refine zD rfl (zK (zU rfl (zA R4 (zN (zR ?_)))));refine ⟨rfl, _, rfl, ?_⟩;refine zN (zB (zU rfl (zV R3 (Val.bin (r := bv true) rfl rfl (by kernel_rfl)) (zN (zC rfl (zU rfl (zA R4 (zN (T.keep (s' := ⟨[], [(5, _)], _ :: C⟩) (sc (.cons _ (.cons _ (.cons_cons _ (.refl _))))) (zR ?_))))))))));exact ⟨rfl, _, rfl, congrArg iv (by first | (simp_all [chgErr, inR]; done) | (simp_all [chgErr, inR]; omega)), rfl⟩
theorem q_chgs {k bg : Nat} (hk : 1 ≤ k) (g : Gat) (C : List Thing) (hb : g.ch.l.length ≤ 4) :
  TF (EL k) 88 [g.ch.v, .func 89 [] [.ptr bg 0 4]] (.row bg 4 [iv g.round, iv g.letter, iv g.leaves, g.ch.v] :: C) fun v hs' => ∃ i0, v = .tuple [iv i0, iv (chgsErr g.leaves none g.ch.l)] ∧ hs' = .row bg 4 [iv g.round, iv g.letter, iv g.leaves, g.ch.v] :: C := by
 refine TF.enter (fn := Go.Proofs.Tryz.f88) rfl rfl rfl rfl rfl (zU rfl (zA R4 (zA R4 (zN (zS (zU rfl (zM R4 (zV R3 (Val.len_gs rfl rfl) (zM R4 (zN (zB (T.loop (fun μ s => ∃ i : Nat, ∃ j : Int, μ = g.ch.l.length - i ∧ j = i ∧ i ≤ g.ch.l.length ∧ chgsErr g.leaves none g.ch.l = chgsErr g.leaves (if i = 0 then none else g.ch.l[i - 1]?) (g.ch.l.drop i) ∧ s = ⟨[], [(1, .func 89 [] [.ptr bg 0 4]), (9, g.ch.v), (10, iv (g.ch.l.length : Int)), (11, iv j)], (.row bg 4 [iv g.round, iv g.letter, iv g.leaves, g.ch.v]) :: C⟩) (k := _) (s' := _) ⟨0, 0, rfl, (by first | rfl | omega | (simp; done) | (simp; omega) | simp_all), (by first | rfl | omega | (simp; done) | (simp; omega) | simp_all), (by rfl), rfl⟩ ⟨rfl, (keep_cons rfl (keep_cons rfl (keep_cons rfl (keep_cons rfl keep_nil)))), (.cons_cons _ (.refl _))⟩ ?_))))))))))));rintro μ _ ⟨i, j, hk0, hj, hi, he, rfl⟩;subst hj;refine zU rfl (TO.lss rfl rfl rfl rfl rfl (fun c12 hc12=>zN (zS ?_)));cases c12 with
 | true =>
  replace hc12 := btrue hc12;refine zC rfl (zK (zS (zB (zU rfl (zM R4 (TO.index_gs rfl rfl rfl ⟨rfl, rfl⟩ rfl rfl aO (fun c rc ec=>?_)))))))
  try simp only [Int.toNat_natCast] at ec
  refine zV R3 (Val.load_trees (c := _) ⟨⟨_, rfl, rfl⟩, rfl, by decide⟩ rfl rfl) (zJ 3 [_,_,_] R7 (fun b7=>zA R4 (TO.store_row (p := 0) (cv := [_, _, _]) (cells' := [_, _, _]) rfl rfl rfl rfl rfl rfl rfl rfl rfl rfl (by first | rfl | simp [GS.one]) (by decide) rfl (zG (_::_::C) rfl (zN (zU rfl (zM R4 (zM R4 (zV R3 (vW 0 [_,_,_] R5 R4) (TO.pick (p := 1) rfl (zG (_::_::C) rfl (TO.callV rfl rfl rfl rfl rfl rfl (orcN rfl) (q_chg hk g i c _ ec hb) ?_))))))))))));rintro _ _ ⟨rfl, rfl⟩;generalize hE : chgErr g.leaves c (if i = 0 then none else g.ch.l[i - 1]?) = E19;refine zG (_::_::C) rfl (zA R4 (zN (zU rfl (zM R4 (TO.neq rfl rfl rfl rfl rfl (fun c21 hc21=>zN ?_))))));cases c21 with
  | true =>
   replace hc21 := btrue hc21
   have hce : chgsErr g.leaves none g.ch.l = E19 := by rw [he, drop_cons ec, chgsErr, hE, if_pos hc21]
   refine zC rfl (zU rfl (zM R4 (zM R4 (zA R4 (zA R4 (zN (T.keep (s' := ⟨[], [(4, _), (5, _)], _ :: C⟩) (sc (.cons_cons _ (.cons _ (.refl _)))) (zR ?_))))))));exact ⟨rfl, _, rfl, _, congrArg (fun x => AV.tuple [_, iv x]) hce.symm, rfl⟩
  | false =>
   replace hc21 := bfalse hc21
   have hce : chgsErr g.leaves none g.ch.l = chgsErr g.leaves (some c) (g.ch.l.drop (i + 1)) := by rw [he, drop_cons ec, chgsErr, hE, if_neg hc21]
   refine zD rfl (zK (zT rfl (zV R3 (Val.add rfl rfl aO) (zM R4 (zN ?_)))));refine ⟨_, _, aO, ⟨i + 1, _, rfl, (by first | omega | simp_all), (by first | omega | simp_all), (by rw [hce]; simp [ec]), rfl⟩, ⟨rfl, (keep_cons rfl (keep_cons rfl (keep_cons rfl (keep_cons rfl keep_nil)))), (.cons_cons _ (.cons _ (.refl _)))⟩⟩
 | false =>
  replace hc12 := bfalse hc12;obtain rfl : i = g.ch.l.length := by omega
  rw [List.drop_length, chgsErr] at he;refine zD rfl (zE (zU rfl (zA R4 (zA R4 (zN (T.keep (s' := ⟨[], [(4, _), (5, _)], _ :: C⟩) (sc (.cons_cons _ (.refl _))) (zR ?_)))))));exact ⟨rfl, _, rfl, _, congrArg (fun x => AV.tuple [_, iv x]) he.symm, rfl⟩
theorem q_gat {k bm bl mid : Nat} (hk : 2 ≤ k) (g : Gat) (i : Nat) (before : List Gat) (f : Value → Int) (lr ll : Int) (C : List Thing) (hb : before.length ≤ 30) (hm : MetOk before f) (hl : LastOk before ⟨lr, ll⟩) :
  TF (EL k) 84 [iv (i : Int), .agg (encG.f g), .ptr bm 0 1, .ptr bl 0 2] (.row bm 1 [.map mid] :: .cnt mid KPair f [] :: .row bl 2 [iv lr, iv ll] :: C) fun v hs' => ∃ f' lr' ll', v = iv (gathErr before g) ∧
   hs' = .row bm 1 [.map mid] :: .cnt mid KPair f' [] :: .row bl 2 [iv lr', iv ll'] :: C ∧ (gathErr before g = 0 → MetOk (before ++ [g]) f' ∧ LastOk (before ++ [g]) ⟨lr', ll'⟩) := by
 have hle : 0 ≤ f (.agg #[.int .i64 g.round, .int .i64 g.letter]) ∧ f (.agg #[.int .i64 g.round, .int .i64 g.letter]) ≤ before.length := hm.le g.sig
 have hpos : 0 < f (.agg #[.int .i64 g.round, .int .i64 g.letter]) ↔ ∃ x ∈ before, x.sig = g.sig := hm.pos g
 have hmet : MetOk _ (cput f (.agg #[.int .i64 g.round, .int .i64 g.letter]) (f (.agg #[.int .i64 g.round, .int .i64 g.letter]) + 1)) := hm.snoc g;refine TF.enter (fn := Go.Proofs.Tryz.f84) rfl rfl rfl rfl rfl (zU rfl (zQ 4 [_,_,_,_] R7 (fun b5=>zA R4 (zN (zS (T.drawE (l1 := [0, 1, 2, 3, 4]) (l2 := [5, 6, 7]) (by kernel_rfl) (by kernel_rfl) (yR R4 (vR (p := 1) R6) (yL R4 (Val.faddr_ptr (fo := 0) rfl rfl rfl) (yR R4 (vW 0 [_,_] R5 R4) (yR R4 (Val.lookup (p := 2) rfl rfl key_ty107 rfl rfl rfl rfl ⟨_, _, rfl⟩) (yL R4 (Val.add rfl rfl aO) (TD1.over (fun v => sameC_refl v) (all_cons (⟨_, rfl, (Val.lookup (p := 2) rfl rfl key_ty107 rfl rfl rfl rfl ⟨_, _, rfl⟩)⟩) (all_cons (⟨_, rfl, (vW 0 [_,_] R5 R4)⟩) (all_cons (⟨_, rfl, (vR (p := 1) R6)⟩) all_nil))) (TD2.heavy (fun v => sameC_refl v) rfl (by decide) rfl rfl (OpS.eff (Eff.mapEntry (p := 2) rfl rfl key_ty107 rfl rfl rfl rfl ⟨_, _, rfl⟩)) ?_)))))))))))));rintro _ _ ⟨e14, rfl, rfl⟩;refine ⟨(all_cons (.inr ⟨_, rfl, (Val.lookup (p := 2) rfl rfl key_ty107 rfl rfl rfl rfl ⟨_, _, rfl⟩)⟩) (all_cons (.inl (by kernel_rfl)) (all_cons (.inl (by kernel_rfl)) all_nil))), all_nil, ?_⟩;refine yG (_::_::_::_::C) rfl (yM R4 (Val.extract rfl rfl) (TD2.heavy (fun v => sameC_refl v) rfl (by decide) rfl rfl (OpS.eff (Eff.entryStore (p := 2) rfl List.mem_cons_self rfl rfl rfl)) ?_));rintro _ _ rfl;refine ⟨(all_cons (.inl (by kernel_rfl)) (all_cons (.inl (by kernel_rfl)) (all_cons (.inl (by kernel_rfl)) all_nil))), all_nil, ?_⟩;refine yG (_::_::_::_::C) rfl (TD2.nil (zS (zB (zU rfl (zF 0 R6 (zV R3 (vW 0 [_,_] R5 R4) (TO.callD rfl rfl rfl rfl rfl (orcL rfl aD) (.cons (.agg (.cons .lit (.cons .lit .nil))) .nil) (sem_of (q_none g.sig )) (fun c19 hc19=>zA R4 (zN ?_)))))))));cases c19 with
 | true =>
  replace hc19 := btrue hc19;refine zC rfl (zU rfl (zA R4 (zN (T.keep (s' := ⟨[], [(6, _)], _ :: _ :: _ :: C⟩) (sc (.cons _ (.cons_cons _ (.cons_cons _ (.cons_cons _ (.refl _)))))) (zR ?_)))))
  have hv : gathErr before g = 7 := by unfold gathErr; (repeat' split) <;> first | rfl | (exfalso; simp_all; done) | (exfalso; simp_all [inR]; omega) | simp_all [inR]
  exact ⟨rfl, _, rfl, _, _, _, congrArg iv hv.symm, rfl, fun h0 => aO⟩
 | false =>
  replace hc19 := bfalse hc19
  have hs : sigOk g.sig := Classical.not_not.1 hc19;refine zD rfl (zU rfl (zL 1 R3 R6 (zF 0 R6 (zV R3 (vW 0 [_,_] R5 R4) (zV R3 (Val.lookup (p := 2) rfl rfl key_ty107 rfl rfl rfl rfl ⟨_, _, rfl⟩) (TO.gtr rfl rfl rfl rfl rfl (fun c25 hc25=>?_)))))));replace hc25 := hc25.trans (hm.twice g);refine zA R4 (zN ?_);cases c25 with
  | true =>
   replace hc25 := btrue hc25;refine zC rfl (zU rfl (zA R4 (zN (T.keep (s' := ⟨[], [(6, _)], _ :: _ :: _ :: C⟩) (sc (.cons _ (.cons_cons _ (.cons_cons _ (.cons_cons _ (.refl _)))))) (zR ?_)))))
   have hv : gathErr before g = 5 := by unfold gathErr; (repeat' split) <;> first | rfl | (exfalso; simp_all; done) | (exfalso; simp_all [inR]; omega) | simp_all [inR]
   exact ⟨rfl, _, rfl, _, _, _, congrArg iv hv.symm, rfl, fun h0 => aO⟩
  | false =>
   replace hc25 := bfalse hc25;refine zD rfl (zU rfl (zF 0 R6 (zV R3 (vW 0 [_,_] R5 R4) (TO.callD rfl rfl rfl rfl rfl (orcL rfl aD) (.cons (.agg (.cons .lit (.cons .lit .nil))) .nil) (sem_of (q_lettered g.sig )) (fun c29 hc29=>zM R4 ?_)))));cases c29 with
   | true =>
    replace hc29 := btrue hc29;refine zF 0 R6 (zV R3 (vW 0 [_,_] R5 R4) (zV R3 (vW 3 [_,_] R5 R4) (TO.callD rfl rfl rfl rfl rfl (orcL rfl aD) (.cons (.agg (.cons .lit (.cons .lit .nil))) (.cons (.agg (.cons .lit (.cons .lit .nil))) .nil)) (sem_of (q_before g.sig ⟨lr, ll⟩ )) (fun c34 hc34=>?_))));replace hc34 := hc34.trans (hl.before hs hc29);refine zP R6 (zA R4 (zN ?_));cases c34 with
    | true =>
     replace hc34 := btrue hc34;refine zC rfl (zU rfl (zA R4 (zN (T.keep (s' := ⟨[], [(6, _)], _ :: _ :: _ :: C⟩) (sc (.cons _ (.cons_cons _ (.cons_cons _ (.cons_cons _ (.refl _)))))) (zR ?_)))))
     have hv : gathErr before g = 2 := by unfold gathErr; (repeat' split) <;> first | rfl | (exfalso; simp_all; done) | (exfalso; simp_all [inR]; omega) | simp_all [inR]
     exact ⟨rfl, _, rfl, _, _, _, congrArg iv hv.symm, rfl, fun h0 => aO⟩
    | false =>
     replace hc34 := bfalse hc34
     have hrk := hc34;refine zD rfl (zU rfl (zF 2 R6 (zL 0 R3 R6 (TO.neq rfl rfl rfl rfl rfl (fun c39 hc39=>zM R4 ?_)))));cases c39 with
     | true =>
      replace hc39 := btrue hc39;refine zF 2 R6 (zL 0 R3 R6 (TO.build1 (en := encI) (a := _) rfl rfl rfl ⟨rfl, rfl⟩ ⟨_, rfl, rfl⟩ (by decide) (by decide) rfl rfl (fun v43=>TO.callD rfl rfl rfl rfl rfl (orcL rfl aD) (.cons .lit (.cons .lit (.cons (.ownL (p := 0) rfl .ints) .nil))) (sem_of (q_out _ _ _ (by exact out1_small))) (fun c44 hc44=>?_))));replace hc44 := out1 hc44;refine zM R4 ?_;cases c44 with
      | true =>
       replace hc44 := btrue hc44;refine zO R3 (zO R3 (zO R3 (zO R3 (zP R6 (zP R6 (zA R4 (zN (zC rfl (zU rfl (zA R4 (zN (T.keep (s' := ⟨[], [(6, _)], _ :: _ :: _ :: C⟩) (sc (.cons _ (.cons _ (.cons_cons _ (.cons_cons _ (.cons_cons _ (.refl _))))))) (zR ?_)))))))))))))
       have hv : gathErr before g = 7 := by unfold gathErr; (repeat' split) <;> first | rfl | (exfalso; simp_all; done) | (exfalso; simp_all [inR]; omega) | simp_all [inR]
       exact ⟨rfl, _, rfl, _, _, _, congrArg iv hv.symm, rfl, fun h0 => aO⟩
      | false =>
       replace hc44 := bfalse hc44;refine zF 2 R6 (zL 1 R3 R6 (zV R3 (Val.rem rfl rfl aO) (TO.eql rfl rfl rfl rfl rfl (fun c49 hc49=>zP R6 (zP R6 (zA R4 (zN ?_)))))));cases c49 with
       | true =>
        replace hc49 := btrue hc49;refine zC rfl (zU rfl (zA R4 (zN (T.keep (s' := ⟨[], [(6, _)], _ :: _ :: _ :: C⟩) (sc (.cons _ (.cons _ (.cons_cons _ (.cons_cons _ (.cons_cons _ (.refl _))))))) (zR ?_)))))
        have hv : gathErr before g = 7 := by unfold gathErr; (repeat' split) <;> first | rfl | (exfalso; simp_all; done) | (exfalso; simp_all [inR]; omega) | simp_all [inR]
        exact ⟨rfl, _, rfl, _, _, _, congrArg iv hv.symm, rfl, fun h0 => aO⟩
       | false =>
        replace hc49 := bfalse hc49;refine zD rfl (zU rfl (zF 3 R6 (zL 1 R3 R6 (zV R3 (Val.len_gs rfl rfl) (TO.gtr rfl rfl rfl rfl rfl (fun c56 hc56=>zA R4 (zN ?_)))))));cases c56 with
        | true =>
         replace hc56 := btrue hc56;refine zC rfl (zU rfl (zA R4 (zN (T.keep (s' := ⟨[], [(6, _)], _ :: _ :: _ :: C⟩) (sc (.cons _ (.cons _ (.cons_cons _ (.cons_cons _ (.cons_cons _ (.refl _))))))) (zR ?_)))))
         have hv : gathErr before g = 3 := by unfold gathErr; (repeat' split) <;> first | rfl | (exfalso; simp_all; done) | (exfalso; simp_all [inR]; omega) | simp_all [inR]
         exact ⟨rfl, _, rfl, _, _, _, congrArg iv hv.symm, rfl, fun h0 => aO⟩
        | false =>
         replace hc56 := bfalse hc56;refine zD rfl (zK (zS (zU rfl (zF 0 R6 (zV R3 (vW 1 [_,_] R5 R4) (TO.callD rfl rfl rfl rfl rfl (orcL rfl aD) (.cons (.agg (.cons .lit (.cons .lit .nil))) .nil) (sem_of (q_lettered g.sig )) (fun c59 hc59=>zN ?_)))))));cases c59 with
         | true =>
          replace hc59 := btrue hc59;refine zC rfl (zT rfl (zF 0 R6 (zV R3 (vW 1 [_,_] R5 R4) (TO.store_row (p := 4) (cv := [_, _]) (cells' := [_, _]) rfl rfl rfl rfl rfl rfl rfl rfl rfl rfl (by first | rfl | simp [GS.one]) (by decide) rfl (zG (_::_::_::_::_::C) rfl (zN (zU rfl (zF 3 R6 (zL 1 R3 R6 (zV R3 (Val.makeFunc rfl rfl) (TO.pick (p := 1) rfl (zG (_::_::_::_::_::C) rfl (TO.callV rfl rfl rfl rfl rfl rfl (orcN rfl) (q_chgs aO g _ aO) ?_)))))))))))));rintro _ _ ⟨i0, rfl, rfl⟩;refine zG (_::_::_::_::_::C) rfl (zM R4 (zX R5 (zX R5 (zA R4 (zA R4 (zN (zU rfl (zM R4 (zA R4 (zN (T.keep (s' := ⟨[], [(6, _)], _ :: _ :: _ :: C⟩) (sc (.cons _ (.cons _ (.cons_cons _ (.cons_cons _ (.cons_cons _ (.refl _))))))) (zR ?_))))))))))))
          have hv : gathErr before g = chgsErr g.leaves none g.ch.l := by unfold gathErr; (repeat' split) <;> first | rfl | (exfalso; simp_all; done) | (exfalso; simp_all [inR]; omega) | simp_all [inR]
          exact ⟨rfl, _, rfl, _, _, _, congrArg iv hv.symm, rfl, fun h0 => (by first | exact ⟨hmet, hl.snoc hs hc59 hrk⟩ | exact ⟨hmet, hl.same hc59⟩)⟩
         | false =>
          replace hc59 := bfalse hc59;refine zD rfl (zK (zU rfl (zF 3 R6 (zL 1 R3 R6 (zV R3 (Val.makeFunc rfl rfl) (TO.pick (p := 1) rfl (zG (_::_::_::_::_::C) rfl (TO.callV rfl rfl rfl rfl rfl rfl (orcN rfl) (q_chgs aO g _ aO) ?_))))))));rintro _ _ ⟨i0, rfl, rfl⟩;refine zG (_::_::_::_::_::C) rfl (zM R4 (zX R5 (zX R5 (zA R4 (zA R4 (zN (zU rfl (zM R4 (zA R4 (zN (T.keep (s' := ⟨[], [(6, _)], _ :: _ :: _ :: C⟩) (sc (.cons _ (.cons _ (.cons_cons _ (.cons_cons _ (.cons_cons _ (.refl _))))))) (zR ?_))))))))))))
          have hv : gathErr before g = chgsErr g.leaves none g.ch.l := by unfold gathErr; (repeat' split) <;> first | rfl | (exfalso; simp_all; done) | (exfalso; simp_all [inR]; omega) | simp_all [inR]
          exact ⟨rfl, _, rfl, _, _, _, congrArg iv hv.symm, rfl, fun h0 => (by first | exact ⟨hmet, hl.snoc hs hc59 hrk⟩ | exact ⟨hmet, hl.same hc59⟩)⟩
     | false =>
      replace hc39 := bfalse hc39;refine zO R3 (zO R3 (zO R3 (zO R3 (zO R3 (zO R3 (zO R3 (zO R3 (zO R3 (zO R3 (zP R6 (zA R4 (zN (zD rfl (zU rfl (zF 3 R6 (zL 0 R3 R6 (zV R3 (Val.len_gs rfl rfl) (TO.gtr rfl rfl rfl rfl rfl (fun c56 hc56=>zA R4 (zN ?_))))))))))))))))))));cases c56 with
      | true =>
       replace hc56 := btrue hc56;refine zC rfl (zU rfl (zA R4 (zN (T.keep (s' := ⟨[], [(6, _)], _ :: _ :: _ :: C⟩) (sc (.cons _ (.cons_cons _ (.cons_cons _ (.cons_cons _ (.refl _)))))) (zR ?_)))))
       have hv : gathErr before g = 3 := by unfold gathErr; (repeat' split) <;> first | rfl | (exfalso; simp_all; done) | (exfalso; simp_all [inR]; omega) | simp_all [inR]
       exact ⟨rfl, _, rfl, _, _, _, congrArg iv hv.symm, rfl, fun h0 => aO⟩
      | false =>
       replace hc56 := bfalse hc56;refine zD rfl (zK (zS (zU rfl (zF 0 R6 (zV R3 (vW 0 [_,_] R5 R4) (TO.callD rfl rfl rfl rfl rfl (orcL rfl aD) (.cons (.agg (.cons .lit (.cons .lit .nil))) .nil) (sem_of (q_lettered g.sig )) (fun c59 hc59=>zN ?_)))))));cases c59 with
       | true =>
        replace hc59 := btrue hc59;refine zC rfl (zT rfl (zF 0 R6 (zV R3 (vW 0 [_,_] R5 R4) (TO.store_row (p := 3) (cv := [_, _]) (cells' := [_, _]) rfl rfl rfl rfl rfl rfl rfl rfl rfl rfl (by first | rfl | simp [GS.one]) (by decide) rfl (zG (_::_::_::_::C) rfl (zN (zU rfl (zF 3 R6 (zL 0 R3 R6 (zV R3 (Val.makeFunc rfl rfl) (TO.callV rfl rfl rfl rfl rfl rfl (orcN rfl) (q_chgs aO g _ aO) ?_)))))))))));rintro _ _ ⟨i0, rfl, rfl⟩;refine zG (_::_::_::_::C) rfl (zM R4 (zX R5 (zX R5 (zA R4 (zA R4 (zN (zU rfl (zM R4 (zA R4 (zN (T.keep (s' := ⟨[], [(6, _)], _ :: _ :: _ :: C⟩) (sc (.cons _ (.cons_cons _ (.cons_cons _ (.cons_cons _ (.refl _)))))) (zR ?_))))))))))))
        have hv : gathErr before g = chgsErr g.leaves none g.ch.l := by unfold gathErr; (repeat' split) <;> first | rfl | (exfalso; simp_all; done) | (exfalso; simp_all [inR]; omega) | simp_all [inR]
        exact ⟨rfl, _, rfl, _, _, _, congrArg iv hv.symm, rfl, fun h0 => (by first | exact ⟨hmet, hl.snoc hs hc59 hrk⟩ | exact ⟨hmet, hl.same hc59⟩)⟩
       | false =>
        replace hc59 := bfalse hc59;refine zD rfl (zK (zU rfl (zF 3 R6 (zL 0 R3 R6 (zV R3 (Val.makeFunc rfl rfl) (TO.callV rfl rfl rfl rfl rfl rfl (orcN rfl) (q_chgs aO g _ aO) ?_))))));rintro _ _ ⟨i0, rfl, rfl⟩;refine zG (_::_::_::_::C) rfl (zM R4 (zX R5 (zX R5 (zA R4 (zA R4 (zN (zU rfl (zM R4 (zA R4 (zN (T.keep (s' := ⟨[], [(6, _)], _ :: _ :: _ :: C⟩) (sc (.cons _ (.cons_cons _ (.cons_cons _ (.cons_cons _ (.refl _)))))) (zR ?_))))))))))))
        have hv : gathErr before g = chgsErr g.leaves none g.ch.l := by unfold gathErr; (repeat' split) <;> first | rfl | (exfalso; simp_all; done) | (exfalso; simp_all [inR]; omega) | simp_all [inR]
        exact ⟨rfl, _, rfl, _, _, _, congrArg iv hv.symm, rfl, fun h0 => (by first | exact ⟨hmet, hl.snoc hs hc59 hrk⟩ | exact ⟨hmet, hl.same hc59⟩)⟩
   | false =>
    replace hc29 := bfalse hc29
    have hrk : ¬ (rank g.sig ≥ 0 ∧ rank g.sig < lastRank before) := by rw [rank_neg hc29]; omega
    refine zO R3 (zO R3 (zO R3 (zO R3 (zP R6 (zA R4 (zN (zD rfl (zU rfl (zF 2 R6 (zL 0 R3 R6 (TO.neq rfl rfl rfl rfl rfl (fun c39 hc39=>zM R4 ?_))))))))))));cases c39 with
    | true =>
     replace hc39 := btrue hc39;refine zF 2 R6 (zL 0 R3 R6 (TO.build1 (en := encI) (a := _) rfl rfl rfl ⟨rfl, rfl⟩ ⟨_, rfl, rfl⟩ (by decide) (by decide) rfl rfl (fun v43=>TO.callD rfl rfl rfl rfl rfl (orcL rfl aD) (.cons .lit (.cons .lit (.cons (.ownL (p := 0) rfl .ints) .nil))) (sem_of (q_out _ _ _ (by exact out1_small))) (fun c44 hc44=>?_))));replace hc44 := out1 hc44;refine zM R4 ?_;cases c44 with
     | true =>
      replace hc44 := btrue hc44;refine zO R3 (zO R3 (zO R3 (zO R3 (zP R6 (zP R6 (zA R4 (zN (zC rfl (zU rfl (zA R4 (zN (T.keep (s' := ⟨[], [(6, _)], _ :: _ :: _ :: C⟩) (sc (.cons _ (.cons _ (.cons_cons _ (.cons_cons _ (.cons_cons _ (.refl _))))))) (zR ?_)))))))))))))
      have hv : gathErr before g = 7 := by unfold gathErr; (repeat' split) <;> first | rfl | (exfalso; simp_all; done) | (exfalso; simp_all [inR]; omega) | simp_all [inR]
      exact ⟨rfl, _, rfl, _, _, _, congrArg iv hv.symm, rfl, fun h0 => aO⟩
     | false =>
      replace hc44 := bfalse hc44;refine zF 2 R6 (zL 1 R3 R6 (zV R3 (Val.rem rfl rfl aO) (TO.eql rfl rfl rfl rfl rfl (fun c49 hc49=>zP R6 (zP R6 (zA R4 (zN ?_)))))));cases c49 with
      | true =>
       replace hc49 := btrue hc49;refine zC rfl (zU rfl (zA R4 (zN (T.keep (s' := ⟨[], [(6, _)], _ :: _ :: _ :: C⟩) (sc (.cons _ (.cons _ (.cons_cons _ (.cons_cons _ (.cons_cons _ (.refl _))))))) (zR ?_)))))
       have hv : gathErr before g = 7 := by unfold gathErr; (repeat' split) <;> first | rfl | (exfalso; simp_all; done) | (exfalso; simp_all [inR]; omega) | simp_all [inR]
       exact ⟨rfl, _, rfl, _, _, _, congrArg iv hv.symm, rfl, fun h0 => aO⟩
      | false =>
       replace hc49 := bfalse hc49;refine zD rfl (zU rfl (zF 3 R6 (zL 1 R3 R6 (zV R3 (Val.len_gs rfl rfl) (TO.gtr rfl rfl rfl rfl rfl (fun c56 hc56=>zA R4 (zN ?_)))))));cases c56 with
       | true =>
        replace hc56 := btrue hc56;refine zC rfl (zU rfl (zA R4 (zN (T.keep (s' := ⟨[], [(6, _)], _ :: _ :: _ :: C⟩) (sc (.cons _ (.cons _ (.cons_cons _ (.cons_cons _ (.cons_cons _ (.refl _))))))) (zR ?_)))))
        have hv : gathErr before g = 3 := by unfold gathErr; (repeat' split) <;> first | rfl | (exfalso; simp_all; done) | (exfalso; simp_all [inR]; omega) | simp_all [inR]
        exact ⟨rfl, _, rfl, _, _, _, congrArg iv hv.symm, rfl, fun h0 => aO⟩
       | false =>
        replace hc56 := bfalse hc56;refine zD rfl (zK (zS (zU rfl (zF 0 R6 (zV R3 (vW 1 [_,_] R5 R4) (TO.callD rfl rfl rfl rfl rfl (orcL rfl aD) (.cons (.agg (.cons .lit (.cons .lit .nil))) .nil) (sem_of (q_lettered g.sig )) (fun c59 hc59=>zN ?_)))))));cases c59 with
        | true =>
         replace hc59 := btrue hc59;refine zC rfl (zT rfl (zF 0 R6 (zV R3 (vW 1 [_,_] R5 R4) (TO.store_row (p := 4) (cv := [_, _]) (cells' := [_, _]) rfl rfl rfl rfl rfl rfl rfl rfl rfl rfl (by first | rfl | simp [GS.one]) (by decide) rfl (zG (_::_::_::_::_::C) rfl (zN (zU rfl (zF 3 R6 (zL 1 R3 R6 (zV R3 (Val.makeFunc rfl rfl) (TO.pick (p := 1) rfl (zG (_::_::_::_::_::C) rfl (TO.callV rfl rfl rfl rfl rfl rfl (orcN rfl) (q_chgs aO g _ aO) ?_)))))))))))));rintro _ _ ⟨i0, rfl, rfl⟩;refine zG (_::_::_::_::_::C) rfl (zM R4 (zX R5 (zX R5 (zA R4 (zA R4 (zN (zU rfl (zM R4 (zA R4 (zN (T.keep (s' := ⟨[], [(6, _)], _ :: _ :: _ :: C⟩) (sc (.cons _ (.cons _ (.cons_cons _ (.cons_cons _ (.cons_cons _ (.refl _))))))) (zR ?_))))))))))))
         have hv : gathErr before g = chgsErr g.leaves none g.ch.l := by unfold gathErr; (repeat' split) <;> first | rfl | (exfalso; simp_all; done) | (exfalso; simp_all [inR]; omega) | simp_all [inR]
         exact ⟨rfl, _, rfl, _, _, _, congrArg iv hv.symm, rfl, fun h0 => (by first | exact ⟨hmet, hl.snoc hs hc59 hrk⟩ | exact ⟨hmet, hl.same hc59⟩)⟩
        | false =>
         replace hc59 := bfalse hc59;refine zD rfl (zK (zU rfl (zF 3 R6 (zL 1 R3 R6 (zV R3 (Val.makeFunc rfl rfl) (TO.pick (p := 1) rfl (zG (_::_::_::_::_::C) rfl (TO.callV rfl rfl rfl rfl rfl rfl (orcN rfl) (q_chgs aO g _ aO) ?_))))))));rintro _ _ ⟨i0, rfl, rfl⟩;refine zG (_::_::_::_::_::C) rfl (zM R4 (zX R5 (zX R5 (zA R4 (zA R4 (zN (zU rfl (zM R4 (zA R4 (zN (T.keep (s' := ⟨[], [(6, _)], _ :: _ :: _ :: C⟩) (sc (.cons _ (.cons _ (.cons_cons _ (.cons_cons _ (.cons_cons _ (.refl _))))))) (zR ?_))))))))))))
         have hv : gathErr before g = chgsErr g.leaves none g.ch.l := by unfold gathErr; (repeat' split) <;> first | rfl | (exfalso; simp_all; done) | (exfalso; simp_all [inR]; omega) | simp_all [inR]
         exact ⟨rfl, _, rfl, _, _, _, congrArg iv hv.symm, rfl, fun h0 => (by first | exact ⟨hmet, hl.snoc hs hc59 hrk⟩ | exact ⟨hmet, hl.same hc59⟩)⟩
    | false =>
     replace hc39 := bfalse hc39;refine zO R3 (zO R3 (zO R3 (zO R3 (zO R3 (zO R3 (zO R3 (zO R3 (zO R3 (zO R3 (zP R6 (zA R4 (zN (zD rfl (zU rfl (zF 3 R6 (zL 0 R3 R6 (zV R3 (Val.len_gs rfl rfl) (TO.gtr rfl rfl rfl rfl rfl (fun c56 hc56=>zA R4 (zN ?_))))))))))))))))))));cases c56 with
     | true =>
      replace hc56 := btrue hc56;refine zC rfl (zU rfl (zA R4 (zN (T.keep (s' := ⟨[], [(6, _)], _ :: _ :: _ :: C⟩) (sc (.cons _ (.cons_cons _ (.cons_cons _ (.cons_cons _ (.refl _)))))) (zR ?_)))))
      have hv : gathErr before g = 3 := by unfold gathErr; (repeat' split) <;> first | rfl | (exfalso; simp_all; done) | (exfalso; simp_all [inR]; omega) | simp_all [inR]
      exact ⟨rfl, _, rfl, _, _, _, congrArg iv hv.symm, rfl, fun h0 => aO⟩
     | false =>
      replace hc56 := bfalse hc56;refine zD rfl (zK (zS (zU rfl (zF 0 R6 (zV R3 (vW 0 [_,_] R5 R4) (TO.callD rfl rfl rfl rfl rfl (orcL rfl aD) (.cons (.agg (.cons .lit (.cons .lit .nil))) .nil) (sem_of (q_lettered g.sig )) (fun c59 hc59=>zN ?_)))))));cases c59 with
      | true =>
       replace hc59 := btrue hc59;refine zC rfl (zT rfl (zF 0 R6 (zV R3 (vW 0 [_,_] R5 R4) (TO.store_row (p := 3) (cv := [_, _]) (cells' := [_, _]) rfl rfl rfl rfl rfl rfl rfl rfl rfl rfl (by first | rfl | simp [GS.one]) (by decide) rfl (zG (_::_::_::_::C) rfl (zN (zU rfl (zF 3 R6 (zL 0 R3 R6 (zV R3 (Val.makeFunc rfl rfl) (TO.callV rfl rfl rfl rfl rfl rfl (orcN rfl) (q_chgs aO g _ aO) ?_)))))))))));rintro _ _ ⟨i0, rfl, rfl⟩;refine zG (_::_::_::_::C) rfl (zM R4 (zX R5 (zX R5 (zA R4 (zA R4 (zN (zU rfl (zM R4 (zA R4 (zN (T.keep (s' := ⟨[], [(6, _)], _ :: _ :: _ :: C⟩) (sc (.cons _ (.cons_cons _ (.cons_cons _ (.cons_cons _ (.refl _)))))) (zR ?_))))))))))))
       have hv : gathErr before g = chgsErr g.leaves none g.ch.l := by unfold gathErr; (repeat' split) <;> first | rfl | (exfalso; simp_all; done) | (exfalso; simp_all [inR]; omega) | simp_all [inR]
       exact ⟨rfl, _, rfl, _, _, _, congrArg iv hv.symm, rfl, fun h0 => (by first | exact ⟨hmet, hl.snoc hs hc59 hrk⟩ | exact ⟨hmet, hl.same hc59⟩)⟩
      | false =>
       replace hc59 := bfalse hc59;refine zD rfl (zK (zU rfl (zF 3 R6 (zL 0 R3 R6 (zV R3 (Val.makeFunc rfl rfl) (TO.callV rfl rfl rfl rfl rfl rfl (orcN rfl) (q_chgs aO g _ aO) ?_))))));rintro _ _ ⟨i0, rfl, rfl⟩;refine zG (_::_::_::_::C) rfl (zM R4 (zX R5 (zX R5 (zA R4 (zA R4 (zN (zU rfl (zM R4 (zA R4 (zN (T.keep (s' := ⟨[], [(6, _)], _ :: _ :: _ :: C⟩) (sc (.cons _ (.cons_cons _ (.cons_cons _ (.cons_cons _ (.refl _)))))) (zR ?_))))))))))))
       have hv : gathErr before g = chgsErr g.leaves none g.ch.l := by unfold gathErr; (repeat' split) <;> first | rfl | (exfalso; simp_all; done) | (exfalso; simp_all [inR]; omega) | simp_all [inR]
       exact ⟨rfl, _, rfl, _, _, _, congrArg iv hv.symm, rfl, fun h0 => (by first | exact ⟨hmet, hl.snoc hs hc59 hrk⟩ | exact ⟨hmet, hl.same hc59⟩)⟩
theorem q_gats {k bm bl mid : Nat} (hk : 2 ≤ k) (b : Book) (C : List Thing) (hb : b.gs.l.length ≤ 30) :
  TF (EL k) 83 [b.gs.v, .func 84 [] [.ptr bm 0 1, .ptr bl 0 2]] (.row bm 1 [.map mid] :: .cnt mid KPair (fun _ => 0) [] :: .row bl 2 [iv 0, iv 0] :: C) fun v hs' => ∃ (i0 e0 : Int) (f : Value → Int) (lr ll : Int), v = .tuple [iv i0, iv e0] ∧
   (gathsErr [] b.gs.l 0 = none ∧ i0 = 0 ∧ e0 = 0 ∨ ∃ j, gathsErr [] b.gs.l 0 = some (j, e0) ∧ i0 = j ∧ e0 ≠ 0) ∧ hs' = .row bm 1 [.map mid] :: .cnt mid KPair f [] :: .row bl 2 [iv lr, iv ll] :: C := by
 refine TF.enter (fn := Go.Proofs.Tryz.f83) rfl rfl rfl rfl rfl (zU rfl (zA R4 (zA R4 (zN (zS (zU rfl (zM R4 (zV R3 (Val.len_gs rfl rfl) (zM R4 (zN (zB (T.loop (fun μ s => ∃ i : Nat, ∃ j : Int, ∃ f : Value → Int, ∃ lr : Int, ∃ ll : Int, μ = b.gs.l.length - i ∧ j = i ∧ i ≤ b.gs.l.length ∧ gathsErr [] b.gs.l 0 = gathsErr (b.gs.l.take i) (b.gs.l.drop i) i ∧ MetOk (b.gs.l.take i) f ∧ LastOk (b.gs.l.take i) ⟨lr, ll⟩ ∧ s = ⟨[], [(1, .func 84 [] [.ptr bm 0 1, .ptr bl 0 2]), (9, b.gs.v), (10, iv (b.gs.l.length : Int)), (11, iv j)], (.row bm 1 [.map mid]) :: (.cnt mid KPair f []) :: (.row bl 2 [iv lr, iv ll]) :: C⟩) (k := _) (s' := _) ⟨0, 0, _, _, _, rfl, (by first | rfl | omega | (simp; done) | (simp; omega) | simp_all), (by first | rfl | omega | (simp; done) | (simp; omega) | simp_all), (by rfl), (by exact MetOk.nil), (by exact LastOk.nil), rfl⟩ ⟨rfl, (keep_cons rfl (keep_cons rfl (keep_cons rfl (keep_cons rfl keep_nil)))), (.cons_cons _ (.cons_cons _ (.cons_cons _ (.refl _))))⟩ ?_))))))))))));rintro μ _ ⟨i, j, f, lr, ll, hk0, hj, hi, he, hm, hl, rfl⟩;subst hj;refine zU rfl (TO.lss rfl rfl rfl rfl rfl (fun c12 hc12=>zN (zS ?_)));cases c12 with
 | true =>
  replace hc12 := btrue hc12;refine zC rfl (zK (zS (zB (zU rfl (zM R4 (TO.index_gs rfl rfl rfl ⟨rfl, rfl⟩ rfl rfl aO (fun g rg eg=>?_)))))))
  try simp only [Int.toNat_natCast] at eg
  refine zV R3 (Val.load_trees (c := _) ⟨⟨_, rfl, rfl⟩, rfl, by decide⟩ rfl rfl) (zJ 4 [_,_,_,_] R7 (fun b7=>zA R4 (TO.store_row (p := 0) (cv := [_, _, _, _]) (cells' := [_, _, _, _]) rfl rfl rfl rfl rfl rfl rfl rfl rfl rfl (by first | rfl | simp [GS.one]) (by decide) rfl (zG (_::_::_::_::C) rfl (zN (zU rfl (zM R4 (zM R4 (zV R3 (vW 0 [_,_,_,_] R5 R4) (TO.pick (p := 3) rfl (zG (_::_::_::_::C) rfl (TO.pick (p := 3) rfl (zG (_::_::_::_::C) rfl (TO.pick (p := 3) rfl (zG (_::_::_::_::C) rfl (TO.callV rfl rfl rfl rfl rfl rfl (orcN rfl) (q_gat hk g i (b.gs.l.take i) f lr ll _ (by rw [List.length_take]; omega) hm hl) ?_))))))))))))))));rintro _ _ ⟨f1, lr1, ll1, rfl, rfl, hnew⟩;generalize hE : gathErr (b.gs.l.take i) g = E19;refine zG (_::_::_::_::C) rfl (zA R4 (zN (zU rfl (zM R4 (TO.neq rfl rfl rfl rfl rfl (fun c21 hc21=>zN ?_))))));cases c21 with
  | true =>
   replace hc21 := btrue hc21
   have hG : gathsErr [] b.gs.l 0 = some (i, E19) := by rw [he, drop_cons eg, gathsErr, hE, if_pos hc21]
   refine zC rfl (zU rfl (zM R4 (zM R4 (zA R4 (zA R4 (zN (T.keep (s' := ⟨[], [(4, _), (5, _)], _ :: _ :: _ :: C⟩) (sc (.cons_cons _ (.cons_cons _ (.cons_cons _ (.cons _ (.refl _)))))) (zR ?_))))))));exact ⟨rfl, _, rfl, _, _, _, _, _, rfl, .inr ⟨_, hG, rfl, hc21⟩, rfl⟩
  | false =>
   replace hc21 := bfalse hc21
   have hE0 : E19 = 0 := by omega
   have hG : gathsErr [] b.gs.l 0 = gathsErr (b.gs.l.take (i + 1)) (b.gs.l.drop (i + 1)) (i + 1) := by rw [he, drop_cons eg, gathsErr, hE, if_neg hc21, take_snoc eg]
   have hnew := hnew (hE.trans hE0);rw [← take_snoc eg] at hnew;refine zD rfl (zK (zT rfl (zV R3 (Val.add rfl rfl aO) (zM R4 (zN ?_)))));refine ⟨_, _, aO, ⟨i + 1, _, _, _, _, rfl, (by first | omega | simp_all), (by first | omega | simp_all), (by exact hG), (by exact hnew.1), (by exact hnew.2), rfl⟩, ⟨rfl, (keep_cons rfl (keep_cons rfl (keep_cons rfl (keep_cons rfl keep_nil)))), (.cons_cons _ (.cons_cons _ (.cons_cons _ (.cons _ (.refl _)))))⟩⟩
 | false =>
  replace hc12 := bfalse hc12
  have hG : gathsErr [] b.gs.l 0 = none := by rw [he, List.drop_eq_nil_of_le aO, gathsErr]
  refine zD rfl (zE (zU rfl (zA R4 (zA R4 (zN (T.keep (s' := ⟨[], [(4, _), (5, _)], _ :: _ :: _ :: C⟩) (sc (.cons_cons _ (.cons_cons _ (.cons_cons _ (.refl _))))) (zR ?_)))))));exact ⟨rfl, _, rfl, _, _, _, _, _, rfl, .inl ⟨hG, rfl, rfl⟩, rfl⟩
theorem q_Check (b : Book)  : Comes (EL 2) 66 [.agg (encB.f b)] (.tuple [iv (bookErr b).1, iv (bookErr b).2.1, iv (bookErr b).2.2]) := by
 refine Comes.of (TF.enter (fn := Go.Proofs.Tryz.f66) rfl rfl rfl rfl rfl ?_);refine zU rfl (zQ 2 [_,_] R7 (fun b1=>zA R4 (zA R4 (zA R4 (zN (zS (zB (zU rfl (zF 0 R6 (zL 0 R3 R6 (TO.build1 (en := encI) (a := _) rfl rfl rfl ⟨rfl, rfl⟩ ⟨_, rfl, rfl⟩ (by decide) (by decide) rfl rfl (fun v10=>TO.callD rfl rfl rfl rfl rfl (orcL rfl aD) (.cons .lit (.cons .lit (.cons (.ownL (p := 0) rfl .ints) .nil))) (sem_of (q_out _ _ _ (by exact out1_small))) (fun c11 hc11=>?_)))))))))))));replace hc11 := out1 hc11;refine zA R4 (zN ?_);cases c11 with
 | true =>
  replace hc11 := btrue hc11
  have hr1 : ¬ inR b.signed 0 12 := by unfold inR; omega
  clear hc11
  refine zC rfl (zU rfl (zA R4 (zA R4 (zA R4 (zN (zR ?_))))));exact ⟨rfl, _, rfl, RefN.cast (.tuple (.cons .lit (.cons .lit (.cons .lit .nil)))) (by unfold bookErr; simp_all)⟩
 | false =>
  replace hc11 := bfalse hc11
  have hr1 : inR b.signed 0 12 := by unfold inR; omega
  clear hc11
  refine zD rfl (zU rfl (zF 1 R6 (zL 1 R3 R6 (zV R3 (Val.len_gs rfl rfl) (TO.build1 (en := encI) (a := _) rfl rfl rfl ⟨rfl, rfl⟩ ⟨_, rfl, rfl⟩ (by decide) (by decide) rfl rfl (fun v16=>TO.callD rfl rfl rfl rfl rfl (orcL rfl aD) (.cons .lit (.cons .lit (.cons (.ownL (p := 0) rfl .ints) .nil))) (sem_of (q_out _ _ _ (by exact out1_small))) (fun c17 hc17=>?_)))))));replace hc17 := out1 hc17;refine zA R4 (zN ?_);cases c17 with
  | true =>
   replace hc17 := btrue hc17
   have hr2 : ¬ inR b.gs.l.length 1 30 := by unfold inR; omega
   clear hc17
   refine zC rfl (zU rfl (zA R4 (zA R4 (zA R4 (zN (zR ?_))))));exact ⟨rfl, _, rfl, RefN.cast (.tuple (.cons .lit (.cons .lit (.cons .lit .nil)))) (by unfold bookErr; simp_all)⟩
  | false =>
   replace hc17 := bfalse hc17
   have hr2 : inR b.gs.l.length 1 30 := by unfold inR; omega
   refine zD rfl (zK (zU rfl (TO.makeMap KPair rfl rfl rfl (fun m18=>zJ 1 [_] R7 (fun b5=>TO.store_row (p := 0) (cv := [_]) (cells' := [_]) rfl rfl rfl rfl rfl rfl rfl rfl rfl rfl (by first | rfl | simp [GS.one]) (by decide) rfl (zG ([_,_,_,_,_]) rfl (zN (zU rfl (zJ 2 [_,_] R7 (fun b6=>zN (zU rfl (zF 1 R6 (zL 5 R3 R6 (zV R3 (Val.makeFunc rfl rfl) (TO.pick (p := 2) rfl (zG ([_,_,_,_,_,_]) rfl (TO.pick (p := 2) rfl (zG ([_,_,_,_,_,_]) rfl (TO.callV rfl rfl rfl rfl rfl rfl (orcN rfl) (q_gats (by decide) b _ aO) ?_)))))))))))))))))));rintro _ _ ⟨i0, e0, f1, lr1, ll1, rfl, hG, rfl⟩;refine zG ([_,_,_,_,_,_]) rfl (zM R4 (zX R5 (zX R5 (zA R4 (zA R4 (zN (zS (zU rfl (zM R4 (TO.neq rfl rfl rfl rfl rfl (fun c27 hc27=>zN ?_)))))))))));cases c27 with
   | true =>
    replace hc27 := btrue hc27;obtain ⟨j0, hG, rfl, -⟩ : ∃ j, gathsErr [] b.gs.l 0 = some (j, e0) ∧ i0 = j ∧ e0 ≠ 0 := by rcases hG with ⟨-, -, h⟩ | h; exact absurd h hc27; exact h
    refine zC rfl (zU rfl (zM R4 (zM R4 (zA R4 (zA R4 (zA R4 (zN (zR ?_))))))));exact ⟨rfl, _, rfl, RefN.cast (.tuple (.cons .lit (.cons .lit (.cons .lit .nil)))) (by unfold bookErr; simp_all)⟩
   | false =>
    replace hc27 := bfalse hc27;replace hG : gathsErr [] b.gs.l 0 = none := by rcases hG with ⟨h, -, -⟩ | ⟨j, -, -, h⟩; exact h; exact absurd h hc27
    refine zD rfl (zK (zU rfl (zA R4 (zA R4 (zA R4 (zN (zR ?_)))))));exact ⟨rfl, _, rfl, RefN.cast (.tuple (.cons .lit (.cons .lit (.cons .lit .nil)))) (by unfold bookErr; simp_all)⟩
end Go.Am.YthckcbfijdambaaGreat
end
section
namespace Go.Am.YthckcbfijdambaaGreat
open Go.Am Go.RowKit
set_option linter.unusedVariables false
set_option linter.unusedSimpArgs false
def ArgL (x : Leaf) (vs : List AV) (G : List Thing) : Prop := vs = [.agg (encL.f x)] ∧ G = []
theorem lv_iter {k : Nat} {b : Book} {bx l : Nat} {Y Z : List Leaf → List Thing → Prop} (hb : Good b) (hy : VisitG (EL k) l ArgL (· <+: leavesOf b) Y Z) (C : List Thing) (hY : Y [] C) :
  TF (EL k) 113 [.yield l, .ptr bx 0 2] (.row bx 2 [iv b.signed, b.gs.v] :: C) (fun v hs' => ∃ C', hs' = .row bx 2 [iv b.signed, b.gs.v] :: C' ∧ (Y (leavesOf b) C' ∨ ∃ q r, leavesOf b = q ++ r ∧ Z q C')) := by
 have hgs := hb.gs;refine TF.enter (fn := Go.Proofs.Tryz.f113) rfl rfl rfl rfl rfl (zU rfl (zF 0 R6 (zF 1 R6 (zL 0 R3 R6 (zV R3 (Val.len_gs rfl rfl) (zM R4 (zN (zB (T.loop (fun μ s => ∃ i : Nat, ∃ j : Int, ∃ C1 : List Thing, μ = b.gs.l.length - i ∧ j = i ∧ i ≤ b.gs.l.length ∧ Y (leavesFrom 0 (b.gs.l.take i)) C1 ∧ s = ⟨[], [(0, .yield l), (1, .ptr bx 0 2), (16, b.gs.v), (17, iv (b.gs.l.length : Int)), (18, iv j)], (.row bx 2 [iv b.signed, b.gs.v]) :: C1⟩) (k := _) (s' := _) ⟨0, 0, _, rfl, (by first | rfl | omega | (simp; done) | (simp; omega) | simp_all), (by first | rfl | omega | (simp; done) | (simp; omega) | simp_all), (by simpa [leavesFrom] using hY), rfl⟩ ⟨rfl, (keep_cons rfl (keep_cons rfl (keep_cons rfl (keep_cons rfl (keep_cons rfl keep_nil))))), (.cons_cons _ (.refl _))⟩ ?_)))))))));rintro μ _ ⟨i, j, C1, hk0, hj, hi, hY1, rfl⟩;subst hj;refine zU rfl (TO.lss rfl rfl rfl rfl rfl (fun c19 hc19=>zN (zS ?_)));cases c19 with
 | true =>
  replace hc19 := btrue hc19;refine zC rfl (zK (zS (zB (zU rfl (zM R4 (TO.index_gs rfl rfl rfl ⟨rfl, rfl⟩ rfl rfl aO (fun g rg eg=>?_)))))))
  try simp only [Int.toNat_natCast] at eg
  obtain ⟨hg1, hg2, hg3, hg4, hg5⟩ := hb.each g (List.mem_of_getElem? eg);refine zV R3 (Val.load_trees (c := _) ⟨⟨_, rfl, rfl⟩, rfl, by decide⟩ rfl rfl) (zJ 4 [_,_,_,_] R7 (fun b4=>zA R4 (TO.store_row (p := 0) (cv := [_, _, _, _]) (cells' := [_, _, _, _]) rfl rfl rfl rfl rfl rfl rfl rfl rfl rfl (by first | rfl | simp [GS.one]) (by decide) rfl (zG (_::_::C1) rfl (zN (zU rfl (zF 3 R6 (zL 0 R3 R6 (zV R3 (Val.len_gs rfl rfl) (TO.makeEn (en := encC) ⟨0, 0, 0⟩ (m := g.ch.l.length) (b := 24) rfl rfl rfl ⟨rfl, rfl⟩ rfl rfl rfl rfl rfl aO aO (fun v26 hv26=>zA R4 (zN (zU rfl (zM R4 (zF 3 R6 (zL 1 R3 R6 (TO.eff rfl rfl rfl (Eff.copy_gs (en := encC) (l := _) (p := 0) ⟨rfl, rfl⟩ (by decide) rfl rfl rfl rfl (en_ones encC_ones _) (by simp)) ?_)))))))))))))))));rintro _ _ ⟨rfl, rfl⟩;refine zG (_::_::_::C1) rfl (zN (zU rfl (zF 2 R6 (zL 1 R3 R6 (zV R3 (Val.add rfl rfl aO) (zM R4 (zN (zB (T.loop (fun μ s => ∃ n : Nat, ∃ j1 : Int, ∃ tk : Nat, ∃ w : AV, ∃ C2 : List Thing, μ = (g.leaves + 1).toNat - n ∧ j1 = n ∧ (n : Int) ≤ g.leaves + 1 ∧ ViewOf v26 3 g.ch.l.length tk w ∧ (∀ c ∈ g.ch.l.take tk, c.at_ < n) ∧ (∀ c ∈ g.ch.l.drop tk, n ≤ c.at_) ∧ Y (leavesFrom 0 (b.gs.l.take i) ++ (List.range n).flatMap (numLeaves (i : Int) g)) C2 ∧ s = ⟨[], [(0, .yield l), (1, .ptr bx 0 2), (16, b.gs.v), (17, iv (b.gs.l.length : Int)), (18, iv (i : Int)), (3, iv (i : Int)), (4, .ptr b4 0 4), (5, w), (33, iv (g.leaves + 1)), (34, iv j1)], (ownL false v26 encC g.ch.l) :: (.row b4 4 [iv g.round, iv g.letter, iv g.leaves, g.ch.v]) :: (.row bx 2 [iv b.signed, b.gs.v]) :: C2⟩) (k := _) (s' := _) ⟨0, 0, 0, _, _, rfl, (by first | rfl | omega | (simp; done) | (simp; omega) | simp_all), (by first | rfl | omega | (simp; done) | (simp; omega) | simp_all), (by exact hv26), (by first | rfl | omega | (simp; done) | (simp; omega) | simp_all), (by intro c hc; exact (hg5.each c (List.mem_of_mem_drop hc)).2.2.1), (by simpa using hY1), rfl⟩ ⟨rfl, (keep_cons rfl (keep_cons rfl (keep_cons rfl (keep_cons rfl (keep_cons rfl (keep_cons rfl (keep_cons rfl (keep_cons rfl (keep_cons rfl (keep_cons rfl keep_nil)))))))))), (.cons_cons _ (.cons_cons _ (.cons_cons _ (.refl _))))⟩ ?_)))))))));rintro μ _ ⟨n, j1, tk, w, C2, hk1, hj1, hn, hw, hs1, hs2, hY2, rfl⟩;subst hj1;refine zU rfl (TO.lss rfl rfl rfl rfl rfl (fun c35 hc35=>zN (zS ?_)));cases c35 with
  | true =>
   replace hc35 := btrue hc35;refine zC rfl (zK (zS (zB (zU rfl (zM R4 (zA R4 (zN (zU rfl (zM R4 (zM R4 (zV R3 (Val.build (cs := [_, _, _, _]) (vs := [(_, _), (_, _)]) rfl rfl rfl) (zJ 4 [_,_,_,_] R7 (fun b7=>TO.store_row (p := 0) (cv := [_, _, _, _]) (cells' := [_, _, _, _]) rfl rfl rfl rfl rfl rfl rfl rfl rfl rfl (by first | rfl | simp [GS.one]) (by decide) rfl (zG (_::_::_::_::C2) rfl (zN (zU rfl (zM R4 (TO.gtr rfl rfl rfl rfl rfl (fun c41 hc41=>zA R4 (zA R4 (zN (zS (zB (T.loop (fun μ s => ∃ s3 : Nat, ∃ w3 : AV, ∃ th : Bool, ∃ kd : Int, ∃ mo : Int, μ = g.ch.l.length - s3 ∧ ViewOf v26 3 g.ch.l.length s3 w3 ∧ AtN g.ch.l n s3 ∧ (th = true ↔ 0 < (n : Int) ∧ (plusOf (g.ch.l.take s3) n).2 ≠ 1) ∧ kd = (if (plusOf (g.ch.l.take s3) n).2 = 2 then 1 else 0) ∧ mo = (plusOf (g.ch.l.take s3) n).1 ∧ s = ⟨[], [(0, .yield l), (1, .ptr bx 0 2), (16, b.gs.v), (17, iv (b.gs.l.length : Int)), (18, iv (i : Int)), (3, iv (i : Int)), (4, .ptr b4 0 4), (5, w3), (33, iv (g.leaves + 1)), (34, iv (n : Int)), (6, iv (n : Int)), (7, .ptr b7 0 4), (8, bv th), (9, iv mo)], (.row b7 4 [iv (i : Int), iv (n : Int), iv 0, iv kd]) :: (ownL false v26 encC g.ch.l) :: (.row b4 4 [iv g.round, iv g.letter, iv g.leaves, g.ch.v]) :: (.row bx 2 [iv b.signed, b.gs.v]) :: C2⟩) (k := _) (s' := _) ⟨tk, w, _, 0, 0, rfl, (by exact hw), (by exact (AtN.start hs1 hs2).1), (by rw [(AtN.start hs1 hs2).2, hc41]; simp), (by rw [(AtN.start hs1 hs2).2]; rfl), (by rw [(AtN.start hs1 hs2).2]), rfl⟩ ⟨rfl, (keep_cons rfl (keep_cons rfl (keep_cons rfl (keep_cons rfl (keep_cons rfl (keep_cons rfl (keep_cons rfl (keep_cons rfl (keep_cons rfl (keep_cons rfl (keep_cons rfl (keep_cons rfl (keep_cons rfl (keep_cons rfl keep_nil)))))))))))))), (.cons_cons _ (.cons_cons _ (.cons_cons _ (.cons_cons _ (.refl _)))))⟩ ?_))))))))))))))))))))))));rintro μ _ ⟨s3, w3, th, kd, mo, hk2, hw3, hat, hth, hkd, hmo, rfl⟩;refine zS (zU rfl (zM R4 (zV R3 (Val.len_view hw3 rfl rfl) (TO.gtr rfl rfl rfl rfl rfl (fun c44 hc44=>zM R4 ?_)))));cases c44 with
   | true =>
    replace hc44 := btrue hc44;refine zM R4 (TO.iaddr_view (en := encC) (p := 1) rfl rfl rfl ⟨rfl, rfl⟩ rfl hw3 rfl rfl (by show 0 ≤ (0 : Int) ∧ s3 + 0 < _; omega) (fun id47 c atc ec=>?_));replace ec : g.ch.l[s3]? = some c := ec;refine zV R3 (Val.faddr_ptr_ rfl rfl) (zV R3 (Val.load_ownL (en := encC) (p := 1) (j := 1) rfl atc ⟨_, rfl, rfl⟩ rfl ec rfl) (zM R4 (TO.eql rfl rfl rfl rfl rfl (fun c51 hc51=>zP R6 (zN ?_)))));cases c51 with
    | true =>
     replace hc51 := btrue hc51;refine zC rfl (zK (zB (zS (zU rfl (zM R4 (TO.iaddr_view (en := encC) (p := 1) rfl rfl rfl ⟨rfl, rfl⟩ rfl hw3 rfl rfl (by show 0 ≤ (0 : Int) ∧ s3 + 0 < _; omega) (fun id54 c2 atc2 ec2=>?_)))))))
     have e54 : c2 = c := Option.some.inj (Eq.trans (show some c2 = g.ch.l[s3]? from ec2.symm) ec);subst e54;refine zV R3 (Val.load_ownA (en := encC) (p := 1) rfl atc2 ⟨⟨_, rfl, rfl⟩, rfl, by decide⟩ rfl ec2) (TO.callIn rfl rfl rfl rfl rfl rfl (orcN rfl) (TF.enter (fn := Go.Proofs.Tryz.f90) rfl rfl rfl rfl rfl (zU rfl (zQ 3 [_,_,_] R7 (fun b1=>zA R4 (zN (zS (zU rfl (zF 0 R6 (zL 0 R3 R6 (zN (zB (zU rfl (TO.eql rfl rfl rfl rfl rfl (fun c6 hc6=>zA R4 (zN ?_))))))))))))))));cases c6 with
     | true =>
      replace hc6 := btrue hc6
      have hp0 := plusOf_first hg5.order ec hc51 aO
      have hp := step_less hg5.order ec hc51 hc6;refine zC rfl (zU rfl (zF 1 R6 (zL 0 R3 R6 (zV R3 (Val.build (cs := [_]) (vs := [(_, _)]) rfl rfl rfl) (zV R3 (Val.makeIface rfl rfl rfl) (zA R4 (zN (zR ?_))))))));refine ⟨rfl, _, rfl, ?_⟩;refine zN (zB (zU rfl (zV R3 (Val.assert_yes rfl rfl rfl rfl) (zX R5 (zX R5 (zN (zC rfl (zU rfl (zJ 1 [_] R7 (fun b10=>TO.store_row (p := 0) (cv := [_]) (cells' := [_]) rfl rfl rfl rfl rfl rfl rfl rfl rfl rfl (by first | rfl | simp [GS.one]) (by decide) rfl (zG (_::_::_::_::_::_::C2) rfl (zN (zT rfl (zA R4 (zN (zT rfl (zM R4 (TO.slice_view (en := encC) (p := 3) (j := 1) rfl rfl rfl ⟨rfl, rfl⟩ rfl hw3 rfl rfl aO (fun w70 hw70=>zA R4 (zN ?_))))))))))))))))))));refine ⟨_, _, aO, ⟨s3 + 1, _, _, _, _, rfl, (by exact hw70), (by exact hat.one ec hc51), (by rw [hp]; simp), (by rw [hp]; rw [hp0] at hkd; simpa using hkd), (by rw [hp]; rw [hp0] at hmo; exact hmo), rfl⟩, ⟨rfl, (keep_cons rfl (keep_cons rfl (keep_cons rfl (keep_cons rfl (keep_cons rfl (keep_cons rfl (keep_cons rfl (keep_cons rfl (keep_cons rfl (keep_cons rfl (keep_cons rfl (keep_cons rfl (keep_cons rfl (keep_cons rfl keep_nil)))))))))))))), (.cons _ (.cons _ (.cons_cons _ (.cons_cons _ (.cons_cons _ (.cons_cons _ (.refl _)))))))⟩⟩
     | false =>
      replace hc6 := bfalse hc6;refine zD rfl (zU rfl (TO.eql rfl rfl rfl rfl rfl (fun c12 hc12=>zA R4 (zN ?_))));cases c12 with
      | true =>
       replace hc12 := btrue hc12
       have hp0 := plusOf_first hg5.order ec hc51 aO
       have hp := step_swap hg5.order ec hc51 hc12;refine zC rfl (zU rfl (zF 1 R6 (zL 0 R3 R6 (zV R3 (Val.build (cs := [_]) (vs := [(_, _)]) rfl rfl rfl) (zV R3 (Val.makeIface rfl rfl rfl) (zA R4 (zN (zR ?_))))))));refine ⟨rfl, _, rfl, ?_⟩;refine zN (zB (zU rfl (zV R3 (Val.assert_no rfl rfl rfl rfl rfl) (zX R5 (zX R5 (zN (zD rfl (zU rfl (zV R3 (Val.assert_yes rfl rfl rfl rfl) (zX R5 (zX R5 (zN (zC rfl (zU rfl (zJ 1 [_] R7 (fun b11=>TO.store_row (p := 0) (cv := [_]) (cells' := [_]) rfl rfl rfl rfl rfl rfl rfl rfl rfl rfl (by first | rfl | simp [GS.one]) (by decide) rfl (zG (_::_::_::_::_::_::C2) rfl (zN (zT rfl (zF 3 R6 (TO.store_row (p := 2) (cv := [_]) (cells' := [_, _, _, _]) rfl rfl rfl rfl rfl rfl rfl rfl rfl rfl (by first | rfl | simp [GS.one]) (by decide) rfl (zG (_::_::_::_::_::_::C2) rfl (zN (zT rfl (zM R4 (TO.slice_view (en := encC) (p := 3) (j := 1) rfl rfl rfl ⟨rfl, rfl⟩ rfl hw3 rfl rfl aO (fun w70 hw70=>zA R4 (zN ?_))))))))))))))))))))))))))));refine ⟨_, _, aO, ⟨s3 + 1, _, _, _, _, rfl, (by exact hw70), (by exact hat.one ec hc51), (by rw [hp]; rw [hp0] at hth; simpa using hth), (by rw [hp]; rfl), (by rw [hp]; rw [hp0] at hmo; exact hmo), rfl⟩, ⟨rfl, (keep_cons rfl (keep_cons rfl (keep_cons rfl (keep_cons rfl (keep_cons rfl (keep_cons rfl (keep_cons rfl (keep_cons rfl (keep_cons rfl (keep_cons rfl (keep_cons rfl (keep_cons rfl (keep_cons rfl (keep_cons rfl keep_nil)))))))))))))), (.cons _ (.cons _ (.cons_cons _ (.cons_cons _ (.cons_cons _ (.cons_cons _ (.refl _)))))))⟩⟩
      | false =>
       replace hc12 := bfalse hc12;refine zD rfl (zU rfl (TO.eql rfl rfl rfl rfl rfl (fun c18 hc18=>zA R4 (zN ?_))));cases c18 with
       | true =>
        replace hc18 := btrue hc18
        have hp := step_plus ec hc51 hc18;refine zC rfl (zU rfl (zF 1 R6 (zL 0 R3 R6 (zF 2 R6 (zL 0 R3 R6 (zV R3 (Val.build (cs := [_, _]) (vs := [(_, _), (_, _)]) rfl rfl rfl) (zV R3 (Val.makeIface rfl rfl rfl) (zA R4 (zN (zR ?_))))))))));refine ⟨rfl, _, rfl, ?_⟩;refine zN (zB (zU rfl (zV R3 (Val.assert_no rfl rfl rfl rfl rfl) (zX R5 (zX R5 (zN (zD rfl (zU rfl (zV R3 (Val.assert_no rfl rfl rfl rfl rfl) (zX R5 (zX R5 (zN (zD rfl (zU rfl (zV R3 (Val.assert_yes rfl rfl rfl rfl) (zX R5 (zX R5 (zN (zC rfl (zU rfl (zJ 2 [_,_] R7 (fun b12=>TO.store_row (p := 0) (cv := [_, _]) (cells' := [_, _]) rfl rfl rfl rfl rfl rfl rfl rfl rfl rfl (by first | rfl | simp [GS.one]) (by decide) rfl (zG (_::_::_::_::_::_::C2) rfl (zN (zT rfl (zF 1 R6 (zL 0 R3 R6 (zA R4 (zN (zT rfl (zM R4 (TO.slice_view (en := encC) (p := 3) (j := 1) rfl rfl rfl ⟨rfl, rfl⟩ rfl hw3 rfl rfl aO (fun w70 hw70=>zA R4 (zN ?_))))))))))))))))))))))))))))))))));refine ⟨_, _, aO, ⟨s3 + 1, _, _, _, _, rfl, (by exact hw70), (by exact hat.one ec hc51), (by rw [hp]; exact hth), (by rw [hp]; exact hkd), (by rw [hp]), rfl⟩, ⟨rfl, (keep_cons rfl (keep_cons rfl (keep_cons rfl (keep_cons rfl (keep_cons rfl (keep_cons rfl (keep_cons rfl (keep_cons rfl (keep_cons rfl (keep_cons rfl (keep_cons rfl (keep_cons rfl (keep_cons rfl (keep_cons rfl keep_nil)))))))))))))), (.cons _ (.cons _ (.cons_cons _ (.cons_cons _ (.cons_cons _ (.cons_cons _ (.refl _)))))))⟩⟩
       | false =>
        replace hc18 := bfalse hc18
        exfalso; have := hg5.each _ (List.mem_of_getElem? ec); omega
    | false =>
     replace hc51 := bfalse hc51
     have hov := hat.over hg5.order (.inr ⟨_, ec, hc51⟩)
     have hmo4 : mo ≤ 4 := by rw [hmo]; exact plusOf_le fun c hc => (hg5.each c (List.mem_of_mem_take hc)).2.2.2.2
     refine zD rfl (zE (zS (zU rfl (zM R4 (zM R4 ?_)))));cases th with
     | true =>
      replace hth := btrue hth
      have hown : ownLeaf (i : Int) (n : Int) g = [⟨i, n, 0, kd⟩] := by unfold ownLeaf; rw [hov.1, if_pos hth, ← hkd]
      refine zM R4 (zV R3 (vW 0 [_,_,_,_] R5 R4) (TO.perm (hs' := C2 ++ [_, _, _, _]) List.perm_append_comm (TO.callY rfl rfl rfl rfl rfl (hy (leavesFrom 0 (b.gs.l.take i) ++ (List.range n).flatMap (numLeaves (i : Int) g)) ⟨(i : Int), (n : Int), 0, kd⟩ _ [] C2 _ (hown ▸ own_first eg hc35) ⟨rfl, rfl⟩ hY2) ?_)));rintro _ _ (⟨rfl, C9, rfl, hY9⟩ | ⟨rfl, C9, rfl, hZ9⟩)
      ·skip;refine TO.perm (hs' := [_, _, _, _] ++ C9) List.perm_append_comm (zG (_::_::_::_::C9) rfl (zV R3 (Val.not rfl) (zP R6 (zN (zD rfl (zK (zU rfl (zM R4 (zM R4 (zN (zB (T.loop (fun μ s => ∃ k1 : Nat, ∃ j3 : Int, ∃ C3 : List Thing, μ = mo.toNat - k1 ∧ j3 = k1 ∧ (k1 : Int) ≤ max 0 mo ∧ Y (leavesFrom 0 (b.gs.l.take i) ++ (List.range n).flatMap (numLeaves (i : Int) g) ++ ownLeaf (i : Int) (n : Int) g ++ newLeaves (i : Int) (n : Int) k1) C3 ∧ s = ⟨[], [(0, .yield l), (1, .ptr bx 0 2), (16, b.gs.v), (17, iv (b.gs.l.length : Int)), (18, iv (i : Int)), (3, iv (i : Int)), (4, .ptr b4 0 4), (5, w3), (33, iv (g.leaves + 1)), (34, iv (n : Int)), (6, iv (n : Int)), (78, iv mo), (79, iv j3)], (ownL false v26 encC g.ch.l) :: (.row b4 4 [iv g.round, iv g.letter, iv g.leaves, g.ch.v]) :: (.row bx 2 [iv b.signed, b.gs.v]) :: C3⟩) (k := _) (s' := _) ⟨0, 0, _, rfl, (by first | rfl | omega | (simp; done) | (simp; omega) | simp_all), (by first | rfl | omega | (simp; done) | (simp; omega) | simp_all), (by rw [hown, show newLeaves (i : Int) (n : Int) 0 = [] from rfl, List.append_nil]; first | exact hY9 | (rw [List.append_nil]; exact hY2)), rfl⟩ ⟨rfl, (keep_cons rfl (keep_cons rfl (keep_cons rfl (keep_cons rfl (keep_cons rfl (keep_cons rfl (keep_cons rfl (keep_cons rfl (keep_cons rfl (keep_cons rfl (keep_cons rfl (keep_cons rfl (keep_cons rfl keep_nil))))))))))))), (.cons _ (.cons_cons _ (.cons_cons _ (.cons_cons _ (.refl _)))))⟩ ?_))))))))))))
       rintro μ _ ⟨k1, j3, C3, hk3, hj3, hk1, hY3, rfl⟩;subst hj3;refine zU rfl (TO.lss rfl rfl rfl rfl rfl (fun c80 hc80=>zN (zS ?_)));cases c80 with
       | true =>
        replace hc80 := btrue hc80;refine zC rfl (zK (zS (zB (zU rfl (zM R4 (zA R4 (zN (zU rfl (zM R4 (zM R4 (zM R4 (zM R4 (zV R3 (Val.add rfl rfl aO) (zV R3 (Val.build (cs := [_, _, _, _]) (vs := [(_, _), (_, _), (_, _), (_, _)]) rfl rfl rfl) (TO.perm (hs' := C3 ++ [_, _, _]) List.perm_append_comm (TO.callY rfl rfl rfl rfl rfl (hy (leavesFrom 0 (b.gs.l.take i) ++ (List.range n).flatMap (numLeaves (i : Int) g) ++ ownLeaf (i : Int) (n : Int) g ++ newLeaves (i : Int) (n : Int) k1) ⟨(i : Int), (n : Int), (k1 : Int) + 1, 2⟩ _ [] C3 _ (by rw [List.append_assoc, ← newLeaves_succ]; exact new_first eg hc35 (by rw [hov.1, ← hmo]; omega)) ⟨rfl, rfl⟩ hY3) ?_))))))))))))))));rintro _ _ (⟨rfl, C9, rfl, hY9⟩ | ⟨rfl, C9, rfl, hZ9⟩)
        ·skip;refine TO.perm (hs' := [_, _, _] ++ C9) List.perm_append_comm (zG (_::_::_::C9) rfl (zV R3 (Val.not rfl) (zN (zD rfl (zK (zT rfl (zV R3 (Val.add rfl rfl aO) (zM R4 (zN ?_)))))))))
         refine ⟨_, _, aO, ⟨k1 + 1, _, _, rfl, (by first | omega | simp_all), (by first | omega | simp_all), (by rw [newLeaves_succ, ← List.append_assoc]; exact hY9), rfl⟩, ⟨rfl, (keep_cons rfl (keep_cons rfl (keep_cons rfl (keep_cons rfl (keep_cons rfl (keep_cons rfl (keep_cons rfl (keep_cons rfl (keep_cons rfl (keep_cons rfl (keep_cons rfl (keep_cons rfl (keep_cons rfl keep_nil))))))))))))), (.cons_cons _ (.cons_cons _ (.cons_cons _ (.refl _))))⟩⟩
        ·skip;refine TO.perm (hs' := [_, _, _] ++ C9) List.perm_append_comm (zG (_::_::_::C9) rfl (zV R3 (Val.not rfl) (zN (zC rfl (T.keep (s' := ⟨[], [], _ :: C9⟩) (sc (.cons _ (.cons _ (.cons_cons _ (.refl _))))) (zR ?_))))))
         obtain ⟨r9, hr9⟩ := new_first (j := k1 + 1) eg hc35 (by rw [hov.1, ← hmo]; omega); exact ⟨rfl, _, rfl, C9, rfl, .inr ⟨_, r9, hr9.symm, by rw [newLeaves_succ, ← List.append_assoc]; exact hZ9⟩⟩
       | false =>
        replace hc80 := bfalse hc80
        have hkm : k1 = mo.toNat := by omega
        have enum : numLeaves (i : Int) g n = ownLeaf (i : Int) (n : Int) g ++ newLeaves (i : Int) (n : Int) k1 := by unfold numLeaves; rw [hov.1, ← hmo, hkm]
        refine zD rfl (zE (zT rfl (zV R3 (Val.add rfl rfl aO) (zM R4 (zN ?_)))));refine ⟨_, _, aO, ⟨n + 1, _, _, _, _, rfl, (by first | omega | simp_all), (by first | omega | simp_all), (by exact hw3), (by intro c hc; have := hov.2.1 c hc; omega), (by intro c hc; have := hov.2.2 c hc; omega), (by rw [range_flat_succ, enum, ← List.append_assoc, ← List.append_assoc]; exact hY3), rfl⟩, ⟨rfl, (keep_cons rfl (keep_cons rfl (keep_cons rfl (keep_cons rfl (keep_cons rfl (keep_cons rfl (keep_cons rfl (keep_cons rfl (keep_cons rfl (keep_cons rfl keep_nil)))))))))), (.cons_cons _ (.cons_cons _ (.cons_cons _ (.refl _))))⟩⟩
      ·skip;refine TO.perm (hs' := [_, _, _, _] ++ C9) List.perm_append_comm (zG (_::_::_::_::C9) rfl (zV R3 (Val.not rfl) (zP R6 (zN (zC rfl (T.keep (s' := ⟨[], [], _ :: C9⟩) (sc (.cons _ (.cons _ (.cons _ (.cons_cons _ (.refl _)))))) (zR ?_)))))))
       obtain ⟨r9, hr9⟩ := new_first (j := 0) eg hc35 (Nat.zero_le _); exact ⟨rfl, _, rfl, C9, rfl, .inr ⟨_, r9, hr9.symm, by rw [hown, show newLeaves (i : Int) (n : Int) 0 = [] from rfl, List.append_nil]; exact hZ9⟩⟩
     | false =>
      replace hth := bfalse hth
      have hown : ownLeaf (i : Int) (n : Int) g = [] := by unfold ownLeaf; rw [hov.1, if_neg hth]
      refine zO R3 (zO R3 (zO R3 (zO R3 (zP R6 (zN (zD rfl (zK (zU rfl (zM R4 (zM R4 (zN (zB (T.loop (fun μ s => ∃ k1 : Nat, ∃ j3 : Int, ∃ C3 : List Thing, μ = mo.toNat - k1 ∧ j3 = k1 ∧ (k1 : Int) ≤ max 0 mo ∧ Y (leavesFrom 0 (b.gs.l.take i) ++ (List.range n).flatMap (numLeaves (i : Int) g) ++ ownLeaf (i : Int) (n : Int) g ++ newLeaves (i : Int) (n : Int) k1) C3 ∧ s = ⟨[], [(0, .yield l), (1, .ptr bx 0 2), (16, b.gs.v), (17, iv (b.gs.l.length : Int)), (18, iv (i : Int)), (3, iv (i : Int)), (4, .ptr b4 0 4), (5, w3), (33, iv (g.leaves + 1)), (34, iv (n : Int)), (6, iv (n : Int)), (78, iv mo), (79, iv j3)], (ownL false v26 encC g.ch.l) :: (.row b4 4 [iv g.round, iv g.letter, iv g.leaves, g.ch.v]) :: (.row bx 2 [iv b.signed, b.gs.v]) :: C3⟩) (k := _) (s' := _) ⟨0, 0, _, rfl, (by first | rfl | omega | (simp; done) | (simp; omega) | simp_all), (by first | rfl | omega | (simp; done) | (simp; omega) | simp_all), (by rw [hown, show newLeaves (i : Int) (n : Int) 0 = [] from rfl, List.append_nil]; first | exact hY9 | (rw [List.append_nil]; exact hY2)), rfl⟩ ⟨rfl, (keep_cons rfl (keep_cons rfl (keep_cons rfl (keep_cons rfl (keep_cons rfl (keep_cons rfl (keep_cons rfl (keep_cons rfl (keep_cons rfl (keep_cons rfl (keep_cons rfl (keep_cons rfl (keep_cons rfl keep_nil))))))))))))), (.cons _ (.cons_cons _ (.cons_cons _ (.cons_cons _ (.refl _)))))⟩ ?_)))))))))))));rintro μ _ ⟨k1, j3, C3, hk3, hj3, hk1, hY3, rfl⟩;subst hj3;refine zU rfl (TO.lss rfl rfl rfl rfl rfl (fun c80 hc80=>zN (zS ?_)));cases c80 with
      | true =>
       replace hc80 := btrue hc80;refine zC rfl (zK (zS (zB (zU rfl (zM R4 (zA R4 (zN (zU rfl (zM R4 (zM R4 (zM R4 (zM R4 (zV R3 (Val.add rfl rfl aO) (zV R3 (Val.build (cs := [_, _, _, _]) (vs := [(_, _), (_, _), (_, _), (_, _)]) rfl rfl rfl) (TO.perm (hs' := C3 ++ [_, _, _]) List.perm_append_comm (TO.callY rfl rfl rfl rfl rfl (hy (leavesFrom 0 (b.gs.l.take i) ++ (List.range n).flatMap (numLeaves (i : Int) g) ++ ownLeaf (i : Int) (n : Int) g ++ newLeaves (i : Int) (n : Int) k1) ⟨(i : Int), (n : Int), (k1 : Int) + 1, 2⟩ _ [] C3 _ (by rw [List.append_assoc, ← newLeaves_succ]; exact new_first eg hc35 (by rw [hov.1, ← hmo]; omega)) ⟨rfl, rfl⟩ hY3) ?_))))))))))))))));rintro _ _ (⟨rfl, C9, rfl, hY9⟩ | ⟨rfl, C9, rfl, hZ9⟩)
       ·skip;refine TO.perm (hs' := [_, _, _] ++ C9) List.perm_append_comm (zG (_::_::_::C9) rfl (zV R3 (Val.not rfl) (zN (zD rfl (zK (zT rfl (zV R3 (Val.add rfl rfl aO) (zM R4 (zN ?_)))))))))
        refine ⟨_, _, aO, ⟨k1 + 1, _, _, rfl, (by first | omega | simp_all), (by first | omega | simp_all), (by rw [newLeaves_succ, ← List.append_assoc]; exact hY9), rfl⟩, ⟨rfl, (keep_cons rfl (keep_cons rfl (keep_cons rfl (keep_cons rfl (keep_cons rfl (keep_cons rfl (keep_cons rfl (keep_cons rfl (keep_cons rfl (keep_cons rfl (keep_cons rfl (keep_cons rfl (keep_cons rfl keep_nil))))))))))))), (.cons_cons _ (.cons_cons _ (.cons_cons _ (.refl _))))⟩⟩
       ·skip;refine TO.perm (hs' := [_, _, _] ++ C9) List.perm_append_comm (zG (_::_::_::C9) rfl (zV R3 (Val.not rfl) (zN (zC rfl (T.keep (s' := ⟨[], [], _ :: C9⟩) (sc (.cons _ (.cons _ (.cons_cons _ (.refl _))))) (zR ?_))))))
        obtain ⟨r9, hr9⟩ := new_first (j := k1 + 1) eg hc35 (by rw [hov.1, ← hmo]; omega); exact ⟨rfl, _, rfl, C9, rfl, .inr ⟨_, r9, hr9.symm, by rw [newLeaves_succ, ← List.append_assoc]; exact hZ9⟩⟩
      | false =>
       replace hc80 := bfalse hc80
       have hkm : k1 = mo.toNat := by omega
       have enum : numLeaves (i : Int) g n = ownLeaf (i : Int) (n : Int) g ++ newLeaves (i : Int) (n : Int) k1 := by unfold numLeaves; rw [hov.1, ← hmo, hkm]
       refine zD rfl (zE (zT rfl (zV R3 (Val.add rfl rfl aO) (zM R4 (zN ?_)))));refine ⟨_, _, aO, ⟨n + 1, _, _, _, _, rfl, (by first | omega | simp_all), (by first | omega | simp_all), (by exact hw3), (by intro c hc; have := hov.2.1 c hc; omega), (by intro c hc; have := hov.2.2 c hc; omega), (by rw [range_flat_succ, enum, ← List.append_assoc, ← List.append_assoc]; exact hY3), rfl⟩, ⟨rfl, (keep_cons rfl (keep_cons rfl (keep_cons rfl (keep_cons rfl (keep_cons rfl (keep_cons rfl (keep_cons rfl (keep_cons rfl (keep_cons rfl (keep_cons rfl keep_nil)))))))))), (.cons_cons _ (.cons_cons _ (.cons_cons _ (.refl _))))⟩⟩
   | false =>
    replace hc44 := bfalse hc44
    have hov := hat.over hg5.order (.inl aO)
    have hmo4 : mo ≤ 4 := by rw [hmo]; exact plusOf_le fun c hc => (hg5.each c (List.mem_of_mem_take hc)).2.2.2.2
    refine zO R3 (zO R3 (zO R3 (zO R3 (zO R3 (zO R3 (zP R6 (zN (zD rfl (zE (zS (zU rfl (zM R4 (zM R4 ?_)))))))))))));cases th with
    | true =>
     replace hth := btrue hth
     have hown : ownLeaf (i : Int) (n : Int) g = [⟨i, n, 0, kd⟩] := by unfold ownLeaf; rw [hov.1, if_pos hth, ← hkd]
     refine zM R4 (zV R3 (vW 0 [_,_,_,_] R5 R4) (TO.perm (hs' := C2 ++ [_, _, _, _]) List.perm_append_comm (TO.callY rfl rfl rfl rfl rfl (hy (leavesFrom 0 (b.gs.l.take i) ++ (List.range n).flatMap (numLeaves (i : Int) g)) ⟨(i : Int), (n : Int), 0, kd⟩ _ [] C2 _ (hown ▸ own_first eg hc35) ⟨rfl, rfl⟩ hY2) ?_)));rintro _ _ (⟨rfl, C9, rfl, hY9⟩ | ⟨rfl, C9, rfl, hZ9⟩)
     ·skip;refine TO.perm (hs' := [_, _, _, _] ++ C9) List.perm_append_comm (zG (_::_::_::_::C9) rfl (zV R3 (Val.not rfl) (zP R6 (zN (zD rfl (zK (zU rfl (zM R4 (zM R4 (zN (zB (T.loop (fun μ s => ∃ k1 : Nat, ∃ j3 : Int, ∃ C3 : List Thing, μ = mo.toNat - k1 ∧ j3 = k1 ∧ (k1 : Int) ≤ max 0 mo ∧ Y (leavesFrom 0 (b.gs.l.take i) ++ (List.range n).flatMap (numLeaves (i : Int) g) ++ ownLeaf (i : Int) (n : Int) g ++ newLeaves (i : Int) (n : Int) k1) C3 ∧ s = ⟨[], [(0, .yield l), (1, .ptr bx 0 2), (16, b.gs.v), (17, iv (b.gs.l.length : Int)), (18, iv (i : Int)), (3, iv (i : Int)), (4, .ptr b4 0 4), (5, w3), (33, iv (g.leaves + 1)), (34, iv (n : Int)), (6, iv (n : Int)), (78, iv mo), (79, iv j3)], (ownL false v26 encC g.ch.l) :: (.row b4 4 [iv g.round, iv g.letter, iv g.leaves, g.ch.v]) :: (.row bx 2 [iv b.signed, b.gs.v]) :: C3⟩) (k := _) (s' := _) ⟨0, 0, _, rfl, (by first | rfl | omega | (simp; done) | (simp; omega) | simp_all), (by first | rfl | omega | (simp; done) | (simp; omega) | simp_all), (by rw [hown, show newLeaves (i : Int) (n : Int) 0 = [] from rfl, List.append_nil]; first | exact hY9 | (rw [List.append_nil]; exact hY2)), rfl⟩ ⟨rfl, (keep_cons rfl (keep_cons rfl (keep_cons rfl (keep_cons rfl (keep_cons rfl (keep_cons rfl (keep_cons rfl (keep_cons rfl (keep_cons rfl (keep_cons rfl (keep_cons rfl (keep_cons rfl (keep_cons rfl keep_nil))))))))))))), (.cons _ (.cons_cons _ (.cons_cons _ (.cons_cons _ (.refl _)))))⟩ ?_))))))))))))
      rintro μ _ ⟨k1, j3, C3, hk3, hj3, hk1, hY3, rfl⟩;subst hj3;refine zU rfl (TO.lss rfl rfl rfl rfl rfl (fun c80 hc80=>zN (zS ?_)));cases c80 with
      | true =>
       replace hc80 := btrue hc80;refine zC rfl (zK (zS (zB (zU rfl (zM R4 (zA R4 (zN (zU rfl (zM R4 (zM R4 (zM R4 (zM R4 (zV R3 (Val.add rfl rfl aO) (zV R3 (Val.build (cs := [_, _, _, _]) (vs := [(_, _), (_, _), (_, _), (_, _)]) rfl rfl rfl) (TO.perm (hs' := C3 ++ [_, _, _]) List.perm_append_comm (TO.callY rfl rfl rfl rfl rfl (hy (leavesFrom 0 (b.gs.l.take i) ++ (List.range n).flatMap (numLeaves (i : Int) g) ++ ownLeaf (i : Int) (n : Int) g ++ newLeaves (i : Int) (n : Int) k1) ⟨(i : Int), (n : Int), (k1 : Int) + 1, 2⟩ _ [] C3 _ (by rw [List.append_assoc, ← newLeaves_succ]; exact new_first eg hc35 (by rw [hov.1, ← hmo]; omega)) ⟨rfl, rfl⟩ hY3) ?_))))))))))))))));rintro _ _ (⟨rfl, C9, rfl, hY9⟩ | ⟨rfl, C9, rfl, hZ9⟩)
       ·skip;refine TO.perm (hs' := [_, _, _] ++ C9) List.perm_append_comm (zG (_::_::_::C9) rfl (zV R3 (Val.not rfl) (zN (zD rfl (zK (zT rfl (zV R3 (Val.add rfl rfl aO) (zM R4 (zN ?_)))))))))
        refine ⟨_, _, aO, ⟨k1 + 1, _, _, rfl, (by first | omega | simp_all), (by first | omega | simp_all), (by rw [newLeaves_succ, ← List.append_assoc]; exact hY9), rfl⟩, ⟨rfl, (keep_cons rfl (keep_cons rfl (keep_cons rfl (keep_cons rfl (keep_cons rfl (keep_cons rfl (keep_cons rfl (keep_cons rfl (keep_cons rfl (keep_cons rfl (keep_cons rfl (keep_cons rfl (keep_cons rfl keep_nil))))))))))))), (.cons_cons _ (.cons_cons _ (.cons_cons _ (.refl _))))⟩⟩
       ·skip;refine TO.perm (hs' := [_, _, _] ++ C9) List.perm_append_comm (zG (_::_::_::C9) rfl (zV R3 (Val.not rfl) (zN (zC rfl (T.keep (s' := ⟨[], [], _ :: C9⟩) (sc (.cons _ (.cons _ (.cons_cons _ (.refl _))))) (zR ?_))))))
        obtain ⟨r9, hr9⟩ := new_first (j := k1 + 1) eg hc35 (by rw [hov.1, ← hmo]; omega); exact ⟨rfl, _, rfl, C9, rfl, .inr ⟨_, r9, hr9.symm, by rw [newLeaves_succ, ← List.append_assoc]; exact hZ9⟩⟩
      | false =>
       replace hc80 := bfalse hc80
       have hkm : k1 = mo.toNat := by omega
       have enum : numLeaves (i : Int) g n = ownLeaf (i : Int) (n : Int) g ++ newLeaves (i : Int) (n : Int) k1 := by unfold numLeaves; rw [hov.1, ← hmo, hkm]
       refine zD rfl (zE (zT rfl (zV R3 (Val.add rfl rfl aO) (zM R4 (zN ?_)))));refine ⟨_, _, aO, ⟨n + 1, _, _, _, _, rfl, (by first | omega | simp_all), (by first | omega | simp_all), (by exact hw3), (by intro c hc; have := hov.2.1 c hc; omega), (by intro c hc; have := hov.2.2 c hc; omega), (by rw [range_flat_succ, enum, ← List.append_assoc, ← List.append_assoc]; exact hY3), rfl⟩, ⟨rfl, (keep_cons rfl (keep_cons rfl (keep_cons rfl (keep_cons rfl (keep_cons rfl (keep_cons rfl (keep_cons rfl (keep_cons rfl (keep_cons rfl (keep_cons rfl keep_nil)))))))))), (.cons_cons _ (.cons_cons _ (.cons_cons _ (.refl _))))⟩⟩
     ·skip;refine TO.perm (hs' := [_, _, _, _] ++ C9) List.perm_append_comm (zG (_::_::_::_::C9) rfl (zV R3 (Val.not rfl) (zP R6 (zN (zC rfl (T.keep (s' := ⟨[], [], _ :: C9⟩) (sc (.cons _ (.cons _ (.cons _ (.cons_cons _ (.refl _)))))) (zR ?_)))))))
      obtain ⟨r9, hr9⟩ := new_first (j := 0) eg hc35 (Nat.zero_le _); exact ⟨rfl, _, rfl, C9, rfl, .inr ⟨_, r9, hr9.symm, by rw [hown, show newLeaves (i : Int) (n : Int) 0 = [] from rfl, List.append_nil]; exact hZ9⟩⟩
    | false =>
     replace hth := bfalse hth
     have hown : ownLeaf (i : Int) (n : Int) g = [] := by unfold ownLeaf; rw [hov.1, if_neg hth]
     refine zO R3 (zO R3 (zO R3 (zO R3 (zP R6 (zN (zD rfl (zK (zU rfl (zM R4 (zM R4 (zN (zB (T.loop (fun μ s => ∃ k1 : Nat, ∃ j3 : Int, ∃ C3 : List Thing, μ = mo.toNat - k1 ∧ j3 = k1 ∧ (k1 : Int) ≤ max 0 mo ∧ Y (leavesFrom 0 (b.gs.l.take i) ++ (List.range n).flatMap (numLeaves (i : Int) g) ++ ownLeaf (i : Int) (n : Int) g ++ newLeaves (i : Int) (n : Int) k1) C3 ∧ s = ⟨[], [(0, .yield l), (1, .ptr bx 0 2), (16, b.gs.v), (17, iv (b.gs.l.length : Int)), (18, iv (i : Int)), (3, iv (i : Int)), (4, .ptr b4 0 4), (5, w3), (33, iv (g.leaves + 1)), (34, iv (n : Int)), (6, iv (n : Int)), (78, iv mo), (79, iv j3)], (ownL false v26 encC g.ch.l) :: (.row b4 4 [iv g.round, iv g.letter, iv g.leaves, g.ch.v]) :: (.row bx 2 [iv b.signed, b.gs.v]) :: C3⟩) (k := _) (s' := _) ⟨0, 0, _, rfl, (by first | rfl | omega | (simp; done) | (simp; omega) | simp_all), (by first | rfl | omega | (simp; done) | (simp; omega) | simp_all), (by rw [hown, show newLeaves (i : Int) (n : Int) 0 = [] from rfl, List.append_nil]; first | exact hY9 | (rw [List.append_nil]; exact hY2)), rfl⟩ ⟨rfl, (keep_cons rfl (keep_cons rfl (keep_cons rfl (keep_cons rfl (keep_cons rfl (keep_cons rfl (keep_cons rfl (keep_cons rfl (keep_cons rfl (keep_cons rfl (keep_cons rfl (keep_cons rfl (keep_cons rfl keep_nil))))))))))))), (.cons _ (.cons_cons _ (.cons_cons _ (.cons_cons _ (.refl _)))))⟩ ?_)))))))))))));rintro μ _ ⟨k1, j3, C3, hk3, hj3, hk1, hY3, rfl⟩;subst hj3;refine zU rfl (TO.lss rfl rfl rfl rfl rfl (fun c80 hc80=>zN (zS ?_)));cases c80 with
     | true =>
      replace hc80 := btrue hc80;refine zC rfl (zK (zS (zB (zU rfl (zM R4 (zA R4 (zN (zU rfl (zM R4 (zM R4 (zM R4 (zM R4 (zV R3 (Val.add rfl rfl aO) (zV R3 (Val.build (cs := [_, _, _, _]) (vs := [(_, _), (_, _), (_, _), (_, _)]) rfl rfl rfl) (TO.perm (hs' := C3 ++ [_, _, _]) List.perm_append_comm (TO.callY rfl rfl rfl rfl rfl (hy (leavesFrom 0 (b.gs.l.take i) ++ (List.range n).flatMap (numLeaves (i : Int) g) ++ ownLeaf (i : Int) (n : Int) g ++ newLeaves (i : Int) (n : Int) k1) ⟨(i : Int), (n : Int), (k1 : Int) + 1, 2⟩ _ [] C3 _ (by rw [List.append_assoc, ← newLeaves_succ]; exact new_first eg hc35 (by rw [hov.1, ← hmo]; omega)) ⟨rfl, rfl⟩ hY3) ?_))))))))))))))));rintro _ _ (⟨rfl, C9, rfl, hY9⟩ | ⟨rfl, C9, rfl, hZ9⟩)
      ·skip;refine TO.perm (hs' := [_, _, _] ++ C9) List.perm_append_comm (zG (_::_::_::C9) rfl (zV R3 (Val.not rfl) (zN (zD rfl (zK (zT rfl (zV R3 (Val.add rfl rfl aO) (zM R4 (zN ?_)))))))))
       refine ⟨_, _, aO, ⟨k1 + 1, _, _, rfl, (by first | omega | simp_all), (by first | omega | simp_all), (by rw [newLeaves_succ, ← List.append_assoc]; exact hY9), rfl⟩, ⟨rfl, (keep_cons rfl (keep_cons rfl (keep_cons rfl (keep_cons rfl (keep_cons rfl (keep_cons rfl (keep_cons rfl (keep_cons rfl (keep_cons rfl (keep_cons rfl (keep_cons rfl (keep_cons rfl (keep_cons rfl keep_nil))))))))))))), (.cons_cons _ (.cons_cons _ (.cons_cons _ (.refl _))))⟩⟩
      ·skip;refine TO.perm (hs' := [_, _, _] ++ C9) List.perm_append_comm (zG (_::_::_::C9) rfl (zV R3 (Val.not rfl) (zN (zC rfl (T.keep (s' := ⟨[], [], _ :: C9⟩) (sc (.cons _ (.cons _ (.cons_cons _ (.refl _))))) (zR ?_))))))
       obtain ⟨r9, hr9⟩ := new_first (j := k1 + 1) eg hc35 (by rw [hov.1, ← hmo]; omega); exact ⟨rfl, _, rfl, C9, rfl, .inr ⟨_, r9, hr9.symm, by rw [newLeaves_succ, ← List.append_assoc]; exact hZ9⟩⟩
     | false =>
      replace hc80 := bfalse hc80
      have hkm : k1 = mo.toNat := by omega
      have enum : numLeaves (i : Int) g n = ownLeaf (i : Int) (n : Int) g ++ newLeaves (i : Int) (n : Int) k1 := by unfold numLeaves; rw [hov.1, ← hmo, hkm]
      refine zD rfl (zE (zT rfl (zV R3 (Val.add rfl rfl aO) (zM R4 (zN ?_)))));refine ⟨_, _, aO, ⟨n + 1, _, _, _, _, rfl, (by first | omega | simp_all), (by first | omega | simp_all), (by exact hw3), (by intro c hc; have := hov.2.1 c hc; omega), (by intro c hc; have := hov.2.2 c hc; omega), (by rw [range_flat_succ, enum, ← List.append_assoc, ← List.append_assoc]; exact hY3), rfl⟩, ⟨rfl, (keep_cons rfl (keep_cons rfl (keep_cons rfl (keep_cons rfl (keep_cons rfl (keep_cons rfl (keep_cons rfl (keep_cons rfl (keep_cons rfl (keep_cons rfl keep_nil)))))))))), (.cons_cons _ (.cons_cons _ (.cons_cons _ (.refl _))))⟩⟩
  | false =>
   replace hc35 := bfalse hc35
   have hn1 : (g.leaves + 1).toNat = n := by omega
   refine zD rfl (zE (zT rfl (zV R3 (Val.add rfl rfl aO) (zM R4 (zN ?_)))));refine ⟨_, _, aO, ⟨i + 1, _, _, rfl, (by first | omega | simp_all), (by first | omega | simp_all), (by rw [take_snoc eg, leavesFrom_snoc, List.length_take, Nat.min_eq_left aO, Nat.zero_add]; unfold gatLeaves; rw [hn1]; exact hY2), rfl⟩, ⟨rfl, (keep_cons rfl (keep_cons rfl (keep_cons rfl (keep_cons rfl (keep_cons rfl keep_nil))))), (.cons _ (.cons _ (.cons_cons _ (.refl _))))⟩⟩
 | false =>
  replace hc19 := bfalse hc19;refine zD rfl (zE ?_);exact ⟨rfl, _, rfl, C1, rfl, .inl (by rw [List.take_of_length_le aO] at hY1; exact hY1)⟩
theorem q_Leaves (b : Book)  : Comes (EL 3) 67 [.agg (encB.f b)] (.tuple [(GSo true encL (if (bookErr b).2.2 = 0 then leavesOf b else [])).v, iv (bookErr b).2.2]) := by
 have hgood := fun h => book_good (b := b) h
 refine Comes.of (TF.enter (fn := Go.Proofs.Tryz.f67) rfl rfl rfl rfl rfl ?_);refine zU rfl (zQ 2 [_,_] R7 (fun b1=>zA R4 (zA R4 (zN (zU rfl (zV R3 (vW 0 [_,_] R5 R4) (TO.callIn rfl rfl rfl rfl rfl rfl (orcN rfl) (TF.enterG (fn := Go.Proofs.Tryz.f91) rfl rfl rfl rfl rfl (zU rfl (zQ 2 [_,_] R7 (fun b1_2=>zJ 2 [_,_] R7 (fun b2=>zA R4 (zN (zU rfl (zV R3 (vW 1 [_,_] R5 R4) (TO.call rfl rfl rfl rfl rfl (orcL rfl aD) (.cons (.agg (.cons .lit (.cons .gs .nil))) .nil) (sem_of (q_Check _ )) (zM R4 (zX R5 (zX R5 (zX R5 (zA R4 (zA R4 (zA R4 (zN (zU rfl (zV R3 (vW 1 [_,_] R5 R4) (zV R3 (Val.build (cs := [_, _]) (vs := [(_, _)]) rfl rfl rfl) (zM R4 (TO.store_row (p := 0) (cv := [_, _]) (cells' := [_, _]) rfl rfl rfl rfl rfl rfl rfl rfl rfl rfl (by first | rfl | simp [GS.one]) (by decide) rfl (zG ([_,_,_]) rfl (zA R4 (zN (zR ?_)))))))))))))))))))))))))))))))));refine ⟨rfl, _, rfl, [_, _], ⟨⟨_, rfl, LoadR.rows (p := 0) (c := [_, _]) rfl ⟨⟨_, rfl, rfl⟩, rfl, by decide⟩ rfl rfl rfl⟩, ⟨rfl, trivial⟩⟩, ?_⟩;refine zG ([_,_,_]) rfl (zM R4 (zX R5 (zX R5 (zJ 2 [_,_] R7 (fun b4=>TO.store_row (p := 0) (cv := [_, _]) (cells' := [_, _]) rfl rfl rfl rfl rfl rfl rfl rfl rfl rfl (by first | rfl | simp [GS.one]) (by decide) rfl (zG ([_,_,_,_]) rfl (zA R4 (zN (zS (zU rfl (zM R4 (TO.neq rfl rfl rfl rfl rfl (fun c12 hc12=>zN ?_)))))))))))));cases c12 with
 | true =>
  replace hc12 := btrue hc12;refine zC rfl (zU rfl (zM R4 (zA R4 (zA R4 (zN (zR ?_))))));exact ⟨rfl, _, rfl, RefN.cast (.tuple (.cons .lit (.cons .lit .nil))) (by rw [if_neg hc12]; rfl)⟩
 | false =>
  replace hc12 := bfalse hc12
  have hb := book_good (b := b) aO;refine zD rfl (zK (zU rfl (zV R3 (vW 0 [_,_] R5 R4) (TO.callIn rfl rfl rfl rfl rfl rfl (orcN rfl) (TF.enter (fn := Go.Proofs.Tryz.f93) rfl rfl rfl rfl rfl (zU rfl (zQ 2 [_,_] R7 (fun b1_3=>zA R4 (zN (zU rfl (zV R3 (Val.makeFunc rfl rfl) (zA R4 (zN (zR ?_))))))))))))));refine ⟨rfl, _, rfl, ?_⟩;refine TO.callIn rfl rfl rfl rfl rfl rfl (orcN rfl) (TF.enter (fn := Go.Proofs.Tryz.f92) rfl rfl rfl rfl rfl (zU rfl (zA R4 (zN (zU rfl (zM R4 (TO.callIn rfl rfl rfl rfl rfl rfl (orcN rfl) (TF.enterG (fn := Go.Proofs.Tryz.f112) rfl rfl rfl rfl rfl (zU rfl (zQ 1 [_] R7 (fun b2_2=>zA R4 (zN (zS (zU rfl (zM R4 (zN (zB (T.nilown (u := encL.u) (T.keep (s' := ⟨[], [(2, _), (6, _)], [_, _, _]⟩) (sc (.cons_cons _ (.cons_cons _ (.cons_cons _ (.cons _ (.cons _ (.cons _ (.cons _ .slnil)))))))) (T.pick (p := 1) rfl (T.things (hs' := [_, _, _]) rfl (T.pick (p := 2) rfl (T.things (hs' := [_, _, _]) rfl ?_)))))))))))))))))))))));refine T.range0 (ArgL) ((· <+: leavesOf b)) (leavesOf b) (fun vis A => ∃ v, A = [.row b2_2 1 [v], ownL true v encL vis] ∧ vis.length ≤ 1950) (fun _ _ _ => False) [_] [_, _] (by rfl) (by rfl) (by rfl) (.refl _) ⟨_, rfl, by decide⟩ ?_ ?_ ?_ ?_
  ·exact fun l YY ZZ hv C hY => lv_iter hb hv C hY
  ·intro l d vis a vs G A B hP ha hA;obtain ⟨rfl, rfl⟩ := ha;obtain ⟨v, rfl, hvl⟩ := hA;refine ⟨_, rfl, fun LR LB hLB => ?_⟩;refine T.things (hs' := _ :: _ :: _ :: B) rfl (zT rfl (zJ 4 [_,_,_,_] R7 (fun b5=>TO.store_row (p := 0) (cv := [_, _, _, _]) (cells' := [_, _, _, _]) rfl rfl rfl rfl rfl rfl rfl rfl rfl rfl (by first | rfl | simp [GS.one]) (by decide) rfl (zG (_::_::_::_::B) rfl (zN ?_)))));refine ⟨rfl, 1, rfl, ?_⟩;refine T.things (hs' := _ :: _ :: _ :: _ :: B) rfl (zB (zT rfl (zL 2 R3 R6 (zV R3 (vW 0 [_,_,_,_] R5 R4) (TO.build1 (en := encL) (a := ⟨_, _, _, _⟩) rfl rfl rfl ⟨rfl, rfl⟩ ⟨_, rfl, rfl⟩ (by decide) (by decide) rfl rfl (fun v10=>TO.append_own (b := 32) (en := encL) (l := _) (l2 := _) (p := 4) (q := 0) rfl rfl rfl ⟨rfl, rfl, rfl, ⟨_, rfl, rfl⟩, by decide, by decide⟩ rfl rfl rfl rfl rfl rfl (en_ones encL_ones _) (by simp; omega) (fun v11=>zG (_::_::_::_::_::B) rfl (TO.ownfact (p := 4) rfl (fun hoown=>TO.store_row (p := 3) (cv := [_]) (cells' := [_]) rfl rfl rfl rfl rfl rfl rfl hoown.1 rfl rfl (by simp [hoown.2]) (by decide) rfl (zG (_::_::_::_::_::B) rfl (zN ?_)))))))))));exact ⟨[_, _], (.cons _ (.cons _ (.cons_cons _ (.cons_cons _ (.cons_cons _ (.refl _)))))), .inl ⟨rfl, ⟨_, rfl, Nat.le_trans hP.length_le (leaves_len hb.fits)⟩⟩⟩
  ·intro d A hA;obtain ⟨v, rfl, hvl⟩ := hA;refine T.things (hs' := [_, _, _, _]) rfl (zU rfl (zL 2 R3 R6 (zA R4 (zN (zR ?_)))));refine ⟨rfl, _, ⟨1, rfl, rfl⟩, [_], ⟨rfl, trivial⟩, ?_⟩;refine zG ([_,_,_]) rfl (zA R4 (zN (zR ?_)));refine ⟨rfl, _, rfl, ?_⟩;refine zA R4 (zA R4 (zN (zR ?_)));exact ⟨rfl, _, rfl, RefN.cast (.tuple (.cons (.ownL (en := encL) (p := 2) rfl (.lits encL_lits)) (.cons .lit .nil))) (by have h0 : (bookErr b).2.2 = 0 := (by omega); simp [h0])⟩
  ·exact fun d e q r A hq hZ => hZ.elim
end Go.Am.YthckcbfijdambaaGreat
end
section
namespace Go.Am.YthckcbfijdambaaGreat
open Go.Am Go.RowKit
set_option linter.unusedVariables false
set_option linter.unusedSimpArgs false
theorem s_IndexL (l : GS encL) (x : Leaf) (hb : l.l.length < 4611686018427387904) : Comes (EL 0) 96 [l.v, .agg (encL.f x)] (iv (idxOf x l.l)) := by
 refine Comes.of (TF.enter (fn := Go.Proofs.Tryz.f96) rfl rfl rfl rfl rfl ?_);refine zU rfl (zQ 4 [_,_,_,_] R7 (fun b3=>zA R4 (zN (zS (zU rfl (zM R4 (zV R3 (Val.len_gs rfl rfl) (zM R4 (zN (zB (T.loop (fun μ s => ∃ i : Nat, ∃ j : Int, μ = l.l.length - i ∧ j = i ∧ i ≤ l.l.length ∧ idxOf x l.l = idxFrom x i (l.l.drop i) ∧ s = ⟨[], [(0, l.v), (3, .ptr b3 0 4), (7, iv (l.l.length : Int)), (8, iv j)], [.row b3 4 [iv x.g, iv x.num, iv x.plus, iv x.kind]]⟩) (k := _) (s' := _) ⟨0, 0, rfl, (by first | rfl | omega | (simp; done) | (simp; omega) | simp_all), (by first | rfl | omega | (simp; done) | (simp; omega) | simp_all), (by rfl), rfl⟩ ⟨rfl, (keep_cons rfl (keep_cons rfl (keep_cons rfl (keep_cons rfl keep_nil)))), (.cons_cons _ .slnil)⟩ ?_)))))))))));rintro μ _ ⟨i, j, hk0, hj, hi, he, rfl⟩;subst hj;refine zU rfl (TO.lss rfl rfl rfl rfl rfl (fun c9 hc9=>zN (zS ?_)));cases c9 with
 | true =>
  replace hc9 := btrue hc9;refine zC rfl (zK (zS (zB (zU rfl (zM R4 (zA R4 (zN (zS (T.draw (fun v => sameC_refl v) (l1 := [0, 1, 2, 3, 4, 5]) (l2 := []) (by kernel_rfl) (by kernel_rfl) (zV R3 (vW 0 [_,_,_,_] R5 R4) (zM R4 (zM R4 (TO.index_gs rfl rfl rfl ⟨rfl, rfl⟩ rfl rfl aO (fun y ry ey=>?_))))))))))))))
  try simp only [Int.toNat_natCast] at ey
  refine zV R3 (Val.load_trees (c := _) ⟨⟨_, rfl, rfl⟩, rfl, by decide⟩ rfl rfl) (TO.binP rfl rfl rfl rfl rfl (eql_ty97 _ _ _ _ _ _ _ _ _ _) (fun c16 hc16=>zN ?_));cases c16 with
  | true =>
   replace hc16 := btrue hc16;refine zC rfl (zU rfl (zM R4 (zA R4 (zN (zR ?_)))));exact ⟨rfl, _, rfl, RefN.cast .lit (by rw [he, drop_cons ey, idxFrom, if_pos (leaf_ext.1 hc16)])⟩
  | false =>
   replace hc16 := bfalse hc16;refine zD rfl (zK (zT rfl (zV R3 (Val.add rfl rfl aO) (zM R4 (zN ?_)))));refine ⟨_, _, aO, ⟨i + 1, _, rfl, (by first | omega | simp_all), (by first | omega | simp_all), (by rw [he, drop_cons ey, idxFrom, if_neg (fun e => hc16 (leaf_ext.2 e))]), rfl⟩, ⟨rfl, (keep_cons rfl (keep_cons rfl (keep_cons rfl (keep_cons rfl keep_nil)))), (.cons_cons _ .slnil)⟩⟩
 | false =>
  replace hc9 := bfalse hc9;refine zD rfl (zE (zU rfl (zA R4 (zN (zR ?_)))));exact ⟨rfl, _, rfl, RefN.cast .lit (by rw [he, List.drop_eq_nil_of_le aO, idxFrom])⟩
theorem q_Mate (b : Book) (n : Int)  : Comes (EL 4) 69 [.agg (encB.f b), iv n] (.tuple [iv (mateOf b n).1, iv (mateOf b n).2]) := by
 refine Comes.of (TF.enter (fn := Go.Proofs.Tryz.f69) rfl rfl rfl rfl rfl ?_);refine zU rfl (zQ 2 [_,_] R7 (fun b2=>zA R4 (zA R4 (zN (zU rfl (zV R3 (vW 0 [_,_] R5 R4) (TO.call rfl rfl rfl rfl rfl (orcL rfl aD) (.cons (.agg (.cons .lit (.cons .gs .nil))) .nil) (sem_of (q_Leaves _ )) (zM R4 (zX R5 (zX R5 (zA R4 (zA R4 (zN (zS (zB (zU rfl (zM R4 (TO.neq rfl rfl rfl rfl rfl (fun c17 hc17=>zA R4 (zN ?_))))))))))))))))))));cases c17 with
 | true =>
  replace hc17 := btrue hc17;refine zC rfl (zU rfl (zM R4 (zA R4 (zA R4 (zN (zR ?_))))));exact ⟨rfl, _, rfl, RefN.cast (.tuple (.cons .lit (.cons .lit .nil))) (by unfold mateOf; rw [if_pos hc17])⟩
 | false =>
  replace hc17 := bfalse hc17
  have h0 : (bookErr b).2.2 = 0 := by omega
  have hb := book_good h0
  have hll := leaves_len hb.fits;rw [if_pos h0];refine zD rfl (zU rfl (zM R4 (zV R3 (Val.len_gso rfl rfl) (zV R3 (Val.sub rfl rfl aO) (zM R4 (TO.build1 (en := encI) (a := _) rfl rfl rfl ⟨rfl, rfl⟩ ⟨_, rfl, rfl⟩ (by decide) (by decide) rfl rfl (fun v24=>TO.callD rfl rfl rfl rfl rfl (orcL rfl aD) (.cons .lit (.cons .lit (.cons (.ownL (p := 0) rfl .ints) .nil))) (sem_of (q_out _ _ _ (by exact out1_small))) (fun c25 hc25=>?_))))))));replace hc25 := out1 hc25;refine zA R4 (zN ?_);cases c25 with
  | true =>
   replace hc25 := btrue hc25;refine zC rfl (zU rfl (zA R4 (zA R4 (zN (zR ?_)))));exact ⟨rfl, _, rfl, RefN.cast (.tuple (.cons .lit (.cons .lit .nil))) (by unfold mateOf; rw [if_neg aO]; split; rfl; rename_i h1; exfalso; split at h1; have := (List.getElem?_eq_some_iff.1 h1).1; omega; cases h1)⟩
  | false =>
   replace hc25 := bfalse hc25;refine zD rfl (zK (zU rfl (zM R4 (zM R4 (TO.index_gso rfl rfl rfl ⟨rfl, rfl⟩ rfl rfl aO (fun x rx ex=>?_))))))
   try simp only [Int.toNat_natCast] at ex
   have hxm := List.mem_of_getElem? ex;obtain ⟨g0, hg0, hg1, hg2, hx1, hx2⟩ := mem_leaves hxm;refine zV R3 (Val.load_trees (c := _) ⟨⟨_, rfl, rfl⟩, rfl, by decide⟩ rfl rfl) (zJ 4 [_,_,_,_] R7 (fun b8=>TO.store_row (p := 0) (cv := [_, _, _, _]) (cells' := [_, _, _, _]) rfl rfl rfl rfl rfl rfl rfl rfl rfl rfl (by first | rfl | simp [GS.one]) (by decide) rfl (zG ([_,_,_]) rfl (zN (zS (T.drawE (l1 := [0, 1, 2, 3, 4, 5, 6, 7, 8, 9, 10, 11]) (l2 := [12]) (by kernel_rfl) (by kernel_rfl) (yL R4 (Val.faddr_ptr (fo := 1) rfl rfl rfl) (yR R4 (vR (p := 2) R6) (yL R4 (Val.faddr_ptr (fo := 0) rfl rfl rfl) (yR R4 (vR (p := 0) R6) (TD1.index_gs rfl rfl rfl ⟨rfl, rfl⟩ rfl rfl aO (fun g rg eg=>?_))))))))))))
   try simp only [Int.toNat_natCast] at eg
   have e34 := Option.some.inj (hg0.symm.trans eg);subst e34;obtain ⟨-, hgl1, hgl2, -, -⟩ := hb.each g0 (List.mem_of_getElem? hg0);refine yL R4 (Val.faddr_tree (fo := 2) rfl rfl rfl rfl) (yR R4 (Val.load_tree ⟨_, rfl, rfl⟩ rfl) (yL R4 (Val.add rfl rfl aO) (yL R4 (Val.faddr_ptr (fo := 1) rfl rfl rfl) (yR R4 (vR (p := 0) R6) (yL R4 (Val.sub rfl rfl aO) (yL R4 (Val.faddr_ptr (fo := 1) rfl rfl rfl) (TD1.over (fun v => sameC_refl v) (all_cons (⟨_, rfl, (vR (p := 0) R6)⟩) (all_cons (⟨_, rfl, (Val.load_tree ⟨_, rfl, rfl⟩ rfl)⟩) (all_cons (⟨_, rfl, (vR (p := 0) R6)⟩) (all_cons (⟨_, rfl, (vR (p := 2) R6)⟩) all_nil)))) (TD2.heavy (fun v => sameC_refl v) rfl (by decide) rfl rfl (OpS.eff (Eff.store_row (p := 0) (cv := [_]) (cells' := [_, _, _, _]) rfl rfl rfl rfl rfl rfl rfl rfl (by first | rfl | simp [GS.one]) (by decide) rfl)) ?_))))))));rintro _ _ rfl;refine ⟨(all_cons (.inl (by kernel_rfl)) (all_cons (.inl (by kernel_rfl)) (all_cons (.inl (by kernel_rfl)) (all_cons (.inl (by kernel_rfl)) all_nil)))), all_nil, ?_⟩;refine yG ([_,_,_]) rfl (TD2.nil (zS (zU rfl (zM R4 (zV R3 (vW 0 [_,_,_,_] R5 R4) (TO.call rfl rfl rfl rfl rfl (orcL rfl aD) (.cons .gs (.cons (.agg (.cons .lit (.cons .lit (.cons .lit (.cons .lit .nil))))) .nil)) (sem_of (s_IndexL _ ⟨x.g, g0.leaves + 1 - x.num, x.plus, x.kind⟩ (by show (leavesOf b).length < _; omega))) ?_))))));rw [show (GSo true encL (leavesOf b)).l = leavesOf b from rfl]
   have hmo : mateOf b n = if x.kind = 0 ∧ 0 ≤ idxOf (mirror b x) (leavesOf b) ∧ idxOf (mirror b x) (leavesOf b) ≠ n then (idxOf (mirror b x) (leavesOf b), 0) else (0, 4) := by unfold mateOf; rw [if_neg aO, if_pos aO, ex]
   have hmi : mirror b x = ⟨x.g, g0.leaves + 1 - x.num, x.plus, x.kind⟩ := by unfold mirror; rw [hg0]
   rw [hmi] at hmo
   have hir := idxFrom_range (x := ⟨x.g, g0.leaves + 1 - x.num, x.plus, x.kind⟩) (leavesOf b) 0
   change -1 ≤ idxOf _ _ ∧ idxOf _ _ < _ at hir
   refine zA R4 (zN (zU rfl (zF 3 R6 (zL 0 R3 R6 (TO.eql rfl rfl rfl rfl rfl (fun c47 hc47=>zM R4 ?_))))));cases c47 with
   | true =>
    replace hc47 := btrue hc47;refine zM R4 (TO.geq rfl rfl rfl rfl rfl (fun c50 hc50=>zP R6 (zM R4 ?_)));cases c50 with
    | true =>
     replace hc50 := btrue hc50;refine zM R4 (zM R4 (TO.neq rfl rfl rfl rfl rfl (fun c55 hc55=>zP R6 (zN ?_))));cases c55 with
     | true =>
      replace hc55 := btrue hc55;refine zC rfl (zU rfl (zM R4 (zA R4 (zA R4 (zN (zR ?_))))));exact ⟨rfl, _, rfl, RefN.cast (.tuple (.cons .lit (.cons .lit .nil))) (by rw [hmo]; split <;> first | rfl | (exfalso; omega))⟩
     | false =>
      replace hc55 := bfalse hc55;refine zD rfl (zK (zU rfl (zA R4 (zA R4 (zN (zR ?_))))));exact ⟨rfl, _, rfl, RefN.cast (.tuple (.cons .lit (.cons .lit .nil))) (by rw [hmo]; split <;> first | rfl | (exfalso; omega))⟩
    | false =>
     replace hc50 := bfalse hc50;refine zO R3 (zO R3 (zO R3 (zP R6 (zN (zD rfl (zK (zU rfl (zA R4 (zA R4 (zN (zR ?_)))))))))));exact ⟨rfl, _, rfl, RefN.cast (.tuple (.cons .lit (.cons .lit .nil))) (by rw [hmo]; split <;> first | rfl | (exfalso; omega))⟩
   | false =>
    replace hc47 := bfalse hc47;refine zO R3 (zO R3 (zP R6 (zM R4 (zO R3 (zO R3 (zO R3 (zP R6 (zN (zD rfl (zK (zU rfl (zA R4 (zA R4 (zN (zR ?_)))))))))))))));exact ⟨rfl, _, rfl, RefN.cast (.tuple (.cons .lit (.cons .lit .nil))) (by rw [hmo]; split <;> first | rfl | (exfalso; omega))⟩
end Go.Am.YthckcbfijdambaaGreat
end
section
namespace Go.Am.YthckcbfijdambaaGreat
open Go.Am Go.RowKit
set_option linter.unusedVariables false
set_option linter.unusedSimpArgs false
theorem w_r1_Check (s : Int) (g : GS encG) (r : Int × Int × Int) (h : P_r1_Check s g.l = some r) : Comes (EL 3) 56 [.agg [iv s, g.v]] (.tuple [iv r.1, iv r.2.1, iv r.2.2]) := by
 cases h; exact r1_Check ⟨s, g⟩
theorem w_r1_All (s : Int) (g : GS encG) (r : List Leaf) (h : P_r1_All s g.l = some r) : Comes (EL 1) 38 [.agg [iv s, g.v]] ((GSo true encL r).v) := by
 obtain ⟨hp, h⟩ := chk_some h; cases h; exact r1_All ⟨s, g⟩ ⟨hp.gs, hp.leaves⟩
theorem w_r1_Pair (s : Int) (g : GS encG) (n : Int) (r : Int) (h : P_r1_Pair s g.l n = some r) : Comes (EL 2) 73 [.agg [iv s, g.v], iv n] (iv r) := by
 obtain ⟨⟨hp, h0, h1⟩, h⟩ := chk_some h; cases h; have := r1_Pair ⟨s, g⟩ n.toNat ⟨hp.gs, hp.leaves⟩ h1; rw [Int.toNat_of_nonneg h0] at this; exact this
theorem w_r1_Has (x : GS encI) (n : Int) (r : Bool) (h : P_r1_Has x.l n = some r) : Comes (EL 0) 25 [x.v, iv n] (bv r) := by
 obtain ⟨hp, h⟩ := chk_some h; cases h; exact r1_Has x n hp
theorem w_r1_Ints (x y : GS encI) (r : Bool) (h : P_r1_Ints x.l y.l = some r) : Comes (EL 0) 9 [x.v, y.v] (bv r) := by
 obtain ⟨hp, h⟩ := chk_some h; cases h; exact r1_Ints x y hp
theorem w_q_Check (s : Int) (g : GS encG) (r : Int × Int × Int) (h : P_q_Check s g.l = some r) : Comes (EL 2) 66 [.agg [iv s, g.v]] (.tuple [iv r.1, iv r.2.1, iv r.2.2]) := by
 cases h; exact q_Check ⟨s, g⟩
theorem w_q_Leaves (s : Int) (g : GS encG) (r : List Leaf × Int) (h : P_q_Leaves s g.l = some r) : Comes (EL 3) 67 [.agg [iv s, g.v]] (.tuple [(GSo true encL r.1).v, iv r.2]) := by
 cases h; exact q_Leaves ⟨s, g⟩
theorem w_q_Mate (s : Int) (g : GS encG) (n : Int) (r : Int × Int) (h : P_q_Mate s g.l n = some r) : Comes (EL 4) 69 [.agg [iv s, g.v], iv n] (.tuple [iv r.1, iv r.2]) := by
 cases h; exact q_Mate ⟨s, g⟩ n
theorem w_c_outside (lo hi : Int) (x : GS encI) (r : Bool) (h : P_c_outside lo hi x.l = some r) : Comes (EL 0) 68 [iv lo, iv hi, x.v] (bv r) := by
 obtain ⟨hp, h⟩ := chk_some h; cases h; exact c_outside lo hi x hp
end Go.Am.YthckcbfijdambaaGreat
end
section
namespace Go.Am
set_option linter.unusedVariables false
structure S_copy_run where
 item : Int
 first : Int
 last : Int
def enc_copy_run : En S_copy_run := ⟨3, fun x => [iv x.item, iv x.first, iv x.last], fun _ => rfl⟩
theorem enc_copy_run_ones : enc_copy_run.Ones := fun x => by simp [enc_copy_run]
structure S_duodecimoref04_Run where
 item : Int
 first : Int
 last : Int
def enc_duodecimoref04_Run : En S_duodecimoref04_Run := ⟨3, fun x => [iv x.item, iv x.first, iv x.last], fun _ => rfl⟩
theorem enc_duodecimoref04_Run_ones : enc_duodecimoref04_Run.Ones := fun x => by simp [enc_duodecimoref04_Run]
end Go.Am
end
section
namespace Go.Am
set_option linter.unusedVariables false
noncomputable def P_r4_in (n : Int) (low : Int) (high : Int) : Option Bool :=
  andx (
    if n ≥ low then
      some (decide (n ≤ high))
    else
      some false) fun x6 =>
    some x6
noncomputable def P_r4_item_L1 (x_Could : List Int) (leaves : Int) : Int → Option (Stp Int (Ex Unit Int)) := fun i =>
  if i < (x_Could.length : Int) then
    el x_Could i fun a21 =>
    chk (I64 (leaves - 1)) (
      andx (P_r4_in a21 0 (leaves - 1)) fun y25 =>
        if y25 = true then
          chk (I64 (i + 1)) (
            some (Stp.ag (i + 1)))
        else
          some (Stp.dn (Ex.rt 4)))
  else
    some (Stp.dn (Ex.nx ()))
noncomputable def P_r4_item_L2 (x_Could : List Int) : Int → Option (Stp Int (Ex Unit Int)) := fun i =>
  if i < (x_Could.length : Int) then
    el x_Could i fun a37 =>
    chk (I64 (i - 1)) (
      el x_Could (i - 1) fun a43 =>
      if a37 ≤ a43 then
        some (Stp.dn (Ex.rt 2))
      else
        chk (I64 (i + 1)) (
          some (Stp.ag (i + 1))))
  else
    some (Stp.dn (Ex.nx ()))
noncomputable def P_r4_item (x_Could : List Int) (leaves : Int) : Option Int :=
  if (x_Could.length : Int) > 4 then
    some 3
  else
    seqx (
      iter (P_r4_item_L1 x_Could leaves) 0) fun _ =>
      seqx (
        iter (P_r4_item_L2 x_Could) 1) fun _ =>
        some 0
noncomputable def P_r4_Plain_L1 (truth : List Int) : (Int × (List Int)) → Option (Stp (Int × (List Int)) (List Int)) := fun (i, out) =>
  if i < (truth.length : Int) then
    andx (
      andx (
        el truth i fun a13 =>
        if a13 ≥ 0 then
          chk (0 ≤ (0 : Int) ∧ (0 : Int) ≤ i ∧ i ≤ (truth.length : Int)) (
            el truth i fun a22 =>
            andx (P_r1_Has (List.take (i - (0 : Int)).toNat (List.drop ((0 : Int) : Int).toNat truth)) a22) fun has24 =>
              some (!has24))
        else
          some false) fun x26 =>
        if x26 = true then
          chk (out.length + [i].length < 1000000000) (
            some (out ++ [i]))
        else
          some out) fun out_2 =>
      chk (I64 (i + 1)) (
        some (Stp.ag ((i + 1), out_2)))
  else
    some (Stp.dn out)
noncomputable def P_r4_Plain (truth : List Int) : Option (List Int) :=
  andx (
    iter (P_r4_Plain_L1 truth) (0, [])) fun out =>
    some out
noncomputable def P_r4_Gone_L1 (truth : List Int) (all9 : List Leaf) : (Int × (List Int)) → Option (Stp (Int × (List Int)) (List Int)) := fun (i, out) =>
  if i < (all9.length : Int) then
    andx (
      andx (P_r1_Has truth i) fun has18 =>
        if has18 = true then
          some out
        else
          chk (out.length + [i].length < 1000000000) (
            some (out ++ [i]))) fun out_2 =>
      chk (I64 (i + 1)) (
        some (Stp.ag ((i + 1), out_2)))
  else
    some (Stp.dn out)
noncomputable def P_r4_Gone (b_Signed : Int) (b_Gatherings : List Gat) (truth : List Int) : Option (List Int) :=
  andx (P_r1_All b_Signed b_Gatherings) fun all9 =>
    andx (
      iter (P_r4_Gone_L1 truth all9) (0, [])) fun out =>
      some out
noncomputable def P_r4_Mates_L1 (b_Signed : Int) (b_Gatherings : List Gat) (all7 : List Leaf) : (Int × (List Int)) → Option (Stp (Int × (List Int)) (List Int)) := fun (i, out) =>
  if i < (all7.length : Int) then
    andx (P_r1_Pair b_Signed b_Gatherings i) fun mate17 =>
      chk (out.length + [mate17].length < 1000000000) (
        chk (I64 (i + 1)) (
          some (Stp.ag ((i + 1), out ++ [mate17]))))
  else
    some (Stp.dn out)
noncomputable def P_r4_Mates (b_Signed : Int) (b_Gatherings : List Gat) : Option (List Int) :=
  andx (P_r1_All b_Signed b_Gatherings) fun all7 =>
    andx (
      iter (P_r4_Mates_L1 b_Signed b_Gatherings all7) (0, [])) fun out =>
      some out
noncomputable def P_r4_Pieces_L1 (gone : List Int) (y10 : List Int) : (Int × Int) → Option (Stp (Int × Int) Int) := fun (n, i) =>
  if i < (gone.length : Int) then
    andx (
      el gone i fun a20 =>
      el y10 a20 fun a22 =>
      andx (
        if a22 < 0 then
          some true
        else
          el gone i fun a30 =>
          if a22 > a30 then
            some true
          else
            andx (P_r1_Has gone a22) fun has37 =>
              some (!has37)) fun x39 =>
        if x39 = true then
          chk (I64 (n + 1)) (
            some (n + 1))
        else
          some n) fun n_2 =>
      chk (I64 (i + 1)) (
        some (Stp.ag (n_2, (i + 1))))
  else
    some (Stp.dn n)
noncomputable def P_r4_Pieces (b_Signed : Int) (b_Gatherings : List Gat) (gone : List Int) : Option Int :=
  andx (P_r4_Mates b_Signed b_Gatherings) fun y10 =>
    andx (
      iter (P_r4_Pieces_L1 gone y10) (0, 0)) fun n =>
      some n
noncomputable def P_r4_Runs_L1 (truth : List Int) (all12 : List Leaf) (y14 : List Int) : (Int × (List S_duodecimoref04_Run)) → Option (Stp (Int × (List S_duodecimoref04_Run)) (List S_duodecimoref04_Run)) := fun (i, out) =>
  if i < (y14.length : Int) then
    andx (
      el y14 i fun a24 =>
      el truth a24 fun a26 =>
      seqx (
        if i > 0 then
          chk (I64 ((out.length : Int) - 1)) (
            el out ((out.length : Int) - 1) fun a34 =>
            andx (
              el all12 a34.last fun a39 =>
              el all12 a26 fun a44 =>
              if a39.g = a44.g then
                some (decide (a34.last < a26))
              else
                some false) fun x52 =>
              if x52 = true then
                chk (I64 ((out.length : Int) - 1)) (
                  el out ((out.length : Int) - 1) fun a58 =>
                  some (Ex.rt (List.set out ((out.length : Int) - 1).toNat (⟨a58.item, a58.first, a26⟩ : S_duodecimoref04_Run))))
              else
                some (Ex.nx ()))
        else
          some (Ex.nx ())) fun _ =>
        el y14 i fun a63 =>
        chk (out.length + [(⟨a63, a26, a26⟩ : S_duodecimoref04_Run)].length < 1000000000) (
          some (out ++ [(⟨a63, a26, a26⟩ : S_duodecimoref04_Run)]))) fun out_2 =>
      chk (I64 (i + 1)) (
        some (Stp.ag ((i + 1), out_2)))
  else
    some (Stp.dn out)
noncomputable def P_r4_Runs (b_Signed : Int) (b_Gatherings : List Gat) (truth : List Int) : Option (List S_duodecimoref04_Run) :=
  andx (P_r1_All b_Signed b_Gatherings) fun all12 =>
    andx (P_r4_Plain truth) fun y14 =>
      andx (
        iter (P_r4_Runs_L1 truth all12 y14) (0, [])) fun out =>
        some out
noncomputable def P_r4_Kept_L2 (runs : List S_duodecimoref04_Run) (i : Int) : (Int × (List Int) × (List Int)) → Option (Stp (Int × (List Int) × (List Int)) ((List Int) × (List Int))) := fun (k_, next_2, many_2) =>
  if k_ < (runs.length : Int) then
    andx (
      andx (
        el runs k_ fun a39 =>
        el runs i fun a44 =>
        if a39.first > a44.last then
          el many_2 k_ fun a51 =>
          chk (I64 (a51 + 1)) (
            el many_2 i fun a56 =>
            some (decide ((a51 + 1) > a56)))
        else
          some false) fun x59 =>
        if x59 = true then
          el many_2 k_ fun a66 =>
          chk (I64 (a66 + 1)) (
            el many_2 i fun a70 =>
            el next_2 i fun a71 =>
            some (List.set next_2 i.toNat k_, List.set many_2 i.toNat (a66 + 1)))
        else
          some (next_2, many_2)) fun (next_3, many_3) =>
      chk (I64 (k_ + 1)) (
        some (Stp.ag ((k_ + 1), next_3, many_3)))
  else
    some (Stp.dn (next_2, many_2))
noncomputable def P_r4_Kept_L1 (runs : List S_duodecimoref04_Run) : (Int × (List Int) × (List Int)) → Option (Stp (Int × (List Int) × (List Int)) ((List Int) × (List Int))) := fun (i, next, many) =>
  if i ≥ 0 then
    andx (
      el many i fun a27 =>
      el next i fun a28 =>
      chk (I64 (i + 1)) (
        iter (P_r4_Kept_L2 runs i) ((i + 1), List.set next i.toNat (-1), List.set many i.toNat 1))) fun (next_2, many_2) =>
      chk (I64 (i - 1)) (
        some (Stp.ag ((i - 1), next_2, many_2)))
  else
    some (Stp.dn (next, many))
noncomputable def P_r4_Kept_L3 (runs : List S_duodecimoref04_Run) (many : List Int) : (Int × Int) → Option (Stp (Int × Int) Int) := fun (at_, i) =>
  if i < (runs.length : Int) then
    andx (
      andx (
        if at_ < 0 then
          some true
        else
          el many i fun a83 =>
          el many at_ fun a87 =>
          some (decide (a83 > a87))) fun x90 =>
        if x90 = true then
          some i
        else
          some at_) fun at__2 =>
      chk (I64 (i + 1)) (
        some (Stp.ag (at__2, (i + 1))))
  else
    some (Stp.dn at_)
noncomputable def P_r4_Kept_L4 (next : List Int) : (Int × (List Int)) → Option (Stp (Int × (List Int)) (List Int)) := fun (at__2, out) =>
  if at__2 ≥ 0 then
    chk (out.length + [at__2].length < 1000000000) (
      el next at__2 fun a100 =>
      some (Stp.ag (a100, out ++ [at__2])))
  else
    some (Stp.dn out)
noncomputable def P_r4_Kept (runs : List S_duodecimoref04_Run) : Option (List Int) :=
  chk (0 ≤ (runs.length : Int) ∧ (runs.length : Int) ≤ 1000000000) (
    chk (0 ≤ (runs.length : Int) ∧ (runs.length : Int) ≤ 1000000000) (
      andx (
        chk (I64 ((runs.length : Int) - 1)) (
          iter (P_r4_Kept_L1 runs) (((runs.length : Int) - 1), List.replicate (runs.length : Int).toNat (0 : Int), List.replicate (runs.length : Int).toNat (0 : Int)))) fun (next, many) =>
        andx (
          iter (P_r4_Kept_L3 runs many) ((-1), 0)) fun at_ =>
          andx (
            iter (P_r4_Kept_L4 next) (at_, [])) fun out =>
            some out))
noncomputable def P_r4_Of_L1 (truth : List Int) (y24 : List Int) : (Int × (List Int) × (List Int)) → Option (Stp (Int × (List Int) × (List Int)) ((List Int) × (List Int))) := fun (i, f_Strange, f_Twice) =>
  if i < (truth.length : Int) then
    andx (
      el truth i fun a33 =>
      if a33 < 0 then
        chk (f_Strange.length + [i].length < 1000000000) (
          some (f_Strange ++ [i], f_Twice))
      else
        andx (P_r1_Has y24 i) fun has44 =>
          if has44 = true then
            some (f_Strange, f_Twice)
          else
            chk (f_Twice.length + [i].length < 1000000000) (
              some (f_Strange, f_Twice ++ [i]))) fun (f_Strange_2, f_Twice_2) =>
      chk (I64 (i + 1)) (
        some (Stp.ag ((i + 1), f_Strange_2, f_Twice_2)))
  else
    some (Stp.dn (f_Strange, f_Twice))
noncomputable def P_r4_Of_L2 (y54 : List S_duodecimoref04_Run) (y56 : List Int) : (Int × (List Int)) → Option (Stp (Int × (List Int)) (List Int)) := fun (i, f_Moved) =>
  if i < (y54.length : Int) then
    andx (
      andx (P_r1_Has y56 i) fun has65 =>
        if has65 = true then
          some f_Moved
        else
          el y54 i fun a71 =>
          chk (f_Moved.length + [a71.item].length < 1000000000) (
            some (f_Moved ++ [a71.item]))) fun f_Moved_2 =>
      chk (I64 (i + 1)) (
        some (Stp.ag ((i + 1), f_Moved_2)))
  else
    some (Stp.dn f_Moved)
noncomputable def P_r4_Of (b_Signed : Int) (b_Gatherings : List Gat) (truth : List Int) : Option ((List Int) × (List Int) × Int × (List Int) × (List Int) × (List Int) × Int) :=
  chk (([] : List Int).length + truth.length < 1000000000) (
    andx (P_r4_Gone b_Signed b_Gatherings truth) fun y16 =>
      andx (P_r4_Pieces b_Signed b_Gatherings y16) fun y21 =>
        andx (P_r4_Plain truth) fun y24 =>
          andx (
            iter (P_r4_Of_L1 truth y24) (0, [], [])) fun (f_Strange, f_Twice) =>
            andx (P_r4_Runs b_Signed b_Gatherings truth) fun y54 =>
              andx (P_r4_Kept y54) fun y56 =>
                andx (
                  iter (P_r4_Of_L2 y54 y56) (0, [])) fun f_Moved =>
                  chk (I64 (y21 + (f_Strange.length : Int))) (
                    chk (I64 ((y21 + (f_Strange.length : Int)) + (f_Twice.length : Int))) (
                      chk (I64 (((y21 + (f_Strange.length : Int)) + (f_Twice.length : Int)) + (f_Moved.length : Int))) (
                        some (([] : List Int) ++ truth, y16, y21, f_Strange, f_Twice, f_Moved, (((y21 + (f_Strange.length : Int)) + (f_Twice.length : Int)) + (f_Moved.length : Int)))))))
noncomputable def P_c_there_L1 (t : List Int) : (Int × (Int → Int)) → Option (Stp (Int × (Int → Int)) (Int → Int)) := fun (x11, m) =>
  if x11 < (t.length : Int) then
    el t x11 fun a13 =>
    chk (I64 ((m a13) + 1)) (
      chk (I64 (x11 + 1)) (
        some (Stp.ag ((x11 + 1), putI m a13 ((m a13) + 1)))))
  else
    some (Stp.dn m)
noncomputable def P_c_there (x_CpCase_Book_Signed : Int) (x_CpCase_Book_Gatherings : List Gat) (x_CpCase_Items : List Item) (x_leaves : List Leaf) (x_mates : List Int) (t : List Int) : Option (Int → Int) :=
  andx (
    iter (P_c_there_L1 t) (0, (fun _ => 0))) fun m =>
    some m
noncomputable def P_c_lost_L1 (x_leaves : List Leaf) (y9 : Int → Int) : (Int × (List Int)) → Option (Stp (Int × (List Int)) (List Int)) := fun (x15, l) =>
  if x15 < (x_leaves.length : Int) then
    andx (
      if (y9 x15) = 0 then
        chk (l.length + [x15].length < 1000000000) (
          some (l ++ [x15]))
      else
        some l) fun l_2 =>
      chk (I64 (x15 + 1)) (
        some (Stp.ag ((x15 + 1), l_2)))
  else
    some (Stp.dn l)
noncomputable def P_c_lost (x_CpCase_Book_Signed : Int) (x_CpCase_Book_Gatherings : List Gat) (x_CpCase_Items : List Item) (x_leaves : List Leaf) (x_mates : List Int) (t : List Int) : Option (List Int) :=
  andx (P_c_there x_CpCase_Book_Signed x_CpCase_Book_Gatherings x_CpCase_Items x_leaves x_mates t) fun y9 =>
    andx (
      iter (P_c_lost_L1 x_leaves y9) (0, [])) fun l =>
      some l
noncomputable def P_c_moved_L2 (l : List S_copy_run) (i : Int) : (Int × (List Int)) → Option (Stp (Int × (List Int)) (List Int)) := fun (k_, many_2) =>
  if k_ < (l.length : Int) then
    andx (
      el l k_ fun a27 =>
      el l i fun a32 =>
      if a27.first > a32.last then
        chk ((many_2.length : Int) * 1 = 120) (
          el many_2 i fun a38 =>
          chk ((many_2.length : Int) * 1 = 120) (
            el many_2 k_ fun a41 =>
            chk ((many_2.length : Int) * 1 = 120) (
              el many_2 i fun a44 =>
              some (List.set many_2 i.toNat (max a38 a41)))))
      else
        some many_2) fun many_3 =>
      chk (I64 (k_ + 1)) (
        some (Stp.ag ((k_ + 1), many_3)))
  else
    some (Stp.dn many_2)
noncomputable def P_c_moved_L1 (l : List S_copy_run) : (Int × Int × (List Int)) → Option (Stp (Int × Int × (List Int)) (Int × (List Int))) := fun (best, i, many) =>
  if i ≥ 0 then
    andx (
      andx (
        chk (I64 (i + 1)) (
          iter (P_c_moved_L2 l i) ((i + 1), many))) fun many_2 =>
        chk ((many_2.length : Int) * 1 = 120) (
          el many_2 i fun a46 =>
          chk (I64 (a46 + 1)) (
            chk ((many_2.length : Int) * 1 = 120) (
              el many_2 i fun a49 =>
              chk (((List.set many_2 i.toNat (a46 + 1)).length : Int) * 1 = 120) (
                el (List.set many_2 i.toNat (a46 + 1)) i fun a52 =>
                some ((max best a52), List.set many_2 i.toNat (a46 + 1))))))) fun (best_2, many_2) =>
      chk (I64 (i - 1)) (
        some (Stp.ag (best_2, (i - 1), many_2)))
  else
    some (Stp.dn (best, many))
noncomputable def P_c_moved_L3 (l : List S_copy_run) (many : List Int) : (Int × Int × (List Int) × Int × Int × Int) → Option (Stp (Int × Int × (List Int) × Int × Int × Int) (Int × Int × Int × (List Int))) := fun (best_2, x58, items, last_item, last_first, last_last) =>
  if x58 < (l.length : Int) then
    andx (
      el l x58 fun a61 =>
      andx (
        chk ((many.length : Int) * 1 = 120) (
          el many x58 fun a64 =>
          if a64 = best_2 then
            if last_item = (-1) ∧ last_first = (-1) ∧ last_last = (-1) then
              some true
            else
              some (decide (a61.first > last_last))
          else
            some false)) fun x79 =>
        if x79 = true then
          chk (I64 (best_2 - 1)) (
            some ((best_2 - 1), items, a61.item, a61.first, a61.last))
        else
          chk (items.length + [a61.item].length < 1000000000) (
            some (best_2, items ++ [a61.item], last_item, last_first, last_last))) fun (best_3, items_2, last_item_2, last_first_2, last_last_2) =>
      chk (I64 (x58 + 1)) (
        some (Stp.ag (best_3, (x58 + 1), items_2, last_item_2, last_first_2, last_last_2)))
  else
    some (Stp.dn (last_item, last_first, last_last, items))
noncomputable def P_c_moved (l : List S_copy_run) : Option (List Int) :=
  andx (
    chk (I64 ((l.length : Int) - 1)) (
      iter (P_c_moved_L1 l) (0, ((l.length : Int) - 1), List.replicate 120 (0 : Int)))) fun (best, many) =>
    andx (
      iter (P_c_moved_L3 l many) (best, 0, [], (-1), (-1), (-1))) fun (last_item, last_first, last_last, items) =>
      some items
noncomputable def P_c_faults_L1 (x_mates : List Int) (y16 : List Int) : (Int × (Int → Int) × Int) → Option (Stp (Int × (Int → Int) × Int) ((Int → Int) × Int)) := fun (x22, m, f_Pieces) =>
  if x22 < (y16.length : Int) then
    andx (
      el y16 x22 fun a24 =>
      el x_mates a24 fun a31 =>
      chk (I64 ((m a24) + 1)) (
        andx (
          if a31 < 0 then
            some true
          else
            some (decide (((putI m a24 ((m a24) + 1)) a31) = 0))) fun x44 =>
          if x44 = true then
            chk (I64 (f_Pieces + 1)) (
              some (putI m a24 ((m a24) + 1), (f_Pieces + 1)))
          else
            some (putI m a24 ((m a24) + 1), f_Pieces))) fun (m_2, f_Pieces_2) =>
      chk (I64 (x22 + 1)) (
        some (Stp.ag ((x22 + 1), m_2, f_Pieces_2)))
  else
    some (Stp.dn (m, f_Pieces))
noncomputable def P_c_faults_L2 (x_leaves : List Leaf) (t : List Int) : (Int × (List S_copy_run) × (List Int) × (List Int) × (Int → Int)) → Option (Stp (Int × (List S_copy_run) × (List Int) × (List Int) × (Int → Int)) ((Int → Int) × (List S_copy_run) × (List Int) × (List Int))) := fun (x53, l, f_Strange, f_Twice, m_2) =>
  if x53 < (t.length : Int) then
    andx (
      el t x53 fun a56 =>
      if a56 < 0 then
        chk (f_Strange.length + [x53].length < 1000000000) (
          some (l, f_Strange ++ [x53], f_Twice, m_2))
      else
        chk (I64 ((m_2 a56) + 1)) (
          if ((putI m_2 a56 ((m_2 a56) + 1)) a56) > 1 then
            chk (f_Twice.length + [x53].length < 1000000000) (
              some (l, f_Strange, f_Twice ++ [x53], putI m_2 a56 ((m_2 a56) + 1)))
          else
            seqx (
              chk (I64 ((l.length : Int) - 1)) (
                andx (
                  if ((l.length : Int) - 1) ≥ 0 then
                    el l ((l.length : Int) - 1) fun a88 =>
                    if a88.last < a56 then
                      el l ((l.length : Int) - 1) fun a101 =>
                      el x_leaves a101.last fun a104 =>
                      el x_leaves a56 fun a112 =>
                      some (decide (a104.g = a112.g))
                    else
                      some false
                  else
                    some false) fun x116 =>
                  if x116 = true then
                    el l ((l.length : Int) - 1) fun a120 =>
                    some (Ex.rt (List.set l ((l.length : Int) - 1).toNat (⟨a120.item, a120.first, a56⟩ : S_copy_run), f_Strange, f_Twice, putI m_2 a56 ((m_2 a56) + 1)))
                  else
                    some (Ex.nx ()))) fun _ =>
              chk (l.length + [(⟨x53, a56, a56⟩ : S_copy_run)].length < 1000000000) (
                some (l ++ [(⟨x53, a56, a56⟩ : S_copy_run)], f_Strange, f_Twice, putI m_2 a56 ((m_2 a56) + 1))))) fun (l_2, f_Strange_2, f_Twice_2, m_3) =>
      chk (I64 (x53 + 1)) (
        some (Stp.ag ((x53 + 1), l_2, f_Strange_2, f_Twice_2, m_3)))
  else
    some (Stp.dn (m_2, l, f_Strange, f_Twice))
noncomputable def P_c_faults (x_CpCase_Book_Signed : Int) (x_CpCase_Book_Gatherings : List Gat) (x_CpCase_Items : List Item) (x_leaves : List Leaf) (x_mates : List Int) (t : List Int) : Option ((List Int) × (List Int) × Int × (List Int) × (List Int) × (List Int) × Int) :=
  andx (P_c_lost x_CpCase_Book_Signed x_CpCase_Book_Gatherings x_CpCase_Items x_leaves x_mates t) fun y16 =>
    andx (
      iter (P_c_faults_L1 x_mates y16) (0, (fun _ => 0), 0)) fun (m, f_Pieces) =>
      andx (
        iter (P_c_faults_L2 x_leaves t) (0, [], [], [], (fun _ => 0))) fun (m_2, l, f_Strange, f_Twice) =>
        andx (P_c_moved l) fun y131 =>
          chk (I64 (f_Pieces + (f_Strange.length : Int))) (
            chk (I64 ((f_Pieces + (f_Strange.length : Int)) + (f_Twice.length : Int))) (
              chk (I64 (((f_Pieces + (f_Strange.length : Int)) + (f_Twice.length : Int)) + (y131.length : Int))) (
                some ([], y16, f_Pieces, f_Strange, f_Twice, y131, (((f_Pieces + (f_Strange.length : Int)) + (f_Twice.length : Int)) + (y131.length : Int))))))
end Go.Am
end
