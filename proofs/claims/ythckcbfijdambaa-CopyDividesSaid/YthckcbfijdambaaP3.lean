/- Part 3. -/
import Derived.Test.YthckcbfijdambaaP2
section
namespace Go.Am.Ythckcbfijdambaa
open Go.Am Go.RowKit
set_option linter.unusedVariables false
set_option linter.unusedSimpArgs false
theorem r1_in (n : Int) (lo : Int) (hi : Int)  : Comes (EL 0) 88 [iv n, iv lo, iv hi] (bv (decide (inR n lo hi))) := by
  refine Comes.of (TF.enter (fn := Go.Proofs.Try.f88) rfl rfl rfl rfl rfl ?_)
  refine T.seq ?_
  refine T.text rfl ?_
  refine TO.val rfl rfl rfl (Val.assign rfl) ?_
  refine TO.nil ?_
  refine T.seq ?_
  refine T.text rfl ?_
  refine TO.val rfl rfl rfl (Val.move rfl) ?_
  refine TO.val rfl rfl rfl (Val.move rfl) ?_
  refine TO.leq rfl rfl rfl rfl rfl (fun c9 hc9 => ?_)
  refine TO.val rfl rfl rfl (Val.move rfl) ?_
  cases c9 with
  | true =>
    replace hc9 := btrue hc9
    refine TO.val rfl rfl rfl (Val.move rfl) ?_
    refine TO.val rfl rfl rfl (Val.move rfl) ?_
    refine TO.leq rfl rfl rfl rfl rfl (fun c13 hc13 => ?_)
    refine TO.val rfl rfl rfl (Val.pick rfl rfl rfl) ?_
    refine TO.val rfl rfl rfl (Val.assign rfl) ?_
    refine TO.nil ?_
    refine T.ret ?_
    cases c13 with
    | true =>
      replace hc13 := btrue hc13
      exact ⟨rfl, _, rfl, RefN.cast .lit (bv_t (by unfold inR; omega))⟩
    | false =>
      replace hc13 := bfalse hc13
      exact ⟨rfl, _, rfl, RefN.cast .lit (bv_f (by unfold inR; omega))⟩
  | false =>
    replace hc9 := bfalse hc9
    refine TO.off rfl rfl rfl ?_
    refine TO.off rfl rfl rfl ?_
    refine TO.off rfl rfl rfl ?_
    refine TO.val rfl rfl rfl (Val.pick rfl rfl rfl) ?_
    refine TO.val rfl rfl rfl (Val.assign rfl) ?_
    refine TO.nil ?_
    refine T.ret ?_
    exact ⟨rfl, _, rfl, RefN.cast .lit (bv_f (by unfold inR; omega))⟩
theorem r1_signature (s : Sg)  : Comes (EL 1) 105 [.agg (encS.f s)] (bv (decide (sigOk s))) := by
  refine Comes.of (TF.enter (fn := Go.Proofs.Try.f105) rfl rfl rfl rfl rfl ?_)
  refine T.seq ?_
  refine T.text rfl ?_
  refine TO.box (k := 2) (cells := [_, _]) rfl rfl rfl rfl rfl rfl rfl (fun b1 => ?_)
  refine TO.val rfl rfl rfl (Val.assign rfl) ?_
  refine TO.nil ?_
  refine T.seq ?_
  refine T.text rfl ?_
  refine TO.val rfl rfl rfl (Val.faddr_ptr (fo := 0) rfl rfl rfl) ?_
  refine TO.val rfl rfl rfl (Val.load_row (p := 0) rfl ⟨_, rfl, rfl⟩ rfl rfl rfl) ?_
  refine TO.callD rfl rfl rfl rfl rfl (orcL rfl (by first | decide | omega)) (.cons .lit (.cons .lit (.cons .lit .nil))) (sem_of (r1_in _ _ _ )) (fun c5 hc5 => ?_)
  refine TO.val rfl rfl rfl (Val.move rfl) ?_
  cases c5 with
  | true =>
    replace hc5 := btrue hc5
    refine TO.val rfl rfl rfl (Val.faddr_ptr (fo := 1) rfl rfl rfl) ?_
    refine TO.val rfl rfl rfl (Val.load_row (p := 0) rfl ⟨_, rfl, rfl⟩ rfl rfl rfl) ?_
    refine TO.callD rfl rfl rfl rfl rfl (orcL rfl (by first | decide | omega)) (.cons .lit (.cons .lit (.cons .lit .nil))) (sem_of (r1_in _ _ _ )) (fun c9 hc9 => ?_)
    refine TO.val rfl rfl rfl (Val.pick rfl rfl rfl) ?_
    refine TO.val rfl rfl rfl (Val.assign rfl) ?_
    refine TO.nil ?_
    refine T.ret ?_
    cases c9 with
    | true =>
      replace hc9 := btrue hc9
      exact ⟨rfl, _, rfl, RefN.cast .lit (bv_t (by unfold sigOk; simp_all))⟩
    | false =>
      replace hc9 := bfalse hc9
      exact ⟨rfl, _, rfl, RefN.cast .lit (bv_f (by unfold sigOk; simp_all))⟩
  | false =>
    replace hc5 := bfalse hc5
    refine TO.off rfl rfl rfl ?_
    refine TO.off rfl rfl rfl ?_
    refine TO.off rfl rfl rfl ?_
    refine TO.val rfl rfl rfl (Val.pick rfl rfl rfl) ?_
    refine TO.val rfl rfl rfl (Val.assign rfl) ?_
    refine TO.nil ?_
    refine T.ret ?_
    exact ⟨rfl, _, rfl, RefN.cast .lit (bv_f (by unfold sigOk; simp_all))⟩
theorem r1_rank (s : Sg) (hs : sigOk s) : Comes (EL 0) 106 [.agg (encS.f s)] (iv (rank s)) := by
  obtain ⟨⟨hs1, hs2⟩, ⟨hs3, hs4⟩⟩ := hs
  refine Comes.of (TF.enter (fn := Go.Proofs.Try.f106) rfl rfl rfl rfl rfl ?_)
  refine T.seq ?_
  refine T.text rfl ?_
  refine TO.box (k := 2) (cells := [_, _]) rfl rfl rfl rfl rfl rfl rfl (fun b1 => ?_)
  refine TO.val rfl rfl rfl (Val.assign rfl) ?_
  refine TO.nil ?_
  refine T.seq ?_
  refine T.seq ?_
  refine T.text rfl ?_
  refine TO.val rfl rfl rfl (Val.faddr_ptr (fo := 1) rfl rfl rfl) ?_
  refine TO.val rfl rfl rfl (Val.load_row (p := 0) rfl ⟨_, rfl, rfl⟩ rfl rfl rfl) ?_
  refine TO.geq rfl rfl rfl rfl rfl (fun c5 hc5 => ?_)
  refine TO.nil ?_
  cases c5 with
  | true =>
    replace hc5 := btrue hc5
    refine T.condT (fun a ha => ha.ev (.tmp 5) _ rfl) ?_
    refine T.seq ?_
    refine T.text rfl ?_
    refine TO.val rfl rfl rfl (Val.assign rfl) ?_
    refine TO.nil ?_
    refine T.ret ?_
    exact ⟨rfl, _, rfl, RefN.cast .lit (by simp only [rank]; split <;> first | rfl | omega)⟩
  | false =>
    replace hc5 := bfalse hc5
    refine T.condF (fun a ha => ha.ev (.tmp 5) _ rfl) ?_
    refine T.skip ?_
    refine T.seq ?_
    refine T.text rfl ?_
    refine TO.val rfl rfl rfl (Val.faddr_ptr (fo := 0) rfl rfl rfl) ?_
    refine TO.val rfl rfl rfl (Val.load_row (p := 0) rfl ⟨_, rfl, rfl⟩ rfl rfl rfl) ?_
    refine TO.val rfl rfl rfl (Val.sub rfl rfl (by omega)) ?_
    refine TO.val rfl rfl rfl (Val.mul rfl rfl (by omega)) ?_
    refine TO.val rfl rfl rfl (Val.faddr_ptr (fo := 1) rfl rfl rfl) ?_
    refine TO.val rfl rfl rfl (Val.load_row (p := 0) rfl ⟨_, rfl, rfl⟩ rfl rfl rfl) ?_
    refine TO.val rfl rfl rfl (Val.add rfl rfl (by omega)) ?_
    refine TO.val rfl rfl rfl (Val.assign rfl) ?_
    refine TO.nil ?_
    refine T.ret ?_
    exact ⟨rfl, _, rfl, RefN.cast .lit (by simp only [rank]; split <;> first | rfl | omega)⟩
theorem r1_change (g : Gat) (i : Nat) (c : Chg) (hi : g.ch.l[i]? = some c) (hb : g.ch.l.length ≤ 4) : Comes (EL 1) 107 [.agg (encG.f g), iv (i : Int)] (iv (chgErr g.leaves c (if i = 0 then none else g.ch.l[i - 1]?))) := by
  have hlt := (List.getElem?_eq_some_iff.1 hi).1
  refine Comes.of (TF.enter (fn := Go.Proofs.Try.f107) rfl rfl rfl rfl rfl ?_)
  refine T.seq ?_
  refine T.text rfl ?_
  refine TO.box (k := 4) (cells := [_, _, _, _]) rfl rfl rfl rfl rfl rfl rfl (fun b2 => ?_)
  refine TO.val rfl rfl rfl (Val.assign rfl) ?_
  refine TO.nil ?_
  refine T.seq ?_
  refine T.text rfl ?_
  refine TO.val rfl rfl rfl (Val.faddr_ptr (fo := 3) rfl rfl rfl) ?_
  refine TO.val rfl rfl rfl (Val.load_row (p := 0) rfl ⟨_, rfl, rfl⟩ rfl rfl rfl) ?_
  refine TO.val rfl rfl rfl (Val.move rfl) ?_
  refine TO.index_gs rfl rfl rfl ⟨rfl, rfl⟩ rfl rfl (by omega) (fun a12 ra12 ea12 => ?_)
  try simp only [Int.toNat_natCast] at ea12
  have e12 := Option.some.inj (hi.symm.trans ea12)
  subst e12
  refine TO.val rfl rfl rfl (Val.load_trees (c := _) ⟨⟨_, rfl, rfl⟩, rfl, by decide⟩ rfl rfl) ?_
  refine TO.alloc (k := 3) (cells := [_, _, _]) rfl rfl rfl rfl rfl rfl rfl (fun b5 => ?_)
  refine TO.store_row (p := 0) (cv := [_, _, _]) (cells' := [_, _, _]) rfl rfl rfl rfl rfl rfl rfl rfl rfl rfl (by first | rfl | simp [GS.one]) (by decide) rfl ?_
  refine TO.things (hs' := [_, _]) rfl ?_
  refine TO.nil ?_
  refine T.seq ?_
  refine T.seq ?_
  refine T.text rfl ?_
  refine TO.val rfl rfl rfl (Val.faddr_ptr (fo := 0) rfl rfl rfl) ?_
  refine TO.val rfl rfl rfl (Val.load_row (p := 0) rfl ⟨_, rfl, rfl⟩ rfl rfl rfl) ?_
  refine TO.callD rfl rfl rfl rfl rfl (orcL rfl (by first | decide | omega)) (.cons .lit (.cons .lit (.cons .lit .nil))) (sem_of (r1_in _ _ _ )) (fun c16 hc16 => ?_)
  refine TO.val rfl rfl rfl (Val.not rfl) ?_
  refine TO.nil ?_
  cases c16 with
  | true =>
    replace hc16 := btrue hc16
    refine T.condF (fun a ha => ha.ev (.tmp 17) _ rfl) ?_
    refine T.skip ?_
    refine T.seq ?_
    refine T.draw (fun v => sameC_refl v) (l1 := [0, 1, 2, 3, 4]) (l2 := []) (by kernel_rfl) (by kernel_rfl) ?_
    refine TO.val rfl rfl rfl (Val.faddr_ptr (fo := 2) rfl rfl rfl) ?_
    refine TO.val rfl rfl rfl (Val.load_row (p := 0) rfl ⟨_, rfl, rfl⟩ rfl rfl rfl) ?_
    refine TO.eql rfl rfl rfl rfl rfl (fun c20 hc20 => ?_)
    refine TO.val rfl rfl rfl (Val.assign rfl) ?_
    refine TO.val rfl rfl rfl (Val.assign rfl) ?_
    refine TO.nil ?_
    refine T.seq ?_
    refine T.seq ?_
    refine T.text rfl ?_
    refine TO.val rfl rfl rfl (Val.faddr_ptr (fo := 0) rfl rfl rfl) ?_
    refine TO.val rfl rfl rfl (Val.load_row (p := 0) rfl ⟨_, rfl, rfl⟩ rfl rfl rfl) ?_
    refine TO.eql rfl rfl rfl rfl rfl (fun c23 hc23 => ?_)
    refine TO.nil ?_
    cases c23 with
    | true =>
      replace hc23 := btrue hc23
      refine T.condT (fun a ha => ha.ev (.tmp 23) _ rfl) ?_
      refine T.text rfl ?_
      refine TO.val rfl rfl rfl (Val.faddr_ptr (fo := 2) rfl rfl rfl) ?_
      refine TO.val rfl rfl rfl (Val.load_row (p := 0) rfl ⟨_, rfl, rfl⟩ rfl rfl rfl) ?_
      refine TO.callD rfl rfl rfl rfl rfl (orcL rfl (by first | decide | omega)) (.cons .lit (.cons .lit (.cons .lit .nil))) (sem_of (r1_in _ _ _ )) (fun c26 hc26 => ?_)
      refine TO.val rfl rfl rfl (Val.assign rfl) ?_
      refine TO.val rfl rfl rfl (Val.assign rfl) ?_
      refine TO.nil ?_
      refine T.seq ?_
      refine T.seq ?_
      refine T.text rfl ?_
      refine TO.val rfl rfl rfl (Val.faddr_ptr (fo := 1) rfl rfl rfl) ?_
      refine TO.val rfl rfl rfl (Val.load_row (p := 0) rfl ⟨_, rfl, rfl⟩ rfl rfl rfl) ?_
      refine TO.val rfl rfl rfl (Val.move rfl) ?_
      refine TO.val rfl rfl rfl (Val.faddr_ptr (fo := 2) rfl rfl rfl) ?_
      refine TO.val rfl rfl rfl (Val.load_row (p := 1) rfl ⟨_, rfl, rfl⟩ rfl rfl rfl) ?_
      refine TO.callD rfl rfl rfl rfl rfl (orcL rfl (by first | decide | omega)) (.cons .lit (.cons .lit (.cons .lit .nil))) (sem_of (r1_in _ _ _ )) (fun c32 hc32 => ?_)
      refine TO.val rfl rfl rfl (Val.not rfl) ?_
      refine TO.val rfl rfl rfl (Val.move rfl) ?_
      cases c32 with
      | true =>
        replace hc32 := btrue hc32
        refine TO.val rfl rfl rfl (Val.move rfl) ?_
        refine TO.val rfl rfl rfl (Val.not rfl) ?_
        refine TO.val rfl rfl rfl (Val.pick rfl rfl rfl) ?_
        refine TO.nil ?_
        cases c26 with
        | true =>
          replace hc26 := btrue hc26
          refine T.condF (fun a ha => ha.ev (.tmp 37) _ rfl) ?_
          refine T.skip ?_
          refine T.seq ?_
          refine T.seq ?_
          refine T.text rfl ?_
          refine TO.val rfl rfl rfl (Val.move rfl) ?_
          refine TO.eql rfl rfl rfl rfl rfl (fun c39 hc39 => ?_)
          refine TO.nil ?_
          cases c39 with
          | true =>
            replace hc39 := btrue hc39
            refine T.condT (fun a ha => ha.ev (.tmp 39) _ rfl) ?_
            refine T.seq ?_
            refine T.text rfl ?_
            refine TO.val rfl rfl rfl (Val.assign rfl) ?_
            refine TO.nil ?_
            refine T.ret ?_
            exact ⟨rfl, _, rfl, RefN.cast .lit (by simp_all [chgErr])⟩
          | false =>
            replace hc39 := bfalse hc39
            refine T.condF (fun a ha => ha.ev (.tmp 39) _ rfl) ?_
            refine T.skip ?_
            refine T.seq ?_
            refine T.text rfl ?_
            refine TO.val rfl rfl rfl (Val.faddr_ptr (fo := 3) rfl rfl rfl) ?_
            refine TO.val rfl rfl rfl (Val.load_row (p := 1) rfl ⟨_, rfl, rfl⟩ rfl rfl rfl) ?_
            refine TO.val rfl rfl rfl (Val.move rfl) ?_
            refine TO.val rfl rfl rfl (Val.sub rfl rfl (by omega)) ?_
            refine TO.index_gs rfl rfl rfl ⟨rfl, rfl⟩ rfl rfl (by omega) (fun a44 ra44 ea44 => ?_)
            try simp only [Int.toNat_natCast] at ea44
            have e44 : ((i : Int) - 1).toNat = i - 1 := by omega
            rw [e44] at ea44
            refine TO.val rfl rfl rfl (Val.load_trees (c := _) ⟨⟨_, rfl, rfl⟩, rfl, by decide⟩ rfl rfl) ?_
            refine TO.alloc (k := 3) (cells := [_, _, _]) rfl rfl rfl rfl rfl rfl rfl (fun b8 => ?_)
            refine TO.store_row (p := 0) (cv := [_, _, _]) (cells' := [_, _, _]) rfl rfl rfl rfl rfl rfl rfl rfl rfl rfl (by first | rfl | simp [GS.one]) (by decide) rfl ?_
            refine TO.things (hs' := [_, _, _]) rfl ?_
            refine TO.nil ?_
            refine T.seq ?_
            refine T.seq ?_
            refine T.text rfl ?_
            refine TO.val rfl rfl rfl (Val.faddr_ptr (fo := 1) rfl rfl rfl) ?_
            refine TO.val rfl rfl rfl (Val.load_row (p := 1) rfl ⟨_, rfl, rfl⟩ rfl rfl rfl) ?_
            refine TO.val rfl rfl rfl (Val.faddr_ptr (fo := 1) rfl rfl rfl) ?_
            refine TO.val rfl rfl rfl (Val.load_row (p := 0) rfl ⟨_, rfl, rfl⟩ rfl rfl rfl) ?_
            refine TO.lss rfl rfl rfl rfl rfl (fun c50 hc50 => ?_)
            refine TO.val rfl rfl rfl (Val.move rfl) ?_
            cases c50 with
            | true =>
              replace hc50 := btrue hc50
              refine TO.off rfl rfl rfl ?_
              refine TO.off rfl rfl rfl ?_
              refine TO.off rfl rfl rfl ?_
              refine TO.off rfl rfl rfl ?_
              refine TO.off rfl rfl rfl ?_
              refine TO.off rfl rfl rfl ?_
              refine TO.off rfl rfl rfl ?_
              refine TO.off rfl rfl rfl ?_
              refine TO.off rfl rfl rfl ?_
              refine TO.off rfl rfl rfl ?_
              refine TO.off rfl rfl rfl ?_
              refine TO.off rfl rfl rfl ?_
              refine TO.off rfl rfl rfl ?_
              refine TO.off rfl rfl rfl ?_
              refine TO.off rfl rfl rfl ?_
              refine TO.val rfl rfl rfl (Val.pick rfl rfl rfl) ?_
              refine TO.nil ?_
              refine T.condT (fun a ha => ha.ev (.tmp 67) _ rfl) ?_
              refine T.seq ?_
              refine T.text rfl ?_
              refine TO.val rfl rfl rfl (Val.assign rfl) ?_
              refine TO.nil ?_
              refine T.ret ?_
              exact ⟨rfl, _, rfl, RefN.cast .lit (by simp_all [chgErr])⟩
            | false =>
              replace hc50 := bfalse hc50
              refine TO.val rfl rfl rfl (Val.faddr_ptr (fo := 1) rfl rfl rfl) ?_
              refine TO.val rfl rfl rfl (Val.load_row (p := 1) rfl ⟨_, rfl, rfl⟩ rfl rfl rfl) ?_
              refine TO.val rfl rfl rfl (Val.faddr_ptr (fo := 1) rfl rfl rfl) ?_
              refine TO.val rfl rfl rfl (Val.load_row (p := 0) rfl ⟨_, rfl, rfl⟩ rfl rfl rfl) ?_
              refine TO.eql rfl rfl rfl rfl rfl (fun c56 hc56 => ?_)
              refine TO.val rfl rfl rfl (Val.move rfl) ?_
              cases c56 with
              | true =>
                replace hc56 := btrue hc56
                refine TO.val rfl rfl rfl (Val.faddr_ptr (fo := 0) rfl rfl rfl) ?_
                refine TO.val rfl rfl rfl (Val.load_row (p := 1) rfl ⟨_, rfl, rfl⟩ rfl rfl rfl) ?_
                refine TO.neq rfl rfl rfl rfl rfl (fun c60 hc60 => ?_)
                refine TO.val rfl rfl rfl (Val.move rfl) ?_
                cases c60 with
                | true =>
                  replace hc60 := btrue hc60
                  refine TO.off rfl rfl rfl ?_
                  refine TO.off rfl rfl rfl ?_
                  refine TO.off rfl rfl rfl ?_
                  refine TO.val rfl rfl rfl (Val.pick rfl rfl rfl) ?_
                  refine TO.val rfl rfl rfl (Val.pick rfl rfl rfl) ?_
                  refine TO.val rfl rfl rfl (Val.pick rfl rfl rfl) ?_
                  refine TO.nil ?_
                  refine T.condT (fun a ha => ha.ev (.tmp 67) _ rfl) ?_
                  refine T.seq ?_
                  refine T.text rfl ?_
                  refine TO.val rfl rfl rfl (Val.assign rfl) ?_
                  refine TO.nil ?_
                  refine T.ret ?_
                  exact ⟨rfl, _, rfl, RefN.cast .lit (by simp_all [chgErr])⟩
                | false =>
                  replace hc60 := bfalse hc60
                  refine TO.val rfl rfl rfl (Val.faddr_ptr (fo := 0) rfl rfl rfl) ?_
                  refine TO.val rfl rfl rfl (Val.load_row (p := 0) rfl ⟨_, rfl, rfl⟩ rfl rfl rfl) ?_
                  refine TO.eql rfl rfl rfl rfl rfl (fun c64 hc64 => ?_)
                  refine TO.val rfl rfl rfl (Val.pick rfl rfl rfl) ?_
                  refine TO.val rfl rfl rfl (Val.pick rfl rfl rfl) ?_
                  refine TO.val rfl rfl rfl (Val.pick rfl rfl rfl) ?_
                  refine TO.nil ?_
                  cases c64 with
                  | true =>
                    replace hc64 := btrue hc64
                    refine T.condT (fun a ha => ha.ev (.tmp 67) _ rfl) ?_
                    refine T.seq ?_
                    refine T.text rfl ?_
                    refine TO.val rfl rfl rfl (Val.assign rfl) ?_
                    refine TO.nil ?_
                    refine T.ret ?_
                    exact ⟨rfl, _, rfl, RefN.cast .lit (by simp_all [chgErr])⟩
                  | false =>
                    replace hc64 := bfalse hc64
                    refine T.condF (fun a ha => ha.ev (.tmp 67) _ rfl) ?_
                    refine T.skip ?_
                    refine T.seq ?_
                    refine T.text rfl ?_
                    refine TO.val rfl rfl rfl (Val.assign rfl) ?_
                    refine TO.nil ?_
                    refine T.ret ?_
                    exact ⟨rfl, _, rfl, RefN.cast .lit (by simp_all [chgErr])⟩
              | false =>
                replace hc56 := bfalse hc56
                refine TO.off rfl rfl rfl ?_
                refine TO.off rfl rfl rfl ?_
                refine TO.off rfl rfl rfl ?_
                refine TO.off rfl rfl rfl ?_
                refine TO.off rfl rfl rfl ?_
                refine TO.off rfl rfl rfl ?_
                refine TO.off rfl rfl rfl ?_
                refine TO.off rfl rfl rfl ?_
                refine TO.val rfl rfl rfl (Val.pick rfl rfl rfl) ?_
                refine TO.val rfl rfl rfl (Val.pick rfl rfl rfl) ?_
                refine TO.nil ?_
                refine T.condF (fun a ha => ha.ev (.tmp 67) _ rfl) ?_
                refine T.skip ?_
                refine T.seq ?_
                refine T.text rfl ?_
                refine TO.val rfl rfl rfl (Val.assign rfl) ?_
                refine TO.nil ?_
                refine T.ret ?_
                exact ⟨rfl, _, rfl, RefN.cast .lit (by simp_all [chgErr])⟩
        | false =>
          replace hc26 := bfalse hc26
          refine T.condT (fun a ha => ha.ev (.tmp 37) _ rfl) ?_
          refine T.seq ?_
          refine T.text rfl ?_
          refine TO.val rfl rfl rfl (Val.assign rfl) ?_
          refine TO.nil ?_
          refine T.ret ?_
          exact ⟨rfl, _, rfl, RefN.cast .lit (by simp_all [chgErr])⟩
      | false =>
        replace hc32 := bfalse hc32
        refine TO.off rfl rfl rfl ?_
        refine TO.off rfl rfl rfl ?_
        refine TO.val rfl rfl rfl (Val.pick rfl rfl rfl) ?_
        refine TO.nil ?_
        refine T.condT (fun a ha => ha.ev (.tmp 37) _ rfl) ?_
        refine T.seq ?_
        refine T.text rfl ?_
        refine TO.val rfl rfl rfl (Val.assign rfl) ?_
        refine TO.nil ?_
        refine T.ret ?_
        exact ⟨rfl, _, rfl, RefN.cast .lit (by simp_all [chgErr])⟩
    | false =>
      replace hc23 := bfalse hc23
      refine T.condF (fun a ha => ha.ev (.tmp 23) _ rfl) ?_
      refine T.skip ?_
      refine T.seq ?_
      refine T.seq ?_
      refine T.text rfl ?_
      refine TO.val rfl rfl rfl (Val.faddr_ptr (fo := 1) rfl rfl rfl) ?_
      refine TO.val rfl rfl rfl (Val.load_row (p := 0) rfl ⟨_, rfl, rfl⟩ rfl rfl rfl) ?_
      refine TO.val rfl rfl rfl (Val.move rfl) ?_
      refine TO.val rfl rfl rfl (Val.faddr_ptr (fo := 2) rfl rfl rfl) ?_
      refine TO.val rfl rfl rfl (Val.load_row (p := 1) rfl ⟨_, rfl, rfl⟩ rfl rfl rfl) ?_
      refine TO.callD rfl rfl rfl rfl rfl (orcL rfl (by first | decide | omega)) (.cons .lit (.cons .lit (.cons .lit .nil))) (sem_of (r1_in _ _ _ )) (fun c32 hc32 => ?_)
      refine TO.val rfl rfl rfl (Val.not rfl) ?_
      refine TO.val rfl rfl rfl (Val.move rfl) ?_
      cases c32 with
      | true =>
        replace hc32 := btrue hc32
        refine TO.val rfl rfl rfl (Val.move rfl) ?_
        refine TO.val rfl rfl rfl (Val.not rfl) ?_
        refine TO.val rfl rfl rfl (Val.pick rfl rfl rfl) ?_
        refine TO.nil ?_
        cases c20 with
        | true =>
          replace hc20 := btrue hc20
          refine T.condF (fun a ha => ha.ev (.tmp 37) _ rfl) ?_
          refine T.skip ?_
          refine T.seq ?_
          refine T.seq ?_
          refine T.text rfl ?_
          refine TO.val rfl rfl rfl (Val.move rfl) ?_
          refine TO.eql rfl rfl rfl rfl rfl (fun c39 hc39 => ?_)
          refine TO.nil ?_
          cases c39 with
          | true =>
            replace hc39 := btrue hc39
            refine T.condT (fun a ha => ha.ev (.tmp 39) _ rfl) ?_
            refine T.seq ?_
            refine T.text rfl ?_
            refine TO.val rfl rfl rfl (Val.assign rfl) ?_
            refine TO.nil ?_
            refine T.ret ?_
            exact ⟨rfl, _, rfl, RefN.cast .lit (by simp_all [chgErr])⟩
          | false =>
            replace hc39 := bfalse hc39
            refine T.condF (fun a ha => ha.ev (.tmp 39) _ rfl) ?_
            refine T.skip ?_
            refine T.seq ?_
            refine T.text rfl ?_
            refine TO.val rfl rfl rfl (Val.faddr_ptr (fo := 3) rfl rfl rfl) ?_
            refine TO.val rfl rfl rfl (Val.load_row (p := 1) rfl ⟨_, rfl, rfl⟩ rfl rfl rfl) ?_
            refine TO.val rfl rfl rfl (Val.move rfl) ?_
            refine TO.val rfl rfl rfl (Val.sub rfl rfl (by omega)) ?_
            refine TO.index_gs rfl rfl rfl ⟨rfl, rfl⟩ rfl rfl (by omega) (fun a44 ra44 ea44 => ?_)
            try simp only [Int.toNat_natCast] at ea44
            have e44 : ((i : Int) - 1).toNat = i - 1 := by omega
            rw [e44] at ea44
            refine TO.val rfl rfl rfl (Val.load_trees (c := _) ⟨⟨_, rfl, rfl⟩, rfl, by decide⟩ rfl rfl) ?_
            refine TO.alloc (k := 3) (cells := [_, _, _]) rfl rfl rfl rfl rfl rfl rfl (fun b8 => ?_)
            refine TO.store_row (p := 0) (cv := [_, _, _]) (cells' := [_, _, _]) rfl rfl rfl rfl rfl rfl rfl rfl rfl rfl (by first | rfl | simp [GS.one]) (by decide) rfl ?_
            refine TO.things (hs' := [_, _, _]) rfl ?_
            refine TO.nil ?_
            refine T.seq ?_
            refine T.seq ?_
            refine T.text rfl ?_
            refine TO.val rfl rfl rfl (Val.faddr_ptr (fo := 1) rfl rfl rfl) ?_
            refine TO.val rfl rfl rfl (Val.load_row (p := 1) rfl ⟨_, rfl, rfl⟩ rfl rfl rfl) ?_
            refine TO.val rfl rfl rfl (Val.faddr_ptr (fo := 1) rfl rfl rfl) ?_
            refine TO.val rfl rfl rfl (Val.load_row (p := 0) rfl ⟨_, rfl, rfl⟩ rfl rfl rfl) ?_
            refine TO.lss rfl rfl rfl rfl rfl (fun c50 hc50 => ?_)
            refine TO.val rfl rfl rfl (Val.move rfl) ?_
            cases c50 with
            | true =>
              replace hc50 := btrue hc50
              refine TO.off rfl rfl rfl ?_
              refine TO.off rfl rfl rfl ?_
              refine TO.off rfl rfl rfl ?_
              refine TO.off rfl rfl rfl ?_
              refine TO.off rfl rfl rfl ?_
              refine TO.off rfl rfl rfl ?_
              refine TO.off rfl rfl rfl ?_
              refine TO.off rfl rfl rfl ?_
              refine TO.off rfl rfl rfl ?_
              refine TO.off rfl rfl rfl ?_
              refine TO.off rfl rfl rfl ?_
              refine TO.off rfl rfl rfl ?_
              refine TO.off rfl rfl rfl ?_
              refine TO.off rfl rfl rfl ?_
              refine TO.off rfl rfl rfl ?_
              refine TO.val rfl rfl rfl (Val.pick rfl rfl rfl) ?_
              refine TO.nil ?_
              refine T.condT (fun a ha => ha.ev (.tmp 67) _ rfl) ?_
              refine T.seq ?_
              refine T.text rfl ?_
              refine TO.val rfl rfl rfl (Val.assign rfl) ?_
              refine TO.nil ?_
              refine T.ret ?_
              exact ⟨rfl, _, rfl, RefN.cast .lit (by simp_all [chgErr])⟩
            | false =>
              replace hc50 := bfalse hc50
              refine TO.val rfl rfl rfl (Val.faddr_ptr (fo := 1) rfl rfl rfl) ?_
              refine TO.val rfl rfl rfl (Val.load_row (p := 1) rfl ⟨_, rfl, rfl⟩ rfl rfl rfl) ?_
              refine TO.val rfl rfl rfl (Val.faddr_ptr (fo := 1) rfl rfl rfl) ?_
              refine TO.val rfl rfl rfl (Val.load_row (p := 0) rfl ⟨_, rfl, rfl⟩ rfl rfl rfl) ?_
              refine TO.eql rfl rfl rfl rfl rfl (fun c56 hc56 => ?_)
              refine TO.val rfl rfl rfl (Val.move rfl) ?_
              cases c56 with
              | true =>
                replace hc56 := btrue hc56
                refine TO.val rfl rfl rfl (Val.faddr_ptr (fo := 0) rfl rfl rfl) ?_
                refine TO.val rfl rfl rfl (Val.load_row (p := 1) rfl ⟨_, rfl, rfl⟩ rfl rfl rfl) ?_
                refine TO.neq rfl rfl rfl rfl rfl (fun c60 hc60 => ?_)
                refine TO.val rfl rfl rfl (Val.move rfl) ?_
                cases c60 with
                | true =>
                  replace hc60 := btrue hc60
                  refine TO.off rfl rfl rfl ?_
                  refine TO.off rfl rfl rfl ?_
                  refine TO.off rfl rfl rfl ?_
                  refine TO.val rfl rfl rfl (Val.pick rfl rfl rfl) ?_
                  refine TO.val rfl rfl rfl (Val.pick rfl rfl rfl) ?_
                  refine TO.val rfl rfl rfl (Val.pick rfl rfl rfl) ?_
                  refine TO.nil ?_
                  refine T.condT (fun a ha => ha.ev (.tmp 67) _ rfl) ?_
                  refine T.seq ?_
                  refine T.text rfl ?_
                  refine TO.val rfl rfl rfl (Val.assign rfl) ?_
                  refine TO.nil ?_
                  refine T.ret ?_
                  exact ⟨rfl, _, rfl, RefN.cast .lit (by simp_all [chgErr])⟩
                | false =>
                  replace hc60 := bfalse hc60
                  refine TO.val rfl rfl rfl (Val.faddr_ptr (fo := 0) rfl rfl rfl) ?_
                  refine TO.val rfl rfl rfl (Val.load_row (p := 0) rfl ⟨_, rfl, rfl⟩ rfl rfl rfl) ?_
                  refine TO.eql rfl rfl rfl rfl rfl (fun c64 hc64 => ?_)
                  refine TO.val rfl rfl rfl (Val.pick rfl rfl rfl) ?_
                  refine TO.val rfl rfl rfl (Val.pick rfl rfl rfl) ?_
                  refine TO.val rfl rfl rfl (Val.pick rfl rfl rfl) ?_
                  refine TO.nil ?_
                  cases c64 with
                  | true =>
                    replace hc64 := btrue hc64
                    refine T.condT (fun a ha => ha.ev (.tmp 67) _ rfl) ?_
                    refine T.seq ?_
                    refine T.text rfl ?_
                    refine TO.val rfl rfl rfl (Val.assign rfl) ?_
                    refine TO.nil ?_
                    refine T.ret ?_
                    exact ⟨rfl, _, rfl, RefN.cast .lit (by simp_all [chgErr])⟩
                  | false =>
                    replace hc64 := bfalse hc64
                    refine T.condF (fun a ha => ha.ev (.tmp 67) _ rfl) ?_
                    refine T.skip ?_
                    refine T.seq ?_
                    refine T.text rfl ?_
                    refine TO.val rfl rfl rfl (Val.assign rfl) ?_
                    refine TO.nil ?_
                    refine T.ret ?_
                    exact ⟨rfl, _, rfl, RefN.cast .lit (by simp_all [chgErr])⟩
              | false =>
                replace hc56 := bfalse hc56
                refine TO.off rfl rfl rfl ?_
                refine TO.off rfl rfl rfl ?_
                refine TO.off rfl rfl rfl ?_
                refine TO.off rfl rfl rfl ?_
                refine TO.off rfl rfl rfl ?_
                refine TO.off rfl rfl rfl ?_
                refine TO.off rfl rfl rfl ?_
                refine TO.off rfl rfl rfl ?_
                refine TO.val rfl rfl rfl (Val.pick rfl rfl rfl) ?_
                refine TO.val rfl rfl rfl (Val.pick rfl rfl rfl) ?_
                refine TO.nil ?_
                refine T.condF (fun a ha => ha.ev (.tmp 67) _ rfl) ?_
                refine T.skip ?_
                refine T.seq ?_
                refine T.text rfl ?_
                refine TO.val rfl rfl rfl (Val.assign rfl) ?_
                refine TO.nil ?_
                refine T.ret ?_
                exact ⟨rfl, _, rfl, RefN.cast .lit (by simp_all [chgErr])⟩
        | false =>
          replace hc20 := bfalse hc20
          refine T.condT (fun a ha => ha.ev (.tmp 37) _ rfl) ?_
          refine T.seq ?_
          refine T.text rfl ?_
          refine TO.val rfl rfl rfl (Val.assign rfl) ?_
          refine TO.nil ?_
          refine T.ret ?_
          exact ⟨rfl, _, rfl, RefN.cast .lit (by simp_all [chgErr])⟩
      | false =>
        replace hc32 := bfalse hc32
        refine TO.off rfl rfl rfl ?_
        refine TO.off rfl rfl rfl ?_
        refine TO.val rfl rfl rfl (Val.pick rfl rfl rfl) ?_
        refine TO.nil ?_
        refine T.condT (fun a ha => ha.ev (.tmp 37) _ rfl) ?_
        refine T.seq ?_
        refine T.text rfl ?_
        refine TO.val rfl rfl rfl (Val.assign rfl) ?_
        refine TO.nil ?_
        refine T.ret ?_
        exact ⟨rfl, _, rfl, RefN.cast .lit (by simp_all [chgErr])⟩
  | false =>
    replace hc16 := bfalse hc16
    refine T.condT (fun a ha => ha.ev (.tmp 17) _ rfl) ?_
    refine T.seq ?_
    refine T.text rfl ?_
    refine TO.val rfl rfl rfl (Val.assign rfl) ?_
    refine TO.nil ?_
    refine T.ret ?_
    exact ⟨rfl, _, rfl, RefN.cast .lit (by simp_all [chgErr])⟩
theorem r1_gathering (b : Book) (i : Nat) (g : Gat) (hi : b.gs.l[i]? = some g) (hb : b.gs.l.length ≤ 30) (hok : ∀ k x, k < i → b.gs.l[k]? = some x → sigOk x.sig) : Comes (EL 2) 89 [.agg (encB.f b), iv (i : Int)] (iv (gathErr (b.gs.l.take i) g)) := by
  have hlt := (List.getElem?_eq_some_iff.1 hi).1
  refine Comes.of (TF.enter (fn := Go.Proofs.Try.f89) rfl rfl rfl rfl rfl ?_)
  refine T.seq ?_
  refine T.text rfl ?_
  refine TO.box (k := 2) (cells := [_, _]) rfl rfl rfl rfl rfl rfl rfl (fun b2 => ?_)
  refine TO.val rfl rfl rfl (Val.assign rfl) ?_
  refine TO.nil ?_
  refine T.seq ?_
  refine T.text rfl ?_
  refine TO.val rfl rfl rfl (Val.faddr_ptr (fo := 1) rfl rfl rfl) ?_
  refine TO.val rfl rfl rfl (Val.load_row (p := 0) rfl ⟨_, rfl, rfl⟩ rfl rfl rfl) ?_
  refine TO.val rfl rfl rfl (Val.move rfl) ?_
  refine TO.index_gs rfl rfl rfl ⟨rfl, rfl⟩ rfl rfl (by omega) (fun a13 ra13 ea13 => ?_)
  try simp only [Int.toNat_natCast] at ea13
  have e13 := Option.some.inj (hi.symm.trans ea13)
  subst e13
  refine TO.val rfl rfl rfl (Val.load_trees (c := _) ⟨⟨_, rfl, rfl⟩, rfl, by decide⟩ rfl rfl) ?_
  refine TO.alloc (k := 4) (cells := [_, _, _, _]) rfl rfl rfl rfl rfl rfl rfl (fun b5 => ?_)
  refine TO.store_row (p := 0) (cv := [_, _, _, _]) (cells' := [_, _, _, _]) rfl rfl rfl rfl rfl rfl rfl rfl rfl rfl (by first | rfl | simp [GS.one]) (by decide) rfl ?_
  refine TO.things (hs' := [_, _]) rfl ?_
  refine TO.nil ?_
  refine T.seq ?_
  refine T.seq ?_
  refine T.text rfl ?_
  refine TO.val rfl rfl rfl (Val.faddr_ptr (fo := 0) rfl rfl rfl) ?_
  refine TO.val rfl rfl rfl (Val.load_rows (p := 0) (c := [_, _]) rfl ⟨⟨_, rfl, rfl⟩, rfl, by decide⟩ rfl rfl rfl rfl) ?_
  refine TO.callD rfl rfl rfl rfl rfl (orcL rfl (by first | decide | omega)) (.cons (.agg (.cons .lit (.cons .lit .nil))) .nil) (sem_of (r1_signature g.sig )) (fun c17 hc17 => ?_)
  refine TO.val rfl rfl rfl (Val.not rfl) ?_
  refine TO.nil ?_
  cases c17 with
  | true =>
    replace hc17 := btrue hc17
    refine T.condF (fun a ha => ha.ev (.tmp 18) _ rfl) ?_
    refine T.skip ?_
    refine T.seq ?_
    refine T.text rfl ?_
    refine TO.val rfl rfl rfl (Val.assign rfl) ?_
    refine TO.nil ?_
    refine T.seq ?_
    refine T.seq ?_
    refine T.text rfl ?_
    refine TO.val rfl rfl rfl (Val.assign rfl) ?_
    refine TO.nil ?_
    refine T.block ?_
    refine T.loop (fun μ s => ∃ k : Nat, ∃ j : Int, ∃ m : Int, μ = i - k ∧ j = k ∧ k ≤ i ∧ (∀ x ∈ b.gs.l.take k, x.sig ≠ g.sig) ∧ m = lastRank (b.gs.l.take k) ∧ (-1 ≤ m ∧ m ≤ 100) ∧ s = ⟨[], [(1, iv (i : Int)), (2, .ptr b2 0 2), (5, .ptr b5 0 4), (6, iv m), (7, iv j)], [.row b5 4 [iv g.round, iv g.letter, iv g.leaves, g.ch.v], .row b2 2 [iv b.signed, b.gs.v]]⟩) (k := _) (s' := _) ⟨0, 0, -1, rfl, (by first | rfl | omega | (simp; done) | (simp; omega) | simp_all), (by first | rfl | omega | (simp; done) | (simp; omega) | simp_all), (by first | rfl | omega | (simp; done) | (simp; omega) | simp_all), (by first | rfl | omega | (simp; done) | (simp; omega) | simp_all), (by first | rfl | omega | (simp; done) | (simp; omega) | simp_all), rfl⟩ ⟨rfl, (keep_cons rfl (keep_cons rfl (keep_cons rfl (keep_cons rfl (keep_cons rfl keep_nil))))), (.cons_cons _ (.cons_cons _ .slnil))⟩ ?_
    rintro μ _ ⟨k, j, m, hk0, hj, hk, hne, hm, hmb, rfl⟩
    subst hj
    refine T.seq ?_
    refine T.seq ?_
    refine T.text rfl ?_
    refine TO.val rfl rfl rfl (Val.move rfl) ?_
    refine TO.val rfl rfl rfl (Val.move rfl) ?_
    refine TO.lss rfl rfl rfl rfl rfl (fun c21 hc21 => ?_)
    refine TO.nil ?_
    cases c21 with
    | true =>
      replace hc21 := btrue hc21
      refine T.condT (fun a ha => ha.ev (.tmp 21) _ rfl) ?_
      refine T.skip ?_
      refine T.seq ?_
      refine T.block ?_
      refine T.seq ?_
      refine T.seq ?_
      refine T.draw (fun v => sameC_refl v) (l1 := [0, 1, 2, 3, 4, 5, 6, 7, 8]) (l2 := []) (by kernel_rfl) (by kernel_rfl) ?_
      refine TO.val rfl rfl rfl (Val.faddr_ptr (fo := 1) rfl rfl rfl) ?_
      refine TO.val rfl rfl rfl (Val.load_row (p := 1) rfl ⟨_, rfl, rfl⟩ rfl rfl rfl) ?_
      refine TO.val rfl rfl rfl (Val.move rfl) ?_
      refine TO.index_gs rfl rfl rfl ⟨rfl, rfl⟩ rfl rfl (by omega) (fun a27 ra27 ea27 => ?_)
      try simp only [Int.toNat_natCast] at ea27
      refine TO.val rfl rfl rfl (Val.faddr_tree (fo := 0) rfl rfl rfl rfl) ?_
      refine TO.val rfl rfl rfl (Val.load_trees (c := [_, _]) ⟨⟨_, rfl, rfl⟩, rfl, by decide⟩ rfl rfl) ?_
      refine TO.val rfl rfl rfl (Val.faddr_ptr (fo := 0) rfl rfl rfl) ?_
      refine TO.val rfl rfl rfl (Val.load_rows (p := 0) (c := [_, _]) rfl ⟨⟨_, rfl, rfl⟩, rfl, by decide⟩ rfl rfl rfl rfl) ?_
      refine TO.binP rfl rfl rfl rfl rfl (eql_ty96 _ _ _ _ _ _) (fun c32 hc32 => ?_)
      refine TO.nil ?_
      cases c32 with
      | true =>
        replace hc32 := btrue hc32
        refine T.condT (fun a ha => ha.ev (.tmp 32) _ rfl) ?_
        refine T.seq ?_
        refine T.text rfl ?_
        refine TO.val rfl rfl rfl (Val.assign rfl) ?_
        refine TO.nil ?_
        refine T.ret ?_
        exact ⟨rfl, _, rfl, RefN.cast .lit (by rw [gathErr, if_neg (by simp [hc17]), if_pos ⟨a27, mem_take ea27 (by omega), sig_eq hc32⟩])⟩
      | false =>
        replace hc32 := bfalse hc32
        refine T.condF (fun a ha => ha.ev (.tmp 32) _ rfl) ?_
        refine T.skip ?_
        refine T.text rfl ?_
        refine TO.val rfl rfl rfl (Val.move rfl) ?_
        refine TO.val rfl rfl rfl (Val.faddr_ptr (fo := 1) rfl rfl rfl) ?_
        refine TO.val rfl rfl rfl (Val.load_row (p := 1) rfl ⟨_, rfl, rfl⟩ rfl rfl rfl) ?_
        refine TO.val rfl rfl rfl (Val.move rfl) ?_
        refine TO.index_gs rfl rfl rfl ⟨rfl, rfl⟩ rfl rfl (by omega) (fun a37 ra37 ea37 => ?_)
        try simp only [Int.toNat_natCast] at ea37
        refine TO.val rfl rfl rfl (Val.faddr_tree (fo := 0) rfl rfl rfl rfl) ?_
        refine TO.val rfl rfl rfl (Val.load_trees (c := [_, _]) ⟨⟨_, rfl, rfl⟩, rfl, by decide⟩ rfl rfl) ?_
        refine TO.call rfl rfl rfl rfl rfl (orcL rfl (by first | decide | omega)) (.cons (.agg (.cons .lit (.cons .lit .nil))) .nil) (sem_of (r1_rank a37.sig (by exact hok _ _ (by omega) ea37))) ?_
        refine TO.bmax rfl rfl rfl rfl rfl ?_
        refine TO.val rfl rfl rfl (Val.assign rfl) ?_
        refine TO.nil ?_
        refine T.text rfl ?_
        refine TO.val rfl rfl rfl (Val.move rfl) ?_
        refine TO.val rfl rfl rfl (Val.add rfl rfl (by omega)) ?_
        refine TO.val rfl rfl rfl (Val.assign rfl) ?_
        refine TO.nil ?_
        refine ⟨_, _, (by omega), ⟨k + 1, _, _, rfl, (by first | omega | simp_all), (by first | omega | simp_all), (by rw [take_snoc ea27]; intro x hx; rcases List.mem_append.1 hx with hx | hx; exact hne x hx; simp at hx; subst hx; exact sig_ne hc32), (by rw [take_snoc ea37, lastRank_snoc, hm]), (by have := rank_le (hok k _ (by omega) ea37); omega), rfl⟩, ⟨rfl, (keep_cons rfl (keep_cons rfl (keep_cons rfl (keep_cons rfl (keep_cons rfl keep_nil))))), (.cons_cons _ (.cons_cons _ .slnil))⟩⟩
    | false =>
      replace hc21 := bfalse hc21
      obtain rfl : k = i := by omega
      have hnx : ¬ ∃ x ∈ b.gs.l.take k, x.sig = g.sig := fun ⟨x, h1, h2⟩ => hne x h1 h2
      refine T.condF (fun a ha => ha.ev (.tmp 21) _ rfl) ?_
      refine T.exit ?_
      refine T.seq ?_
      refine T.seq ?_
      refine T.text rfl ?_
      refine TO.val rfl rfl rfl (Val.faddr_ptr (fo := 0) rfl rfl rfl) ?_
      refine TO.val rfl rfl rfl (Val.load_rows (p := 0) (c := [_, _]) rfl ⟨⟨_, rfl, rfl⟩, rfl, by decide⟩ rfl rfl rfl rfl) ?_
      refine TO.call rfl rfl rfl rfl rfl (orcL rfl (by first | decide | omega)) (.cons (.agg (.cons .lit (.cons .lit .nil))) .nil) (sem_of (r1_rank g.sig (by assumption))) ?_
      refine TO.geq rfl rfl rfl rfl rfl (fun c45 hc45 => ?_)
      refine TO.val rfl rfl rfl (Val.move rfl) ?_
      cases c45 with
      | true =>
        replace hc45 := btrue hc45
        refine TO.val rfl rfl rfl (Val.faddr_ptr (fo := 0) rfl rfl rfl) ?_
        refine TO.val rfl rfl rfl (Val.load_rows (p := 0) (c := [_, _]) rfl ⟨⟨_, rfl, rfl⟩, rfl, by decide⟩ rfl rfl rfl rfl) ?_
        refine TO.call rfl rfl rfl rfl rfl (orcL rfl (by first | decide | omega)) (.cons (.agg (.cons .lit (.cons .lit .nil))) .nil) (sem_of (r1_rank g.sig (by assumption))) ?_
        refine TO.val rfl rfl rfl (Val.move rfl) ?_
        refine TO.lss rfl rfl rfl rfl rfl (fun c51 hc51 => ?_)
        refine TO.val rfl rfl rfl (Val.pick rfl rfl rfl) ?_
        refine TO.nil ?_
        cases c51 with
        | true =>
          replace hc51 := btrue hc51
          refine T.condT (fun a ha => ha.ev (.tmp 52) _ rfl) ?_
          refine T.seq ?_
          refine T.text rfl ?_
          refine TO.val rfl rfl rfl (Val.assign rfl) ?_
          refine TO.nil ?_
          refine T.ret ?_
          exact ⟨rfl, _, rfl, RefN.cast .lit (by unfold gathErr; (repeat' split) <;> first | rfl | rw [hce] | exact absurd (by assumption) hnx | (exfalso; simp_all; done) | (exfalso; simp_all; omega) | simp_all)⟩
        | false =>
          replace hc51 := bfalse hc51
          refine T.condF (fun a ha => ha.ev (.tmp 52) _ rfl) ?_
          refine T.skip ?_
          refine T.seq ?_
          refine T.seq ?_
          refine T.text rfl ?_
          refine TO.val rfl rfl rfl (Val.faddr_ptr (fo := 2) rfl rfl rfl) ?_
          refine TO.val rfl rfl rfl (Val.load_row (p := 0) rfl ⟨_, rfl, rfl⟩ rfl rfl rfl) ?_
          refine TO.neq rfl rfl rfl rfl rfl (fun c55 hc55 => ?_)
          refine TO.val rfl rfl rfl (Val.move rfl) ?_
          cases c55 with
          | true =>
            replace hc55 := btrue hc55
            refine TO.val rfl rfl rfl (Val.faddr_ptr (fo := 2) rfl rfl rfl) ?_
            refine TO.val rfl rfl rfl (Val.load_row (p := 0) rfl ⟨_, rfl, rfl⟩ rfl rfl rfl) ?_
            refine TO.callD rfl rfl rfl rfl rfl (orcL rfl (by first | decide | omega)) (.cons .lit (.cons .lit (.cons .lit .nil))) (sem_of (r1_in _ _ _ )) (fun c59 hc59 => ?_)
            refine TO.val rfl rfl rfl (Val.not rfl) ?_
            refine TO.val rfl rfl rfl (Val.move rfl) ?_
            cases c59 with
            | true =>
              replace hc59 := btrue hc59
              refine TO.val rfl rfl rfl (Val.faddr_ptr (fo := 2) rfl rfl rfl) ?_
              refine TO.val rfl rfl rfl (Val.load_row (p := 0) rfl ⟨_, rfl, rfl⟩ rfl rfl rfl) ?_
              refine TO.val rfl rfl rfl (Val.rem rfl rfl (by omega)) ?_
              refine TO.eql rfl rfl rfl rfl rfl (fun c65 hc65 => ?_)
              refine TO.val rfl rfl rfl (Val.pick rfl rfl rfl) ?_
              refine TO.val rfl rfl rfl (Val.pick rfl rfl rfl) ?_
              refine TO.nil ?_
              cases c65 with
              | true =>
                replace hc65 := btrue hc65
                refine T.condT (fun a ha => ha.ev (.tmp 67) _ rfl) ?_
                refine T.seq ?_
                refine T.text rfl ?_
                refine TO.val rfl rfl rfl (Val.assign rfl) ?_
                refine TO.nil ?_
                refine T.ret ?_
                exact ⟨rfl, _, rfl, RefN.cast .lit (by unfold gathErr; (repeat' split) <;> first | rfl | rw [hce] | exact absurd (by assumption) hnx | (exfalso; simp_all; done) | (exfalso; simp_all; omega) | simp_all)⟩
              | false =>
                replace hc65 := bfalse hc65
                refine T.condF (fun a ha => ha.ev (.tmp 67) _ rfl) ?_
                refine T.skip ?_
                refine T.seq ?_
                refine T.seq ?_
                refine T.text rfl ?_
                refine TO.val rfl rfl rfl (Val.faddr_ptr (fo := 3) rfl rfl rfl) ?_
                refine TO.val rfl rfl rfl (Val.load_row (p := 0) rfl ⟨_, rfl, rfl⟩ rfl rfl rfl) ?_
                refine TO.val rfl rfl rfl (Val.len_gs rfl rfl) ?_
                refine TO.gtr rfl rfl rfl rfl rfl (fun c71 hc71 => ?_)
                refine TO.nil ?_
                cases c71 with
                | true =>
                  replace hc71 := btrue hc71
                  refine T.condT (fun a ha => ha.ev (.tmp 71) _ rfl) ?_
                  refine T.seq ?_
                  refine T.text rfl ?_
                  refine TO.val rfl rfl rfl (Val.assign rfl) ?_
                  refine TO.nil ?_
                  refine T.ret ?_
                  exact ⟨rfl, _, rfl, RefN.cast .lit (by unfold gathErr; (repeat' split) <;> first | rfl | rw [hce] | exact absurd (by assumption) hnx | (exfalso; simp_all; done) | (exfalso; simp_all; omega) | simp_all)⟩
                | false =>
                  replace hc71 := bfalse hc71
                  refine T.condF (fun a ha => ha.ev (.tmp 71) _ rfl) ?_
                  refine T.skip ?_
                  refine T.seq ?_
                  refine T.seq ?_
                  refine T.text rfl ?_
                  refine TO.val rfl rfl rfl (Val.assign rfl) ?_
                  refine TO.nil ?_
                  refine T.block ?_
                  refine T.loop (fun μ s => ∃ k : Nat, ∃ j : Int, μ = g.ch.l.length - k ∧ j = k ∧ k ≤ g.ch.l.length ∧ chgsErr g.leaves none g.ch.l = chgsErr g.leaves (if k = 0 then none else g.ch.l[k - 1]?) (g.ch.l.drop k) ∧ s = ⟨[], [(5, .ptr b5 0 4), (8, iv j)], [.row b5 4 [iv g.round, iv g.letter, iv g.leaves, g.ch.v]]⟩) (k := _) (s' := _) ⟨0, 0, rfl, (by first | rfl | omega | (simp; done) | (simp; omega) | simp_all), (by first | rfl | omega | (simp; done) | (simp; omega) | simp_all), (by first | rfl | omega | (simp; done) | (simp; omega) | simp_all), rfl⟩ ⟨rfl, (keep_cons rfl (keep_cons rfl keep_nil)), (.cons_cons _ (.cons _ .slnil))⟩ ?_
                  rintro μ _ ⟨k, j, hk1, hj, hk, he, rfl⟩
                  subst hj
                  refine T.seq ?_
                  refine T.seq ?_
                  refine T.text rfl ?_
                  refine TO.val rfl rfl rfl (Val.move rfl) ?_
                  refine TO.val rfl rfl rfl (Val.faddr_ptr (fo := 3) rfl rfl rfl) ?_
                  refine TO.val rfl rfl rfl (Val.load_row (p := 0) rfl ⟨_, rfl, rfl⟩ rfl rfl rfl) ?_
                  refine TO.val rfl rfl rfl (Val.len_gs rfl rfl) ?_
                  refine TO.lss rfl rfl rfl rfl rfl (fun c76 hc76 => ?_)
                  refine TO.nil ?_
                  cases c76 with
                  | true =>
                    replace hc76 := btrue hc76
                    refine T.condT (fun a ha => ha.ev (.tmp 76) _ rfl) ?_
                    refine T.skip ?_
                    refine T.seq ?_
                    refine T.block ?_
                    refine T.seq ?_
                    refine T.text rfl ?_
                    refine TO.val rfl rfl rfl (Val.load_rows (p := 0) (c := [_, _, _, _]) rfl ⟨⟨_, rfl, rfl⟩, rfl, by decide⟩ rfl rfl rfl rfl) ?_
                    refine TO.val rfl rfl rfl (Val.move rfl) ?_
                    obtain ⟨c81, e81⟩ : ∃ c, g.ch.l[k]? = some c := ⟨_, List.getElem?_eq_getElem (by omega)⟩
                    refine TO.call rfl rfl rfl rfl rfl (orcL rfl (by first | decide | omega)) (.cons (.agg (.cons .lit (.cons .lit (.cons .lit (.cons .gs .nil))))) (.cons .lit .nil)) (sem_of (r1_change g k c81 (by exact e81) (by omega))) ?_
                    generalize hE : chgErr g.leaves c81 (if k = 0 then none else g.ch.l[k - 1]?) = E81
                    refine TO.val rfl rfl rfl (Val.assign rfl) ?_
                    refine TO.nil ?_
                    refine T.seq ?_
                    refine T.text rfl ?_
                    refine TO.val rfl rfl rfl (Val.move rfl) ?_
                    refine TO.neq rfl rfl rfl rfl rfl (fun c83 hc83 => ?_)
                    refine TO.nil ?_
                    cases c83 with
                    | true =>
                      replace hc83 := btrue hc83
                      have hce : chgsErr g.leaves none g.ch.l = E81 := by rw [he, drop_cons e81, chgsErr, hE, if_pos hc83]
                      refine T.condT (fun a ha => ha.ev (.tmp 83) _ rfl) ?_
                      refine T.seq ?_
                      refine T.text rfl ?_
                      refine TO.val rfl rfl rfl (Val.move rfl) ?_
                      refine TO.val rfl rfl rfl (Val.assign rfl) ?_
                      refine TO.nil ?_
                      refine T.ret ?_
                      exact ⟨rfl, _, rfl, RefN.cast .lit (by unfold gathErr; (repeat' split) <;> first | rfl | rw [hce] | exact absurd (by assumption) hnx | (exfalso; simp_all; done) | (exfalso; simp_all; omega) | simp_all)⟩
                    | false =>
                      replace hc83 := bfalse hc83
                      have hce : chgsErr g.leaves none g.ch.l = chgsErr g.leaves (some c81) (g.ch.l.drop (k + 1)) := by rw [he, drop_cons e81, chgsErr, hE, if_neg hc83]
                      refine T.condF (fun a ha => ha.ev (.tmp 83) _ rfl) ?_
                      refine T.skip ?_
                      refine T.text rfl ?_
                      refine TO.val rfl rfl rfl (Val.move rfl) ?_
                      refine TO.val rfl rfl rfl (Val.add rfl rfl (by omega)) ?_
                      refine TO.val rfl rfl rfl (Val.assign rfl) ?_
                      refine TO.nil ?_
                      refine ⟨_, _, (by omega), ⟨k + 1, _, rfl, (by first | omega | simp_all), (by first | omega | simp_all), (by rw [hce]; simp [e81]), rfl⟩, ⟨rfl, (keep_cons rfl (keep_cons rfl keep_nil)), (.cons_cons _ .slnil)⟩⟩
                  | false =>
                    replace hc76 := bfalse hc76
                    obtain rfl : k = g.ch.l.length := by omega
                    rw [List.drop_length, chgsErr] at he
                    refine T.condF (fun a ha => ha.ev (.tmp 76) _ rfl) ?_
                    refine T.exit ?_
                    refine T.seq ?_
                    refine T.text rfl ?_
                    refine TO.val rfl rfl rfl (Val.assign rfl) ?_
                    refine TO.nil ?_
                    refine T.ret ?_
                    exact ⟨rfl, _, rfl, RefN.cast .lit (by unfold gathErr; (repeat' split) <;> first | rfl | rw [hce] | exact absurd (by assumption) hnx | (exfalso; simp_all; done) | (exfalso; simp_all; omega) | simp_all)⟩
            | false =>
              replace hc59 := bfalse hc59
              refine TO.off rfl rfl rfl ?_
              refine TO.off rfl rfl rfl ?_
              refine TO.off rfl rfl rfl ?_
              refine TO.off rfl rfl rfl ?_
              refine TO.val rfl rfl rfl (Val.pick rfl rfl rfl) ?_
              refine TO.val rfl rfl rfl (Val.pick rfl rfl rfl) ?_
              refine TO.nil ?_
              refine T.condT (fun a ha => ha.ev (.tmp 67) _ rfl) ?_
              refine T.seq ?_
              refine T.text rfl ?_
              refine TO.val rfl rfl rfl (Val.assign rfl) ?_
              refine TO.nil ?_
              refine T.ret ?_
              exact ⟨rfl, _, rfl, RefN.cast .lit (by unfold gathErr; (repeat' split) <;> first | rfl | rw [hce] | exact absurd (by assumption) hnx | (exfalso; simp_all; done) | (exfalso; simp_all; omega) | simp_all)⟩
          | false =>
            replace hc55 := bfalse hc55
            refine TO.off rfl rfl rfl ?_
            refine TO.off rfl rfl rfl ?_
            refine TO.off rfl rfl rfl ?_
            refine TO.off rfl rfl rfl ?_
            refine TO.off rfl rfl rfl ?_
            refine TO.off rfl rfl rfl ?_
            refine TO.off rfl rfl rfl ?_
            refine TO.off rfl rfl rfl ?_
            refine TO.off rfl rfl rfl ?_
            refine TO.off rfl rfl rfl ?_
            refine TO.val rfl rfl rfl (Val.pick rfl rfl rfl) ?_
            refine TO.nil ?_
            refine T.condF (fun a ha => ha.ev (.tmp 67) _ rfl) ?_
            refine T.skip ?_
            refine T.seq ?_
            refine T.seq ?_
            refine T.text rfl ?_
            refine TO.val rfl rfl rfl (Val.faddr_ptr (fo := 3) rfl rfl rfl) ?_
            refine TO.val rfl rfl rfl (Val.load_row (p := 0) rfl ⟨_, rfl, rfl⟩ rfl rfl rfl) ?_
            refine TO.val rfl rfl rfl (Val.len_gs rfl rfl) ?_
            refine TO.gtr rfl rfl rfl rfl rfl (fun c71 hc71 => ?_)
            refine TO.nil ?_
            cases c71 with
            | true =>
              replace hc71 := btrue hc71
              refine T.condT (fun a ha => ha.ev (.tmp 71) _ rfl) ?_
              refine T.seq ?_
              refine T.text rfl ?_
              refine TO.val rfl rfl rfl (Val.assign rfl) ?_
              refine TO.nil ?_
              refine T.ret ?_
              exact ⟨rfl, _, rfl, RefN.cast .lit (by unfold gathErr; (repeat' split) <;> first | rfl | rw [hce] | exact absurd (by assumption) hnx | (exfalso; simp_all; done) | (exfalso; simp_all; omega) | simp_all)⟩
            | false =>
              replace hc71 := bfalse hc71
              refine T.condF (fun a ha => ha.ev (.tmp 71) _ rfl) ?_
              refine T.skip ?_
              refine T.seq ?_
              refine T.seq ?_
              refine T.text rfl ?_
              refine TO.val rfl rfl rfl (Val.assign rfl) ?_
              refine TO.nil ?_
              refine T.block ?_
              refine T.loop (fun μ s => ∃ k : Nat, ∃ j : Int, μ = g.ch.l.length - k ∧ j = k ∧ k ≤ g.ch.l.length ∧ chgsErr g.leaves none g.ch.l = chgsErr g.leaves (if k = 0 then none else g.ch.l[k - 1]?) (g.ch.l.drop k) ∧ s = ⟨[], [(5, .ptr b5 0 4), (8, iv j)], [.row b5 4 [iv g.round, iv g.letter, iv g.leaves, g.ch.v]]⟩) (k := _) (s' := _) ⟨0, 0, rfl, (by first | rfl | omega | (simp; done) | (simp; omega) | simp_all), (by first | rfl | omega | (simp; done) | (simp; omega) | simp_all), (by first | rfl | omega | (simp; done) | (simp; omega) | simp_all), rfl⟩ ⟨rfl, (keep_cons rfl (keep_cons rfl keep_nil)), (.cons_cons _ (.cons _ .slnil))⟩ ?_
              rintro μ _ ⟨k, j, hk1, hj, hk, he, rfl⟩
              subst hj
              refine T.seq ?_
              refine T.seq ?_
              refine T.text rfl ?_
              refine TO.val rfl rfl rfl (Val.move rfl) ?_
              refine TO.val rfl rfl rfl (Val.faddr_ptr (fo := 3) rfl rfl rfl) ?_
              refine TO.val rfl rfl rfl (Val.load_row (p := 0) rfl ⟨_, rfl, rfl⟩ rfl rfl rfl) ?_
              refine TO.val rfl rfl rfl (Val.len_gs rfl rfl) ?_
              refine TO.lss rfl rfl rfl rfl rfl (fun c76 hc76 => ?_)
              refine TO.nil ?_
              cases c76 with
              | true =>
                replace hc76 := btrue hc76
                refine T.condT (fun a ha => ha.ev (.tmp 76) _ rfl) ?_
                refine T.skip ?_
                refine T.seq ?_
                refine T.block ?_
                refine T.seq ?_
                refine T.text rfl ?_
                refine TO.val rfl rfl rfl (Val.load_rows (p := 0) (c := [_, _, _, _]) rfl ⟨⟨_, rfl, rfl⟩, rfl, by decide⟩ rfl rfl rfl rfl) ?_
                refine TO.val rfl rfl rfl (Val.move rfl) ?_
                obtain ⟨c81, e81⟩ : ∃ c, g.ch.l[k]? = some c := ⟨_, List.getElem?_eq_getElem (by omega)⟩
                refine TO.call rfl rfl rfl rfl rfl (orcL rfl (by first | decide | omega)) (.cons (.agg (.cons .lit (.cons .lit (.cons .lit (.cons .gs .nil))))) (.cons .lit .nil)) (sem_of (r1_change g k c81 (by exact e81) (by omega))) ?_
                generalize hE : chgErr g.leaves c81 (if k = 0 then none else g.ch.l[k - 1]?) = E81
                refine TO.val rfl rfl rfl (Val.assign rfl) ?_
                refine TO.nil ?_
                refine T.seq ?_
                refine T.text rfl ?_
                refine TO.val rfl rfl rfl (Val.move rfl) ?_
                refine TO.neq rfl rfl rfl rfl rfl (fun c83 hc83 => ?_)
                refine TO.nil ?_
                cases c83 with
                | true =>
                  replace hc83 := btrue hc83
                  have hce : chgsErr g.leaves none g.ch.l = E81 := by rw [he, drop_cons e81, chgsErr, hE, if_pos hc83]
                  refine T.condT (fun a ha => ha.ev (.tmp 83) _ rfl) ?_
                  refine T.seq ?_
                  refine T.text rfl ?_
                  refine TO.val rfl rfl rfl (Val.move rfl) ?_
                  refine TO.val rfl rfl rfl (Val.assign rfl) ?_
                  refine TO.nil ?_
                  refine T.ret ?_
                  exact ⟨rfl, _, rfl, RefN.cast .lit (by unfold gathErr; (repeat' split) <;> first | rfl | rw [hce] | exact absurd (by assumption) hnx | (exfalso; simp_all; done) | (exfalso; simp_all; omega) | simp_all)⟩
                | false =>
                  replace hc83 := bfalse hc83
                  have hce : chgsErr g.leaves none g.ch.l = chgsErr g.leaves (some c81) (g.ch.l.drop (k + 1)) := by rw [he, drop_cons e81, chgsErr, hE, if_neg hc83]
                  refine T.condF (fun a ha => ha.ev (.tmp 83) _ rfl) ?_
                  refine T.skip ?_
                  refine T.text rfl ?_
                  refine TO.val rfl rfl rfl (Val.move rfl) ?_
                  refine TO.val rfl rfl rfl (Val.add rfl rfl (by omega)) ?_
                  refine TO.val rfl rfl rfl (Val.assign rfl) ?_
                  refine TO.nil ?_
                  refine ⟨_, _, (by omega), ⟨k + 1, _, rfl, (by first | omega | simp_all), (by first | omega | simp_all), (by first | omega | simp_all), rfl⟩, ⟨rfl, (keep_cons rfl (keep_cons rfl keep_nil)), (.cons_cons _ .slnil)⟩⟩
              | false =>
                replace hc76 := bfalse hc76
                obtain rfl : k = g.ch.l.length := by omega
                rw [List.drop_length, chgsErr] at he
                refine T.condF (fun a ha => ha.ev (.tmp 76) _ rfl) ?_
                refine T.exit ?_
                refine T.seq ?_
                refine T.text rfl ?_
                refine TO.val rfl rfl rfl (Val.assign rfl) ?_
                refine TO.nil ?_
                refine T.ret ?_
                exact ⟨rfl, _, rfl, RefN.cast .lit (by unfold gathErr; (repeat' split) <;> first | rfl | rw [hce] | exact absurd (by assumption) hnx | (exfalso; simp_all; done) | (exfalso; simp_all; omega) | simp_all)⟩
      | false =>
        replace hc45 := bfalse hc45
        refine TO.off rfl rfl rfl ?_
        refine TO.off rfl rfl rfl ?_
        refine TO.off rfl rfl rfl ?_
        refine TO.off rfl rfl rfl ?_
        refine TO.off rfl rfl rfl ?_
        refine TO.val rfl rfl rfl (Val.pick rfl rfl rfl) ?_
        refine TO.nil ?_
        refine T.condF (fun a ha => ha.ev (.tmp 52) _ rfl) ?_
        refine T.skip ?_
        refine T.seq ?_
        refine T.seq ?_
        refine T.text rfl ?_
        refine TO.val rfl rfl rfl (Val.faddr_ptr (fo := 2) rfl rfl rfl) ?_
        refine TO.val rfl rfl rfl (Val.load_row (p := 0) rfl ⟨_, rfl, rfl⟩ rfl rfl rfl) ?_
        refine TO.neq rfl rfl rfl rfl rfl (fun c55 hc55 => ?_)
        refine TO.val rfl rfl rfl (Val.move rfl) ?_
        cases c55 with
        | true =>
          replace hc55 := btrue hc55
          refine TO.val rfl rfl rfl (Val.faddr_ptr (fo := 2) rfl rfl rfl) ?_
          refine TO.val rfl rfl rfl (Val.load_row (p := 0) rfl ⟨_, rfl, rfl⟩ rfl rfl rfl) ?_
          refine TO.callD rfl rfl rfl rfl rfl (orcL rfl (by first | decide | omega)) (.cons .lit (.cons .lit (.cons .lit .nil))) (sem_of (r1_in _ _ _ )) (fun c59 hc59 => ?_)
          refine TO.val rfl rfl rfl (Val.not rfl) ?_
          refine TO.val rfl rfl rfl (Val.move rfl) ?_
          cases c59 with
          | true =>
            replace hc59 := btrue hc59
            refine TO.val rfl rfl rfl (Val.faddr_ptr (fo := 2) rfl rfl rfl) ?_
            refine TO.val rfl rfl rfl (Val.load_row (p := 0) rfl ⟨_, rfl, rfl⟩ rfl rfl rfl) ?_
            refine TO.val rfl rfl rfl (Val.rem rfl rfl (by omega)) ?_
            refine TO.eql rfl rfl rfl rfl rfl (fun c65 hc65 => ?_)
            refine TO.val rfl rfl rfl (Val.pick rfl rfl rfl) ?_
            refine TO.val rfl rfl rfl (Val.pick rfl rfl rfl) ?_
            refine TO.nil ?_
            cases c65 with
            | true =>
              replace hc65 := btrue hc65
              refine T.condT (fun a ha => ha.ev (.tmp 67) _ rfl) ?_
              refine T.seq ?_
              refine T.text rfl ?_
              refine TO.val rfl rfl rfl (Val.assign rfl) ?_
              refine TO.nil ?_
              refine T.ret ?_
              exact ⟨rfl, _, rfl, RefN.cast .lit (by unfold gathErr; (repeat' split) <;> first | rfl | rw [hce] | exact absurd (by assumption) hnx | (exfalso; simp_all; done) | (exfalso; simp_all; omega) | simp_all)⟩
            | false =>
              replace hc65 := bfalse hc65
              refine T.condF (fun a ha => ha.ev (.tmp 67) _ rfl) ?_
              refine T.skip ?_
              refine T.seq ?_
              refine T.seq ?_
              refine T.text rfl ?_
              refine TO.val rfl rfl rfl (Val.faddr_ptr (fo := 3) rfl rfl rfl) ?_
              refine TO.val rfl rfl rfl (Val.load_row (p := 0) rfl ⟨_, rfl, rfl⟩ rfl rfl rfl) ?_
              refine TO.val rfl rfl rfl (Val.len_gs rfl rfl) ?_
              refine TO.gtr rfl rfl rfl rfl rfl (fun c71 hc71 => ?_)
              refine TO.nil ?_
              cases c71 with
              | true =>
                replace hc71 := btrue hc71
                refine T.condT (fun a ha => ha.ev (.tmp 71) _ rfl) ?_
                refine T.seq ?_
                refine T.text rfl ?_
                refine TO.val rfl rfl rfl (Val.assign rfl) ?_
                refine TO.nil ?_
                refine T.ret ?_
                exact ⟨rfl, _, rfl, RefN.cast .lit (by unfold gathErr; (repeat' split) <;> first | rfl | rw [hce] | exact absurd (by assumption) hnx | (exfalso; simp_all; done) | (exfalso; simp_all; omega) | simp_all)⟩
              | false =>
                replace hc71 := bfalse hc71
                refine T.condF (fun a ha => ha.ev (.tmp 71) _ rfl) ?_
                refine T.skip ?_
                refine T.seq ?_
                refine T.seq ?_
                refine T.text rfl ?_
                refine TO.val rfl rfl rfl (Val.assign rfl) ?_
                refine TO.nil ?_
                refine T.block ?_
                refine T.loop (fun μ s => ∃ k : Nat, ∃ j : Int, μ = g.ch.l.length - k ∧ j = k ∧ k ≤ g.ch.l.length ∧ chgsErr g.leaves none g.ch.l = chgsErr g.leaves (if k = 0 then none else g.ch.l[k - 1]?) (g.ch.l.drop k) ∧ s = ⟨[], [(5, .ptr b5 0 4), (8, iv j)], [.row b5 4 [iv g.round, iv g.letter, iv g.leaves, g.ch.v]]⟩) (k := _) (s' := _) ⟨0, 0, rfl, (by first | rfl | omega | (simp; done) | (simp; omega) | simp_all), (by first | rfl | omega | (simp; done) | (simp; omega) | simp_all), (by first | rfl | omega | (simp; done) | (simp; omega) | simp_all), rfl⟩ ⟨rfl, (keep_cons rfl (keep_cons rfl keep_nil)), (.cons_cons _ (.cons _ .slnil))⟩ ?_
                rintro μ _ ⟨k, j, hk1, hj, hk, he, rfl⟩
                subst hj
                refine T.seq ?_
                refine T.seq ?_
                refine T.text rfl ?_
                refine TO.val rfl rfl rfl (Val.move rfl) ?_
                refine TO.val rfl rfl rfl (Val.faddr_ptr (fo := 3) rfl rfl rfl) ?_
                refine TO.val rfl rfl rfl (Val.load_row (p := 0) rfl ⟨_, rfl, rfl⟩ rfl rfl rfl) ?_
                refine TO.val rfl rfl rfl (Val.len_gs rfl rfl) ?_
                refine TO.lss rfl rfl rfl rfl rfl (fun c76 hc76 => ?_)
                refine TO.nil ?_
                cases c76 with
                | true =>
                  replace hc76 := btrue hc76
                  refine T.condT (fun a ha => ha.ev (.tmp 76) _ rfl) ?_
                  refine T.skip ?_
                  refine T.seq ?_
                  refine T.block ?_
                  refine T.seq ?_
                  refine T.text rfl ?_
                  refine TO.val rfl rfl rfl (Val.load_rows (p := 0) (c := [_, _, _, _]) rfl ⟨⟨_, rfl, rfl⟩, rfl, by decide⟩ rfl rfl rfl rfl) ?_
                  refine TO.val rfl rfl rfl (Val.move rfl) ?_
                  obtain ⟨c81, e81⟩ : ∃ c, g.ch.l[k]? = some c := ⟨_, List.getElem?_eq_getElem (by omega)⟩
                  refine TO.call rfl rfl rfl rfl rfl (orcL rfl (by first | decide | omega)) (.cons (.agg (.cons .lit (.cons .lit (.cons .lit (.cons .gs .nil))))) (.cons .lit .nil)) (sem_of (r1_change g k c81 (by exact e81) (by omega))) ?_
                  generalize hE : chgErr g.leaves c81 (if k = 0 then none else g.ch.l[k - 1]?) = E81
                  refine TO.val rfl rfl rfl (Val.assign rfl) ?_
                  refine TO.nil ?_
                  refine T.seq ?_
                  refine T.text rfl ?_
                  refine TO.val rfl rfl rfl (Val.move rfl) ?_
                  refine TO.neq rfl rfl rfl rfl rfl (fun c83 hc83 => ?_)
                  refine TO.nil ?_
                  cases c83 with
                  | true =>
                    replace hc83 := btrue hc83
                    have hce : chgsErr g.leaves none g.ch.l = E81 := by rw [he, drop_cons e81, chgsErr, hE, if_pos hc83]
                    refine T.condT (fun a ha => ha.ev (.tmp 83) _ rfl) ?_
                    refine T.seq ?_
                    refine T.text rfl ?_
                    refine TO.val rfl rfl rfl (Val.move rfl) ?_
                    refine TO.val rfl rfl rfl (Val.assign rfl) ?_
                    refine TO.nil ?_
                    refine T.ret ?_
                    exact ⟨rfl, _, rfl, RefN.cast .lit (by unfold gathErr; (repeat' split) <;> first | rfl | rw [hce] | exact absurd (by assumption) hnx | (exfalso; simp_all; done) | (exfalso; simp_all; omega) | simp_all)⟩
                  | false =>
                    replace hc83 := bfalse hc83
                    have hce : chgsErr g.leaves none g.ch.l = chgsErr g.leaves (some c81) (g.ch.l.drop (k + 1)) := by rw [he, drop_cons e81, chgsErr, hE, if_neg hc83]
                    refine T.condF (fun a ha => ha.ev (.tmp 83) _ rfl) ?_
                    refine T.skip ?_
                    refine T.text rfl ?_
                    refine TO.val rfl rfl rfl (Val.move rfl) ?_
                    refine TO.val rfl rfl rfl (Val.add rfl rfl (by omega)) ?_
                    refine TO.val rfl rfl rfl (Val.assign rfl) ?_
                    refine TO.nil ?_
                    refine ⟨_, _, (by omega), ⟨k + 1, _, rfl, (by first | omega | simp_all), (by first | omega | simp_all), (by first | omega | simp_all), rfl⟩, ⟨rfl, (keep_cons rfl (keep_cons rfl keep_nil)), (.cons_cons _ .slnil)⟩⟩
                | false =>
                  replace hc76 := bfalse hc76
                  obtain rfl : k = g.ch.l.length := by omega
                  rw [List.drop_length, chgsErr] at he
                  refine T.condF (fun a ha => ha.ev (.tmp 76) _ rfl) ?_
                  refine T.exit ?_
                  refine T.seq ?_
                  refine T.text rfl ?_
                  refine TO.val rfl rfl rfl (Val.assign rfl) ?_
                  refine TO.nil ?_
                  refine T.ret ?_
                  exact ⟨rfl, _, rfl, RefN.cast .lit (by unfold gathErr; (repeat' split) <;> first | rfl | rw [hce] | exact absurd (by assumption) hnx | (exfalso; simp_all; done) | (exfalso; simp_all; omega) | simp_all)⟩
          | false =>
            replace hc59 := bfalse hc59
            refine TO.off rfl rfl rfl ?_
            refine TO.off rfl rfl rfl ?_
            refine TO.off rfl rfl rfl ?_
            refine TO.off rfl rfl rfl ?_
            refine TO.val rfl rfl rfl (Val.pick rfl rfl rfl) ?_
            refine TO.val rfl rfl rfl (Val.pick rfl rfl rfl) ?_
            refine TO.nil ?_
            refine T.condT (fun a ha => ha.ev (.tmp 67) _ rfl) ?_
            refine T.seq ?_
            refine T.text rfl ?_
            refine TO.val rfl rfl rfl (Val.assign rfl) ?_
            refine TO.nil ?_
            refine T.ret ?_
            exact ⟨rfl, _, rfl, RefN.cast .lit (by unfold gathErr; (repeat' split) <;> first | rfl | rw [hce] | exact absurd (by assumption) hnx | (exfalso; simp_all; done) | (exfalso; simp_all; omega) | simp_all)⟩
        | false =>
          replace hc55 := bfalse hc55
          refine TO.off rfl rfl rfl ?_
          refine TO.off rfl rfl rfl ?_
          refine TO.off rfl rfl rfl ?_
          refine TO.off rfl rfl rfl ?_
          refine TO.off rfl rfl rfl ?_
          refine TO.off rfl rfl rfl ?_
          refine TO.off rfl rfl rfl ?_
          refine TO.off rfl rfl rfl ?_
          refine TO.off rfl rfl rfl ?_
          refine TO.off rfl rfl rfl ?_
          refine TO.val rfl rfl rfl (Val.pick rfl rfl rfl) ?_
          refine TO.nil ?_
          refine T.condF (fun a ha => ha.ev (.tmp 67) _ rfl) ?_
          refine T.skip ?_
          refine T.seq ?_
          refine T.seq ?_
          refine T.text rfl ?_
          refine TO.val rfl rfl rfl (Val.faddr_ptr (fo := 3) rfl rfl rfl) ?_
          refine TO.val rfl rfl rfl (Val.load_row (p := 0) rfl ⟨_, rfl, rfl⟩ rfl rfl rfl) ?_
          refine TO.val rfl rfl rfl (Val.len_gs rfl rfl) ?_
          refine TO.gtr rfl rfl rfl rfl rfl (fun c71 hc71 => ?_)
          refine TO.nil ?_
          cases c71 with
          | true =>
            replace hc71 := btrue hc71
            refine T.condT (fun a ha => ha.ev (.tmp 71) _ rfl) ?_
            refine T.seq ?_
            refine T.text rfl ?_
            refine TO.val rfl rfl rfl (Val.assign rfl) ?_
            refine TO.nil ?_
            refine T.ret ?_
            exact ⟨rfl, _, rfl, RefN.cast .lit (by unfold gathErr; (repeat' split) <;> first | rfl | rw [hce] | exact absurd (by assumption) hnx | (exfalso; simp_all; done) | (exfalso; simp_all; omega) | simp_all)⟩
          | false =>
            replace hc71 := bfalse hc71
            refine T.condF (fun a ha => ha.ev (.tmp 71) _ rfl) ?_
            refine T.skip ?_
            refine T.seq ?_
            refine T.seq ?_
            refine T.text rfl ?_
            refine TO.val rfl rfl rfl (Val.assign rfl) ?_
            refine TO.nil ?_
            refine T.block ?_
            refine T.loop (fun μ s => ∃ k : Nat, ∃ j : Int, μ = g.ch.l.length - k ∧ j = k ∧ k ≤ g.ch.l.length ∧ chgsErr g.leaves none g.ch.l = chgsErr g.leaves (if k = 0 then none else g.ch.l[k - 1]?) (g.ch.l.drop k) ∧ s = ⟨[], [(5, .ptr b5 0 4), (8, iv j)], [.row b5 4 [iv g.round, iv g.letter, iv g.leaves, g.ch.v]]⟩) (k := _) (s' := _) ⟨0, 0, rfl, (by first | rfl | omega | (simp; done) | (simp; omega) | simp_all), (by first | rfl | omega | (simp; done) | (simp; omega) | simp_all), (by first | rfl | omega | (simp; done) | (simp; omega) | simp_all), rfl⟩ ⟨rfl, (keep_cons rfl (keep_cons rfl keep_nil)), (.cons_cons _ (.cons _ .slnil))⟩ ?_
            rintro μ _ ⟨k, j, hk1, hj, hk, he, rfl⟩
            subst hj
            refine T.seq ?_
            refine T.seq ?_
            refine T.text rfl ?_
            refine TO.val rfl rfl rfl (Val.move rfl) ?_
            refine TO.val rfl rfl rfl (Val.faddr_ptr (fo := 3) rfl rfl rfl) ?_
            refine TO.val rfl rfl rfl (Val.load_row (p := 0) rfl ⟨_, rfl, rfl⟩ rfl rfl rfl) ?_
            refine TO.val rfl rfl rfl (Val.len_gs rfl rfl) ?_
            refine TO.lss rfl rfl rfl rfl rfl (fun c76 hc76 => ?_)
            refine TO.nil ?_
            cases c76 with
            | true =>
              replace hc76 := btrue hc76
              refine T.condT (fun a ha => ha.ev (.tmp 76) _ rfl) ?_
              refine T.skip ?_
              refine T.seq ?_
              refine T.block ?_
              refine T.seq ?_
              refine T.text rfl ?_
              refine TO.val rfl rfl rfl (Val.load_rows (p := 0) (c := [_, _, _, _]) rfl ⟨⟨_, rfl, rfl⟩, rfl, by decide⟩ rfl rfl rfl rfl) ?_
              refine TO.val rfl rfl rfl (Val.move rfl) ?_
              obtain ⟨c81, e81⟩ : ∃ c, g.ch.l[k]? = some c := ⟨_, List.getElem?_eq_getElem (by omega)⟩
              refine TO.call rfl rfl rfl rfl rfl (orcL rfl (by first | decide | omega)) (.cons (.agg (.cons .lit (.cons .lit (.cons .lit (.cons .gs .nil))))) (.cons .lit .nil)) (sem_of (r1_change g k c81 (by exact e81) (by omega))) ?_
              generalize hE : chgErr g.leaves c81 (if k = 0 then none else g.ch.l[k - 1]?) = E81
              refine TO.val rfl rfl rfl (Val.assign rfl) ?_
              refine TO.nil ?_
              refine T.seq ?_
              refine T.text rfl ?_
              refine TO.val rfl rfl rfl (Val.move rfl) ?_
              refine TO.neq rfl rfl rfl rfl rfl (fun c83 hc83 => ?_)
              refine TO.nil ?_
              cases c83 with
              | true =>
                replace hc83 := btrue hc83
                have hce : chgsErr g.leaves none g.ch.l = E81 := by rw [he, drop_cons e81, chgsErr, hE, if_pos hc83]
                refine T.condT (fun a ha => ha.ev (.tmp 83) _ rfl) ?_
                refine T.seq ?_
                refine T.text rfl ?_
                refine TO.val rfl rfl rfl (Val.move rfl) ?_
                refine TO.val rfl rfl rfl (Val.assign rfl) ?_
                refine TO.nil ?_
                refine T.ret ?_
                exact ⟨rfl, _, rfl, RefN.cast .lit (by unfold gathErr; (repeat' split) <;> first | rfl | rw [hce] | exact absurd (by assumption) hnx | (exfalso; simp_all; done) | (exfalso; simp_all; omega) | simp_all)⟩
              | false =>
                replace hc83 := bfalse hc83
                have hce : chgsErr g.leaves none g.ch.l = chgsErr g.leaves (some c81) (g.ch.l.drop (k + 1)) := by rw [he, drop_cons e81, chgsErr, hE, if_neg hc83]
                refine T.condF (fun a ha => ha.ev (.tmp 83) _ rfl) ?_
                refine T.skip ?_
                refine T.text rfl ?_
                refine TO.val rfl rfl rfl (Val.move rfl) ?_
                refine TO.val rfl rfl rfl (Val.add rfl rfl (by omega)) ?_
                refine TO.val rfl rfl rfl (Val.assign rfl) ?_
                refine TO.nil ?_
                refine ⟨_, _, (by omega), ⟨k + 1, _, rfl, (by first | omega | simp_all), (by first | omega | simp_all), (by first | omega | simp_all), rfl⟩, ⟨rfl, (keep_cons rfl (keep_cons rfl keep_nil)), (.cons_cons _ .slnil)⟩⟩
            | false =>
              replace hc76 := bfalse hc76
              obtain rfl : k = g.ch.l.length := by omega
              rw [List.drop_length, chgsErr] at he
              refine T.condF (fun a ha => ha.ev (.tmp 76) _ rfl) ?_
              refine T.exit ?_
              refine T.seq ?_
              refine T.text rfl ?_
              refine TO.val rfl rfl rfl (Val.assign rfl) ?_
              refine TO.nil ?_
              refine T.ret ?_
              exact ⟨rfl, _, rfl, RefN.cast .lit (by unfold gathErr; (repeat' split) <;> first | rfl | rw [hce] | exact absurd (by assumption) hnx | (exfalso; simp_all; done) | (exfalso; simp_all; omega) | simp_all)⟩
  | false =>
    replace hc17 := bfalse hc17
    refine T.condT (fun a ha => ha.ev (.tmp 18) _ rfl) ?_
    refine T.seq ?_
    refine T.text rfl ?_
    refine TO.val rfl rfl rfl (Val.assign rfl) ?_
    refine TO.nil ?_
    refine T.ret ?_
    exact ⟨rfl, _, rfl, RefN.cast .lit (by unfold gathErr; (repeat' split) <;> first | rfl | rw [hce] | exact absurd (by assumption) hnx | (exfalso; simp_all; done) | (exfalso; simp_all; omega) | simp_all)⟩
theorem r1_Check (b : Book)  : Comes (EL 3) 63 [.agg (encB.f b)] (.tuple [iv (bookErr b).1, iv (bookErr b).2.1, iv (bookErr b).2.2]) := by
  refine Comes.of (TF.enter (fn := Go.Proofs.Try.f63) rfl rfl rfl rfl rfl ?_)
  refine T.seq ?_
  refine T.text rfl ?_
  refine TO.box (k := 2) (cells := [_, _]) rfl rfl rfl rfl rfl rfl rfl (fun b1 => ?_)
  refine TO.val rfl rfl rfl (Val.assign rfl) ?_
  refine TO.val rfl rfl rfl (Val.assign rfl) ?_
  refine TO.val rfl rfl rfl (Val.assign rfl) ?_
  refine TO.nil ?_
  refine T.seq ?_
  refine T.seq ?_
  refine T.text rfl ?_
  refine TO.val rfl rfl rfl (Val.faddr_ptr (fo := 0) rfl rfl rfl) ?_
  refine TO.val rfl rfl rfl (Val.load_row (p := 0) rfl ⟨_, rfl, rfl⟩ rfl rfl rfl) ?_
  refine TO.callD rfl rfl rfl rfl rfl (orcL rfl (by first | decide | omega)) (.cons .lit (.cons .lit (.cons .lit .nil))) (sem_of (r1_in _ _ _ )) (fun c9 hc9 => ?_)
  refine TO.val rfl rfl rfl (Val.not rfl) ?_
  refine TO.nil ?_
  cases c9 with
  | true =>
    replace hc9 := btrue hc9
    refine T.condF (fun a ha => ha.ev (.tmp 10) _ rfl) ?_
    refine T.skip ?_
    refine T.seq ?_
    refine T.seq ?_
    refine T.text rfl ?_
    refine TO.val rfl rfl rfl (Val.faddr_ptr (fo := 1) rfl rfl rfl) ?_
    refine TO.val rfl rfl rfl (Val.load_row (p := 0) rfl ⟨_, rfl, rfl⟩ rfl rfl rfl) ?_
    refine TO.val rfl rfl rfl (Val.len_gs rfl rfl) ?_
    refine TO.callD rfl rfl rfl rfl rfl (orcL rfl (by first | decide | omega)) (.cons .lit (.cons .lit (.cons .lit .nil))) (sem_of (r1_in _ _ _ )) (fun c14 hc14 => ?_)
    refine TO.val rfl rfl rfl (Val.not rfl) ?_
    refine TO.nil ?_
    cases c14 with
    | true =>
      replace hc14 := btrue hc14
      obtain ⟨h30, h31⟩ := hc14
      refine T.condF (fun a ha => ha.ev (.tmp 15) _ rfl) ?_
      refine T.skip ?_
      refine T.seq ?_
      refine T.seq ?_
      refine T.text rfl ?_
      refine TO.val rfl rfl rfl (Val.assign rfl) ?_
      refine TO.nil ?_
      refine T.block ?_
      refine T.loop (fun μ s => ∃ i : Nat, ∃ j : Int, μ = b.gs.l.length - i ∧ j = i ∧ i ≤ b.gs.l.length ∧ gathsErr [] b.gs.l 0 = gathsErr (b.gs.l.take i) (b.gs.l.drop i) i ∧ (∀ k x, k < i → b.gs.l[k]? = some x → sigOk x.sig) ∧ s = ⟨[], [(1, .ptr b1 0 2), (5, iv j)], [.row b1 2 [iv b.signed, b.gs.v]]⟩) (k := _) (s' := _) ⟨0, 0, rfl, (by first | rfl | omega | (simp; done) | (simp; omega) | simp_all), (by first | rfl | omega | (simp; done) | (simp; omega) | simp_all), (by first | rfl | omega | (simp; done) | (simp; omega) | simp_all), (by intro k x hk; omega), rfl⟩ ⟨rfl, (keep_cons rfl (keep_cons rfl keep_nil)), (.cons_cons _ .slnil)⟩ ?_
      rintro μ _ ⟨i, j, hk0, hj, hi, he, hok, rfl⟩
      subst hj
      refine T.seq ?_
      refine T.seq ?_
      refine T.text rfl ?_
      refine TO.val rfl rfl rfl (Val.move rfl) ?_
      refine TO.val rfl rfl rfl (Val.faddr_ptr (fo := 1) rfl rfl rfl) ?_
      refine TO.val rfl rfl rfl (Val.load_row (p := 0) rfl ⟨_, rfl, rfl⟩ rfl rfl rfl) ?_
      refine TO.val rfl rfl rfl (Val.len_gs rfl rfl) ?_
      refine TO.lss rfl rfl rfl rfl rfl (fun c20 hc20 => ?_)
      refine TO.nil ?_
      cases c20 with
      | true =>
        replace hc20 := btrue hc20
        refine T.condT (fun a ha => ha.ev (.tmp 20) _ rfl) ?_
        refine T.skip ?_
        refine T.seq ?_
        refine T.block ?_
        refine T.seq ?_
        refine T.text rfl ?_
        refine TO.val rfl rfl rfl (Val.load_rows (p := 0) (c := [_, _]) rfl ⟨⟨_, rfl, rfl⟩, rfl, by decide⟩ rfl rfl rfl rfl) ?_
        refine TO.val rfl rfl rfl (Val.move rfl) ?_
        obtain ⟨g25, e25⟩ : ∃ g, b.gs.l[i]? = some g := ⟨_, List.getElem?_eq_getElem (by omega)⟩
        refine TO.call rfl rfl rfl rfl rfl (orcL rfl (by first | decide | omega)) (.cons (.agg (.cons .lit (.cons .gs .nil))) (.cons .lit .nil)) (sem_of (r1_gathering b i g25 (by exact e25) (by omega) (by exact hok))) ?_
        generalize hE : gathErr (b.gs.l.take i) g25 = E25
        refine TO.val rfl rfl rfl (Val.assign rfl) ?_
        refine TO.nil ?_
        refine T.seq ?_
        refine T.text rfl ?_
        refine TO.val rfl rfl rfl (Val.move rfl) ?_
        refine TO.neq rfl rfl rfl rfl rfl (fun c27 hc27 => ?_)
        refine TO.nil ?_
        cases c27 with
        | true =>
          replace hc27 := btrue hc27
          have hG : gathsErr [] b.gs.l 0 = some (i, E25) := by rw [he, drop_cons e25, gathsErr, hE, if_pos hc27]
          clear he
          refine T.condT (fun a ha => ha.ev (.tmp 27) _ rfl) ?_
          refine T.seq ?_
          refine T.text rfl ?_
          refine TO.val rfl rfl rfl (Val.move rfl) ?_
          refine TO.val rfl rfl rfl (Val.move rfl) ?_
          refine TO.val rfl rfl rfl (Val.assign rfl) ?_
          refine TO.val rfl rfl rfl (Val.assign rfl) ?_
          refine TO.val rfl rfl rfl (Val.assign rfl) ?_
          refine TO.nil ?_
          refine T.ret ?_
          exact ⟨rfl, _, rfl, RefN.cast (.tuple (.cons .lit (.cons .lit (.cons .lit .nil)))) (by simp_all [bookErr, inR])⟩
        | false =>
          replace hc27 := bfalse hc27
          have hG : gathsErr [] b.gs.l 0 = gathsErr (b.gs.l.take (i + 1)) (b.gs.l.drop (i + 1)) (i + 1) := by rw [he, drop_cons e25, gathsErr, hE, if_neg hc27, take_snoc e25]
          refine T.condF (fun a ha => ha.ev (.tmp 27) _ rfl) ?_
          refine T.skip ?_
          refine T.text rfl ?_
          refine TO.val rfl rfl rfl (Val.move rfl) ?_
          refine TO.val rfl rfl rfl (Val.add rfl rfl (by omega)) ?_
          refine TO.val rfl rfl rfl (Val.assign rfl) ?_
          refine TO.nil ?_
          refine ⟨_, _, (by omega), ⟨i + 1, _, rfl, (by first | omega | simp_all), (by first | omega | simp_all), (by exact hG), (by intro k x hk hx; rcases Nat.lt_or_eq_of_le (Nat.le_of_lt_succ hk) with h | h; exact hok k x h hx; subst h; rw [e25] at hx; cases hx; exact gath_sig (by rw [hE]; omega)), rfl⟩, ⟨rfl, (keep_cons rfl (keep_cons rfl keep_nil)), (.cons_cons _ .slnil)⟩⟩
      | false =>
        replace hc20 := bfalse hc20
        have hG : gathsErr [] b.gs.l 0 = none := by rw [he, List.drop_eq_nil_of_le (by omega), gathsErr]
        clear he
        refine T.condF (fun a ha => ha.ev (.tmp 20) _ rfl) ?_
        refine T.exit ?_
        refine T.seq ?_
        refine T.text rfl ?_
        refine TO.val rfl rfl rfl (Val.assign rfl) ?_
        refine TO.val rfl rfl rfl (Val.assign rfl) ?_
        refine TO.val rfl rfl rfl (Val.assign rfl) ?_
        refine TO.nil ?_
        refine T.ret ?_
        exact ⟨rfl, _, rfl, RefN.cast (.tuple (.cons .lit (.cons .lit (.cons .lit .nil)))) (by simp_all [bookErr, inR])⟩
    | false =>
      replace hc14 := bfalse hc14
      refine T.condT (fun a ha => ha.ev (.tmp 15) _ rfl) ?_
      refine T.seq ?_
      refine T.text rfl ?_
      refine TO.val rfl rfl rfl (Val.assign rfl) ?_
      refine TO.val rfl rfl rfl (Val.assign rfl) ?_
      refine TO.val rfl rfl rfl (Val.assign rfl) ?_
      refine TO.nil ?_
      refine T.ret ?_
      exact ⟨rfl, _, rfl, RefN.cast (.tuple (.cons .lit (.cons .lit (.cons .lit .nil)))) (by simp_all [bookErr, inR])⟩
  | false =>
    replace hc9 := bfalse hc9
    refine T.condT (fun a ha => ha.ev (.tmp 10) _ rfl) ?_
    refine T.seq ?_
    refine T.text rfl ?_
    refine TO.val rfl rfl rfl (Val.assign rfl) ?_
    refine TO.val rfl rfl rfl (Val.assign rfl) ?_
    refine TO.val rfl rfl rfl (Val.assign rfl) ?_
    refine TO.nil ?_
    refine T.ret ?_
    exact ⟨rfl, _, rfl, RefN.cast (.tuple (.cons .lit (.cons .lit (.cons .lit .nil)))) (by simp_all [bookErr, inR])⟩
theorem r1_plus (g : Gat) (n : Int) (hb : g.ch.l.length ≤ 4) : Comes (EL 0) 52 [.agg (encG.f g), iv n] (.tuple [iv (plusOf g.ch.l n).1, iv (plusOf g.ch.l n).2]) := by
  refine Comes.of (TF.enter (fn := Go.Proofs.Try.f52) rfl rfl rfl rfl rfl ?_)
  refine T.seq ?_
  refine T.text rfl ?_
  refine TO.box (k := 4) (cells := [_, _, _, _]) rfl rfl rfl rfl rfl rfl rfl (fun b2 => ?_)
  refine TO.val rfl rfl rfl (Val.assign rfl) ?_
  refine TO.val rfl rfl rfl (Val.assign rfl) ?_
  refine TO.nil ?_
  refine T.seq ?_
  refine T.seq ?_
  refine T.text rfl ?_
  refine TO.val rfl rfl rfl (Val.assign rfl) ?_
  refine TO.nil ?_
  refine T.block ?_
  refine T.loop (fun μ s => ∃ i : Nat, ∃ j : Int, ∃ m1 : Int, ∃ m2 : Int, μ = g.ch.l.length - i ∧ j = i ∧ i ≤ g.ch.l.length ∧ m1 = (plusOf (g.ch.l.take i) n).1 ∧ m2 = (plusOf (g.ch.l.take i) n).2 ∧ s = ⟨[], [(1, iv n), (2, .ptr b2 0 4), (4, iv m1), (5, iv m2), (6, iv j)], [.row b2 4 [iv g.round, iv g.letter, iv g.leaves, g.ch.v]]⟩) (k := _) (s' := _) ⟨0, 0, 0, 0, rfl, (by first | rfl | omega | (simp; done) | (simp; omega) | simp_all), (by first | rfl | omega | (simp; done) | (simp; omega) | simp_all), (by first | rfl | omega | (simp; done) | (simp; omega) | simp_all), (by first | rfl | omega | (simp; done) | (simp; omega) | simp_all), rfl⟩ ⟨rfl, (keep_cons rfl (keep_cons rfl (keep_cons rfl (keep_cons rfl (keep_cons rfl keep_nil))))), (.cons_cons _ .slnil)⟩ ?_
  rintro μ _ ⟨i, j, m1, m2, hk0, hj, hi, hm1, hm2, rfl⟩
  subst hj
  refine T.seq ?_
  refine T.seq ?_
  refine T.text rfl ?_
  refine TO.val rfl rfl rfl (Val.move rfl) ?_
  refine TO.val rfl rfl rfl (Val.faddr_ptr (fo := 3) rfl rfl rfl) ?_
  refine TO.val rfl rfl rfl (Val.load_row (p := 0) rfl ⟨_, rfl, rfl⟩ rfl rfl rfl) ?_
  refine TO.val rfl rfl rfl (Val.len_gs rfl rfl) ?_
  refine TO.lss rfl rfl rfl rfl rfl (fun c11 hc11 => ?_)
  refine TO.nil ?_
  cases c11 with
  | true =>
    replace hc11 := btrue hc11
    refine T.condT (fun a ha => ha.ev (.tmp 11) _ rfl) ?_
    refine T.skip ?_
    refine T.seq ?_
    refine T.block ?_
    refine T.seq ?_
    refine T.seq ?_
    refine T.text rfl ?_
    refine TO.val rfl rfl rfl (Val.faddr_ptr (fo := 3) rfl rfl rfl) ?_
    refine TO.val rfl rfl rfl (Val.load_row (p := 0) rfl ⟨_, rfl, rfl⟩ rfl rfl rfl) ?_
    refine TO.val rfl rfl rfl (Val.move rfl) ?_
    refine TO.index_gs rfl rfl rfl ⟨rfl, rfl⟩ rfl rfl (by omega) (fun a17 ra17 ea17 => ?_)
    try simp only [Int.toNat_natCast] at ea17
    refine TO.val rfl rfl rfl (Val.faddr_tree (fo := 1) rfl rfl rfl rfl) ?_
    refine TO.val rfl rfl rfl (Val.load_tree ⟨_, rfl, rfl⟩ rfl) ?_
    refine TO.val rfl rfl rfl (Val.move rfl) ?_
    refine TO.eql rfl rfl rfl rfl rfl (fun c21 hc21 => ?_)
    refine TO.val rfl rfl rfl (Val.move rfl) ?_
    cases c21 with
    | true =>
      replace hc21 := btrue hc21
      refine TO.val rfl rfl rfl (Val.faddr_ptr (fo := 3) rfl rfl rfl) ?_
      refine TO.val rfl rfl rfl (Val.load_row (p := 0) rfl ⟨_, rfl, rfl⟩ rfl rfl rfl) ?_
      refine TO.val rfl rfl rfl (Val.move rfl) ?_
      refine TO.index_gs rfl rfl rfl ⟨rfl, rfl⟩ rfl rfl (by omega) (fun a26 ra26 ea26 => ?_)
      try simp only [Int.toNat_natCast] at ea26
      have e26 := Option.some.inj (ea17.symm.trans ea26)
      subst e26
      refine TO.val rfl rfl rfl (Val.faddr_tree (fo := 0) rfl rfl rfl rfl) ?_
      refine TO.val rfl rfl rfl (Val.load_tree ⟨_, rfl, rfl⟩ rfl) ?_
      refine TO.eql rfl rfl rfl rfl rfl (fun c29 hc29 => ?_)
      refine TO.val rfl rfl rfl (Val.pick rfl rfl rfl) ?_
      refine TO.nil ?_
      cases c29 with
      | true =>
        replace hc29 := btrue hc29
        refine T.condT (fun a ha => ha.ev (.tmp 30) _ rfl) ?_
        refine T.text rfl ?_
        refine TO.val rfl rfl rfl (Val.faddr_ptr (fo := 3) rfl rfl rfl) ?_
        refine TO.val rfl rfl rfl (Val.load_row (p := 0) rfl ⟨_, rfl, rfl⟩ rfl rfl rfl) ?_
        refine TO.val rfl rfl rfl (Val.move rfl) ?_
        refine TO.index_gs rfl rfl rfl ⟨rfl, rfl⟩ rfl rfl (by omega) (fun a34 ra34 ea34 => ?_)
        try simp only [Int.toNat_natCast] at ea34
        have e34 := Option.some.inj (ea17.symm.trans ea34)
        subst e34
        refine TO.val rfl rfl rfl (Val.faddr_tree (fo := 2) rfl rfl rfl rfl) ?_
        refine TO.val rfl rfl rfl (Val.load_tree ⟨_, rfl, rfl⟩ rfl) ?_
        refine TO.val rfl rfl rfl (Val.assign rfl) ?_
        refine TO.nil ?_
        refine T.seq ?_
        refine T.text rfl ?_
        refine TO.val rfl rfl rfl (Val.faddr_ptr (fo := 3) rfl rfl rfl) ?_
        refine TO.val rfl rfl rfl (Val.load_row (p := 0) rfl ⟨_, rfl, rfl⟩ rfl rfl rfl) ?_
        refine TO.val rfl rfl rfl (Val.move rfl) ?_
        refine TO.index_gs rfl rfl rfl ⟨rfl, rfl⟩ rfl rfl (by omega) (fun a40 ra40 ea40 => ?_)
        try simp only [Int.toNat_natCast] at ea40
        have e40 := Option.some.inj (ea17.symm.trans ea40)
        subst e40
        refine TO.val rfl rfl rfl (Val.faddr_tree (fo := 1) rfl rfl rfl rfl) ?_
        refine TO.val rfl rfl rfl (Val.load_tree ⟨_, rfl, rfl⟩ rfl) ?_
        refine TO.val rfl rfl rfl (Val.move rfl) ?_
        refine TO.eql rfl rfl rfl rfl rfl (fun c44 hc44 => ?_)
        refine TO.val rfl rfl rfl (Val.move rfl) ?_
        cases c44 with
        | true =>
          replace hc44 := btrue hc44
          refine TO.val rfl rfl rfl (Val.faddr_ptr (fo := 3) rfl rfl rfl) ?_
          refine TO.val rfl rfl rfl (Val.load_row (p := 0) rfl ⟨_, rfl, rfl⟩ rfl rfl rfl) ?_
          refine TO.val rfl rfl rfl (Val.move rfl) ?_
          refine TO.index_gs rfl rfl rfl ⟨rfl, rfl⟩ rfl rfl (by omega) (fun a49 ra49 ea49 => ?_)
          try simp only [Int.toNat_natCast] at ea49
          have e49 := Option.some.inj (ea17.symm.trans ea49)
          subst e49
          refine TO.val rfl rfl rfl (Val.faddr_tree (fo := 0) rfl rfl rfl rfl) ?_
          refine TO.val rfl rfl rfl (Val.load_tree ⟨_, rfl, rfl⟩ rfl) ?_
          refine TO.neq rfl rfl rfl rfl rfl (fun c52 hc52 => ?_)
          refine TO.val rfl rfl rfl (Val.pick rfl rfl rfl) ?_
          refine TO.nil ?_
          cases c52 with
          | true =>
            replace hc52 := btrue hc52
            refine T.condT (fun a ha => ha.ev (.tmp 53) _ rfl) ?_
            refine T.text rfl ?_
            refine TO.val rfl rfl rfl (Val.faddr_ptr (fo := 3) rfl rfl rfl) ?_
            refine TO.val rfl rfl rfl (Val.load_row (p := 0) rfl ⟨_, rfl, rfl⟩ rfl rfl rfl) ?_
            refine TO.val rfl rfl rfl (Val.move rfl) ?_
            refine TO.index_gs rfl rfl rfl ⟨rfl, rfl⟩ rfl rfl (by omega) (fun a57 ra57 ea57 => ?_)
            try simp only [Int.toNat_natCast] at ea57
            have e57 := Option.some.inj (ea17.symm.trans ea57)
            subst e57
            refine TO.val rfl rfl rfl (Val.faddr_tree (fo := 0) rfl rfl rfl rfl) ?_
            refine TO.val rfl rfl rfl (Val.load_tree ⟨_, rfl, rfl⟩ rfl) ?_
            refine TO.val rfl rfl rfl (Val.assign rfl) ?_
            refine TO.nil ?_
            refine T.text rfl ?_
            refine TO.val rfl rfl rfl (Val.move rfl) ?_
            refine TO.val rfl rfl rfl (Val.add rfl rfl (by omega)) ?_
            refine TO.val rfl rfl rfl (Val.assign rfl) ?_
            refine TO.nil ?_
            refine ⟨_, _, (by omega), ⟨i + 1, _, _, _, rfl, (by first | omega | simp_all), (by first | omega | simp_all), (by rw [take_snoc ea17, plusOf_snoc]; simp_all), (by rw [take_snoc ea17, plusOf_snoc]; simp_all), rfl⟩, ⟨rfl, (keep_cons rfl (keep_cons rfl (keep_cons rfl (keep_cons rfl (keep_cons rfl keep_nil))))), (.cons_cons _ .slnil)⟩⟩
          | false =>
            replace hc52 := bfalse hc52
            refine T.condF (fun a ha => ha.ev (.tmp 53) _ rfl) ?_
            refine T.skip ?_
            refine T.text rfl ?_
            refine TO.val rfl rfl rfl (Val.move rfl) ?_
            refine TO.val rfl rfl rfl (Val.add rfl rfl (by omega)) ?_
            refine TO.val rfl rfl rfl (Val.assign rfl) ?_
            refine TO.nil ?_
            refine ⟨_, _, (by omega), ⟨i + 1, _, _, _, rfl, (by first | omega | simp_all), (by first | omega | simp_all), (by rw [take_snoc ea17, plusOf_snoc]; simp_all), (by rw [take_snoc ea17, plusOf_snoc]; simp_all), rfl⟩, ⟨rfl, (keep_cons rfl (keep_cons rfl (keep_cons rfl (keep_cons rfl (keep_cons rfl keep_nil))))), (.cons_cons _ .slnil)⟩⟩
        | false =>
          replace hc44 := bfalse hc44
          refine TO.off rfl rfl rfl ?_
          refine TO.off rfl rfl rfl ?_
          refine TO.off rfl rfl rfl ?_
          refine TO.off rfl rfl rfl ?_
          refine TO.off rfl rfl rfl ?_
          refine TO.off rfl rfl rfl ?_
          refine TO.off rfl rfl rfl ?_
          refine TO.val rfl rfl rfl (Val.pick rfl rfl rfl) ?_
          refine TO.nil ?_
          refine T.condF (fun a ha => ha.ev (.tmp 53) _ rfl) ?_
          refine T.skip ?_
          refine T.text rfl ?_
          refine TO.val rfl rfl rfl (Val.move rfl) ?_
          refine TO.val rfl rfl rfl (Val.add rfl rfl (by omega)) ?_
          refine TO.val rfl rfl rfl (Val.assign rfl) ?_
          refine TO.nil ?_
          refine ⟨_, _, (by omega), ⟨i + 1, _, _, _, rfl, (by first | omega | simp_all), (by first | omega | simp_all), (by rw [take_snoc ea17, plusOf_snoc]; simp_all), (by rw [take_snoc ea17, plusOf_snoc]; simp_all), rfl⟩, ⟨rfl, (keep_cons rfl (keep_cons rfl (keep_cons rfl (keep_cons rfl (keep_cons rfl keep_nil))))), (.cons_cons _ .slnil)⟩⟩
      | false =>
        replace hc29 := bfalse hc29
        refine T.condF (fun a ha => ha.ev (.tmp 30) _ rfl) ?_
        refine T.skip ?_
        refine T.seq ?_
        refine T.text rfl ?_
        refine TO.val rfl rfl rfl (Val.faddr_ptr (fo := 3) rfl rfl rfl) ?_
        refine TO.val rfl rfl rfl (Val.load_row (p := 0) rfl ⟨_, rfl, rfl⟩ rfl rfl rfl) ?_
        refine TO.val rfl rfl rfl (Val.move rfl) ?_
        refine TO.index_gs rfl rfl rfl ⟨rfl, rfl⟩ rfl rfl (by omega) (fun a40 ra40 ea40 => ?_)
        try simp only [Int.toNat_natCast] at ea40
        have e40 := Option.some.inj (ea17.symm.trans ea40)
        subst e40
        refine TO.val rfl rfl rfl (Val.faddr_tree (fo := 1) rfl rfl rfl rfl) ?_
        refine TO.val rfl rfl rfl (Val.load_tree ⟨_, rfl, rfl⟩ rfl) ?_
        refine TO.val rfl rfl rfl (Val.move rfl) ?_
        refine TO.eql rfl rfl rfl rfl rfl (fun c44 hc44 => ?_)
        refine TO.val rfl rfl rfl (Val.move rfl) ?_
        cases c44 with
        | true =>
          replace hc44 := btrue hc44
          refine TO.val rfl rfl rfl (Val.faddr_ptr (fo := 3) rfl rfl rfl) ?_
          refine TO.val rfl rfl rfl (Val.load_row (p := 0) rfl ⟨_, rfl, rfl⟩ rfl rfl rfl) ?_
          refine TO.val rfl rfl rfl (Val.move rfl) ?_
          refine TO.index_gs rfl rfl rfl ⟨rfl, rfl⟩ rfl rfl (by omega) (fun a49 ra49 ea49 => ?_)
          try simp only [Int.toNat_natCast] at ea49
          have e49 := Option.some.inj (ea17.symm.trans ea49)
          subst e49
          refine TO.val rfl rfl rfl (Val.faddr_tree (fo := 0) rfl rfl rfl rfl) ?_
          refine TO.val rfl rfl rfl (Val.load_tree ⟨_, rfl, rfl⟩ rfl) ?_
          refine TO.neq rfl rfl rfl rfl rfl (fun c52 hc52 => ?_)
          refine TO.val rfl rfl rfl (Val.pick rfl rfl rfl) ?_
          refine TO.nil ?_
          cases c52 with
          | true =>
            replace hc52 := btrue hc52
            refine T.condT (fun a ha => ha.ev (.tmp 53) _ rfl) ?_
            refine T.text rfl ?_
            refine TO.val rfl rfl rfl (Val.faddr_ptr (fo := 3) rfl rfl rfl) ?_
            refine TO.val rfl rfl rfl (Val.load_row (p := 0) rfl ⟨_, rfl, rfl⟩ rfl rfl rfl) ?_
            refine TO.val rfl rfl rfl (Val.move rfl) ?_
            refine TO.index_gs rfl rfl rfl ⟨rfl, rfl⟩ rfl rfl (by omega) (fun a57 ra57 ea57 => ?_)
            try simp only [Int.toNat_natCast] at ea57
            have e57 := Option.some.inj (ea17.symm.trans ea57)
            subst e57
            refine TO.val rfl rfl rfl (Val.faddr_tree (fo := 0) rfl rfl rfl rfl) ?_
            refine TO.val rfl rfl rfl (Val.load_tree ⟨_, rfl, rfl⟩ rfl) ?_
            refine TO.val rfl rfl rfl (Val.assign rfl) ?_
            refine TO.nil ?_
            refine T.text rfl ?_
            refine TO.val rfl rfl rfl (Val.move rfl) ?_
            refine TO.val rfl rfl rfl (Val.add rfl rfl (by omega)) ?_
            refine TO.val rfl rfl rfl (Val.assign rfl) ?_
            refine TO.nil ?_
            refine ⟨_, _, (by omega), ⟨i + 1, _, _, _, rfl, (by first | omega | simp_all), (by first | omega | simp_all), (by rw [take_snoc ea17, plusOf_snoc]; simp_all), (by rw [take_snoc ea17, plusOf_snoc]; simp_all), rfl⟩, ⟨rfl, (keep_cons rfl (keep_cons rfl (keep_cons rfl (keep_cons rfl (keep_cons rfl keep_nil))))), (.cons_cons _ .slnil)⟩⟩
          | false =>
            replace hc52 := bfalse hc52
            refine T.condF (fun a ha => ha.ev (.tmp 53) _ rfl) ?_
            refine T.skip ?_
            refine T.text rfl ?_
            refine TO.val rfl rfl rfl (Val.move rfl) ?_
            refine TO.val rfl rfl rfl (Val.add rfl rfl (by omega)) ?_
            refine TO.val rfl rfl rfl (Val.assign rfl) ?_
            refine TO.nil ?_
            refine ⟨_, _, (by omega), ⟨i + 1, _, _, _, rfl, (by first | omega | simp_all), (by first | omega | simp_all), (by rw [take_snoc ea17, plusOf_snoc]; simp_all), (by rw [take_snoc ea17, plusOf_snoc]; simp_all), rfl⟩, ⟨rfl, (keep_cons rfl (keep_cons rfl (keep_cons rfl (keep_cons rfl (keep_cons rfl keep_nil))))), (.cons_cons _ .slnil)⟩⟩
        | false =>
          replace hc44 := bfalse hc44
          refine TO.off rfl rfl rfl ?_
          refine TO.off rfl rfl rfl ?_
          refine TO.off rfl rfl rfl ?_
          refine TO.off rfl rfl rfl ?_
          refine TO.off rfl rfl rfl ?_
          refine TO.off rfl rfl rfl ?_
          refine TO.off rfl rfl rfl ?_
          refine TO.val rfl rfl rfl (Val.pick rfl rfl rfl) ?_
          refine TO.nil ?_
          refine T.condF (fun a ha => ha.ev (.tmp 53) _ rfl) ?_
          refine T.skip ?_
          refine T.text rfl ?_
          refine TO.val rfl rfl rfl (Val.move rfl) ?_
          refine TO.val rfl rfl rfl (Val.add rfl rfl (by omega)) ?_
          refine TO.val rfl rfl rfl (Val.assign rfl) ?_
          refine TO.nil ?_
          refine ⟨_, _, (by omega), ⟨i + 1, _, _, _, rfl, (by first | omega | simp_all), (by first | omega | simp_all), (by rw [take_snoc ea17, plusOf_snoc]; simp_all), (by rw [take_snoc ea17, plusOf_snoc]; simp_all), rfl⟩, ⟨rfl, (keep_cons rfl (keep_cons rfl (keep_cons rfl (keep_cons rfl (keep_cons rfl keep_nil))))), (.cons_cons _ .slnil)⟩⟩
    | false =>
      replace hc21 := bfalse hc21
      refine TO.off rfl rfl rfl ?_
      refine TO.off rfl rfl rfl ?_
      refine TO.off rfl rfl rfl ?_
      refine TO.off rfl rfl rfl ?_
      refine TO.off rfl rfl rfl ?_
      refine TO.off rfl rfl rfl ?_
      refine TO.off rfl rfl rfl ?_
      refine TO.val rfl rfl rfl (Val.pick rfl rfl rfl) ?_
      refine TO.nil ?_
      refine T.condF (fun a ha => ha.ev (.tmp 30) _ rfl) ?_
      refine T.skip ?_
      refine T.seq ?_
      refine T.text rfl ?_
      refine TO.val rfl rfl rfl (Val.faddr_ptr (fo := 3) rfl rfl rfl) ?_
      refine TO.val rfl rfl rfl (Val.load_row (p := 0) rfl ⟨_, rfl, rfl⟩ rfl rfl rfl) ?_
      refine TO.val rfl rfl rfl (Val.move rfl) ?_
      refine TO.index_gs rfl rfl rfl ⟨rfl, rfl⟩ rfl rfl (by omega) (fun a40 ra40 ea40 => ?_)
      try simp only [Int.toNat_natCast] at ea40
      have e40 := Option.some.inj (ea17.symm.trans ea40)
      subst e40
      refine TO.val rfl rfl rfl (Val.faddr_tree (fo := 1) rfl rfl rfl rfl) ?_
      refine TO.val rfl rfl rfl (Val.load_tree ⟨_, rfl, rfl⟩ rfl) ?_
      refine TO.val rfl rfl rfl (Val.move rfl) ?_
      refine TO.eql rfl rfl rfl rfl rfl (fun c44 hc44 => ?_)
      refine TO.val rfl rfl rfl (Val.move rfl) ?_
      cases c44 with
      | true =>
        replace hc44 := btrue hc44
        refine TO.val rfl rfl rfl (Val.faddr_ptr (fo := 3) rfl rfl rfl) ?_
        refine TO.val rfl rfl rfl (Val.load_row (p := 0) rfl ⟨_, rfl, rfl⟩ rfl rfl rfl) ?_
        refine TO.val rfl rfl rfl (Val.move rfl) ?_
        refine TO.index_gs rfl rfl rfl ⟨rfl, rfl⟩ rfl rfl (by omega) (fun a49 ra49 ea49 => ?_)
        try simp only [Int.toNat_natCast] at ea49
        have e49 := Option.some.inj (ea17.symm.trans ea49)
        subst e49
        refine TO.val rfl rfl rfl (Val.faddr_tree (fo := 0) rfl rfl rfl rfl) ?_
        refine TO.val rfl rfl rfl (Val.load_tree ⟨_, rfl, rfl⟩ rfl) ?_
        refine TO.neq rfl rfl rfl rfl rfl (fun c52 hc52 => ?_)
        refine TO.val rfl rfl rfl (Val.pick rfl rfl rfl) ?_
        refine TO.nil ?_
        cases c52 with
        | true =>
          replace hc52 := btrue hc52
          refine T.condT (fun a ha => ha.ev (.tmp 53) _ rfl) ?_
          refine T.text rfl ?_
          refine TO.val rfl rfl rfl (Val.faddr_ptr (fo := 3) rfl rfl rfl) ?_
          refine TO.val rfl rfl rfl (Val.load_row (p := 0) rfl ⟨_, rfl, rfl⟩ rfl rfl rfl) ?_
          refine TO.val rfl rfl rfl (Val.move rfl) ?_
          refine TO.index_gs rfl rfl rfl ⟨rfl, rfl⟩ rfl rfl (by omega) (fun a57 ra57 ea57 => ?_)
          try simp only [Int.toNat_natCast] at ea57
          have e57 := Option.some.inj (ea17.symm.trans ea57)
          subst e57
          refine TO.val rfl rfl rfl (Val.faddr_tree (fo := 0) rfl rfl rfl rfl) ?_
          refine TO.val rfl rfl rfl (Val.load_tree ⟨_, rfl, rfl⟩ rfl) ?_
          refine TO.val rfl rfl rfl (Val.assign rfl) ?_
          refine TO.nil ?_
          refine T.text rfl ?_
          refine TO.val rfl rfl rfl (Val.move rfl) ?_
          refine TO.val rfl rfl rfl (Val.add rfl rfl (by omega)) ?_
          refine TO.val rfl rfl rfl (Val.assign rfl) ?_
          refine TO.nil ?_
          refine ⟨_, _, (by omega), ⟨i + 1, _, _, _, rfl, (by first | omega | simp_all), (by first | omega | simp_all), (by rw [take_snoc ea17, plusOf_snoc]; simp_all), (by rw [take_snoc ea17, plusOf_snoc]; simp_all), rfl⟩, ⟨rfl, (keep_cons rfl (keep_cons rfl (keep_cons rfl (keep_cons rfl (keep_cons rfl keep_nil))))), (.cons_cons _ .slnil)⟩⟩
        | false =>
          replace hc52 := bfalse hc52
          refine T.condF (fun a ha => ha.ev (.tmp 53) _ rfl) ?_
          refine T.skip ?_
          refine T.text rfl ?_
          refine TO.val rfl rfl rfl (Val.move rfl) ?_
          refine TO.val rfl rfl rfl (Val.add rfl rfl (by omega)) ?_
          refine TO.val rfl rfl rfl (Val.assign rfl) ?_
          refine TO.nil ?_
          refine ⟨_, _, (by omega), ⟨i + 1, _, _, _, rfl, (by first | omega | simp_all), (by first | omega | simp_all), (by rw [take_snoc ea17, plusOf_snoc]; simp_all), (by rw [take_snoc ea17, plusOf_snoc]; simp_all), rfl⟩, ⟨rfl, (keep_cons rfl (keep_cons rfl (keep_cons rfl (keep_cons rfl (keep_cons rfl keep_nil))))), (.cons_cons _ .slnil)⟩⟩
      | false =>
        replace hc44 := bfalse hc44
        refine TO.off rfl rfl rfl ?_
        refine TO.off rfl rfl rfl ?_
        refine TO.off rfl rfl rfl ?_
        refine TO.off rfl rfl rfl ?_
        refine TO.off rfl rfl rfl ?_
        refine TO.off rfl rfl rfl ?_
        refine TO.off rfl rfl rfl ?_
        refine TO.val rfl rfl rfl (Val.pick rfl rfl rfl) ?_
        refine TO.nil ?_
        refine T.condF (fun a ha => ha.ev (.tmp 53) _ rfl) ?_
        refine T.skip ?_
        refine T.text rfl ?_
        refine TO.val rfl rfl rfl (Val.move rfl) ?_
        refine TO.val rfl rfl rfl (Val.add rfl rfl (by omega)) ?_
        refine TO.val rfl rfl rfl (Val.assign rfl) ?_
        refine TO.nil ?_
        refine ⟨_, _, (by omega), ⟨i + 1, _, _, _, rfl, (by first | omega | simp_all), (by first | omega | simp_all), (by rw [take_snoc ea17, plusOf_snoc]; simp_all), (by rw [take_snoc ea17, plusOf_snoc]; simp_all), rfl⟩, ⟨rfl, (keep_cons rfl (keep_cons rfl (keep_cons rfl (keep_cons rfl (keep_cons rfl keep_nil))))), (.cons_cons _ .slnil)⟩⟩
  | false =>
    replace hc11 := bfalse hc11
    refine T.condF (fun a ha => ha.ev (.tmp 11) _ rfl) ?_
    refine T.exit ?_
    refine T.seq ?_
    refine T.text rfl ?_
    refine TO.val rfl rfl rfl (Val.move rfl) ?_
    refine TO.val rfl rfl rfl (Val.move rfl) ?_
    refine TO.val rfl rfl rfl (Val.assign rfl) ?_
    refine TO.val rfl rfl rfl (Val.assign rfl) ?_
    refine TO.nil ?_
    refine T.ret ?_
    exact ⟨rfl, _, rfl, RefN.cast (.tuple (.cons .lit (.cons .lit .nil))) (by rw [List.take_of_length_le (by omega)] at hm1 hm2; rw [hm1, hm2])⟩
theorem r1_All (b : Book) (hf : Fits b) : Comes (EL 1) 32 [.agg (encB.f b)] ((GSo true encL (leavesOf b)).v) := by
  have hgs := hf.gs
  refine Comes.of (TF.enter (fn := Go.Proofs.Try.f32) rfl rfl rfl rfl rfl ?_)
  refine T.seq ?_
  refine T.text rfl ?_
  refine TO.box (k := 2) (cells := [_, _]) rfl rfl rfl rfl rfl rfl rfl (fun b1 => ?_)
  refine TO.val rfl rfl rfl (Val.assign rfl) ?_
  refine TO.nil ?_
  refine T.seq ?_
  refine T.text rfl ?_
  refine TO.val rfl rfl rfl (Val.assign rfl) ?_
  refine TO.nil ?_
  refine T.seq ?_
  refine T.seq ?_
  refine T.text rfl ?_
  refine TO.val rfl rfl rfl (Val.assign rfl) ?_
  refine TO.nil ?_
  refine T.block ?_
  refine T.nilown (u := encL.u) ?_
  refine T.loop (fun μ s => ∃ i : Nat, ∃ j : Int, ∃ v : AV, ∃ acc : List Leaf, μ = b.gs.l.length - i ∧ j = i ∧ i ≤ b.gs.l.length ∧ acc = leavesFrom 0 (b.gs.l.take i) ∧ acc.length ≤ 65 * i ∧ s = ⟨[], [(1, .ptr b1 0 2), (3, v), (4, iv j)], [ownL true v encL acc, .row b1 2 [iv b.signed, b.gs.v]]⟩) (k := _) (s' := _) ⟨0, 0, _, [], rfl, (by first | rfl | omega | (simp; done) | (simp; omega) | simp_all), (by first | rfl | omega | (simp; done) | (simp; omega) | simp_all), (by first | rfl | omega | (simp; done) | (simp; omega) | simp_all), (by first | rfl | omega | (simp; done) | (simp; omega) | simp_all), rfl⟩ ⟨rfl, (keep_cons rfl (keep_cons rfl (keep_cons rfl keep_nil))), (.cons_cons _ (.cons_cons _ .slnil))⟩ ?_
  rintro μ _ ⟨i, j, v, acc, hk0, hj, hi, hacc, hal, rfl⟩
  subst hj
  refine T.seq ?_
  refine T.seq ?_
  refine T.text rfl ?_
  refine TO.val rfl rfl rfl (Val.move rfl) ?_
  refine TO.val rfl rfl rfl (Val.faddr_ptr (fo := 1) rfl rfl rfl) ?_
  refine TO.val rfl rfl rfl (Val.load_row (p := 1) rfl ⟨_, rfl, rfl⟩ rfl rfl rfl) ?_
  refine TO.val rfl rfl rfl (Val.len_gs rfl rfl) ?_
  refine TO.lss rfl rfl rfl rfl rfl (fun c15 hc15 => ?_)
  refine TO.nil ?_
  cases c15 with
  | true =>
    replace hc15 := btrue hc15
    refine T.condT (fun a ha => ha.ev (.tmp 15) _ rfl) ?_
    refine T.skip ?_
    refine T.seq ?_
    refine T.block ?_
    refine T.seq ?_
    refine T.text rfl ?_
    refine TO.val rfl rfl rfl (Val.faddr_ptr (fo := 1) rfl rfl rfl) ?_
    refine TO.val rfl rfl rfl (Val.load_row (p := 1) rfl ⟨_, rfl, rfl⟩ rfl rfl rfl) ?_
    refine TO.val rfl rfl rfl (Val.move rfl) ?_
    refine TO.index_gs rfl rfl rfl ⟨rfl, rfl⟩ rfl rfl (by omega) (fun g rg eg => ?_)
    try simp only [Int.toNat_natCast] at eg
    obtain ⟨hgl, hgc, hgp⟩ := hf.leaves g (List.mem_of_getElem? eg)
    have hgn := fun n => hgp n
    refine TO.val rfl rfl rfl (Val.load_trees (c := _) ⟨⟨_, rfl, rfl⟩, rfl, by decide⟩ rfl rfl) ?_
    refine TO.alloc (k := 4) (cells := [_, _, _, _]) rfl rfl rfl rfl rfl rfl rfl (fun b5 => ?_)
    refine TO.store_row (p := 0) (cv := [_, _, _, _]) (cells' := [_, _, _, _]) rfl rfl rfl rfl rfl rfl rfl rfl rfl rfl (by first | rfl | simp [GS.one]) (by decide) rfl ?_
    refine TO.things (hs' := [_, _, _]) rfl ?_
    refine TO.nil ?_
    refine T.seq ?_
    refine T.text rfl ?_
    refine TO.val rfl rfl rfl (Val.assign rfl) ?_
    refine TO.nil ?_
    refine T.block ?_
    refine T.loop (fun μ s => ∃ n : Nat, ∃ j : Int, ∃ v : AV, ∃ ac1 : List Leaf, μ = (g.leaves + 1).toNat - n ∧ j = n ∧ n ≤ (g.leaves + 1).toNat ∧ ac1 = acc ++ (List.range n).flatMap (numLeaves i g) ∧ ac1.length ≤ 65 * i + 5 * n ∧ s = ⟨[], [(1, .ptr b1 0 2), (3, v), (4, iv (i : Int)), (5, .ptr b5 0 4), (6, iv j)], [.row b5 4 [iv g.round, iv g.letter, iv g.leaves, g.ch.v], ownL true v encL ac1, .row b1 2 [iv b.signed, b.gs.v]]⟩) (k := _) (s' := _) ⟨0, 0, _, _, rfl, (by first | rfl | omega | (simp; done) | (simp; omega) | simp_all), (by first | rfl | omega | (simp; done) | (simp; omega) | simp_all), (by simp), (by first | rfl | omega | (simp; done) | (simp; omega) | simp_all), rfl⟩ ⟨rfl, (keep_cons rfl (keep_cons rfl (keep_cons rfl (keep_cons rfl (keep_cons rfl keep_nil))))), (.cons_cons _ (.cons_cons _ (.cons_cons _ .slnil)))⟩ ?_
    rintro μ _ ⟨n, j, v, ac1, hk1, hj, hn, ha1, hl1, rfl⟩
    subst hj
    refine T.seq ?_
    refine T.seq ?_
    refine T.text rfl ?_
    refine TO.val rfl rfl rfl (Val.move rfl) ?_
    refine TO.val rfl rfl rfl (Val.faddr_ptr (fo := 2) rfl rfl rfl) ?_
    refine TO.val rfl rfl rfl (Val.load_row (p := 0) rfl ⟨_, rfl, rfl⟩ rfl rfl rfl) ?_
    refine TO.leq rfl rfl rfl rfl rfl (fun c26 hc26 => ?_)
    refine TO.nil ?_
    cases c26 with
    | true =>
      replace hc26 := btrue hc26
      refine T.condT (fun a ha => ha.ev (.tmp 26) _ rfl) ?_
      refine T.skip ?_
      refine T.seq ?_
      refine T.block ?_
      refine T.seq ?_
      refine T.text rfl ?_
      refine TO.val rfl rfl rfl (Val.load_rows (p := 0) (c := [_, _, _, _]) rfl ⟨⟨_, rfl, rfl⟩, rfl, by decide⟩ rfl rfl rfl rfl) ?_
      refine TO.val rfl rfl rfl (Val.move rfl) ?_
      have hp := hgp n
      refine TO.call rfl rfl rfl rfl rfl (orcL rfl (by first | decide | omega)) (.cons (.agg (.cons .lit (.cons .lit (.cons .lit (.cons .gs .nil))))) (.cons .lit .nil)) (sem_of (r1_plus _ _ (by exact hgc))) ?_
      refine TO.val rfl rfl rfl (Val.move rfl) ?_
      refine TO.val rfl rfl rfl (Val.extract rfl rfl) ?_
      refine TO.val rfl rfl rfl (Val.extract rfl rfl) ?_
      refine TO.val rfl rfl rfl (Val.assign rfl) ?_
      refine TO.val rfl rfl rfl (Val.assign rfl) ?_
      refine TO.nil ?_
      refine T.seq ?_
      refine T.seq ?_
      refine T.text rfl ?_
      refine TO.val rfl rfl rfl (Val.move rfl) ?_
      refine TO.gtr rfl rfl rfl rfl rfl (fun c36 hc36 => ?_)
      refine TO.val rfl rfl rfl (Val.move rfl) ?_
      cases c36 with
      | true =>
        replace hc36 := btrue hc36
        refine TO.val rfl rfl rfl (Val.move rfl) ?_
        refine TO.neq rfl rfl rfl rfl rfl (fun c39 hc39 => ?_)
        refine TO.val rfl rfl rfl (Val.pick rfl rfl rfl) ?_
        refine TO.nil ?_
        cases c39 with
        | true =>
          replace hc39 := btrue hc39
          refine T.condT (fun a ha => ha.ev (.tmp 40) _ rfl) ?_
          refine T.seq ?_
          refine T.text rfl ?_
          refine TO.val rfl rfl rfl (Val.move rfl) ?_
          refine TO.val rfl rfl rfl (Val.move rfl) ?_
          refine TO.val rfl rfl rfl (Val.build (cs := [_, _, _, _]) (vs := [(_, _), (_, _)]) rfl rfl rfl) ?_
          refine TO.alloc (k := 4) (cells := [_, _, _, _]) rfl rfl rfl rfl rfl rfl rfl (fun b9 => ?_)
          refine TO.store_row (p := 0) (cv := [_, _, _, _]) (cells' := [_, _, _, _]) rfl rfl rfl rfl rfl rfl rfl rfl rfl rfl (by first | rfl | simp [GS.one]) (by decide) rfl ?_
          refine TO.things (hs' := [_, _, _, _]) rfl ?_
          refine TO.nil ?_
          refine T.seq ?_
          refine T.seq ?_
          refine T.text rfl ?_
          refine TO.val rfl rfl rfl (Val.move rfl) ?_
          refine TO.eql rfl rfl rfl rfl rfl (fun c45 hc45 => ?_)
          refine TO.nil ?_
          cases c45 with
          | true =>
            replace hc45 := btrue hc45
            refine T.condT (fun a ha => ha.ev (.tmp 45) _ rfl) ?_
            refine T.text rfl ?_
            refine TO.val rfl rfl rfl (Val.faddr_ptr (fo := 3) rfl rfl rfl) ?_
            refine TO.store_row (p := 0) (cv := [_]) (cells' := [_, _, _, _]) rfl rfl rfl rfl rfl rfl rfl rfl rfl rfl (by first | rfl | simp [GS.one]) (by decide) rfl ?_
            refine TO.things (hs' := [_, _, _, _]) rfl ?_
            refine TO.nil ?_
            refine T.text rfl ?_
            refine TO.val rfl rfl rfl (Val.move rfl) ?_
            refine TO.val rfl rfl rfl (Val.load_rows (p := 0) (c := [_, _, _, _]) rfl ⟨⟨_, rfl, rfl⟩, rfl, by decide⟩ rfl rfl rfl rfl) ?_
            refine TO.build1 (en := encL) (a := ⟨_, _, _, _⟩) rfl rfl rfl ⟨rfl, rfl⟩ ⟨_, rfl, rfl⟩ (by decide) (by decide) rfl rfl (fun v49 => ?_)
            refine TO.append_own (b := 32) (en := encL) (l := _) (l2 := _) (p := 3) (q := 0) rfl rfl rfl ⟨rfl, rfl, rfl, ⟨_, rfl, rfl⟩, by decide, by decide⟩ rfl rfl rfl rfl rfl rfl (en_ones encL_ones _) (by simp; omega) (fun v50 => ?_)
            refine TO.things (hs' := [_, _, _, _, _]) rfl ?_
            refine TO.val rfl rfl rfl (Val.assign rfl) ?_
            refine TO.nil ?_
            refine T.seq ?_
            refine T.text rfl ?_
            refine TO.val rfl rfl rfl (Val.assign rfl) ?_
            refine TO.nil ?_
            refine T.block ?_
            refine T.loop (fun μ s => ∃ k : Nat, ∃ j : Int, ∃ v : AV, ∃ ac2 : List Leaf, μ = (plusOf g.ch.l n).1.toNat - k ∧ j = k + 1 ∧ (k : Int) ≤ max 0 (plusOf g.ch.l n).1 ∧ ac2 = ac1 ++ ownLeaf i n g ++ newLeaves i n k ∧ ac2.length ≤ 65 * i + 5 * n + 1 + k ∧ s = ⟨[], [(1, .ptr b1 0 2), (3, v), (4, iv (i : Int)), (5, .ptr b5 0 4), (6, iv (n : Int)), (7, iv (plusOf g.ch.l n).1), (10, iv j)], [.row b5 4 [iv g.round, iv g.letter, iv g.leaves, g.ch.v], ownL true v encL ac2, .row b1 2 [iv b.signed, b.gs.v]]⟩) (k := _) (s' := _) ⟨0, _, _, _, rfl, (by first | rfl | omega | (simp; done) | (simp; omega) | simp_all), (by first | rfl | omega | (simp; done) | (simp; omega) | simp_all), (by simp_all [ownLeaf, newLeaves]), (by simp; omega), rfl⟩ ⟨rfl, (keep_cons rfl (keep_cons rfl (keep_cons rfl (keep_cons rfl (keep_cons rfl (keep_cons rfl (keep_cons rfl keep_nil))))))), (.cons _ (.cons _ (.cons_cons _ (.cons_cons _ (.cons_cons _ .slnil)))))⟩ ?_
            rintro μ _ ⟨k, j, v, ac2, hk2, hj, hk, ha2, hl2, rfl⟩
            subst hj
            refine T.seq ?_
            refine T.seq ?_
            refine T.text rfl ?_
            have hp := hgp n
            refine TO.val rfl rfl rfl (Val.move rfl) ?_
            refine TO.val rfl rfl rfl (Val.move rfl) ?_
            refine TO.leq rfl rfl rfl rfl rfl (fun c53 hc53 => ?_)
            refine TO.nil ?_
            cases c53 with
            | true =>
              replace hc53 := btrue hc53
              refine T.condT (fun a ha => ha.ev (.tmp 53) _ rfl) ?_
              refine T.skip ?_
              refine T.seq ?_
              refine T.block ?_
              refine T.text rfl ?_
              refine TO.val rfl rfl rfl (Val.move rfl) ?_
              refine TO.val rfl rfl rfl (Val.move rfl) ?_
              refine TO.val rfl rfl rfl (Val.move rfl) ?_
              refine TO.val rfl rfl rfl (Val.move rfl) ?_
              refine TO.val rfl rfl rfl (Val.build (cs := [_, _, _, _]) (vs := [(_, _), (_, _), (_, _), (_, _)]) rfl rfl rfl) ?_
              refine TO.build1 (en := encL) (a := ⟨_, _, _, _⟩) rfl rfl rfl ⟨rfl, rfl⟩ ⟨_, rfl, rfl⟩ (by decide) (by decide) rfl rfl (fun v61 => ?_)
              refine TO.append_own (b := 32) (en := encL) (l := _) (l2 := _) (p := 2) (q := 0) rfl rfl rfl ⟨rfl, rfl, rfl, ⟨_, rfl, rfl⟩, by decide, by decide⟩ rfl rfl rfl rfl rfl rfl (en_ones encL_ones _) (by simp; omega) (fun v62 => ?_)
              refine TO.things (hs' := [_, _, _, _]) rfl ?_
              refine TO.val rfl rfl rfl (Val.assign rfl) ?_
              refine TO.nil ?_
              refine T.text rfl ?_
              refine TO.val rfl rfl rfl (Val.move rfl) ?_
              refine TO.val rfl rfl rfl (Val.add rfl rfl (by omega)) ?_
              refine TO.val rfl rfl rfl (Val.assign rfl) ?_
              refine TO.nil ?_
              refine ⟨_, _, (by omega), ⟨k + 1, _, _, _, rfl, (by first | omega | simp_all), (by first | omega | simp_all), (by rw [newLeaves_succ, ha2]; simp), (by simp; omega), rfl⟩, ⟨rfl, (keep_cons rfl (keep_cons rfl (keep_cons rfl (keep_cons rfl (keep_cons rfl (keep_cons rfl (keep_cons rfl keep_nil))))))), (.cons _ (.cons_cons _ (.cons_cons _ (.cons_cons _ .slnil))))⟩⟩
            | false =>
              replace hc53 := bfalse hc53
              have hk1 : k = (plusOf g.ch.l n).1.toNat := by omega
              refine T.condF (fun a ha => ha.ev (.tmp 53) _ rfl) ?_
              refine T.exit ?_
              refine T.text rfl ?_
              refine TO.val rfl rfl rfl (Val.move rfl) ?_
              refine TO.val rfl rfl rfl (Val.add rfl rfl (by omega)) ?_
              refine TO.val rfl rfl rfl (Val.assign rfl) ?_
              refine TO.nil ?_
              refine ⟨_, _, (by omega), ⟨n + 1, _, _, _, rfl, (by first | omega | simp_all), (by first | omega | simp_all), (by rw [range_flat_succ, numLeaves, ha2, ha1, hk1]; simp), (by omega), rfl⟩, ⟨rfl, (keep_cons rfl (keep_cons rfl (keep_cons rfl (keep_cons rfl (keep_cons rfl keep_nil))))), (.cons_cons _ (.cons_cons _ (.cons_cons _ .slnil)))⟩⟩
          | false =>
            replace hc45 := bfalse hc45
            refine T.condF (fun a ha => ha.ev (.tmp 45) _ rfl) ?_
            refine T.skip ?_
            refine T.text rfl ?_
            refine TO.val rfl rfl rfl (Val.move rfl) ?_
            refine TO.val rfl rfl rfl (Val.load_rows (p := 0) (c := [_, _, _, _]) rfl ⟨⟨_, rfl, rfl⟩, rfl, by decide⟩ rfl rfl rfl rfl) ?_
            refine TO.build1 (en := encL) (a := ⟨_, _, _, _⟩) rfl rfl rfl ⟨rfl, rfl⟩ ⟨_, rfl, rfl⟩ (by decide) (by decide) rfl rfl (fun v49 => ?_)
            refine TO.append_own (b := 32) (en := encL) (l := _) (l2 := _) (p := 3) (q := 0) rfl rfl rfl ⟨rfl, rfl, rfl, ⟨_, rfl, rfl⟩, by decide, by decide⟩ rfl rfl rfl rfl rfl rfl (en_ones encL_ones _) (by simp; omega) (fun v50 => ?_)
            refine TO.things (hs' := [_, _, _, _, _]) rfl ?_
            refine TO.val rfl rfl rfl (Val.assign rfl) ?_
            refine TO.nil ?_
            refine T.seq ?_
            refine T.text rfl ?_
            refine TO.val rfl rfl rfl (Val.assign rfl) ?_
            refine TO.nil ?_
            refine T.block ?_
            refine T.loop (fun μ s => ∃ k : Nat, ∃ j : Int, ∃ v : AV, ∃ ac2 : List Leaf, μ = (plusOf g.ch.l n).1.toNat - k ∧ j = k + 1 ∧ (k : Int) ≤ max 0 (plusOf g.ch.l n).1 ∧ ac2 = ac1 ++ ownLeaf i n g ++ newLeaves i n k ∧ ac2.length ≤ 65 * i + 5 * n + 1 + k ∧ s = ⟨[], [(1, .ptr b1 0 2), (3, v), (4, iv (i : Int)), (5, .ptr b5 0 4), (6, iv (n : Int)), (7, iv (plusOf g.ch.l n).1), (10, iv j)], [.row b5 4 [iv g.round, iv g.letter, iv g.leaves, g.ch.v], ownL true v encL ac2, .row b1 2 [iv b.signed, b.gs.v]]⟩) (k := _) (s' := _) ⟨0, _, _, _, rfl, (by first | rfl | omega | (simp; done) | (simp; omega) | simp_all), (by first | rfl | omega | (simp; done) | (simp; omega) | simp_all), (by simp_all [ownLeaf, newLeaves]), (by simp; omega), rfl⟩ ⟨rfl, (keep_cons rfl (keep_cons rfl (keep_cons rfl (keep_cons rfl (keep_cons rfl (keep_cons rfl (keep_cons rfl keep_nil))))))), (.cons _ (.cons _ (.cons_cons _ (.cons_cons _ (.cons_cons _ .slnil)))))⟩ ?_
            rintro μ _ ⟨k, j, v, ac2, hk2, hj, hk, ha2, hl2, rfl⟩
            subst hj
            refine T.seq ?_
            refine T.seq ?_
            refine T.text rfl ?_
            have hp := hgp n
            refine TO.val rfl rfl rfl (Val.move rfl) ?_
            refine TO.val rfl rfl rfl (Val.move rfl) ?_
            refine TO.leq rfl rfl rfl rfl rfl (fun c53 hc53 => ?_)
            refine TO.nil ?_
            cases c53 with
            | true =>
              replace hc53 := btrue hc53
              refine T.condT (fun a ha => ha.ev (.tmp 53) _ rfl) ?_
              refine T.skip ?_
              refine T.seq ?_
              refine T.block ?_
              refine T.text rfl ?_
              refine TO.val rfl rfl rfl (Val.move rfl) ?_
              refine TO.val rfl rfl rfl (Val.move rfl) ?_
              refine TO.val rfl rfl rfl (Val.move rfl) ?_
              refine TO.val rfl rfl rfl (Val.move rfl) ?_
              refine TO.val rfl rfl rfl (Val.build (cs := [_, _, _, _]) (vs := [(_, _), (_, _), (_, _), (_, _)]) rfl rfl rfl) ?_
              refine TO.build1 (en := encL) (a := ⟨_, _, _, _⟩) rfl rfl rfl ⟨rfl, rfl⟩ ⟨_, rfl, rfl⟩ (by decide) (by decide) rfl rfl (fun v61 => ?_)
              refine TO.append_own (b := 32) (en := encL) (l := _) (l2 := _) (p := 2) (q := 0) rfl rfl rfl ⟨rfl, rfl, rfl, ⟨_, rfl, rfl⟩, by decide, by decide⟩ rfl rfl rfl rfl rfl rfl (en_ones encL_ones _) (by simp; omega) (fun v62 => ?_)
              refine TO.things (hs' := [_, _, _, _]) rfl ?_
              refine TO.val rfl rfl rfl (Val.assign rfl) ?_
              refine TO.nil ?_
              refine T.text rfl ?_
              refine TO.val rfl rfl rfl (Val.move rfl) ?_
              refine TO.val rfl rfl rfl (Val.add rfl rfl (by omega)) ?_
              refine TO.val rfl rfl rfl (Val.assign rfl) ?_
              refine TO.nil ?_
              refine ⟨_, _, (by omega), ⟨k + 1, _, _, _, rfl, (by first | omega | simp_all), (by first | omega | simp_all), (by rw [newLeaves_succ, ha2]; simp), (by simp; omega), rfl⟩, ⟨rfl, (keep_cons rfl (keep_cons rfl (keep_cons rfl (keep_cons rfl (keep_cons rfl (keep_cons rfl (keep_cons rfl keep_nil))))))), (.cons _ (.cons_cons _ (.cons_cons _ (.cons_cons _ .slnil))))⟩⟩
            | false =>
              replace hc53 := bfalse hc53
              have hk1 : k = (plusOf g.ch.l n).1.toNat := by omega
              refine T.condF (fun a ha => ha.ev (.tmp 53) _ rfl) ?_
              refine T.exit ?_
              refine T.text rfl ?_
              refine TO.val rfl rfl rfl (Val.move rfl) ?_
              refine TO.val rfl rfl rfl (Val.add rfl rfl (by omega)) ?_
              refine TO.val rfl rfl rfl (Val.assign rfl) ?_
              refine TO.nil ?_
              refine ⟨_, _, (by omega), ⟨n + 1, _, _, _, rfl, (by first | omega | simp_all), (by first | omega | simp_all), (by rw [range_flat_succ, numLeaves, ha2, ha1, hk1]; simp), (by omega), rfl⟩, ⟨rfl, (keep_cons rfl (keep_cons rfl (keep_cons rfl (keep_cons rfl (keep_cons rfl keep_nil))))), (.cons_cons _ (.cons_cons _ (.cons_cons _ .slnil)))⟩⟩
        | false =>
          replace hc39 := bfalse hc39
          refine T.condF (fun a ha => ha.ev (.tmp 40) _ rfl) ?_
          refine T.skip ?_
          refine T.seq ?_
          refine T.text rfl ?_
          refine TO.val rfl rfl rfl (Val.assign rfl) ?_
          refine TO.nil ?_
          refine T.block ?_
          refine T.loop (fun μ s => ∃ k : Nat, ∃ j : Int, ∃ v : AV, ∃ ac2 : List Leaf, μ = (plusOf g.ch.l n).1.toNat - k ∧ j = k + 1 ∧ (k : Int) ≤ max 0 (plusOf g.ch.l n).1 ∧ ac2 = ac1 ++ ownLeaf i n g ++ newLeaves i n k ∧ ac2.length ≤ 65 * i + 5 * n + 1 + k ∧ s = ⟨[], [(1, .ptr b1 0 2), (3, v), (4, iv (i : Int)), (5, .ptr b5 0 4), (6, iv (n : Int)), (7, iv (plusOf g.ch.l n).1), (10, iv j)], [.row b5 4 [iv g.round, iv g.letter, iv g.leaves, g.ch.v], ownL true v encL ac2, .row b1 2 [iv b.signed, b.gs.v]]⟩) (k := _) (s' := _) ⟨0, _, _, _, rfl, (by first | rfl | omega | (simp; done) | (simp; omega) | simp_all), (by first | rfl | omega | (simp; done) | (simp; omega) | simp_all), (by simp_all [ownLeaf, newLeaves]), (by simp; omega), rfl⟩ ⟨rfl, (keep_cons rfl (keep_cons rfl (keep_cons rfl (keep_cons rfl (keep_cons rfl (keep_cons rfl (keep_cons rfl keep_nil))))))), (.cons_cons _ (.cons_cons _ (.cons_cons _ .slnil)))⟩ ?_
          rintro μ _ ⟨k, j, v, ac2, hk2, hj, hk, ha2, hl2, rfl⟩
          subst hj
          refine T.seq ?_
          refine T.seq ?_
          refine T.text rfl ?_
          have hp := hgp n
          refine TO.val rfl rfl rfl (Val.move rfl) ?_
          refine TO.val rfl rfl rfl (Val.move rfl) ?_
          refine TO.leq rfl rfl rfl rfl rfl (fun c53 hc53 => ?_)
          refine TO.nil ?_
          cases c53 with
          | true =>
            replace hc53 := btrue hc53
            refine T.condT (fun a ha => ha.ev (.tmp 53) _ rfl) ?_
            refine T.skip ?_
            refine T.seq ?_
            refine T.block ?_
            refine T.text rfl ?_
            refine TO.val rfl rfl rfl (Val.move rfl) ?_
            refine TO.val rfl rfl rfl (Val.move rfl) ?_
            refine TO.val rfl rfl rfl (Val.move rfl) ?_
            refine TO.val rfl rfl rfl (Val.move rfl) ?_
            refine TO.val rfl rfl rfl (Val.build (cs := [_, _, _, _]) (vs := [(_, _), (_, _), (_, _), (_, _)]) rfl rfl rfl) ?_
            refine TO.build1 (en := encL) (a := ⟨_, _, _, _⟩) rfl rfl rfl ⟨rfl, rfl⟩ ⟨_, rfl, rfl⟩ (by decide) (by decide) rfl rfl (fun v61 => ?_)
            refine TO.append_own (b := 32) (en := encL) (l := _) (l2 := _) (p := 2) (q := 0) rfl rfl rfl ⟨rfl, rfl, rfl, ⟨_, rfl, rfl⟩, by decide, by decide⟩ rfl rfl rfl rfl rfl rfl (en_ones encL_ones _) (by simp; omega) (fun v62 => ?_)
            refine TO.things (hs' := [_, _, _, _]) rfl ?_
            refine TO.val rfl rfl rfl (Val.assign rfl) ?_
            refine TO.nil ?_
            refine T.text rfl ?_
            refine TO.val rfl rfl rfl (Val.move rfl) ?_
            refine TO.val rfl rfl rfl (Val.add rfl rfl (by omega)) ?_
            refine TO.val rfl rfl rfl (Val.assign rfl) ?_
            refine TO.nil ?_
            refine ⟨_, _, (by omega), ⟨k + 1, _, _, _, rfl, (by first | omega | simp_all), (by first | omega | simp_all), (by rw [newLeaves_succ, ha2]; simp), (by simp; omega), rfl⟩, ⟨rfl, (keep_cons rfl (keep_cons rfl (keep_cons rfl (keep_cons rfl (keep_cons rfl (keep_cons rfl (keep_cons rfl keep_nil))))))), (.cons _ (.cons_cons _ (.cons_cons _ (.cons_cons _ .slnil))))⟩⟩
          | false =>
            replace hc53 := bfalse hc53
            have hk1 : k = (plusOf g.ch.l n).1.toNat := by omega
            refine T.condF (fun a ha => ha.ev (.tmp 53) _ rfl) ?_
            refine T.exit ?_
            refine T.text rfl ?_
            refine TO.val rfl rfl rfl (Val.move rfl) ?_
            refine TO.val rfl rfl rfl (Val.add rfl rfl (by omega)) ?_
            refine TO.val rfl rfl rfl (Val.assign rfl) ?_
            refine TO.nil ?_
            refine ⟨_, _, (by omega), ⟨n + 1, _, _, _, rfl, (by first | omega | simp_all), (by first | omega | simp_all), (by rw [range_flat_succ, numLeaves, ha2, ha1, hk1]; simp), (by omega), rfl⟩, ⟨rfl, (keep_cons rfl (keep_cons rfl (keep_cons rfl (keep_cons rfl (keep_cons rfl keep_nil))))), (.cons_cons _ (.cons_cons _ (.cons_cons _ .slnil)))⟩⟩
      | false =>
        replace hc36 := bfalse hc36
        refine TO.off rfl rfl rfl ?_
        refine TO.off rfl rfl rfl ?_
        refine TO.val rfl rfl rfl (Val.pick rfl rfl rfl) ?_
        refine TO.nil ?_
        refine T.condF (fun a ha => ha.ev (.tmp 40) _ rfl) ?_
        refine T.skip ?_
        refine T.seq ?_
        refine T.text rfl ?_
        refine TO.val rfl rfl rfl (Val.assign rfl) ?_
        refine TO.nil ?_
        refine T.block ?_
        refine T.loop (fun μ s => ∃ k : Nat, ∃ j : Int, ∃ v : AV, ∃ ac2 : List Leaf, μ = (plusOf g.ch.l n).1.toNat - k ∧ j = k + 1 ∧ (k : Int) ≤ max 0 (plusOf g.ch.l n).1 ∧ ac2 = ac1 ++ ownLeaf i n g ++ newLeaves i n k ∧ ac2.length ≤ 65 * i + 5 * n + 1 + k ∧ s = ⟨[], [(1, .ptr b1 0 2), (3, v), (4, iv (i : Int)), (5, .ptr b5 0 4), (6, iv (n : Int)), (7, iv (plusOf g.ch.l n).1), (10, iv j)], [.row b5 4 [iv g.round, iv g.letter, iv g.leaves, g.ch.v], ownL true v encL ac2, .row b1 2 [iv b.signed, b.gs.v]]⟩) (k := _) (s' := _) ⟨0, _, _, _, rfl, (by first | rfl | omega | (simp; done) | (simp; omega) | simp_all), (by first | rfl | omega | (simp; done) | (simp; omega) | simp_all), (by simp_all [ownLeaf, newLeaves]), (by simp; omega), rfl⟩ ⟨rfl, (keep_cons rfl (keep_cons rfl (keep_cons rfl (keep_cons rfl (keep_cons rfl (keep_cons rfl (keep_cons rfl keep_nil))))))), (.cons_cons _ (.cons_cons _ (.cons_cons _ .slnil)))⟩ ?_
        rintro μ _ ⟨k, j, v, ac2, hk2, hj, hk, ha2, hl2, rfl⟩
        subst hj
        refine T.seq ?_
        refine T.seq ?_
        refine T.text rfl ?_
        have hp := hgp n
        refine TO.val rfl rfl rfl (Val.move rfl) ?_
        refine TO.val rfl rfl rfl (Val.move rfl) ?_
        refine TO.leq rfl rfl rfl rfl rfl (fun c53 hc53 => ?_)
        refine TO.nil ?_
        cases c53 with
        | true =>
          replace hc53 := btrue hc53
          refine T.condT (fun a ha => ha.ev (.tmp 53) _ rfl) ?_
          refine T.skip ?_
          refine T.seq ?_
          refine T.block ?_
          refine T.text rfl ?_
          refine TO.val rfl rfl rfl (Val.move rfl) ?_
          refine TO.val rfl rfl rfl (Val.move rfl) ?_
          refine TO.val rfl rfl rfl (Val.move rfl) ?_
          refine TO.val rfl rfl rfl (Val.move rfl) ?_
          refine TO.val rfl rfl rfl (Val.build (cs := [_, _, _, _]) (vs := [(_, _), (_, _), (_, _), (_, _)]) rfl rfl rfl) ?_
          refine TO.build1 (en := encL) (a := ⟨_, _, _, _⟩) rfl rfl rfl ⟨rfl, rfl⟩ ⟨_, rfl, rfl⟩ (by decide) (by decide) rfl rfl (fun v61 => ?_)
          refine TO.append_own (b := 32) (en := encL) (l := _) (l2 := _) (p := 2) (q := 0) rfl rfl rfl ⟨rfl, rfl, rfl, ⟨_, rfl, rfl⟩, by decide, by decide⟩ rfl rfl rfl rfl rfl rfl (en_ones encL_ones _) (by simp; omega) (fun v62 => ?_)
          refine TO.things (hs' := [_, _, _, _]) rfl ?_
          refine TO.val rfl rfl rfl (Val.assign rfl) ?_
          refine TO.nil ?_
          refine T.text rfl ?_
          refine TO.val rfl rfl rfl (Val.move rfl) ?_
          refine TO.val rfl rfl rfl (Val.add rfl rfl (by omega)) ?_
          refine TO.val rfl rfl rfl (Val.assign rfl) ?_
          refine TO.nil ?_
          refine ⟨_, _, (by omega), ⟨k + 1, _, _, _, rfl, (by first | omega | simp_all), (by first | omega | simp_all), (by rw [newLeaves_succ, ha2]; simp), (by simp; omega), rfl⟩, ⟨rfl, (keep_cons rfl (keep_cons rfl (keep_cons rfl (keep_cons rfl (keep_cons rfl (keep_cons rfl (keep_cons rfl keep_nil))))))), (.cons _ (.cons_cons _ (.cons_cons _ (.cons_cons _ .slnil))))⟩⟩
        | false =>
          replace hc53 := bfalse hc53
          have hk1 : k = (plusOf g.ch.l n).1.toNat := by omega
          refine T.condF (fun a ha => ha.ev (.tmp 53) _ rfl) ?_
          refine T.exit ?_
          refine T.text rfl ?_
          refine TO.val rfl rfl rfl (Val.move rfl) ?_
          refine TO.val rfl rfl rfl (Val.add rfl rfl (by omega)) ?_
          refine TO.val rfl rfl rfl (Val.assign rfl) ?_
          refine TO.nil ?_
          refine ⟨_, _, (by omega), ⟨n + 1, _, _, _, rfl, (by first | omega | simp_all), (by first | omega | simp_all), (by rw [range_flat_succ, numLeaves, ha2, ha1, hk1]; simp), (by omega), rfl⟩, ⟨rfl, (keep_cons rfl (keep_cons rfl (keep_cons rfl (keep_cons rfl (keep_cons rfl keep_nil))))), (.cons_cons _ (.cons_cons _ (.cons_cons _ .slnil)))⟩⟩
    | false =>
      replace hc26 := bfalse hc26
      have hn1 : n = (g.leaves + 1).toNat := by omega
      refine T.condF (fun a ha => ha.ev (.tmp 26) _ rfl) ?_
      refine T.exit ?_
      refine T.text rfl ?_
      refine TO.val rfl rfl rfl (Val.move rfl) ?_
      refine TO.val rfl rfl rfl (Val.add rfl rfl (by omega)) ?_
      refine TO.val rfl rfl rfl (Val.assign rfl) ?_
      refine TO.nil ?_
      refine ⟨_, _, (by omega), ⟨i + 1, _, _, _, rfl, (by first | omega | simp_all), (by first | omega | simp_all), (by rw [take_snoc eg, leavesFrom_snoc, ha1, hacc, hn1, List.length_take, Nat.min_eq_left (by omega)]; simp [gatLeaves]), (by omega), rfl⟩, ⟨rfl, (keep_cons rfl (keep_cons rfl (keep_cons rfl keep_nil))), (.cons _ (.cons_cons _ (.cons_cons _ .slnil)))⟩⟩
  | false =>
    replace hc15 := bfalse hc15
    refine T.condF (fun a ha => ha.ev (.tmp 15) _ rfl) ?_
    refine T.exit ?_
    refine T.seq ?_
    refine T.text rfl ?_
    refine TO.val rfl rfl rfl (Val.move rfl) ?_
    refine TO.val rfl rfl rfl (Val.assign rfl) ?_
    refine TO.nil ?_
    refine T.ret ?_
    exact ⟨rfl, _, rfl, RefN.cast (.ownL (en := encL) (p := 0) rfl (.lits encL_lits)) (by rw [hacc, List.take_of_length_le (by omega)]; rfl)⟩
end Go.Am.Ythckcbfijdambaa
end
section
namespace Go.Am.Ythckcbfijdambaa
open Go.Am Go.RowKit
set_option linter.unusedVariables false
set_option linter.unusedSimpArgs false
theorem r1_Pair (b : Book) (n : Nat) (hf : Fits b) (hn : n < (leavesOf b).length) : Comes (EL 2) 22 [.agg (encB.f b), iv (n : Int)] (iv (pairNo b n)) := by
  have hll := leaves_len hf
  obtain ⟨x, hx⟩ : ∃ x, (leavesOf b)[n]? = some x := ⟨_, List.getElem?_eq_getElem hn⟩
  obtain ⟨g, hg, hg1, hg2, hx1, hx2⟩ := mem_leaves (List.mem_of_getElem? hx)
  have hgl := (hf.leaves g (List.mem_of_getElem? hg)).1
  refine Comes.of (TF.enter (fn := Go.Proofs.Try.f22) rfl rfl rfl rfl rfl ?_)
  refine T.seq ?_
  refine T.text rfl ?_
  refine TO.box (k := 2) (cells := [_, _]) rfl rfl rfl rfl rfl rfl rfl (fun b2 => ?_)
  refine TO.val rfl rfl rfl (Val.assign rfl) ?_
  refine TO.nil ?_
  refine T.seq ?_
  refine T.text rfl ?_
  refine TO.val rfl rfl rfl (Val.load_rows (p := 0) (c := [_, _]) rfl ⟨⟨_, rfl, rfl⟩, rfl, by decide⟩ rfl rfl rfl rfl) ?_
  refine TO.call rfl rfl rfl rfl rfl (orcL rfl (by first | decide | omega)) (.cons (.agg (.cons .lit (.cons .gs .nil))) .nil) (sem_of (r1_All b (by exact hf))) ?_
  refine TO.val rfl rfl rfl (Val.assign rfl) ?_
  refine TO.nil ?_
  refine T.seq ?_
  refine T.text rfl ?_
  refine TO.val rfl rfl rfl (Val.move rfl) ?_
  refine TO.val rfl rfl rfl (Val.move rfl) ?_
  refine TO.index_gso rfl rfl rfl ⟨rfl, rfl⟩ rfl rfl (by omega) (fun a12 ra12 ea12 => ?_)
  try simp only [Int.toNat_natCast] at ea12
  have e12 := Option.some.inj (hx.symm.trans ea12)
  subst e12
  refine TO.val rfl rfl rfl (Val.load_trees (c := _) ⟨⟨_, rfl, rfl⟩, rfl, by decide⟩ rfl rfl) ?_
  refine TO.alloc (k := 4) (cells := [_, _, _, _]) rfl rfl rfl rfl rfl rfl rfl (fun b6 => ?_)
  refine TO.store_row (p := 0) (cv := [_, _, _, _]) (cells' := [_, _, _, _]) rfl rfl rfl rfl rfl rfl rfl rfl rfl rfl (by first | rfl | simp [GS.one]) (by decide) rfl ?_
  refine TO.things (hs' := [_, _]) rfl ?_
  refine TO.nil ?_
  refine T.seq ?_
  refine T.seq ?_
  refine T.text rfl ?_
  refine TO.val rfl rfl rfl (Val.faddr_ptr (fo := 3) rfl rfl rfl) ?_
  refine TO.val rfl rfl rfl (Val.load_row (p := 0) rfl ⟨_, rfl, rfl⟩ rfl rfl rfl) ?_
  refine TO.neq rfl rfl rfl rfl rfl (fun c16 hc16 => ?_)
  refine TO.nil ?_
  cases c16 with
  | true =>
    replace hc16 := btrue hc16
    refine T.condT (fun a ha => ha.ev (.tmp 16) _ rfl) ?_
    refine T.seq ?_
    refine T.text rfl ?_
    refine TO.val rfl rfl rfl (Val.assign rfl) ?_
    refine TO.nil ?_
    refine T.ret ?_
    exact ⟨rfl, _, rfl, RefN.cast .lit (by simp only [pairNo, hx]; rw [if_pos hc16])⟩
  | false =>
    replace hc16 := bfalse hc16
    have hp : pairNo b n = pairFrom g.leaves x n 0 (leavesOf b) := by simp only [pairNo, hx, hg]; rw [if_neg hc16]
    refine T.condF (fun a ha => ha.ev (.tmp 16) _ rfl) ?_
    refine T.skip ?_
    refine T.seq ?_
    refine T.seq ?_
    refine T.text rfl ?_
    refine TO.val rfl rfl rfl (Val.assign rfl) ?_
    refine TO.nil ?_
    refine T.block ?_
    refine T.loop (fun μ s => ∃ i : Nat, ∃ j : Int, μ = (leavesOf b).length - i ∧ j = i ∧ i ≤ (leavesOf b).length ∧ pairFrom g.leaves x n 0 (leavesOf b) = pairFrom g.leaves x n i ((leavesOf b).drop i) ∧ s = ⟨[], [(1, iv (n : Int)), (2, .ptr b2 0 2), (5, (GSo true encL (leavesOf b)).v), (6, .ptr b6 0 4), (7, iv j)], [.row b6 4 [iv x.g, iv x.num, iv x.plus, iv x.kind], .row b2 2 [iv b.signed, b.gs.v]]⟩) (k := _) (s' := _) ⟨0, 0, rfl, (by first | rfl | omega | (simp; done) | (simp; omega) | simp_all), (by first | rfl | omega | (simp; done) | (simp; omega) | simp_all), (by first | rfl | omega | (simp; done) | (simp; omega) | simp_all), rfl⟩ ⟨rfl, (keep_cons rfl (keep_cons rfl (keep_cons rfl (keep_cons rfl (keep_cons rfl keep_nil))))), (.cons_cons _ (.cons_cons _ .slnil))⟩ ?_
    rintro μ _ ⟨i, j, hk0, hj, hi, he, rfl⟩
    subst hj
    refine T.seq ?_
    refine T.seq ?_
    refine T.text rfl ?_
    refine TO.val rfl rfl rfl (Val.move rfl) ?_
    refine TO.val rfl rfl rfl (Val.move rfl) ?_
    refine TO.val rfl rfl rfl (Val.len_gso rfl rfl) ?_
    refine TO.lss rfl rfl rfl rfl rfl (fun c20 hc20 => ?_)
    refine TO.nil ?_
    cases c20 with
    | true =>
      replace hc20 := btrue hc20
      refine T.condT (fun a ha => ha.ev (.tmp 20) _ rfl) ?_
      refine T.skip ?_
      refine T.seq ?_
      refine T.block ?_
      refine T.seq ?_
      refine T.draw (fun v => sameC_refl v) (l1 := [0, 1, 2, 3, 4, 5, 6, 7, 8, 9, 10, 11, 12, 13, 14, 15, 16, 17, 18, 19, 20, 21, 22, 23, 24, 25, 26, 27, 28, 29, 30, 31, 32, 33, 34, 35, 36, 37, 38, 39]) (l2 := []) (by kernel_rfl) (by kernel_rfl) ?_
      refine TO.val rfl rfl rfl (Val.move rfl) ?_
      refine TO.val rfl rfl rfl (Val.move rfl) ?_
      refine TO.neq rfl rfl rfl rfl rfl (fun c25 hc25 => ?_)
      refine TO.val rfl rfl rfl (Val.move rfl) ?_
      cases c25 with
      | true =>
        replace hc25 := btrue hc25
        refine TO.val rfl rfl rfl (Val.move rfl) ?_
        refine TO.val rfl rfl rfl (Val.move rfl) ?_
        refine TO.index_gso rfl rfl rfl ⟨rfl, rfl⟩ rfl rfl (by omega) (fun a29 ra29 ea29 => ?_)
        try simp only [Int.toNat_natCast] at ea29
        obtain ⟨gy, hgy, hy1, hy2, hy3, hy4⟩ := mem_leaves (List.mem_of_getElem? ea29)
        have hgyl := (hf.leaves gy (List.mem_of_getElem? hgy)).1
        refine TO.val rfl rfl rfl (Val.faddr_tree (fo := 0) rfl rfl rfl rfl) ?_
        refine TO.val rfl rfl rfl (Val.load_tree ⟨_, rfl, rfl⟩ rfl) ?_
        refine TO.val rfl rfl rfl (Val.faddr_ptr (fo := 0) rfl rfl rfl) ?_
        refine TO.val rfl rfl rfl (Val.load_row (p := 0) rfl ⟨_, rfl, rfl⟩ rfl rfl rfl) ?_
        refine TO.eql rfl rfl rfl rfl rfl (fun c34 hc34 => ?_)
        refine TO.val rfl rfl rfl (Val.pick rfl rfl rfl) ?_
        refine TO.val rfl rfl rfl (Val.move rfl) ?_
        cases c34 with
        | true =>
          replace hc34 := btrue hc34
          refine TO.val rfl rfl rfl (Val.move rfl) ?_
          refine TO.val rfl rfl rfl (Val.move rfl) ?_
          refine TO.index_gso rfl rfl rfl ⟨rfl, rfl⟩ rfl rfl (by omega) (fun a39 ra39 ea39 => ?_)
          try simp only [Int.toNat_natCast] at ea39
          have e39 := Option.some.inj (ea29.symm.trans ea39)
          subst e39
          refine TO.val rfl rfl rfl (Val.faddr_tree (fo := 3) rfl rfl rfl rfl) ?_
          refine TO.val rfl rfl rfl (Val.load_tree ⟨_, rfl, rfl⟩ rfl) ?_
          refine TO.eql rfl rfl rfl rfl rfl (fun c42 hc42 => ?_)
          refine TO.val rfl rfl rfl (Val.pick rfl rfl rfl) ?_
          refine TO.val rfl rfl rfl (Val.move rfl) ?_
          cases c42 with
          | true =>
            replace hc42 := btrue hc42
            refine TO.val rfl rfl rfl (Val.move rfl) ?_
            refine TO.val rfl rfl rfl (Val.move rfl) ?_
            refine TO.index_gso rfl rfl rfl ⟨rfl, rfl⟩ rfl rfl (by omega) (fun a47 ra47 ea47 => ?_)
            try simp only [Int.toNat_natCast] at ea47
            have e47 := Option.some.inj (ea29.symm.trans ea47)
            subst e47
            refine TO.val rfl rfl rfl (Val.faddr_tree (fo := 1) rfl rfl rfl rfl) ?_
            refine TO.val rfl rfl rfl (Val.load_tree ⟨_, rfl, rfl⟩ rfl) ?_
            refine TO.val rfl rfl rfl (Val.faddr_ptr (fo := 1) rfl rfl rfl) ?_
            refine TO.val rfl rfl rfl (Val.load_row (p := 0) rfl ⟨_, rfl, rfl⟩ rfl rfl rfl) ?_
            refine TO.val rfl rfl rfl (Val.add rfl rfl (by omega)) ?_
            refine TO.val rfl rfl rfl (Val.faddr_ptr (fo := 1) rfl rfl rfl) ?_
            refine TO.val rfl rfl rfl (Val.load_row (p := 1) rfl ⟨_, rfl, rfl⟩ rfl rfl rfl) ?_
            refine TO.val rfl rfl rfl (Val.faddr_ptr (fo := 0) rfl rfl rfl) ?_
            refine TO.val rfl rfl rfl (Val.load_row (p := 0) rfl ⟨_, rfl, rfl⟩ rfl rfl rfl) ?_
            refine TO.index_gs rfl rfl rfl ⟨rfl, rfl⟩ rfl rfl (by omega) (fun a57 ra57 ea57 => ?_)
            try simp only [Int.toNat_natCast] at ea57
            have e57 := Option.some.inj (hg.symm.trans ea57)
            subst e57
            refine TO.val rfl rfl rfl (Val.faddr_tree (fo := 2) rfl rfl rfl rfl) ?_
            refine TO.val rfl rfl rfl (Val.load_tree ⟨_, rfl, rfl⟩ rfl) ?_
            refine TO.val rfl rfl rfl (Val.add rfl rfl (by omega)) ?_
            refine TO.eql rfl rfl rfl rfl rfl (fun c61 hc61 => ?_)
            refine TO.val rfl rfl rfl (Val.pick rfl rfl rfl) ?_
            refine TO.nil ?_
            cases c61 with
            | true =>
              replace hc61 := btrue hc61
              refine T.condT (fun a ha => ha.ev (.tmp 62) _ rfl) ?_
              refine T.seq ?_
              refine T.text rfl ?_
              refine TO.val rfl rfl rfl (Val.move rfl) ?_
              refine TO.val rfl rfl rfl (Val.assign rfl) ?_
              refine TO.nil ?_
              refine T.ret ?_
              exact ⟨rfl, _, rfl, RefN.cast .lit (by rw [hp, he, drop_cons ea29, pairFrom, if_pos (by refine ⟨by omega, ?_⟩; simp_all)])⟩
            | false =>
              replace hc61 := bfalse hc61
              refine T.condF (fun a ha => ha.ev (.tmp 62) _ rfl) ?_
              refine T.skip ?_
              refine T.text rfl ?_
              refine TO.val rfl rfl rfl (Val.move rfl) ?_
              refine TO.val rfl rfl rfl (Val.add rfl rfl (by omega)) ?_
              refine TO.val rfl rfl rfl (Val.assign rfl) ?_
              refine TO.nil ?_
              refine ⟨_, _, (by omega), ⟨i + 1, _, rfl, (by first | omega | simp_all), (by first | omega | simp_all), (by obtain ⟨y, hy⟩ : ∃ y, (leavesOf b)[i]? = some y := ⟨_, List.getElem?_eq_getElem (by omega)⟩; rw [he, drop_cons hy, pairFrom, if_neg (by rintro ⟨q1, q2, q3, q4⟩; first | omega | (simp_all; done) | (simp_all; omega))]), rfl⟩, ⟨rfl, (keep_cons rfl (keep_cons rfl (keep_cons rfl (keep_cons rfl (keep_cons rfl keep_nil))))), (.cons_cons _ (.cons_cons _ .slnil))⟩⟩
          | false =>
            replace hc42 := bfalse hc42
            refine TO.off rfl rfl rfl ?_
            refine TO.off rfl rfl rfl ?_
            refine TO.off rfl rfl rfl ?_
            refine TO.off rfl rfl rfl ?_
            refine TO.off rfl rfl rfl ?_
            refine TO.off rfl rfl rfl ?_
            refine TO.off rfl rfl rfl ?_
            refine TO.off rfl rfl rfl ?_
            refine TO.off rfl rfl rfl ?_
            refine TO.off rfl rfl rfl ?_
            refine TO.off rfl rfl rfl ?_
            refine TO.off rfl rfl rfl ?_
            refine TO.off rfl rfl rfl ?_
            refine TO.off rfl rfl rfl ?_
            refine TO.off rfl rfl rfl ?_
            refine TO.off rfl rfl rfl ?_
            refine TO.off rfl rfl rfl ?_
            refine TO.val rfl rfl rfl (Val.pick rfl rfl rfl) ?_
            refine TO.nil ?_
            refine T.condF (fun a ha => ha.ev (.tmp 62) _ rfl) ?_
            refine T.skip ?_
            refine T.text rfl ?_
            refine TO.val rfl rfl rfl (Val.move rfl) ?_
            refine TO.val rfl rfl rfl (Val.add rfl rfl (by omega)) ?_
            refine TO.val rfl rfl rfl (Val.assign rfl) ?_
            refine TO.nil ?_
            refine ⟨_, _, (by omega), ⟨i + 1, _, rfl, (by first | omega | simp_all), (by first | omega | simp_all), (by obtain ⟨y, hy⟩ : ∃ y, (leavesOf b)[i]? = some y := ⟨_, List.getElem?_eq_getElem (by omega)⟩; rw [he, drop_cons hy, pairFrom, if_neg (by rintro ⟨q1, q2, q3, q4⟩; first | omega | (simp_all; done) | (simp_all; omega))]), rfl⟩, ⟨rfl, (keep_cons rfl (keep_cons rfl (keep_cons rfl (keep_cons rfl (keep_cons rfl keep_nil))))), (.cons_cons _ (.cons_cons _ .slnil))⟩⟩
        | false =>
          replace hc34 := bfalse hc34
          refine TO.off rfl rfl rfl ?_
          refine TO.off rfl rfl rfl ?_
          refine TO.off rfl rfl rfl ?_
          refine TO.off rfl rfl rfl ?_
          refine TO.off rfl rfl rfl ?_
          refine TO.off rfl rfl rfl ?_
          refine TO.val rfl rfl rfl (Val.pick rfl rfl rfl) ?_
          refine TO.val rfl rfl rfl (Val.move rfl) ?_
          refine TO.off rfl rfl rfl ?_
          refine TO.off rfl rfl rfl ?_
          refine TO.off rfl rfl rfl ?_
          refine TO.off rfl rfl rfl ?_
          refine TO.off rfl rfl rfl ?_
          refine TO.off rfl rfl rfl ?_
          refine TO.off rfl rfl rfl ?_
          refine TO.off rfl rfl rfl ?_
          refine TO.off rfl rfl rfl ?_
          refine TO.off rfl rfl rfl ?_
          refine TO.off rfl rfl rfl ?_
          refine TO.off rfl rfl rfl ?_
          refine TO.off rfl rfl rfl ?_
          refine TO.off rfl rfl rfl ?_
          refine TO.off rfl rfl rfl ?_
          refine TO.off rfl rfl rfl ?_
          refine TO.off rfl rfl rfl ?_
          refine TO.val rfl rfl rfl (Val.pick rfl rfl rfl) ?_
          refine TO.nil ?_
          refine T.condF (fun a ha => ha.ev (.tmp 62) _ rfl) ?_
          refine T.skip ?_
          refine T.text rfl ?_
          refine TO.val rfl rfl rfl (Val.move rfl) ?_
          refine TO.val rfl rfl rfl (Val.add rfl rfl (by omega)) ?_
          refine TO.val rfl rfl rfl (Val.assign rfl) ?_
          refine TO.nil ?_
          refine ⟨_, _, (by omega), ⟨i + 1, _, rfl, (by first | omega | simp_all), (by first | omega | simp_all), (by obtain ⟨y, hy⟩ : ∃ y, (leavesOf b)[i]? = some y := ⟨_, List.getElem?_eq_getElem (by omega)⟩; rw [he, drop_cons hy, pairFrom, if_neg (by rintro ⟨q1, q2, q3, q4⟩; first | omega | (simp_all; done) | (simp_all; omega))]), rfl⟩, ⟨rfl, (keep_cons rfl (keep_cons rfl (keep_cons rfl (keep_cons rfl (keep_cons rfl keep_nil))))), (.cons_cons _ (.cons_cons _ .slnil))⟩⟩
      | false =>
        replace hc25 := bfalse hc25
        refine TO.off rfl rfl rfl ?_
        refine TO.off rfl rfl rfl ?_
        refine TO.off rfl rfl rfl ?_
        refine TO.off rfl rfl rfl ?_
        refine TO.off rfl rfl rfl ?_
        refine TO.off rfl rfl rfl ?_
        refine TO.off rfl rfl rfl ?_
        refine TO.off rfl rfl rfl ?_
        refine TO.val rfl rfl rfl (Val.pick rfl rfl rfl) ?_
        refine TO.val rfl rfl rfl (Val.move rfl) ?_
        refine TO.off rfl rfl rfl ?_
        refine TO.off rfl rfl rfl ?_
        refine TO.off rfl rfl rfl ?_
        refine TO.off rfl rfl rfl ?_
        refine TO.off rfl rfl rfl ?_
        refine TO.off rfl rfl rfl ?_
        refine TO.val rfl rfl rfl (Val.pick rfl rfl rfl) ?_
        refine TO.val rfl rfl rfl (Val.move rfl) ?_
        refine TO.off rfl rfl rfl ?_
        refine TO.off rfl rfl rfl ?_
        refine TO.off rfl rfl rfl ?_
        refine TO.off rfl rfl rfl ?_
        refine TO.off rfl rfl rfl ?_
        refine TO.off rfl rfl rfl ?_
        refine TO.off rfl rfl rfl ?_
        refine TO.off rfl rfl rfl ?_
        refine TO.off rfl rfl rfl ?_
        refine TO.off rfl rfl rfl ?_
        refine TO.off rfl rfl rfl ?_
        refine TO.off rfl rfl rfl ?_
        refine TO.off rfl rfl rfl ?_
        refine TO.off rfl rfl rfl ?_
        refine TO.off rfl rfl rfl ?_
        refine TO.off rfl rfl rfl ?_
        refine TO.off rfl rfl rfl ?_
        refine TO.val rfl rfl rfl (Val.pick rfl rfl rfl) ?_
        refine TO.nil ?_
        refine T.condF (fun a ha => ha.ev (.tmp 62) _ rfl) ?_
        refine T.skip ?_
        refine T.text rfl ?_
        refine TO.val rfl rfl rfl (Val.move rfl) ?_
        refine TO.val rfl rfl rfl (Val.add rfl rfl (by omega)) ?_
        refine TO.val rfl rfl rfl (Val.assign rfl) ?_
        refine TO.nil ?_
        refine ⟨_, _, (by omega), ⟨i + 1, _, rfl, (by first | omega | simp_all), (by first | omega | simp_all), (by obtain ⟨y, hy⟩ : ∃ y, (leavesOf b)[i]? = some y := ⟨_, List.getElem?_eq_getElem (by omega)⟩; rw [he, drop_cons hy, pairFrom, if_neg (by rintro ⟨q1, q2, q3, q4⟩; first | omega | (simp_all; done) | (simp_all; omega))]), rfl⟩, ⟨rfl, (keep_cons rfl (keep_cons rfl (keep_cons rfl (keep_cons rfl (keep_cons rfl keep_nil))))), (.cons_cons _ (.cons_cons _ .slnil))⟩⟩
    | false =>
      replace hc20 := bfalse hc20
      refine T.condF (fun a ha => ha.ev (.tmp 20) _ rfl) ?_
      refine T.exit ?_
      refine T.seq ?_
      refine T.text rfl ?_
      refine TO.val rfl rfl rfl (Val.assign rfl) ?_
      refine TO.nil ?_
      refine T.ret ?_
      exact ⟨rfl, _, rfl, RefN.cast .lit (by rw [hp, he, List.drop_eq_nil_of_le (by omega), pairFrom])⟩
theorem r1_Has (x : GS encI) (n : Int) (hb : x.l.length < 4611686018427387904) : Comes (EL 0) 31 [x.v, iv n] (bv (decide (n ∈ x.l))) := by
  refine Comes.of (TF.enter (fn := Go.Proofs.Try.f31) rfl rfl rfl rfl rfl ?_)
  refine T.seq ?_
  refine T.text rfl ?_
  refine TO.val rfl rfl rfl (Val.assign rfl) ?_
  refine TO.nil ?_
  refine T.seq ?_
  refine T.seq ?_
  refine T.text rfl ?_
  refine TO.val rfl rfl rfl (Val.assign rfl) ?_
  refine TO.nil ?_
  refine T.block ?_
  refine T.loop (fun μ s => ∃ i : Nat, ∃ j : Int, μ = x.l.length - i ∧ j = i ∧ i ≤ x.l.length ∧ n ∉ x.l.take i ∧ s = ⟨[], [(0, x.v), (1, iv n), (5, iv j)], []⟩) (k := _) (s' := _) ⟨0, 0, rfl, (by first | rfl | omega | (simp; done) | (simp; omega) | simp_all), (by first | rfl | omega | (simp; done) | (simp; omega) | simp_all), (by first | rfl | omega | (simp; done) | (simp; omega) | simp_all), rfl⟩ ⟨rfl, (keep_cons rfl (keep_cons rfl (keep_cons rfl keep_nil))), .slnil⟩ ?_
  rintro μ _ ⟨i, j, hk0, hj, hi, hc, rfl⟩
  subst hj
  refine T.seq ?_
  refine T.seq ?_
  refine T.text rfl ?_
  refine TO.val rfl rfl rfl (Val.move rfl) ?_
  refine TO.val rfl rfl rfl (Val.move rfl) ?_
  refine TO.val rfl rfl rfl (Val.len_gs rfl rfl) ?_
  refine TO.lss rfl rfl rfl rfl rfl (fun c9 hc9 => ?_)
  refine TO.nil ?_
  cases c9 with
  | true =>
    replace hc9 := btrue hc9
    refine T.condT (fun a ha => ha.ev (.tmp 9) _ rfl) ?_
    refine T.skip ?_
    refine T.seq ?_
    refine T.block ?_
    refine T.seq ?_
    refine T.text rfl ?_
    refine TO.val rfl rfl rfl (Val.move rfl) ?_
    refine TO.val rfl rfl rfl (Val.move rfl) ?_
    refine TO.index_gs rfl rfl rfl ⟨rfl, rfl⟩ rfl rfl (by omega) (fun a14 ra14 ea14 => ?_)
    try simp only [Int.toNat_natCast] at ea14
    refine TO.val rfl rfl rfl (Val.load_tree ⟨_, rfl, rfl⟩ rfl) ?_
    refine TO.val rfl rfl rfl (Val.move rfl) ?_
    refine TO.eql rfl rfl rfl rfl rfl (fun c17 hc17 => ?_)
    refine TO.nil ?_
    cases c17 with
    | true =>
      replace hc17 := btrue hc17
      refine T.condT (fun a ha => ha.ev (.tmp 17) _ rfl) ?_
      refine T.seq ?_
      refine T.text rfl ?_
      refine TO.val rfl rfl rfl (Val.assign rfl) ?_
      refine TO.nil ?_
      refine T.ret ?_
      exact ⟨rfl, _, rfl, RefN.cast .lit (bv_t (by rw [← hc17]; exact List.mem_of_getElem? ea14))⟩
    | false =>
      replace hc17 := bfalse hc17
      refine T.condF (fun a ha => ha.ev (.tmp 17) _ rfl) ?_
      refine T.skip ?_
      refine T.text rfl ?_
      refine TO.val rfl rfl rfl (Val.move rfl) ?_
      refine TO.val rfl rfl rfl (Val.add rfl rfl (by omega)) ?_
      refine TO.val rfl rfl rfl (Val.assign rfl) ?_
      refine TO.nil ?_
      refine ⟨_, _, (by omega), ⟨i + 1, _, rfl, (by first | omega | simp_all), (by first | omega | simp_all), (by rw [take_snoc ea14]; simp_all; exact fun e => hc17 e.symm), rfl⟩, ⟨rfl, (keep_cons rfl (keep_cons rfl (keep_cons rfl keep_nil))), .slnil⟩⟩
  | false =>
    replace hc9 := bfalse hc9
    refine T.condF (fun a ha => ha.ev (.tmp 9) _ rfl) ?_
    refine T.exit ?_
    refine T.seq ?_
    refine T.text rfl ?_
    refine TO.val rfl rfl rfl (Val.assign rfl) ?_
    refine TO.nil ?_
    refine T.ret ?_
    exact ⟨rfl, _, rfl, RefN.cast .lit (bv_f (by rw [List.take_of_length_le (by omega)] at hc; exact hc))⟩
theorem r1_Ints (x : GS encI) (y : GS encI) (hb : x.l.length < 4611686018427387904) : Comes (EL 0) 13 [x.v, y.v] (bv (decide (x.l = y.l))) := by
  refine Comes.of (TF.enter (fn := Go.Proofs.Try.f13) rfl rfl rfl rfl rfl ?_)
  refine T.seq ?_
  refine T.text rfl ?_
  refine TO.val rfl rfl rfl (Val.assign rfl) ?_
  refine TO.nil ?_
  refine T.seq ?_
  refine T.text rfl ?_
  refine TO.val rfl rfl rfl (Val.move rfl) ?_
  refine TO.val rfl rfl rfl (Val.len_gs rfl rfl) ?_
  refine TO.val rfl rfl rfl (Val.move rfl) ?_
  refine TO.val rfl rfl rfl (Val.len_gs rfl rfl) ?_
  refine TO.eql rfl rfl rfl rfl rfl (fun c11 hc11 => ?_)
  refine TO.val rfl rfl rfl (Val.assign rfl) ?_
  refine TO.nil ?_
  refine T.seq ?_
  refine T.seq ?_
  refine T.text rfl ?_
  refine TO.val rfl rfl rfl (Val.assign rfl) ?_
  refine TO.nil ?_
  refine T.block ?_
  refine T.loop (fun μ s => ∃ i : Nat, ∃ j : Int, ∃ c : Bool, μ = x.l.length - i ∧ j = i ∧ i ≤ x.l.length ∧ (c = true ↔ (x.l.length = y.l.length ∧ x.l.take i = y.l.take i)) ∧ s = ⟨[], [(0, x.v), (1, y.v), (5, bv c), (6, iv j)], []⟩) (k := _) (s' := _) ⟨0, 0, _, rfl, (by first | rfl | omega | (simp; done) | (simp; omega) | simp_all), (by first | rfl | omega | (simp; done) | (simp; omega) | simp_all), (by rw [hc11]; simp; omega), rfl⟩ ⟨rfl, (keep_cons rfl (keep_cons rfl (keep_cons rfl (keep_cons rfl keep_nil)))), .slnil⟩ ?_
  rintro μ _ ⟨i, j, c, hk0, hj, hi, hc, rfl⟩
  subst hj
  refine T.seq ?_
  refine T.seq ?_
  refine T.text rfl ?_
  refine TO.val rfl rfl rfl (Val.move rfl) ?_
  refine TO.val rfl rfl rfl (Val.move rfl) ?_
  cases c with
  | true =>
    replace hc := btrue hc
    refine TO.val rfl rfl rfl (Val.move rfl) ?_
    refine TO.val rfl rfl rfl (Val.move rfl) ?_
    refine TO.val rfl rfl rfl (Val.len_gs rfl rfl) ?_
    refine TO.lss rfl rfl rfl rfl rfl (fun c17 hc17 => ?_)
    refine TO.val rfl rfl rfl (Val.pick rfl rfl rfl) ?_
    refine TO.nil ?_
    cases c17 with
    | true =>
      replace hc17 := btrue hc17
      refine T.condT (fun a ha => ha.ev (.tmp 18) _ rfl) ?_
      refine T.skip ?_
      refine T.seq ?_
      refine T.block ?_
      refine T.draw (fun v => sameC_refl v) (l1 := [0, 1, 2, 3, 4, 5, 6, 7, 8, 9]) (l2 := []) (by kernel_rfl) (by kernel_rfl) ?_
      refine TO.val rfl rfl rfl (Val.move rfl) ?_
      refine TO.val rfl rfl rfl (Val.move rfl) ?_
      refine TO.index_gs rfl rfl rfl ⟨rfl, rfl⟩ rfl rfl (by omega) (fun a23 ra23 ea23 => ?_)
      try simp only [Int.toNat_natCast] at ea23
      refine TO.val rfl rfl rfl (Val.load_tree ⟨_, rfl, rfl⟩ rfl) ?_
      refine TO.val rfl rfl rfl (Val.move rfl) ?_
      refine TO.val rfl rfl rfl (Val.move rfl) ?_
      refine TO.index_gs rfl rfl rfl ⟨rfl, rfl⟩ rfl rfl (by omega) (fun a27 ra27 ea27 => ?_)
      try simp only [Int.toNat_natCast] at ea27
      refine TO.val rfl rfl rfl (Val.load_tree ⟨_, rfl, rfl⟩ rfl) ?_
      refine TO.eql rfl rfl rfl rfl rfl (fun c29 hc29 => ?_)
      refine TO.val rfl rfl rfl (Val.assign rfl) ?_
      refine TO.nil ?_
      refine T.text rfl ?_
      refine TO.val rfl rfl rfl (Val.move rfl) ?_
      refine TO.val rfl rfl rfl (Val.add rfl rfl (by omega)) ?_
      refine TO.val rfl rfl rfl (Val.assign rfl) ?_
      refine TO.nil ?_
      refine ⟨_, _, (by omega), ⟨i + 1, _, _, rfl, (by first | omega | simp_all), (by first | omega | simp_all), (by exact ints_step hc ea23 ea27 hc29), rfl⟩, ⟨rfl, (keep_cons rfl (keep_cons rfl (keep_cons rfl (keep_cons rfl keep_nil)))), .slnil⟩⟩
    | false =>
      replace hc17 := bfalse hc17
      refine T.condF (fun a ha => ha.ev (.tmp 18) _ rfl) ?_
      refine T.exit ?_
      refine T.seq ?_
      refine T.text rfl ?_
      refine TO.val rfl rfl rfl (Val.move rfl) ?_
      refine TO.val rfl rfl rfl (Val.assign rfl) ?_
      refine TO.nil ?_
      refine T.ret ?_
      exact ⟨rfl, _, rfl, RefN.cast .lit (bv_t (by first | (rw [List.take_of_length_le (by omega), List.take_of_length_le (by omega)] at hc; exact hc.2) | exact fun h => hc ⟨by rw [h], by rw [h]⟩))⟩
  | false =>
    replace hc := bfalse hc
    refine TO.off rfl rfl rfl ?_
    refine TO.off rfl rfl rfl ?_
    refine TO.off rfl rfl rfl ?_
    refine TO.off rfl rfl rfl ?_
    refine TO.val rfl rfl rfl (Val.pick rfl rfl rfl) ?_
    refine TO.nil ?_
    refine T.condF (fun a ha => ha.ev (.tmp 18) _ rfl) ?_
    refine T.exit ?_
    refine T.seq ?_
    refine T.text rfl ?_
    refine TO.val rfl rfl rfl (Val.move rfl) ?_
    refine TO.val rfl rfl rfl (Val.assign rfl) ?_
    refine TO.nil ?_
    refine T.ret ?_
    exact ⟨rfl, _, rfl, RefN.cast .lit (bv_f (by first | (rw [List.take_of_length_le (by omega), List.take_of_length_le (by omega)] at hc; exact hc.2) | exact fun h => hc ⟨by rw [h], by rw [h]⟩))⟩
end Go.Am.Ythckcbfijdambaa
end
section
namespace Go.Am.Ythckcbfijdambaa
open Go.Am Go.RowKit
set_option linter.unusedVariables false
set_option linter.unusedSimpArgs false
theorem flat_pre {α β : Type} {f : α → List β} {l : List α} {c : Nat} {a : α} (h : l[c]? = some a) : (l.take c).flatMap f ++ f a <+: l.flatMap f := by
  have e : l = l.take c ++ a :: l.drop (c + 1) := by rw [← drop_cons h, List.take_append_drop]
  refine ⟨(l.drop (c + 1)).flatMap f, ?_⟩
  conv => rhs; rw [e]
  rw [List.flatMap_append, List.flatMap_cons, List.append_assoc]
def Visit (k l : Nat) (vt : AV) (n : Nat) (all : List (List Int)) (B : List Int → List Thing) (Y Z : List (List Int) → List Thing → Prop) : Prop :=
  ∀ vis tr C, vis ++ [tr] <+: all → tr.length = n → Y vis C → TR (EL k) l [vt] (B tr ++ C) (fun v hs' => (v = bv true ∧ ∃ C', hs' = B tr ++ C' ∧ Y (vis ++ [tr]) C') ∨ (v = bv false ∧ ∃ C', hs' = B tr ++ C' ∧ Z (vis ++ [tr]) C'))
theorem tr_item {k : Nat} {its : List Item} {itv : AV} {D : List Thing} {sg : Int} {gsv lv mv vt : AV} {bt by_ bx bi xid l : Nat} {Y Z : List (List Int) → List Thing → Prop} (hn : its.length ≤ 120) (hi : Rdl D encIt itv its)
    (hcl : ∀ x ∈ its, x.could.l.length ≤ 4) {all : List (List Int)} (hy : Visit k l vt its.length all (fun tr => [.row bt 1 [vt], .row by_ 1 [.yield l], .row bx 1 [.ptr xid 0 5], .row bi 1 [.func 62 [] [.ptr bt 0 1, .ptr by_ 0 1, .ptr bx 0 1, .ptr bi 0 1]], .row xid 5 [iv sg, gsv, itv, lv, mv], ownL false vt encI tr] ++ D) Y Z) : ∀ (m i : Nat) (j : Int) (tr : List Int) (vis : List (List Int)) (C : List Thing), j = i → i + m = its.length → tr.length = its.length → Y vis C → vis ++ comps (tr.take i) (its.drop i) <+: all →
    TF (EL k) 62 [iv j, .ptr bt 0 1, .ptr by_ 0 1, .ptr bx 0 1, .ptr bi 0 1] ([.row bt 1 [vt], .row by_ 1 [.yield l], .row bx 1 [.ptr xid 0 5], .row bi 1 [.func 62 [] [.ptr bt 0 1, .ptr by_ 0 1, .ptr bx 0 1, .ptr bi 0 1]], .row xid 5 [iv sg, gsv, itv, lv, mv], ownL false vt encI tr] ++ (D ++ C)) (fun v hs' => ∃ tr' C', tr'.length = its.length ∧ tr'.take i = tr.take i ∧ hs' = [.row bt 1 [vt], .row by_ 1 [.yield l], .row bx 1 [.ptr xid 0 5], .row bi 1 [.func 62 [] [.ptr bt 0 1, .ptr by_ 0 1, .ptr bx 0 1, .ptr bi 0 1]], .row xid 5 [iv sg, gsv, itv, lv, mv], ownL false vt encI tr'] ++ (D ++ C') ∧
      ((v = bv true ∧ Y (vis ++ comps (tr.take i) (its.drop i)) C') ∨ (v = bv false ∧ ∃ q r, comps (tr.take i) (its.drop i) = q ++ r ∧ Z (vis ++ q) C'))) := by
  intro m
  induction m using Nat.strongRecOn with
  | _ m ih =>
  intro i j tr vis C hj hi' htr hY hp
  subst hj
  refine TF.enter (fn := Go.Proofs.Try.f62) rfl rfl rfl rfl rfl ?_
  refine T.seq ?_
  refine T.text rfl ?_
  refine TO.val rfl rfl rfl (Val.assign rfl) ?_
  refine TO.nil ?_
  refine T.seq ?_
  refine T.seq ?_
  refine T.text rfl ?_
  refine TO.val rfl rfl rfl (Val.move rfl) ?_
  refine TO.val rfl rfl rfl (Val.load_row (p := 0) rfl ⟨_, rfl, rfl⟩ rfl rfl rfl) ?_
  refine TO.val rfl rfl rfl (Val.len_own (p := 5) rfl rfl rfl) ?_
  refine TO.eql rfl rfl rfl rfl rfl (fun c12 hc12 => ?_)
  refine TO.nil ?_
  cases c12 with
  | true =>
    replace hc12 := btrue hc12
    refine T.condT (fun a ha => ha.ev (.tmp 12) _ rfl) ?_
    refine T.seq ?_
    refine T.text rfl ?_
    refine TO.val rfl rfl rfl (Val.load_row (p := 1) rfl ⟨_, rfl, rfl⟩ rfl rfl rfl) ?_
    refine TO.val rfl rfl rfl (Val.load_row (p := 0) rfl ⟨_, rfl, rfl⟩ rfl rfl rfl) ?_
    refine TO.callY rfl rfl rfl rfl rfl (hy vis tr C (by have := hp; rw [comps_nil (List.drop_eq_nil_of_le (by omega)), List.take_of_length_le (by omega)] at this; exact this) htr hY) ?_
    rintro _ _ (⟨rfl, C1, rfl, hY1⟩ | ⟨rfl, C1, rfl, hZ1⟩)
    · skip
      refine TO.things (hs' := _ :: _ :: _ :: _ :: _ :: _ :: (D ++ C1)) rfl ?_
      refine TO.val rfl rfl rfl (Val.assign rfl) ?_
      refine TO.nil ?_
      refine T.ret ?_
      exact ⟨rfl, _, rfl, tr, C1, htr, rfl, rfl, .inl ⟨rfl, by rw [comps_nil (List.drop_eq_nil_of_le (by omega)), List.take_of_length_le (by omega)]; exact hY1⟩⟩
    · skip
      refine TO.things (hs' := _ :: _ :: _ :: _ :: _ :: _ :: (D ++ C1)) rfl ?_
      refine TO.val rfl rfl rfl (Val.assign rfl) ?_
      refine TO.nil ?_
      refine T.ret ?_
      exact ⟨rfl, _, rfl, tr, C1, htr, rfl, rfl, .inr ⟨rfl, [tr], [], by rw [comps_nil (List.drop_eq_nil_of_le (by omega)), List.take_of_length_le (by omega)]; rfl, hZ1⟩⟩
  | false =>
    replace hc12 := bfalse hc12
    refine T.condF (fun a ha => ha.ev (.tmp 12) _ rfl) ?_
    refine T.skip ?_
    refine T.seq ?_
    refine T.seq ?_
    refine T.text rfl ?_
    refine TO.val rfl rfl rfl (Val.load_row (p := 0) rfl ⟨_, rfl, rfl⟩ rfl rfl rfl) ?_
    refine TO.val rfl rfl rfl (Val.move rfl) ?_
    refine TO.iaddr_ownL (en := encI) (p := 5) rfl rfl rfl ⟨rfl, rfl⟩ rfl rfl rfl (by omega) (fun id18 a18 ata18 ea18 => ?_)
    try simp only [Int.toNat_natCast] at ea18
    refine TO.store_ownL (en := encI) (p := 5) _ rfl rfl rfl ata18 rfl (by decide) rfl rfl rfl (by first | rfl | simp [GS.one]) (by (have := (List.getElem?_eq_some_iff.1 ea18).1; omega)) ?_
    refine TO.things (hs' := _ :: _ :: _ :: _ :: _ :: _ :: (D ++ C)) rfl ?_
    refine TO.nil ?_
    refine T.seq ?_
    refine T.text rfl ?_
    refine TO.val rfl rfl rfl (Val.load_row (p := 2) rfl ⟨_, rfl, rfl⟩ rfl rfl rfl) ?_
    refine TO.val rfl rfl rfl (Val.nil_ptr rfl) ?_
    refine TO.val rfl rfl rfl (Val.faddr_ptr (fo := 0) rfl rfl rfl) ?_
    refine TO.val rfl rfl rfl (Val.faddr_ptr (fo := 2) rfl rfl rfl) ?_
    refine TO.val rfl rfl rfl (Val.load_row (p := 4) rfl ⟨_, rfl, rfl⟩ rfl rfl rfl) ?_
    refine TO.val rfl rfl rfl (Val.move rfl) ?_
    refine TO.fact (rdl_find (en := encIt) (v := itv) (l := its) (k := (i : Int)) hi (memS (memS (memS (memS (memS (memS (memL))))))) (by omega)) (fun hq => ?_)
    obtain ⟨it, eit, pit, hpit, hvit⟩ := hq
    try simp only [Int.toNat_natCast] at eit
    refine TO.val rfl rfl rfl (hvit ⟨rfl, rfl⟩ rfl rfl) ?_
    have hitl := hcl it (List.mem_of_getElem? eit)
    refine TO.val rfl rfl rfl (Val.faddr_e (fo := 0) hpit rfl rfl rfl) ?_
    refine TO.val rfl rfl rfl (Val.load_e (PtE.add hpit (by decide)) (memS (memS (memS (memS (memS (memS (memL))))))) ⟨_, rfl, rfl⟩ rfl rfl) ?_
    refine TO.val rfl rfl rfl (Val.len_gs rfl rfl) ?_
    refine TO.eql rfl rfl rfl rfl rfl (fun c29 hc29 => ?_)
    refine TO.nil ?_
    cases c29 with
    | true =>
      replace hc29 := btrue hc29
      refine T.condT (fun a ha => ha.ev (.tmp 29) _ rfl) ?_
      refine T.seq ?_
      refine T.text rfl ?_
      refine TO.val rfl rfl rfl (Val.load_row (p := 3) rfl ⟨_, rfl, rfl⟩ rfl rfl rfl) ?_
      refine TO.val rfl rfl rfl (Val.move rfl) ?_
      refine TO.val rfl rfl rfl (Val.add rfl rfl (by omega)) ?_
      refine TO.callV rfl rfl rfl rfl rfl rfl (orcN rfl) (ih (m - 1) (by omega) (i + 1) _ (tr.set i (-1)) vis C (by omega) (by omega) (by simpa using htr) hY (by rw [set_take (by omega), ← comps_one eit hc29]; exact hp)) ?_
      rintro _ _ ⟨tr1, C1, ht1, hk1, rfl, (⟨rfl, hY1⟩ | ⟨rfl, q1, r1, hq1, hZ1⟩)⟩
      · skip
        refine TO.things (hs' := _ :: _ :: _ :: _ :: _ :: _ :: (D ++ C1)) rfl ?_
        refine TO.val rfl rfl rfl (Val.assign rfl) ?_
        refine TO.nil ?_
        refine T.ret ?_
        exact ⟨rfl, _, rfl, tr1, C1, ht1, tr_keep hk1, rfl, .inl ⟨rfl, by rw [comps_one eit hc29, ← set_take (by omega)]; exact hY1⟩⟩
      · skip
        refine TO.things (hs' := _ :: _ :: _ :: _ :: _ :: _ :: (D ++ C1)) rfl ?_
        refine TO.val rfl rfl rfl (Val.assign rfl) ?_
        refine TO.nil ?_
        refine T.ret ?_
        exact ⟨rfl, _, rfl, tr1, C1, ht1, tr_keep hk1, rfl, .inr ⟨rfl, q1, r1, by rw [comps_one eit hc29, ← set_take (by omega)]; exact hq1, hZ1⟩⟩
    | false =>
      replace hc29 := bfalse hc29
      refine T.condF (fun a ha => ha.ev (.tmp 29) _ rfl) ?_
      refine T.skip ?_
      refine T.seq ?_
      refine T.seq ?_
      refine T.text rfl ?_
      refine TO.val rfl rfl rfl (Val.load_row (p := 2) rfl ⟨_, rfl, rfl⟩ rfl rfl rfl) ?_
      refine TO.val rfl rfl rfl (Val.nil_ptr rfl) ?_
      refine TO.val rfl rfl rfl (Val.faddr_ptr (fo := 0) rfl rfl rfl) ?_
      refine TO.val rfl rfl rfl (Val.faddr_ptr (fo := 2) rfl rfl rfl) ?_
      refine TO.val rfl rfl rfl (Val.load_row (p := 4) rfl ⟨_, rfl, rfl⟩ rfl rfl rfl) ?_
      refine TO.val rfl rfl rfl (Val.move rfl) ?_
      refine TO.fact (rdl_find (en := encIt) (v := itv) (l := its) (k := (i : Int)) hi (memS (memS (memS (memS (memS (memS (memL))))))) (by omega)) (fun hq => ?_)
      obtain ⟨it2, eit2, pit2, hpit2, hvit2⟩ := hq
      try simp only [Int.toNat_natCast] at eit2
      refine TO.val rfl rfl rfl (hvit2 ⟨rfl, rfl⟩ rfl rfl) ?_
      have e40 := Option.some.inj (eit.symm.trans eit2)
      subst e40
      refine TO.val rfl rfl rfl (Val.faddr_e (fo := 0) hpit2 rfl rfl rfl) ?_
      refine TO.val rfl rfl rfl (Val.load_e (PtE.add hpit2 (by decide)) (memS (memS (memS (memS (memS (memS (memL))))))) ⟨_, rfl, rfl⟩ rfl rfl) ?_
      refine TO.val rfl rfl rfl (Val.len_gs rfl rfl) ?_
      refine TO.val rfl rfl rfl (Val.move rfl) ?_
      refine TO.nil ?_
      refine T.block ?_
      refine T.loop (fun μ s => ∃ c : Nat, ∃ jc : Int, ∃ tr2 : List Int, ∃ C2 : List Thing, μ = it.could.l.length - c ∧ jc = c ∧ c ≤ it.could.l.length ∧ tr2.length = its.length ∧ tr2.take i = tr.take i ∧ Y (vis ++ (it.could.l.take c).flatMap fun a => comps (tr.take i ++ [a]) (its.drop (i + 1))) C2 ∧ s = ⟨[], [(0, iv (i : Int)), (1, .ptr bt 0 1), (2, .ptr by_ 0 1), (3, .ptr bx 0 1), (4, .ptr bi 0 1), (42, it.could.v), (43, iv (it.could.l.length : Int)), (44, iv jc)], (.row bt 1 [vt]) :: (.row by_ 1 [.yield l]) :: (.row bx 1 [.ptr xid 0 5]) :: (.row bi 1 [.func 62 [] [.ptr bt 0 1, .ptr by_ 0 1, .ptr bx 0 1, .ptr bi 0 1]]) :: (.row xid 5 [iv sg, gsv, itv, lv, mv]) :: (ownL false vt encI tr2) :: (D ++ C2)⟩) (k := _) (s' := _) ⟨0, 0, _, _, rfl, (by first | rfl | omega | (simp; done) | (simp; omega) | simp_all), (by first | rfl | omega | (simp; done) | (simp; omega) | simp_all), (by simpa using htr), (by exact set_takeL), (by simpa using hY), rfl⟩ ⟨rfl, (keep_cons rfl (keep_cons rfl (keep_cons rfl (keep_cons rfl (keep_cons rfl (keep_cons rfl (keep_cons rfl (keep_cons rfl keep_nil)))))))), (.cons_cons _ (.cons_cons _ (.cons_cons _ (.cons_cons _ (.cons_cons _ (.cons_cons _ (.refl _)))))))⟩ ?_
      rintro μ _ ⟨c, jc, tr2, C2, hk0, hjc, hcl, ht2, hk2, hY2, rfl⟩
      subst hjc
      refine T.seq ?_
      refine T.text rfl ?_
      refine TO.lss rfl rfl rfl rfl rfl (fun c45 hc45 => ?_)
      refine TO.nil ?_
      refine T.seq ?_
      cases c45 with
      | true =>
        replace hc45 := btrue hc45
        refine T.condT (fun a ha => ha.ev (.tmp 45) _ rfl) ?_
        refine T.skip ?_
        refine T.seq ?_
        refine T.block ?_
        refine T.seq ?_
        refine T.text rfl ?_
        refine TO.index_gs rfl rfl rfl ⟨rfl, rfl⟩ rfl rfl (by omega) (fun cc rcc ecc => ?_)
        try simp only [Int.toNat_natCast] at ecc
        refine TO.val rfl rfl rfl (Val.load_tree ⟨_, rfl, rfl⟩ rfl) ?_
        refine TO.val rfl rfl rfl (Val.assign rfl) ?_
        refine TO.nil ?_
        refine T.seq ?_
        refine T.text rfl ?_
        refine TO.val rfl rfl rfl (Val.load_row (p := 0) rfl ⟨_, rfl, rfl⟩ rfl rfl rfl) ?_
        refine TO.val rfl rfl rfl (Val.move rfl) ?_
        refine TO.val rfl rfl rfl (Val.move rfl) ?_
        refine TO.iaddr_ownL (en := encI) (p := 5) rfl rfl rfl ⟨rfl, rfl⟩ rfl rfl rfl (by omega) (fun id51 a51 ata51 ea51 => ?_)
        try simp only [Int.toNat_natCast] at ea51
        refine TO.store_ownL (en := encI) (p := 5) _ rfl rfl rfl ata51 rfl (by decide) rfl rfl rfl (by first | rfl | simp [GS.one]) (by (have := (List.getElem?_eq_some_iff.1 ea51).1; omega)) ?_
        refine TO.things (hs' := _ :: _ :: _ :: _ :: _ :: _ :: (D ++ C2)) rfl ?_
        refine TO.nil ?_
        refine T.seq ?_
        refine T.text rfl ?_
        refine TO.val rfl rfl rfl (Val.load_row (p := 3) rfl ⟨_, rfl, rfl⟩ rfl rfl rfl) ?_
        refine TO.val rfl rfl rfl (Val.move rfl) ?_
        refine TO.val rfl rfl rfl (Val.add rfl rfl (by omega)) ?_
        refine TO.callV rfl rfl rfl rfl rfl rfl (orcN rfl) (ih (m - 1) (by omega) (i + 1) _ (tr2.set i cc) _ C2 (by omega) (by omega) (by simpa using ht2) hY2 (by rw [set_take (by omega), hk2, List.append_assoc]; rw [comps_all eit hc29] at hp; exact (pre_app (flat_pre ecc)).trans hp)) ?_
        rintro _ _ ⟨tr1, C1, ht1, hk1, rfl, (⟨rfl, hY1⟩ | ⟨rfl, q1, r1, hq1, hZ1⟩)⟩
        · skip
          refine TO.things (hs' := _ :: _ :: _ :: _ :: _ :: _ :: (D ++ C1)) rfl ?_
          refine TO.val rfl rfl rfl (Val.not rfl) ?_
          refine TO.nil ?_
          refine T.condF (fun a ha => ha.ev (.tmp 56) _ rfl) ?_
          refine T.skip ?_
          refine T.text rfl ?_
          refine TO.val rfl rfl rfl (Val.add rfl rfl (by omega)) ?_
          refine TO.val rfl rfl rfl (Val.move rfl) ?_
          refine TO.nil ?_
          refine ⟨_, _, (by omega), ⟨c + 1, _, _, _, rfl, (by first | omega | simp_all), (by first | omega | simp_all), (by exact ht1), (by exact (tr_keep hk1).trans hk2), (by have e : tr.take i ++ [cc] = (tr2.set i cc).take (i + 1) := (by rw [set_take (by omega), hk2]); rw [take_snoc ecc, List.flatMap_append, ← List.append_assoc, List.flatMap_cons, List.flatMap_nil, List.append_nil, e]; exact hY1), rfl⟩, ⟨rfl, (keep_cons rfl (keep_cons rfl (keep_cons rfl (keep_cons rfl (keep_cons rfl (keep_cons rfl (keep_cons rfl (keep_cons rfl keep_nil)))))))), (.cons_cons _ (.cons_cons _ (.cons_cons _ (.cons_cons _ (.cons_cons _ (.cons_cons _ (.refl _)))))))⟩⟩
        · skip
          refine TO.things (hs' := _ :: _ :: _ :: _ :: _ :: _ :: (D ++ C1)) rfl ?_
          refine TO.val rfl rfl rfl (Val.not rfl) ?_
          refine TO.nil ?_
          refine T.condT (fun a ha => ha.ev (.tmp 56) _ rfl) ?_
          refine T.seq ?_
          refine T.text rfl ?_
          refine TO.val rfl rfl rfl (Val.assign rfl) ?_
          refine TO.nil ?_
          refine T.ret ?_
          exact ⟨rfl, _, rfl, tr1, C1, ht1, (tr_keep hk1).trans hk2, rfl, .inr ⟨rfl, _, _, comps_cut eit ecc hc29 (by rw [← hk2, ← set_take (by omega)]; exact hq1), by rw [← List.append_assoc]; exact hZ1⟩⟩
      | false =>
        replace hc45 := bfalse hc45
        refine T.condF (fun a ha => ha.ev (.tmp 45) _ rfl) ?_
        refine T.exit ?_
        refine T.seq ?_
        refine T.text rfl ?_
        refine TO.val rfl rfl rfl (Val.assign rfl) ?_
        refine TO.nil ?_
        refine T.ret ?_
        exact ⟨rfl, _, rfl, tr2, C2, ht2, hk2, rfl, .inl ⟨rfl, by rw [comps_all eit hc29]; rw [show it.could.l.take c = it.could.l from List.take_of_length_le (by omega)] at hY2; exact hY2⟩⟩
theorem tr_iter {k : Nat} {its : List Item} {itv : AV} {D : List Thing} {sg : Int} {gsv lv mv : AV} {bx xid l : Nat} {Y Z : List (List Int) → List Thing → Prop} (hn : its.length ≤ 120) (hi : Rdl D encIt itv its)
    (hcl : ∀ x ∈ its, x.could.l.length ≤ 4) (hy : ∀ bt by_ bi vt, Visit k l vt its.length (truthsOf its) (fun tr => [.row bt 1 [vt], .row by_ 1 [.yield l], .row bx 1 [.ptr xid 0 5], .row bi 1 [.func 62 [] [.ptr bt 0 1, .ptr by_ 0 1, .ptr bx 0 1, .ptr bi 0 1]], .row xid 5 [iv sg, gsv, itv, lv, mv], ownL false vt encI tr] ++ D) Y Z) (C : List Thing) (hY : Y [] C) :
    TF (EL k) 61 [.yield l, .ptr bx 0 1] ([.row bx 1 [.ptr xid 0 5], .row xid 5 [iv sg, gsv, itv, lv, mv]] ++ (D ++ C)) (fun v hs' => ∃ C', hs' = [.row bx 1 [.ptr xid 0 5], .row xid 5 [iv sg, gsv, itv, lv, mv]] ++ (D ++ C') ∧
      (Y (truthsOf its) C' ∨ ∃ q r, truthsOf its = q ++ r ∧ Z q C')) := by
  refine TF.enter (fn := Go.Proofs.Try.f61) rfl rfl rfl rfl rfl ?_
  refine T.seq ?_
  refine T.text rfl ?_
  refine TO.box (k := 1) (cells := [_]) rfl rfl rfl rfl rfl rfl rfl (fun b2 => ?_)
  refine TO.nil ?_
  refine T.seq ?_
  refine T.text rfl ?_
  refine TO.val rfl rfl rfl (Val.load_row (p := 1) rfl ⟨_, rfl, rfl⟩ rfl rfl rfl) ?_
  refine TO.val rfl rfl rfl (Val.nil_ptr rfl) ?_
  refine TO.val rfl rfl rfl (Val.faddr_ptr (fo := 0) rfl rfl rfl) ?_
  refine TO.val rfl rfl rfl (Val.faddr_ptr (fo := 2) rfl rfl rfl) ?_
  refine TO.val rfl rfl rfl (Val.load_row (p := 2) rfl ⟨_, rfl, rfl⟩ rfl rfl rfl) ?_
  refine TO.val rfl rfl rfl (Val.len_l hi (memS (memS (memS (memL)))) rfl rfl) ?_
  refine TO.makeInts (m := its.length) (b := 8) rfl rfl rfl ⟨rfl, rfl⟩ rfl rfl rfl rfl (by omega) (by omega) (fun v11 => ?_)
  refine TO.alloc (k := 1) (cells := [_]) rfl rfl rfl rfl rfl rfl rfl (fun b3 => ?_)
  refine TO.ownfact (p := 1) rfl (fun hot24 => ?_)
  refine TO.store_row (p := 0) (cv := [_]) (cells' := [_]) rfl rfl rfl rfl rfl rfl rfl hot24.1 rfl rfl (by simp [hot24.2]) (by decide) rfl ?_
  refine TO.things (hs' := _ :: _ :: _ :: _ :: _ :: (D ++ C)) rfl ?_
  refine TO.nil ?_
  refine T.seq ?_
  refine T.text rfl ?_
  refine TO.alloc (k := 1) (cells := [_]) rfl rfl rfl rfl rfl rfl rfl (fun b4 => ?_)
  refine TO.nil ?_
  refine T.seq ?_
  refine T.text rfl ?_
  refine TO.val rfl rfl rfl (Val.makeFunc rfl rfl) ?_
  refine TO.store_row (p := 0) (cv := [_]) (cells' := [_]) rfl rfl rfl rfl rfl rfl rfl rfl rfl rfl (by first | rfl | simp [GS.one]) (by decide) rfl ?_
  refine TO.things (hs' := _ :: _ :: _ :: _ :: _ :: _ :: (D ++ C)) rfl ?_
  refine TO.nil ?_
  refine T.text rfl ?_
  refine TO.val rfl rfl rfl (Val.load_row (p := 0) rfl ⟨_, rfl, rfl⟩ rfl rfl rfl) ?_
  refine TO.pick (p := 2) rfl ?_
  refine TO.things (hs' := _ :: _ :: _ :: _ :: _ :: _ :: (D ++ C)) rfl ?_
  refine TO.pick (p := 5) rfl ?_
  refine TO.things (hs' := _ :: _ :: _ :: _ :: _ :: _ :: (D ++ C)) rfl ?_
  refine TO.pick (p := 2) rfl ?_
  refine TO.things (hs' := _ :: _ :: _ :: _ :: _ :: _ :: (D ++ C)) rfl ?_
  refine TO.pick (p := 5) rfl ?_
  refine TO.things (hs' := _ :: _ :: _ :: _ :: _ :: _ :: (D ++ C)) rfl ?_
  refine TO.pick (p := 5) rfl ?_
  refine TO.things (hs' := _ :: _ :: _ :: _ :: _ :: _ :: (D ++ C)) rfl ?_
  refine TO.pick (p := 5) rfl ?_
  refine TO.things (hs' := _ :: _ :: _ :: _ :: _ :: _ :: (D ++ C)) rfl ?_
  refine TO.callV rfl rfl rfl rfl rfl rfl (orcN rfl) (tr_item hn hi hcl (hy _ _ _ _) its.length 0 0 _ [] C rfl (by omega) (by simp) hY (by simp [truthsOf])) ?_
  rintro _ _ ⟨tr1, C1, ht1, hk1, rfl, (⟨rfl, hY1⟩ | ⟨rfl, q1, r1, hq1, hZ1⟩)⟩
  · skip
    refine TO.things (hs' := _ :: _ :: _ :: _ :: _ :: _ :: (D ++ C1)) rfl ?_
    refine TO.keep (s' := ⟨[], [], _ :: _ :: (D ++ C1)⟩) ⟨rfl, keep_nil, (.cons _ (.cons _ (.cons_cons _ (.cons _ (.cons_cons _ (.cons _ (.refl _)))))))⟩ ?_
    refine TO.nil ?_
    exact ⟨rfl, _, rfl, _, rfl, .inl (by simpa [truthsOf] using hY1)⟩
  · skip
    refine TO.things (hs' := _ :: _ :: _ :: _ :: _ :: _ :: (D ++ C1)) rfl ?_
    refine TO.keep (s' := ⟨[], [], _ :: _ :: (D ++ C1)⟩) ⟨rfl, keep_nil, (.cons _ (.cons _ (.cons_cons _ (.cons _ (.cons_cons _ (.cons _ (.refl _)))))))⟩ ?_
    refine TO.nil ?_
    exact ⟨rfl, _, rfl, _, rfl, .inr ⟨q1, r1, by simpa [truthsOf] using hq1, by simpa using hZ1⟩⟩
end Go.Am.Ythckcbfijdambaa
end
section
namespace Go.Am.Ythckcbfijdambaa
open Go.Am Go.RowKit
set_option linter.unusedVariables false
set_option linter.unusedSimpArgs false
theorem q_out (lo : Int) (hi : Int) (x : GS encI) (hb : x.l.length < 4611686018427387904) : Comes (EL 0) 73 [iv lo, iv hi, x.v] (bv (decide (∃ n ∈ x.l, n < lo ∨ hi < n))) := by
  refine Comes.of (TF.enter (fn := Go.Proofs.Try.f73) rfl rfl rfl rfl rfl ?_)
  refine T.seq ?_
  refine T.text rfl ?_
  refine TO.box (k := 1) (cells := [_]) rfl rfl rfl rfl rfl rfl rfl (fun b3 => ?_)
  refine TO.box (k := 1) (cells := [_]) rfl rfl rfl rfl rfl rfl rfl (fun b4 => ?_)
  refine TO.val rfl rfl rfl (Val.assign rfl) ?_
  refine TO.nil ?_
  refine T.seq ?_
  refine T.text rfl ?_
  refine TO.val rfl rfl rfl (Val.move rfl) ?_
  refine TO.val rfl rfl rfl (Val.makeFunc rfl rfl) ?_
  refine TO.callIn rfl rfl rfl rfl rfl rfl (orcN rfl) ?_
  refine TF.enter (fn := Go.Proofs.Try.f85) rfl rfl rfl rfl rfl ?_
  refine T.seq ?_
  refine T.text rfl ?_
  refine TO.val rfl rfl rfl (Val.assign rfl) ?_
  refine TO.nil ?_
  refine T.seq ?_
  refine T.text rfl ?_
  refine TO.val rfl rfl rfl (Val.move rfl) ?_
  refine TO.val rfl rfl rfl (Val.move rfl) ?_
  refine TO.callIn rfl rfl rfl rfl rfl rfl (orcN rfl) ?_
  refine TF.enter (fn := Go.Proofs.Try.f104) rfl rfl rfl rfl rfl ?_
  refine T.seq ?_
  refine T.text rfl ?_
  refine TO.val rfl rfl rfl (Val.assign rfl) ?_
  refine TO.nil ?_
  refine T.seq ?_
  refine T.seq ?_
  refine T.text rfl ?_
  refine TO.val rfl rfl rfl (Val.move rfl) ?_
  refine TO.val rfl rfl rfl (Val.len_gs rfl rfl) ?_
  refine TO.val rfl rfl rfl (Val.move rfl) ?_
  refine TO.nil ?_
  refine T.block ?_
  refine T.loop (fun μ s => ∃ i : Nat, ∃ j : Int, μ = x.l.length - i ∧ j = i ∧ i ≤ x.l.length ∧ (∀ n ∈ x.l.take i, ¬ (n < lo ∨ hi < n)) ∧ s = ⟨[], [(0, x.v), (1, .func 101 [] [.ptr b3 0 1, .ptr b4 0 1]), (7, iv (x.l.length : Int)), (8, iv j)], [.row b4 1 [iv hi], .row b3 1 [iv lo]]⟩) (k := _) (s' := _) ⟨0, 0, rfl, (by first | rfl | omega | (simp; done) | (simp; omega) | simp_all), (by first | rfl | omega | (simp; done) | (simp; omega) | simp_all), (by first | rfl | omega | (simp; done) | (simp; omega) | simp_all), rfl⟩ ⟨rfl, (keep_cons rfl (keep_cons rfl (keep_cons rfl (keep_cons rfl keep_nil)))), (.cons_cons _ (.cons_cons _ .slnil))⟩ ?_
  rintro μ _ ⟨i, j, hk0, hj, hil, hall, rfl⟩
  subst hj
  refine T.seq ?_
  refine T.text rfl ?_
  refine TO.lss rfl rfl rfl rfl rfl (fun c9 hc9 => ?_)
  refine TO.nil ?_
  refine T.seq ?_
  cases c9 with
  | true =>
    replace hc9 := btrue hc9
    refine T.condT (fun a ha => ha.ev (.tmp 9) _ rfl) ?_
    refine T.skip ?_
    refine T.seq ?_
    refine T.block ?_
    refine T.seq ?_
    refine T.text rfl ?_
    refine TO.val rfl rfl rfl (Val.move rfl) ?_
    refine TO.val rfl rfl rfl (Val.assign rfl) ?_
    refine TO.nil ?_
    refine T.seq ?_
    refine T.text rfl ?_
    refine TO.val rfl rfl rfl (Val.move rfl) ?_
    refine TO.val rfl rfl rfl (Val.move rfl) ?_
    refine TO.val rfl rfl rfl (Val.move rfl) ?_
    refine TO.index_gs rfl rfl rfl ⟨rfl, rfl⟩ rfl rfl (by omega) (fun a14 ra14 ea14 => ?_)
    try simp only [Int.toNat_natCast] at ea14
    refine TO.val rfl rfl rfl (Val.load_tree ⟨_, rfl, rfl⟩ rfl) ?_
    refine TO.callIn rfl rfl rfl rfl rfl rfl (orcN rfl) ?_
    refine TF.enter (fn := Go.Proofs.Try.f101) rfl rfl rfl rfl rfl ?_
    refine T.seq ?_
    refine T.text rfl ?_
    refine TO.val rfl rfl rfl (Val.assign rfl) ?_
    refine TO.nil ?_
    refine T.seq ?_
    refine T.text rfl ?_
    refine TO.val rfl rfl rfl (Val.move rfl) ?_
    refine TO.val rfl rfl rfl (Val.load_row (p := 1) rfl ⟨_, rfl, rfl⟩ rfl rfl rfl) ?_
    refine TO.lss rfl rfl rfl rfl rfl (fun c7 hc7 => ?_)
    refine TO.val rfl rfl rfl (Val.move rfl) ?_
    cases c7 with
    | true =>
      replace hc7 := btrue hc7
      refine TO.off rfl rfl rfl ?_
      refine TO.off rfl rfl rfl ?_
      refine TO.off rfl rfl rfl ?_
      refine TO.val rfl rfl rfl (Val.pick rfl rfl rfl) ?_
      refine TO.val rfl rfl rfl (Val.assign rfl) ?_
      refine TO.nil ?_
      refine T.ret ?_
      refine ⟨rfl, _, rfl, ?_⟩
      refine TO.nil ?_
      refine T.condT (fun a ha => ha.ev (.tmp 16) _ rfl) ?_
      refine T.seq ?_
      refine T.text rfl ?_
      refine TO.val rfl rfl rfl (Val.move rfl) ?_
      refine TO.val rfl rfl rfl (Val.assign rfl) ?_
      refine TO.nil ?_
      refine T.ret ?_
      refine ⟨rfl, _, rfl, ?_⟩
      refine TO.geq rfl rfl rfl rfl rfl (fun c8 hc8 => ?_)
      refine TO.val rfl rfl rfl (Val.assign rfl) ?_
      refine TO.nil ?_
      refine T.ret ?_
      refine ⟨rfl, _, rfl, ?_⟩
      refine TO.val rfl rfl rfl (Val.assign rfl) ?_
      refine TO.nil ?_
      refine T.ret ?_
      cases c8 with
      | true =>
        replace hc8 := btrue hc8
        exact ⟨rfl, _, rfl, RefN.cast .lit (bv_t (by first | (exfalso; omega) | exact ⟨_, List.mem_of_getElem? ea14, by omega⟩ | (rw [List.take_of_length_le (by omega)] at hall; exact fun ⟨n, h1, h2⟩ => hall n h1 h2)))⟩
      | false =>
        replace hc8 := bfalse hc8
        exact ⟨rfl, _, rfl, RefN.cast .lit (bv_f (by first | (exfalso; omega) | exact ⟨_, List.mem_of_getElem? ea14, by omega⟩ | (rw [List.take_of_length_le (by omega)] at hall; exact fun ⟨n, h1, h2⟩ => hall n h1 h2)))⟩
    | false =>
      replace hc7 := bfalse hc7
      refine TO.val rfl rfl rfl (Val.move rfl) ?_
      refine TO.val rfl rfl rfl (Val.load_row (p := 0) rfl ⟨_, rfl, rfl⟩ rfl rfl rfl) ?_
      refine TO.gtr rfl rfl rfl rfl rfl (fun c11 hc11 => ?_)
      refine TO.val rfl rfl rfl (Val.pick rfl rfl rfl) ?_
      refine TO.val rfl rfl rfl (Val.assign rfl) ?_
      refine TO.nil ?_
      refine T.ret ?_
      refine ⟨rfl, _, rfl, ?_⟩
      refine TO.nil ?_
      cases c11 with
      | true =>
        replace hc11 := btrue hc11
        refine T.condT (fun a ha => ha.ev (.tmp 16) _ rfl) ?_
        refine T.seq ?_
        refine T.text rfl ?_
        refine TO.val rfl rfl rfl (Val.move rfl) ?_
        refine TO.val rfl rfl rfl (Val.assign rfl) ?_
        refine TO.nil ?_
        refine T.ret ?_
        refine ⟨rfl, _, rfl, ?_⟩
        refine TO.geq rfl rfl rfl rfl rfl (fun c8 hc8 => ?_)
        refine TO.val rfl rfl rfl (Val.assign rfl) ?_
        refine TO.nil ?_
        refine T.ret ?_
        refine ⟨rfl, _, rfl, ?_⟩
        refine TO.val rfl rfl rfl (Val.assign rfl) ?_
        refine TO.nil ?_
        refine T.ret ?_
        cases c8 with
        | true =>
          replace hc8 := btrue hc8
          exact ⟨rfl, _, rfl, RefN.cast .lit (bv_t (by first | (exfalso; omega) | exact ⟨_, List.mem_of_getElem? ea14, by omega⟩ | (rw [List.take_of_length_le (by omega)] at hall; exact fun ⟨n, h1, h2⟩ => hall n h1 h2)))⟩
        | false =>
          replace hc8 := bfalse hc8
          exact ⟨rfl, _, rfl, RefN.cast .lit (bv_f (by first | (exfalso; omega) | exact ⟨_, List.mem_of_getElem? ea14, by omega⟩ | (rw [List.take_of_length_le (by omega)] at hall; exact fun ⟨n, h1, h2⟩ => hall n h1 h2)))⟩
      | false =>
        replace hc11 := bfalse hc11
        refine T.condF (fun a ha => ha.ev (.tmp 16) _ rfl) ?_
        refine T.skip ?_
        refine T.text rfl ?_
        refine TO.val rfl rfl rfl (Val.add rfl rfl (by omega)) ?_
        refine TO.val rfl rfl rfl (Val.move rfl) ?_
        refine TO.nil ?_
        refine ⟨_, _, (by omega), ⟨i + 1, _, rfl, (by first | omega | simp_all), (by first | omega | simp_all), (by rw [take_snoc ea14]; intro n hn; rcases List.mem_append.1 hn with hn | hn; exact hall n hn; simp at hn; subst hn; omega), rfl⟩, ⟨rfl, (keep_cons rfl (keep_cons rfl (keep_cons rfl (keep_cons rfl keep_nil)))), (.cons_cons _ (.cons_cons _ .slnil))⟩⟩
  | false =>
    replace hc9 := bfalse hc9
    refine T.condF (fun a ha => ha.ev (.tmp 9) _ rfl) ?_
    refine T.exit ?_
    refine T.seq ?_
    refine T.text rfl ?_
    refine TO.val rfl rfl rfl (Val.assign rfl) ?_
    refine TO.nil ?_
    refine T.ret ?_
    refine ⟨rfl, _, rfl, ?_⟩
    refine TO.geq rfl rfl rfl rfl rfl (fun c8 hc8 => ?_)
    refine TO.val rfl rfl rfl (Val.assign rfl) ?_
    refine TO.nil ?_
    refine T.ret ?_
    refine ⟨rfl, _, rfl, ?_⟩
    refine TO.val rfl rfl rfl (Val.assign rfl) ?_
    refine TO.nil ?_
    refine T.ret ?_
    cases c8 with
    | true =>
      replace hc8 := btrue hc8
      exact ⟨rfl, _, rfl, RefN.cast .lit (bv_t (by first | (exfalso; omega) | exact ⟨_, List.mem_of_getElem? ea14, by omega⟩ | (rw [List.take_of_length_le (by omega)] at hall; exact fun ⟨n, h1, h2⟩ => hall n h1 h2)))⟩
    | false =>
      replace hc8 := bfalse hc8
      exact ⟨rfl, _, rfl, RefN.cast .lit (bv_f (by first | (exfalso; omega) | exact ⟨_, List.mem_of_getElem? ea14, by omega⟩ | (rw [List.take_of_length_le (by omega)] at hall; exact fun ⟨n, h1, h2⟩ => hall n h1 h2)))⟩
theorem c_outside (lo : Int) (hi : Int) (x : GS encI) (hb : x.l.length < 4611686018427387904) : Comes (EL 0) 58 [iv lo, iv hi, x.v] (bv (decide (∃ n ∈ x.l, n < lo ∨ hi < n))) := by
  refine Comes.of (TF.enter (fn := Go.Proofs.Try.f58) rfl rfl rfl rfl rfl ?_)
  refine T.seq ?_
  refine T.text rfl ?_
  refine TO.box (k := 1) (cells := [_]) rfl rfl rfl rfl rfl rfl rfl (fun b3 => ?_)
  refine TO.box (k := 1) (cells := [_]) rfl rfl rfl rfl rfl rfl rfl (fun b4 => ?_)
  refine TO.val rfl rfl rfl (Val.assign rfl) ?_
  refine TO.nil ?_
  refine T.seq ?_
  refine T.text rfl ?_
  refine TO.val rfl rfl rfl (Val.move rfl) ?_
  refine TO.val rfl rfl rfl (Val.makeFunc rfl rfl) ?_
  refine TO.callIn rfl rfl rfl rfl rfl rfl (orcN rfl) ?_
  refine TF.enter (fn := Go.Proofs.Try.f85) rfl rfl rfl rfl rfl ?_
  refine T.seq ?_
  refine T.text rfl ?_
  refine TO.val rfl rfl rfl (Val.assign rfl) ?_
  refine TO.nil ?_
  refine T.seq ?_
  refine T.text rfl ?_
  refine TO.val rfl rfl rfl (Val.move rfl) ?_
  refine TO.val rfl rfl rfl (Val.move rfl) ?_
  refine TO.callIn rfl rfl rfl rfl rfl rfl (orcN rfl) ?_
  refine TF.enter (fn := Go.Proofs.Try.f104) rfl rfl rfl rfl rfl ?_
  refine T.seq ?_
  refine T.text rfl ?_
  refine TO.val rfl rfl rfl (Val.assign rfl) ?_
  refine TO.nil ?_
  refine T.seq ?_
  refine T.seq ?_
  refine T.text rfl ?_
  refine TO.val rfl rfl rfl (Val.move rfl) ?_
  refine TO.val rfl rfl rfl (Val.len_gs rfl rfl) ?_
  refine TO.val rfl rfl rfl (Val.move rfl) ?_
  refine TO.nil ?_
  refine T.block ?_
  refine T.loop (fun μ s => ∃ i : Nat, ∃ j : Int, μ = x.l.length - i ∧ j = i ∧ i ≤ x.l.length ∧ (∀ n ∈ x.l.take i, ¬ (n < lo ∨ hi < n)) ∧ s = ⟨[], [(0, x.v), (1, .func 86 [] [.ptr b3 0 1, .ptr b4 0 1]), (7, iv (x.l.length : Int)), (8, iv j)], [.row b4 1 [iv hi], .row b3 1 [iv lo]]⟩) (k := _) (s' := _) ⟨0, 0, rfl, (by first | rfl | omega | (simp; done) | (simp; omega) | simp_all), (by first | rfl | omega | (simp; done) | (simp; omega) | simp_all), (by first | rfl | omega | (simp; done) | (simp; omega) | simp_all), rfl⟩ ⟨rfl, (keep_cons rfl (keep_cons rfl (keep_cons rfl (keep_cons rfl keep_nil)))), (.cons_cons _ (.cons_cons _ .slnil))⟩ ?_
  rintro μ _ ⟨i, j, hk0, hj, hil, hall, rfl⟩
  subst hj
  refine T.seq ?_
  refine T.text rfl ?_
  refine TO.lss rfl rfl rfl rfl rfl (fun c9 hc9 => ?_)
  refine TO.nil ?_
  refine T.seq ?_
  cases c9 with
  | true =>
    replace hc9 := btrue hc9
    refine T.condT (fun a ha => ha.ev (.tmp 9) _ rfl) ?_
    refine T.skip ?_
    refine T.seq ?_
    refine T.block ?_
    refine T.seq ?_
    refine T.text rfl ?_
    refine TO.val rfl rfl rfl (Val.move rfl) ?_
    refine TO.val rfl rfl rfl (Val.assign rfl) ?_
    refine TO.nil ?_
    refine T.seq ?_
    refine T.text rfl ?_
    refine TO.val rfl rfl rfl (Val.move rfl) ?_
    refine TO.val rfl rfl rfl (Val.move rfl) ?_
    refine TO.val rfl rfl rfl (Val.move rfl) ?_
    refine TO.index_gs rfl rfl rfl ⟨rfl, rfl⟩ rfl rfl (by omega) (fun a14 ra14 ea14 => ?_)
    try simp only [Int.toNat_natCast] at ea14
    refine TO.val rfl rfl rfl (Val.load_tree ⟨_, rfl, rfl⟩ rfl) ?_
    refine TO.callIn rfl rfl rfl rfl rfl rfl (orcN rfl) ?_
    refine TF.enter (fn := Go.Proofs.Try.f86) rfl rfl rfl rfl rfl ?_
    refine T.seq ?_
    refine T.text rfl ?_
    refine TO.val rfl rfl rfl (Val.assign rfl) ?_
    refine TO.nil ?_
    refine T.seq ?_
    refine T.text rfl ?_
    refine TO.val rfl rfl rfl (Val.move rfl) ?_
    refine TO.val rfl rfl rfl (Val.load_row (p := 1) rfl ⟨_, rfl, rfl⟩ rfl rfl rfl) ?_
    refine TO.lss rfl rfl rfl rfl rfl (fun c7 hc7 => ?_)
    refine TO.val rfl rfl rfl (Val.move rfl) ?_
    cases c7 with
    | true =>
      replace hc7 := btrue hc7
      refine TO.off rfl rfl rfl ?_
      refine TO.off rfl rfl rfl ?_
      refine TO.off rfl rfl rfl ?_
      refine TO.val rfl rfl rfl (Val.pick rfl rfl rfl) ?_
      refine TO.val rfl rfl rfl (Val.assign rfl) ?_
      refine TO.nil ?_
      refine T.ret ?_
      refine ⟨rfl, _, rfl, ?_⟩
      refine TO.nil ?_
      refine T.condT (fun a ha => ha.ev (.tmp 16) _ rfl) ?_
      refine T.seq ?_
      refine T.text rfl ?_
      refine TO.val rfl rfl rfl (Val.move rfl) ?_
      refine TO.val rfl rfl rfl (Val.assign rfl) ?_
      refine TO.nil ?_
      refine T.ret ?_
      refine ⟨rfl, _, rfl, ?_⟩
      refine TO.geq rfl rfl rfl rfl rfl (fun c8 hc8 => ?_)
      refine TO.val rfl rfl rfl (Val.assign rfl) ?_
      refine TO.nil ?_
      refine T.ret ?_
      refine ⟨rfl, _, rfl, ?_⟩
      refine TO.val rfl rfl rfl (Val.assign rfl) ?_
      refine TO.nil ?_
      refine T.ret ?_
      cases c8 with
      | true =>
        replace hc8 := btrue hc8
        exact ⟨rfl, _, rfl, RefN.cast .lit (bv_t (by first | (exfalso; omega) | exact ⟨_, List.mem_of_getElem? ea14, by omega⟩ | (rw [List.take_of_length_le (by omega)] at hall; exact fun ⟨n, h1, h2⟩ => hall n h1 h2)))⟩
      | false =>
        replace hc8 := bfalse hc8
        exact ⟨rfl, _, rfl, RefN.cast .lit (bv_f (by first | (exfalso; omega) | exact ⟨_, List.mem_of_getElem? ea14, by omega⟩ | (rw [List.take_of_length_le (by omega)] at hall; exact fun ⟨n, h1, h2⟩ => hall n h1 h2)))⟩
    | false =>
      replace hc7 := bfalse hc7
      refine TO.val rfl rfl rfl (Val.move rfl) ?_
      refine TO.val rfl rfl rfl (Val.load_row (p := 0) rfl ⟨_, rfl, rfl⟩ rfl rfl rfl) ?_
      refine TO.gtr rfl rfl rfl rfl rfl (fun c11 hc11 => ?_)
      refine TO.val rfl rfl rfl (Val.pick rfl rfl rfl) ?_
      refine TO.val rfl rfl rfl (Val.assign rfl) ?_
      refine TO.nil ?_
      refine T.ret ?_
      refine ⟨rfl, _, rfl, ?_⟩
      refine TO.nil ?_
      cases c11 with
      | true =>
        replace hc11 := btrue hc11
        refine T.condT (fun a ha => ha.ev (.tmp 16) _ rfl) ?_
        refine T.seq ?_
        refine T.text rfl ?_
        refine TO.val rfl rfl rfl (Val.move rfl) ?_
        refine TO.val rfl rfl rfl (Val.assign rfl) ?_
        refine TO.nil ?_
        refine T.ret ?_
        refine ⟨rfl, _, rfl, ?_⟩
        refine TO.geq rfl rfl rfl rfl rfl (fun c8 hc8 => ?_)
        refine TO.val rfl rfl rfl (Val.assign rfl) ?_
        refine TO.nil ?_
        refine T.ret ?_
        refine ⟨rfl, _, rfl, ?_⟩
        refine TO.val rfl rfl rfl (Val.assign rfl) ?_
        refine TO.nil ?_
        refine T.ret ?_
        cases c8 with
        | true =>
          replace hc8 := btrue hc8
          exact ⟨rfl, _, rfl, RefN.cast .lit (bv_t (by first | (exfalso; omega) | exact ⟨_, List.mem_of_getElem? ea14, by omega⟩ | (rw [List.take_of_length_le (by omega)] at hall; exact fun ⟨n, h1, h2⟩ => hall n h1 h2)))⟩
        | false =>
          replace hc8 := bfalse hc8
          exact ⟨rfl, _, rfl, RefN.cast .lit (bv_f (by first | (exfalso; omega) | exact ⟨_, List.mem_of_getElem? ea14, by omega⟩ | (rw [List.take_of_length_le (by omega)] at hall; exact fun ⟨n, h1, h2⟩ => hall n h1 h2)))⟩
      | false =>
        replace hc11 := bfalse hc11
        refine T.condF (fun a ha => ha.ev (.tmp 16) _ rfl) ?_
        refine T.skip ?_
        refine T.text rfl ?_
        refine TO.val rfl rfl rfl (Val.add rfl rfl (by omega)) ?_
        refine TO.val rfl rfl rfl (Val.move rfl) ?_
        refine TO.nil ?_
        refine ⟨_, _, (by omega), ⟨i + 1, _, rfl, (by first | omega | simp_all), (by first | omega | simp_all), (by rw [take_snoc ea14]; intro n hn; rcases List.mem_append.1 hn with hn | hn; exact hall n hn; simp at hn; subst hn; omega), rfl⟩, ⟨rfl, (keep_cons rfl (keep_cons rfl (keep_cons rfl (keep_cons rfl keep_nil)))), (.cons_cons _ (.cons_cons _ .slnil))⟩⟩
  | false =>
    replace hc9 := bfalse hc9
    refine T.condF (fun a ha => ha.ev (.tmp 9) _ rfl) ?_
    refine T.exit ?_
    refine T.seq ?_
    refine T.text rfl ?_
    refine TO.val rfl rfl rfl (Val.assign rfl) ?_
    refine TO.nil ?_
    refine T.ret ?_
    refine ⟨rfl, _, rfl, ?_⟩
    refine TO.geq rfl rfl rfl rfl rfl (fun c8 hc8 => ?_)
    refine TO.val rfl rfl rfl (Val.assign rfl) ?_
    refine TO.nil ?_
    refine T.ret ?_
    refine ⟨rfl, _, rfl, ?_⟩
    refine TO.val rfl rfl rfl (Val.assign rfl) ?_
    refine TO.nil ?_
    refine T.ret ?_
    cases c8 with
    | true =>
      replace hc8 := btrue hc8
      exact ⟨rfl, _, rfl, RefN.cast .lit (bv_t (by first | (exfalso; omega) | exact ⟨_, List.mem_of_getElem? ea14, by omega⟩ | (rw [List.take_of_length_le (by omega)] at hall; exact fun ⟨n, h1, h2⟩ => hall n h1 h2)))⟩
    | false =>
      replace hc8 := bfalse hc8
      exact ⟨rfl, _, rfl, RefN.cast .lit (bv_f (by first | (exfalso; omega) | exact ⟨_, List.mem_of_getElem? ea14, by omega⟩ | (rw [List.take_of_length_le (by omega)] at hall; exact fun ⟨n, h1, h2⟩ => hall n h1 h2)))⟩
theorem q_lettered (s : Sg)  : Comes (EL 0) 77 [.agg (encS.f s)] (bv (decide (s.letter < 23))) := by
  refine Comes.of (TF.enter (fn := Go.Proofs.Try.f77) rfl rfl rfl rfl rfl ?_)
  refine T.seq ?_
  refine T.text rfl ?_
  refine TO.box (k := 2) (cells := [_, _]) rfl rfl rfl rfl rfl rfl rfl (fun b1 => ?_)
  refine TO.val rfl rfl rfl (Val.assign rfl) ?_
  refine TO.nil ?_
  refine T.seq ?_
  refine T.text rfl ?_
  refine TO.val rfl rfl rfl (Val.faddr_ptr (fo := 1) rfl rfl rfl) ?_
  refine TO.val rfl rfl rfl (Val.load_row (p := 0) rfl ⟨_, rfl, rfl⟩ rfl rfl rfl) ?_
  refine TO.lss rfl rfl rfl rfl rfl (fun c5 hc5 => ?_)
  refine TO.val rfl rfl rfl (Val.assign rfl) ?_
  refine TO.nil ?_
  refine T.ret ?_
  cases c5 with
  | true =>
    replace hc5 := btrue hc5
    exact ⟨rfl, _, rfl, RefN.cast .lit (bv_t (by assumption))⟩
  | false =>
    replace hc5 := bfalse hc5
    exact ⟨rfl, _, rfl, RefN.cast .lit (bv_f (by assumption))⟩
theorem q_before (a : Sg) (b : Sg)  : Comes (EL 0) 78 [.agg (encS.f a), .agg (encS.f b)] (bv (decide (a.round < b.round ∨ a.round = b.round ∧ a.letter < b.letter))) := by
  refine Comes.of (TF.enter (fn := Go.Proofs.Try.f78) rfl rfl rfl rfl rfl ?_)
  refine T.seq ?_
  refine T.text rfl ?_
  refine TO.box (k := 2) (cells := [_, _]) rfl rfl rfl rfl rfl rfl rfl (fun b2 => ?_)
  refine TO.box (k := 2) (cells := [_, _]) rfl rfl rfl rfl rfl rfl rfl (fun b3 => ?_)
  refine TO.val rfl rfl rfl (Val.assign rfl) ?_
  refine TO.nil ?_
  refine T.seq ?_
  refine T.text rfl ?_
  refine TO.val rfl rfl rfl (Val.faddr_ptr (fo := 0) rfl rfl rfl) ?_
  refine TO.val rfl rfl rfl (Val.load_row (p := 1) rfl ⟨_, rfl, rfl⟩ rfl rfl rfl) ?_
  refine TO.val rfl rfl rfl (Val.faddr_ptr (fo := 0) rfl rfl rfl) ?_
  refine TO.val rfl rfl rfl (Val.load_row (p := 0) rfl ⟨_, rfl, rfl⟩ rfl rfl rfl) ?_
  refine TO.lss rfl rfl rfl rfl rfl (fun c9 hc9 => ?_)
  refine TO.val rfl rfl rfl (Val.move rfl) ?_
  cases c9 with
  | true =>
    replace hc9 := btrue hc9
    refine TO.off rfl rfl rfl ?_
    refine TO.off rfl rfl rfl ?_
    refine TO.off rfl rfl rfl ?_
    refine TO.off rfl rfl rfl ?_
    refine TO.off rfl rfl rfl ?_
    refine TO.off rfl rfl rfl ?_
    refine TO.off rfl rfl rfl ?_
    refine TO.off rfl rfl rfl ?_
    refine TO.off rfl rfl rfl ?_
    refine TO.off rfl rfl rfl ?_
    refine TO.off rfl rfl rfl ?_
    refine TO.off rfl rfl rfl ?_
    refine TO.val rfl rfl rfl (Val.pick rfl rfl rfl) ?_
    refine TO.val rfl rfl rfl (Val.assign rfl) ?_
    refine TO.nil ?_
    refine T.ret ?_
    exact ⟨rfl, _, rfl, RefN.cast .lit (bv_t (by omega))⟩
  | false =>
    replace hc9 := bfalse hc9
    refine TO.val rfl rfl rfl (Val.faddr_ptr (fo := 0) rfl rfl rfl) ?_
    refine TO.val rfl rfl rfl (Val.load_row (p := 1) rfl ⟨_, rfl, rfl⟩ rfl rfl rfl) ?_
    refine TO.val rfl rfl rfl (Val.faddr_ptr (fo := 0) rfl rfl rfl) ?_
    refine TO.val rfl rfl rfl (Val.load_row (p := 0) rfl ⟨_, rfl, rfl⟩ rfl rfl rfl) ?_
    refine TO.eql rfl rfl rfl rfl rfl (fun c15 hc15 => ?_)
    refine TO.val rfl rfl rfl (Val.move rfl) ?_
    cases c15 with
    | true =>
      replace hc15 := btrue hc15
      refine TO.val rfl rfl rfl (Val.faddr_ptr (fo := 1) rfl rfl rfl) ?_
      refine TO.val rfl rfl rfl (Val.load_row (p := 1) rfl ⟨_, rfl, rfl⟩ rfl rfl rfl) ?_
      refine TO.val rfl rfl rfl (Val.faddr_ptr (fo := 1) rfl rfl rfl) ?_
      refine TO.val rfl rfl rfl (Val.load_row (p := 0) rfl ⟨_, rfl, rfl⟩ rfl rfl rfl) ?_
      refine TO.lss rfl rfl rfl rfl rfl (fun c21 hc21 => ?_)
      refine TO.val rfl rfl rfl (Val.pick rfl rfl rfl) ?_
      refine TO.val rfl rfl rfl (Val.pick rfl rfl rfl) ?_
      refine TO.val rfl rfl rfl (Val.assign rfl) ?_
      refine TO.nil ?_
      refine T.ret ?_
      cases c21 with
      | true =>
        replace hc21 := btrue hc21
        exact ⟨rfl, _, rfl, RefN.cast .lit (bv_t (by omega))⟩
      | false =>
        replace hc21 := bfalse hc21
        exact ⟨rfl, _, rfl, RefN.cast .lit (bv_f (by omega))⟩
    | false =>
      replace hc15 := bfalse hc15
      refine TO.off rfl rfl rfl ?_
      refine TO.off rfl rfl rfl ?_
      refine TO.off rfl rfl rfl ?_
      refine TO.off rfl rfl rfl ?_
      refine TO.off rfl rfl rfl ?_
      refine TO.val rfl rfl rfl (Val.pick rfl rfl rfl) ?_
      refine TO.val rfl rfl rfl (Val.pick rfl rfl rfl) ?_
      refine TO.val rfl rfl rfl (Val.assign rfl) ?_
      refine TO.nil ?_
      refine T.ret ?_
      exact ⟨rfl, _, rfl, RefN.cast .lit (bv_f (by omega))⟩
end Go.Am.Ythckcbfijdambaa
end
