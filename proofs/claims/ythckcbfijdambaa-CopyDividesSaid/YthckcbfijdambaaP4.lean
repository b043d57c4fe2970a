/- Part 4. -/
import Derived.Test.YthckcbfijdambaaP3
import Derived.Test.YthckcbfijdambaaP2
section
namespace Go.Am.Ythckcbfijdambaa
open Go.Am Go.RowKit
set_option linter.unusedVariables false
set_option linter.unusedSimpArgs false
theorem q_none (s : Sg)  : Comes (EL 1) 76 [.agg (encS.f s)] (bv (decide (¬ sigOk s))) := by
  refine Comes.of (TF.enter (fn := Go.Proofs.Try.f76) rfl rfl rfl rfl rfl ?_)
  refine T.seq ?_
  refine T.text rfl ?_
  refine TO.box (k := 2) (cells := [_, _]) rfl rfl rfl rfl rfl rfl rfl (fun b1 => ?_)
  refine TO.val rfl rfl rfl (Val.assign rfl) ?_
  refine TO.nil ?_
  refine T.seq ?_
  refine T.text rfl ?_
  refine TO.val rfl rfl rfl (Val.faddr_ptr (fo := 0) rfl rfl rfl) ?_
  refine TO.val rfl rfl rfl (Val.load_row (p := 0) rfl ⟨_, rfl, rfl⟩ rfl rfl rfl) ?_
  refine TO.build1 (en := encI) (a := _) rfl rfl rfl ⟨rfl, rfl⟩ ⟨_, rfl, rfl⟩ (by decide) (by decide) rfl rfl (fun v5 => ?_)
  refine TO.callD rfl rfl rfl rfl rfl (orcL rfl (by first | decide | omega)) (.cons .lit (.cons .lit (.cons (.ownL (p := 0) rfl .ints) .nil))) (sem_of (q_out _ _ _ (by exact out1_small))) (fun c6 hc6 => ?_)
  replace hc6 := out1 hc6
  refine TO.val rfl rfl rfl (Val.move rfl) ?_
  cases c6 with
  | true =>
    replace hc6 := btrue hc6
    refine TO.off rfl rfl rfl ?_
    refine TO.off rfl rfl rfl ?_
    refine TO.off rfl rfl rfl ?_
    refine TO.off rfl rfl rfl ?_
    refine TO.val rfl rfl rfl (Val.pick rfl rfl rfl) ?_
    refine TO.val rfl rfl rfl (Val.assign rfl) ?_
    refine TO.nil ?_
    refine T.ret ?_
    exact ⟨rfl, _, rfl, RefN.cast .lit (bv_t (by unfold sigOk inR; omega))⟩
  | false =>
    replace hc6 := bfalse hc6
    refine TO.val rfl rfl rfl (Val.faddr_ptr (fo := 1) rfl rfl rfl) ?_
    refine TO.val rfl rfl rfl (Val.load_row (p := 1) rfl ⟨_, rfl, rfl⟩ rfl rfl rfl) ?_
    refine TO.build1 (en := encI) (a := _) rfl rfl rfl ⟨rfl, rfl⟩ ⟨_, rfl, rfl⟩ (by decide) (by decide) rfl rfl (fun v10 => ?_)
    refine TO.callD rfl rfl rfl rfl rfl (orcL rfl (by first | decide | omega)) (.cons .lit (.cons .lit (.cons (.ownL (p := 0) rfl .ints) .nil))) (sem_of (q_out _ _ _ (by exact out1_small))) (fun c11 hc11 => ?_)
    replace hc11 := out1 hc11
    refine TO.val rfl rfl rfl (Val.pick rfl rfl rfl) ?_
    refine TO.val rfl rfl rfl (Val.assign rfl) ?_
    refine TO.nil ?_
    refine T.ret ?_
    cases c11 with
    | true =>
      replace hc11 := btrue hc11
      exact ⟨rfl, _, rfl, RefN.cast .lit (bv_t (by unfold sigOk inR; omega))⟩
    | false =>
      replace hc11 := bfalse hc11
      exact ⟨rfl, _, rfl, RefN.cast .lit (bv_f (by unfold sigOk inR; omega))⟩
theorem q_chg {k bg : Nat} (hk : 1 ≤ k) (g : Gat) (i : Nat) (c : Chg) (C : List Thing) (hi : g.ch.l[i]? = some c) (hb : g.ch.l.length ≤ 4) :
    TF (EL k) 80 [iv (i : Int), .agg (encC.f c), .ptr bg 0 4] (.row bg 4 [iv g.round, iv g.letter, iv g.leaves, g.ch.v] :: C) fun v hs' => v = iv (chgErr g.leaves c (if i = 0 then none else g.ch.l[i - 1]?)) ∧ hs' = .row bg 4 [iv g.round, iv g.letter, iv g.leaves, g.ch.v] :: C := by
  have hlt := (List.getElem?_eq_some_iff.1 hi).1
  refine TF.enter (fn := Go.Proofs.Try.f80) rfl rfl rfl rfl rfl ?_
  refine T.seq ?_
  refine T.text rfl ?_
  refine TO.box (k := 3) (cells := [_, _, _]) rfl rfl rfl rfl rfl rfl rfl (fun b4 => ?_)
  refine TO.val rfl rfl rfl (Val.assign rfl) ?_
  refine TO.nil ?_
  refine T.seq ?_
  refine T.text rfl ?_
  refine TO.val rfl rfl rfl (Val.assign rfl) ?_
  refine TO.val rfl rfl rfl (Val.assign rfl) ?_
  refine TO.nil ?_
  refine T.seq ?_
  refine T.seq ?_
  refine T.text rfl ?_
  refine TO.val rfl rfl rfl (Val.load_rows (p := 0) (c := [_, _, _]) rfl ⟨⟨_, rfl, rfl⟩, rfl, by decide⟩ rfl rfl rfl rfl) ?_
  refine TO.callIn rfl rfl rfl rfl rfl rfl (orcN rfl) ?_
  refine TF.enter (fn := Go.Proofs.Try.f81) rfl rfl rfl rfl rfl ?_
  refine T.seq ?_
  refine T.text rfl ?_
  refine TO.box (k := 3) (cells := [_, _, _]) rfl rfl rfl rfl rfl rfl rfl (fun b1 => ?_)
  refine TO.val rfl rfl rfl (Val.assign rfl) ?_
  refine TO.nil ?_
  refine T.seq ?_
  refine T.seq ?_
  refine T.text rfl ?_
  refine TO.val rfl rfl rfl (Val.faddr_ptr (fo := 0) rfl rfl rfl) ?_
  refine TO.val rfl rfl rfl (Val.load_row (p := 0) rfl ⟨_, rfl, rfl⟩ rfl rfl rfl) ?_
  refine TO.nil ?_
  refine T.block ?_
  refine T.seq ?_
  refine T.text rfl ?_
  refine TO.eql rfl rfl rfl rfl rfl (fun c6 hc6 => ?_)
  refine TO.val rfl rfl rfl (Val.assign rfl) ?_
  refine TO.nil ?_
  cases c6 with
  | true =>
    replace hc6 := btrue hc6
    refine T.condT (fun a ha => ha.ev (.tmp 5) _ rfl) ?_
    refine T.seq ?_
    refine T.text rfl ?_
    refine TO.val rfl rfl rfl (Val.faddr_ptr (fo := 1) rfl rfl rfl) ?_
    refine TO.val rfl rfl rfl (Val.load_row (p := 0) rfl ⟨_, rfl, rfl⟩ rfl rfl rfl) ?_
    refine TO.val rfl rfl rfl (Val.build (cs := [_]) (vs := [(_, _)]) rfl rfl rfl) ?_
    refine TO.val rfl rfl rfl (Val.makeIface rfl rfl rfl) ?_
    refine TO.val rfl rfl rfl (Val.assign rfl) ?_
    refine TO.nil ?_
    refine T.ret ?_
    refine ⟨rfl, _, rfl, ?_⟩
    refine TO.nil ?_
    refine T.block ?_
    refine T.seq ?_
    refine T.text rfl ?_
    refine TO.val rfl rfl rfl (Val.bin (r := bv false) rfl rfl (by kernel_rfl)) ?_
    refine TO.nil ?_
    refine T.condF (fun a ha => ha.ev (.tmp 11) _ rfl) ?_
    refine T.seq ?_
    refine T.text rfl ?_
    refine TO.val rfl rfl rfl (Val.assert_no rfl rfl rfl rfl rfl) ?_
    refine TO.val rfl rfl rfl (Val.extract rfl rfl) ?_
    refine TO.val rfl rfl rfl (Val.extract rfl rfl) ?_
    refine TO.nil ?_
    refine T.condF (fun a ha => ha.ev (.tmp 13) _ rfl) ?_
    refine T.skip ?_
    refine T.seq ?_
    refine T.seq ?_
    refine T.text rfl ?_
    refine TO.val rfl rfl rfl (Val.move rfl) ?_
    refine TO.val rfl rfl rfl (Val.faddr_ptr (fo := 2) rfl rfl rfl) ?_
    refine TO.val rfl rfl rfl (Val.load_row (p := 2) rfl ⟨_, rfl, rfl⟩ rfl rfl rfl) ?_
    refine TO.val rfl rfl rfl (Val.faddr_ptr (fo := 1) rfl rfl rfl) ?_
    refine TO.val rfl rfl rfl (Val.load_row (p := 1) rfl ⟨_, rfl, rfl⟩ rfl rfl rfl) ?_
    refine TO.build1 (en := encI) (a := _) rfl rfl rfl ⟨rfl, rfl⟩ ⟨_, rfl, rfl⟩ (by decide) (by decide) rfl rfl (fun v20 => ?_)
    refine TO.callD rfl rfl rfl rfl rfl (orcL rfl (by first | decide | omega)) (.cons .lit (.cons .lit (.cons (.ownL (p := 0) rfl .ints) .nil))) (sem_of (q_out _ _ _ (by exact out1_small))) (fun c21 hc21 => ?_)
    replace hc21 := out1 hc21
    refine TO.val rfl rfl rfl (Val.move rfl) ?_
    cases c21 with
    | true =>
      replace hc21 := btrue hc21
      refine TO.off rfl rfl rfl ?_
      refine TO.off rfl rfl rfl ?_
      refine TO.off rfl rfl rfl ?_
      refine TO.off rfl rfl rfl ?_
      refine TO.off rfl rfl rfl ?_
      refine TO.off rfl rfl rfl ?_
      refine TO.off rfl rfl rfl ?_
      refine TO.val rfl rfl rfl (Val.pick rfl rfl rfl) ?_
      refine TO.nil ?_
      refine T.condT (fun a ha => ha.ev (.tmp 30) _ rfl) ?_
      refine T.seq ?_
      refine T.text rfl ?_
      refine TO.val rfl rfl rfl (Val.assign rfl) ?_
      refine TO.nil ?_
      refine T.keep (s' := ⟨[], [(5, _)], _ :: C⟩) ⟨rfl, (keep_cons rfl keep_nil), (.cons _ (.cons _ (.cons _ (.cons_cons _ (.refl _)))))⟩ ?_
      refine T.ret ?_
      exact ⟨rfl, _, rfl, congrArg iv (by first | (simp_all [chgErr, inR]; done) | (simp_all [chgErr, inR]; omega)), rfl⟩
    | false =>
      replace hc21 := bfalse hc21
      refine TO.val rfl rfl rfl (Val.move rfl) ?_
      refine TO.bmin rfl rfl rfl rfl rfl ?_
      refine TO.val rfl rfl rfl (Val.move rfl) ?_
      refine TO.val rfl rfl rfl (Val.faddr_ptr (fo := 2) rfl rfl rfl) ?_
      refine TO.val rfl rfl rfl (Val.load_row (p := 2) rfl ⟨_, rfl, rfl⟩ rfl rfl rfl) ?_
      refine TO.build1 (en := encI) (a := _) rfl rfl rfl ⟨rfl, rfl⟩ ⟨_, rfl, rfl⟩ (by decide) (by decide) rfl rfl (fun v28 => ?_)
      refine TO.callD rfl rfl rfl rfl rfl (orcL rfl (by first | decide | omega)) (.cons .lit (.cons .lit (.cons (.ownL (p := 0) rfl .ints) .nil))) (sem_of (q_out _ _ _ (by exact out1_small))) (fun c29 hc29 => ?_)
      replace hc29 := out1 hc29
      refine TO.val rfl rfl rfl (Val.pick rfl rfl rfl) ?_
      refine TO.nil ?_
      cases c29 with
      | true =>
        replace hc29 := btrue hc29
        refine T.condT (fun a ha => ha.ev (.tmp 30) _ rfl) ?_
        refine T.seq ?_
        refine T.text rfl ?_
        refine TO.val rfl rfl rfl (Val.assign rfl) ?_
        refine TO.nil ?_
        refine T.keep (s' := ⟨[], [(5, _)], _ :: C⟩) ⟨rfl, (keep_cons rfl keep_nil), (.cons _ (.cons _ (.cons _ (.cons _ (.cons_cons _ (.refl _))))))⟩ ?_
        refine T.ret ?_
        exact ⟨rfl, _, rfl, congrArg iv (by first | (simp_all [chgErr, inR]; done) | (simp_all [chgErr, inR]; omega)), rfl⟩
      | false =>
        replace hc29 := bfalse hc29
        refine T.condF (fun a ha => ha.ev (.tmp 30) _ rfl) ?_
        refine T.skip ?_
        refine T.seq ?_
        refine T.seq ?_
        refine T.text rfl ?_
        refine TO.val rfl rfl rfl (Val.move rfl) ?_
        refine TO.gtr rfl rfl rfl rfl rfl (fun c32 hc32 => ?_)
        refine TO.nil ?_
        cases c32 with
        | true =>
          replace hc32 := btrue hc32
          have hi0 : ¬ i = 0 := by omega
          refine T.condT (fun a ha => ha.ev (.tmp 32) _ rfl) ?_
          refine T.seq ?_
          refine T.text rfl ?_
          refine TO.val rfl rfl rfl (Val.faddr_ptr (fo := 3) rfl rfl rfl) ?_
          refine TO.val rfl rfl rfl (Val.load_row (p := 4) rfl ⟨_, rfl, rfl⟩ rfl rfl rfl) ?_
          refine TO.val rfl rfl rfl (Val.move rfl) ?_
          refine TO.val rfl rfl rfl (Val.sub rfl rfl (by omega)) ?_
          refine TO.index_gs rfl rfl rfl ⟨rfl, rfl⟩ rfl rfl (by omega) (fun a37 ra37 ea37 => ?_)
          try simp only [Int.toNat_natCast] at ea37
          have e37 : ((i : Int) - 1).toNat = i - 1 := by omega
          rw [e37] at ea37
          refine TO.val rfl rfl rfl (Val.load_trees (c := _) ⟨⟨_, rfl, rfl⟩, rfl, by decide⟩ rfl rfl) ?_
          refine TO.alloc (k := 3) (cells := [_, _, _]) rfl rfl rfl rfl rfl rfl rfl (fun b8 => ?_)
          refine TO.store_row (p := 0) (cv := [_, _, _]) (cells' := [_, _, _]) rfl rfl rfl rfl rfl rfl rfl rfl rfl rfl (by first | rfl | simp [GS.one]) (by decide) rfl ?_
          refine TO.things (hs' := _ :: _ :: _ :: _ :: _ :: _ :: C) rfl ?_
          refine TO.nil ?_
          refine T.seq ?_
          refine T.text rfl ?_
          refine TO.val rfl rfl rfl (Val.faddr_ptr (fo := 1) rfl rfl rfl) ?_
          refine TO.val rfl rfl rfl (Val.load_row (p := 4) rfl ⟨_, rfl, rfl⟩ rfl rfl rfl) ?_
          refine TO.val rfl rfl rfl (Val.faddr_ptr (fo := 1) rfl rfl rfl) ?_
          refine TO.val rfl rfl rfl (Val.load_row (p := 0) rfl ⟨_, rfl, rfl⟩ rfl rfl rfl) ?_
          refine TO.lss rfl rfl rfl rfl rfl (fun c43 hc43 => ?_)
          refine TO.val rfl rfl rfl (Val.move rfl) ?_
          cases c43 with
          | true =>
            replace hc43 := btrue hc43
            refine TO.off rfl rfl rfl ?_
            refine TO.off rfl rfl rfl ?_
            refine TO.off rfl rfl rfl ?_
            refine TO.off rfl rfl rfl ?_
            refine TO.off rfl rfl rfl ?_
            refine TO.off rfl rfl rfl ?_
            refine TO.off rfl rfl rfl ?_
            refine TO.off rfl rfl rfl ?_
            refine TO.off rfl rfl rfl ?_
            refine TO.off rfl rfl rfl ?_
            refine TO.off rfl rfl rfl ?_
            refine TO.off rfl rfl rfl ?_
            refine TO.off rfl rfl rfl ?_
            refine TO.off rfl rfl rfl ?_
            refine TO.off rfl rfl rfl ?_
            refine TO.val rfl rfl rfl (Val.pick rfl rfl rfl) ?_
            refine TO.nil ?_
            refine T.condT (fun a ha => ha.ev (.tmp 60) _ rfl) ?_
            refine T.seq ?_
            refine T.text rfl ?_
            refine TO.val rfl rfl rfl (Val.assign rfl) ?_
            refine TO.nil ?_
            refine T.keep (s' := ⟨[], [(5, _)], _ :: C⟩) ⟨rfl, (keep_cons rfl keep_nil), (.cons _ (.cons _ (.cons _ (.cons _ (.cons _ (.cons_cons _ (.refl _)))))))⟩ ?_
            refine T.ret ?_
            exact ⟨rfl, _, rfl, congrArg iv (by first | (simp_all [chgErr, inR]; done) | (simp_all [chgErr, inR]; omega)), rfl⟩
          | false =>
            replace hc43 := bfalse hc43
            refine TO.val rfl rfl rfl (Val.faddr_ptr (fo := 1) rfl rfl rfl) ?_
            refine TO.val rfl rfl rfl (Val.load_row (p := 4) rfl ⟨_, rfl, rfl⟩ rfl rfl rfl) ?_
            refine TO.val rfl rfl rfl (Val.faddr_ptr (fo := 1) rfl rfl rfl) ?_
            refine TO.val rfl rfl rfl (Val.load_row (p := 0) rfl ⟨_, rfl, rfl⟩ rfl rfl rfl) ?_
            refine TO.eql rfl rfl rfl rfl rfl (fun c49 hc49 => ?_)
            refine TO.val rfl rfl rfl (Val.move rfl) ?_
            cases c49 with
            | true =>
              replace hc49 := btrue hc49
              refine TO.val rfl rfl rfl (Val.faddr_ptr (fo := 0) rfl rfl rfl) ?_
              refine TO.val rfl rfl rfl (Val.load_row (p := 4) rfl ⟨_, rfl, rfl⟩ rfl rfl rfl) ?_
              refine TO.neq rfl rfl rfl rfl rfl (fun c53 hc53 => ?_)
              refine TO.val rfl rfl rfl (Val.move rfl) ?_
              cases c53 with
              | true =>
                replace hc53 := btrue hc53
                refine TO.off rfl rfl rfl ?_
                refine TO.off rfl rfl rfl ?_
                refine TO.off rfl rfl rfl ?_
                refine TO.val rfl rfl rfl (Val.pick rfl rfl rfl) ?_
                refine TO.val rfl rfl rfl (Val.pick rfl rfl rfl) ?_
                refine TO.val rfl rfl rfl (Val.pick rfl rfl rfl) ?_
                refine TO.nil ?_
                refine T.condT (fun a ha => ha.ev (.tmp 60) _ rfl) ?_
                refine T.seq ?_
                refine T.text rfl ?_
                refine TO.val rfl rfl rfl (Val.assign rfl) ?_
                refine TO.nil ?_
                refine T.keep (s' := ⟨[], [(5, _)], _ :: C⟩) ⟨rfl, (keep_cons rfl keep_nil), (.cons _ (.cons _ (.cons _ (.cons _ (.cons _ (.cons_cons _ (.refl _)))))))⟩ ?_
                refine T.ret ?_
                exact ⟨rfl, _, rfl, congrArg iv (by first | (simp_all [chgErr, inR]; done) | (simp_all [chgErr, inR]; omega)), rfl⟩
              | false =>
                replace hc53 := bfalse hc53
                refine TO.val rfl rfl rfl (Val.faddr_ptr (fo := 0) rfl rfl rfl) ?_
                refine TO.val rfl rfl rfl (Val.load_row (p := 0) rfl ⟨_, rfl, rfl⟩ rfl rfl rfl) ?_
                refine TO.eql rfl rfl rfl rfl rfl (fun c57 hc57 => ?_)
                refine TO.val rfl rfl rfl (Val.pick rfl rfl rfl) ?_
                refine TO.val rfl rfl rfl (Val.pick rfl rfl rfl) ?_
                refine TO.val rfl rfl rfl (Val.pick rfl rfl rfl) ?_
                refine TO.nil ?_
                cases c57 with
                | true =>
                  replace hc57 := btrue hc57
                  refine T.condT (fun a ha => ha.ev (.tmp 60) _ rfl) ?_
                  refine T.seq ?_
                  refine T.text rfl ?_
                  refine TO.val rfl rfl rfl (Val.assign rfl) ?_
                  refine TO.nil ?_
                  refine T.keep (s' := ⟨[], [(5, _)], _ :: C⟩) ⟨rfl, (keep_cons rfl keep_nil), (.cons _ (.cons _ (.cons _ (.cons _ (.cons _ (.cons_cons _ (.refl _)))))))⟩ ?_
                  refine T.ret ?_
                  exact ⟨rfl, _, rfl, congrArg iv (by first | (simp_all [chgErr, inR]; done) | (simp_all [chgErr, inR]; omega)), rfl⟩
                | false =>
                  replace hc57 := bfalse hc57
                  refine T.condF (fun a ha => ha.ev (.tmp 60) _ rfl) ?_
                  refine T.skip ?_
                  refine T.seq ?_
                  refine T.text rfl ?_
                  refine TO.val rfl rfl rfl (Val.assign rfl) ?_
                  refine TO.nil ?_
                  refine T.keep (s' := ⟨[], [(5, _)], _ :: C⟩) ⟨rfl, (keep_cons rfl keep_nil), (.cons _ (.cons _ (.cons _ (.cons _ (.cons _ (.cons_cons _ (.refl _)))))))⟩ ?_
                  refine T.ret ?_
                  exact ⟨rfl, _, rfl, congrArg iv (by first | (simp_all [chgErr, inR]; done) | (simp_all [chgErr, inR]; omega)), rfl⟩
            | false =>
              replace hc49 := bfalse hc49
              refine TO.off rfl rfl rfl ?_
              refine TO.off rfl rfl rfl ?_
              refine TO.off rfl rfl rfl ?_
              refine TO.off rfl rfl rfl ?_
              refine TO.off rfl rfl rfl ?_
              refine TO.off rfl rfl rfl ?_
              refine TO.off rfl rfl rfl ?_
              refine TO.off rfl rfl rfl ?_
              refine TO.val rfl rfl rfl (Val.pick rfl rfl rfl) ?_
              refine TO.val rfl rfl rfl (Val.pick rfl rfl rfl) ?_
              refine TO.nil ?_
              refine T.condF (fun a ha => ha.ev (.tmp 60) _ rfl) ?_
              refine T.skip ?_
              refine T.seq ?_
              refine T.text rfl ?_
              refine TO.val rfl rfl rfl (Val.assign rfl) ?_
              refine TO.nil ?_
              refine T.keep (s' := ⟨[], [(5, _)], _ :: C⟩) ⟨rfl, (keep_cons rfl keep_nil), (.cons _ (.cons _ (.cons _ (.cons _ (.cons _ (.cons_cons _ (.refl _)))))))⟩ ?_
              refine T.ret ?_
              exact ⟨rfl, _, rfl, congrArg iv (by first | (simp_all [chgErr, inR]; done) | (simp_all [chgErr, inR]; omega)), rfl⟩
        | false =>
          replace hc32 := bfalse hc32
          have hi0 : i = 0 := by omega
          refine T.condF (fun a ha => ha.ev (.tmp 32) _ rfl) ?_
          refine T.skip ?_
          refine T.seq ?_
          refine T.text rfl ?_
          refine TO.val rfl rfl rfl (Val.assign rfl) ?_
          refine TO.nil ?_
          refine T.keep (s' := ⟨[], [(5, _)], _ :: C⟩) ⟨rfl, (keep_cons rfl keep_nil), (.cons _ (.cons _ (.cons _ (.cons _ (.cons_cons _ (.refl _))))))⟩ ?_
          refine T.ret ?_
          exact ⟨rfl, _, rfl, congrArg iv (by first | (simp_all [chgErr, inR]; done) | (simp_all [chgErr, inR]; omega)), rfl⟩
  | false =>
    replace hc6 := bfalse hc6
    refine T.condF (fun a ha => ha.ev (.tmp 5) _ rfl) ?_
    refine T.seq ?_
    refine T.text rfl ?_
    refine TO.eql rfl rfl rfl rfl rfl (fun c12 hc12 => ?_)
    refine TO.val rfl rfl rfl (Val.assign rfl) ?_
    refine TO.nil ?_
    cases c12 with
    | true =>
      replace hc12 := btrue hc12
      refine T.condT (fun a ha => ha.ev (.tmp 11) _ rfl) ?_
      refine T.seq ?_
      refine T.text rfl ?_
      refine TO.val rfl rfl rfl (Val.faddr_ptr (fo := 1) rfl rfl rfl) ?_
      refine TO.val rfl rfl rfl (Val.load_row (p := 0) rfl ⟨_, rfl, rfl⟩ rfl rfl rfl) ?_
      refine TO.val rfl rfl rfl (Val.build (cs := [_]) (vs := [(_, _)]) rfl rfl rfl) ?_
      refine TO.val rfl rfl rfl (Val.makeIface rfl rfl rfl) ?_
      refine TO.val rfl rfl rfl (Val.assign rfl) ?_
      refine TO.nil ?_
      refine T.ret ?_
      refine ⟨rfl, _, rfl, ?_⟩
      refine TO.nil ?_
      refine T.block ?_
      refine T.seq ?_
      refine T.text rfl ?_
      refine TO.val rfl rfl rfl (Val.bin (r := bv false) rfl rfl (by kernel_rfl)) ?_
      refine TO.nil ?_
      refine T.condF (fun a ha => ha.ev (.tmp 11) _ rfl) ?_
      refine T.seq ?_
      refine T.text rfl ?_
      refine TO.val rfl rfl rfl (Val.assert_no rfl rfl rfl rfl rfl) ?_
      refine TO.val rfl rfl rfl (Val.extract rfl rfl) ?_
      refine TO.val rfl rfl rfl (Val.extract rfl rfl) ?_
      refine TO.nil ?_
      refine T.condF (fun a ha => ha.ev (.tmp 13) _ rfl) ?_
      refine T.skip ?_
      refine T.seq ?_
      refine T.seq ?_
      refine T.text rfl ?_
      refine TO.val rfl rfl rfl (Val.move rfl) ?_
      refine TO.val rfl rfl rfl (Val.faddr_ptr (fo := 2) rfl rfl rfl) ?_
      refine TO.val rfl rfl rfl (Val.load_row (p := 2) rfl ⟨_, rfl, rfl⟩ rfl rfl rfl) ?_
      refine TO.val rfl rfl rfl (Val.faddr_ptr (fo := 1) rfl rfl rfl) ?_
      refine TO.val rfl rfl rfl (Val.load_row (p := 1) rfl ⟨_, rfl, rfl⟩ rfl rfl rfl) ?_
      refine TO.build1 (en := encI) (a := _) rfl rfl rfl ⟨rfl, rfl⟩ ⟨_, rfl, rfl⟩ (by decide) (by decide) rfl rfl (fun v20 => ?_)
      refine TO.callD rfl rfl rfl rfl rfl (orcL rfl (by first | decide | omega)) (.cons .lit (.cons .lit (.cons (.ownL (p := 0) rfl .ints) .nil))) (sem_of (q_out _ _ _ (by exact out1_small))) (fun c21 hc21 => ?_)
      replace hc21 := out1 hc21
      refine TO.val rfl rfl rfl (Val.move rfl) ?_
      cases c21 with
      | true =>
        replace hc21 := btrue hc21
        refine TO.off rfl rfl rfl ?_
        refine TO.off rfl rfl rfl ?_
        refine TO.off rfl rfl rfl ?_
        refine TO.off rfl rfl rfl ?_
        refine TO.off rfl rfl rfl ?_
        refine TO.off rfl rfl rfl ?_
        refine TO.off rfl rfl rfl ?_
        refine TO.val rfl rfl rfl (Val.pick rfl rfl rfl) ?_
        refine TO.nil ?_
        refine T.condT (fun a ha => ha.ev (.tmp 30) _ rfl) ?_
        refine T.seq ?_
        refine T.text rfl ?_
        refine TO.val rfl rfl rfl (Val.assign rfl) ?_
        refine TO.nil ?_
        refine T.keep (s' := ⟨[], [(5, _)], _ :: C⟩) ⟨rfl, (keep_cons rfl keep_nil), (.cons _ (.cons _ (.cons _ (.cons_cons _ (.refl _)))))⟩ ?_
        refine T.ret ?_
        exact ⟨rfl, _, rfl, congrArg iv (by first | (simp_all [chgErr, inR]; done) | (simp_all [chgErr, inR]; omega)), rfl⟩
      | false =>
        replace hc21 := bfalse hc21
        refine TO.val rfl rfl rfl (Val.move rfl) ?_
        refine TO.bmin rfl rfl rfl rfl rfl ?_
        refine TO.val rfl rfl rfl (Val.move rfl) ?_
        refine TO.val rfl rfl rfl (Val.faddr_ptr (fo := 2) rfl rfl rfl) ?_
        refine TO.val rfl rfl rfl (Val.load_row (p := 2) rfl ⟨_, rfl, rfl⟩ rfl rfl rfl) ?_
        refine TO.build1 (en := encI) (a := _) rfl rfl rfl ⟨rfl, rfl⟩ ⟨_, rfl, rfl⟩ (by decide) (by decide) rfl rfl (fun v28 => ?_)
        refine TO.callD rfl rfl rfl rfl rfl (orcL rfl (by first | decide | omega)) (.cons .lit (.cons .lit (.cons (.ownL (p := 0) rfl .ints) .nil))) (sem_of (q_out _ _ _ (by exact out1_small))) (fun c29 hc29 => ?_)
        replace hc29 := out1 hc29
        refine TO.val rfl rfl rfl (Val.pick rfl rfl rfl) ?_
        refine TO.nil ?_
        cases c29 with
        | true =>
          replace hc29 := btrue hc29
          refine T.condT (fun a ha => ha.ev (.tmp 30) _ rfl) ?_
          refine T.seq ?_
          refine T.text rfl ?_
          refine TO.val rfl rfl rfl (Val.assign rfl) ?_
          refine TO.nil ?_
          refine T.keep (s' := ⟨[], [(5, _)], _ :: C⟩) ⟨rfl, (keep_cons rfl keep_nil), (.cons _ (.cons _ (.cons _ (.cons _ (.cons_cons _ (.refl _))))))⟩ ?_
          refine T.ret ?_
          exact ⟨rfl, _, rfl, congrArg iv (by first | (simp_all [chgErr, inR]; done) | (simp_all [chgErr, inR]; omega)), rfl⟩
        | false =>
          replace hc29 := bfalse hc29
          refine T.condF (fun a ha => ha.ev (.tmp 30) _ rfl) ?_
          refine T.skip ?_
          refine T.seq ?_
          refine T.seq ?_
          refine T.text rfl ?_
          refine TO.val rfl rfl rfl (Val.move rfl) ?_
          refine TO.gtr rfl rfl rfl rfl rfl (fun c32 hc32 => ?_)
          refine TO.nil ?_
          cases c32 with
          | true =>
            replace hc32 := btrue hc32
            have hi0 : ¬ i = 0 := by omega
            refine T.condT (fun a ha => ha.ev (.tmp 32) _ rfl) ?_
            refine T.seq ?_
            refine T.text rfl ?_
            refine TO.val rfl rfl rfl (Val.faddr_ptr (fo := 3) rfl rfl rfl) ?_
            refine TO.val rfl rfl rfl (Val.load_row (p := 4) rfl ⟨_, rfl, rfl⟩ rfl rfl rfl) ?_
            refine TO.val rfl rfl rfl (Val.move rfl) ?_
            refine TO.val rfl rfl rfl (Val.sub rfl rfl (by omega)) ?_
            refine TO.index_gs rfl rfl rfl ⟨rfl, rfl⟩ rfl rfl (by omega) (fun a37 ra37 ea37 => ?_)
            try simp only [Int.toNat_natCast] at ea37
            have e37 : ((i : Int) - 1).toNat = i - 1 := by omega
            rw [e37] at ea37
            refine TO.val rfl rfl rfl (Val.load_trees (c := _) ⟨⟨_, rfl, rfl⟩, rfl, by decide⟩ rfl rfl) ?_
            refine TO.alloc (k := 3) (cells := [_, _, _]) rfl rfl rfl rfl rfl rfl rfl (fun b8 => ?_)
            refine TO.store_row (p := 0) (cv := [_, _, _]) (cells' := [_, _, _]) rfl rfl rfl rfl rfl rfl rfl rfl rfl rfl (by first | rfl | simp [GS.one]) (by decide) rfl ?_
            refine TO.things (hs' := _ :: _ :: _ :: _ :: _ :: _ :: C) rfl ?_
            refine TO.nil ?_
            refine T.seq ?_
            refine T.text rfl ?_
            refine TO.val rfl rfl rfl (Val.faddr_ptr (fo := 1) rfl rfl rfl) ?_
            refine TO.val rfl rfl rfl (Val.load_row (p := 4) rfl ⟨_, rfl, rfl⟩ rfl rfl rfl) ?_
            refine TO.val rfl rfl rfl (Val.faddr_ptr (fo := 1) rfl rfl rfl) ?_
            refine TO.val rfl rfl rfl (Val.load_row (p := 0) rfl ⟨_, rfl, rfl⟩ rfl rfl rfl) ?_
            refine TO.lss rfl rfl rfl rfl rfl (fun c43 hc43 => ?_)
            refine TO.val rfl rfl rfl (Val.move rfl) ?_
            cases c43 with
            | true =>
              replace hc43 := btrue hc43
              refine TO.off rfl rfl rfl ?_
              refine TO.off rfl rfl rfl ?_
              refine TO.off rfl rfl rfl ?_
              refine TO.off rfl rfl rfl ?_
              refine TO.off rfl rfl rfl ?_
              refine TO.off rfl rfl rfl ?_
              refine TO.off rfl rfl rfl ?_
              refine TO.off rfl rfl rfl ?_
              refine TO.off rfl rfl rfl ?_
              refine TO.off rfl rfl rfl ?_
              refine TO.off rfl rfl rfl ?_
              refine TO.off rfl rfl rfl ?_
              refine TO.off rfl rfl rfl ?_
              refine TO.off rfl rfl rfl ?_
              refine TO.off rfl rfl rfl ?_
              refine TO.val rfl rfl rfl (Val.pick rfl rfl rfl) ?_
              refine TO.nil ?_
              refine T.condT (fun a ha => ha.ev (.tmp 60) _ rfl) ?_
              refine T.seq ?_
              refine T.text rfl ?_
              refine TO.val rfl rfl rfl (Val.assign rfl) ?_
              refine TO.nil ?_
              refine T.keep (s' := ⟨[], [(5, _)], _ :: C⟩) ⟨rfl, (keep_cons rfl keep_nil), (.cons _ (.cons _ (.cons _ (.cons _ (.cons _ (.cons_cons _ (.refl _)))))))⟩ ?_
              refine T.ret ?_
              exact ⟨rfl, _, rfl, congrArg iv (by first | (simp_all [chgErr, inR]; done) | (simp_all [chgErr, inR]; omega)), rfl⟩
            | false =>
              replace hc43 := bfalse hc43
              refine TO.val rfl rfl rfl (Val.faddr_ptr (fo := 1) rfl rfl rfl) ?_
              refine TO.val rfl rfl rfl (Val.load_row (p := 4) rfl ⟨_, rfl, rfl⟩ rfl rfl rfl) ?_
              refine TO.val rfl rfl rfl (Val.faddr_ptr (fo := 1) rfl rfl rfl) ?_
              refine TO.val rfl rfl rfl (Val.load_row (p := 0) rfl ⟨_, rfl, rfl⟩ rfl rfl rfl) ?_
              refine TO.eql rfl rfl rfl rfl rfl (fun c49 hc49 => ?_)
              refine TO.val rfl rfl rfl (Val.move rfl) ?_
              cases c49 with
              | true =>
                replace hc49 := btrue hc49
                refine TO.val rfl rfl rfl (Val.faddr_ptr (fo := 0) rfl rfl rfl) ?_
                refine TO.val rfl rfl rfl (Val.load_row (p := 4) rfl ⟨_, rfl, rfl⟩ rfl rfl rfl) ?_
                refine TO.neq rfl rfl rfl rfl rfl (fun c53 hc53 => ?_)
                refine TO.val rfl rfl rfl (Val.move rfl) ?_
                cases c53 with
                | true =>
                  replace hc53 := btrue hc53
                  refine TO.off rfl rfl rfl ?_
                  refine TO.off rfl rfl rfl ?_
                  refine TO.off rfl rfl rfl ?_
                  refine TO.val rfl rfl rfl (Val.pick rfl rfl rfl) ?_
                  refine TO.val rfl rfl rfl (Val.pick rfl rfl rfl) ?_
                  refine TO.val rfl rfl rfl (Val.pick rfl rfl rfl) ?_
                  refine TO.nil ?_
                  refine T.condT (fun a ha => ha.ev (.tmp 60) _ rfl) ?_
                  refine T.seq ?_
                  refine T.text rfl ?_
                  refine TO.val rfl rfl rfl (Val.assign rfl) ?_
                  refine TO.nil ?_
                  refine T.keep (s' := ⟨[], [(5, _)], _ :: C⟩) ⟨rfl, (keep_cons rfl keep_nil), (.cons _ (.cons _ (.cons _ (.cons _ (.cons _ (.cons_cons _ (.refl _)))))))⟩ ?_
                  refine T.ret ?_
                  exact ⟨rfl, _, rfl, congrArg iv (by first | (simp_all [chgErr, inR]; done) | (simp_all [chgErr, inR]; omega)), rfl⟩
                | false =>
                  replace hc53 := bfalse hc53
                  refine TO.val rfl rfl rfl (Val.faddr_ptr (fo := 0) rfl rfl rfl) ?_
                  refine TO.val rfl rfl rfl (Val.load_row (p := 0) rfl ⟨_, rfl, rfl⟩ rfl rfl rfl) ?_
                  refine TO.eql rfl rfl rfl rfl rfl (fun c57 hc57 => ?_)
                  refine TO.val rfl rfl rfl (Val.pick rfl rfl rfl) ?_
                  refine TO.val rfl rfl rfl (Val.pick rfl rfl rfl) ?_
                  refine TO.val rfl rfl rfl (Val.pick rfl rfl rfl) ?_
                  refine TO.nil ?_
                  cases c57 with
                  | true =>
                    replace hc57 := btrue hc57
                    refine T.condT (fun a ha => ha.ev (.tmp 60) _ rfl) ?_
                    refine T.seq ?_
                    refine T.text rfl ?_
                    refine TO.val rfl rfl rfl (Val.assign rfl) ?_
                    refine TO.nil ?_
                    refine T.keep (s' := ⟨[], [(5, _)], _ :: C⟩) ⟨rfl, (keep_cons rfl keep_nil), (.cons _ (.cons _ (.cons _ (.cons _ (.cons _ (.cons_cons _ (.refl _)))))))⟩ ?_
                    refine T.ret ?_
                    exact ⟨rfl, _, rfl, congrArg iv (by first | (simp_all [chgErr, inR]; done) | (simp_all [chgErr, inR]; omega)), rfl⟩
                  | false =>
                    replace hc57 := bfalse hc57
                    refine T.condF (fun a ha => ha.ev (.tmp 60) _ rfl) ?_
                    refine T.skip ?_
                    refine T.seq ?_
                    refine T.text rfl ?_
                    refine TO.val rfl rfl rfl (Val.assign rfl) ?_
                    refine TO.nil ?_
                    refine T.keep (s' := ⟨[], [(5, _)], _ :: C⟩) ⟨rfl, (keep_cons rfl keep_nil), (.cons _ (.cons _ (.cons _ (.cons _ (.cons _ (.cons_cons _ (.refl _)))))))⟩ ?_
                    refine T.ret ?_
                    exact ⟨rfl, _, rfl, congrArg iv (by first | (simp_all [chgErr, inR]; done) | (simp_all [chgErr, inR]; omega)), rfl⟩
              | false =>
                replace hc49 := bfalse hc49
                refine TO.off rfl rfl rfl ?_
                refine TO.off rfl rfl rfl ?_
                refine TO.off rfl rfl rfl ?_
                refine TO.off rfl rfl rfl ?_
                refine TO.off rfl rfl rfl ?_
                refine TO.off rfl rfl rfl ?_
                refine TO.off rfl rfl rfl ?_
                refine TO.off rfl rfl rfl ?_
                refine TO.val rfl rfl rfl (Val.pick rfl rfl rfl) ?_
                refine TO.val rfl rfl rfl (Val.pick rfl rfl rfl) ?_
                refine TO.nil ?_
                refine T.condF (fun a ha => ha.ev (.tmp 60) _ rfl) ?_
                refine T.skip ?_
                refine T.seq ?_
                refine T.text rfl ?_
                refine TO.val rfl rfl rfl (Val.assign rfl) ?_
                refine TO.nil ?_
                refine T.keep (s' := ⟨[], [(5, _)], _ :: C⟩) ⟨rfl, (keep_cons rfl keep_nil), (.cons _ (.cons _ (.cons _ (.cons _ (.cons _ (.cons_cons _ (.refl _)))))))⟩ ?_
                refine T.ret ?_
                exact ⟨rfl, _, rfl, congrArg iv (by first | (simp_all [chgErr, inR]; done) | (simp_all [chgErr, inR]; omega)), rfl⟩
          | false =>
            replace hc32 := bfalse hc32
            have hi0 : i = 0 := by omega
            refine T.condF (fun a ha => ha.ev (.tmp 32) _ rfl) ?_
            refine T.skip ?_
            refine T.seq ?_
            refine T.text rfl ?_
            refine TO.val rfl rfl rfl (Val.assign rfl) ?_
            refine TO.nil ?_
            refine T.keep (s' := ⟨[], [(5, _)], _ :: C⟩) ⟨rfl, (keep_cons rfl keep_nil), (.cons _ (.cons _ (.cons _ (.cons _ (.cons_cons _ (.refl _))))))⟩ ?_
            refine T.ret ?_
            exact ⟨rfl, _, rfl, congrArg iv (by first | (simp_all [chgErr, inR]; done) | (simp_all [chgErr, inR]; omega)), rfl⟩
    | false =>
      replace hc12 := bfalse hc12
      refine T.condF (fun a ha => ha.ev (.tmp 11) _ rfl) ?_
      refine T.seq ?_
      refine T.text rfl ?_
      refine TO.eql rfl rfl rfl rfl rfl (fun c18 hc18 => ?_)
      refine TO.val rfl rfl rfl (Val.assign rfl) ?_
      refine TO.nil ?_
      cases c18 with
      | true =>
        replace hc18 := btrue hc18
        refine T.condT (fun a ha => ha.ev (.tmp 17) _ rfl) ?_
        refine T.seq ?_
        refine T.text rfl ?_
        refine TO.val rfl rfl rfl (Val.faddr_ptr (fo := 1) rfl rfl rfl) ?_
        refine TO.val rfl rfl rfl (Val.load_row (p := 0) rfl ⟨_, rfl, rfl⟩ rfl rfl rfl) ?_
        refine TO.val rfl rfl rfl (Val.faddr_ptr (fo := 2) rfl rfl rfl) ?_
        refine TO.val rfl rfl rfl (Val.load_row (p := 0) rfl ⟨_, rfl, rfl⟩ rfl rfl rfl) ?_
        refine TO.val rfl rfl rfl (Val.build (cs := [_, _]) (vs := [(_, _), (_, _)]) rfl rfl rfl) ?_
        refine TO.val rfl rfl rfl (Val.makeIface rfl rfl rfl) ?_
        refine TO.val rfl rfl rfl (Val.assign rfl) ?_
        refine TO.nil ?_
        refine T.ret ?_
        refine ⟨rfl, _, rfl, ?_⟩
        refine TO.nil ?_
        refine T.block ?_
        refine T.seq ?_
        refine T.text rfl ?_
        refine TO.val rfl rfl rfl (Val.bin (r := bv false) rfl rfl (by kernel_rfl)) ?_
        refine TO.nil ?_
        refine T.condF (fun a ha => ha.ev (.tmp 11) _ rfl) ?_
        refine T.seq ?_
        refine T.text rfl ?_
        refine TO.val rfl rfl rfl (Val.assert_yes rfl rfl rfl rfl) ?_
        refine TO.val rfl rfl rfl (Val.extract rfl rfl) ?_
        refine TO.val rfl rfl rfl (Val.extract rfl rfl) ?_
        refine TO.nil ?_
        refine T.condT (fun a ha => ha.ev (.tmp 13) _ rfl) ?_
        refine T.text rfl ?_
        refine TO.val rfl rfl rfl (Val.assign rfl) ?_
        refine TO.val rfl rfl rfl (Val.assign rfl) ?_
        refine TO.nil ?_
        refine T.seq ?_
        refine T.seq ?_
        refine T.text rfl ?_
        refine TO.val rfl rfl rfl (Val.move rfl) ?_
        refine TO.val rfl rfl rfl (Val.faddr_ptr (fo := 2) rfl rfl rfl) ?_
        refine TO.val rfl rfl rfl (Val.load_row (p := 2) rfl ⟨_, rfl, rfl⟩ rfl rfl rfl) ?_
        refine TO.val rfl rfl rfl (Val.faddr_ptr (fo := 1) rfl rfl rfl) ?_
        refine TO.val rfl rfl rfl (Val.load_row (p := 1) rfl ⟨_, rfl, rfl⟩ rfl rfl rfl) ?_
        refine TO.build1 (en := encI) (a := _) rfl rfl rfl ⟨rfl, rfl⟩ ⟨_, rfl, rfl⟩ (by decide) (by decide) rfl rfl (fun v20 => ?_)
        refine TO.callD rfl rfl rfl rfl rfl (orcL rfl (by first | decide | omega)) (.cons .lit (.cons .lit (.cons (.ownL (p := 0) rfl .ints) .nil))) (sem_of (q_out _ _ _ (by exact out1_small))) (fun c21 hc21 => ?_)
        replace hc21 := out1 hc21
        refine TO.val rfl rfl rfl (Val.move rfl) ?_
        cases c21 with
        | true =>
          replace hc21 := btrue hc21
          refine TO.off rfl rfl rfl ?_
          refine TO.off rfl rfl rfl ?_
          refine TO.off rfl rfl rfl ?_
          refine TO.off rfl rfl rfl ?_
          refine TO.off rfl rfl rfl ?_
          refine TO.off rfl rfl rfl ?_
          refine TO.off rfl rfl rfl ?_
          refine TO.val rfl rfl rfl (Val.pick rfl rfl rfl) ?_
          refine TO.nil ?_
          refine T.condT (fun a ha => ha.ev (.tmp 30) _ rfl) ?_
          refine T.seq ?_
          refine T.text rfl ?_
          refine TO.val rfl rfl rfl (Val.assign rfl) ?_
          refine TO.nil ?_
          refine T.keep (s' := ⟨[], [(5, _)], _ :: C⟩) ⟨rfl, (keep_cons rfl keep_nil), (.cons _ (.cons _ (.cons _ (.cons_cons _ (.refl _)))))⟩ ?_
          refine T.ret ?_
          exact ⟨rfl, _, rfl, congrArg iv (by first | (simp_all [chgErr, inR]; done) | (simp_all [chgErr, inR]; omega)), rfl⟩
        | false =>
          replace hc21 := bfalse hc21
          refine TO.val rfl rfl rfl (Val.move rfl) ?_
          refine TO.bmin rfl rfl rfl rfl rfl ?_
          refine TO.val rfl rfl rfl (Val.move rfl) ?_
          refine TO.val rfl rfl rfl (Val.faddr_ptr (fo := 2) rfl rfl rfl) ?_
          refine TO.val rfl rfl rfl (Val.load_row (p := 2) rfl ⟨_, rfl, rfl⟩ rfl rfl rfl) ?_
          refine TO.build1 (en := encI) (a := _) rfl rfl rfl ⟨rfl, rfl⟩ ⟨_, rfl, rfl⟩ (by decide) (by decide) rfl rfl (fun v28 => ?_)
          refine TO.callD rfl rfl rfl rfl rfl (orcL rfl (by first | decide | omega)) (.cons .lit (.cons .lit (.cons (.ownL (p := 0) rfl .ints) .nil))) (sem_of (q_out _ _ _ (by exact out1_small))) (fun c29 hc29 => ?_)
          replace hc29 := out1 hc29
          refine TO.val rfl rfl rfl (Val.pick rfl rfl rfl) ?_
          refine TO.nil ?_
          cases c29 with
          | true =>
            replace hc29 := btrue hc29
            refine T.condT (fun a ha => ha.ev (.tmp 30) _ rfl) ?_
            refine T.seq ?_
            refine T.text rfl ?_
            refine TO.val rfl rfl rfl (Val.assign rfl) ?_
            refine TO.nil ?_
            refine T.keep (s' := ⟨[], [(5, _)], _ :: C⟩) ⟨rfl, (keep_cons rfl keep_nil), (.cons _ (.cons _ (.cons _ (.cons _ (.cons_cons _ (.refl _))))))⟩ ?_
            refine T.ret ?_
            exact ⟨rfl, _, rfl, congrArg iv (by first | (simp_all [chgErr, inR]; done) | (simp_all [chgErr, inR]; omega)), rfl⟩
          | false =>
            replace hc29 := bfalse hc29
            refine T.condF (fun a ha => ha.ev (.tmp 30) _ rfl) ?_
            refine T.skip ?_
            refine T.seq ?_
            refine T.seq ?_
            refine T.text rfl ?_
            refine TO.val rfl rfl rfl (Val.move rfl) ?_
            refine TO.gtr rfl rfl rfl rfl rfl (fun c32 hc32 => ?_)
            refine TO.nil ?_
            cases c32 with
            | true =>
              replace hc32 := btrue hc32
              have hi0 : ¬ i = 0 := by omega
              refine T.condT (fun a ha => ha.ev (.tmp 32) _ rfl) ?_
              refine T.seq ?_
              refine T.text rfl ?_
              refine TO.val rfl rfl rfl (Val.faddr_ptr (fo := 3) rfl rfl rfl) ?_
              refine TO.val rfl rfl rfl (Val.load_row (p := 4) rfl ⟨_, rfl, rfl⟩ rfl rfl rfl) ?_
              refine TO.val rfl rfl rfl (Val.move rfl) ?_
              refine TO.val rfl rfl rfl (Val.sub rfl rfl (by omega)) ?_
              refine TO.index_gs rfl rfl rfl ⟨rfl, rfl⟩ rfl rfl (by omega) (fun a37 ra37 ea37 => ?_)
              try simp only [Int.toNat_natCast] at ea37
              have e37 : ((i : Int) - 1).toNat = i - 1 := by omega
              rw [e37] at ea37
              refine TO.val rfl rfl rfl (Val.load_trees (c := _) ⟨⟨_, rfl, rfl⟩, rfl, by decide⟩ rfl rfl) ?_
              refine TO.alloc (k := 3) (cells := [_, _, _]) rfl rfl rfl rfl rfl rfl rfl (fun b8 => ?_)
              refine TO.store_row (p := 0) (cv := [_, _, _]) (cells' := [_, _, _]) rfl rfl rfl rfl rfl rfl rfl rfl rfl rfl (by first | rfl | simp [GS.one]) (by decide) rfl ?_
              refine TO.things (hs' := _ :: _ :: _ :: _ :: _ :: _ :: C) rfl ?_
              refine TO.nil ?_
              refine T.seq ?_
              refine T.text rfl ?_
              refine TO.val rfl rfl rfl (Val.faddr_ptr (fo := 1) rfl rfl rfl) ?_
              refine TO.val rfl rfl rfl (Val.load_row (p := 4) rfl ⟨_, rfl, rfl⟩ rfl rfl rfl) ?_
              refine TO.val rfl rfl rfl (Val.faddr_ptr (fo := 1) rfl rfl rfl) ?_
              refine TO.val rfl rfl rfl (Val.load_row (p := 0) rfl ⟨_, rfl, rfl⟩ rfl rfl rfl) ?_
              refine TO.lss rfl rfl rfl rfl rfl (fun c43 hc43 => ?_)
              refine TO.val rfl rfl rfl (Val.move rfl) ?_
              cases c43 with
              | true =>
                replace hc43 := btrue hc43
                refine TO.off rfl rfl rfl ?_
                refine TO.off rfl rfl rfl ?_
                refine TO.off rfl rfl rfl ?_
                refine TO.off rfl rfl rfl ?_
                refine TO.off rfl rfl rfl ?_
                refine TO.off rfl rfl rfl ?_
                refine TO.off rfl rfl rfl ?_
                refine TO.off rfl rfl rfl ?_
                refine TO.off rfl rfl rfl ?_
                refine TO.off rfl rfl rfl ?_
                refine TO.off rfl rfl rfl ?_
                refine TO.off rfl rfl rfl ?_
                refine TO.off rfl rfl rfl ?_
                refine TO.off rfl rfl rfl ?_
                refine TO.off rfl rfl rfl ?_
                refine TO.val rfl rfl rfl (Val.pick rfl rfl rfl) ?_
                refine TO.nil ?_
                refine T.condT (fun a ha => ha.ev (.tmp 60) _ rfl) ?_
                refine T.seq ?_
                refine T.text rfl ?_
                refine TO.val rfl rfl rfl (Val.assign rfl) ?_
                refine TO.nil ?_
                refine T.keep (s' := ⟨[], [(5, _)], _ :: C⟩) ⟨rfl, (keep_cons rfl keep_nil), (.cons _ (.cons _ (.cons _ (.cons _ (.cons _ (.cons_cons _ (.refl _)))))))⟩ ?_
                refine T.ret ?_
                exact ⟨rfl, _, rfl, congrArg iv (by first | (simp_all [chgErr, inR]; done) | (simp_all [chgErr, inR]; omega)), rfl⟩
              | false =>
                replace hc43 := bfalse hc43
                refine TO.val rfl rfl rfl (Val.faddr_ptr (fo := 1) rfl rfl rfl) ?_
                refine TO.val rfl rfl rfl (Val.load_row (p := 4) rfl ⟨_, rfl, rfl⟩ rfl rfl rfl) ?_
                refine TO.val rfl rfl rfl (Val.faddr_ptr (fo := 1) rfl rfl rfl) ?_
                refine TO.val rfl rfl rfl (Val.load_row (p := 0) rfl ⟨_, rfl, rfl⟩ rfl rfl rfl) ?_
                refine TO.eql rfl rfl rfl rfl rfl (fun c49 hc49 => ?_)
                refine TO.val rfl rfl rfl (Val.move rfl) ?_
                cases c49 with
                | true =>
                  replace hc49 := btrue hc49
                  refine TO.val rfl rfl rfl (Val.faddr_ptr (fo := 0) rfl rfl rfl) ?_
                  refine TO.val rfl rfl rfl (Val.load_row (p := 4) rfl ⟨_, rfl, rfl⟩ rfl rfl rfl) ?_
                  refine TO.neq rfl rfl rfl rfl rfl (fun c53 hc53 => ?_)
                  refine TO.val rfl rfl rfl (Val.move rfl) ?_
                  cases c53 with
                  | true =>
                    replace hc53 := btrue hc53
                    refine TO.off rfl rfl rfl ?_
                    refine TO.off rfl rfl rfl ?_
                    refine TO.off rfl rfl rfl ?_
                    refine TO.val rfl rfl rfl (Val.pick rfl rfl rfl) ?_
                    refine TO.val rfl rfl rfl (Val.pick rfl rfl rfl) ?_
                    refine TO.val rfl rfl rfl (Val.pick rfl rfl rfl) ?_
                    refine TO.nil ?_
                    refine T.condT (fun a ha => ha.ev (.tmp 60) _ rfl) ?_
                    refine T.seq ?_
                    refine T.text rfl ?_
                    refine TO.val rfl rfl rfl (Val.assign rfl) ?_
                    refine TO.nil ?_
                    refine T.keep (s' := ⟨[], [(5, _)], _ :: C⟩) ⟨rfl, (keep_cons rfl keep_nil), (.cons _ (.cons _ (.cons _ (.cons _ (.cons _ (.cons_cons _ (.refl _)))))))⟩ ?_
                    refine T.ret ?_
                    exact ⟨rfl, _, rfl, congrArg iv (by first | (simp_all [chgErr, inR]; done) | (simp_all [chgErr, inR]; omega)), rfl⟩
                  | false =>
                    replace hc53 := bfalse hc53
                    refine TO.val rfl rfl rfl (Val.faddr_ptr (fo := 0) rfl rfl rfl) ?_
                    refine TO.val rfl rfl rfl (Val.load_row (p := 0) rfl ⟨_, rfl, rfl⟩ rfl rfl rfl) ?_
                    refine TO.eql rfl rfl rfl rfl rfl (fun c57 hc57 => ?_)
                    refine TO.val rfl rfl rfl (Val.pick rfl rfl rfl) ?_
                    refine TO.val rfl rfl rfl (Val.pick rfl rfl rfl) ?_
                    refine TO.val rfl rfl rfl (Val.pick rfl rfl rfl) ?_
                    refine TO.nil ?_
                    cases c57 with
                    | true =>
                      replace hc57 := btrue hc57
                      refine T.condT (fun a ha => ha.ev (.tmp 60) _ rfl) ?_
                      refine T.seq ?_
                      refine T.text rfl ?_
                      refine TO.val rfl rfl rfl (Val.assign rfl) ?_
                      refine TO.nil ?_
                      refine T.keep (s' := ⟨[], [(5, _)], _ :: C⟩) ⟨rfl, (keep_cons rfl keep_nil), (.cons _ (.cons _ (.cons _ (.cons _ (.cons _ (.cons_cons _ (.refl _)))))))⟩ ?_
                      refine T.ret ?_
                      exact ⟨rfl, _, rfl, congrArg iv (by first | (simp_all [chgErr, inR]; done) | (simp_all [chgErr, inR]; omega)), rfl⟩
                    | false =>
                      replace hc57 := bfalse hc57
                      refine T.condF (fun a ha => ha.ev (.tmp 60) _ rfl) ?_
                      refine T.skip ?_
                      refine T.seq ?_
                      refine T.text rfl ?_
                      refine TO.val rfl rfl rfl (Val.assign rfl) ?_
                      refine TO.nil ?_
                      refine T.keep (s' := ⟨[], [(5, _)], _ :: C⟩) ⟨rfl, (keep_cons rfl keep_nil), (.cons _ (.cons _ (.cons _ (.cons _ (.cons _ (.cons_cons _ (.refl _)))))))⟩ ?_
                      refine T.ret ?_
                      exact ⟨rfl, _, rfl, congrArg iv (by first | (simp_all [chgErr, inR]; done) | (simp_all [chgErr, inR]; omega)), rfl⟩
                | false =>
                  replace hc49 := bfalse hc49
                  refine TO.off rfl rfl rfl ?_
                  refine TO.off rfl rfl rfl ?_
                  refine TO.off rfl rfl rfl ?_
                  refine TO.off rfl rfl rfl ?_
                  refine TO.off rfl rfl rfl ?_
                  refine TO.off rfl rfl rfl ?_
                  refine TO.off rfl rfl rfl ?_
                  refine TO.off rfl rfl rfl ?_
                  refine TO.val rfl rfl rfl (Val.pick rfl rfl rfl) ?_
                  refine TO.val rfl rfl rfl (Val.pick rfl rfl rfl) ?_
                  refine TO.nil ?_
                  refine T.condF (fun a ha => ha.ev (.tmp 60) _ rfl) ?_
                  refine T.skip ?_
                  refine T.seq ?_
                  refine T.text rfl ?_
                  refine TO.val rfl rfl rfl (Val.assign rfl) ?_
                  refine TO.nil ?_
                  refine T.keep (s' := ⟨[], [(5, _)], _ :: C⟩) ⟨rfl, (keep_cons rfl keep_nil), (.cons _ (.cons _ (.cons _ (.cons _ (.cons _ (.cons_cons _ (.refl _)))))))⟩ ?_
                  refine T.ret ?_
                  exact ⟨rfl, _, rfl, congrArg iv (by first | (simp_all [chgErr, inR]; done) | (simp_all [chgErr, inR]; omega)), rfl⟩
            | false =>
              replace hc32 := bfalse hc32
              have hi0 : i = 0 := by omega
              refine T.condF (fun a ha => ha.ev (.tmp 32) _ rfl) ?_
              refine T.skip ?_
              refine T.seq ?_
              refine T.text rfl ?_
              refine TO.val rfl rfl rfl (Val.assign rfl) ?_
              refine TO.nil ?_
              refine T.keep (s' := ⟨[], [(5, _)], _ :: C⟩) ⟨rfl, (keep_cons rfl keep_nil), (.cons _ (.cons _ (.cons _ (.cons _ (.cons_cons _ (.refl _))))))⟩ ?_
              refine T.ret ?_
              exact ⟨rfl, _, rfl, congrArg iv (by first | (simp_all [chgErr, inR]; done) | (simp_all [chgErr, inR]; omega)), rfl⟩
      | false =>
        replace hc18 := bfalse hc18
        refine T.condF (fun a ha => ha.ev (.tmp 17) _ rfl) ?_
        refine T.skip ?_
        refine T.seq ?_
        refine T.text rfl ?_
        refine TO.val rfl rfl rfl (Val.assign rfl) ?_
        refine TO.nil ?_
        refine T.ret ?_
        refine ⟨rfl, _, rfl, ?_⟩
        refine TO.nil ?_
        refine T.block ?_
        refine T.seq ?_
        refine T.text rfl ?_
        refine TO.val rfl rfl rfl (Val.bin (r := bv true) rfl rfl (by kernel_rfl)) ?_
        refine TO.nil ?_
        refine T.condT (fun a ha => ha.ev (.tmp 11) _ rfl) ?_
        refine T.seq ?_
        refine T.text rfl ?_
        refine TO.val rfl rfl rfl (Val.assign rfl) ?_
        refine TO.nil ?_
        refine T.keep (s' := ⟨[], [(5, _)], _ :: C⟩) ⟨rfl, (keep_cons rfl keep_nil), (.cons _ (.cons _ (.cons_cons _ (.refl _))))⟩ ?_
        refine T.ret ?_
        exact ⟨rfl, _, rfl, congrArg iv (by first | (simp_all [chgErr, inR]; done) | (simp_all [chgErr, inR]; omega)), rfl⟩
theorem q_chgs {k bg : Nat} (hk : 1 ≤ k) (g : Gat) (C : List Thing) (hb : g.ch.l.length ≤ 4) :
    TF (EL k) 79 [g.ch.v, .func 80 [] [.ptr bg 0 4]] (.row bg 4 [iv g.round, iv g.letter, iv g.leaves, g.ch.v] :: C) fun v hs' => ∃ i0, v = .tuple [iv i0, iv (chgsErr g.leaves none g.ch.l)] ∧ hs' = .row bg 4 [iv g.round, iv g.letter, iv g.leaves, g.ch.v] :: C := by
  refine TF.enter (fn := Go.Proofs.Try.f79) rfl rfl rfl rfl rfl ?_
  refine T.seq ?_
  refine T.text rfl ?_
  refine TO.val rfl rfl rfl (Val.assign rfl) ?_
  refine TO.val rfl rfl rfl (Val.assign rfl) ?_
  refine TO.nil ?_
  refine T.seq ?_
  refine T.seq ?_
  refine T.text rfl ?_
  refine TO.val rfl rfl rfl (Val.move rfl) ?_
  refine TO.val rfl rfl rfl (Val.len_gs rfl rfl) ?_
  refine TO.val rfl rfl rfl (Val.move rfl) ?_
  refine TO.nil ?_
  refine T.block ?_
  refine T.loop (fun μ s => ∃ i : Nat, ∃ j : Int, μ = g.ch.l.length - i ∧ j = i ∧ i ≤ g.ch.l.length ∧ chgsErr g.leaves none g.ch.l = chgsErr g.leaves (if i = 0 then none else g.ch.l[i - 1]?) (g.ch.l.drop i) ∧ s = ⟨[], [(1, .func 80 [] [.ptr bg 0 4]), (9, g.ch.v), (10, iv (g.ch.l.length : Int)), (11, iv j)], (.row bg 4 [iv g.round, iv g.letter, iv g.leaves, g.ch.v]) :: C⟩) (k := _) (s' := _) ⟨0, 0, rfl, (by first | rfl | omega | (simp; done) | (simp; omega) | simp_all), (by first | rfl | omega | (simp; done) | (simp; omega) | simp_all), (by rfl), rfl⟩ ⟨rfl, (keep_cons rfl (keep_cons rfl (keep_cons rfl (keep_cons rfl keep_nil)))), (.cons_cons _ (.refl _))⟩ ?_
  rintro μ _ ⟨i, j, hk0, hj, hi, he, rfl⟩
  subst hj
  refine T.seq ?_
  refine T.text rfl ?_
  refine TO.lss rfl rfl rfl rfl rfl (fun c12 hc12 => ?_)
  refine TO.nil ?_
  refine T.seq ?_
  cases c12 with
  | true =>
    replace hc12 := btrue hc12
    refine T.condT (fun a ha => ha.ev (.tmp 12) _ rfl) ?_
    refine T.skip ?_
    refine T.seq ?_
    refine T.block ?_
    refine T.seq ?_
    refine T.text rfl ?_
    refine TO.val rfl rfl rfl (Val.move rfl) ?_
    refine TO.index_gs rfl rfl rfl ⟨rfl, rfl⟩ rfl rfl (by omega) (fun c rc ec => ?_)
    try simp only [Int.toNat_natCast] at ec
    refine TO.val rfl rfl rfl (Val.load_trees (c := _) ⟨⟨_, rfl, rfl⟩, rfl, by decide⟩ rfl rfl) ?_
    refine TO.alloc (k := 3) (cells := [_, _, _]) rfl rfl rfl rfl rfl rfl rfl (fun b7 => ?_)
    refine TO.val rfl rfl rfl (Val.assign rfl) ?_
    refine TO.store_row (p := 0) (cv := [_, _, _]) (cells' := [_, _, _]) rfl rfl rfl rfl rfl rfl rfl rfl rfl rfl (by first | rfl | simp [GS.one]) (by decide) rfl ?_
    refine TO.things (hs' := _ :: _ :: C) rfl ?_
    refine TO.nil ?_
    refine T.seq ?_
    refine T.text rfl ?_
    refine TO.val rfl rfl rfl (Val.move rfl) ?_
    refine TO.val rfl rfl rfl (Val.move rfl) ?_
    refine TO.val rfl rfl rfl (Val.load_rows (p := 0) (c := [_, _, _]) rfl ⟨⟨_, rfl, rfl⟩, rfl, by decide⟩ rfl rfl rfl rfl) ?_
    refine TO.pick (p := 1) rfl ?_
    refine TO.things (hs' := _ :: _ :: C) rfl ?_
    refine TO.callV rfl rfl rfl rfl rfl rfl (orcN rfl) (q_chg hk g i c _ ec hb) ?_
    rintro _ _ ⟨rfl, rfl⟩
    generalize hE : chgErr g.leaves c (if i = 0 then none else g.ch.l[i - 1]?) = E19
    refine TO.things (hs' := _ :: _ :: C) rfl ?_
    refine TO.val rfl rfl rfl (Val.assign rfl) ?_
    refine TO.nil ?_
    refine T.seq ?_
    refine T.text rfl ?_
    refine TO.val rfl rfl rfl (Val.move rfl) ?_
    refine TO.neq rfl rfl rfl rfl rfl (fun c21 hc21 => ?_)
    refine TO.nil ?_
    cases c21 with
    | true =>
      replace hc21 := btrue hc21
      have hce : chgsErr g.leaves none g.ch.l = E19 := by rw [he, drop_cons ec, chgsErr, hE, if_pos hc21]
      refine T.condT (fun a ha => ha.ev (.tmp 21) _ rfl) ?_
      refine T.seq ?_
      refine T.text rfl ?_
      refine TO.val rfl rfl rfl (Val.move rfl) ?_
      refine TO.val rfl rfl rfl (Val.move rfl) ?_
      refine TO.val rfl rfl rfl (Val.assign rfl) ?_
      refine TO.val rfl rfl rfl (Val.assign rfl) ?_
      refine TO.nil ?_
      refine T.keep (s' := ⟨[], [(4, _), (5, _)], _ :: C⟩) ⟨rfl, (keep_cons rfl (keep_cons rfl keep_nil)), (.cons_cons _ (.cons _ (.refl _)))⟩ ?_
      refine T.ret ?_
      exact ⟨rfl, _, rfl, _, congrArg (fun x => AV.tuple [_, iv x]) hce.symm, rfl⟩
    | false =>
      replace hc21 := bfalse hc21
      have hce : chgsErr g.leaves none g.ch.l = chgsErr g.leaves (some c) (g.ch.l.drop (i + 1)) := by rw [he, drop_cons ec, chgsErr, hE, if_neg hc21]
      refine T.condF (fun a ha => ha.ev (.tmp 21) _ rfl) ?_
      refine T.skip ?_
      refine T.text rfl ?_
      refine TO.val rfl rfl rfl (Val.add rfl rfl (by omega)) ?_
      refine TO.val rfl rfl rfl (Val.move rfl) ?_
      refine TO.nil ?_
      refine ⟨_, _, (by omega), ⟨i + 1, _, rfl, (by first | omega | simp_all), (by first | omega | simp_all), (by rw [hce]; simp [ec]), rfl⟩, ⟨rfl, (keep_cons rfl (keep_cons rfl (keep_cons rfl (keep_cons rfl keep_nil)))), (.cons_cons _ (.cons _ (.refl _)))⟩⟩
  | false =>
    replace hc12 := bfalse hc12
    obtain rfl : i = g.ch.l.length := by omega
    rw [List.drop_length, chgsErr] at he
    refine T.condF (fun a ha => ha.ev (.tmp 12) _ rfl) ?_
    refine T.exit ?_
    refine T.seq ?_
    refine T.text rfl ?_
    refine TO.val rfl rfl rfl (Val.assign rfl) ?_
    refine TO.val rfl rfl rfl (Val.assign rfl) ?_
    refine TO.nil ?_
    refine T.keep (s' := ⟨[], [(4, _), (5, _)], _ :: C⟩) ⟨rfl, (keep_cons rfl (keep_cons rfl keep_nil)), (.cons_cons _ (.refl _))⟩ ?_
    refine T.ret ?_
    exact ⟨rfl, _, rfl, _, congrArg (fun x => AV.tuple [_, iv x]) he.symm, rfl⟩
theorem q_gat {k bm bl mid : Nat} (hk : 2 ≤ k) (g : Gat) (i : Nat) (before : List Gat) (f : Value → Int) (lr ll : Int) (C : List Thing) (hb : before.length ≤ 30) (hm : MetOk before f) (hl : LastOk before ⟨lr, ll⟩) :
    TF (EL k) 75 [iv (i : Int), .agg (encG.f g), .ptr bm 0 1, .ptr bl 0 2] (.row bm 1 [.map mid] :: .cnt mid KPair f [] :: .row bl 2 [iv lr, iv ll] :: C) fun v hs' => ∃ f' lr' ll', v = iv (gathErr before g) ∧
      hs' = .row bm 1 [.map mid] :: .cnt mid KPair f' [] :: .row bl 2 [iv lr', iv ll'] :: C ∧ (gathErr before g = 0 → MetOk (before ++ [g]) f' ∧ LastOk (before ++ [g]) ⟨lr', ll'⟩) := by
  have hle : 0 ≤ f (.agg #[.int .i64 g.round, .int .i64 g.letter]) ∧ f (.agg #[.int .i64 g.round, .int .i64 g.letter]) ≤ before.length := hm.le g.sig
  have hpos : 0 < f (.agg #[.int .i64 g.round, .int .i64 g.letter]) ↔ ∃ x ∈ before, x.sig = g.sig := hm.pos g
  have hmet : MetOk _ (cput f (.agg #[.int .i64 g.round, .int .i64 g.letter]) (f (.agg #[.int .i64 g.round, .int .i64 g.letter]) + 1)) := hm.snoc g
  refine TF.enter (fn := Go.Proofs.Try.f75) rfl rfl rfl rfl rfl ?_
  refine T.seq ?_
  refine T.text rfl ?_
  refine TO.box (k := 4) (cells := [_, _, _, _]) rfl rfl rfl rfl rfl rfl rfl (fun b5 => ?_)
  refine TO.val rfl rfl rfl (Val.assign rfl) ?_
  refine TO.nil ?_
  refine T.seq ?_
  refine T.drawE (l1 := [0, 1, 2, 3, 4]) (l2 := [5, 6, 7]) (by kernel_rfl) (by kernel_rfl) ?_
  refine TD1.read rfl rfl rfl rfl (Val.load_row (p := 1) rfl ⟨_, rfl, rfl⟩ rfl rfl rfl) ?_
  refine TD1.light rfl rfl rfl rfl (Val.faddr_ptr (fo := 0) rfl rfl rfl) ?_
  refine TD1.read rfl rfl rfl rfl (Val.load_rows (p := 0) (c := [_, _]) rfl ⟨⟨_, rfl, rfl⟩, rfl, by decide⟩ rfl rfl rfl rfl) ?_
  refine TD1.read rfl rfl rfl rfl (Val.lookup (p := 2) rfl rfl key_ty96 rfl rfl rfl rfl ⟨_, _, rfl⟩) ?_
  refine TD1.light rfl rfl rfl rfl (Val.add rfl rfl (by omega)) ?_
  refine TD1.over (fun v => sameC_refl v) (all_cons (⟨_, rfl, (Val.lookup (p := 2) rfl rfl key_ty96 rfl rfl rfl rfl ⟨_, _, rfl⟩)⟩) (all_cons (⟨_, rfl, (Val.load_rows (p := 0) (c := [_, _]) rfl ⟨⟨_, rfl, rfl⟩, rfl, by decide⟩ rfl rfl rfl rfl)⟩) (all_cons (⟨_, rfl, (Val.load_row (p := 1) rfl ⟨_, rfl, rfl⟩ rfl rfl rfl)⟩) all_nil))) ?_
  refine TD2.heavy (fun v => sameC_refl v) rfl (by decide) rfl rfl (OpS.eff (Eff.mapEntry (p := 2) rfl rfl key_ty96 rfl rfl rfl rfl ⟨_, _, rfl⟩)) ?_
  rintro _ _ ⟨e14, rfl, rfl⟩
  refine ⟨(all_cons (.inr ⟨_, rfl, (Val.lookup (p := 2) rfl rfl key_ty96 rfl rfl rfl rfl ⟨_, _, rfl⟩)⟩) (all_cons (.inl (by kernel_rfl)) (all_cons (.inl (by kernel_rfl)) all_nil))), all_nil, ?_⟩
  refine TD2.things (hs' := _ :: _ :: _ :: _ :: C) rfl ?_
  refine TD2.light rfl rfl rfl rfl (Val.extract rfl rfl) ?_
  refine TD2.heavy (fun v => sameC_refl v) rfl (by decide) rfl rfl (OpS.eff (Eff.entryStore (p := 2) rfl List.mem_cons_self rfl rfl rfl)) ?_
  rintro _ _ rfl
  refine ⟨(all_cons (.inl (by kernel_rfl)) (all_cons (.inl (by kernel_rfl)) (all_cons (.inl (by kernel_rfl)) all_nil))), all_nil, ?_⟩
  refine TD2.things (hs' := _ :: _ :: _ :: _ :: C) rfl ?_
  refine TD2.nil ?_
  refine T.seq ?_
  refine T.block ?_
  refine T.seq ?_
  refine T.text rfl ?_
  refine TO.val rfl rfl rfl (Val.faddr_ptr (fo := 0) rfl rfl rfl) ?_
  refine TO.val rfl rfl rfl (Val.load_rows (p := 0) (c := [_, _]) rfl ⟨⟨_, rfl, rfl⟩, rfl, by decide⟩ rfl rfl rfl rfl) ?_
  refine TO.callD rfl rfl rfl rfl rfl (orcL rfl (by first | decide | omega)) (.cons (.agg (.cons .lit (.cons .lit .nil))) .nil) (sem_of (q_none g.sig )) (fun c19 hc19 => ?_)
  refine TO.val rfl rfl rfl (Val.assign rfl) ?_
  refine TO.nil ?_
  cases c19 with
  | true =>
    replace hc19 := btrue hc19
    refine T.condT (fun a ha => ha.ev (.tmp 16) _ rfl) ?_
    refine T.seq ?_
    refine T.text rfl ?_
    refine TO.val rfl rfl rfl (Val.assign rfl) ?_
    refine TO.nil ?_
    refine T.keep (s' := ⟨[], [(6, _)], _ :: _ :: _ :: C⟩) ⟨rfl, (keep_cons rfl keep_nil), (.cons _ (.cons_cons _ (.cons_cons _ (.cons_cons _ (.refl _)))))⟩ ?_
    refine T.ret ?_
    have hv : gathErr before g = 7 := by unfold gathErr; (repeat' split) <;> first | rfl | (exfalso; simp_all; done) | (exfalso; simp_all [inR]; omega) | simp_all [inR]
    exact ⟨rfl, _, rfl, _, _, _, congrArg iv hv.symm, rfl, fun h0 => (by omega)⟩
  | false =>
    replace hc19 := bfalse hc19
    have hs : sigOk g.sig := Classical.not_not.1 hc19
    refine T.condF (fun a ha => ha.ev (.tmp 16) _ rfl) ?_
    refine T.seq ?_
    refine T.text rfl ?_
    refine TO.val rfl rfl rfl (Val.load_row (p := 1) rfl ⟨_, rfl, rfl⟩ rfl rfl rfl) ?_
    refine TO.val rfl rfl rfl (Val.faddr_ptr (fo := 0) rfl rfl rfl) ?_
    refine TO.val rfl rfl rfl (Val.load_rows (p := 0) (c := [_, _]) rfl ⟨⟨_, rfl, rfl⟩, rfl, by decide⟩ rfl rfl rfl rfl) ?_
    refine TO.val rfl rfl rfl (Val.lookup (p := 2) rfl rfl key_ty96 rfl rfl rfl rfl ⟨_, _, rfl⟩) ?_
    refine TO.gtr rfl rfl rfl rfl rfl (fun c25 hc25 => ?_)
    replace hc25 := hc25.trans (hm.twice g)
    refine TO.val rfl rfl rfl (Val.assign rfl) ?_
    refine TO.nil ?_
    cases c25 with
    | true =>
      replace hc25 := btrue hc25
      refine T.condT (fun a ha => ha.ev (.tmp 20) _ rfl) ?_
      refine T.seq ?_
      refine T.text rfl ?_
      refine TO.val rfl rfl rfl (Val.assign rfl) ?_
      refine TO.nil ?_
      refine T.keep (s' := ⟨[], [(6, _)], _ :: _ :: _ :: C⟩) ⟨rfl, (keep_cons rfl keep_nil), (.cons _ (.cons_cons _ (.cons_cons _ (.cons_cons _ (.refl _)))))⟩ ?_
      refine T.ret ?_
      have hv : gathErr before g = 5 := by unfold gathErr; (repeat' split) <;> first | rfl | (exfalso; simp_all; done) | (exfalso; simp_all [inR]; omega) | simp_all [inR]
      exact ⟨rfl, _, rfl, _, _, _, congrArg iv hv.symm, rfl, fun h0 => (by omega)⟩
    | false =>
      replace hc25 := bfalse hc25
      refine T.condF (fun a ha => ha.ev (.tmp 20) _ rfl) ?_
      refine T.seq ?_
      refine T.text rfl ?_
      refine TO.val rfl rfl rfl (Val.faddr_ptr (fo := 0) rfl rfl rfl) ?_
      refine TO.val rfl rfl rfl (Val.load_rows (p := 0) (c := [_, _]) rfl ⟨⟨_, rfl, rfl⟩, rfl, by decide⟩ rfl rfl rfl rfl) ?_
      refine TO.callD rfl rfl rfl rfl rfl (orcL rfl (by first | decide | omega)) (.cons (.agg (.cons .lit (.cons .lit .nil))) .nil) (sem_of (q_lettered g.sig )) (fun c29 hc29 => ?_)
      refine TO.val rfl rfl rfl (Val.move rfl) ?_
      cases c29 with
      | true =>
        replace hc29 := btrue hc29
        refine TO.val rfl rfl rfl (Val.faddr_ptr (fo := 0) rfl rfl rfl) ?_
        refine TO.val rfl rfl rfl (Val.load_rows (p := 0) (c := [_, _]) rfl ⟨⟨_, rfl, rfl⟩, rfl, by decide⟩ rfl rfl rfl rfl) ?_
        refine TO.val rfl rfl rfl (Val.load_rows (p := 3) (c := [_, _]) rfl ⟨⟨_, rfl, rfl⟩, rfl, by decide⟩ rfl rfl rfl rfl) ?_
        refine TO.callD rfl rfl rfl rfl rfl (orcL rfl (by first | decide | omega)) (.cons (.agg (.cons .lit (.cons .lit .nil))) (.cons (.agg (.cons .lit (.cons .lit .nil))) .nil)) (sem_of (q_before g.sig ⟨lr, ll⟩ )) (fun c34 hc34 => ?_)
        replace hc34 := hc34.trans (hl.before hs hc29)
        refine TO.val rfl rfl rfl (Val.pick rfl rfl rfl) ?_
        refine TO.val rfl rfl rfl (Val.assign rfl) ?_
        refine TO.nil ?_
        cases c34 with
        | true =>
          replace hc34 := btrue hc34
          refine T.condT (fun a ha => ha.ev (.tmp 26) _ rfl) ?_
          refine T.seq ?_
          refine T.text rfl ?_
          refine TO.val rfl rfl rfl (Val.assign rfl) ?_
          refine TO.nil ?_
          refine T.keep (s' := ⟨[], [(6, _)], _ :: _ :: _ :: C⟩) ⟨rfl, (keep_cons rfl keep_nil), (.cons _ (.cons_cons _ (.cons_cons _ (.cons_cons _ (.refl _)))))⟩ ?_
          refine T.ret ?_
          have hv : gathErr before g = 2 := by unfold gathErr; (repeat' split) <;> first | rfl | (exfalso; simp_all; done) | (exfalso; simp_all [inR]; omega) | simp_all [inR]
          exact ⟨rfl, _, rfl, _, _, _, congrArg iv hv.symm, rfl, fun h0 => (by omega)⟩
        | false =>
          replace hc34 := bfalse hc34
          have hrk := hc34
          refine T.condF (fun a ha => ha.ev (.tmp 26) _ rfl) ?_
          refine T.seq ?_
          refine T.text rfl ?_
          refine TO.val rfl rfl rfl (Val.faddr_ptr (fo := 2) rfl rfl rfl) ?_
          refine TO.val rfl rfl rfl (Val.load_row (p := 0) rfl ⟨_, rfl, rfl⟩ rfl rfl rfl) ?_
          refine TO.neq rfl rfl rfl rfl rfl (fun c39 hc39 => ?_)
          refine TO.val rfl rfl rfl (Val.move rfl) ?_
          cases c39 with
          | true =>
            replace hc39 := btrue hc39
            refine TO.val rfl rfl rfl (Val.faddr_ptr (fo := 2) rfl rfl rfl) ?_
            refine TO.val rfl rfl rfl (Val.load_row (p := 0) rfl ⟨_, rfl, rfl⟩ rfl rfl rfl) ?_
            refine TO.build1 (en := encI) (a := _) rfl rfl rfl ⟨rfl, rfl⟩ ⟨_, rfl, rfl⟩ (by decide) (by decide) rfl rfl (fun v43 => ?_)
            refine TO.callD rfl rfl rfl rfl rfl (orcL rfl (by first | decide | omega)) (.cons .lit (.cons .lit (.cons (.ownL (p := 0) rfl .ints) .nil))) (sem_of (q_out _ _ _ (by exact out1_small))) (fun c44 hc44 => ?_)
            replace hc44 := out1 hc44
            refine TO.val rfl rfl rfl (Val.move rfl) ?_
            cases c44 with
            | true =>
              replace hc44 := btrue hc44
              refine TO.off rfl rfl rfl ?_
              refine TO.off rfl rfl rfl ?_
              refine TO.off rfl rfl rfl ?_
              refine TO.off rfl rfl rfl ?_
              refine TO.val rfl rfl rfl (Val.pick rfl rfl rfl) ?_
              refine TO.val rfl rfl rfl (Val.pick rfl rfl rfl) ?_
              refine TO.val rfl rfl rfl (Val.assign rfl) ?_
              refine TO.nil ?_
              refine T.condT (fun a ha => ha.ev (.tmp 36) _ rfl) ?_
              refine T.seq ?_
              refine T.text rfl ?_
              refine TO.val rfl rfl rfl (Val.assign rfl) ?_
              refine TO.nil ?_
              refine T.keep (s' := ⟨[], [(6, _)], _ :: _ :: _ :: C⟩) ⟨rfl, (keep_cons rfl keep_nil), (.cons _ (.cons _ (.cons_cons _ (.cons_cons _ (.cons_cons _ (.refl _))))))⟩ ?_
              refine T.ret ?_
              have hv : gathErr before g = 7 := by unfold gathErr; (repeat' split) <;> first | rfl | (exfalso; simp_all; done) | (exfalso; simp_all [inR]; omega) | simp_all [inR]
              exact ⟨rfl, _, rfl, _, _, _, congrArg iv hv.symm, rfl, fun h0 => (by omega)⟩
            | false =>
              replace hc44 := bfalse hc44
              refine TO.val rfl rfl rfl (Val.faddr_ptr (fo := 2) rfl rfl rfl) ?_
              refine TO.val rfl rfl rfl (Val.load_row (p := 1) rfl ⟨_, rfl, rfl⟩ rfl rfl rfl) ?_
              refine TO.val rfl rfl rfl (Val.rem rfl rfl (by omega)) ?_
              refine TO.eql rfl rfl rfl rfl rfl (fun c49 hc49 => ?_)
              refine TO.val rfl rfl rfl (Val.pick rfl rfl rfl) ?_
              refine TO.val rfl rfl rfl (Val.pick rfl rfl rfl) ?_
              refine TO.val rfl rfl rfl (Val.assign rfl) ?_
              refine TO.nil ?_
              cases c49 with
              | true =>
                replace hc49 := btrue hc49
                refine T.condT (fun a ha => ha.ev (.tmp 36) _ rfl) ?_
                refine T.seq ?_
                refine T.text rfl ?_
                refine TO.val rfl rfl rfl (Val.assign rfl) ?_
                refine TO.nil ?_
                refine T.keep (s' := ⟨[], [(6, _)], _ :: _ :: _ :: C⟩) ⟨rfl, (keep_cons rfl keep_nil), (.cons _ (.cons _ (.cons_cons _ (.cons_cons _ (.cons_cons _ (.refl _))))))⟩ ?_
                refine T.ret ?_
                have hv : gathErr before g = 7 := by unfold gathErr; (repeat' split) <;> first | rfl | (exfalso; simp_all; done) | (exfalso; simp_all [inR]; omega) | simp_all [inR]
                exact ⟨rfl, _, rfl, _, _, _, congrArg iv hv.symm, rfl, fun h0 => (by omega)⟩
              | false =>
                replace hc49 := bfalse hc49
                refine T.condF (fun a ha => ha.ev (.tmp 36) _ rfl) ?_
                refine T.seq ?_
                refine T.text rfl ?_
                refine TO.val rfl rfl rfl (Val.faddr_ptr (fo := 3) rfl rfl rfl) ?_
                refine TO.val rfl rfl rfl (Val.load_row (p := 1) rfl ⟨_, rfl, rfl⟩ rfl rfl rfl) ?_
                refine TO.val rfl rfl rfl (Val.len_gs rfl rfl) ?_
                refine TO.gtr rfl rfl rfl rfl rfl (fun c56 hc56 => ?_)
                refine TO.val rfl rfl rfl (Val.assign rfl) ?_
                refine TO.nil ?_
                cases c56 with
                | true =>
                  replace hc56 := btrue hc56
                  refine T.condT (fun a ha => ha.ev (.tmp 52) _ rfl) ?_
                  refine T.seq ?_
                  refine T.text rfl ?_
                  refine TO.val rfl rfl rfl (Val.assign rfl) ?_
                  refine TO.nil ?_
                  refine T.keep (s' := ⟨[], [(6, _)], _ :: _ :: _ :: C⟩) ⟨rfl, (keep_cons rfl keep_nil), (.cons _ (.cons _ (.cons_cons _ (.cons_cons _ (.cons_cons _ (.refl _))))))⟩ ?_
                  refine T.ret ?_
                  have hv : gathErr before g = 3 := by unfold gathErr; (repeat' split) <;> first | rfl | (exfalso; simp_all; done) | (exfalso; simp_all [inR]; omega) | simp_all [inR]
                  exact ⟨rfl, _, rfl, _, _, _, congrArg iv hv.symm, rfl, fun h0 => (by omega)⟩
                | false =>
                  replace hc56 := bfalse hc56
                  refine T.condF (fun a ha => ha.ev (.tmp 52) _ rfl) ?_
                  refine T.skip ?_
                  refine T.seq ?_
                  refine T.seq ?_
                  refine T.text rfl ?_
                  refine TO.val rfl rfl rfl (Val.faddr_ptr (fo := 0) rfl rfl rfl) ?_
                  refine TO.val rfl rfl rfl (Val.load_rows (p := 1) (c := [_, _]) rfl ⟨⟨_, rfl, rfl⟩, rfl, by decide⟩ rfl rfl rfl rfl) ?_
                  refine TO.callD rfl rfl rfl rfl rfl (orcL rfl (by first | decide | omega)) (.cons (.agg (.cons .lit (.cons .lit .nil))) .nil) (sem_of (q_lettered g.sig )) (fun c59 hc59 => ?_)
                  refine TO.nil ?_
                  cases c59 with
                  | true =>
                    replace hc59 := btrue hc59
                    refine T.condT (fun a ha => ha.ev (.tmp 59) _ rfl) ?_
                    refine T.text rfl ?_
                    refine TO.val rfl rfl rfl (Val.faddr_ptr (fo := 0) rfl rfl rfl) ?_
                    refine TO.val rfl rfl rfl (Val.load_rows (p := 1) (c := [_, _]) rfl ⟨⟨_, rfl, rfl⟩, rfl, by decide⟩ rfl rfl rfl rfl) ?_
                    refine TO.store_row (p := 4) (cv := [_, _]) (cells' := [_, _]) rfl rfl rfl rfl rfl rfl rfl rfl rfl rfl (by first | rfl | simp [GS.one]) (by decide) rfl ?_
                    refine TO.things (hs' := _ :: _ :: _ :: _ :: _ :: C) rfl ?_
                    refine TO.nil ?_
                    refine T.seq ?_
                    refine T.text rfl ?_
                    refine TO.val rfl rfl rfl (Val.faddr_ptr (fo := 3) rfl rfl rfl) ?_
                    refine TO.val rfl rfl rfl (Val.load_row (p := 1) rfl ⟨_, rfl, rfl⟩ rfl rfl rfl) ?_
                    refine TO.val rfl rfl rfl (Val.makeFunc rfl rfl) ?_
                    refine TO.pick (p := 1) rfl ?_
                    refine TO.things (hs' := _ :: _ :: _ :: _ :: _ :: C) rfl ?_
                    refine TO.callV rfl rfl rfl rfl rfl rfl (orcN rfl) (q_chgs (by omega) g _ (by omega)) ?_
                    rintro _ _ ⟨i0, rfl, rfl⟩
                    refine TO.things (hs' := _ :: _ :: _ :: _ :: _ :: C) rfl ?_
                    refine TO.val rfl rfl rfl (Val.move rfl) ?_
                    refine TO.val rfl rfl rfl (Val.extract rfl rfl) ?_
                    refine TO.val rfl rfl rfl (Val.extract rfl rfl) ?_
                    refine TO.val rfl rfl rfl (Val.assign rfl) ?_
                    refine TO.val rfl rfl rfl (Val.assign rfl) ?_
                    refine TO.nil ?_
                    refine T.seq ?_
                    refine T.text rfl ?_
                    refine TO.val rfl rfl rfl (Val.move rfl) ?_
                    refine TO.val rfl rfl rfl (Val.assign rfl) ?_
                    refine TO.nil ?_
                    refine T.keep (s' := ⟨[], [(6, _)], _ :: _ :: _ :: C⟩) ⟨rfl, (keep_cons rfl keep_nil), (.cons _ (.cons _ (.cons_cons _ (.cons_cons _ (.cons_cons _ (.refl _))))))⟩ ?_
                    refine T.ret ?_
                    have hv : gathErr before g = chgsErr g.leaves none g.ch.l := by unfold gathErr; (repeat' split) <;> first | rfl | (exfalso; simp_all; done) | (exfalso; simp_all [inR]; omega) | simp_all [inR]
                    exact ⟨rfl, _, rfl, _, _, _, congrArg iv hv.symm, rfl, fun h0 => (by first | exact ⟨hmet, hl.snoc hs hc59 hrk⟩ | exact ⟨hmet, hl.same hc59⟩)⟩
                  | false =>
                    replace hc59 := bfalse hc59
                    refine T.condF (fun a ha => ha.ev (.tmp 59) _ rfl) ?_
                    refine T.skip ?_
                    refine T.seq ?_
                    refine T.text rfl ?_
                    refine TO.val rfl rfl rfl (Val.faddr_ptr (fo := 3) rfl rfl rfl) ?_
                    refine TO.val rfl rfl rfl (Val.load_row (p := 1) rfl ⟨_, rfl, rfl⟩ rfl rfl rfl) ?_
                    refine TO.val rfl rfl rfl (Val.makeFunc rfl rfl) ?_
                    refine TO.pick (p := 1) rfl ?_
                    refine TO.things (hs' := _ :: _ :: _ :: _ :: _ :: C) rfl ?_
                    refine TO.callV rfl rfl rfl rfl rfl rfl (orcN rfl) (q_chgs (by omega) g _ (by omega)) ?_
                    rintro _ _ ⟨i0, rfl, rfl⟩
                    refine TO.things (hs' := _ :: _ :: _ :: _ :: _ :: C) rfl ?_
                    refine TO.val rfl rfl rfl (Val.move rfl) ?_
                    refine TO.val rfl rfl rfl (Val.extract rfl rfl) ?_
                    refine TO.val rfl rfl rfl (Val.extract rfl rfl) ?_
                    refine TO.val rfl rfl rfl (Val.assign rfl) ?_
                    refine TO.val rfl rfl rfl (Val.assign rfl) ?_
                    refine TO.nil ?_
                    refine T.seq ?_
                    refine T.text rfl ?_
                    refine TO.val rfl rfl rfl (Val.move rfl) ?_
                    refine TO.val rfl rfl rfl (Val.assign rfl) ?_
                    refine TO.nil ?_
                    refine T.keep (s' := ⟨[], [(6, _)], _ :: _ :: _ :: C⟩) ⟨rfl, (keep_cons rfl keep_nil), (.cons _ (.cons _ (.cons_cons _ (.cons_cons _ (.cons_cons _ (.refl _))))))⟩ ?_
                    refine T.ret ?_
                    have hv : gathErr before g = chgsErr g.leaves none g.ch.l := by unfold gathErr; (repeat' split) <;> first | rfl | (exfalso; simp_all; done) | (exfalso; simp_all [inR]; omega) | simp_all [inR]
                    exact ⟨rfl, _, rfl, _, _, _, congrArg iv hv.symm, rfl, fun h0 => (by first | exact ⟨hmet, hl.snoc hs hc59 hrk⟩ | exact ⟨hmet, hl.same hc59⟩)⟩
          | false =>
            replace hc39 := bfalse hc39
            refine TO.off rfl rfl rfl ?_
            refine TO.off rfl rfl rfl ?_
            refine TO.off rfl rfl rfl ?_
            refine TO.off rfl rfl rfl ?_
            refine TO.off rfl rfl rfl ?_
            refine TO.off rfl rfl rfl ?_
            refine TO.off rfl rfl rfl ?_
            refine TO.off rfl rfl rfl ?_
            refine TO.off rfl rfl rfl ?_
            refine TO.off rfl rfl rfl ?_
            refine TO.val rfl rfl rfl (Val.pick rfl rfl rfl) ?_
            refine TO.val rfl rfl rfl (Val.assign rfl) ?_
            refine TO.nil ?_
            refine T.condF (fun a ha => ha.ev (.tmp 36) _ rfl) ?_
            refine T.seq ?_
            refine T.text rfl ?_
            refine TO.val rfl rfl rfl (Val.faddr_ptr (fo := 3) rfl rfl rfl) ?_
            refine TO.val rfl rfl rfl (Val.load_row (p := 0) rfl ⟨_, rfl, rfl⟩ rfl rfl rfl) ?_
            refine TO.val rfl rfl rfl (Val.len_gs rfl rfl) ?_
            refine TO.gtr rfl rfl rfl rfl rfl (fun c56 hc56 => ?_)
            refine TO.val rfl rfl rfl (Val.assign rfl) ?_
            refine TO.nil ?_
            cases c56 with
            | true =>
              replace hc56 := btrue hc56
              refine T.condT (fun a ha => ha.ev (.tmp 52) _ rfl) ?_
              refine T.seq ?_
              refine T.text rfl ?_
              refine TO.val rfl rfl rfl (Val.assign rfl) ?_
              refine TO.nil ?_
              refine T.keep (s' := ⟨[], [(6, _)], _ :: _ :: _ :: C⟩) ⟨rfl, (keep_cons rfl keep_nil), (.cons _ (.cons_cons _ (.cons_cons _ (.cons_cons _ (.refl _)))))⟩ ?_
              refine T.ret ?_
              have hv : gathErr before g = 3 := by unfold gathErr; (repeat' split) <;> first | rfl | (exfalso; simp_all; done) | (exfalso; simp_all [inR]; omega) | simp_all [inR]
              exact ⟨rfl, _, rfl, _, _, _, congrArg iv hv.symm, rfl, fun h0 => (by omega)⟩
            | false =>
              replace hc56 := bfalse hc56
              refine T.condF (fun a ha => ha.ev (.tmp 52) _ rfl) ?_
              refine T.skip ?_
              refine T.seq ?_
              refine T.seq ?_
              refine T.text rfl ?_
              refine TO.val rfl rfl rfl (Val.faddr_ptr (fo := 0) rfl rfl rfl) ?_
              refine TO.val rfl rfl rfl (Val.load_rows (p := 0) (c := [_, _]) rfl ⟨⟨_, rfl, rfl⟩, rfl, by decide⟩ rfl rfl rfl rfl) ?_
              refine TO.callD rfl rfl rfl rfl rfl (orcL rfl (by first | decide | omega)) (.cons (.agg (.cons .lit (.cons .lit .nil))) .nil) (sem_of (q_lettered g.sig )) (fun c59 hc59 => ?_)
              refine TO.nil ?_
              cases c59 with
              | true =>
                replace hc59 := btrue hc59
                refine T.condT (fun a ha => ha.ev (.tmp 59) _ rfl) ?_
                refine T.text rfl ?_
                refine TO.val rfl rfl rfl (Val.faddr_ptr (fo := 0) rfl rfl rfl) ?_
                refine TO.val rfl rfl rfl (Val.load_rows (p := 0) (c := [_, _]) rfl ⟨⟨_, rfl, rfl⟩, rfl, by decide⟩ rfl rfl rfl rfl) ?_
                refine TO.store_row (p := 3) (cv := [_, _]) (cells' := [_, _]) rfl rfl rfl rfl rfl rfl rfl rfl rfl rfl (by first | rfl | simp [GS.one]) (by decide) rfl ?_
                refine TO.things (hs' := _ :: _ :: _ :: _ :: C) rfl ?_
                refine TO.nil ?_
                refine T.seq ?_
                refine T.text rfl ?_
                refine TO.val rfl rfl rfl (Val.faddr_ptr (fo := 3) rfl rfl rfl) ?_
                refine TO.val rfl rfl rfl (Val.load_row (p := 0) rfl ⟨_, rfl, rfl⟩ rfl rfl rfl) ?_
                refine TO.val rfl rfl rfl (Val.makeFunc rfl rfl) ?_
                refine TO.callV rfl rfl rfl rfl rfl rfl (orcN rfl) (q_chgs (by omega) g _ (by omega)) ?_
                rintro _ _ ⟨i0, rfl, rfl⟩
                refine TO.things (hs' := _ :: _ :: _ :: _ :: C) rfl ?_
                refine TO.val rfl rfl rfl (Val.move rfl) ?_
                refine TO.val rfl rfl rfl (Val.extract rfl rfl) ?_
                refine TO.val rfl rfl rfl (Val.extract rfl rfl) ?_
                refine TO.val rfl rfl rfl (Val.assign rfl) ?_
                refine TO.val rfl rfl rfl (Val.assign rfl) ?_
                refine TO.nil ?_
                refine T.seq ?_
                refine T.text rfl ?_
                refine TO.val rfl rfl rfl (Val.move rfl) ?_
                refine TO.val rfl rfl rfl (Val.assign rfl) ?_
                refine TO.nil ?_
                refine T.keep (s' := ⟨[], [(6, _)], _ :: _ :: _ :: C⟩) ⟨rfl, (keep_cons rfl keep_nil), (.cons _ (.cons_cons _ (.cons_cons _ (.cons_cons _ (.refl _)))))⟩ ?_
                refine T.ret ?_
                have hv : gathErr before g = chgsErr g.leaves none g.ch.l := by unfold gathErr; (repeat' split) <;> first | rfl | (exfalso; simp_all; done) | (exfalso; simp_all [inR]; omega) | simp_all [inR]
                exact ⟨rfl, _, rfl, _, _, _, congrArg iv hv.symm, rfl, fun h0 => (by first | exact ⟨hmet, hl.snoc hs hc59 hrk⟩ | exact ⟨hmet, hl.same hc59⟩)⟩
              | false =>
                replace hc59 := bfalse hc59
                refine T.condF (fun a ha => ha.ev (.tmp 59) _ rfl) ?_
                refine T.skip ?_
                refine T.seq ?_
                refine T.text rfl ?_
                refine TO.val rfl rfl rfl (Val.faddr_ptr (fo := 3) rfl rfl rfl) ?_
                refine TO.val rfl rfl rfl (Val.load_row (p := 0) rfl ⟨_, rfl, rfl⟩ rfl rfl rfl) ?_
                refine TO.val rfl rfl rfl (Val.makeFunc rfl rfl) ?_
                refine TO.callV rfl rfl rfl rfl rfl rfl (orcN rfl) (q_chgs (by omega) g _ (by omega)) ?_
                rintro _ _ ⟨i0, rfl, rfl⟩
                refine TO.things (hs' := _ :: _ :: _ :: _ :: C) rfl ?_
                refine TO.val rfl rfl rfl (Val.move rfl) ?_
                refine TO.val rfl rfl rfl (Val.extract rfl rfl) ?_
                refine TO.val rfl rfl rfl (Val.extract rfl rfl) ?_
                refine TO.val rfl rfl rfl (Val.assign rfl) ?_
                refine TO.val rfl rfl rfl (Val.assign rfl) ?_
                refine TO.nil ?_
                refine T.seq ?_
                refine T.text rfl ?_
                refine TO.val rfl rfl rfl (Val.move rfl) ?_
                refine TO.val rfl rfl rfl (Val.assign rfl) ?_
                refine TO.nil ?_
                refine T.keep (s' := ⟨[], [(6, _)], _ :: _ :: _ :: C⟩) ⟨rfl, (keep_cons rfl keep_nil), (.cons _ (.cons_cons _ (.cons_cons _ (.cons_cons _ (.refl _)))))⟩ ?_
                refine T.ret ?_
                have hv : gathErr before g = chgsErr g.leaves none g.ch.l := by unfold gathErr; (repeat' split) <;> first | rfl | (exfalso; simp_all; done) | (exfalso; simp_all [inR]; omega) | simp_all [inR]
                exact ⟨rfl, _, rfl, _, _, _, congrArg iv hv.symm, rfl, fun h0 => (by first | exact ⟨hmet, hl.snoc hs hc59 hrk⟩ | exact ⟨hmet, hl.same hc59⟩)⟩
      | false =>
        replace hc29 := bfalse hc29
        have hrk : ¬ (rank g.sig ≥ 0 ∧ rank g.sig < lastRank before) := by rw [rank_neg hc29]; omega
        refine TO.off rfl rfl rfl ?_
        refine TO.off rfl rfl rfl ?_
        refine TO.off rfl rfl rfl ?_
        refine TO.off rfl rfl rfl ?_
        refine TO.val rfl rfl rfl (Val.pick rfl rfl rfl) ?_
        refine TO.val rfl rfl rfl (Val.assign rfl) ?_
        refine TO.nil ?_
        refine T.condF (fun a ha => ha.ev (.tmp 26) _ rfl) ?_
        refine T.seq ?_
        refine T.text rfl ?_
        refine TO.val rfl rfl rfl (Val.faddr_ptr (fo := 2) rfl rfl rfl) ?_
        refine TO.val rfl rfl rfl (Val.load_row (p := 0) rfl ⟨_, rfl, rfl⟩ rfl rfl rfl) ?_
        refine TO.neq rfl rfl rfl rfl rfl (fun c39 hc39 => ?_)
        refine TO.val rfl rfl rfl (Val.move rfl) ?_
        cases c39 with
        | true =>
          replace hc39 := btrue hc39
          refine TO.val rfl rfl rfl (Val.faddr_ptr (fo := 2) rfl rfl rfl) ?_
          refine TO.val rfl rfl rfl (Val.load_row (p := 0) rfl ⟨_, rfl, rfl⟩ rfl rfl rfl) ?_
          refine TO.build1 (en := encI) (a := _) rfl rfl rfl ⟨rfl, rfl⟩ ⟨_, rfl, rfl⟩ (by decide) (by decide) rfl rfl (fun v43 => ?_)
          refine TO.callD rfl rfl rfl rfl rfl (orcL rfl (by first | decide | omega)) (.cons .lit (.cons .lit (.cons (.ownL (p := 0) rfl .ints) .nil))) (sem_of (q_out _ _ _ (by exact out1_small))) (fun c44 hc44 => ?_)
          replace hc44 := out1 hc44
          refine TO.val rfl rfl rfl (Val.move rfl) ?_
          cases c44 with
          | true =>
            replace hc44 := btrue hc44
            refine TO.off rfl rfl rfl ?_
            refine TO.off rfl rfl rfl ?_
            refine TO.off rfl rfl rfl ?_
            refine TO.off rfl rfl rfl ?_
            refine TO.val rfl rfl rfl (Val.pick rfl rfl rfl) ?_
            refine TO.val rfl rfl rfl (Val.pick rfl rfl rfl) ?_
            refine TO.val rfl rfl rfl (Val.assign rfl) ?_
            refine TO.nil ?_
            refine T.condT (fun a ha => ha.ev (.tmp 36) _ rfl) ?_
            refine T.seq ?_
            refine T.text rfl ?_
            refine TO.val rfl rfl rfl (Val.assign rfl) ?_
            refine TO.nil ?_
            refine T.keep (s' := ⟨[], [(6, _)], _ :: _ :: _ :: C⟩) ⟨rfl, (keep_cons rfl keep_nil), (.cons _ (.cons _ (.cons_cons _ (.cons_cons _ (.cons_cons _ (.refl _))))))⟩ ?_
            refine T.ret ?_
            have hv : gathErr before g = 7 := by unfold gathErr; (repeat' split) <;> first | rfl | (exfalso; simp_all; done) | (exfalso; simp_all [inR]; omega) | simp_all [inR]
            exact ⟨rfl, _, rfl, _, _, _, congrArg iv hv.symm, rfl, fun h0 => (by omega)⟩
          | false =>
            replace hc44 := bfalse hc44
            refine TO.val rfl rfl rfl (Val.faddr_ptr (fo := 2) rfl rfl rfl) ?_
            refine TO.val rfl rfl rfl (Val.load_row (p := 1) rfl ⟨_, rfl, rfl⟩ rfl rfl rfl) ?_
            refine TO.val rfl rfl rfl (Val.rem rfl rfl (by omega)) ?_
            refine TO.eql rfl rfl rfl rfl rfl (fun c49 hc49 => ?_)
            refine TO.val rfl rfl rfl (Val.pick rfl rfl rfl) ?_
            refine TO.val rfl rfl rfl (Val.pick rfl rfl rfl) ?_
            refine TO.val rfl rfl rfl (Val.assign rfl) ?_
            refine TO.nil ?_
            cases c49 with
            | true =>
              replace hc49 := btrue hc49
              refine T.condT (fun a ha => ha.ev (.tmp 36) _ rfl) ?_
              refine T.seq ?_
              refine T.text rfl ?_
              refine TO.val rfl rfl rfl (Val.assign rfl) ?_
              refine TO.nil ?_
              refine T.keep (s' := ⟨[], [(6, _)], _ :: _ :: _ :: C⟩) ⟨rfl, (keep_cons rfl keep_nil), (.cons _ (.cons _ (.cons_cons _ (.cons_cons _ (.cons_cons _ (.refl _))))))⟩ ?_
              refine T.ret ?_
              have hv : gathErr before g = 7 := by unfold gathErr; (repeat' split) <;> first | rfl | (exfalso; simp_all; done) | (exfalso; simp_all [inR]; omega) | simp_all [inR]
              exact ⟨rfl, _, rfl, _, _, _, congrArg iv hv.symm, rfl, fun h0 => (by omega)⟩
            | false =>
              replace hc49 := bfalse hc49
              refine T.condF (fun a ha => ha.ev (.tmp 36) _ rfl) ?_
              refine T.seq ?_
              refine T.text rfl ?_
              refine TO.val rfl rfl rfl (Val.faddr_ptr (fo := 3) rfl rfl rfl) ?_
              refine TO.val rfl rfl rfl (Val.load_row (p := 1) rfl ⟨_, rfl, rfl⟩ rfl rfl rfl) ?_
              refine TO.val rfl rfl rfl (Val.len_gs rfl rfl) ?_
              refine TO.gtr rfl rfl rfl rfl rfl (fun c56 hc56 => ?_)
              refine TO.val rfl rfl rfl (Val.assign rfl) ?_
              refine TO.nil ?_
              cases c56 with
              | true =>
                replace hc56 := btrue hc56
                refine T.condT (fun a ha => ha.ev (.tmp 52) _ rfl) ?_
                refine T.seq ?_
                refine T.text rfl ?_
                refine TO.val rfl rfl rfl (Val.assign rfl) ?_
                refine TO.nil ?_
                refine T.keep (s' := ⟨[], [(6, _)], _ :: _ :: _ :: C⟩) ⟨rfl, (keep_cons rfl keep_nil), (.cons _ (.cons _ (.cons_cons _ (.cons_cons _ (.cons_cons _ (.refl _))))))⟩ ?_
                refine T.ret ?_
                have hv : gathErr before g = 3 := by unfold gathErr; (repeat' split) <;> first | rfl | (exfalso; simp_all; done) | (exfalso; simp_all [inR]; omega) | simp_all [inR]
                exact ⟨rfl, _, rfl, _, _, _, congrArg iv hv.symm, rfl, fun h0 => (by omega)⟩
              | false =>
                replace hc56 := bfalse hc56
                refine T.condF (fun a ha => ha.ev (.tmp 52) _ rfl) ?_
                refine T.skip ?_
                refine T.seq ?_
                refine T.seq ?_
                refine T.text rfl ?_
                refine TO.val rfl rfl rfl (Val.faddr_ptr (fo := 0) rfl rfl rfl) ?_
                refine TO.val rfl rfl rfl (Val.load_rows (p := 1) (c := [_, _]) rfl ⟨⟨_, rfl, rfl⟩, rfl, by decide⟩ rfl rfl rfl rfl) ?_
                refine TO.callD rfl rfl rfl rfl rfl (orcL rfl (by first | decide | omega)) (.cons (.agg (.cons .lit (.cons .lit .nil))) .nil) (sem_of (q_lettered g.sig )) (fun c59 hc59 => ?_)
                refine TO.nil ?_
                cases c59 with
                | true =>
                  replace hc59 := btrue hc59
                  refine T.condT (fun a ha => ha.ev (.tmp 59) _ rfl) ?_
                  refine T.text rfl ?_
                  refine TO.val rfl rfl rfl (Val.faddr_ptr (fo := 0) rfl rfl rfl) ?_
                  refine TO.val rfl rfl rfl (Val.load_rows (p := 1) (c := [_, _]) rfl ⟨⟨_, rfl, rfl⟩, rfl, by decide⟩ rfl rfl rfl rfl) ?_
                  refine TO.store_row (p := 4) (cv := [_, _]) (cells' := [_, _]) rfl rfl rfl rfl rfl rfl rfl rfl rfl rfl (by first | rfl | simp [GS.one]) (by decide) rfl ?_
                  refine TO.things (hs' := _ :: _ :: _ :: _ :: _ :: C) rfl ?_
                  refine TO.nil ?_
                  refine T.seq ?_
                  refine T.text rfl ?_
                  refine TO.val rfl rfl rfl (Val.faddr_ptr (fo := 3) rfl rfl rfl) ?_
                  refine TO.val rfl rfl rfl (Val.load_row (p := 1) rfl ⟨_, rfl, rfl⟩ rfl rfl rfl) ?_
                  refine TO.val rfl rfl rfl (Val.makeFunc rfl rfl) ?_
                  refine TO.pick (p := 1) rfl ?_
                  refine TO.things (hs' := _ :: _ :: _ :: _ :: _ :: C) rfl ?_
                  refine TO.callV rfl rfl rfl rfl rfl rfl (orcN rfl) (q_chgs (by omega) g _ (by omega)) ?_
                  rintro _ _ ⟨i0, rfl, rfl⟩
                  refine TO.things (hs' := _ :: _ :: _ :: _ :: _ :: C) rfl ?_
                  refine TO.val rfl rfl rfl (Val.move rfl) ?_
                  refine TO.val rfl rfl rfl (Val.extract rfl rfl) ?_
                  refine TO.val rfl rfl rfl (Val.extract rfl rfl) ?_
                  refine TO.val rfl rfl rfl (Val.assign rfl) ?_
                  refine TO.val rfl rfl rfl (Val.assign rfl) ?_
                  refine TO.nil ?_
                  refine T.seq ?_
                  refine T.text rfl ?_
                  refine TO.val rfl rfl rfl (Val.move rfl) ?_
                  refine TO.val rfl rfl rfl (Val.assign rfl) ?_
                  refine TO.nil ?_
                  refine T.keep (s' := ⟨[], [(6, _)], _ :: _ :: _ :: C⟩) ⟨rfl, (keep_cons rfl keep_nil), (.cons _ (.cons _ (.cons_cons _ (.cons_cons _ (.cons_cons _ (.refl _))))))⟩ ?_
                  refine T.ret ?_
                  have hv : gathErr before g = chgsErr g.leaves none g.ch.l := by unfold gathErr; (repeat' split) <;> first | rfl | (exfalso; simp_all; done) | (exfalso; simp_all [inR]; omega) | simp_all [inR]
                  exact ⟨rfl, _, rfl, _, _, _, congrArg iv hv.symm, rfl, fun h0 => (by first | exact ⟨hmet, hl.snoc hs hc59 hrk⟩ | exact ⟨hmet, hl.same hc59⟩)⟩
                | false =>
                  replace hc59 := bfalse hc59
                  refine T.condF (fun a ha => ha.ev (.tmp 59) _ rfl) ?_
                  refine T.skip ?_
                  refine T.seq ?_
                  refine T.text rfl ?_
                  refine TO.val rfl rfl rfl (Val.faddr_ptr (fo := 3) rfl rfl rfl) ?_
                  refine TO.val rfl rfl rfl (Val.load_row (p := 1) rfl ⟨_, rfl, rfl⟩ rfl rfl rfl) ?_
                  refine TO.val rfl rfl rfl (Val.makeFunc rfl rfl) ?_
                  refine TO.pick (p := 1) rfl ?_
                  refine TO.things (hs' := _ :: _ :: _ :: _ :: _ :: C) rfl ?_
                  refine TO.callV rfl rfl rfl rfl rfl rfl (orcN rfl) (q_chgs (by omega) g _ (by omega)) ?_
                  rintro _ _ ⟨i0, rfl, rfl⟩
                  refine TO.things (hs' := _ :: _ :: _ :: _ :: _ :: C) rfl ?_
                  refine TO.val rfl rfl rfl (Val.move rfl) ?_
                  refine TO.val rfl rfl rfl (Val.extract rfl rfl) ?_
                  refine TO.val rfl rfl rfl (Val.extract rfl rfl) ?_
                  refine TO.val rfl rfl rfl (Val.assign rfl) ?_
                  refine TO.val rfl rfl rfl (Val.assign rfl) ?_
                  refine TO.nil ?_
                  refine T.seq ?_
                  refine T.text rfl ?_
                  refine TO.val rfl rfl rfl (Val.move rfl) ?_
                  refine TO.val rfl rfl rfl (Val.assign rfl) ?_
                  refine TO.nil ?_
                  refine T.keep (s' := ⟨[], [(6, _)], _ :: _ :: _ :: C⟩) ⟨rfl, (keep_cons rfl keep_nil), (.cons _ (.cons _ (.cons_cons _ (.cons_cons _ (.cons_cons _ (.refl _))))))⟩ ?_
                  refine T.ret ?_
                  have hv : gathErr before g = chgsErr g.leaves none g.ch.l := by unfold gathErr; (repeat' split) <;> first | rfl | (exfalso; simp_all; done) | (exfalso; simp_all [inR]; omega) | simp_all [inR]
                  exact ⟨rfl, _, rfl, _, _, _, congrArg iv hv.symm, rfl, fun h0 => (by first | exact ⟨hmet, hl.snoc hs hc59 hrk⟩ | exact ⟨hmet, hl.same hc59⟩)⟩
        | false =>
          replace hc39 := bfalse hc39
          refine TO.off rfl rfl rfl ?_
          refine TO.off rfl rfl rfl ?_
          refine TO.off rfl rfl rfl ?_
          refine TO.off rfl rfl rfl ?_
          refine TO.off rfl rfl rfl ?_
          refine TO.off rfl rfl rfl ?_
          refine TO.off rfl rfl rfl ?_
          refine TO.off rfl rfl rfl ?_
          refine TO.off rfl rfl rfl ?_
          refine TO.off rfl rfl rfl ?_
          refine TO.val rfl rfl rfl (Val.pick rfl rfl rfl) ?_
          refine TO.val rfl rfl rfl (Val.assign rfl) ?_
          refine TO.nil ?_
          refine T.condF (fun a ha => ha.ev (.tmp 36) _ rfl) ?_
          refine T.seq ?_
          refine T.text rfl ?_
          refine TO.val rfl rfl rfl (Val.faddr_ptr (fo := 3) rfl rfl rfl) ?_
          refine TO.val rfl rfl rfl (Val.load_row (p := 0) rfl ⟨_, rfl, rfl⟩ rfl rfl rfl) ?_
          refine TO.val rfl rfl rfl (Val.len_gs rfl rfl) ?_
          refine TO.gtr rfl rfl rfl rfl rfl (fun c56 hc56 => ?_)
          refine TO.val rfl rfl rfl (Val.assign rfl) ?_
          refine TO.nil ?_
          cases c56 with
          | true =>
            replace hc56 := btrue hc56
            refine T.condT (fun a ha => ha.ev (.tmp 52) _ rfl) ?_
            refine T.seq ?_
            refine T.text rfl ?_
            refine TO.val rfl rfl rfl (Val.assign rfl) ?_
            refine TO.nil ?_
            refine T.keep (s' := ⟨[], [(6, _)], _ :: _ :: _ :: C⟩) ⟨rfl, (keep_cons rfl keep_nil), (.cons _ (.cons_cons _ (.cons_cons _ (.cons_cons _ (.refl _)))))⟩ ?_
            refine T.ret ?_
            have hv : gathErr before g = 3 := by unfold gathErr; (repeat' split) <;> first | rfl | (exfalso; simp_all; done) | (exfalso; simp_all [inR]; omega) | simp_all [inR]
            exact ⟨rfl, _, rfl, _, _, _, congrArg iv hv.symm, rfl, fun h0 => (by omega)⟩
          | false =>
            replace hc56 := bfalse hc56
            refine T.condF (fun a ha => ha.ev (.tmp 52) _ rfl) ?_
            refine T.skip ?_
            refine T.seq ?_
            refine T.seq ?_
            refine T.text rfl ?_
            refine TO.val rfl rfl rfl (Val.faddr_ptr (fo := 0) rfl rfl rfl) ?_
            refine TO.val rfl rfl rfl (Val.load_rows (p := 0) (c := [_, _]) rfl ⟨⟨_, rfl, rfl⟩, rfl, by decide⟩ rfl rfl rfl rfl) ?_
            refine TO.callD rfl rfl rfl rfl rfl (orcL rfl (by first | decide | omega)) (.cons (.agg (.cons .lit (.cons .lit .nil))) .nil) (sem_of (q_lettered g.sig )) (fun c59 hc59 => ?_)
            refine TO.nil ?_
            cases c59 with
            | true =>
              replace hc59 := btrue hc59
              refine T.condT (fun a ha => ha.ev (.tmp 59) _ rfl) ?_
              refine T.text rfl ?_
              refine TO.val rfl rfl rfl (Val.faddr_ptr (fo := 0) rfl rfl rfl) ?_
              refine TO.val rfl rfl rfl (Val.load_rows (p := 0) (c := [_, _]) rfl ⟨⟨_, rfl, rfl⟩, rfl, by decide⟩ rfl rfl rfl rfl) ?_
              refine TO.store_row (p := 3) (cv := [_, _]) (cells' := [_, _]) rfl rfl rfl rfl rfl rfl rfl rfl rfl rfl (by first | rfl | simp [GS.one]) (by decide) rfl ?_
              refine TO.things (hs' := _ :: _ :: _ :: _ :: C) rfl ?_
              refine TO.nil ?_
              refine T.seq ?_
              refine T.text rfl ?_
              refine TO.val rfl rfl rfl (Val.faddr_ptr (fo := 3) rfl rfl rfl) ?_
              refine TO.val rfl rfl rfl (Val.load_row (p := 0) rfl ⟨_, rfl, rfl⟩ rfl rfl rfl) ?_
              refine TO.val rfl rfl rfl (Val.makeFunc rfl rfl) ?_
              refine TO.callV rfl rfl rfl rfl rfl rfl (orcN rfl) (q_chgs (by omega) g _ (by omega)) ?_
              rintro _ _ ⟨i0, rfl, rfl⟩
              refine TO.things (hs' := _ :: _ :: _ :: _ :: C) rfl ?_
              refine TO.val rfl rfl rfl (Val.move rfl) ?_
              refine TO.val rfl rfl rfl (Val.extract rfl rfl) ?_
              refine TO.val rfl rfl rfl (Val.extract rfl rfl) ?_
              refine TO.val rfl rfl rfl (Val.assign rfl) ?_
              refine TO.val rfl rfl rfl (Val.assign rfl) ?_
              refine TO.nil ?_
              refine T.seq ?_
              refine T.text rfl ?_
              refine TO.val rfl rfl rfl (Val.move rfl) ?_
              refine TO.val rfl rfl rfl (Val.assign rfl) ?_
              refine TO.nil ?_
              refine T.keep (s' := ⟨[], [(6, _)], _ :: _ :: _ :: C⟩) ⟨rfl, (keep_cons rfl keep_nil), (.cons _ (.cons_cons _ (.cons_cons _ (.cons_cons _ (.refl _)))))⟩ ?_
              refine T.ret ?_
              have hv : gathErr before g = chgsErr g.leaves none g.ch.l := by unfold gathErr; (repeat' split) <;> first | rfl | (exfalso; simp_all; done) | (exfalso; simp_all [inR]; omega) | simp_all [inR]
              exact ⟨rfl, _, rfl, _, _, _, congrArg iv hv.symm, rfl, fun h0 => (by first | exact ⟨hmet, hl.snoc hs hc59 hrk⟩ | exact ⟨hmet, hl.same hc59⟩)⟩
            | false =>
              replace hc59 := bfalse hc59
              refine T.condF (fun a ha => ha.ev (.tmp 59) _ rfl) ?_
              refine T.skip ?_
              refine T.seq ?_
              refine T.text rfl ?_
              refine TO.val rfl rfl rfl (Val.faddr_ptr (fo := 3) rfl rfl rfl) ?_
              refine TO.val rfl rfl rfl (Val.load_row (p := 0) rfl ⟨_, rfl, rfl⟩ rfl rfl rfl) ?_
              refine TO.val rfl rfl rfl (Val.makeFunc rfl rfl) ?_
              refine TO.callV rfl rfl rfl rfl rfl rfl (orcN rfl) (q_chgs (by omega) g _ (by omega)) ?_
              rintro _ _ ⟨i0, rfl, rfl⟩
              refine TO.things (hs' := _ :: _ :: _ :: _ :: C) rfl ?_
              refine TO.val rfl rfl rfl (Val.move rfl) ?_
              refine TO.val rfl rfl rfl (Val.extract rfl rfl) ?_
              refine TO.val rfl rfl rfl (Val.extract rfl rfl) ?_
              refine TO.val rfl rfl rfl (Val.assign rfl) ?_
              refine TO.val rfl rfl rfl (Val.assign rfl) ?_
              refine TO.nil ?_
              refine T.seq ?_
              refine T.text rfl ?_
              refine TO.val rfl rfl rfl (Val.move rfl) ?_
              refine TO.val rfl rfl rfl (Val.assign rfl) ?_
              refine TO.nil ?_
              refine T.keep (s' := ⟨[], [(6, _)], _ :: _ :: _ :: C⟩) ⟨rfl, (keep_cons rfl keep_nil), (.cons _ (.cons_cons _ (.cons_cons _ (.cons_cons _ (.refl _)))))⟩ ?_
              refine T.ret ?_
              have hv : gathErr before g = chgsErr g.leaves none g.ch.l := by unfold gathErr; (repeat' split) <;> first | rfl | (exfalso; simp_all; done) | (exfalso; simp_all [inR]; omega) | simp_all [inR]
              exact ⟨rfl, _, rfl, _, _, _, congrArg iv hv.symm, rfl, fun h0 => (by first | exact ⟨hmet, hl.snoc hs hc59 hrk⟩ | exact ⟨hmet, hl.same hc59⟩)⟩
theorem q_gats {k bm bl mid : Nat} (hk : 2 ≤ k) (b : Book) (C : List Thing) (hb : b.gs.l.length ≤ 30) :
    TF (EL k) 74 [b.gs.v, .func 75 [] [.ptr bm 0 1, .ptr bl 0 2]] (.row bm 1 [.map mid] :: .cnt mid KPair (fun _ => 0) [] :: .row bl 2 [iv 0, iv 0] :: C) fun v hs' => ∃ (i0 e0 : Int) (f : Value → Int) (lr ll : Int), v = .tuple [iv i0, iv e0] ∧
      (gathsErr [] b.gs.l 0 = none ∧ i0 = 0 ∧ e0 = 0 ∨ ∃ j, gathsErr [] b.gs.l 0 = some (j, e0) ∧ i0 = j ∧ e0 ≠ 0) ∧ hs' = .row bm 1 [.map mid] :: .cnt mid KPair f [] :: .row bl 2 [iv lr, iv ll] :: C := by
  refine TF.enter (fn := Go.Proofs.Try.f74) rfl rfl rfl rfl rfl ?_
  refine T.seq ?_
  refine T.text rfl ?_
  refine TO.val rfl rfl rfl (Val.assign rfl) ?_
  refine TO.val rfl rfl rfl (Val.assign rfl) ?_
  refine TO.nil ?_
  refine T.seq ?_
  refine T.seq ?_
  refine T.text rfl ?_
  refine TO.val rfl rfl rfl (Val.move rfl) ?_
  refine TO.val rfl rfl rfl (Val.len_gs rfl rfl) ?_
  refine TO.val rfl rfl rfl (Val.move rfl) ?_
  refine TO.nil ?_
  refine T.block ?_
  refine T.loop (fun μ s => ∃ i : Nat, ∃ j : Int, ∃ f : Value → Int, ∃ lr : Int, ∃ ll : Int, μ = b.gs.l.length - i ∧ j = i ∧ i ≤ b.gs.l.length ∧ gathsErr [] b.gs.l 0 = gathsErr (b.gs.l.take i) (b.gs.l.drop i) i ∧ MetOk (b.gs.l.take i) f ∧ LastOk (b.gs.l.take i) ⟨lr, ll⟩ ∧ s = ⟨[], [(1, .func 75 [] [.ptr bm 0 1, .ptr bl 0 2]), (9, b.gs.v), (10, iv (b.gs.l.length : Int)), (11, iv j)], (.row bm 1 [.map mid]) :: (.cnt mid KPair f []) :: (.row bl 2 [iv lr, iv ll]) :: C⟩) (k := _) (s' := _) ⟨0, 0, _, _, _, rfl, (by first | rfl | omega | (simp; done) | (simp; omega) | simp_all), (by first | rfl | omega | (simp; done) | (simp; omega) | simp_all), (by rfl), (by exact MetOk.nil), (by exact LastOk.nil), rfl⟩ ⟨rfl, (keep_cons rfl (keep_cons rfl (keep_cons rfl (keep_cons rfl keep_nil)))), (.cons_cons _ (.cons_cons _ (.cons_cons _ (.refl _))))⟩ ?_
  rintro μ _ ⟨i, j, f, lr, ll, hk0, hj, hi, he, hm, hl, rfl⟩
  subst hj
  refine T.seq ?_
  refine T.text rfl ?_
  refine TO.lss rfl rfl rfl rfl rfl (fun c12 hc12 => ?_)
  refine TO.nil ?_
  refine T.seq ?_
  cases c12 with
  | true =>
    replace hc12 := btrue hc12
    refine T.condT (fun a ha => ha.ev (.tmp 12) _ rfl) ?_
    refine T.skip ?_
    refine T.seq ?_
    refine T.block ?_
    refine T.seq ?_
    refine T.text rfl ?_
    refine TO.val rfl rfl rfl (Val.move rfl) ?_
    refine TO.index_gs rfl rfl rfl ⟨rfl, rfl⟩ rfl rfl (by omega) (fun g rg eg => ?_)
    try simp only [Int.toNat_natCast] at eg
    refine TO.val rfl rfl rfl (Val.load_trees (c := _) ⟨⟨_, rfl, rfl⟩, rfl, by decide⟩ rfl rfl) ?_
    refine TO.alloc (k := 4) (cells := [_, _, _, _]) rfl rfl rfl rfl rfl rfl rfl (fun b7 => ?_)
    refine TO.val rfl rfl rfl (Val.assign rfl) ?_
    refine TO.store_row (p := 0) (cv := [_, _, _, _]) (cells' := [_, _, _, _]) rfl rfl rfl rfl rfl rfl rfl rfl rfl rfl (by first | rfl | simp [GS.one]) (by decide) rfl ?_
    refine TO.things (hs' := _ :: _ :: _ :: _ :: C) rfl ?_
    refine TO.nil ?_
    refine T.seq ?_
    refine T.text rfl ?_
    refine TO.val rfl rfl rfl (Val.move rfl) ?_
    refine TO.val rfl rfl rfl (Val.move rfl) ?_
    refine TO.val rfl rfl rfl (Val.load_rows (p := 0) (c := [_, _, _, _]) rfl ⟨⟨_, rfl, rfl⟩, rfl, by decide⟩ rfl rfl rfl rfl) ?_
    refine TO.pick (p := 3) rfl ?_
    refine TO.things (hs' := _ :: _ :: _ :: _ :: C) rfl ?_
    refine TO.pick (p := 3) rfl ?_
    refine TO.things (hs' := _ :: _ :: _ :: _ :: C) rfl ?_
    refine TO.pick (p := 3) rfl ?_
    refine TO.things (hs' := _ :: _ :: _ :: _ :: C) rfl ?_
    refine TO.callV rfl rfl rfl rfl rfl rfl (orcN rfl) (q_gat hk g i (b.gs.l.take i) f lr ll _ (by rw [List.length_take]; omega) hm hl) ?_
    rintro _ _ ⟨f1, lr1, ll1, rfl, rfl, hnew⟩
    generalize hE : gathErr (b.gs.l.take i) g = E19
    refine TO.things (hs' := _ :: _ :: _ :: _ :: C) rfl ?_
    refine TO.val rfl rfl rfl (Val.assign rfl) ?_
    refine TO.nil ?_
    refine T.seq ?_
    refine T.text rfl ?_
    refine TO.val rfl rfl rfl (Val.move rfl) ?_
    refine TO.neq rfl rfl rfl rfl rfl (fun c21 hc21 => ?_)
    refine TO.nil ?_
    cases c21 with
    | true =>
      replace hc21 := btrue hc21
      have hG : gathsErr [] b.gs.l 0 = some (i, E19) := by rw [he, drop_cons eg, gathsErr, hE, if_pos hc21]
      refine T.condT (fun a ha => ha.ev (.tmp 21) _ rfl) ?_
      refine T.seq ?_
      refine T.text rfl ?_
      refine TO.val rfl rfl rfl (Val.move rfl) ?_
      refine TO.val rfl rfl rfl (Val.move rfl) ?_
      refine TO.val rfl rfl rfl (Val.assign rfl) ?_
      refine TO.val rfl rfl rfl (Val.assign rfl) ?_
      refine TO.nil ?_
      refine T.keep (s' := ⟨[], [(4, _), (5, _)], _ :: _ :: _ :: C⟩) ⟨rfl, (keep_cons rfl (keep_cons rfl keep_nil)), (.cons_cons _ (.cons_cons _ (.cons_cons _ (.cons _ (.refl _)))))⟩ ?_
      refine T.ret ?_
      exact ⟨rfl, _, rfl, _, _, _, _, _, rfl, .inr ⟨_, hG, rfl, hc21⟩, rfl⟩
    | false =>
      replace hc21 := bfalse hc21
      have hE0 : E19 = 0 := by omega
      have hG : gathsErr [] b.gs.l 0 = gathsErr (b.gs.l.take (i + 1)) (b.gs.l.drop (i + 1)) (i + 1) := by rw [he, drop_cons eg, gathsErr, hE, if_neg hc21, take_snoc eg]
      have hnew := hnew (hE.trans hE0)
      rw [← take_snoc eg] at hnew
      refine T.condF (fun a ha => ha.ev (.tmp 21) _ rfl) ?_
      refine T.skip ?_
      refine T.text rfl ?_
      refine TO.val rfl rfl rfl (Val.add rfl rfl (by omega)) ?_
      refine TO.val rfl rfl rfl (Val.move rfl) ?_
      refine TO.nil ?_
      refine ⟨_, _, (by omega), ⟨i + 1, _, _, _, _, rfl, (by first | omega | simp_all), (by first | omega | simp_all), (by exact hG), (by exact hnew.1), (by exact hnew.2), rfl⟩, ⟨rfl, (keep_cons rfl (keep_cons rfl (keep_cons rfl (keep_cons rfl keep_nil)))), (.cons_cons _ (.cons_cons _ (.cons_cons _ (.cons _ (.refl _)))))⟩⟩
  | false =>
    replace hc12 := bfalse hc12
    have hG : gathsErr [] b.gs.l 0 = none := by rw [he, List.drop_eq_nil_of_le (by omega), gathsErr]
    refine T.condF (fun a ha => ha.ev (.tmp 12) _ rfl) ?_
    refine T.exit ?_
    refine T.seq ?_
    refine T.text rfl ?_
    refine TO.val rfl rfl rfl (Val.assign rfl) ?_
    refine TO.val rfl rfl rfl (Val.assign rfl) ?_
    refine TO.nil ?_
    refine T.keep (s' := ⟨[], [(4, _), (5, _)], _ :: _ :: _ :: C⟩) ⟨rfl, (keep_cons rfl (keep_cons rfl keep_nil)), (.cons_cons _ (.cons_cons _ (.cons_cons _ (.refl _))))⟩ ?_
    refine T.ret ?_
    exact ⟨rfl, _, rfl, _, _, _, _, _, rfl, .inl ⟨hG, rfl, rfl⟩, rfl⟩
theorem q_Check (b : Book)  : Comes (EL 2) 56 [.agg (encB.f b)] (.tuple [iv (bookErr b).1, iv (bookErr b).2.1, iv (bookErr b).2.2]) := by
  refine Comes.of (TF.enter (fn := Go.Proofs.Try.f56) rfl rfl rfl rfl rfl ?_)
  refine T.seq ?_
  refine T.text rfl ?_
  refine TO.box (k := 2) (cells := [_, _]) rfl rfl rfl rfl rfl rfl rfl (fun b1 => ?_)
  refine TO.val rfl rfl rfl (Val.assign rfl) ?_
  refine TO.val rfl rfl rfl (Val.assign rfl) ?_
  refine TO.val rfl rfl rfl (Val.assign rfl) ?_
  refine TO.nil ?_
  refine T.seq ?_
  refine T.block ?_
  refine T.seq ?_
  refine T.text rfl ?_
  refine TO.val rfl rfl rfl (Val.faddr_ptr (fo := 0) rfl rfl rfl) ?_
  refine TO.val rfl rfl rfl (Val.load_row (p := 0) rfl ⟨_, rfl, rfl⟩ rfl rfl rfl) ?_
  refine TO.build1 (en := encI) (a := _) rfl rfl rfl ⟨rfl, rfl⟩ ⟨_, rfl, rfl⟩ (by decide) (by decide) rfl rfl (fun v10 => ?_)
  refine TO.callD rfl rfl rfl rfl rfl (orcL rfl (by first | decide | omega)) (.cons .lit (.cons .lit (.cons (.ownL (p := 0) rfl .ints) .nil))) (sem_of (q_out _ _ _ (by exact out1_small))) (fun c11 hc11 => ?_)
  replace hc11 := out1 hc11
  refine TO.val rfl rfl rfl (Val.assign rfl) ?_
  refine TO.nil ?_
  cases c11 with
  | true =>
    replace hc11 := btrue hc11
    have hr1 : ¬ inR b.signed 0 12 := by unfold inR; omega
    clear hc11
    refine T.condT (fun a ha => ha.ev (.tmp 7) _ rfl) ?_
    refine T.seq ?_
    refine T.text rfl ?_
    refine TO.val rfl rfl rfl (Val.assign rfl) ?_
    refine TO.val rfl rfl rfl (Val.assign rfl) ?_
    refine TO.val rfl rfl rfl (Val.assign rfl) ?_
    refine TO.nil ?_
    refine T.ret ?_
    exact ⟨rfl, _, rfl, RefN.cast (.tuple (.cons .lit (.cons .lit (.cons .lit .nil)))) (by unfold bookErr; simp_all)⟩
  | false =>
    replace hc11 := bfalse hc11
    have hr1 : inR b.signed 0 12 := by unfold inR; omega
    clear hc11
    refine T.condF (fun a ha => ha.ev (.tmp 7) _ rfl) ?_
    refine T.seq ?_
    refine T.text rfl ?_
    refine TO.val rfl rfl rfl (Val.faddr_ptr (fo := 1) rfl rfl rfl) ?_
    refine TO.val rfl rfl rfl (Val.load_row (p := 1) rfl ⟨_, rfl, rfl⟩ rfl rfl rfl) ?_
    refine TO.val rfl rfl rfl (Val.len_gs rfl rfl) ?_
    refine TO.build1 (en := encI) (a := _) rfl rfl rfl ⟨rfl, rfl⟩ ⟨_, rfl, rfl⟩ (by decide) (by decide) rfl rfl (fun v16 => ?_)
    refine TO.callD rfl rfl rfl rfl rfl (orcL rfl (by first | decide | omega)) (.cons .lit (.cons .lit (.cons (.ownL (p := 0) rfl .ints) .nil))) (sem_of (q_out _ _ _ (by exact out1_small))) (fun c17 hc17 => ?_)
    replace hc17 := out1 hc17
    refine TO.val rfl rfl rfl (Val.assign rfl) ?_
    refine TO.nil ?_
    cases c17 with
    | true =>
      replace hc17 := btrue hc17
      have hr2 : ¬ inR b.gs.l.length 1 30 := by unfold inR; omega
      clear hc17
      refine T.condT (fun a ha => ha.ev (.tmp 12) _ rfl) ?_
      refine T.seq ?_
      refine T.text rfl ?_
      refine TO.val rfl rfl rfl (Val.assign rfl) ?_
      refine TO.val rfl rfl rfl (Val.assign rfl) ?_
      refine TO.val rfl rfl rfl (Val.assign rfl) ?_
      refine TO.nil ?_
      refine T.ret ?_
      exact ⟨rfl, _, rfl, RefN.cast (.tuple (.cons .lit (.cons .lit (.cons .lit .nil)))) (by unfold bookErr; simp_all)⟩
    | false =>
      replace hc17 := bfalse hc17
      have hr2 : inR b.gs.l.length 1 30 := by unfold inR; omega
      refine T.condF (fun a ha => ha.ev (.tmp 12) _ rfl) ?_
      refine T.skip ?_
      refine T.seq ?_
      refine T.text rfl ?_
      refine TO.makeMap KPair rfl rfl rfl (fun m18 => ?_)
      refine TO.alloc (k := 1) (cells := [_]) rfl rfl rfl rfl rfl rfl rfl (fun b5 => ?_)
      refine TO.store_row (p := 0) (cv := [_]) (cells' := [_]) rfl rfl rfl rfl rfl rfl rfl rfl rfl rfl (by first | rfl | simp [GS.one]) (by decide) rfl ?_
      refine TO.things (hs' := [_, _, _, _, _]) rfl ?_
      refine TO.nil ?_
      refine T.seq ?_
      refine T.text rfl ?_
      refine TO.alloc (k := 2) (cells := [_, _]) rfl rfl rfl rfl rfl rfl rfl (fun b6 => ?_)
      refine TO.nil ?_
      refine T.seq ?_
      refine T.text rfl ?_
      refine TO.val rfl rfl rfl (Val.faddr_ptr (fo := 1) rfl rfl rfl) ?_
      refine TO.val rfl rfl rfl (Val.load_row (p := 5) rfl ⟨_, rfl, rfl⟩ rfl rfl rfl) ?_
      refine TO.val rfl rfl rfl (Val.makeFunc rfl rfl) ?_
      refine TO.pick (p := 2) rfl ?_
      refine TO.things (hs' := [_, _, _, _, _, _]) rfl ?_
      refine TO.pick (p := 2) rfl ?_
      refine TO.things (hs' := [_, _, _, _, _, _]) rfl ?_
      refine TO.callV rfl rfl rfl rfl rfl rfl (orcN rfl) (q_gats (by decide) b _ (by omega)) ?_
      rintro _ _ ⟨i0, e0, f1, lr1, ll1, rfl, hG, rfl⟩
      refine TO.things (hs' := [_, _, _, _, _, _]) rfl ?_
      refine TO.val rfl rfl rfl (Val.move rfl) ?_
      refine TO.val rfl rfl rfl (Val.extract rfl rfl) ?_
      refine TO.val rfl rfl rfl (Val.extract rfl rfl) ?_
      refine TO.val rfl rfl rfl (Val.assign rfl) ?_
      refine TO.val rfl rfl rfl (Val.assign rfl) ?_
      refine TO.nil ?_
      refine T.seq ?_
      refine T.seq ?_
      refine T.text rfl ?_
      refine TO.val rfl rfl rfl (Val.move rfl) ?_
      refine TO.neq rfl rfl rfl rfl rfl (fun c27 hc27 => ?_)
      refine TO.nil ?_
      cases c27 with
      | true =>
        replace hc27 := btrue hc27
        obtain ⟨j0, hG, rfl, -⟩ : ∃ j, gathsErr [] b.gs.l 0 = some (j, e0) ∧ i0 = j ∧ e0 ≠ 0 := by rcases hG with ⟨-, -, h⟩ | h; exact absurd h hc27; exact h
        refine T.condT (fun a ha => ha.ev (.tmp 27) _ rfl) ?_
        refine T.seq ?_
        refine T.text rfl ?_
        refine TO.val rfl rfl rfl (Val.move rfl) ?_
        refine TO.val rfl rfl rfl (Val.move rfl) ?_
        refine TO.val rfl rfl rfl (Val.assign rfl) ?_
        refine TO.val rfl rfl rfl (Val.assign rfl) ?_
        refine TO.val rfl rfl rfl (Val.assign rfl) ?_
        refine TO.nil ?_
        refine T.ret ?_
        exact ⟨rfl, _, rfl, RefN.cast (.tuple (.cons .lit (.cons .lit (.cons .lit .nil)))) (by unfold bookErr; simp_all)⟩
      | false =>
        replace hc27 := bfalse hc27
        replace hG : gathsErr [] b.gs.l 0 = none := by rcases hG with ⟨h, -, -⟩ | ⟨j, -, -, h⟩; exact h; exact absurd h hc27
        refine T.condF (fun a ha => ha.ev (.tmp 27) _ rfl) ?_
        refine T.skip ?_
        refine T.seq ?_
        refine T.text rfl ?_
        refine TO.val rfl rfl rfl (Val.assign rfl) ?_
        refine TO.val rfl rfl rfl (Val.assign rfl) ?_
        refine TO.val rfl rfl rfl (Val.assign rfl) ?_
        refine TO.nil ?_
        refine T.ret ?_
        exact ⟨rfl, _, rfl, RefN.cast (.tuple (.cons .lit (.cons .lit (.cons .lit .nil)))) (by unfold bookErr; simp_all)⟩
end Go.Am.Ythckcbfijdambaa
end
section
namespace Go.Am.Ythckcbfijdambaa
open Go.Am Go.RowKit
set_option linter.unusedVariables false
set_option linter.unusedSimpArgs false
def ArgL (x : Leaf) (vs : List AV) (G : List Thing) : Prop := vs = [.agg (encL.f x)] ∧ G = []
theorem lv_iter {k : Nat} {b : Book} {bx l : Nat} {Y Z : List Leaf → List Thing → Prop} (hb : Good b) (hy : VisitG (EL k) l ArgL (· <+: leavesOf b) Y Z) (C : List Thing) (hY : Y [] C) :
    TF (EL k) 103 [.yield l, .ptr bx 0 2] (.row bx 2 [iv b.signed, b.gs.v] :: C) (fun v hs' => ∃ C', hs' = .row bx 2 [iv b.signed, b.gs.v] :: C' ∧ (Y (leavesOf b) C' ∨ ∃ q r, leavesOf b = q ++ r ∧ Z q C')) := by
  have hgs := hb.gs
  refine TF.enter (fn := Go.Proofs.Try.f103) rfl rfl rfl rfl rfl ?_
  refine T.seq ?_
  refine T.text rfl ?_
  refine TO.val rfl rfl rfl (Val.faddr_ptr (fo := 0) rfl rfl rfl) ?_
  refine TO.val rfl rfl rfl (Val.faddr_ptr (fo := 1) rfl rfl rfl) ?_
  refine TO.val rfl rfl rfl (Val.load_row (p := 0) rfl ⟨_, rfl, rfl⟩ rfl rfl rfl) ?_
  refine TO.val rfl rfl rfl (Val.len_gs rfl rfl) ?_
  refine TO.val rfl rfl rfl (Val.move rfl) ?_
  refine TO.nil ?_
  refine T.block ?_
  refine T.loop (fun μ s => ∃ i : Nat, ∃ j : Int, ∃ C1 : List Thing, μ = b.gs.l.length - i ∧ j = i ∧ i ≤ b.gs.l.length ∧ Y (leavesFrom 0 (b.gs.l.take i)) C1 ∧ s = ⟨[], [(0, .yield l), (1, .ptr bx 0 2), (16, b.gs.v), (17, iv (b.gs.l.length : Int)), (18, iv j)], (.row bx 2 [iv b.signed, b.gs.v]) :: C1⟩) (k := _) (s' := _) ⟨0, 0, _, rfl, (by first | rfl | omega | (simp; done) | (simp; omega) | simp_all), (by first | rfl | omega | (simp; done) | (simp; omega) | simp_all), (by simpa [leavesFrom] using hY), rfl⟩ ⟨rfl, (keep_cons rfl (keep_cons rfl (keep_cons rfl (keep_cons rfl (keep_cons rfl keep_nil))))), (.cons_cons _ (.refl _))⟩ ?_
  rintro μ _ ⟨i, j, C1, hk0, hj, hi, hY1, rfl⟩
  subst hj
  refine T.seq ?_
  refine T.text rfl ?_
  refine TO.lss rfl rfl rfl rfl rfl (fun c19 hc19 => ?_)
  refine TO.nil ?_
  refine T.seq ?_
  cases c19 with
  | true =>
    replace hc19 := btrue hc19
    refine T.condT (fun a ha => ha.ev (.tmp 19) _ rfl) ?_
    refine T.skip ?_
    refine T.seq ?_
    refine T.block ?_
    refine T.seq ?_
    refine T.text rfl ?_
    refine TO.val rfl rfl rfl (Val.move rfl) ?_
    refine TO.index_gs rfl rfl rfl ⟨rfl, rfl⟩ rfl rfl (by omega) (fun g rg eg => ?_)
    try simp only [Int.toNat_natCast] at eg
    obtain ⟨hg1, hg2, hg3, hg4, hg5⟩ := hb.each g (List.mem_of_getElem? eg)
    refine TO.val rfl rfl rfl (Val.load_trees (c := _) ⟨⟨_, rfl, rfl⟩, rfl, by decide⟩ rfl rfl) ?_
    refine TO.alloc (k := 4) (cells := [_, _, _, _]) rfl rfl rfl rfl rfl rfl rfl (fun b4 => ?_)
    refine TO.val rfl rfl rfl (Val.assign rfl) ?_
    refine TO.store_row (p := 0) (cv := [_, _, _, _]) (cells' := [_, _, _, _]) rfl rfl rfl rfl rfl rfl rfl rfl rfl rfl (by first | rfl | simp [GS.one]) (by decide) rfl ?_
    refine TO.things (hs' := _ :: _ :: C1) rfl ?_
    refine TO.nil ?_
    refine T.seq ?_
    refine T.text rfl ?_
    refine TO.val rfl rfl rfl (Val.faddr_ptr (fo := 3) rfl rfl rfl) ?_
    refine TO.val rfl rfl rfl (Val.load_row (p := 0) rfl ⟨_, rfl, rfl⟩ rfl rfl rfl) ?_
    refine TO.val rfl rfl rfl (Val.len_gs rfl rfl) ?_
    refine TO.makeEn (en := encC) ⟨0, 0, 0⟩ (m := g.ch.l.length) (b := 24) rfl rfl rfl ⟨rfl, rfl⟩ rfl rfl rfl rfl rfl (by omega) (by omega) (fun v26 hv26 => ?_)
    refine TO.val rfl rfl rfl (Val.assign rfl) ?_
    refine TO.nil ?_
    refine T.seq ?_
    refine T.text rfl ?_
    refine TO.val rfl rfl rfl (Val.move rfl) ?_
    refine TO.val rfl rfl rfl (Val.faddr_ptr (fo := 3) rfl rfl rfl) ?_
    refine TO.val rfl rfl rfl (Val.load_row (p := 1) rfl ⟨_, rfl, rfl⟩ rfl rfl rfl) ?_
    refine TO.eff rfl rfl rfl (Eff.copy_gs (en := encC) (l := _) (p := 0) ⟨rfl, rfl⟩ (by decide) rfl rfl rfl rfl (en_ones encC_ones _) (by simp)) ?_
    rintro _ _ ⟨rfl, rfl⟩
    refine TO.things (hs' := _ :: _ :: _ :: C1) rfl ?_
    refine TO.nil ?_
    refine T.seq ?_
    refine T.text rfl ?_
    refine TO.val rfl rfl rfl (Val.faddr_ptr (fo := 2) rfl rfl rfl) ?_
    refine TO.val rfl rfl rfl (Val.load_row (p := 1) rfl ⟨_, rfl, rfl⟩ rfl rfl rfl) ?_
    refine TO.val rfl rfl rfl (Val.add rfl rfl (by omega)) ?_
    refine TO.val rfl rfl rfl (Val.move rfl) ?_
    refine TO.nil ?_
    refine T.block ?_
    refine T.loop (fun μ s => ∃ n : Nat, ∃ j1 : Int, ∃ tk : Nat, ∃ w : AV, ∃ C2 : List Thing, μ = (g.leaves + 1).toNat - n ∧ j1 = n ∧ (n : Int) ≤ g.leaves + 1 ∧ ViewOf v26 3 g.ch.l.length tk w ∧ (∀ c ∈ g.ch.l.take tk, c.at_ < n) ∧ (∀ c ∈ g.ch.l.drop tk, n ≤ c.at_) ∧ Y (leavesFrom 0 (b.gs.l.take i) ++ (List.range n).flatMap (numLeaves (i : Int) g)) C2 ∧ s = ⟨[], [(0, .yield l), (1, .ptr bx 0 2), (16, b.gs.v), (17, iv (b.gs.l.length : Int)), (18, iv (i : Int)), (3, iv (i : Int)), (4, .ptr b4 0 4), (5, w), (33, iv (g.leaves + 1)), (34, iv j1)], (ownL false v26 encC g.ch.l) :: (.row b4 4 [iv g.round, iv g.letter, iv g.leaves, g.ch.v]) :: (.row bx 2 [iv b.signed, b.gs.v]) :: C2⟩) (k := _) (s' := _) ⟨0, 0, 0, _, _, rfl, (by first | rfl | omega | (simp; done) | (simp; omega) | simp_all), (by first | rfl | omega | (simp; done) | (simp; omega) | simp_all), (by exact hv26), (by first | rfl | omega | (simp; done) | (simp; omega) | simp_all), (by intro c hc; exact (hg5.each c (List.mem_of_mem_drop hc)).2.2.1), (by simpa using hY1), rfl⟩ ⟨rfl, (keep_cons rfl (keep_cons rfl (keep_cons rfl (keep_cons rfl (keep_cons rfl (keep_cons rfl (keep_cons rfl (keep_cons rfl (keep_cons rfl (keep_cons rfl keep_nil)))))))))), (.cons_cons _ (.cons_cons _ (.cons_cons _ (.refl _))))⟩ ?_
    rintro μ _ ⟨n, j1, tk, w, C2, hk1, hj1, hn, hw, hs1, hs2, hY2, rfl⟩
    subst hj1
    refine T.seq ?_
    refine T.text rfl ?_
    refine TO.lss rfl rfl rfl rfl rfl (fun c35 hc35 => ?_)
    refine TO.nil ?_
    refine T.seq ?_
    cases c35 with
    | true =>
      replace hc35 := btrue hc35
      refine T.condT (fun a ha => ha.ev (.tmp 35) _ rfl) ?_
      refine T.skip ?_
      refine T.seq ?_
      refine T.block ?_
      refine T.seq ?_
      refine T.text rfl ?_
      refine TO.val rfl rfl rfl (Val.move rfl) ?_
      refine TO.val rfl rfl rfl (Val.assign rfl) ?_
      refine TO.nil ?_
      refine T.seq ?_
      refine T.text rfl ?_
      refine TO.val rfl rfl rfl (Val.move rfl) ?_
      refine TO.val rfl rfl rfl (Val.move rfl) ?_
      refine TO.val rfl rfl rfl (Val.build (cs := [_, _, _, _]) (vs := [(_, _), (_, _)]) rfl rfl rfl) ?_
      refine TO.alloc (k := 4) (cells := [_, _, _, _]) rfl rfl rfl rfl rfl rfl rfl (fun b7 => ?_)
      refine TO.store_row (p := 0) (cv := [_, _, _, _]) (cells' := [_, _, _, _]) rfl rfl rfl rfl rfl rfl rfl rfl rfl rfl (by first | rfl | simp [GS.one]) (by decide) rfl ?_
      refine TO.things (hs' := _ :: _ :: _ :: _ :: C2) rfl ?_
      refine TO.nil ?_
      refine T.seq ?_
      refine T.text rfl ?_
      refine TO.val rfl rfl rfl (Val.move rfl) ?_
      refine TO.gtr rfl rfl rfl rfl rfl (fun c41 hc41 => ?_)
      refine TO.val rfl rfl rfl (Val.assign rfl) ?_
      refine TO.val rfl rfl rfl (Val.assign rfl) ?_
      refine TO.nil ?_
      refine T.seq ?_
      refine T.block ?_
      refine T.loop (fun μ s => ∃ s3 : Nat, ∃ w3 : AV, ∃ th : Bool, ∃ kd : Int, ∃ mo : Int, μ = g.ch.l.length - s3 ∧ ViewOf v26 3 g.ch.l.length s3 w3 ∧ AtN g.ch.l n s3 ∧ (th = true ↔ 0 < (n : Int) ∧ (plusOf (g.ch.l.take s3) n).2 ≠ 1) ∧ kd = (if (plusOf (g.ch.l.take s3) n).2 = 2 then 1 else 0) ∧ mo = (plusOf (g.ch.l.take s3) n).1 ∧ s = ⟨[], [(0, .yield l), (1, .ptr bx 0 2), (16, b.gs.v), (17, iv (b.gs.l.length : Int)), (18, iv (i : Int)), (3, iv (i : Int)), (4, .ptr b4 0 4), (5, w3), (33, iv (g.leaves + 1)), (34, iv (n : Int)), (6, iv (n : Int)), (7, .ptr b7 0 4), (8, bv th), (9, iv mo)], (.row b7 4 [iv (i : Int), iv (n : Int), iv 0, iv kd]) :: (ownL false v26 encC g.ch.l) :: (.row b4 4 [iv g.round, iv g.letter, iv g.leaves, g.ch.v]) :: (.row bx 2 [iv b.signed, b.gs.v]) :: C2⟩) (k := _) (s' := _) ⟨tk, w, _, 0, 0, rfl, (by exact hw), (by exact (AtN.start hs1 hs2).1), (by rw [(AtN.start hs1 hs2).2, hc41]; simp), (by rw [(AtN.start hs1 hs2).2]; rfl), (by rw [(AtN.start hs1 hs2).2]), rfl⟩ ⟨rfl, (keep_cons rfl (keep_cons rfl (keep_cons rfl (keep_cons rfl (keep_cons rfl (keep_cons rfl (keep_cons rfl (keep_cons rfl (keep_cons rfl (keep_cons rfl (keep_cons rfl (keep_cons rfl (keep_cons rfl (keep_cons rfl keep_nil)))))))))))))), (.cons_cons _ (.cons_cons _ (.cons_cons _ (.cons_cons _ (.refl _)))))⟩ ?_
      rintro μ _ ⟨s3, w3, th, kd, mo, hk2, hw3, hat, hth, hkd, hmo, rfl⟩
      refine T.seq ?_
      refine T.seq ?_
      refine T.text rfl ?_
      refine TO.val rfl rfl rfl (Val.move rfl) ?_
      refine TO.val rfl rfl rfl (Val.len_view hw3 rfl rfl) ?_
      refine TO.gtr rfl rfl rfl rfl rfl (fun c44 hc44 => ?_)
      refine TO.val rfl rfl rfl (Val.move rfl) ?_
      cases c44 with
      | true =>
        replace hc44 := btrue hc44
        refine TO.val rfl rfl rfl (Val.move rfl) ?_
        refine TO.iaddr_view (en := encC) (p := 1) rfl rfl rfl ⟨rfl, rfl⟩ rfl hw3 rfl rfl (by show 0 ≤ (0 : Int) ∧ s3 + 0 < _; omega) (fun id47 c atc ec => ?_)
        replace ec : g.ch.l[s3]? = some c := ec
        refine TO.val rfl rfl rfl (Val.faddr_ptr_ rfl rfl) ?_
        refine TO.val rfl rfl rfl (Val.load_ownL (en := encC) (p := 1) (j := 1) rfl atc ⟨_, rfl, rfl⟩ rfl ec rfl) ?_
        refine TO.val rfl rfl rfl (Val.move rfl) ?_
        refine TO.eql rfl rfl rfl rfl rfl (fun c51 hc51 => ?_)
        refine TO.val rfl rfl rfl (Val.pick rfl rfl rfl) ?_
        refine TO.nil ?_
        cases c51 with
        | true =>
          replace hc51 := btrue hc51
          refine T.condT (fun a ha => ha.ev (.tmp 52) _ rfl) ?_
          refine T.skip ?_
          refine T.block ?_
          refine T.seq ?_
          refine T.seq ?_
          refine T.text rfl ?_
          refine TO.val rfl rfl rfl (Val.move rfl) ?_
          refine TO.iaddr_view (en := encC) (p := 1) rfl rfl rfl ⟨rfl, rfl⟩ rfl hw3 rfl rfl (by show 0 ≤ (0 : Int) ∧ s3 + 0 < _; omega) (fun id54 c2 atc2 ec2 => ?_)
          have e54 : c2 = c := Option.some.inj (Eq.trans (show some c2 = g.ch.l[s3]? from ec2.symm) ec)
          subst e54
          refine TO.val rfl rfl rfl (Val.load_ownA (en := encC) (p := 1) rfl atc2 ⟨⟨_, rfl, rfl⟩, rfl, by decide⟩ rfl ec2) ?_
          refine TO.callIn rfl rfl rfl rfl rfl rfl (orcN rfl) ?_
          refine TF.enter (fn := Go.Proofs.Try.f81) rfl rfl rfl rfl rfl ?_
          refine T.seq ?_
          refine T.text rfl ?_
          refine TO.box (k := 3) (cells := [_, _, _]) rfl rfl rfl rfl rfl rfl rfl (fun b1 => ?_)
          refine TO.val rfl rfl rfl (Val.assign rfl) ?_
          refine TO.nil ?_
          refine T.seq ?_
          refine T.seq ?_
          refine T.text rfl ?_
          refine TO.val rfl rfl rfl (Val.faddr_ptr (fo := 0) rfl rfl rfl) ?_
          refine TO.val rfl rfl rfl (Val.load_row (p := 0) rfl ⟨_, rfl, rfl⟩ rfl rfl rfl) ?_
          refine TO.nil ?_
          refine T.block ?_
          refine T.seq ?_
          refine T.text rfl ?_
          refine TO.eql rfl rfl rfl rfl rfl (fun c6 hc6 => ?_)
          refine TO.val rfl rfl rfl (Val.assign rfl) ?_
          refine TO.nil ?_
          cases c6 with
          | true =>
            replace hc6 := btrue hc6
            have hp0 := plusOf_first hg5.order ec hc51 (by omega)
            have hp := step_less hg5.order ec hc51 hc6
            refine T.condT (fun a ha => ha.ev (.tmp 5) _ rfl) ?_
            refine T.seq ?_
            refine T.text rfl ?_
            refine TO.val rfl rfl rfl (Val.faddr_ptr (fo := 1) rfl rfl rfl) ?_
            refine TO.val rfl rfl rfl (Val.load_row (p := 0) rfl ⟨_, rfl, rfl⟩ rfl rfl rfl) ?_
            refine TO.val rfl rfl rfl (Val.build (cs := [_]) (vs := [(_, _)]) rfl rfl rfl) ?_
            refine TO.val rfl rfl rfl (Val.makeIface rfl rfl rfl) ?_
            refine TO.val rfl rfl rfl (Val.assign rfl) ?_
            refine TO.nil ?_
            refine T.ret ?_
            refine ⟨rfl, _, rfl, ?_⟩
            refine TO.nil ?_
            refine T.block ?_
            refine T.seq ?_
            refine T.text rfl ?_
            refine TO.val rfl rfl rfl (Val.assert_yes rfl rfl rfl rfl) ?_
            refine TO.val rfl rfl rfl (Val.extract rfl rfl) ?_
            refine TO.val rfl rfl rfl (Val.extract rfl rfl) ?_
            refine TO.nil ?_
            refine T.condT (fun a ha => ha.ev (.tmp 58) _ rfl) ?_
            refine T.seq ?_
            refine T.text rfl ?_
            refine TO.alloc (k := 1) (cells := [_]) rfl rfl rfl rfl rfl rfl rfl (fun b10 => ?_)
            refine TO.store_row (p := 0) (cv := [_]) (cells' := [_]) rfl rfl rfl rfl rfl rfl rfl rfl rfl rfl (by first | rfl | simp [GS.one]) (by decide) rfl ?_
            refine TO.things (hs' := _ :: _ :: _ :: _ :: _ :: _ :: C2) rfl ?_
            refine TO.nil ?_
            refine T.text rfl ?_
            refine TO.val rfl rfl rfl (Val.assign rfl) ?_
            refine TO.nil ?_
            refine T.text rfl ?_
            refine TO.val rfl rfl rfl (Val.move rfl) ?_
            refine TO.slice_view (en := encC) (p := 3) (j := 1) rfl rfl rfl ⟨rfl, rfl⟩ rfl hw3 rfl rfl (by omega) (fun w70 hw70 => ?_)
            refine TO.val rfl rfl rfl (Val.assign rfl) ?_
            refine TO.nil ?_
            refine ⟨_, _, (by omega), ⟨s3 + 1, _, _, _, _, rfl, (by exact hw70), (by exact hat.one ec hc51), (by rw [hp]; simp), (by rw [hp]; rw [hp0] at hkd; simpa using hkd), (by rw [hp]; rw [hp0] at hmo; exact hmo), rfl⟩, ⟨rfl, (keep_cons rfl (keep_cons rfl (keep_cons rfl (keep_cons rfl (keep_cons rfl (keep_cons rfl (keep_cons rfl (keep_cons rfl (keep_cons rfl (keep_cons rfl (keep_cons rfl (keep_cons rfl (keep_cons rfl (keep_cons rfl keep_nil)))))))))))))), (.cons _ (.cons _ (.cons_cons _ (.cons_cons _ (.cons_cons _ (.cons_cons _ (.refl _)))))))⟩⟩
          | false =>
            replace hc6 := bfalse hc6
            refine T.condF (fun a ha => ha.ev (.tmp 5) _ rfl) ?_
            refine T.seq ?_
            refine T.text rfl ?_
            refine TO.eql rfl rfl rfl rfl rfl (fun c12 hc12 => ?_)
            refine TO.val rfl rfl rfl (Val.assign rfl) ?_
            refine TO.nil ?_
            cases c12 with
            | true =>
              replace hc12 := btrue hc12
              have hp0 := plusOf_first hg5.order ec hc51 (by omega)
              have hp := step_swap hg5.order ec hc51 hc12
              refine T.condT (fun a ha => ha.ev (.tmp 11) _ rfl) ?_
              refine T.seq ?_
              refine T.text rfl ?_
              refine TO.val rfl rfl rfl (Val.faddr_ptr (fo := 1) rfl rfl rfl) ?_
              refine TO.val rfl rfl rfl (Val.load_row (p := 0) rfl ⟨_, rfl, rfl⟩ rfl rfl rfl) ?_
              refine TO.val rfl rfl rfl (Val.build (cs := [_]) (vs := [(_, _)]) rfl rfl rfl) ?_
              refine TO.val rfl rfl rfl (Val.makeIface rfl rfl rfl) ?_
              refine TO.val rfl rfl rfl (Val.assign rfl) ?_
              refine TO.nil ?_
              refine T.ret ?_
              refine ⟨rfl, _, rfl, ?_⟩
              refine TO.nil ?_
              refine T.block ?_
              refine T.seq ?_
              refine T.text rfl ?_
              refine TO.val rfl rfl rfl (Val.assert_no rfl rfl rfl rfl rfl) ?_
              refine TO.val rfl rfl rfl (Val.extract rfl rfl) ?_
              refine TO.val rfl rfl rfl (Val.extract rfl rfl) ?_
              refine TO.nil ?_
              refine T.condF (fun a ha => ha.ev (.tmp 58) _ rfl) ?_
              refine T.seq ?_
              refine T.text rfl ?_
              refine TO.val rfl rfl rfl (Val.assert_yes rfl rfl rfl rfl) ?_
              refine TO.val rfl rfl rfl (Val.extract rfl rfl) ?_
              refine TO.val rfl rfl rfl (Val.extract rfl rfl) ?_
              refine TO.nil ?_
              refine T.condT (fun a ha => ha.ev (.tmp 61) _ rfl) ?_
              refine T.seq ?_
              refine T.text rfl ?_
              refine TO.alloc (k := 1) (cells := [_]) rfl rfl rfl rfl rfl rfl rfl (fun b11 => ?_)
              refine TO.store_row (p := 0) (cv := [_]) (cells' := [_]) rfl rfl rfl rfl rfl rfl rfl rfl rfl rfl (by first | rfl | simp [GS.one]) (by decide) rfl ?_
              refine TO.things (hs' := _ :: _ :: _ :: _ :: _ :: _ :: C2) rfl ?_
              refine TO.nil ?_
              refine T.text rfl ?_
              refine TO.val rfl rfl rfl (Val.faddr_ptr (fo := 3) rfl rfl rfl) ?_
              refine TO.store_row (p := 2) (cv := [_]) (cells' := [_, _, _, _]) rfl rfl rfl rfl rfl rfl rfl rfl rfl rfl (by first | rfl | simp [GS.one]) (by decide) rfl ?_
              refine TO.things (hs' := _ :: _ :: _ :: _ :: _ :: _ :: C2) rfl ?_
              refine TO.nil ?_
              refine T.text rfl ?_
              refine TO.val rfl rfl rfl (Val.move rfl) ?_
              refine TO.slice_view (en := encC) (p := 3) (j := 1) rfl rfl rfl ⟨rfl, rfl⟩ rfl hw3 rfl rfl (by omega) (fun w70 hw70 => ?_)
              refine TO.val rfl rfl rfl (Val.assign rfl) ?_
              refine TO.nil ?_
              refine ⟨_, _, (by omega), ⟨s3 + 1, _, _, _, _, rfl, (by exact hw70), (by exact hat.one ec hc51), (by rw [hp]; rw [hp0] at hth; simpa using hth), (by rw [hp]; rfl), (by rw [hp]; rw [hp0] at hmo; exact hmo), rfl⟩, ⟨rfl, (keep_cons rfl (keep_cons rfl (keep_cons rfl (keep_cons rfl (keep_cons rfl (keep_cons rfl (keep_cons rfl (keep_cons rfl (keep_cons rfl (keep_cons rfl (keep_cons rfl (keep_cons rfl (keep_cons rfl (keep_cons rfl keep_nil)))))))))))))), (.cons _ (.cons _ (.cons_cons _ (.cons_cons _ (.cons_cons _ (.cons_cons _ (.refl _)))))))⟩⟩
            | false =>
              replace hc12 := bfalse hc12
              refine T.condF (fun a ha => ha.ev (.tmp 11) _ rfl) ?_
              refine T.seq ?_
              refine T.text rfl ?_
              refine TO.eql rfl rfl rfl rfl rfl (fun c18 hc18 => ?_)
              refine TO.val rfl rfl rfl (Val.assign rfl) ?_
              refine TO.nil ?_
              cases c18 with
              | true =>
                replace hc18 := btrue hc18
                have hp := step_plus ec hc51 hc18
                refine T.condT (fun a ha => ha.ev (.tmp 17) _ rfl) ?_
                refine T.seq ?_
                refine T.text rfl ?_
                refine TO.val rfl rfl rfl (Val.faddr_ptr (fo := 1) rfl rfl rfl) ?_
                refine TO.val rfl rfl rfl (Val.load_row (p := 0) rfl ⟨_, rfl, rfl⟩ rfl rfl rfl) ?_
                refine TO.val rfl rfl rfl (Val.faddr_ptr (fo := 2) rfl rfl rfl) ?_
                refine TO.val rfl rfl rfl (Val.load_row (p := 0) rfl ⟨_, rfl, rfl⟩ rfl rfl rfl) ?_
                refine TO.val rfl rfl rfl (Val.build (cs := [_, _]) (vs := [(_, _), (_, _)]) rfl rfl rfl) ?_
                refine TO.val rfl rfl rfl (Val.makeIface rfl rfl rfl) ?_
                refine TO.val rfl rfl rfl (Val.assign rfl) ?_
                refine TO.nil ?_
                refine T.ret ?_
                refine ⟨rfl, _, rfl, ?_⟩
                refine TO.nil ?_
                refine T.block ?_
                refine T.seq ?_
                refine T.text rfl ?_
                refine TO.val rfl rfl rfl (Val.assert_no rfl rfl rfl rfl rfl) ?_
                refine TO.val rfl rfl rfl (Val.extract rfl rfl) ?_
                refine TO.val rfl rfl rfl (Val.extract rfl rfl) ?_
                refine TO.nil ?_
                refine T.condF (fun a ha => ha.ev (.tmp 58) _ rfl) ?_
                refine T.seq ?_
                refine T.text rfl ?_
                refine TO.val rfl rfl rfl (Val.assert_no rfl rfl rfl rfl rfl) ?_
                refine TO.val rfl rfl rfl (Val.extract rfl rfl) ?_
                refine TO.val rfl rfl rfl (Val.extract rfl rfl) ?_
                refine TO.nil ?_
                refine T.condF (fun a ha => ha.ev (.tmp 61) _ rfl) ?_
                refine T.seq ?_
                refine T.text rfl ?_
                refine TO.val rfl rfl rfl (Val.assert_yes rfl rfl rfl rfl) ?_
                refine TO.val rfl rfl rfl (Val.extract rfl rfl) ?_
                refine TO.val rfl rfl rfl (Val.extract rfl rfl) ?_
                refine TO.nil ?_
                refine T.condT (fun a ha => ha.ev (.tmp 65) _ rfl) ?_
                refine T.seq ?_
                refine T.text rfl ?_
                refine TO.alloc (k := 2) (cells := [_, _]) rfl rfl rfl rfl rfl rfl rfl (fun b12 => ?_)
                refine TO.store_row (p := 0) (cv := [_, _]) (cells' := [_, _]) rfl rfl rfl rfl rfl rfl rfl rfl rfl rfl (by first | rfl | simp [GS.one]) (by decide) rfl ?_
                refine TO.things (hs' := _ :: _ :: _ :: _ :: _ :: _ :: C2) rfl ?_
                refine TO.nil ?_
                refine T.text rfl ?_
                refine TO.val rfl rfl rfl (Val.faddr_ptr (fo := 1) rfl rfl rfl) ?_
                refine TO.val rfl rfl rfl (Val.load_row (p := 0) rfl ⟨_, rfl, rfl⟩ rfl rfl rfl) ?_
                refine TO.val rfl rfl rfl (Val.assign rfl) ?_
                refine TO.nil ?_
                refine T.text rfl ?_
                refine TO.val rfl rfl rfl (Val.move rfl) ?_
                refine TO.slice_view (en := encC) (p := 3) (j := 1) rfl rfl rfl ⟨rfl, rfl⟩ rfl hw3 rfl rfl (by omega) (fun w70 hw70 => ?_)
                refine TO.val rfl rfl rfl (Val.assign rfl) ?_
                refine TO.nil ?_
                refine ⟨_, _, (by omega), ⟨s3 + 1, _, _, _, _, rfl, (by exact hw70), (by exact hat.one ec hc51), (by rw [hp]; exact hth), (by rw [hp]; exact hkd), (by rw [hp]), rfl⟩, ⟨rfl, (keep_cons rfl (keep_cons rfl (keep_cons rfl (keep_cons rfl (keep_cons rfl (keep_cons rfl (keep_cons rfl (keep_cons rfl (keep_cons rfl (keep_cons rfl (keep_cons rfl (keep_cons rfl (keep_cons rfl (keep_cons rfl keep_nil)))))))))))))), (.cons _ (.cons _ (.cons_cons _ (.cons_cons _ (.cons_cons _ (.cons_cons _ (.refl _)))))))⟩⟩
              | false =>
                replace hc18 := bfalse hc18
                exfalso; have := hg5.each _ (List.mem_of_getElem? ec); omega
        | false =>
          replace hc51 := bfalse hc51
          have hov := hat.over hg5.order (.inr ⟨_, ec, hc51⟩)
          have hmo4 : mo ≤ 4 := by rw [hmo]; exact plusOf_le fun c hc => (hg5.each c (List.mem_of_mem_take hc)).2.2.2.2
          refine T.condF (fun a ha => ha.ev (.tmp 52) _ rfl) ?_
          refine T.exit ?_
          refine T.seq ?_
          refine T.seq ?_
          refine T.text rfl ?_
          refine TO.val rfl rfl rfl (Val.move rfl) ?_
          refine TO.val rfl rfl rfl (Val.move rfl) ?_
          cases th with
          | true =>
            replace hth := btrue hth
            have hown : ownLeaf (i : Int) (n : Int) g = [⟨i, n, 0, kd⟩] := by unfold ownLeaf; rw [hov.1, if_pos hth, ← hkd]
            refine TO.val rfl rfl rfl (Val.move rfl) ?_
            refine TO.val rfl rfl rfl (Val.load_rows (p := 0) (c := [_, _, _, _]) rfl ⟨⟨_, rfl, rfl⟩, rfl, by decide⟩ rfl rfl rfl rfl) ?_
            refine TO.perm (hs' := C2 ++ [_, _, _, _]) List.perm_append_comm ?_
            refine TO.callY rfl rfl rfl rfl rfl (hy (leavesFrom 0 (b.gs.l.take i) ++ (List.range n).flatMap (numLeaves (i : Int) g)) ⟨(i : Int), (n : Int), 0, kd⟩ _ [] C2 _ (hown ▸ own_first eg hc35) ⟨rfl, rfl⟩ hY2) ?_
            rintro _ _ (⟨rfl, C9, rfl, hY9⟩ | ⟨rfl, C9, rfl, hZ9⟩)
            · skip
              refine TO.perm (hs' := [_, _, _, _] ++ C9) List.perm_append_comm ?_
              refine TO.things (hs' := _ :: _ :: _ :: _ :: C9) rfl ?_
              refine TO.val rfl rfl rfl (Val.not rfl) ?_
              refine TO.val rfl rfl rfl (Val.pick rfl rfl rfl) ?_
              refine TO.nil ?_
              refine T.condF (fun a ha => ha.ev (.tmp 77) _ rfl) ?_
              refine T.skip ?_
              refine T.seq ?_
              refine T.text rfl ?_
              refine TO.val rfl rfl rfl (Val.move rfl) ?_
              refine TO.val rfl rfl rfl (Val.move rfl) ?_
              refine TO.nil ?_
              refine T.block ?_
              refine T.loop (fun μ s => ∃ k1 : Nat, ∃ j3 : Int, ∃ C3 : List Thing, μ = mo.toNat - k1 ∧ j3 = k1 ∧ (k1 : Int) ≤ max 0 mo ∧ Y (leavesFrom 0 (b.gs.l.take i) ++ (List.range n).flatMap (numLeaves (i : Int) g) ++ ownLeaf (i : Int) (n : Int) g ++ newLeaves (i : Int) (n : Int) k1) C3 ∧ s = ⟨[], [(0, .yield l), (1, .ptr bx 0 2), (16, b.gs.v), (17, iv (b.gs.l.length : Int)), (18, iv (i : Int)), (3, iv (i : Int)), (4, .ptr b4 0 4), (5, w3), (33, iv (g.leaves + 1)), (34, iv (n : Int)), (6, iv (n : Int)), (78, iv mo), (79, iv j3)], (ownL false v26 encC g.ch.l) :: (.row b4 4 [iv g.round, iv g.letter, iv g.leaves, g.ch.v]) :: (.row bx 2 [iv b.signed, b.gs.v]) :: C3⟩) (k := _) (s' := _) ⟨0, 0, _, rfl, (by first | rfl | omega | (simp; done) | (simp; omega) | simp_all), (by first | rfl | omega | (simp; done) | (simp; omega) | simp_all), (by rw [hown, show newLeaves (i : Int) (n : Int) 0 = [] from rfl, List.append_nil]; first | exact hY9 | (rw [List.append_nil]; exact hY2)), rfl⟩ ⟨rfl, (keep_cons rfl (keep_cons rfl (keep_cons rfl (keep_cons rfl (keep_cons rfl (keep_cons rfl (keep_cons rfl (keep_cons rfl (keep_cons rfl (keep_cons rfl (keep_cons rfl (keep_cons rfl (keep_cons rfl keep_nil))))))))))))), (.cons _ (.cons_cons _ (.cons_cons _ (.cons_cons _ (.refl _)))))⟩ ?_
              rintro μ _ ⟨k1, j3, C3, hk3, hj3, hk1, hY3, rfl⟩
              subst hj3
              refine T.seq ?_
              refine T.text rfl ?_
              refine TO.lss rfl rfl rfl rfl rfl (fun c80 hc80 => ?_)
              refine TO.nil ?_
              refine T.seq ?_
              cases c80 with
              | true =>
                replace hc80 := btrue hc80
                refine T.condT (fun a ha => ha.ev (.tmp 80) _ rfl) ?_
                refine T.skip ?_
                refine T.seq ?_
                refine T.block ?_
                refine T.seq ?_
                refine T.text rfl ?_
                refine TO.val rfl rfl rfl (Val.move rfl) ?_
                refine TO.val rfl rfl rfl (Val.assign rfl) ?_
                refine TO.nil ?_
                refine T.seq ?_
                refine T.text rfl ?_
                refine TO.val rfl rfl rfl (Val.move rfl) ?_
                refine TO.val rfl rfl rfl (Val.move rfl) ?_
                refine TO.val rfl rfl rfl (Val.move rfl) ?_
                refine TO.val rfl rfl rfl (Val.move rfl) ?_
                refine TO.val rfl rfl rfl (Val.add rfl rfl (by omega)) ?_
                refine TO.val rfl rfl rfl (Val.build (cs := [_, _, _, _]) (vs := [(_, _), (_, _), (_, _), (_, _)]) rfl rfl rfl) ?_
                refine TO.perm (hs' := C3 ++ [_, _, _]) List.perm_append_comm ?_
                refine TO.callY rfl rfl rfl rfl rfl (hy (leavesFrom 0 (b.gs.l.take i) ++ (List.range n).flatMap (numLeaves (i : Int) g) ++ ownLeaf (i : Int) (n : Int) g ++ newLeaves (i : Int) (n : Int) k1) ⟨(i : Int), (n : Int), (k1 : Int) + 1, 2⟩ _ [] C3 _ (by rw [List.append_assoc, ← newLeaves_succ]; exact new_first eg hc35 (by rw [hov.1, ← hmo]; omega)) ⟨rfl, rfl⟩ hY3) ?_
                rintro _ _ (⟨rfl, C9, rfl, hY9⟩ | ⟨rfl, C9, rfl, hZ9⟩)
                · skip
                  refine TO.perm (hs' := [_, _, _] ++ C9) List.perm_append_comm ?_
                  refine TO.things (hs' := _ :: _ :: _ :: C9) rfl ?_
                  refine TO.val rfl rfl rfl (Val.not rfl) ?_
                  refine TO.nil ?_
                  refine T.condF (fun a ha => ha.ev (.tmp 89) _ rfl) ?_
                  refine T.skip ?_
                  refine T.text rfl ?_
                  refine TO.val rfl rfl rfl (Val.add rfl rfl (by omega)) ?_
                  refine TO.val rfl rfl rfl (Val.move rfl) ?_
                  refine TO.nil ?_
                  refine ⟨_, _, (by omega), ⟨k1 + 1, _, _, rfl, (by first | omega | simp_all), (by first | omega | simp_all), (by rw [newLeaves_succ, ← List.append_assoc]; exact hY9), rfl⟩, ⟨rfl, (keep_cons rfl (keep_cons rfl (keep_cons rfl (keep_cons rfl (keep_cons rfl (keep_cons rfl (keep_cons rfl (keep_cons rfl (keep_cons rfl (keep_cons rfl (keep_cons rfl (keep_cons rfl (keep_cons rfl keep_nil))))))))))))), (.cons_cons _ (.cons_cons _ (.cons_cons _ (.refl _))))⟩⟩
                · skip
                  refine TO.perm (hs' := [_, _, _] ++ C9) List.perm_append_comm ?_
                  refine TO.things (hs' := _ :: _ :: _ :: C9) rfl ?_
                  refine TO.val rfl rfl rfl (Val.not rfl) ?_
                  refine TO.nil ?_
                  refine T.condT (fun a ha => ha.ev (.tmp 89) _ rfl) ?_
                  refine T.keep (s' := ⟨[], [], _ :: C9⟩) ⟨rfl, keep_nil, (.cons _ (.cons _ (.cons_cons _ (.refl _))))⟩ ?_
                  refine T.ret ?_
                  obtain ⟨r9, hr9⟩ := new_first (j := k1 + 1) eg hc35 (by rw [hov.1, ← hmo]; omega); exact ⟨rfl, _, rfl, C9, rfl, .inr ⟨_, r9, hr9.symm, by rw [newLeaves_succ, ← List.append_assoc]; exact hZ9⟩⟩
              | false =>
                replace hc80 := bfalse hc80
                have hkm : k1 = mo.toNat := by omega
                have enum : numLeaves (i : Int) g n = ownLeaf (i : Int) (n : Int) g ++ newLeaves (i : Int) (n : Int) k1 := by unfold numLeaves; rw [hov.1, ← hmo, hkm]
                refine T.condF (fun a ha => ha.ev (.tmp 80) _ rfl) ?_
                refine T.exit ?_
                refine T.text rfl ?_
                refine TO.val rfl rfl rfl (Val.add rfl rfl (by omega)) ?_
                refine TO.val rfl rfl rfl (Val.move rfl) ?_
                refine TO.nil ?_
                refine ⟨_, _, (by omega), ⟨n + 1, _, _, _, _, rfl, (by first | omega | simp_all), (by first | omega | simp_all), (by exact hw3), (by intro c hc; have := hov.2.1 c hc; omega), (by intro c hc; have := hov.2.2 c hc; omega), (by rw [range_flat_succ, enum, ← List.append_assoc, ← List.append_assoc]; exact hY3), rfl⟩, ⟨rfl, (keep_cons rfl (keep_cons rfl (keep_cons rfl (keep_cons rfl (keep_cons rfl (keep_cons rfl (keep_cons rfl (keep_cons rfl (keep_cons rfl (keep_cons rfl keep_nil)))))))))), (.cons_cons _ (.cons_cons _ (.cons_cons _ (.refl _))))⟩⟩
            · skip
              refine TO.perm (hs' := [_, _, _, _] ++ C9) List.perm_append_comm ?_
              refine TO.things (hs' := _ :: _ :: _ :: _ :: C9) rfl ?_
              refine TO.val rfl rfl rfl (Val.not rfl) ?_
              refine TO.val rfl rfl rfl (Val.pick rfl rfl rfl) ?_
              refine TO.nil ?_
              refine T.condT (fun a ha => ha.ev (.tmp 77) _ rfl) ?_
              refine T.keep (s' := ⟨[], [], _ :: C9⟩) ⟨rfl, keep_nil, (.cons _ (.cons _ (.cons _ (.cons_cons _ (.refl _)))))⟩ ?_
              refine T.ret ?_
              obtain ⟨r9, hr9⟩ := new_first (j := 0) eg hc35 (Nat.zero_le _); exact ⟨rfl, _, rfl, C9, rfl, .inr ⟨_, r9, hr9.symm, by rw [hown, show newLeaves (i : Int) (n : Int) 0 = [] from rfl, List.append_nil]; exact hZ9⟩⟩
          | false =>
            replace hth := bfalse hth
            have hown : ownLeaf (i : Int) (n : Int) g = [] := by unfold ownLeaf; rw [hov.1, if_neg hth]
            refine TO.off rfl rfl rfl ?_
            refine TO.off rfl rfl rfl ?_
            refine TO.off rfl rfl rfl ?_
            refine TO.off rfl rfl rfl ?_
            refine TO.val rfl rfl rfl (Val.pick rfl rfl rfl) ?_
            refine TO.nil ?_
            refine T.condF (fun a ha => ha.ev (.tmp 77) _ rfl) ?_
            refine T.skip ?_
            refine T.seq ?_
            refine T.text rfl ?_
            refine TO.val rfl rfl rfl (Val.move rfl) ?_
            refine TO.val rfl rfl rfl (Val.move rfl) ?_
            refine TO.nil ?_
            refine T.block ?_
            refine T.loop (fun μ s => ∃ k1 : Nat, ∃ j3 : Int, ∃ C3 : List Thing, μ = mo.toNat - k1 ∧ j3 = k1 ∧ (k1 : Int) ≤ max 0 mo ∧ Y (leavesFrom 0 (b.gs.l.take i) ++ (List.range n).flatMap (numLeaves (i : Int) g) ++ ownLeaf (i : Int) (n : Int) g ++ newLeaves (i : Int) (n : Int) k1) C3 ∧ s = ⟨[], [(0, .yield l), (1, .ptr bx 0 2), (16, b.gs.v), (17, iv (b.gs.l.length : Int)), (18, iv (i : Int)), (3, iv (i : Int)), (4, .ptr b4 0 4), (5, w3), (33, iv (g.leaves + 1)), (34, iv (n : Int)), (6, iv (n : Int)), (78, iv mo), (79, iv j3)], (ownL false v26 encC g.ch.l) :: (.row b4 4 [iv g.round, iv g.letter, iv g.leaves, g.ch.v]) :: (.row bx 2 [iv b.signed, b.gs.v]) :: C3⟩) (k := _) (s' := _) ⟨0, 0, _, rfl, (by first | rfl | omega | (simp; done) | (simp; omega) | simp_all), (by first | rfl | omega | (simp; done) | (simp; omega) | simp_all), (by rw [hown, show newLeaves (i : Int) (n : Int) 0 = [] from rfl, List.append_nil]; first | exact hY9 | (rw [List.append_nil]; exact hY2)), rfl⟩ ⟨rfl, (keep_cons rfl (keep_cons rfl (keep_cons rfl (keep_cons rfl (keep_cons rfl (keep_cons rfl (keep_cons rfl (keep_cons rfl (keep_cons rfl (keep_cons rfl (keep_cons rfl (keep_cons rfl (keep_cons rfl keep_nil))))))))))))), (.cons _ (.cons_cons _ (.cons_cons _ (.cons_cons _ (.refl _)))))⟩ ?_
            rintro μ _ ⟨k1, j3, C3, hk3, hj3, hk1, hY3, rfl⟩
            subst hj3
            refine T.seq ?_
            refine T.text rfl ?_
            refine TO.lss rfl rfl rfl rfl rfl (fun c80 hc80 => ?_)
            refine TO.nil ?_
            refine T.seq ?_
            cases c80 with
            | true =>
              replace hc80 := btrue hc80
              refine T.condT (fun a ha => ha.ev (.tmp 80) _ rfl) ?_
              refine T.skip ?_
              refine T.seq ?_
              refine T.block ?_
              refine T.seq ?_
              refine T.text rfl ?_
              refine TO.val rfl rfl rfl (Val.move rfl) ?_
              refine TO.val rfl rfl rfl (Val.assign rfl) ?_
              refine TO.nil ?_
              refine T.seq ?_
              refine T.text rfl ?_
              refine TO.val rfl rfl rfl (Val.move rfl) ?_
              refine TO.val rfl rfl rfl (Val.move rfl) ?_
              refine TO.val rfl rfl rfl (Val.move rfl) ?_
              refine TO.val rfl rfl rfl (Val.move rfl) ?_
              refine TO.val rfl rfl rfl (Val.add rfl rfl (by omega)) ?_
              refine TO.val rfl rfl rfl (Val.build (cs := [_, _, _, _]) (vs := [(_, _), (_, _), (_, _), (_, _)]) rfl rfl rfl) ?_
              refine TO.perm (hs' := C3 ++ [_, _, _]) List.perm_append_comm ?_
              refine TO.callY rfl rfl rfl rfl rfl (hy (leavesFrom 0 (b.gs.l.take i) ++ (List.range n).flatMap (numLeaves (i : Int) g) ++ ownLeaf (i : Int) (n : Int) g ++ newLeaves (i : Int) (n : Int) k1) ⟨(i : Int), (n : Int), (k1 : Int) + 1, 2⟩ _ [] C3 _ (by rw [List.append_assoc, ← newLeaves_succ]; exact new_first eg hc35 (by rw [hov.1, ← hmo]; omega)) ⟨rfl, rfl⟩ hY3) ?_
              rintro _ _ (⟨rfl, C9, rfl, hY9⟩ | ⟨rfl, C9, rfl, hZ9⟩)
              · skip
                refine TO.perm (hs' := [_, _, _] ++ C9) List.perm_append_comm ?_
                refine TO.things (hs' := _ :: _ :: _ :: C9) rfl ?_
                refine TO.val rfl rfl rfl (Val.not rfl) ?_
                refine TO.nil ?_
                refine T.condF (fun a ha => ha.ev (.tmp 89) _ rfl) ?_
                refine T.skip ?_
                refine T.text rfl ?_
                refine TO.val rfl rfl rfl (Val.add rfl rfl (by omega)) ?_
                refine TO.val rfl rfl rfl (Val.move rfl) ?_
                refine TO.nil ?_
                refine ⟨_, _, (by omega), ⟨k1 + 1, _, _, rfl, (by first | omega | simp_all), (by first | omega | simp_all), (by rw [newLeaves_succ, ← List.append_assoc]; exact hY9), rfl⟩, ⟨rfl, (keep_cons rfl (keep_cons rfl (keep_cons rfl (keep_cons rfl (keep_cons rfl (keep_cons rfl (keep_cons rfl (keep_cons rfl (keep_cons rfl (keep_cons rfl (keep_cons rfl (keep_cons rfl (keep_cons rfl keep_nil))))))))))))), (.cons_cons _ (.cons_cons _ (.cons_cons _ (.refl _))))⟩⟩
              · skip
                refine TO.perm (hs' := [_, _, _] ++ C9) List.perm_append_comm ?_
                refine TO.things (hs' := _ :: _ :: _ :: C9) rfl ?_
                refine TO.val rfl rfl rfl (Val.not rfl) ?_
                refine TO.nil ?_
                refine T.condT (fun a ha => ha.ev (.tmp 89) _ rfl) ?_
                refine T.keep (s' := ⟨[], [], _ :: C9⟩) ⟨rfl, keep_nil, (.cons _ (.cons _ (.cons_cons _ (.refl _))))⟩ ?_
                refine T.ret ?_
                obtain ⟨r9, hr9⟩ := new_first (j := k1 + 1) eg hc35 (by rw [hov.1, ← hmo]; omega); exact ⟨rfl, _, rfl, C9, rfl, .inr ⟨_, r9, hr9.symm, by rw [newLeaves_succ, ← List.append_assoc]; exact hZ9⟩⟩
            | false =>
              replace hc80 := bfalse hc80
              have hkm : k1 = mo.toNat := by omega
              have enum : numLeaves (i : Int) g n = ownLeaf (i : Int) (n : Int) g ++ newLeaves (i : Int) (n : Int) k1 := by unfold numLeaves; rw [hov.1, ← hmo, hkm]
              refine T.condF (fun a ha => ha.ev (.tmp 80) _ rfl) ?_
              refine T.exit ?_
              refine T.text rfl ?_
              refine TO.val rfl rfl rfl (Val.add rfl rfl (by omega)) ?_
              refine TO.val rfl rfl rfl (Val.move rfl) ?_
              refine TO.nil ?_
              refine ⟨_, _, (by omega), ⟨n + 1, _, _, _, _, rfl, (by first | omega | simp_all), (by first | omega | simp_all), (by exact hw3), (by intro c hc; have := hov.2.1 c hc; omega), (by intro c hc; have := hov.2.2 c hc; omega), (by rw [range_flat_succ, enum, ← List.append_assoc, ← List.append_assoc]; exact hY3), rfl⟩, ⟨rfl, (keep_cons rfl (keep_cons rfl (keep_cons rfl (keep_cons rfl (keep_cons rfl (keep_cons rfl (keep_cons rfl (keep_cons rfl (keep_cons rfl (keep_cons rfl keep_nil)))))))))), (.cons_cons _ (.cons_cons _ (.cons_cons _ (.refl _))))⟩⟩
      | false =>
        replace hc44 := bfalse hc44
        have hov := hat.over hg5.order (.inl (by omega))
        have hmo4 : mo ≤ 4 := by rw [hmo]; exact plusOf_le fun c hc => (hg5.each c (List.mem_of_mem_take hc)).2.2.2.2
        refine TO.off rfl rfl rfl ?_
        refine TO.off rfl rfl rfl ?_
        refine TO.off rfl rfl rfl ?_
        refine TO.off rfl rfl rfl ?_
        refine TO.off rfl rfl rfl ?_
        refine TO.off rfl rfl rfl ?_
        refine TO.val rfl rfl rfl (Val.pick rfl rfl rfl) ?_
        refine TO.nil ?_
        refine T.condF (fun a ha => ha.ev (.tmp 52) _ rfl) ?_
        refine T.exit ?_
        refine T.seq ?_
        refine T.seq ?_
        refine T.text rfl ?_
        refine TO.val rfl rfl rfl (Val.move rfl) ?_
        refine TO.val rfl rfl rfl (Val.move rfl) ?_
        cases th with
        | true =>
          replace hth := btrue hth
          have hown : ownLeaf (i : Int) (n : Int) g = [⟨i, n, 0, kd⟩] := by unfold ownLeaf; rw [hov.1, if_pos hth, ← hkd]
          refine TO.val rfl rfl rfl (Val.move rfl) ?_
          refine TO.val rfl rfl rfl (Val.load_rows (p := 0) (c := [_, _, _, _]) rfl ⟨⟨_, rfl, rfl⟩, rfl, by decide⟩ rfl rfl rfl rfl) ?_
          refine TO.perm (hs' := C2 ++ [_, _, _, _]) List.perm_append_comm ?_
          refine TO.callY rfl rfl rfl rfl rfl (hy (leavesFrom 0 (b.gs.l.take i) ++ (List.range n).flatMap (numLeaves (i : Int) g)) ⟨(i : Int), (n : Int), 0, kd⟩ _ [] C2 _ (hown ▸ own_first eg hc35) ⟨rfl, rfl⟩ hY2) ?_
          rintro _ _ (⟨rfl, C9, rfl, hY9⟩ | ⟨rfl, C9, rfl, hZ9⟩)
          · skip
            refine TO.perm (hs' := [_, _, _, _] ++ C9) List.perm_append_comm ?_
            refine TO.things (hs' := _ :: _ :: _ :: _ :: C9) rfl ?_
            refine TO.val rfl rfl rfl (Val.not rfl) ?_
            refine TO.val rfl rfl rfl (Val.pick rfl rfl rfl) ?_
            refine TO.nil ?_
            refine T.condF (fun a ha => ha.ev (.tmp 77) _ rfl) ?_
            refine T.skip ?_
            refine T.seq ?_
            refine T.text rfl ?_
            refine TO.val rfl rfl rfl (Val.move rfl) ?_
            refine TO.val rfl rfl rfl (Val.move rfl) ?_
            refine TO.nil ?_
            refine T.block ?_
            refine T.loop (fun μ s => ∃ k1 : Nat, ∃ j3 : Int, ∃ C3 : List Thing, μ = mo.toNat - k1 ∧ j3 = k1 ∧ (k1 : Int) ≤ max 0 mo ∧ Y (leavesFrom 0 (b.gs.l.take i) ++ (List.range n).flatMap (numLeaves (i : Int) g) ++ ownLeaf (i : Int) (n : Int) g ++ newLeaves (i : Int) (n : Int) k1) C3 ∧ s = ⟨[], [(0, .yield l), (1, .ptr bx 0 2), (16, b.gs.v), (17, iv (b.gs.l.length : Int)), (18, iv (i : Int)), (3, iv (i : Int)), (4, .ptr b4 0 4), (5, w3), (33, iv (g.leaves + 1)), (34, iv (n : Int)), (6, iv (n : Int)), (78, iv mo), (79, iv j3)], (ownL false v26 encC g.ch.l) :: (.row b4 4 [iv g.round, iv g.letter, iv g.leaves, g.ch.v]) :: (.row bx 2 [iv b.signed, b.gs.v]) :: C3⟩) (k := _) (s' := _) ⟨0, 0, _, rfl, (by first | rfl | omega | (simp; done) | (simp; omega) | simp_all), (by first | rfl | omega | (simp; done) | (simp; omega) | simp_all), (by rw [hown, show newLeaves (i : Int) (n : Int) 0 = [] from rfl, List.append_nil]; first | exact hY9 | (rw [List.append_nil]; exact hY2)), rfl⟩ ⟨rfl, (keep_cons rfl (keep_cons rfl (keep_cons rfl (keep_cons rfl (keep_cons rfl (keep_cons rfl (keep_cons rfl (keep_cons rfl (keep_cons rfl (keep_cons rfl (keep_cons rfl (keep_cons rfl (keep_cons rfl keep_nil))))))))))))), (.cons _ (.cons_cons _ (.cons_cons _ (.cons_cons _ (.refl _)))))⟩ ?_
            rintro μ _ ⟨k1, j3, C3, hk3, hj3, hk1, hY3, rfl⟩
            subst hj3
            refine T.seq ?_
            refine T.text rfl ?_
            refine TO.lss rfl rfl rfl rfl rfl (fun c80 hc80 => ?_)
            refine TO.nil ?_
            refine T.seq ?_
            cases c80 with
            | true =>
              replace hc80 := btrue hc80
              refine T.condT (fun a ha => ha.ev (.tmp 80) _ rfl) ?_
              refine T.skip ?_
              refine T.seq ?_
              refine T.block ?_
              refine T.seq ?_
              refine T.text rfl ?_
              refine TO.val rfl rfl rfl (Val.move rfl) ?_
              refine TO.val rfl rfl rfl (Val.assign rfl) ?_
              refine TO.nil ?_
              refine T.seq ?_
              refine T.text rfl ?_
              refine TO.val rfl rfl rfl (Val.move rfl) ?_
              refine TO.val rfl rfl rfl (Val.move rfl) ?_
              refine TO.val rfl rfl rfl (Val.move rfl) ?_
              refine TO.val rfl rfl rfl (Val.move rfl) ?_
              refine TO.val rfl rfl rfl (Val.add rfl rfl (by omega)) ?_
              refine TO.val rfl rfl rfl (Val.build (cs := [_, _, _, _]) (vs := [(_, _), (_, _), (_, _), (_, _)]) rfl rfl rfl) ?_
              refine TO.perm (hs' := C3 ++ [_, _, _]) List.perm_append_comm ?_
              refine TO.callY rfl rfl rfl rfl rfl (hy (leavesFrom 0 (b.gs.l.take i) ++ (List.range n).flatMap (numLeaves (i : Int) g) ++ ownLeaf (i : Int) (n : Int) g ++ newLeaves (i : Int) (n : Int) k1) ⟨(i : Int), (n : Int), (k1 : Int) + 1, 2⟩ _ [] C3 _ (by rw [List.append_assoc, ← newLeaves_succ]; exact new_first eg hc35 (by rw [hov.1, ← hmo]; omega)) ⟨rfl, rfl⟩ hY3) ?_
              rintro _ _ (⟨rfl, C9, rfl, hY9⟩ | ⟨rfl, C9, rfl, hZ9⟩)
              · skip
                refine TO.perm (hs' := [_, _, _] ++ C9) List.perm_append_comm ?_
                refine TO.things (hs' := _ :: _ :: _ :: C9) rfl ?_
                refine TO.val rfl rfl rfl (Val.not rfl) ?_
                refine TO.nil ?_
                refine T.condF (fun a ha => ha.ev (.tmp 89) _ rfl) ?_
                refine T.skip ?_
                refine T.text rfl ?_
                refine TO.val rfl rfl rfl (Val.add rfl rfl (by omega)) ?_
                refine TO.val rfl rfl rfl (Val.move rfl) ?_
                refine TO.nil ?_
                refine ⟨_, _, (by omega), ⟨k1 + 1, _, _, rfl, (by first | omega | simp_all), (by first | omega | simp_all), (by rw [newLeaves_succ, ← List.append_assoc]; exact hY9), rfl⟩, ⟨rfl, (keep_cons rfl (keep_cons rfl (keep_cons rfl (keep_cons rfl (keep_cons rfl (keep_cons rfl (keep_cons rfl (keep_cons rfl (keep_cons rfl (keep_cons rfl (keep_cons rfl (keep_cons rfl (keep_cons rfl keep_nil))))))))))))), (.cons_cons _ (.cons_cons _ (.cons_cons _ (.refl _))))⟩⟩
              · skip
                refine TO.perm (hs' := [_, _, _] ++ C9) List.perm_append_comm ?_
                refine TO.things (hs' := _ :: _ :: _ :: C9) rfl ?_
                refine TO.val rfl rfl rfl (Val.not rfl) ?_
                refine TO.nil ?_
                refine T.condT (fun a ha => ha.ev (.tmp 89) _ rfl) ?_
                refine T.keep (s' := ⟨[], [], _ :: C9⟩) ⟨rfl, keep_nil, (.cons _ (.cons _ (.cons_cons _ (.refl _))))⟩ ?_
                refine T.ret ?_
                obtain ⟨r9, hr9⟩ := new_first (j := k1 + 1) eg hc35 (by rw [hov.1, ← hmo]; omega); exact ⟨rfl, _, rfl, C9, rfl, .inr ⟨_, r9, hr9.symm, by rw [newLeaves_succ, ← List.append_assoc]; exact hZ9⟩⟩
            | false =>
              replace hc80 := bfalse hc80
              have hkm : k1 = mo.toNat := by omega
              have enum : numLeaves (i : Int) g n = ownLeaf (i : Int) (n : Int) g ++ newLeaves (i : Int) (n : Int) k1 := by unfold numLeaves; rw [hov.1, ← hmo, hkm]
              refine T.condF (fun a ha => ha.ev (.tmp 80) _ rfl) ?_
              refine T.exit ?_
              refine T.text rfl ?_
              refine TO.val rfl rfl rfl (Val.add rfl rfl (by omega)) ?_
              refine TO.val rfl rfl rfl (Val.move rfl) ?_
              refine TO.nil ?_
              refine ⟨_, _, (by omega), ⟨n + 1, _, _, _, _, rfl, (by first | omega | simp_all), (by first | omega | simp_all), (by exact hw3), (by intro c hc; have := hov.2.1 c hc; omega), (by intro c hc; have := hov.2.2 c hc; omega), (by rw [range_flat_succ, enum, ← List.append_assoc, ← List.append_assoc]; exact hY3), rfl⟩, ⟨rfl, (keep_cons rfl (keep_cons rfl (keep_cons rfl (keep_cons rfl (keep_cons rfl (keep_cons rfl (keep_cons rfl (keep_cons rfl (keep_cons rfl (keep_cons rfl keep_nil)))))))))), (.cons_cons _ (.cons_cons _ (.cons_cons _ (.refl _))))⟩⟩
          · skip
            refine TO.perm (hs' := [_, _, _, _] ++ C9) List.perm_append_comm ?_
            refine TO.things (hs' := _ :: _ :: _ :: _ :: C9) rfl ?_
            refine TO.val rfl rfl rfl (Val.not rfl) ?_
            refine TO.val rfl rfl rfl (Val.pick rfl rfl rfl) ?_
            refine TO.nil ?_
            refine T.condT (fun a ha => ha.ev (.tmp 77) _ rfl) ?_
            refine T.keep (s' := ⟨[], [], _ :: C9⟩) ⟨rfl, keep_nil, (.cons _ (.cons _ (.cons _ (.cons_cons _ (.refl _)))))⟩ ?_
            refine T.ret ?_
            obtain ⟨r9, hr9⟩ := new_first (j := 0) eg hc35 (Nat.zero_le _); exact ⟨rfl, _, rfl, C9, rfl, .inr ⟨_, r9, hr9.symm, by rw [hown, show newLeaves (i : Int) (n : Int) 0 = [] from rfl, List.append_nil]; exact hZ9⟩⟩
        | false =>
          replace hth := bfalse hth
          have hown : ownLeaf (i : Int) (n : Int) g = [] := by unfold ownLeaf; rw [hov.1, if_neg hth]
          refine TO.off rfl rfl rfl ?_
          refine TO.off rfl rfl rfl ?_
          refine TO.off rfl rfl rfl ?_
          refine TO.off rfl rfl rfl ?_
          refine TO.val rfl rfl rfl (Val.pick rfl rfl rfl) ?_
          refine TO.nil ?_
          refine T.condF (fun a ha => ha.ev (.tmp 77) _ rfl) ?_
          refine T.skip ?_
          refine T.seq ?_
          refine T.text rfl ?_
          refine TO.val rfl rfl rfl (Val.move rfl) ?_
          refine TO.val rfl rfl rfl (Val.move rfl) ?_
          refine TO.nil ?_
          refine T.block ?_
          refine T.loop (fun μ s => ∃ k1 : Nat, ∃ j3 : Int, ∃ C3 : List Thing, μ = mo.toNat - k1 ∧ j3 = k1 ∧ (k1 : Int) ≤ max 0 mo ∧ Y (leavesFrom 0 (b.gs.l.take i) ++ (List.range n).flatMap (numLeaves (i : Int) g) ++ ownLeaf (i : Int) (n : Int) g ++ newLeaves (i : Int) (n : Int) k1) C3 ∧ s = ⟨[], [(0, .yield l), (1, .ptr bx 0 2), (16, b.gs.v), (17, iv (b.gs.l.length : Int)), (18, iv (i : Int)), (3, iv (i : Int)), (4, .ptr b4 0 4), (5, w3), (33, iv (g.leaves + 1)), (34, iv (n : Int)), (6, iv (n : Int)), (78, iv mo), (79, iv j3)], (ownL false v26 encC g.ch.l) :: (.row b4 4 [iv g.round, iv g.letter, iv g.leaves, g.ch.v]) :: (.row bx 2 [iv b.signed, b.gs.v]) :: C3⟩) (k := _) (s' := _) ⟨0, 0, _, rfl, (by first | rfl | omega | (simp; done) | (simp; omega) | simp_all), (by first | rfl | omega | (simp; done) | (simp; omega) | simp_all), (by rw [hown, show newLeaves (i : Int) (n : Int) 0 = [] from rfl, List.append_nil]; first | exact hY9 | (rw [List.append_nil]; exact hY2)), rfl⟩ ⟨rfl, (keep_cons rfl (keep_cons rfl (keep_cons rfl (keep_cons rfl (keep_cons rfl (keep_cons rfl (keep_cons rfl (keep_cons rfl (keep_cons rfl (keep_cons rfl (keep_cons rfl (keep_cons rfl (keep_cons rfl keep_nil))))))))))))), (.cons _ (.cons_cons _ (.cons_cons _ (.cons_cons _ (.refl _)))))⟩ ?_
          rintro μ _ ⟨k1, j3, C3, hk3, hj3, hk1, hY3, rfl⟩
          subst hj3
          refine T.seq ?_
          refine T.text rfl ?_
          refine TO.lss rfl rfl rfl rfl rfl (fun c80 hc80 => ?_)
          refine TO.nil ?_
          refine T.seq ?_
          cases c80 with
          | true =>
            replace hc80 := btrue hc80
            refine T.condT (fun a ha => ha.ev (.tmp 80) _ rfl) ?_
            refine T.skip ?_
            refine T.seq ?_
            refine T.block ?_
            refine T.seq ?_
            refine T.text rfl ?_
            refine TO.val rfl rfl rfl (Val.move rfl) ?_
            refine TO.val rfl rfl rfl (Val.assign rfl) ?_
            refine TO.nil ?_
            refine T.seq ?_
            refine T.text rfl ?_
            refine TO.val rfl rfl rfl (Val.move rfl) ?_
            refine TO.val rfl rfl rfl (Val.move rfl) ?_
            refine TO.val rfl rfl rfl (Val.move rfl) ?_
            refine TO.val rfl rfl rfl (Val.move rfl) ?_
            refine TO.val rfl rfl rfl (Val.add rfl rfl (by omega)) ?_
            refine TO.val rfl rfl rfl (Val.build (cs := [_, _, _, _]) (vs := [(_, _), (_, _), (_, _), (_, _)]) rfl rfl rfl) ?_
            refine TO.perm (hs' := C3 ++ [_, _, _]) List.perm_append_comm ?_
            refine TO.callY rfl rfl rfl rfl rfl (hy (leavesFrom 0 (b.gs.l.take i) ++ (List.range n).flatMap (numLeaves (i : Int) g) ++ ownLeaf (i : Int) (n : Int) g ++ newLeaves (i : Int) (n : Int) k1) ⟨(i : Int), (n : Int), (k1 : Int) + 1, 2⟩ _ [] C3 _ (by rw [List.append_assoc, ← newLeaves_succ]; exact new_first eg hc35 (by rw [hov.1, ← hmo]; omega)) ⟨rfl, rfl⟩ hY3) ?_
            rintro _ _ (⟨rfl, C9, rfl, hY9⟩ | ⟨rfl, C9, rfl, hZ9⟩)
            · skip
              refine TO.perm (hs' := [_, _, _] ++ C9) List.perm_append_comm ?_
              refine TO.things (hs' := _ :: _ :: _ :: C9) rfl ?_
              refine TO.val rfl rfl rfl (Val.not rfl) ?_
              refine TO.nil ?_
              refine T.condF (fun a ha => ha.ev (.tmp 89) _ rfl) ?_
              refine T.skip ?_
              refine T.text rfl ?_
              refine TO.val rfl rfl rfl (Val.add rfl rfl (by omega)) ?_
              refine TO.val rfl rfl rfl (Val.move rfl) ?_
              refine TO.nil ?_
              refine ⟨_, _, (by omega), ⟨k1 + 1, _, _, rfl, (by first | omega | simp_all), (by first | omega | simp_all), (by rw [newLeaves_succ, ← List.append_assoc]; exact hY9), rfl⟩, ⟨rfl, (keep_cons rfl (keep_cons rfl (keep_cons rfl (keep_cons rfl (keep_cons rfl (keep_cons rfl (keep_cons rfl (keep_cons rfl (keep_cons rfl (keep_cons rfl (keep_cons rfl (keep_cons rfl (keep_cons rfl keep_nil))))))))))))), (.cons_cons _ (.cons_cons _ (.cons_cons _ (.refl _))))⟩⟩
            · skip
              refine TO.perm (hs' := [_, _, _] ++ C9) List.perm_append_comm ?_
              refine TO.things (hs' := _ :: _ :: _ :: C9) rfl ?_
              refine TO.val rfl rfl rfl (Val.not rfl) ?_
              refine TO.nil ?_
              refine T.condT (fun a ha => ha.ev (.tmp 89) _ rfl) ?_
              refine T.keep (s' := ⟨[], [], _ :: C9⟩) ⟨rfl, keep_nil, (.cons _ (.cons _ (.cons_cons _ (.refl _))))⟩ ?_
              refine T.ret ?_
              obtain ⟨r9, hr9⟩ := new_first (j := k1 + 1) eg hc35 (by rw [hov.1, ← hmo]; omega); exact ⟨rfl, _, rfl, C9, rfl, .inr ⟨_, r9, hr9.symm, by rw [newLeaves_succ, ← List.append_assoc]; exact hZ9⟩⟩
          | false =>
            replace hc80 := bfalse hc80
            have hkm : k1 = mo.toNat := by omega
            have enum : numLeaves (i : Int) g n = ownLeaf (i : Int) (n : Int) g ++ newLeaves (i : Int) (n : Int) k1 := by unfold numLeaves; rw [hov.1, ← hmo, hkm]
            refine T.condF (fun a ha => ha.ev (.tmp 80) _ rfl) ?_
            refine T.exit ?_
            refine T.text rfl ?_
            refine TO.val rfl rfl rfl (Val.add rfl rfl (by omega)) ?_
            refine TO.val rfl rfl rfl (Val.move rfl) ?_
            refine TO.nil ?_
            refine ⟨_, _, (by omega), ⟨n + 1, _, _, _, _, rfl, (by first | omega | simp_all), (by first | omega | simp_all), (by exact hw3), (by intro c hc; have := hov.2.1 c hc; omega), (by intro c hc; have := hov.2.2 c hc; omega), (by rw [range_flat_succ, enum, ← List.append_assoc, ← List.append_assoc]; exact hY3), rfl⟩, ⟨rfl, (keep_cons rfl (keep_cons rfl (keep_cons rfl (keep_cons rfl (keep_cons rfl (keep_cons rfl (keep_cons rfl (keep_cons rfl (keep_cons rfl (keep_cons rfl keep_nil)))))))))), (.cons_cons _ (.cons_cons _ (.cons_cons _ (.refl _))))⟩⟩
    | false =>
      replace hc35 := bfalse hc35
      have hn1 : (g.leaves + 1).toNat = n := by omega
      refine T.condF (fun a ha => ha.ev (.tmp 35) _ rfl) ?_
      refine T.exit ?_
      refine T.text rfl ?_
      refine TO.val rfl rfl rfl (Val.add rfl rfl (by omega)) ?_
      refine TO.val rfl rfl rfl (Val.move rfl) ?_
      refine TO.nil ?_
      refine ⟨_, _, (by omega), ⟨i + 1, _, _, rfl, (by first | omega | simp_all), (by first | omega | simp_all), (by rw [take_snoc eg, leavesFrom_snoc, List.length_take, Nat.min_eq_left (by omega), Nat.zero_add]; unfold gatLeaves; rw [hn1]; exact hY2), rfl⟩, ⟨rfl, (keep_cons rfl (keep_cons rfl (keep_cons rfl (keep_cons rfl (keep_cons rfl keep_nil))))), (.cons _ (.cons _ (.cons_cons _ (.refl _))))⟩⟩
  | false =>
    replace hc19 := bfalse hc19
    refine T.condF (fun a ha => ha.ev (.tmp 19) _ rfl) ?_
    refine T.exit ?_
    exact ⟨rfl, _, rfl, C1, rfl, .inl (by rw [List.take_of_length_le (by omega)] at hY1; exact hY1)⟩
theorem q_Leaves (b : Book)  : Comes (EL 3) 57 [.agg (encB.f b)] (.tuple [(GSo true encL (if (bookErr b).2.2 = 0 then leavesOf b else [])).v, iv (bookErr b).2.2]) := by
  have hgood := fun h => book_good (b := b) h
  refine Comes.of (TF.enter (fn := Go.Proofs.Try.f57) rfl rfl rfl rfl rfl ?_)
  refine T.seq ?_
  refine T.text rfl ?_
  refine TO.box (k := 2) (cells := [_, _]) rfl rfl rfl rfl rfl rfl rfl (fun b1 => ?_)
  refine TO.val rfl rfl rfl (Val.assign rfl) ?_
  refine TO.val rfl rfl rfl (Val.assign rfl) ?_
  refine TO.nil ?_
  refine T.seq ?_
  refine T.text rfl ?_
  refine TO.val rfl rfl rfl (Val.load_rows (p := 0) (c := [_, _]) rfl ⟨⟨_, rfl, rfl⟩, rfl, by decide⟩ rfl rfl rfl rfl) ?_
  refine TO.callIn rfl rfl rfl rfl rfl rfl (orcN rfl) ?_
  refine TF.enterG (fn := Go.Proofs.Try.f82) rfl rfl rfl rfl rfl ?_
  refine T.seq ?_
  refine T.text rfl ?_
  refine TO.box (k := 2) (cells := [_, _]) rfl rfl rfl rfl rfl rfl rfl (fun b1_2 => ?_)
  refine TO.alloc (k := 2) (cells := [_, _]) rfl rfl rfl rfl rfl rfl rfl (fun b2 => ?_)
  refine TO.val rfl rfl rfl (Val.assign rfl) ?_
  refine TO.nil ?_
  refine T.seq ?_
  refine T.text rfl ?_
  refine TO.val rfl rfl rfl (Val.load_rows (p := 1) (c := [_, _]) rfl ⟨⟨_, rfl, rfl⟩, rfl, by decide⟩ rfl rfl rfl rfl) ?_
  refine TO.call rfl rfl rfl rfl rfl (orcL rfl (by first | decide | omega)) (.cons (.agg (.cons .lit (.cons .gs .nil))) .nil) (sem_of (q_Check _ )) ?_
  refine TO.val rfl rfl rfl (Val.move rfl) ?_
  refine TO.val rfl rfl rfl (Val.extract rfl rfl) ?_
  refine TO.val rfl rfl rfl (Val.extract rfl rfl) ?_
  refine TO.val rfl rfl rfl (Val.extract rfl rfl) ?_
  refine TO.val rfl rfl rfl (Val.assign rfl) ?_
  refine TO.val rfl rfl rfl (Val.assign rfl) ?_
  refine TO.val rfl rfl rfl (Val.assign rfl) ?_
  refine TO.nil ?_
  refine T.seq ?_
  refine T.text rfl ?_
  refine TO.val rfl rfl rfl (Val.load_rows (p := 1) (c := [_, _]) rfl ⟨⟨_, rfl, rfl⟩, rfl, by decide⟩ rfl rfl rfl rfl) ?_
  refine TO.val rfl rfl rfl (Val.build (cs := [_, _]) (vs := [(_, _)]) rfl rfl rfl) ?_
  refine TO.val rfl rfl rfl (Val.move rfl) ?_
  refine TO.store_row (p := 0) (cv := [_, _]) (cells' := [_, _]) rfl rfl rfl rfl rfl rfl rfl rfl rfl rfl (by first | rfl | simp [GS.one]) (by decide) rfl ?_
  refine TO.things (hs' := [_, _, _]) rfl ?_
  refine TO.val rfl rfl rfl (Val.assign rfl) ?_
  refine TO.nil ?_
  refine T.ret ?_
  refine ⟨rfl, _, rfl, [_, _], ⟨⟨_, rfl, LoadR.rows (p := 0) (c := [_, _]) rfl ⟨⟨_, rfl, rfl⟩, rfl, by decide⟩ rfl rfl rfl⟩, ⟨rfl, trivial⟩⟩, ?_⟩
  refine TO.things (hs' := [_, _, _]) rfl ?_
  refine TO.val rfl rfl rfl (Val.move rfl) ?_
  refine TO.val rfl rfl rfl (Val.extract rfl rfl) ?_
  refine TO.val rfl rfl rfl (Val.extract rfl rfl) ?_
  refine TO.alloc (k := 2) (cells := [_, _]) rfl rfl rfl rfl rfl rfl rfl (fun b4 => ?_)
  refine TO.store_row (p := 0) (cv := [_, _]) (cells' := [_, _]) rfl rfl rfl rfl rfl rfl rfl rfl rfl rfl (by first | rfl | simp [GS.one]) (by decide) rfl ?_
  refine TO.things (hs' := [_, _, _, _]) rfl ?_
  refine TO.val rfl rfl rfl (Val.assign rfl) ?_
  refine TO.nil ?_
  refine T.seq ?_
  refine T.seq ?_
  refine T.text rfl ?_
  refine TO.val rfl rfl rfl (Val.move rfl) ?_
  refine TO.neq rfl rfl rfl rfl rfl (fun c12 hc12 => ?_)
  refine TO.nil ?_
  cases c12 with
  | true =>
    replace hc12 := btrue hc12
    refine T.condT (fun a ha => ha.ev (.tmp 12) _ rfl) ?_
    refine T.seq ?_
    refine T.text rfl ?_
    refine TO.val rfl rfl rfl (Val.move rfl) ?_
    refine TO.val rfl rfl rfl (Val.assign rfl) ?_
    refine TO.val rfl rfl rfl (Val.assign rfl) ?_
    refine TO.nil ?_
    refine T.ret ?_
    exact ⟨rfl, _, rfl, RefN.cast (.tuple (.cons .lit (.cons .lit .nil))) (by rw [if_neg hc12]; rfl)⟩
  | false =>
    replace hc12 := bfalse hc12
    have hb := book_good (b := b) (by omega)
    refine T.condF (fun a ha => ha.ev (.tmp 12) _ rfl) ?_
    refine T.skip ?_
    refine T.seq ?_
    refine T.text rfl ?_
    refine TO.val rfl rfl rfl (Val.load_rows (p := 0) (c := [_, _]) rfl ⟨⟨_, rfl, rfl⟩, rfl, by decide⟩ rfl rfl rfl rfl) ?_
    refine TO.callIn rfl rfl rfl rfl rfl rfl (orcN rfl) ?_
    refine TF.enter (fn := Go.Proofs.Try.f84) rfl rfl rfl rfl rfl ?_
    refine T.seq ?_
    refine T.text rfl ?_
    refine TO.box (k := 2) (cells := [_, _]) rfl rfl rfl rfl rfl rfl rfl (fun b1_3 => ?_)
    refine TO.val rfl rfl rfl (Val.assign rfl) ?_
    refine TO.nil ?_
    refine T.seq ?_
    refine T.text rfl ?_
    refine TO.val rfl rfl rfl (Val.makeFunc rfl rfl) ?_
    refine TO.val rfl rfl rfl (Val.assign rfl) ?_
    refine TO.nil ?_
    refine T.ret ?_
    refine ⟨rfl, _, rfl, ?_⟩
    refine TO.callIn rfl rfl rfl rfl rfl rfl (orcN rfl) ?_
    refine TF.enter (fn := Go.Proofs.Try.f83) rfl rfl rfl rfl rfl ?_
    refine T.seq ?_
    refine T.text rfl ?_
    refine TO.val rfl rfl rfl (Val.assign rfl) ?_
    refine TO.nil ?_
    refine T.seq ?_
    refine T.text rfl ?_
    refine TO.val rfl rfl rfl (Val.move rfl) ?_
    refine TO.callIn rfl rfl rfl rfl rfl rfl (orcN rfl) ?_
    refine TF.enterG (fn := Go.Proofs.Try.f102) rfl rfl rfl rfl rfl ?_
    refine T.seq ?_
    refine T.text rfl ?_
    refine TO.box (k := 1) (cells := [_]) rfl rfl rfl rfl rfl rfl rfl (fun b2_2 => ?_)
    refine TO.val rfl rfl rfl (Val.assign rfl) ?_
    refine TO.nil ?_
    refine T.seq ?_
    refine T.seq ?_
    refine T.text rfl ?_
    refine TO.val rfl rfl rfl (Val.move rfl) ?_
    refine TO.nil ?_
    refine T.block ?_
    refine T.nilown (u := encL.u) ?_
    refine T.keep (s' := ⟨[], [(2, _), (6, _)], [_, _, _]⟩) ⟨rfl, (keep_cons rfl (keep_cons rfl keep_nil)), (.cons_cons _ (.cons_cons _ (.cons_cons _ (.cons _ (.cons _ (.cons _ (.cons _ .slnil)))))))⟩ ?_
    refine T.pick (p := 1) rfl ?_
    refine T.things (hs' := [_, _, _]) rfl ?_
    refine T.pick (p := 2) rfl ?_
    refine T.things (hs' := [_, _, _]) rfl ?_
    refine T.range0 (ArgL) ((· <+: leavesOf b)) (leavesOf b) (fun vis A => ∃ v, A = [.row b2_2 1 [v], ownL true v encL vis] ∧ vis.length ≤ 1950) (fun _ _ _ => False) [_] [_, _] (by rfl) (by rfl) (by rfl) (.refl _) ⟨_, rfl, by decide⟩ ?_ ?_ ?_ ?_
    · exact fun l YY ZZ hv C hY => lv_iter hb hv C hY
    · intro l d vis a vs G A B hP ha hA
      obtain ⟨rfl, rfl⟩ := ha
      obtain ⟨v, rfl, hvl⟩ := hA
      refine ⟨_, rfl, fun LR LB hLB => ?_⟩
      refine T.things (hs' := _ :: _ :: _ :: B) rfl ?_
      refine T.text rfl ?_
      refine TO.alloc (k := 4) (cells := [_, _, _, _]) rfl rfl rfl rfl rfl rfl rfl (fun b5 => ?_)
      refine TO.store_row (p := 0) (cv := [_, _, _, _]) (cells' := [_, _, _, _]) rfl rfl rfl rfl rfl rfl rfl rfl rfl rfl (by first | rfl | simp [GS.one]) (by decide) rfl ?_
      refine TO.things (hs' := _ :: _ :: _ :: _ :: B) rfl ?_
      refine TO.nil ?_
      refine ⟨rfl, 1, rfl, ?_⟩
      refine T.things (hs' := _ :: _ :: _ :: _ :: B) rfl ?_
      refine T.block ?_
      refine T.text rfl ?_
      refine TO.val rfl rfl rfl (Val.load_row (p := 2) rfl ⟨_, rfl, rfl⟩ rfl rfl rfl) ?_
      refine TO.val rfl rfl rfl (Val.load_rows (p := 0) (c := [_, _, _, _]) rfl ⟨⟨_, rfl, rfl⟩, rfl, by decide⟩ rfl rfl rfl rfl) ?_
      refine TO.build1 (en := encL) (a := ⟨_, _, _, _⟩) rfl rfl rfl ⟨rfl, rfl⟩ ⟨_, rfl, rfl⟩ (by decide) (by decide) rfl rfl (fun v10 => ?_)
      refine TO.append_own (b := 32) (en := encL) (l := _) (l2 := _) (p := 4) (q := 0) rfl rfl rfl ⟨rfl, rfl, rfl, ⟨_, rfl, rfl⟩, by decide, by decide⟩ rfl rfl rfl rfl rfl rfl (en_ones encL_ones _) (by simp; omega) (fun v11 => ?_)
      refine TO.things (hs' := _ :: _ :: _ :: _ :: _ :: B) rfl ?_
      refine TO.ownfact (p := 4) rfl (fun hoown => ?_)
      refine TO.store_row (p := 3) (cv := [_]) (cells' := [_]) rfl rfl rfl rfl rfl rfl rfl hoown.1 rfl rfl (by simp [hoown.2]) (by decide) rfl ?_
      refine TO.things (hs' := _ :: _ :: _ :: _ :: _ :: B) rfl ?_
      refine TO.nil ?_
      exact ⟨[_, _], (.cons _ (.cons _ (.cons_cons _ (.cons_cons _ (.cons_cons _ (.refl _)))))), .inl ⟨rfl, ⟨_, rfl, Nat.le_trans hP.length_le (leaves_len hb.fits)⟩⟩⟩
    · intro d A hA
      obtain ⟨v, rfl, hvl⟩ := hA
      refine T.things (hs' := [_, _, _, _]) rfl ?_
      refine T.seq ?_
      refine T.text rfl ?_
      refine TO.val rfl rfl rfl (Val.load_row (p := 2) rfl ⟨_, rfl, rfl⟩ rfl rfl rfl) ?_
      refine TO.val rfl rfl rfl (Val.assign rfl) ?_
      refine TO.nil ?_
      refine T.ret ?_
      refine ⟨rfl, _, ⟨1, rfl, rfl⟩, [_], ⟨rfl, trivial⟩, ?_⟩
      refine TO.things (hs' := [_, _, _]) rfl ?_
      refine TO.val rfl rfl rfl (Val.assign rfl) ?_
      refine TO.nil ?_
      refine T.ret ?_
      refine ⟨rfl, _, rfl, ?_⟩
      refine TO.val rfl rfl rfl (Val.assign rfl) ?_
      refine TO.val rfl rfl rfl (Val.assign rfl) ?_
      refine TO.nil ?_
      refine T.ret ?_
      exact ⟨rfl, _, rfl, RefN.cast (.tuple (.cons (.ownL (en := encL) (p := 2) rfl (.lits encL_lits)) (.cons .lit .nil))) (by have h0 : (bookErr b).2.2 = 0 := (by omega); simp [h0])⟩
    · exact fun d e q r A hq hZ => hZ.elim
end Go.Am.Ythckcbfijdambaa
end
section
namespace Go.Am.Ythckcbfijdambaa
open Go.Am Go.RowKit
set_option linter.unusedVariables false
set_option linter.unusedSimpArgs false
theorem s_IndexL (l : GS encL) (x : Leaf) (hb : l.l.length < 4611686018427387904) : Comes (EL 0) 87 [l.v, .agg (encL.f x)] (iv (idxOf x l.l)) := by
  refine Comes.of (TF.enter (fn := Go.Proofs.Try.f87) rfl rfl rfl rfl rfl ?_)
  refine T.seq ?_
  refine T.text rfl ?_
  refine TO.box (k := 4) (cells := [_, _, _, _]) rfl rfl rfl rfl rfl rfl rfl (fun b3 => ?_)
  refine TO.val rfl rfl rfl (Val.assign rfl) ?_
  refine TO.nil ?_
  refine T.seq ?_
  refine T.seq ?_
  refine T.text rfl ?_
  refine TO.val rfl rfl rfl (Val.move rfl) ?_
  refine TO.val rfl rfl rfl (Val.len_gs rfl rfl) ?_
  refine TO.val rfl rfl rfl (Val.move rfl) ?_
  refine TO.nil ?_
  refine T.block ?_
  refine T.loop (fun μ s => ∃ i : Nat, ∃ j : Int, μ = l.l.length - i ∧ j = i ∧ i ≤ l.l.length ∧ idxOf x l.l = idxFrom x i (l.l.drop i) ∧ s = ⟨[], [(0, l.v), (3, .ptr b3 0 4), (7, iv (l.l.length : Int)), (8, iv j)], [.row b3 4 [iv x.g, iv x.num, iv x.plus, iv x.kind]]⟩) (k := _) (s' := _) ⟨0, 0, rfl, (by first | rfl | omega | (simp; done) | (simp; omega) | simp_all), (by first | rfl | omega | (simp; done) | (simp; omega) | simp_all), (by rfl), rfl⟩ ⟨rfl, (keep_cons rfl (keep_cons rfl (keep_cons rfl (keep_cons rfl keep_nil)))), (.cons_cons _ .slnil)⟩ ?_
  rintro μ _ ⟨i, j, hk0, hj, hi, he, rfl⟩
  subst hj
  refine T.seq ?_
  refine T.text rfl ?_
  refine TO.lss rfl rfl rfl rfl rfl (fun c9 hc9 => ?_)
  refine TO.nil ?_
  refine T.seq ?_
  cases c9 with
  | true =>
    replace hc9 := btrue hc9
    refine T.condT (fun a ha => ha.ev (.tmp 9) _ rfl) ?_
    refine T.skip ?_
    refine T.seq ?_
    refine T.block ?_
    refine T.seq ?_
    refine T.text rfl ?_
    refine TO.val rfl rfl rfl (Val.move rfl) ?_
    refine TO.val rfl rfl rfl (Val.assign rfl) ?_
    refine TO.nil ?_
    refine T.seq ?_
    refine T.draw (fun v => sameC_refl v) (l1 := [0, 1, 2, 3, 4, 5]) (l2 := []) (by kernel_rfl) (by kernel_rfl) ?_
    refine TO.val rfl rfl rfl (Val.load_rows (p := 0) (c := [_, _, _, _]) rfl ⟨⟨_, rfl, rfl⟩, rfl, by decide⟩ rfl rfl rfl rfl) ?_
    refine TO.val rfl rfl rfl (Val.move rfl) ?_
    refine TO.val rfl rfl rfl (Val.move rfl) ?_
    refine TO.index_gs rfl rfl rfl ⟨rfl, rfl⟩ rfl rfl (by omega) (fun y ry ey => ?_)
    try simp only [Int.toNat_natCast] at ey
    refine TO.val rfl rfl rfl (Val.load_trees (c := _) ⟨⟨_, rfl, rfl⟩, rfl, by decide⟩ rfl rfl) ?_
    refine TO.binP rfl rfl rfl rfl rfl (eql_ty104 _ _ _ _ _ _ _ _ _ _) (fun c16 hc16 => ?_)
    refine TO.nil ?_
    cases c16 with
    | true =>
      replace hc16 := btrue hc16
      refine T.condT (fun a ha => ha.ev (.tmp 16) _ rfl) ?_
      refine T.seq ?_
      refine T.text rfl ?_
      refine TO.val rfl rfl rfl (Val.move rfl) ?_
      refine TO.val rfl rfl rfl (Val.assign rfl) ?_
      refine TO.nil ?_
      refine T.ret ?_
      exact ⟨rfl, _, rfl, RefN.cast .lit (by rw [he, drop_cons ey, idxFrom, if_pos (leaf_ext.1 hc16)])⟩
    | false =>
      replace hc16 := bfalse hc16
      refine T.condF (fun a ha => ha.ev (.tmp 16) _ rfl) ?_
      refine T.skip ?_
      refine T.text rfl ?_
      refine TO.val rfl rfl rfl (Val.add rfl rfl (by omega)) ?_
      refine TO.val rfl rfl rfl (Val.move rfl) ?_
      refine TO.nil ?_
      refine ⟨_, _, (by omega), ⟨i + 1, _, rfl, (by first | omega | simp_all), (by first | omega | simp_all), (by rw [he, drop_cons ey, idxFrom, if_neg (fun e => hc16 (leaf_ext.2 e))]), rfl⟩, ⟨rfl, (keep_cons rfl (keep_cons rfl (keep_cons rfl (keep_cons rfl keep_nil)))), (.cons_cons _ .slnil)⟩⟩
  | false =>
    replace hc9 := bfalse hc9
    refine T.condF (fun a ha => ha.ev (.tmp 9) _ rfl) ?_
    refine T.exit ?_
    refine T.seq ?_
    refine T.text rfl ?_
    refine TO.val rfl rfl rfl (Val.assign rfl) ?_
    refine TO.nil ?_
    refine T.ret ?_
    exact ⟨rfl, _, rfl, RefN.cast .lit (by rw [he, List.drop_eq_nil_of_le (by omega), idxFrom])⟩
theorem q_Mate (b : Book) (n : Int)  : Comes (EL 4) 59 [.agg (encB.f b), iv n] (.tuple [iv (mateOf b n).1, iv (mateOf b n).2]) := by
  refine Comes.of (TF.enter (fn := Go.Proofs.Try.f59) rfl rfl rfl rfl rfl ?_)
  refine T.seq ?_
  refine T.text rfl ?_
  refine TO.box (k := 2) (cells := [_, _]) rfl rfl rfl rfl rfl rfl rfl (fun b2 => ?_)
  refine TO.val rfl rfl rfl (Val.assign rfl) ?_
  refine TO.val rfl rfl rfl (Val.assign rfl) ?_
  refine TO.nil ?_
  refine T.seq ?_
  refine T.text rfl ?_
  refine TO.val rfl rfl rfl (Val.load_rows (p := 0) (c := [_, _]) rfl ⟨⟨_, rfl, rfl⟩, rfl, by decide⟩ rfl rfl rfl rfl) ?_
  refine TO.call rfl rfl rfl rfl rfl (orcL rfl (by first | decide | omega)) (.cons (.agg (.cons .lit (.cons .gs .nil))) .nil) (sem_of (q_Leaves _ )) ?_
  refine TO.val rfl rfl rfl (Val.move rfl) ?_
  refine TO.val rfl rfl rfl (Val.extract rfl rfl) ?_
  refine TO.val rfl rfl rfl (Val.extract rfl rfl) ?_
  refine TO.val rfl rfl rfl (Val.assign rfl) ?_
  refine TO.val rfl rfl rfl (Val.assign rfl) ?_
  refine TO.nil ?_
  refine T.seq ?_
  refine T.block ?_
  refine T.seq ?_
  refine T.text rfl ?_
  refine TO.val rfl rfl rfl (Val.move rfl) ?_
  refine TO.neq rfl rfl rfl rfl rfl (fun c17 hc17 => ?_)
  refine TO.val rfl rfl rfl (Val.assign rfl) ?_
  refine TO.nil ?_
  cases c17 with
  | true =>
    replace hc17 := btrue hc17
    refine T.condT (fun a ha => ha.ev (.tmp 15) _ rfl) ?_
    refine T.seq ?_
    refine T.text rfl ?_
    refine TO.val rfl rfl rfl (Val.move rfl) ?_
    refine TO.val rfl rfl rfl (Val.assign rfl) ?_
    refine TO.val rfl rfl rfl (Val.assign rfl) ?_
    refine TO.nil ?_
    refine T.ret ?_
    exact ⟨rfl, _, rfl, RefN.cast (.tuple (.cons .lit (.cons .lit .nil))) (by unfold mateOf; rw [if_pos hc17])⟩
  | false =>
    replace hc17 := bfalse hc17
    have h0 : (bookErr b).2.2 = 0 := by omega
    have hb := book_good h0
    have hll := leaves_len hb.fits
    rw [if_pos h0]
    refine T.condF (fun a ha => ha.ev (.tmp 15) _ rfl) ?_
    refine T.seq ?_
    refine T.text rfl ?_
    refine TO.val rfl rfl rfl (Val.move rfl) ?_
    refine TO.val rfl rfl rfl (Val.len_gso rfl rfl) ?_
    refine TO.val rfl rfl rfl (Val.sub rfl rfl (by omega)) ?_
    refine TO.val rfl rfl rfl (Val.move rfl) ?_
    refine TO.build1 (en := encI) (a := _) rfl rfl rfl ⟨rfl, rfl⟩ ⟨_, rfl, rfl⟩ (by decide) (by decide) rfl rfl (fun v24 => ?_)
    refine TO.callD rfl rfl rfl rfl rfl (orcL rfl (by first | decide | omega)) (.cons .lit (.cons .lit (.cons (.ownL (p := 0) rfl .ints) .nil))) (sem_of (q_out _ _ _ (by exact out1_small))) (fun c25 hc25 => ?_)
    replace hc25 := out1 hc25
    refine TO.val rfl rfl rfl (Val.assign rfl) ?_
    refine TO.nil ?_
    cases c25 with
    | true =>
      replace hc25 := btrue hc25
      refine T.condT (fun a ha => ha.ev (.tmp 19) _ rfl) ?_
      refine T.seq ?_
      refine T.text rfl ?_
      refine TO.val rfl rfl rfl (Val.assign rfl) ?_
      refine TO.val rfl rfl rfl (Val.assign rfl) ?_
      refine TO.nil ?_
      refine T.ret ?_
      exact ⟨rfl, _, rfl, RefN.cast (.tuple (.cons .lit (.cons .lit .nil))) (by unfold mateOf; rw [if_neg (by omega)]; split; rfl; rename_i h1; exfalso; split at h1; have := (List.getElem?_eq_some_iff.1 h1).1; omega; cases h1)⟩
    | false =>
      replace hc25 := bfalse hc25
      refine T.condF (fun a ha => ha.ev (.tmp 19) _ rfl) ?_
      refine T.skip ?_
      refine T.seq ?_
      refine T.text rfl ?_
      refine TO.val rfl rfl rfl (Val.move rfl) ?_
      refine TO.val rfl rfl rfl (Val.move rfl) ?_
      refine TO.index_gso rfl rfl rfl ⟨rfl, rfl⟩ rfl rfl (by omega) (fun x rx ex => ?_)
      try simp only [Int.toNat_natCast] at ex
      have hxm := List.mem_of_getElem? ex
      obtain ⟨g0, hg0, hg1, hg2, hx1, hx2⟩ := mem_leaves hxm
      refine TO.val rfl rfl rfl (Val.load_trees (c := _) ⟨⟨_, rfl, rfl⟩, rfl, by decide⟩ rfl rfl) ?_
      refine TO.alloc (k := 4) (cells := [_, _, _, _]) rfl rfl rfl rfl rfl rfl rfl (fun b8 => ?_)
      refine TO.store_row (p := 0) (cv := [_, _, _, _]) (cells' := [_, _, _, _]) rfl rfl rfl rfl rfl rfl rfl rfl rfl rfl (by first | rfl | simp [GS.one]) (by decide) rfl ?_
      refine TO.things (hs' := [_, _, _]) rfl ?_
      refine TO.nil ?_
      refine T.seq ?_
      refine T.drawE (l1 := [0, 1, 2, 3, 4, 5, 6, 7, 8, 9, 10, 11]) (l2 := [12]) (by kernel_rfl) (by kernel_rfl) ?_
      refine TD1.light rfl rfl rfl rfl (Val.faddr_ptr (fo := 1) rfl rfl rfl) ?_
      refine TD1.read rfl rfl rfl rfl (Val.load_row (p := 2) rfl ⟨_, rfl, rfl⟩ rfl rfl rfl) ?_
      refine TD1.light rfl rfl rfl rfl (Val.faddr_ptr (fo := 0) rfl rfl rfl) ?_
      refine TD1.read rfl rfl rfl rfl (Val.load_row (p := 0) rfl ⟨_, rfl, rfl⟩ rfl rfl rfl) ?_
      refine TD1.index_gs rfl rfl rfl ⟨rfl, rfl⟩ rfl rfl (by omega) (fun g rg eg => ?_)
      try simp only [Int.toNat_natCast] at eg
      have e34 := Option.some.inj (hg0.symm.trans eg)
      subst e34
      obtain ⟨-, hgl1, hgl2, -, -⟩ := hb.each g0 (List.mem_of_getElem? hg0)
      refine TD1.light rfl rfl rfl rfl (Val.faddr_tree (fo := 2) rfl rfl rfl rfl) ?_
      refine TD1.read rfl rfl rfl rfl (Val.load_tree ⟨_, rfl, rfl⟩ rfl) ?_
      refine TD1.light rfl rfl rfl rfl (Val.add rfl rfl (by omega)) ?_
      refine TD1.light rfl rfl rfl rfl (Val.faddr_ptr (fo := 1) rfl rfl rfl) ?_
      refine TD1.read rfl rfl rfl rfl (Val.load_row (p := 0) rfl ⟨_, rfl, rfl⟩ rfl rfl rfl) ?_
      refine TD1.light rfl rfl rfl rfl (Val.sub rfl rfl (by omega)) ?_
      refine TD1.light rfl rfl rfl rfl (Val.faddr_ptr (fo := 1) rfl rfl rfl) ?_
      refine TD1.over (fun v => sameC_refl v) (all_cons (⟨_, rfl, (Val.load_row (p := 0) rfl ⟨_, rfl, rfl⟩ rfl rfl rfl)⟩) (all_cons (⟨_, rfl, (Val.load_tree ⟨_, rfl, rfl⟩ rfl)⟩) (all_cons (⟨_, rfl, (Val.load_row (p := 0) rfl ⟨_, rfl, rfl⟩ rfl rfl rfl)⟩) (all_cons (⟨_, rfl, (Val.load_row (p := 2) rfl ⟨_, rfl, rfl⟩ rfl rfl rfl)⟩) all_nil)))) ?_
      refine TD2.heavy (fun v => sameC_refl v) rfl (by decide) rfl rfl (OpS.eff (Eff.store_row (p := 0) (cv := [_]) (cells' := [_, _, _, _]) rfl rfl rfl rfl rfl rfl rfl rfl (by first | rfl | simp [GS.one]) (by decide) rfl)) ?_
      rintro _ _ rfl
      refine ⟨(all_cons (.inl (by kernel_rfl)) (all_cons (.inl (by kernel_rfl)) (all_cons (.inl (by kernel_rfl)) (all_cons (.inl (by kernel_rfl)) all_nil)))), all_nil, ?_⟩
      refine TD2.things (hs' := [_, _, _]) rfl ?_
      refine TD2.nil ?_
      refine T.seq ?_
      refine T.seq ?_
      refine T.text rfl ?_
      refine TO.val rfl rfl rfl (Val.move rfl) ?_
      refine TO.val rfl rfl rfl (Val.load_rows (p := 0) (c := [_, _, _, _]) rfl ⟨⟨_, rfl, rfl⟩, rfl, by decide⟩ rfl rfl rfl rfl) ?_
      refine TO.call rfl rfl rfl rfl rfl (orcL rfl (by first | decide | omega)) (.cons .gs (.cons (.agg (.cons .lit (.cons .lit (.cons .lit (.cons .lit .nil))))) .nil)) (sem_of (s_IndexL _ ⟨x.g, g0.leaves + 1 - x.num, x.plus, x.kind⟩ (by show (leavesOf b).length < _; omega))) ?_
      rw [show (GSo true encL (leavesOf b)).l = leavesOf b from rfl]
      have hmo : mateOf b n = if x.kind = 0 ∧ 0 ≤ idxOf (mirror b x) (leavesOf b) ∧ idxOf (mirror b x) (leavesOf b) ≠ n then (idxOf (mirror b x) (leavesOf b), 0) else (0, 4) := by unfold mateOf; rw [if_neg (by omega), if_pos (by omega), ex]
      have hmi : mirror b x = ⟨x.g, g0.leaves + 1 - x.num, x.plus, x.kind⟩ := by unfold mirror; rw [hg0]
      rw [hmi] at hmo
      have hir := idxFrom_range (x := ⟨x.g, g0.leaves + 1 - x.num, x.plus, x.kind⟩) (leavesOf b) 0
      change -1 ≤ idxOf _ _ ∧ idxOf _ _ < _ at hir
      refine TO.val rfl rfl rfl (Val.assign rfl) ?_
      refine TO.nil ?_
      refine T.seq ?_
      refine T.text rfl ?_
      refine TO.val rfl rfl rfl (Val.faddr_ptr (fo := 3) rfl rfl rfl) ?_
      refine TO.val rfl rfl rfl (Val.load_row (p := 0) rfl ⟨_, rfl, rfl⟩ rfl rfl rfl) ?_
      refine TO.eql rfl rfl rfl rfl rfl (fun c47 hc47 => ?_)
      refine TO.val rfl rfl rfl (Val.move rfl) ?_
      cases c47 with
      | true =>
        replace hc47 := btrue hc47
        refine TO.val rfl rfl rfl (Val.move rfl) ?_
        refine TO.geq rfl rfl rfl rfl rfl (fun c50 hc50 => ?_)
        refine TO.val rfl rfl rfl (Val.pick rfl rfl rfl) ?_
        refine TO.val rfl rfl rfl (Val.move rfl) ?_
        cases c50 with
        | true =>
          replace hc50 := btrue hc50
          refine TO.val rfl rfl rfl (Val.move rfl) ?_
          refine TO.val rfl rfl rfl (Val.move rfl) ?_
          refine TO.neq rfl rfl rfl rfl rfl (fun c55 hc55 => ?_)
          refine TO.val rfl rfl rfl (Val.pick rfl rfl rfl) ?_
          refine TO.nil ?_
          cases c55 with
          | true =>
            replace hc55 := btrue hc55
            refine T.condT (fun a ha => ha.ev (.tmp 56) _ rfl) ?_
            refine T.seq ?_
            refine T.text rfl ?_
            refine TO.val rfl rfl rfl (Val.move rfl) ?_
            refine TO.val rfl rfl rfl (Val.assign rfl) ?_
            refine TO.val rfl rfl rfl (Val.assign rfl) ?_
            refine TO.nil ?_
            refine T.ret ?_
            exact ⟨rfl, _, rfl, RefN.cast (.tuple (.cons .lit (.cons .lit .nil))) (by rw [hmo]; split <;> first | rfl | (exfalso; omega))⟩
          | false =>
            replace hc55 := bfalse hc55
            refine T.condF (fun a ha => ha.ev (.tmp 56) _ rfl) ?_
            refine T.skip ?_
            refine T.seq ?_
            refine T.text rfl ?_
            refine TO.val rfl rfl rfl (Val.assign rfl) ?_
            refine TO.val rfl rfl rfl (Val.assign rfl) ?_
            refine TO.nil ?_
            refine T.ret ?_
            exact ⟨rfl, _, rfl, RefN.cast (.tuple (.cons .lit (.cons .lit .nil))) (by rw [hmo]; split <;> first | rfl | (exfalso; omega))⟩
        | false =>
          replace hc50 := bfalse hc50
          refine TO.off rfl rfl rfl ?_
          refine TO.off rfl rfl rfl ?_
          refine TO.off rfl rfl rfl ?_
          refine TO.val rfl rfl rfl (Val.pick rfl rfl rfl) ?_
          refine TO.nil ?_
          refine T.condF (fun a ha => ha.ev (.tmp 56) _ rfl) ?_
          refine T.skip ?_
          refine T.seq ?_
          refine T.text rfl ?_
          refine TO.val rfl rfl rfl (Val.assign rfl) ?_
          refine TO.val rfl rfl rfl (Val.assign rfl) ?_
          refine TO.nil ?_
          refine T.ret ?_
          exact ⟨rfl, _, rfl, RefN.cast (.tuple (.cons .lit (.cons .lit .nil))) (by rw [hmo]; split <;> first | rfl | (exfalso; omega))⟩
      | false =>
        replace hc47 := bfalse hc47
        refine TO.off rfl rfl rfl ?_
        refine TO.off rfl rfl rfl ?_
        refine TO.val rfl rfl rfl (Val.pick rfl rfl rfl) ?_
        refine TO.val rfl rfl rfl (Val.move rfl) ?_
        refine TO.off rfl rfl rfl ?_
        refine TO.off rfl rfl rfl ?_
        refine TO.off rfl rfl rfl ?_
        refine TO.val rfl rfl rfl (Val.pick rfl rfl rfl) ?_
        refine TO.nil ?_
        refine T.condF (fun a ha => ha.ev (.tmp 56) _ rfl) ?_
        refine T.skip ?_
        refine T.seq ?_
        refine T.text rfl ?_
        refine TO.val rfl rfl rfl (Val.assign rfl) ?_
        refine TO.val rfl rfl rfl (Val.assign rfl) ?_
        refine TO.nil ?_
        refine T.ret ?_
        exact ⟨rfl, _, rfl, RefN.cast (.tuple (.cons .lit (.cons .lit .nil))) (by rw [hmo]; split <;> first | rfl | (exfalso; omega))⟩
end Go.Am.Ythckcbfijdambaa
end
section
namespace Go.Am.Ythckcbfijdambaa
open Go.Am Go.RowKit
set_option linter.unusedVariables false
set_option linter.unusedSimpArgs false
theorem w_r1_Check (s : Int) (g : GS encG) (r : Int × Int × Int) (h : P_r1_Check s g.l = some r) : Comes (EL 3) 63 [.agg [iv s, g.v]] (.tuple [iv r.1, iv r.2.1, iv r.2.2]) := by
  cases h; exact r1_Check ⟨s, g⟩
theorem w_r1_All (s : Int) (g : GS encG) (r : List Leaf) (h : P_r1_All s g.l = some r) : Comes (EL 1) 32 [.agg [iv s, g.v]] ((GSo true encL r).v) := by
  obtain ⟨hp, h⟩ := chk_some h; cases h; exact r1_All ⟨s, g⟩ ⟨hp.gs, hp.leaves⟩
theorem w_r1_Pair (s : Int) (g : GS encG) (n : Int) (r : Int) (h : P_r1_Pair s g.l n = some r) : Comes (EL 2) 22 [.agg [iv s, g.v], iv n] (iv r) := by
  obtain ⟨⟨hp, h0, h1⟩, h⟩ := chk_some h; cases h; have := r1_Pair ⟨s, g⟩ n.toNat ⟨hp.gs, hp.leaves⟩ h1; rw [Int.toNat_of_nonneg h0] at this; exact this
theorem w_r1_Has (x : GS encI) (n : Int) (r : Bool) (h : P_r1_Has x.l n = some r) : Comes (EL 0) 31 [x.v, iv n] (bv r) := by
  obtain ⟨hp, h⟩ := chk_some h; cases h; exact r1_Has x n hp
theorem w_r1_Ints (x y : GS encI) (r : Bool) (h : P_r1_Ints x.l y.l = some r) : Comes (EL 0) 13 [x.v, y.v] (bv r) := by
  obtain ⟨hp, h⟩ := chk_some h; cases h; exact r1_Ints x y hp
theorem w_q_Check (s : Int) (g : GS encG) (r : Int × Int × Int) (h : P_q_Check s g.l = some r) : Comes (EL 2) 56 [.agg [iv s, g.v]] (.tuple [iv r.1, iv r.2.1, iv r.2.2]) := by
  cases h; exact q_Check ⟨s, g⟩
theorem w_q_Leaves (s : Int) (g : GS encG) (r : List Leaf × Int) (h : P_q_Leaves s g.l = some r) : Comes (EL 3) 57 [.agg [iv s, g.v]] (.tuple [(GSo true encL r.1).v, iv r.2]) := by
  cases h; exact q_Leaves ⟨s, g⟩
theorem w_q_Mate (s : Int) (g : GS encG) (n : Int) (r : Int × Int) (h : P_q_Mate s g.l n = some r) : Comes (EL 4) 59 [.agg [iv s, g.v], iv n] (.tuple [iv r.1, iv r.2]) := by
  cases h; exact q_Mate ⟨s, g⟩ n
theorem w_c_outside (lo hi : Int) (x : GS encI) (r : Bool) (h : P_c_outside lo hi x.l = some r) : Comes (EL 0) 58 [iv lo, iv hi, x.v] (bv r) := by
  obtain ⟨hp, h⟩ := chk_some h; cases h; exact c_outside lo hi x hp
end Go.Am.Ythckcbfijdambaa
end
section
namespace Go.Am
set_option linter.unusedVariables false
end Go.Am
end
section
namespace Go.Am
set_option linter.unusedVariables false
noncomputable def P_r4_in (n : Int) (low : Int) (high : Int) : Option Bool :=
  andx (
    if n ≥ low then
      some (decide (n ≤ high))
    else
      some false) fun x6 =>
    some x6
noncomputable def P_r4_item_L1 (x_Could : List Int) (leaves : Int) : Int → Option (Stp Int (Ex Unit Int)) := fun i =>
  if i < (x_Could.length : Int) then
    el x_Could i fun a21 =>
    chk (I64 (leaves - 1)) (
      andx (P_r4_in a21 0 (leaves - 1)) fun y25 =>
        if y25 = true then
          chk (I64 (i + 1)) (
            some (Stp.ag (i + 1)))
        else
          some (Stp.dn (Ex.rt 4)))
  else
    some (Stp.dn (Ex.nx ()))
noncomputable def P_r4_item_L2 (x_Could : List Int) : Int → Option (Stp Int (Ex Unit Int)) := fun i =>
  if i < (x_Could.length : Int) then
    el x_Could i fun a37 =>
    chk (I64 (i - 1)) (
      el x_Could (i - 1) fun a43 =>
      if a37 ≤ a43 then
        some (Stp.dn (Ex.rt 2))
      else
        chk (I64 (i + 1)) (
          some (Stp.ag (i + 1))))
  else
    some (Stp.dn (Ex.nx ()))
noncomputable def P_r4_item (x_Could : List Int) (leaves : Int) : Option Int :=
  if (x_Could.length : Int) > 4 then
    some 3
  else
    seqx (
      iter (P_r4_item_L1 x_Could leaves) 0) fun _ =>
      seqx (
        iter (P_r4_item_L2 x_Could) 1) fun _ =>
        some 0
noncomputable def P_r4_Mates_L1 (b_Signed : Int) (b_Gatherings : List Gat) (all7 : List Leaf) : (Int × (List Int)) → Option (Stp (Int × (List Int)) (List Int)) := fun (i, out) =>
  if i < (all7.length : Int) then
    andx (P_r1_Pair b_Signed b_Gatherings i) fun mate17 =>
      chk (out.length + [mate17].length < 1000000000) (
        chk (I64 (i + 1)) (
          some (Stp.ag ((i + 1), out ++ [mate17]))))
  else
    some (Stp.dn out)
noncomputable def P_r4_Mates (b_Signed : Int) (b_Gatherings : List Gat) : Option (List Int) :=
  andx (P_r1_All b_Signed b_Gatherings) fun all7 =>
    andx (
      iter (P_r4_Mates_L1 b_Signed b_Gatherings all7) (0, [])) fun out =>
      some out
noncomputable def P_c_there_L1 (t : List Int) : (Int × (Int → Int)) → Option (Stp (Int × (Int → Int)) (Int → Int)) := fun (x11, m) =>
  if x11 < (t.length : Int) then
    el t x11 fun a13 =>
    chk (I64 ((m a13) + 1)) (
      chk (I64 (x11 + 1)) (
        some (Stp.ag ((x11 + 1), putI m a13 ((m a13) + 1)))))
  else
    some (Stp.dn m)
noncomputable def P_c_there (x_CpCase_Book_Signed : Int) (x_CpCase_Book_Gatherings : List Gat) (x_CpCase_Items : List Item) (x_leaves : List Leaf) (x_mates : List Int) (t : List Int) : Option (Int → Int) :=
  andx (
    iter (P_c_there_L1 t) (0, (fun _ => 0))) fun m =>
    some m
end Go.Am
end
section
namespace Go.Am.Ythckcbfijdambaa
open Go.Am Go.RowKit
set_option linter.unusedVariables false
set_option linter.unusedSimpArgs false
theorem tr_yields {k : Nat} {D : List Thing} {bx xid : Nat} {sg : Int} {gsv itv lv mv : AV} {its : List Item} (hb : Thing.row bx 1 [.ptr xid 0 5] ∈ D) (hx : Thing.row xid 5 [iv sg, gsv, itv, lv, mv] ∈ D) (hi : Rdl D encIt itv its)
    (hk : its.length ≤ 120 ∧ ∀ x ∈ its, x.could.l.length ≤ 4) : Yields (EL k) 61 [] [.ptr bx 0 1] ArgT D (truthsOf its) := by
  intro l YY ZZ hv C hY
  obtain ⟨D', hD⟩ := two_perm hb hx (by intro e; cases e)
  have hi' : Rdl D' encIt itv its := hi.perm2 hD (fun z e => by cases e) (fun z e => by cases e)
  have pm : ∀ C : List Thing, ([Thing.row bx 1 [.ptr xid 0 5], Thing.row xid 5 [iv sg, gsv, itv, lv, mv]] ++ (D' ++ C)).Perm (D ++ C) := fun C => List.Perm.append_right C hD.symm
  refine TF.perm (TF.conv (tr_iter (Y := YY) (Z := ZZ) hk.1 hi' hk.2 ?_ C hY) ?_) (pm C)
  · intro bt by_ bi vt vis tr C hp hl hY
    have key : ∀ C : List Thing, (C ++ ([ownL false vt encI tr] ++ (D ++ [Thing.row bt 1 [vt], Thing.row by_ 1 [.yield l], Thing.row bi 1 [.func 62 [] [.ptr bt 0 1, .ptr by_ 0 1, .ptr bx 0 1, .ptr bi 0 1]]]))).Perm
        ([Thing.row bt 1 [vt], Thing.row by_ 1 [.yield l], Thing.row bx 1 [.ptr xid 0 5], Thing.row bi 1 [.func 62 [] [.ptr bt 0 1, .ptr by_ 0 1, .ptr bx 0 1, .ptr bi 0 1]], Thing.row xid 5 [iv sg, gsv, itv, lv, mv], ownL false vt encI tr] ++ D' ++ C) := fun C =>
      List.perm_append_comm.trans (List.Perm.append_right C ((List.Perm.append_left _ (List.Perm.append_right _ hD)).trans (perm_six _ _ _ _ _ _ _)))
    refine (hv vis tr [vt] [ownL false vt encI tr] C _ hp ⟨vt, rfl, rfl⟩ hY).conv (key C) ?_
    rintro v h1 (⟨rfl, C', rfl, h⟩ | ⟨rfl, C', rfl, h⟩)
    · exact ⟨_, key C', .inl ⟨rfl, C', rfl, h⟩⟩
    · exact ⟨_, key C', .inr ⟨rfl, C', rfl, h⟩⟩
  · rintro v h1 ⟨C', rfl, h⟩
    exact ⟨_, pm C', C', rfl, h⟩
set_option maxRecDepth 10000 in
theorem tf_r4_in {k : Nat} (hk : 0 ≤ k) {C : List Thing} {n : Int} {low : Int} {high : Int} {r : Bool} (h : P_r4_in n low high = some r) :
    TF (EL k) 90 [iv (n), iv (low), iv (high)] C (RepF (fun (w : Unit) => bv r) (fun (w : Unit) => C)) := by
  unfold P_r4_in at h
  refine TF.enter (fn := Go.Proofs.Try.f90) rfl rfl rfl rfl rfl ?_
  refine T.seq ?_
  refine T.text rfl ?_
  refine TO.val rfl rfl rfl (Val.assign rfl) ?_
  refine TO.nil ?_
  show T _ _ _ _ _ _
  apply T.joinA (r := r) (W := Unit) (fun (j : Bool) (w : Unit) => ⟨[], [(6, bv j)], C⟩) h
  · intro j h
    refine T.text rfl ?_
    refine TO.val rfl rfl rfl (Val.move rfl) ?_
    refine TO.val rfl rfl rfl (Val.move rfl) ?_
    obtain ⟨c9, hc9⟩ : ∃ c : Bool, c = decide (n ≥ low) := ⟨_, rfl⟩
    refine TO.val rfl rfl rfl (Val.geq hc9 rfl rfl) ?_
    refine TO.val rfl rfl rfl (Val.move rfl) ?_
    cases c9 with
    | true =>
      replace hc9 := of_decide_eq_true hc9.symm
      rw [if_pos hc9] at h
      refine TO.val rfl rfl rfl (Val.move rfl) ?_
      refine TO.val rfl rfl rfl (Val.move rfl) ?_
      obtain ⟨c13, hc13⟩ : ∃ c : Bool, c = decide (n ≤ high) := ⟨_, rfl⟩
      refine TO.val rfl rfl rfl (Val.leq hc13 rfl rfl) ?_
      refine TO.val rfl rfl rfl (Val.pick rfl rfl rfl) ?_
      refine TO.val rfl rfl rfl (Val.assign rfl) ?_
      refine TO.nil ?_
      subst hc13
      cases h
      exact ⟨rfl, (), ⟨rfl, (keep_cons rfl keep_nil), .refl⟩⟩
    | false =>
      replace hc9 := of_decide_eq_false hc9.symm
      rw [if_neg hc9] at h
      refine TO.off rfl rfl rfl ?_
      refine TO.off rfl rfl rfl ?_
      refine TO.off rfl rfl rfl ?_
      refine TO.val rfl rfl rfl (Val.pick rfl rfl rfl) ?_
      refine TO.val rfl rfl rfl (Val.assign rfl) ?_
      refine TO.nil ?_
      cases h
      exact ⟨rfl, (), ⟨rfl, (keep_cons rfl keep_nil), .refl⟩⟩
  · rintro x6 _ h
    skip
    refine T.at (s' := ⟨[], [(6, bv x6)], C⟩) rfl ?_
    refine T.ret ?_
    cases h
    exact ⟨rfl, _, rfl, ⟨(), rfl, .refl⟩⟩
set_option maxRecDepth 10000 in
theorem tf_r4_item {k : Nat} (hk : 0 ≤ k) {C : List Thing} {v_x_Could : AV} {x_Could : List Int} {leaves : Int} (h_x_Could : Rdl C encI v_x_Could x_Could) {r : Int} (h : P_r4_item x_Could leaves = some r) :
    TF (EL k) 64 [.agg [v_x_Could], iv (leaves)] C (RepF (fun (w : Unit) => iv r) (fun (w : Unit) => C)) := by
  unfold P_r4_item at h
  refine TF.enter (fn := Go.Proofs.Try.f64) rfl rfl rfl rfl rfl ?_
  refine T.seq ?_
  refine T.text rfl ?_
  refine TO.box (k := 1) (cells := [_]) rfl rfl rfl rfl rfl rfl rfl (fun b2 => ?_)
  refine TO.val rfl rfl rfl (Val.assign rfl) ?_
  refine TO.nil ?_
  refine T.seq ?_
  refine T.seq ?_
  refine T.text rfl ?_
  refine TO.val rfl rfl rfl (Val.faddr_ptr (fo := 0) rfl rfl rfl) ?_
  refine TO.val rfl rfl rfl (Val.load_row (p := 0) rfl ⟨_, rfl, rfl⟩ rfl rfl rfl) ?_
  refine TO.val rfl rfl rfl (Val.len_l h_x_Could (memS (mem0)) rfl rfl) ?_
  obtain ⟨c10, hc10⟩ : ∃ c : Bool, c = decide ((x_Could.length : Int) > 4) := ⟨_, rfl⟩
  refine TO.val rfl rfl rfl (Val.gtr hc10 rfl rfl) ?_
  refine TO.nil ?_
  cases c10 with
  | true =>
    replace hc10 := of_decide_eq_true hc10.symm
    rw [if_pos hc10] at h
    refine T.condT (fun a ha => ha.ev (.tmp 10) _ rfl) ?_
    refine T.seq ?_
    refine T.text rfl ?_
    refine TO.val rfl rfl rfl (Val.assign rfl) ?_
    refine TO.nil ?_
    refine T.ret ?_
    cases h
    exact ⟨rfl, _, rfl, ⟨(), rfl, (.drop .refl)⟩⟩
  | false =>
    replace hc10 := of_decide_eq_false hc10.symm
    rw [if_neg hc10] at h
    refine T.condF (fun a ha => ha.ev (.tmp 10) _ rfl) ?_
    refine T.skip ?_
    show T _ _ _ _ _ _
    apply T.join (r := r) (W := Unit) (fun (j : Unit) (w : Unit) => ⟨[], [(2, .ptr b2 0 1)], .row b2 1 [v_x_Could] :: C⟩) h
    · intro j h
      refine T.seq ?_
      refine T.text rfl ?_
      refine TO.val rfl rfl rfl (Val.assign rfl) ?_
      refine TO.nil ?_
      refine T.block ?_
      show T _ _ _ _ _ _
      apply T.iter (r := j) (W := Unit) (fun (j : Int) (w : Unit) => ⟨[], [(1, iv (leaves)), (2, .ptr b2 0 1), (5, iv (j))], .row b2 1 [v_x_Could] :: C⟩) (w0 := ()) h
      · exact ⟨rfl, (keep_cons rfl (keep_cons rfl (keep_cons rfl keep_nil))), (.pick (p := 0) rfl .refl)⟩
      rintro i _ a h
      unfold P_r4_item_L1 at h
      refine T.at (s' := ⟨[], [(1, iv (leaves)), (2, .ptr b2 0 1), (5, iv (i))], .row b2 1 [v_x_Could] :: C⟩) rfl ?_
      refine T.seq ?_
      refine T.seq ?_
      refine T.text rfl ?_
      refine TO.val rfl rfl rfl (Val.move rfl) ?_
      refine TO.val rfl rfl rfl (Val.faddr_ptr (fo := 0) rfl rfl rfl) ?_
      refine TO.val rfl rfl rfl (Val.load_row (p := 0) rfl ⟨_, rfl, rfl⟩ rfl rfl rfl) ?_
      refine TO.val rfl rfl rfl (Val.len_l h_x_Could (memS (mem0)) rfl rfl) ?_
      obtain ⟨c15, hc15⟩ : ∃ c : Bool, c = decide (i < (x_Could.length : Int)) := ⟨_, rfl⟩
      refine TO.val rfl rfl rfl (Val.lss hc15 rfl rfl) ?_
      refine TO.nil ?_
      cases c15 with
      | true =>
        replace hc15 := of_decide_eq_true hc15.symm
        rw [if_pos hc15] at h
        refine T.condT (fun a ha => ha.ev (.tmp 15) _ rfl) ?_
        refine T.skip ?_
        refine T.seq ?_
        refine T.block ?_
        refine T.seq ?_
        refine T.text rfl ?_
        refine TO.val rfl rfl rfl (Val.faddr_ptr (fo := 0) rfl rfl rfl) ?_
        refine TO.val rfl rfl rfl (Val.load_row (p := 0) rfl ⟨_, rfl, rfl⟩ rfl rfl rfl) ?_
        refine TO.val rfl rfl rfl (Val.move rfl) ?_
        obtain ⟨a21, hia21, ea21, h⟩ := el_some h
        refine TO.fact (rdl_at h_x_Could (memS (mem0)) hia21 ea21) (fun hp => ?_)
        obtain ⟨pa21, hpa21, hva21⟩ := hp
        refine TO.val rfl rfl rfl (hva21 ⟨rfl, rfl⟩ rfl rfl) ?_
        refine TO.val rfl rfl rfl (Val.load_e hpa21 (memS (mem0)) ⟨_, rfl, rfl⟩ rfl rfl) ?_
        refine TO.val rfl rfl rfl (Val.move rfl) ?_
        obtain ⟨hk24, h⟩ := chk_some h
        refine TO.val rfl rfl rfl (Val.sub rfl rfl hk24) ?_
        obtain ⟨y25, hr25, h⟩ := andx_some h
        refine TO.callT (first := []) (cap := []) (vs := [iv (a21), iv (0), iv ((leaves - 1))]) rfl rfl rfl rfl rfl rfl (orcN rfl) (tf_r4_in (by first | decide | omega) hr25) ?_
        rintro _
        refine TO.things (hs' := .row b2 1 [v_x_Could] :: C) rfl ?_
        refine TO.val rfl rfl rfl (Val.not rfl) ?_
        refine TO.nil ?_
        cases y25 with
        | true =>
          rw [if_pos rfl] at h
          refine T.condF (fun a ha => ha.ev (.tmp 26) _ rfl) ?_
          refine T.skip ?_
          refine T.text rfl ?_
          refine TO.val rfl rfl rfl (Val.move rfl) ?_
          obtain ⟨hk17, h⟩ := chk_some h
          refine TO.val rfl rfl rfl (Val.add rfl rfl hk17) ?_
          refine TO.val rfl rfl rfl (Val.assign rfl) ?_
          refine TO.nil ?_
          cases h
          exact ⟨rfl, (), ⟨rfl, (keep_cons rfl (keep_cons rfl (keep_cons rfl keep_nil))), (.pick (p := 0) rfl .refl)⟩⟩
        | false =>
          rw [if_neg Bool.false_ne_true] at h
          refine T.condT (fun a ha => ha.ev (.tmp 26) _ rfl) ?_
          refine T.seq ?_
          refine T.text rfl ?_
          refine TO.val rfl rfl rfl (Val.assign rfl) ?_
          refine TO.nil ?_
          refine T.ret ?_
          cases h
          exact ⟨ret_ne, ⟨ret_ne, ⟨rfl, _, rfl, ⟨(), rfl, (.drop .refl)⟩⟩⟩⟩
      | false =>
        replace hc15 := of_decide_eq_false hc15.symm
        rw [if_neg hc15] at h
        refine T.condF (fun a ha => ha.ev (.tmp 15) _ rfl) ?_
        refine T.exit ?_
        cases h
        exact ⟨ex_ne, ⟨rfl, (), ⟨rfl, (keep_cons rfl keep_nil), (.pick (p := 0) rfl .refl)⟩⟩⟩
    · rintro _ _ h
      skip
      refine T.at (s' := ⟨[], [(2, .ptr b2 0 1)], .row b2 1 [v_x_Could] :: C⟩) rfl ?_
      show T _ _ _ _ _ _
      apply T.join (r := r) (W := Unit) (fun (j : Unit) (w : Unit) => ⟨[], [], .row b2 1 [v_x_Could] :: C⟩) h
      · intro j h
        refine T.seq ?_
        refine T.text rfl ?_
        refine TO.val rfl rfl rfl (Val.assign rfl) ?_
        refine TO.nil ?_
        refine T.block ?_
        show T _ _ _ _ _ _
        apply T.iter (r := j) (W := Unit) (fun (j : Int) (w : Unit) => ⟨[], [(2, .ptr b2 0 1), (6, iv (j))], .row b2 1 [v_x_Could] :: C⟩) (w0 := ()) h
        · exact ⟨rfl, (keep_cons rfl (keep_cons rfl keep_nil)), (.pick (p := 0) rfl .refl)⟩
        rintro i _ a h
        unfold P_r4_item_L2 at h
        refine T.at (s' := ⟨[], [(2, .ptr b2 0 1), (6, iv (i))], .row b2 1 [v_x_Could] :: C⟩) rfl ?_
        refine T.seq ?_
        refine T.seq ?_
        refine T.text rfl ?_
        refine TO.val rfl rfl rfl (Val.move rfl) ?_
        refine TO.val rfl rfl rfl (Val.faddr_ptr (fo := 0) rfl rfl rfl) ?_
        refine TO.val rfl rfl rfl (Val.load_row (p := 0) rfl ⟨_, rfl, rfl⟩ rfl rfl rfl) ?_
        refine TO.val rfl rfl rfl (Val.len_l h_x_Could (memS (mem0)) rfl rfl) ?_
        obtain ⟨c31, hc31⟩ : ∃ c : Bool, c = decide (i < (x_Could.length : Int)) := ⟨_, rfl⟩
        refine TO.val rfl rfl rfl (Val.lss hc31 rfl rfl) ?_
        refine TO.nil ?_
        cases c31 with
        | true =>
          replace hc31 := of_decide_eq_true hc31.symm
          rw [if_pos hc31] at h
          refine T.condT (fun a ha => ha.ev (.tmp 31) _ rfl) ?_
          refine T.skip ?_
          refine T.seq ?_
          refine T.block ?_
          refine T.seq ?_
          refine T.draw (fun v => sameC_refl v) (l1 := [0, 1, 2, 3, 4, 5, 6, 7, 8, 9, 10, 11]) (l2 := []) (by kernel_rfl) (by kernel_rfl) ?_
          refine TO.val rfl rfl rfl (Val.faddr_ptr (fo := 0) rfl rfl rfl) ?_
          refine TO.val rfl rfl rfl (Val.load_row (p := 0) rfl ⟨_, rfl, rfl⟩ rfl rfl rfl) ?_
          refine TO.val rfl rfl rfl (Val.move rfl) ?_
          obtain ⟨a37, hia37, ea37, h⟩ := el_some h
          refine TO.fact (rdl_at h_x_Could (memS (mem0)) hia37 ea37) (fun hp => ?_)
          obtain ⟨pa37, hpa37, hva37⟩ := hp
          refine TO.val rfl rfl rfl (hva37 ⟨rfl, rfl⟩ rfl rfl) ?_
          refine TO.val rfl rfl rfl (Val.load_e hpa37 (memS (mem0)) ⟨_, rfl, rfl⟩ rfl rfl) ?_
          refine TO.val rfl rfl rfl (Val.faddr_ptr (fo := 0) rfl rfl rfl) ?_
          refine TO.val rfl rfl rfl (Val.load_row (p := 0) rfl ⟨_, rfl, rfl⟩ rfl rfl rfl) ?_
          refine TO.val rfl rfl rfl (Val.move rfl) ?_
          obtain ⟨hk42, h⟩ := chk_some h
          refine TO.val rfl rfl rfl (Val.sub rfl rfl hk42) ?_
          obtain ⟨a43, hia43, ea43, h⟩ := el_some h
          refine TO.fact (rdl_at h_x_Could (memS (mem0)) hia43 ea43) (fun hp => ?_)
          obtain ⟨pa43, hpa43, hva43⟩ := hp
          refine TO.val rfl rfl rfl (hva43 ⟨rfl, rfl⟩ rfl rfl) ?_
          refine TO.val rfl rfl rfl (Val.load_e hpa43 (memS (mem0)) ⟨_, rfl, rfl⟩ rfl rfl) ?_
          obtain ⟨c45, hc45⟩ : ∃ c : Bool, c = decide (a37 ≤ a43) := ⟨_, rfl⟩
          refine TO.val rfl rfl rfl (Val.leq hc45 rfl rfl) ?_
          refine TO.nil ?_
          cases c45 with
          | true =>
            replace hc45 := of_decide_eq_true hc45.symm
            rw [if_pos hc45] at h
            refine T.condT (fun a ha => ha.ev (.tmp 45) _ rfl) ?_
            refine T.seq ?_
            refine T.text rfl ?_
            refine TO.val rfl rfl rfl (Val.assign rfl) ?_
            refine TO.nil ?_
            refine T.ret ?_
            cases h
            exact ⟨ret_ne, ⟨ret_ne, ⟨rfl, _, rfl, ⟨(), rfl, (.drop .refl)⟩⟩⟩⟩
          | false =>
            replace hc45 := of_decide_eq_false hc45.symm
            rw [if_neg hc45] at h
            refine T.condF (fun a ha => ha.ev (.tmp 45) _ rfl) ?_
            refine T.skip ?_
            refine T.text rfl ?_
            refine TO.val rfl rfl rfl (Val.move rfl) ?_
            obtain ⟨hk33, h⟩ := chk_some h
            refine TO.val rfl rfl rfl (Val.add rfl rfl hk33) ?_
            refine TO.val rfl rfl rfl (Val.assign rfl) ?_
            refine TO.nil ?_
            cases h
            exact ⟨rfl, (), ⟨rfl, (keep_cons rfl (keep_cons rfl keep_nil)), (.pick (p := 0) rfl .refl)⟩⟩
        | false =>
          replace hc31 := of_decide_eq_false hc31.symm
          rw [if_neg hc31] at h
          refine T.condF (fun a ha => ha.ev (.tmp 31) _ rfl) ?_
          refine T.exit ?_
          cases h
          exact ⟨ex_ne, ⟨rfl, (), ⟨rfl, keep_nil, (.pick (p := 0) rfl .refl)⟩⟩⟩
      · rintro _ _ h
        skip
        refine T.at (s' := ⟨[], [], .row b2 1 [v_x_Could] :: C⟩) rfl ?_
        refine T.seq ?_
        refine T.text rfl ?_
        refine TO.val rfl rfl rfl (Val.assign rfl) ?_
        refine TO.nil ?_
        refine T.ret ?_
        cases h
        exact ⟨rfl, _, rfl, ⟨(), rfl, (.drop .refl)⟩⟩
set_option maxRecDepth 10000 in
theorem tf_r4_Mates {k : Nat} (hk : 3 ≤ k) {C : List Thing} {b_Signed : Int} {v_b_Gatherings : AV} {b_Gatherings : List Gat} (h_b_Gatherings : Rdl C encG v_b_Gatherings b_Gatherings) {r : (List Int)} (h : P_r4_Mates b_Signed b_Gatherings = some r) :
    TF (EL k) 43 [.agg [iv (b_Signed), v_b_Gatherings]] C (RepF (fun (w : AV) => w) (fun (w : AV) => ownL true w encI r :: C)) := by
  unfold P_r4_Mates at h
  refine TF.enter (fn := Go.Proofs.Try.f43) rfl rfl rfl rfl rfl ?_
  refine T.seq ?_
  refine T.text rfl ?_
  refine TO.box (k := 2) (cells := [_, _]) rfl rfl rfl rfl rfl rfl rfl (fun b1 => ?_)
  refine TO.val rfl rfl rfl (Val.assign rfl) ?_
  refine TO.nil ?_
  refine T.seq ?_
  refine T.text rfl ?_
  refine TO.val rfl rfl rfl (Val.assign rfl) ?_
  refine TO.nil ?_
  refine T.seq ?_
  refine T.text rfl ?_
  refine TO.val rfl rfl rfl (Val.load_rows (p := 0) (c := [_, _]) rfl ⟨⟨_, rfl, rfl⟩, rfl, by decide⟩ rfl rfl rfl rfl) ?_
  obtain ⟨all7, hr7, h⟩ := andx_some h
  obtain ⟨g, hgg, hrg⟩ := Rdl.reif (hs := .row b1 2 [iv (b_Signed), v_b_Gatherings] :: C) h_b_Gatherings (memS (mem0)) (ReifL.flat encG_tr)
  refine TO.call rfl rfl rfl rfl rfl (orcL rfl (by first | decide | omega)) (.cons (.agg (.cons .lit (.cons (hrg _) .nil))) .nil) (sem_of (w_r1_All b_Signed g _ (by try rw [hgg]; exact hr7))) ?_
  refine TO.val rfl rfl rfl (Val.len_gs rfl rfl) ?_
  refine TO.val rfl rfl rfl (Val.assign rfl) ?_
  refine TO.nil ?_
  show T _ _ _ _ _ _
  apply T.joinA (r := r) (W := AV) (fun (j : (List Int)) (w : AV) => ⟨[], [(3, w)], ownL true w encI j :: .row b1 2 [iv (b_Signed), v_b_Gatherings] :: C⟩) h
  · intro j h
    refine T.seq ?_
    refine T.text rfl ?_
    refine TO.val rfl rfl rfl (Val.assign rfl) ?_
    refine TO.nil ?_
    refine T.block ?_
    refine T.nilown (u := encI.u) ?_
    show T _ _ _ _ _ _
    apply T.iter (r := j) (W := AV) (fun (j : Int × (List Int)) (w : AV) => ⟨[], [(1, .ptr b1 0 2), (3, w), (4, iv ((all7.length : Int))), (5, iv (j.1))], ownL true w encI j.2 :: .row b1 2 [iv (b_Signed), v_b_Gatherings] :: C⟩) (w0 := nilS) h
    · exact ⟨rfl, (keep_cons rfl (keep_cons rfl (keep_cons rfl (keep_cons rfl keep_nil)))), (.pick (p := 0) rfl (.pick (p := 0) rfl .refl))⟩
    rintro ⟨i, out⟩ v2 a h
    unfold P_r4_Mates_L1 at h
    dsimp only at h
    refine T.at (s' := ⟨[], [(1, .ptr b1 0 2), (3, v2), (4, iv ((all7.length : Int))), (5, iv (i))], ownL true v2 encI out :: .row b1 2 [iv (b_Signed), v_b_Gatherings] :: C⟩) rfl ?_
    refine T.seq ?_
    refine T.seq ?_
    refine T.text rfl ?_
    refine TO.val rfl rfl rfl (Val.move rfl) ?_
    refine TO.val rfl rfl rfl (Val.move rfl) ?_
    obtain ⟨c11, hc11⟩ : ∃ c : Bool, c = decide (i < (all7.length : Int)) := ⟨_, rfl⟩
    refine TO.val rfl rfl rfl (Val.lss hc11 rfl rfl) ?_
    refine TO.nil ?_
    cases c11 with
    | true =>
      replace hc11 := of_decide_eq_true hc11.symm
      rw [if_pos hc11] at h
      refine T.condT (fun a ha => ha.ev (.tmp 11) _ rfl) ?_
      refine T.skip ?_
      refine T.seq ?_
      refine T.block ?_
      refine T.text rfl ?_
      refine TO.val rfl rfl rfl (Val.move rfl) ?_
      refine TO.val rfl rfl rfl (Val.load_rows (p := 1) (c := [_, _]) rfl ⟨⟨_, rfl, rfl⟩, rfl, by decide⟩ rfl rfl rfl rfl) ?_
      refine TO.val rfl rfl rfl (Val.move rfl) ?_
      obtain ⟨mate17, hr17, h⟩ := andx_some h
      obtain ⟨g_2, hgg_2, hrg_2⟩ := Rdl.reif (hs := ownL true v2 encI out :: .row b1 2 [iv (b_Signed), v_b_Gatherings] :: C) h_b_Gatherings (memS (memS (mem0))) (ReifL.flat encG_tr)
      refine TO.call rfl rfl rfl rfl rfl (orcL rfl (by first | decide | omega)) (.cons (.agg (.cons .lit (.cons (hrg_2 _) .nil))) (.cons .lit .nil)) (sem_of (w_r1_Pair b_Signed g_2 i _ (by try rw [hgg_2]; exact hr17))) ?_
      refine TO.build1 (en := encI) (a := mate17) rfl rfl rfl ⟨rfl, rfl⟩ ⟨_, rfl, rfl⟩ (by decide) (by decide) rfl rfl (fun v18 => ?_)
      obtain ⟨hk19, h⟩ := chk_some h
      refine TO.eff rfl rfl rfl (Eff.append_own (b := 8) (en := encI) (l := out) (l2 := [mate17]) (p := 1) (q := 0) ⟨rfl, rfl, rfl, ⟨_, rfl, rfl⟩, by decide, by decide⟩ rfl rfl rfl rfl rfl rfl (flat_ones _) (by decide) hk19) ?_
      rintro v19 _ rfl
      refine TO.things (hs' := ownL false v18 encI [mate17] :: ownL true v19 encI (out ++ [mate17]) :: .row b1 2 [iv (b_Signed), v_b_Gatherings] :: C) rfl ?_
      refine TO.val rfl rfl rfl (Val.assign rfl) ?_
      refine TO.nil ?_
      refine T.text rfl ?_
      refine TO.val rfl rfl rfl (Val.move rfl) ?_
      obtain ⟨hk13, h⟩ := chk_some h
      refine TO.val rfl rfl rfl (Val.add rfl rfl hk13) ?_
      refine TO.val rfl rfl rfl (Val.assign rfl) ?_
      refine TO.nil ?_
      cases h
      exact ⟨rfl, v19, ⟨rfl, (keep_cons rfl (keep_cons rfl (keep_cons rfl (keep_cons rfl keep_nil)))), (.pick (p := 1) rfl (.pick (p := 1) rfl (.drop .refl)))⟩⟩
    | false =>
      replace hc11 := of_decide_eq_false hc11.symm
      rw [if_neg hc11] at h
      refine T.condF (fun a ha => ha.ev (.tmp 11) _ rfl) ?_
      refine T.exit ?_
      cases h
      exact ⟨ex_ne, ⟨rfl, v2, ⟨rfl, (keep_cons rfl keep_nil), (.pick (p := 0) rfl (.pick (p := 0) rfl .refl))⟩⟩⟩
  · rintro out v2 h
    skip
    refine T.at (s' := ⟨[], [(3, v2)], ownL true v2 encI out :: .row b1 2 [iv (b_Signed), v_b_Gatherings] :: C⟩) rfl ?_
    refine T.seq ?_
    refine T.text rfl ?_
    refine TO.val rfl rfl rfl (Val.move rfl) ?_
    refine TO.val rfl rfl rfl (Val.assign rfl) ?_
    refine TO.nil ?_
    refine T.ret ?_
    cases h
    exact ⟨rfl, _, rfl, ⟨v2, rfl, (.pick (p := 0) rfl (.drop .refl))⟩⟩
set_option maxRecDepth 10000 in
theorem tf_c_there {k : Nat} (hk : 0 ≤ k) {C : List Thing} {id_x : Nat} {x_CpCase_Book_Signed : Int} {v_x_CpCase_Book_Gatherings : AV} {x_CpCase_Book_Gatherings : List Gat} {v_x_CpCase_Items : AV} {x_CpCase_Items : List Item} {v_x_leaves : AV} {x_leaves : List Leaf} {v_x_mates : AV} {x_mates : List Int} {v_t : AV} {t : List Int} (h_x_CpCase_Book_Gatherings : Rdl C encG v_x_CpCase_Book_Gatherings x_CpCase_Book_Gatherings) (h_x_CpCase_Items : Rdl C encIt v_x_CpCase_Items x_CpCase_Items) (h_x_leaves : Rdl C encL v_x_leaves x_leaves) (h_x_mates : Rdl C encI v_x_mates x_mates) (h_x : Thing.row id_x 5 [iv (x_CpCase_Book_Signed), v_x_CpCase_Book_Gatherings, v_x_CpCase_Items, v_x_leaves, v_x_mates] ∈ C) (h_t : Rdl C encI v_t t) {r : (Int → Int)} (h : P_c_there x_CpCase_Book_Signed x_CpCase_Book_Gatherings x_CpCase_Items x_leaves x_mates t = some r) :
    TF (EL k) 40 [.ptr id_x 0 5, v_t] C (RepF (fun (w : Nat) => .map w) (fun (w : Nat) => .cnt w KInt (cntI r) [] :: C)) := by
  unfold P_c_there at h
  refine TF.enter (fn := Go.Proofs.Try.f40) rfl rfl rfl rfl rfl ?_
  refine T.seq ?_
  refine T.text rfl ?_
  refine TO.val rfl rfl rfl (Val.assign rfl) ?_
  refine TO.nil ?_
  refine T.seq ?_
  refine T.text rfl ?_
  refine TO.makeMapI rfl rfl rfl (fun m8 => ?_)
  refine TO.val rfl rfl rfl (Val.assign rfl) ?_
  refine TO.nil ?_
  show T _ _ _ _ _ _
  apply T.joinA (r := r) (W := Unit) (fun (j : (Int → Int)) (w : Unit) => ⟨[], [(5, .map m8)], .cnt m8 KInt (cntI j) [] :: C⟩) h
  · intro j h
    refine T.seq ?_
    refine T.text rfl ?_
    refine TO.val rfl rfl rfl (Val.move rfl) ?_
    refine TO.val rfl rfl rfl (Val.len_l h_t (memS (mem0)) rfl rfl) ?_
    refine TO.val rfl rfl rfl (Val.move rfl) ?_
    refine TO.nil ?_
    refine T.block ?_
    show T _ _ _ _ _ _
    apply T.iter (r := j) (W := Unit) (fun (j : Int × (Int → Int)) (w : Unit) => ⟨[], [(5, .map m8), (9, v_t), (10, iv ((t.length : Int))), (11, iv (j.1))], .cnt m8 KInt (cntI j.2) [] :: C⟩) (w0 := ()) h
    · exact ⟨rfl, (keep_cons rfl (keep_cons rfl (keep_cons rfl (keep_cons rfl keep_nil)))), (.pick (p := 0) rfl .refl)⟩
    rintro ⟨x11, m⟩ _ a h
    unfold P_c_there_L1 at h
    dsimp only at h
    refine T.at (s' := ⟨[], [(5, .map m8), (9, v_t), (10, iv ((t.length : Int))), (11, iv (x11))], .cnt m8 KInt (cntI m) [] :: C⟩) rfl ?_
    refine T.seq ?_
    refine T.text rfl ?_
    obtain ⟨c12, hc12⟩ : ∃ c : Bool, c = decide (x11 < (t.length : Int)) := ⟨_, rfl⟩
    refine TO.val rfl rfl rfl (Val.lss hc12 rfl rfl) ?_
    refine TO.nil ?_
    refine T.seq ?_
    cases c12 with
    | true =>
      replace hc12 := of_decide_eq_true hc12.symm
      rw [if_pos hc12] at h
      refine T.condT (fun a ha => ha.ev (.tmp 12) _ rfl) ?_
      refine T.skip ?_
      refine T.seq ?_
      refine T.block ?_
      refine T.seq ?_
      refine T.text rfl ?_
      obtain ⟨a13, hia13, ea13, h⟩ := el_some h
      refine TO.fact (rdl_at h_t (memS (mem0)) hia13 ea13) (fun hp => ?_)
      obtain ⟨pa13, hpa13, hva13⟩ := hp
      refine TO.val rfl rfl rfl (hva13 ⟨rfl, rfl⟩ rfl rfl) ?_
      refine TO.val rfl rfl rfl (Val.load_e hpa13 (memS (mem0)) ⟨_, rfl, rfl⟩ rfl rfl) ?_
      refine TO.val rfl rfl rfl (Val.assign rfl) ?_
      refine TO.nil ?_
      refine T.text rfl ?_
      refine TO.val rfl rfl rfl (Val.move rfl) ?_
      refine TO.val rfl rfl rfl (Val.move rfl) ?_
      refine TO.val rfl rfl rfl (Val.lookupI (p := 0) rfl rfl key_ty3 rfl rfl rfl) ?_
      obtain ⟨hk18, h⟩ := chk_some h
      refine TO.val rfl rfl rfl (Val.add rfl rfl hk18) ?_
      refine TO.eff0 rfl rfl (Eff.mapUpdateI (p := 0) rfl rfl key_ty3 rfl rfl rfl) ?_
      rintro _ rfl
      refine TO.things (hs' := .cnt m8 KInt (cntI (putI m a13 ((m a13) + 1))) [] :: C) rfl ?_
      refine TO.nil ?_
      refine T.text rfl ?_
      obtain ⟨hk19, h⟩ := chk_some h
      refine TO.val rfl rfl rfl (Val.add rfl rfl hk19) ?_
      refine TO.val rfl rfl rfl (Val.move rfl) ?_
      refine TO.nil ?_
      cases h
      exact ⟨rfl, (), ⟨rfl, (keep_cons rfl (keep_cons rfl (keep_cons rfl (keep_cons rfl keep_nil)))), (.pick (p := 0) rfl .refl)⟩⟩
    | false =>
      replace hc12 := of_decide_eq_false hc12.symm
      rw [if_neg hc12] at h
      refine T.condF (fun a ha => ha.ev (.tmp 12) _ rfl) ?_
      refine T.exit ?_
      cases h
      exact ⟨ex_ne, ⟨rfl, (), ⟨rfl, (keep_cons rfl keep_nil), (.pick (p := 0) rfl .refl)⟩⟩⟩
  · rintro m _ h
    skip
    refine T.at (s' := ⟨[], [(5, .map m8)], .cnt m8 KInt (cntI m) [] :: C⟩) rfl ?_
    refine T.seq ?_
    refine T.text rfl ?_
    refine TO.val rfl rfl rfl (Val.move rfl) ?_
    refine TO.val rfl rfl rfl (Val.assign rfl) ?_
    refine TO.nil ?_
    refine T.ret ?_
    cases h
    exact ⟨rfl, _, rfl, ⟨m8, rfl, (.pick (p := 0) rfl .refl)⟩⟩
end Go.Am.Ythckcbfijdambaa
end
section
namespace Go.Am
set_option linter.unusedVariables false
noncomputable def P_c_open_L2 (x44 : Int) (a47 : Item) : Int → Option (Stp Int (Ex Unit (Stp Int (Ex Unit (Sum (Int × Int × Int) (Int × (GS encL) × (List Int) × Int × Int × Int)))))) := fun x66 =>
  if x66 < (a47.could.l.length : Int) then
    seqx (
      el a47.could.l x66 fun a69 =>
      andx (
        if x66 > 0 then
          chk (I64 (x66 - 1)) (
            el a47.could.l (x66 - 1) fun a79 =>
            some (decide (a69 ≤ a79)))
        else
          some false) fun x82 =>
        if x82 = true then
          some (Ex.rt (Stp.dn (Ex.rt (Stp.dn (Ex.rt (Sum.inl (2, x44, 2)))))))
        else
          some (Ex.nx ())) fun _ =>
      chk (I64 (x66 + 1)) (
        some (Stp.ag (x66 + 1)))
  else
    some (Stp.dn (Ex.nx ()))
noncomputable def P_c_open_L1 (c_Items : List Item) (leaves31 : List Leaf) : Int → Option (Stp Int (Ex Unit (Sum (Int × Int × Int) (Int × (GS encL) × (List Int) × Int × Int × Int)))) := fun x44 =>
  if x44 < (c_Items.length : Int) then
    seqx (
      el c_Items x44 fun a47 =>
      if (a47.could.l.length : Int) > 4 then
        some (Ex.rt (Stp.dn (Ex.rt (Sum.inl (2, x44, 3)))))
      else
        chk (I64 ((leaves31.length : Int) - 1)) (
          andx (P_c_outside 0 ((leaves31.length : Int) - 1) a47.could.l) fun out61 =>
            if out61 = true then
              some (Ex.rt (Stp.dn (Ex.rt (Sum.inl (2, x44, 4)))))
            else
              iter (P_c_open_L2 x44 a47) 0)) fun _ =>
      chk (I64 (x44 + 1)) (
        some (Stp.ag (x44 + 1)))
  else
    some (Stp.dn (Ex.nx ()))
noncomputable def P_c_open_L3 (c_Items : List Item) : (Int × Int) → Option (Stp (Int × Int) (Ex Unit (Sum (Int × Int × Int) (Int × (GS encL) × (List Int) × Int × Int × Int)))) := fun (doubts, x89) =>
  if x89 < (c_Items.length : Int) then
    seqx (
      el c_Items x89 fun a92 =>
      andx (
        if (a92.could.l.length : Int) > 1 then
          chk (I64 (doubts + 1)) (
            some (doubts + 1))
        else
          some doubts) fun doubts_2 =>
        if doubts_2 > 3 then
          some (Ex.rt (Stp.dn (Ex.rt (Sum.inl (3, x89, 3)))))
        else
          some (Ex.nx doubts_2)) fun doubts_2 =>
      chk (I64 (x89 + 1)) (
        some (Stp.ag (doubts_2, (x89 + 1))))
  else
    some (Stp.dn (Ex.nx ()))
noncomputable def P_c_open_L4 (c_Book_Signed : Int) (c_Book_Gatherings : List Gat) (leaves31 : List Leaf) : (Int × (List Int)) → Option (Stp (Int × (List Int)) (List Int)) := fun (x110, b107_mates) =>
  if x110 < (leaves31.length : Int) then
    andx (
      andx (P_q_Mate c_Book_Signed c_Book_Gatherings x110) fun (mate117, e117) =>
        andx (
          if ¬ e117 = 0 then
            some (-1)
          else
            some mate117) fun m =>
          chk (b107_mates.length + [m].length < 1000000000) (
            some (b107_mates ++ [m]))) fun b107_mates_2 =>
      chk (I64 (x110 + 1)) (
        some (Stp.ag ((x110 + 1), b107_mates_2)))
  else
    some (Stp.dn b107_mates)
noncomputable def P_c_open (c_Book_Signed : Int) (c_Book_Gatherings : List Gat) (c_Items : List Item) : Option (Sum (Int × Int × Int) (Int × (GS encL) × (List Int) × Int × Int × Int)) :=
  andx (P_q_Check c_Book_Signed c_Book_Gatherings) fun (part21, at_21, e21) =>
    if ¬ e21 = 0 then
      some (Sum.inl (1, 0, e21))
    else
      andx (P_q_Leaves c_Book_Signed c_Book_Gatherings) fun (leaves31, e31) =>
        if (leaves31.length : Int) > 120 then
          some (Sum.inl (1, 0, 3))
        else
          if (c_Items.length : Int) > 120 then
            some (Sum.inl (2, 0, 3))
          else
            seqx (
              iter (P_c_open_L1 c_Items leaves31) 0) fun _ =>
              seqx (
                iter (P_c_open_L3 c_Items) (0, 0)) fun _ =>
                andx (
                  iter (P_c_open_L4 c_Book_Signed c_Book_Gatherings leaves31) (0, [])) fun b107_mates =>
                  some (Sum.inr (c_Book_Signed, (GSo true encL leaves31), b107_mates, 0, 0, 0))
end Go.Am
end
section
namespace Go.Am.Ythckcbfijdambaa
open Go.Am Go.RowKit
set_option linter.unusedVariables false
set_option linter.unusedSimpArgs false
set_option maxRecDepth 10000 in
theorem tf_c_open {k : Nat} (hk : 5 ≤ k) {C : List Thing} {c_Book_Signed : Int} {v_c_Book_Gatherings : AV} {c_Book_Gatherings : List Gat} {v_c_Items : AV} {c_Items : List Item} (h_c_Book_Gatherings : Rdl C encG v_c_Book_Gatherings c_Book_Gatherings) (h_c_Items : Rdl C encIt v_c_Items c_Items) {r : Sum (Int × Int × Int) (Int × (GS encL) × (List Int) × Int × Int × Int)} (h : P_c_open c_Book_Signed c_Book_Gatherings c_Items = some r) :
    TF (EL k) 36 [.agg [iv (c_Book_Signed), v_c_Book_Gatherings, v_c_Items]] C (RepS (fun (r : Int × Int × Int) => RepF (fun (w : Unit) => .tuple [.lit (.pointer none), iv r.1, iv r.2.1, iv r.2.2]) (fun (w : Unit) => C)) (fun (r : Int × (GS encL) × (List Int) × Int × Int × Int) => RepF (fun (w : Nat × AV) => .tuple [.ptr w.1 0 5, iv r.2.2.2.1, iv r.2.2.2.2.1, iv r.2.2.2.2.2]) (fun (w : Nat × AV) => .row w.1 5 [iv r.1, v_c_Book_Gatherings, v_c_Items, r.2.1.v, w.2] :: ownL true w.2 encI r.2.2.1 :: C)) r) := by
  unfold P_c_open at h
  refine TF.enter (fn := Go.Proofs.Try.f36) rfl rfl rfl rfl rfl ?_
  refine T.seq ?_
  refine T.text rfl ?_
  refine TO.box (k := 3) (cells := [_, _, _]) rfl rfl rfl rfl rfl rfl rfl (fun b1 => ?_)
  refine TO.val rfl rfl rfl (Val.assign rfl) ?_
  refine TO.val rfl rfl rfl (Val.assign rfl) ?_
  refine TO.val rfl rfl rfl (Val.assign rfl) ?_
  refine TO.val rfl rfl rfl (Val.assign rfl) ?_
  refine TO.nil ?_
  refine T.seq ?_
  refine T.seq ?_
  refine T.text rfl ?_
  refine TO.val rfl rfl rfl (Val.faddr_ptr (fo := 0) rfl rfl rfl) ?_
  refine TO.val rfl rfl rfl (Val.load_rows (p := 0) (c := [_, _]) rfl ⟨⟨_, rfl, rfl⟩, rfl, by decide⟩ rfl rfl rfl rfl) ?_
  obtain ⟨⟨part21, at_21, e21⟩, hr21, h⟩ := andx_some h
  dsimp only at h
  obtain ⟨g, hgg, hrg⟩ := Rdl.reif (hs := .row b1 3 [iv (c_Book_Signed), v_c_Book_Gatherings, v_c_Items] :: C) h_c_Book_Gatherings (memS (mem0)) (ReifL.flat encG_tr)
  refine TO.call rfl rfl rfl rfl rfl (orcL rfl (by first | decide | omega)) (.cons (.agg (.cons .lit (.cons (hrg _) .nil))) .nil) (sem_of (w_q_Check c_Book_Signed g _ (by try rw [hgg]; exact hr21))) ?_
  refine TO.val rfl rfl rfl (Val.move rfl) ?_
  refine TO.val rfl rfl rfl (Val.extract rfl rfl) ?_
  refine TO.val rfl rfl rfl (Val.extract rfl rfl) ?_
  refine TO.val rfl rfl rfl (Val.extract rfl rfl) ?_
  refine TO.val rfl rfl rfl (Val.assign rfl) ?_
  refine TO.nil ?_
  refine T.seq ?_
  refine T.text rfl ?_
  refine TO.val rfl rfl rfl (Val.move rfl) ?_
  obtain ⟨c26, hc26⟩ : ∃ c : Bool, c = decide (¬ e21 = 0) := ⟨_, rfl⟩
  refine TO.val rfl rfl rfl (Val.neq hc26 rfl rfl) ?_
  refine TO.nil ?_
  cases c26 with
  | true =>
    replace hc26 := of_decide_eq_true hc26.symm
    rw [if_pos hc26] at h
    refine T.condT (fun a ha => ha.ev (.tmp 26) _ rfl) ?_
    refine T.seq ?_
    refine T.text rfl ?_
    refine TO.val rfl rfl rfl (Val.move rfl) ?_
    refine TO.val rfl rfl rfl (Val.assign rfl) ?_
    refine TO.val rfl rfl rfl (Val.assign rfl) ?_
    refine TO.val rfl rfl rfl (Val.assign rfl) ?_
    refine TO.val rfl rfl rfl (Val.assign rfl) ?_
    refine TO.nil ?_
    refine T.ret ?_
    cases h
    exact ⟨rfl, _, rfl, ⟨(), rfl, (.drop .refl)⟩⟩
  | false =>
    replace hc26 := of_decide_eq_false hc26.symm
    rw [if_neg hc26] at h
    refine T.condF (fun a ha => ha.ev (.tmp 26) _ rfl) ?_
    refine T.skip ?_
    refine T.seq ?_
    refine T.text rfl ?_
    refine TO.val rfl rfl rfl (Val.faddr_ptr (fo := 0) rfl rfl rfl) ?_
    refine TO.val rfl rfl rfl (Val.load_rows (p := 0) (c := [_, _]) rfl ⟨⟨_, rfl, rfl⟩, rfl, by decide⟩ rfl rfl rfl rfl) ?_
    obtain ⟨⟨leaves31, e31⟩, hr31, h⟩ := andx_some h
    dsimp only at h
    obtain ⟨g_2, hgg_2, hrg_2⟩ := Rdl.reif (hs := .row b1 3 [iv (c_Book_Signed), v_c_Book_Gatherings, v_c_Items] :: C) h_c_Book_Gatherings (memS (mem0)) (ReifL.flat encG_tr)
    refine TO.call rfl rfl rfl rfl rfl (orcL rfl (by first | decide | omega)) (.cons (.agg (.cons .lit (.cons (hrg_2 _) .nil))) .nil) (sem_of (w_q_Leaves c_Book_Signed g_2 _ (by try rw [hgg_2]; exact hr31))) ?_
    refine TO.val rfl rfl rfl (Val.move rfl) ?_
    refine TO.val rfl rfl rfl (Val.extract rfl rfl) ?_
    refine TO.val rfl rfl rfl (Val.extract rfl rfl) ?_
    refine TO.val rfl rfl rfl (Val.assign rfl) ?_
    refine TO.val rfl rfl rfl (Val.assign rfl) ?_
    refine TO.nil ?_
    refine T.seq ?_
    refine T.seq ?_
    refine T.text rfl ?_
    refine TO.val rfl rfl rfl (Val.move rfl) ?_
    refine TO.val rfl rfl rfl (Val.len_gs rfl rfl) ?_
    obtain ⟨c36, hc36⟩ : ∃ c : Bool, c = decide ((leaves31.length : Int) > 120) := ⟨_, rfl⟩
    refine TO.val rfl rfl rfl (Val.gtr hc36 rfl rfl) ?_
    refine TO.nil ?_
    cases c36 with
    | true =>
      replace hc36 := of_decide_eq_true hc36.symm
      rw [if_pos hc36] at h
      refine T.condT (fun a ha => ha.ev (.tmp 36) _ rfl) ?_
      refine T.seq ?_
      refine T.text rfl ?_
      refine TO.val rfl rfl rfl (Val.assign rfl) ?_
      refine TO.val rfl rfl rfl (Val.assign rfl) ?_
      refine TO.val rfl rfl rfl (Val.assign rfl) ?_
      refine TO.val rfl rfl rfl (Val.assign rfl) ?_
      refine TO.nil ?_
      refine T.ret ?_
      cases h
      exact ⟨rfl, _, rfl, ⟨(), rfl, (.drop .refl)⟩⟩
    | false =>
      replace hc36 := of_decide_eq_false hc36.symm
      rw [if_neg hc36] at h
      refine T.condF (fun a ha => ha.ev (.tmp 36) _ rfl) ?_
      refine T.skip ?_
      refine T.seq ?_
      refine T.seq ?_
      refine T.text rfl ?_
      refine TO.val rfl rfl rfl (Val.faddr_ptr (fo := 2) rfl rfl rfl) ?_
      refine TO.val rfl rfl rfl (Val.load_row (p := 0) rfl ⟨_, rfl, rfl⟩ rfl rfl rfl) ?_
      refine TO.val rfl rfl rfl (Val.len_l h_c_Items (memS (mem0)) rfl rfl) ?_
      obtain ⟨c40, hc40⟩ : ∃ c : Bool, c = decide ((c_Items.length : Int) > 120) := ⟨_, rfl⟩
      refine TO.val rfl rfl rfl (Val.gtr hc40 rfl rfl) ?_
      refine TO.nil ?_
      cases c40 with
      | true =>
        replace hc40 := of_decide_eq_true hc40.symm
        rw [if_pos hc40] at h
        refine T.condT (fun a ha => ha.ev (.tmp 40) _ rfl) ?_
        refine T.seq ?_
        refine T.text rfl ?_
        refine TO.val rfl rfl rfl (Val.assign rfl) ?_
        refine TO.val rfl rfl rfl (Val.assign rfl) ?_
        refine TO.val rfl rfl rfl (Val.assign rfl) ?_
        refine TO.val rfl rfl rfl (Val.assign rfl) ?_
        refine TO.nil ?_
        refine T.ret ?_
        cases h
        exact ⟨rfl, _, rfl, ⟨(), rfl, (.drop .refl)⟩⟩
      | false =>
        replace hc40 := of_decide_eq_false hc40.symm
        rw [if_neg hc40] at h
        refine T.condF (fun a ha => ha.ev (.tmp 40) _ rfl) ?_
        refine T.skip ?_
        show T _ _ _ _ _ _
        apply T.join (r := r) (W := Unit) (fun (j : Unit) (w : Unit) => ⟨[], [(1, .ptr b1 0 3), (6, (GSo true encL leaves31).v)], .row b1 3 [iv (c_Book_Signed), v_c_Book_Gatherings, v_c_Items] :: C⟩) h
        · intro j h
          refine T.seq ?_
          refine T.text rfl ?_
          refine TO.val rfl rfl rfl (Val.faddr_ptr (fo := 2) rfl rfl rfl) ?_
          refine TO.val rfl rfl rfl (Val.load_row (p := 0) rfl ⟨_, rfl, rfl⟩ rfl rfl rfl) ?_
          refine TO.val rfl rfl rfl (Val.len_l h_c_Items (memS (mem0)) rfl rfl) ?_
          refine TO.val rfl rfl rfl (Val.move rfl) ?_
          refine TO.nil ?_
          refine T.block ?_
          show T _ _ _ _ _ _
          apply T.iter (r := j) (W := Unit) (fun (j : Int) (w : Unit) => ⟨[], [(1, .ptr b1 0 3), (6, (GSo true encL leaves31).v), (42, v_c_Items), (43, iv ((c_Items.length : Int))), (44, iv (j))], .row b1 3 [iv (c_Book_Signed), v_c_Book_Gatherings, v_c_Items] :: C⟩) (w0 := ()) h
          · exact ⟨rfl, (keep_cons rfl (keep_cons rfl (keep_cons rfl (keep_cons rfl (keep_cons rfl keep_nil))))), (.pick (p := 0) rfl .refl)⟩
          rintro x44 _ a h
          unfold P_c_open_L1 at h
          refine T.at (s' := ⟨[], [(1, .ptr b1 0 3), (6, (GSo true encL leaves31).v), (42, v_c_Items), (43, iv ((c_Items.length : Int))), (44, iv (x44))], .row b1 3 [iv (c_Book_Signed), v_c_Book_Gatherings, v_c_Items] :: C⟩) rfl ?_
          refine T.seq ?_
          refine T.text rfl ?_
          obtain ⟨c45, hc45⟩ : ∃ c : Bool, c = decide (x44 < (c_Items.length : Int)) := ⟨_, rfl⟩
          refine TO.val rfl rfl rfl (Val.lss hc45 rfl rfl) ?_
          refine TO.nil ?_
          refine T.seq ?_
          cases c45 with
          | true =>
            replace hc45 := of_decide_eq_true hc45.symm
            rw [if_pos hc45] at h
            refine T.condT (fun a ha => ha.ev (.tmp 45) _ rfl) ?_
            refine T.skip ?_
            show T _ _ _ _ _ _
            apply T.join (r := a) (W := Unit) (fun (j : Unit) (w : Unit) => ⟨[], [(1, .ptr b1 0 3), (6, (GSo true encL leaves31).v), (42, v_c_Items), (43, iv ((c_Items.length : Int))), (44, iv (x44))], .row b1 3 [iv (c_Book_Signed), v_c_Book_Gatherings, v_c_Items] :: C⟩) h
            · intro j h
              refine T.block ?_
              refine T.seq ?_
              refine T.text rfl ?_
              refine TO.val rfl rfl rfl (Val.move rfl) ?_
              obtain ⟨a47, hia47, ea47, h⟩ := el_some h
              refine TO.fact (rdl_at h_c_Items (memS (mem0)) hia47 ea47) (fun hp => ?_)
              obtain ⟨pa47, hpa47, hva47⟩ := hp
              refine TO.val rfl rfl rfl (hva47 ⟨rfl, rfl⟩ rfl rfl) ?_
              refine TO.val rfl rfl rfl (Val.load_es (c := [_]) hpa47 (memS (mem0)) ⟨⟨_, rfl, rfl⟩, rfl, by decide⟩ rfl rfl rfl) ?_
              refine TO.alloc (k := 1) (cells := [_]) rfl rfl rfl rfl rfl rfl rfl (fun b9 => ?_)
              refine TO.val rfl rfl rfl (Val.assign rfl) ?_
              refine TO.eff0 rfl rfl (Eff.store_row (p := 0) (cv := [_]) (cells' := [_]) rfl rfl rfl rfl rfl rfl rfl rfl (by first | rfl | simp [GS.one]) (by decide) rfl) ?_
              rintro _ rfl
              refine TO.things (hs' := .row b9 1 [a47.could.v] :: .row b1 3 [iv (c_Book_Signed), v_c_Book_Gatherings, v_c_Items] :: C) rfl ?_
              refine TO.nil ?_
              refine T.seq ?_
              refine T.block ?_
              refine T.seq ?_
              refine T.text rfl ?_
              refine TO.val rfl rfl rfl (Val.faddr_ptr (fo := 0) rfl rfl rfl) ?_
              refine TO.val rfl rfl rfl (Val.load_row (p := 0) rfl ⟨_, rfl, rfl⟩ rfl rfl rfl) ?_
              refine TO.val rfl rfl rfl (Val.len_gs rfl rfl) ?_
              obtain ⟨c53, hc53⟩ : ∃ c : Bool, c = decide ((a47.could.l.length : Int) > 4) := ⟨_, rfl⟩
              refine TO.val rfl rfl rfl (Val.gtr hc53 rfl rfl) ?_
              refine TO.val rfl rfl rfl (Val.assign rfl) ?_
              refine TO.nil ?_
              cases c53 with
              | true =>
                replace hc53 := of_decide_eq_true hc53.symm
                rw [if_pos hc53] at h
                refine T.condT (fun a ha => ha.ev (.tmp 49) _ rfl) ?_
                refine T.seq ?_
                refine T.text rfl ?_
                refine TO.val rfl rfl rfl (Val.move rfl) ?_
                refine TO.val rfl rfl rfl (Val.assign rfl) ?_
                refine TO.val rfl rfl rfl (Val.assign rfl) ?_
                refine TO.val rfl rfl rfl (Val.assign rfl) ?_
                refine TO.val rfl rfl rfl (Val.assign rfl) ?_
                refine TO.nil ?_
                refine T.ret ?_
                cases h
                exact ⟨ret_ne, ⟨ret_ne, ⟨ret_ne, ⟨rfl, _, rfl, ⟨(), rfl, (.drop (.drop .refl))⟩⟩⟩⟩⟩
              | false =>
                replace hc53 := of_decide_eq_false hc53.symm
                rw [if_neg hc53] at h
                refine T.condF (fun a ha => ha.ev (.tmp 49) _ rfl) ?_
                refine T.seq ?_
                refine T.text rfl ?_
                refine TO.val rfl rfl rfl (Val.move rfl) ?_
                refine TO.val rfl rfl rfl (Val.len_gs rfl rfl) ?_
                obtain ⟨hk58, h⟩ := chk_some h
                refine TO.val rfl rfl rfl (Val.sub rfl rfl hk58) ?_
                refine TO.val rfl rfl rfl (Val.faddr_ptr (fo := 0) rfl rfl rfl) ?_
                refine TO.val rfl rfl rfl (Val.load_row (p := 0) rfl ⟨_, rfl, rfl⟩ rfl rfl rfl) ?_
                obtain ⟨out61, hr61, h⟩ := andx_some h
                refine TO.call rfl rfl rfl rfl rfl (orcL rfl (by first | decide | omega)) (.cons .lit (.cons .lit (.cons .gs .nil))) (sem_of (w_c_outside 0 ((leaves31.length : Int) - 1) a47.could _ (by exact hr61))) ?_
                refine TO.val rfl rfl rfl (Val.assign rfl) ?_
                refine TO.nil ?_
                cases out61 with
                | true =>
                  rw [if_pos rfl] at h
                  refine T.condT (fun a ha => ha.ev (.tmp 55) _ rfl) ?_
                  refine T.seq ?_
                  refine T.text rfl ?_
                  refine TO.val rfl rfl rfl (Val.move rfl) ?_
                  refine TO.val rfl rfl rfl (Val.assign rfl) ?_
                  refine TO.val rfl rfl rfl (Val.assign rfl) ?_
                  refine TO.val rfl rfl rfl (Val.assign rfl) ?_
                  refine TO.val rfl rfl rfl (Val.assign rfl) ?_
                  refine TO.nil ?_
                  refine T.ret ?_
                  cases h
                  exact ⟨ret_ne, ⟨ret_ne, ⟨ret_ne, ⟨rfl, _, rfl, ⟨(), rfl, (.drop (.drop .refl))⟩⟩⟩⟩⟩
                | false =>
                  rw [if_neg Bool.false_ne_true] at h
                  refine T.condF (fun a ha => ha.ev (.tmp 55) _ rfl) ?_
                  refine T.skip ?_
                  refine T.seq ?_
                  refine T.text rfl ?_
                  refine TO.val rfl rfl rfl (Val.faddr_ptr (fo := 0) rfl rfl rfl) ?_
                  refine TO.val rfl rfl rfl (Val.load_row (p := 0) rfl ⟨_, rfl, rfl⟩ rfl rfl rfl) ?_
                  refine TO.val rfl rfl rfl (Val.len_gs rfl rfl) ?_
                  refine TO.val rfl rfl rfl (Val.move rfl) ?_
                  refine TO.nil ?_
                  refine T.block ?_
                  show T _ _ _ _ _ _
                  apply T.iter (r := j) (W := Unit) (fun (j : Int) (w : Unit) => ⟨[], [(1, .ptr b1 0 3), (6, (GSo true encL leaves31).v), (8, iv (x44)), (9, .ptr b9 0 1), (42, v_c_Items), (43, iv ((c_Items.length : Int))), (44, iv (x44)), (64, a47.could.v), (65, iv ((a47.could.l.length : Int))), (66, iv (j))], .row b9 1 [a47.could.v] :: .row b1 3 [iv (c_Book_Signed), v_c_Book_Gatherings, v_c_Items] :: C⟩) (w0 := ()) h
                  · exact ⟨rfl, (keep_cons rfl (keep_cons rfl (keep_cons rfl (keep_cons rfl (keep_cons rfl (keep_cons rfl (keep_cons rfl (keep_cons rfl (keep_cons rfl (keep_cons rfl keep_nil)))))))))), (.pick (p := 0) rfl (.pick (p := 0) rfl .refl))⟩
                  rintro x66 _ a h
                  unfold P_c_open_L2 at h
                  refine T.at (s' := ⟨[], [(1, .ptr b1 0 3), (6, (GSo true encL leaves31).v), (8, iv (x44)), (9, .ptr b9 0 1), (42, v_c_Items), (43, iv ((c_Items.length : Int))), (44, iv (x44)), (64, a47.could.v), (65, iv ((a47.could.l.length : Int))), (66, iv (x66))], .row b9 1 [a47.could.v] :: .row b1 3 [iv (c_Book_Signed), v_c_Book_Gatherings, v_c_Items] :: C⟩) rfl ?_
                  refine T.seq ?_
                  refine T.text rfl ?_
                  obtain ⟨c67, hc67⟩ : ∃ c : Bool, c = decide (x66 < (a47.could.l.length : Int)) := ⟨_, rfl⟩
                  refine TO.val rfl rfl rfl (Val.lss hc67 rfl rfl) ?_
                  refine TO.nil ?_
                  refine T.seq ?_
                  cases c67 with
                  | true =>
                    replace hc67 := of_decide_eq_true hc67.symm
                    rw [if_pos hc67] at h
                    refine T.condT (fun a ha => ha.ev (.tmp 67) _ rfl) ?_
                    refine T.skip ?_
                    show T _ _ _ _ _ _
                    apply T.join (r := a) (W := Unit) (fun (j : Unit) (w : Unit) => ⟨[], [(1, .ptr b1 0 3), (6, (GSo true encL leaves31).v), (8, iv (x44)), (9, .ptr b9 0 1), (42, v_c_Items), (43, iv ((c_Items.length : Int))), (44, iv (x44)), (64, a47.could.v), (65, iv ((a47.could.l.length : Int))), (66, iv (x66))], .row b9 1 [a47.could.v] :: .row b1 3 [iv (c_Book_Signed), v_c_Book_Gatherings, v_c_Items] :: C⟩) h
                    · intro j h
                      refine T.block ?_
                      refine T.seq ?_
                      refine T.text rfl ?_
                      refine TO.val rfl rfl rfl (Val.move rfl) ?_
                      obtain ⟨a69, hia69, ea69, h⟩ := el_some h
                      refine TO.fact (rdl_at (Rdl.gs (C := C) a47.could) (memS (memS (mem0))) hia69 ea69) (fun hp => ?_)
                      obtain ⟨pa69, hpa69, hva69⟩ := hp
                      refine TO.val rfl rfl rfl (hva69 ⟨rfl, rfl⟩ rfl rfl) ?_
                      refine TO.val rfl rfl rfl (Val.load_e hpa69 (memS (memS (mem0))) ⟨_, rfl, rfl⟩ rfl rfl) ?_
                      refine TO.val rfl rfl rfl (Val.assign rfl) ?_
                      refine TO.val rfl rfl rfl (Val.assign rfl) ?_
                      refine TO.nil ?_
                      show T _ _ _ _ _ _
                      apply T.joinA (r := j) (W := Unit) (fun (j : Bool) (w : Unit) => ⟨[], [(1, .ptr b1 0 3), (6, (GSo true encL leaves31).v), (8, iv (x44)), (9, .ptr b9 0 1), (42, v_c_Items), (43, iv ((c_Items.length : Int))), (44, iv (x44)), (64, a47.could.v), (65, iv ((a47.could.l.length : Int))), (66, iv (x66)), (82, bv j)], .row b9 1 [a47.could.v] :: .row b1 3 [iv (c_Book_Signed), v_c_Book_Gatherings, v_c_Items] :: C⟩) h
                      · intro j h
                        refine T.text rfl ?_
                        refine TO.val rfl rfl rfl (Val.move rfl) ?_
                        obtain ⟨c72, hc72⟩ : ∃ c : Bool, c = decide (x66 > 0) := ⟨_, rfl⟩
                        refine TO.val rfl rfl rfl (Val.gtr hc72 rfl rfl) ?_
                        refine TO.val rfl rfl rfl (Val.move rfl) ?_
                        cases c72 with
                        | true =>
                          replace hc72 := of_decide_eq_true hc72.symm
                          rw [if_pos hc72] at h
                          refine TO.val rfl rfl rfl (Val.move rfl) ?_
                          refine TO.val rfl rfl rfl (Val.faddr_ptr (fo := 0) rfl rfl rfl) ?_
                          refine TO.val rfl rfl rfl (Val.load_row (p := 0) rfl ⟨_, rfl, rfl⟩ rfl rfl rfl) ?_
                          refine TO.val rfl rfl rfl (Val.move rfl) ?_
                          obtain ⟨hk78, h⟩ := chk_some h
                          refine TO.val rfl rfl rfl (Val.sub rfl rfl hk78) ?_
                          obtain ⟨a79, hia79, ea79, h⟩ := el_some h
                          refine TO.fact (rdl_at (Rdl.gs (C := C) a47.could) (memS (memS (mem0))) hia79 ea79) (fun hp => ?_)
                          obtain ⟨pa79, hpa79, hva79⟩ := hp
                          refine TO.val rfl rfl rfl (hva79 ⟨rfl, rfl⟩ rfl rfl) ?_
                          refine TO.val rfl rfl rfl (Val.load_e hpa79 (memS (memS (mem0))) ⟨_, rfl, rfl⟩ rfl rfl) ?_
                          obtain ⟨c81, hc81⟩ : ∃ c : Bool, c = decide (a69 ≤ a79) := ⟨_, rfl⟩
                          refine TO.val rfl rfl rfl (Val.leq hc81 rfl rfl) ?_
                          refine TO.val rfl rfl rfl (Val.pick rfl rfl rfl) ?_
                          refine TO.nil ?_
                          subst hc81
                          cases h
                          exact ⟨rfl, (), ⟨rfl, (keep_cons rfl (keep_cons rfl (keep_cons rfl (keep_cons rfl (keep_cons rfl (keep_cons rfl (keep_cons rfl (keep_cons rfl (keep_cons rfl (keep_cons rfl (keep_cons rfl keep_nil))))))))))), (.pick (p := 0) rfl (.pick (p := 0) rfl .refl))⟩⟩
                        | false =>
                          replace hc72 := of_decide_eq_false hc72.symm
                          rw [if_neg hc72] at h
                          refine TO.off rfl rfl rfl ?_
                          refine TO.off rfl rfl rfl ?_
                          refine TO.off rfl rfl rfl ?_
                          refine TO.off rfl rfl rfl ?_
                          refine TO.off rfl rfl rfl ?_
                          refine TO.off rfl rfl rfl ?_
                          refine TO.off rfl rfl rfl ?_
                          refine TO.off rfl rfl rfl ?_
                          refine TO.val rfl rfl rfl (Val.pick rfl rfl rfl) ?_
                          refine TO.nil ?_
                          cases h
                          exact ⟨rfl, (), ⟨rfl, (keep_cons rfl (keep_cons rfl (keep_cons rfl (keep_cons rfl (keep_cons rfl (keep_cons rfl (keep_cons rfl (keep_cons rfl (keep_cons rfl (keep_cons rfl (keep_cons rfl keep_nil))))))))))), (.pick (p := 0) rfl (.pick (p := 0) rfl .refl))⟩⟩
                      · rintro x82 _ h
                        skip
                        refine T.at (s' := ⟨[], [(1, .ptr b1 0 3), (6, (GSo true encL leaves31).v), (8, iv (x44)), (9, .ptr b9 0 1), (42, v_c_Items), (43, iv ((c_Items.length : Int))), (44, iv (x44)), (64, a47.could.v), (65, iv ((a47.could.l.length : Int))), (66, iv (x66)), (82, bv x82)], .row b9 1 [a47.could.v] :: .row b1 3 [iv (c_Book_Signed), v_c_Book_Gatherings, v_c_Items] :: C⟩) rfl ?_
                        cases x82 with
                        | true =>
                          rw [if_pos rfl] at h
                          refine T.condT (fun a ha => ha.ev (.tmp 82) _ rfl) ?_
                          refine T.seq ?_
                          refine T.text rfl ?_
                          refine TO.val rfl rfl rfl (Val.move rfl) ?_
                          refine TO.val rfl rfl rfl (Val.assign rfl) ?_
                          refine TO.val rfl rfl rfl (Val.assign rfl) ?_
                          refine TO.val rfl rfl rfl (Val.assign rfl) ?_
                          refine TO.val rfl rfl rfl (Val.assign rfl) ?_
                          refine TO.nil ?_
                          refine T.ret ?_
                          cases h
                          exact ⟨ret_ne, ⟨ret_ne, ⟨ret_ne, ⟨ret_ne, ⟨ret_ne, ⟨rfl, _, rfl, ⟨(), rfl, (.drop (.drop .refl))⟩⟩⟩⟩⟩⟩⟩
                        | false =>
                          rw [if_neg Bool.false_ne_true] at h
                          refine T.condF (fun a ha => ha.ev (.tmp 82) _ rfl) ?_
                          refine T.skip ?_
                          cases h
                          exact ⟨rfl, (), ⟨rfl, (keep_cons rfl (keep_cons rfl (keep_cons rfl (keep_cons rfl (keep_cons rfl (keep_cons rfl (keep_cons rfl (keep_cons rfl (keep_cons rfl (keep_cons rfl keep_nil)))))))))), (.pick (p := 0) rfl (.pick (p := 0) rfl .refl))⟩⟩
                    · rintro _ _ h
                      skip
                      refine T.at (s' := ⟨[], [(1, .ptr b1 0 3), (6, (GSo true encL leaves31).v), (8, iv (x44)), (9, .ptr b9 0 1), (42, v_c_Items), (43, iv ((c_Items.length : Int))), (44, iv (x44)), (64, a47.could.v), (65, iv ((a47.could.l.length : Int))), (66, iv (x66))], .row b9 1 [a47.could.v] :: .row b1 3 [iv (c_Book_Signed), v_c_Book_Gatherings, v_c_Items] :: C⟩) rfl ?_
                      refine T.text rfl ?_
                      obtain ⟨hk84, h⟩ := chk_some h
                      refine TO.val rfl rfl rfl (Val.add rfl rfl hk84) ?_
                      refine TO.val rfl rfl rfl (Val.move rfl) ?_
                      refine TO.nil ?_
                      cases h
                      exact ⟨rfl, (), ⟨rfl, (keep_cons rfl (keep_cons rfl (keep_cons rfl (keep_cons rfl (keep_cons rfl (keep_cons rfl (keep_cons rfl (keep_cons rfl (keep_cons rfl (keep_cons rfl keep_nil)))))))))), (.pick (p := 0) rfl (.pick (p := 0) rfl .refl))⟩⟩
                  | false =>
                    replace hc67 := of_decide_eq_false hc67.symm
                    rw [if_neg hc67] at h
                    refine T.condF (fun a ha => ha.ev (.tmp 67) _ rfl) ?_
                    refine T.exit ?_
                    cases h
                    exact ⟨ex_ne, ⟨rfl, (), ⟨rfl, (keep_cons rfl (keep_cons rfl (keep_cons rfl (keep_cons rfl (keep_cons rfl keep_nil))))), (.pick (p := 1) rfl (.drop .refl))⟩⟩⟩
            · rintro _ _ h
              skip
              refine T.at (s' := ⟨[], [(1, .ptr b1 0 3), (6, (GSo true encL leaves31).v), (42, v_c_Items), (43, iv ((c_Items.length : Int))), (44, iv (x44))], .row b1 3 [iv (c_Book_Signed), v_c_Book_Gatherings, v_c_Items] :: C⟩) rfl ?_
              refine T.text rfl ?_
              obtain ⟨hk85, h⟩ := chk_some h
              refine TO.val rfl rfl rfl (Val.add rfl rfl hk85) ?_
              refine TO.val rfl rfl rfl (Val.move rfl) ?_
              refine TO.nil ?_
              cases h
              exact ⟨rfl, (), ⟨rfl, (keep_cons rfl (keep_cons rfl (keep_cons rfl (keep_cons rfl (keep_cons rfl keep_nil))))), (.pick (p := 0) rfl .refl)⟩⟩
          | false =>
            replace hc45 := of_decide_eq_false hc45.symm
            rw [if_neg hc45] at h
            refine T.condF (fun a ha => ha.ev (.tmp 45) _ rfl) ?_
            refine T.exit ?_
            cases h
            exact ⟨ex_ne, ⟨rfl, (), ⟨rfl, (keep_cons rfl (keep_cons rfl keep_nil)), (.pick (p := 0) rfl .refl)⟩⟩⟩
        · rintro _ _ h
          skip
          refine T.at (s' := ⟨[], [(1, .ptr b1 0 3), (6, (GSo true encL leaves31).v)], .row b1 3 [iv (c_Book_Signed), v_c_Book_Gatherings, v_c_Items] :: C⟩) rfl ?_
          refine T.seq ?_
          refine T.text rfl ?_
          refine TO.val rfl rfl rfl (Val.assign rfl) ?_
          refine TO.nil ?_
          show T _ _ _ _ _ _
          apply T.join (r := r) (W := Unit) (fun (j : Unit) (w : Unit) => ⟨[], [(1, .ptr b1 0 3), (6, (GSo true encL leaves31).v)], .row b1 3 [iv (c_Book_Signed), v_c_Book_Gatherings, v_c_Items] :: C⟩) h
          · intro j h
            refine T.seq ?_
            refine T.text rfl ?_
            refine TO.val rfl rfl rfl (Val.faddr_ptr (fo := 2) rfl rfl rfl) ?_
            refine TO.val rfl rfl rfl (Val.load_row (p := 0) rfl ⟨_, rfl, rfl⟩ rfl rfl rfl) ?_
            refine TO.val rfl rfl rfl (Val.len_l h_c_Items (memS (mem0)) rfl rfl) ?_
            refine TO.val rfl rfl rfl (Val.move rfl) ?_
            refine TO.nil ?_
            refine T.block ?_
            show T _ _ _ _ _ _
            apply T.iter (r := j) (W := Unit) (fun (j : Int × Int) (w : Unit) => ⟨[], [(1, .ptr b1 0 3), (6, (GSo true encL leaves31).v), (12, iv (j.1)), (87, v_c_Items), (88, iv ((c_Items.length : Int))), (89, iv (j.2))], .row b1 3 [iv (c_Book_Signed), v_c_Book_Gatherings, v_c_Items] :: C⟩) (w0 := ()) h
            · exact ⟨rfl, (keep_cons rfl (keep_cons rfl (keep_cons rfl (keep_cons rfl (keep_cons rfl (keep_cons rfl keep_nil)))))), (.pick (p := 0) rfl .refl)⟩
            rintro ⟨doubts, x89⟩ _ a h
            unfold P_c_open_L3 at h
            dsimp only at h
            refine T.at (s' := ⟨[], [(1, .ptr b1 0 3), (6, (GSo true encL leaves31).v), (12, iv (doubts)), (87, v_c_Items), (88, iv ((c_Items.length : Int))), (89, iv (x89))], .row b1 3 [iv (c_Book_Signed), v_c_Book_Gatherings, v_c_Items] :: C⟩) rfl ?_
            refine T.seq ?_
            refine T.text rfl ?_
            obtain ⟨c90, hc90⟩ : ∃ c : Bool, c = decide (x89 < (c_Items.length : Int)) := ⟨_, rfl⟩
            refine TO.val rfl rfl rfl (Val.lss hc90 rfl rfl) ?_
            refine TO.nil ?_
            refine T.seq ?_
            cases c90 with
            | true =>
              replace hc90 := of_decide_eq_true hc90.symm
              rw [if_pos hc90] at h
              refine T.condT (fun a ha => ha.ev (.tmp 90) _ rfl) ?_
              refine T.skip ?_
              show T _ _ _ _ _ _
              apply T.join (r := a) (W := Unit) (fun (j : Int) (w : Unit) => ⟨[], [(1, .ptr b1 0 3), (6, (GSo true encL leaves31).v), (12, iv (j)), (87, v_c_Items), (88, iv ((c_Items.length : Int))), (89, iv (x89))], .row b1 3 [iv (c_Book_Signed), v_c_Book_Gatherings, v_c_Items] :: C⟩) h
              · intro j h
                refine T.block ?_
                refine T.seq ?_
                refine T.text rfl ?_
                refine TO.val rfl rfl rfl (Val.move rfl) ?_
                obtain ⟨a92, hia92, ea92, h⟩ := el_some h
                refine TO.fact (rdl_at h_c_Items (memS (mem0)) hia92 ea92) (fun hp => ?_)
                obtain ⟨pa92, hpa92, hva92⟩ := hp
                refine TO.val rfl rfl rfl (hva92 ⟨rfl, rfl⟩ rfl rfl) ?_
                refine TO.val rfl rfl rfl (Val.load_es (c := [_]) hpa92 (memS (mem0)) ⟨⟨_, rfl, rfl⟩, rfl, by decide⟩ rfl rfl rfl) ?_
                refine TO.alloc (k := 1) (cells := [_]) rfl rfl rfl rfl rfl rfl rfl (fun b14 => ?_)
                refine TO.val rfl rfl rfl (Val.assign rfl) ?_
                refine TO.eff0 rfl rfl (Eff.store_row (p := 0) (cv := [_]) (cells' := [_]) rfl rfl rfl rfl rfl rfl rfl rfl (by first | rfl | simp [GS.one]) (by decide) rfl) ?_
                rintro _ rfl
                refine TO.things (hs' := .row b14 1 [a92.could.v] :: .row b1 3 [iv (c_Book_Signed), v_c_Book_Gatherings, v_c_Items] :: C) rfl ?_
                refine TO.nil ?_
                show T _ _ _ _ _ _
                apply T.joinA (r := j) (W := Unit) (fun (j : Int) (w : Unit) => ⟨[], [(1, .ptr b1 0 3), (6, (GSo true encL leaves31).v), (12, iv (j)), (13, iv (x89)), (87, v_c_Items), (88, iv ((c_Items.length : Int))), (89, iv (x89))], .row b14 1 [a92.could.v] :: .row b1 3 [iv (c_Book_Signed), v_c_Book_Gatherings, v_c_Items] :: C⟩) h
                · intro j h
                  refine T.seq ?_
                  refine T.text rfl ?_
                  refine TO.val rfl rfl rfl (Val.faddr_ptr (fo := 0) rfl rfl rfl) ?_
                  refine TO.val rfl rfl rfl (Val.load_row (p := 0) rfl ⟨_, rfl, rfl⟩ rfl rfl rfl) ?_
                  refine TO.val rfl rfl rfl (Val.len_gs rfl rfl) ?_
                  obtain ⟨c97, hc97⟩ : ∃ c : Bool, c = decide ((a92.could.l.length : Int) > 1) := ⟨_, rfl⟩
                  refine TO.val rfl rfl rfl (Val.gtr hc97 rfl rfl) ?_
                  refine TO.nil ?_
                  cases c97 with
                  | true =>
                    replace hc97 := of_decide_eq_true hc97.symm
                    rw [if_pos hc97] at h
                    refine T.condT (fun a ha => ha.ev (.tmp 97) _ rfl) ?_
                    refine T.text rfl ?_
                    refine TO.val rfl rfl rfl (Val.move rfl) ?_
                    obtain ⟨hk99, h⟩ := chk_some h
                    refine TO.val rfl rfl rfl (Val.add rfl rfl hk99) ?_
                    refine TO.val rfl rfl rfl (Val.assign rfl) ?_
                    refine TO.nil ?_
                    cases h
                    exact ⟨rfl, (), ⟨rfl, (keep_cons rfl (keep_cons rfl (keep_cons rfl (keep_cons rfl (keep_cons rfl (keep_cons rfl (keep_cons rfl keep_nil))))))), (.pick (p := 0) rfl (.pick (p := 0) rfl .refl))⟩⟩
                  | false =>
                    replace hc97 := of_decide_eq_false hc97.symm
                    rw [if_neg hc97] at h
                    refine T.condF (fun a ha => ha.ev (.tmp 97) _ rfl) ?_
                    refine T.skip ?_
                    cases h
                    exact ⟨rfl, (), ⟨rfl, (keep_cons rfl (keep_cons rfl (keep_cons rfl (keep_cons rfl (keep_cons rfl (keep_cons rfl (keep_cons rfl keep_nil))))))), (.pick (p := 0) rfl (.pick (p := 0) rfl .refl))⟩⟩
                · rintro doubts_2 _ h
                  skip
                  refine T.at (s' := ⟨[], [(1, .ptr b1 0 3), (6, (GSo true encL leaves31).v), (12, iv (doubts_2)), (13, iv (x89)), (87, v_c_Items), (88, iv ((c_Items.length : Int))), (89, iv (x89))], .row b14 1 [a92.could.v] :: .row b1 3 [iv (c_Book_Signed), v_c_Book_Gatherings, v_c_Items] :: C⟩) rfl ?_
                  refine T.seq ?_
                  refine T.text rfl ?_
                  refine TO.val rfl rfl rfl (Val.move rfl) ?_
                  obtain ⟨c101, hc101⟩ : ∃ c : Bool, c = decide (doubts_2 > 3) := ⟨_, rfl⟩
                  refine TO.val rfl rfl rfl (Val.gtr hc101 rfl rfl) ?_
                  refine TO.nil ?_
                  cases c101 with
                  | true =>
                    replace hc101 := of_decide_eq_true hc101.symm
                    rw [if_pos hc101] at h
                    refine T.condT (fun a ha => ha.ev (.tmp 101) _ rfl) ?_
                    refine T.seq ?_
                    refine T.text rfl ?_
                    refine TO.val rfl rfl rfl (Val.move rfl) ?_
                    refine TO.val rfl rfl rfl (Val.assign rfl) ?_
                    refine TO.val rfl rfl rfl (Val.assign rfl) ?_
                    refine TO.val rfl rfl rfl (Val.assign rfl) ?_
                    refine TO.val rfl rfl rfl (Val.assign rfl) ?_
                    refine TO.nil ?_
                    refine T.ret ?_
                    cases h
                    exact ⟨ret_ne, ⟨ret_ne, ⟨ret_ne, ⟨rfl, _, rfl, ⟨(), rfl, (.drop (.drop .refl))⟩⟩⟩⟩⟩
                  | false =>
                    replace hc101 := of_decide_eq_false hc101.symm
                    rw [if_neg hc101] at h
                    refine T.condF (fun a ha => ha.ev (.tmp 101) _ rfl) ?_
                    refine T.skip ?_
                    cases h
                    exact ⟨rfl, (), ⟨rfl, (keep_cons rfl (keep_cons rfl (keep_cons rfl (keep_cons rfl (keep_cons rfl (keep_cons rfl keep_nil)))))), (.pick (p := 1) rfl (.drop .refl))⟩⟩
              · rintro doubts_2 _ h
                skip
                refine T.at (s' := ⟨[], [(1, .ptr b1 0 3), (6, (GSo true encL leaves31).v), (12, iv (doubts_2)), (87, v_c_Items), (88, iv ((c_Items.length : Int))), (89, iv (x89))], .row b1 3 [iv (c_Book_Signed), v_c_Book_Gatherings, v_c_Items] :: C⟩) rfl ?_
                refine T.text rfl ?_
                obtain ⟨hk103, h⟩ := chk_some h
                refine TO.val rfl rfl rfl (Val.add rfl rfl hk103) ?_
                refine TO.val rfl rfl rfl (Val.move rfl) ?_
                refine TO.nil ?_
                cases h
                exact ⟨rfl, (), ⟨rfl, (keep_cons rfl (keep_cons rfl (keep_cons rfl (keep_cons rfl (keep_cons rfl (keep_cons rfl keep_nil)))))), (.pick (p := 0) rfl .refl)⟩⟩
            | false =>
              replace hc90 := of_decide_eq_false hc90.symm
              rw [if_neg hc90] at h
              refine T.condF (fun a ha => ha.ev (.tmp 90) _ rfl) ?_
              refine T.exit ?_
              cases h
              exact ⟨ex_ne, ⟨rfl, (), ⟨rfl, (keep_cons rfl (keep_cons rfl keep_nil)), (.pick (p := 0) rfl .refl)⟩⟩⟩
          · rintro _ _ h
            skip
            refine T.at (s' := ⟨[], [(1, .ptr b1 0 3), (6, (GSo true encL leaves31).v)], .row b1 3 [iv (c_Book_Signed), v_c_Book_Gatherings, v_c_Items] :: C⟩) rfl ?_
            refine T.seq ?_
            refine T.text rfl ?_
            refine TO.val rfl rfl rfl (Val.load_rows (p := 0) (c := [_, _, _]) rfl ⟨⟨_, rfl, rfl⟩, rfl, by decide⟩ rfl rfl rfl rfl) ?_
            refine TO.val rfl rfl rfl (Val.move rfl) ?_
            refine TO.val rfl rfl rfl (Val.buildC (cs := [_, _, _, _, _]) (vs := [(_, _), (_, _)]) (ws := [(_, [_, _, _]), (_, [_])]) rfl rfl (CellsL.cons rfl (CellsL.cons (GS.cells (GSo true encL leaves31)).1 CellsL.nil)) rfl) ?_
            refine TO.box (k := 5) (cells := [_, _, _, _, _]) rfl rfl rfl rfl rfl rfl rfl (fun b107 => ?_)
            refine TO.val rfl rfl rfl (Val.assign rfl) ?_
            refine TO.nil ?_
            show T _ _ _ _ _ _
            apply T.joinA (r := r) (W := AV) (fun (j : (List Int)) (w : AV) => ⟨[], [(2, .ptr b107 0 5)], ownL true w encI j :: .row b107 5 [iv (c_Book_Signed), v_c_Book_Gatherings, v_c_Items, (GSo true encL leaves31).v, w] :: .row b1 3 [iv (c_Book_Signed), v_c_Book_Gatherings, v_c_Items] :: C⟩) h
            · intro j h
              refine T.seq ?_
              refine T.text rfl ?_
              refine TO.val rfl rfl rfl (Val.move rfl) ?_
              refine TO.val rfl rfl rfl (Val.len_gs rfl rfl) ?_
              refine TO.val rfl rfl rfl (Val.move rfl) ?_
              refine TO.nil ?_
              refine T.block ?_
              refine T.nilown (u := encI.u) ?_
              show T _ _ _ _ _ _
              apply T.iter (r := j) (W := AV) (fun (j : Int × (List Int)) (w : AV) => ⟨[], [(1, .ptr b1 0 3), (2, .ptr b107 0 5), (109, iv ((leaves31.length : Int))), (110, iv (j.1))], ownL true w encI j.2 :: .row b107 5 [iv (c_Book_Signed), v_c_Book_Gatherings, v_c_Items, (GSo true encL leaves31).v, w] :: .row b1 3 [iv (c_Book_Signed), v_c_Book_Gatherings, v_c_Items] :: C⟩) (w0 := nilS) h
              · exact ⟨rfl, (keep_cons rfl (keep_cons rfl (keep_cons rfl (keep_cons rfl keep_nil)))), (.pick (p := 0) rfl (.pick (p := 0) rfl (.pick (p := 0) rfl .refl)))⟩
              rintro ⟨x110, b107_mates⟩ v5 a h
              unfold P_c_open_L4 at h
              dsimp only at h
              refine T.at (s' := ⟨[], [(1, .ptr b1 0 3), (2, .ptr b107 0 5), (109, iv ((leaves31.length : Int))), (110, iv (x110))], ownL true v5 encI b107_mates :: .row b107 5 [iv (c_Book_Signed), v_c_Book_Gatherings, v_c_Items, (GSo true encL leaves31).v, v5] :: .row b1 3 [iv (c_Book_Signed), v_c_Book_Gatherings, v_c_Items] :: C⟩) rfl ?_
              refine T.seq ?_
              refine T.text rfl ?_
              obtain ⟨c111, hc111⟩ : ∃ c : Bool, c = decide (x110 < (leaves31.length : Int)) := ⟨_, rfl⟩
              refine TO.val rfl rfl rfl (Val.lss hc111 rfl rfl) ?_
              refine TO.nil ?_
              refine T.seq ?_
              cases c111 with
              | true =>
                replace hc111 := of_decide_eq_true hc111.symm
                rw [if_pos hc111] at h
                refine T.condT (fun a ha => ha.ev (.tmp 111) _ rfl) ?_
                refine T.skip ?_
                show T _ _ _ _ _ _
                apply T.joinA (r := a) (W := AV) (fun (j : (List Int)) (w : AV) => ⟨[], [(1, .ptr b1 0 3), (2, .ptr b107 0 5), (109, iv ((leaves31.length : Int))), (110, iv (x110))], ownL true w encI j :: .row b107 5 [iv (c_Book_Signed), v_c_Book_Gatherings, v_c_Items, (GSo true encL leaves31).v, w] :: .row b1 3 [iv (c_Book_Signed), v_c_Book_Gatherings, v_c_Items] :: C⟩) h
                · intro j h
                  refine T.block ?_
                  refine T.seq ?_
                  refine T.text rfl ?_
                  refine TO.val rfl rfl rfl (Val.move rfl) ?_
                  refine TO.val rfl rfl rfl (Val.assign rfl) ?_
                  refine TO.nil ?_
                  refine T.seq ?_
                  refine T.text rfl ?_
                  refine TO.val rfl rfl rfl (Val.faddr_ptr (fo := 0) rfl rfl rfl) ?_
                  refine TO.val rfl rfl rfl (Val.load_rows (p := 2) (c := [_, _]) rfl ⟨⟨_, rfl, rfl⟩, rfl, by decide⟩ rfl rfl rfl rfl) ?_
                  refine TO.val rfl rfl rfl (Val.move rfl) ?_
                  obtain ⟨⟨mate117, e117⟩, hr117, h⟩ := andx_some h
                  dsimp only at h
                  obtain ⟨g_3, hgg_3, hrg_3⟩ := Rdl.reif (hs := ownL true v5 encI b107_mates :: .row b107 5 [iv (c_Book_Signed), v_c_Book_Gatherings, v_c_Items, (GSo true encL leaves31).v, v5] :: .row b1 3 [iv (c_Book_Signed), v_c_Book_Gatherings, v_c_Items] :: C) h_c_Book_Gatherings (memS (memS (memS (mem0)))) (ReifL.flat encG_tr)
                  refine TO.call rfl rfl rfl rfl rfl (orcL rfl (by first | decide | omega)) (.cons (.agg (.cons .lit (.cons (hrg_3 _) .nil))) (.cons .lit .nil)) (sem_of (w_q_Mate c_Book_Signed g_3 x110 _ (by try rw [hgg_3]; exact hr117))) ?_
                  refine TO.val rfl rfl rfl (Val.move rfl) ?_
                  refine TO.val rfl rfl rfl (Val.extract rfl rfl) ?_
                  refine TO.val rfl rfl rfl (Val.extract rfl rfl) ?_
                  refine TO.val rfl rfl rfl (Val.assign rfl) ?_
                  refine TO.val rfl rfl rfl (Val.assign rfl) ?_
                  refine TO.nil ?_
                  show T _ _ _ _ _ _
                  apply T.joinA (r := j) (W := Unit) (fun (j : Int) (w : Unit) => ⟨[], [(1, .ptr b1 0 3), (2, .ptr b107 0 5), (16, iv (j)), (109, iv ((leaves31.length : Int))), (110, iv (x110))], ownL true v5 encI b107_mates :: .row b107 5 [iv (c_Book_Signed), v_c_Book_Gatherings, v_c_Items, (GSo true encL leaves31).v, v5] :: .row b1 3 [iv (c_Book_Signed), v_c_Book_Gatherings, v_c_Items] :: C⟩) h
                  · intro j h
                    refine T.seq ?_
                    refine T.text rfl ?_
                    refine TO.val rfl rfl rfl (Val.move rfl) ?_
                    obtain ⟨c121, hc121⟩ : ∃ c : Bool, c = decide (¬ e117 = 0) := ⟨_, rfl⟩
                    refine TO.val rfl rfl rfl (Val.neq hc121 rfl rfl) ?_
                    refine TO.nil ?_
                    cases c121 with
                    | true =>
                      replace hc121 := of_decide_eq_true hc121.symm
                      rw [if_pos hc121] at h
                      refine T.condT (fun a ha => ha.ev (.tmp 121) _ rfl) ?_
                      refine T.text rfl ?_
                      refine TO.val rfl rfl rfl (Val.assign rfl) ?_
                      refine TO.nil ?_
                      cases h
                      exact ⟨rfl, (), ⟨rfl, (keep_cons rfl (keep_cons rfl (keep_cons rfl (keep_cons rfl (keep_cons rfl keep_nil))))), (.pick (p := 0) rfl (.pick (p := 0) rfl (.pick (p := 0) rfl .refl)))⟩⟩
                    | false =>
                      replace hc121 := of_decide_eq_false hc121.symm
                      rw [if_neg hc121] at h
                      refine T.condF (fun a ha => ha.ev (.tmp 121) _ rfl) ?_
                      refine T.skip ?_
                      cases h
                      exact ⟨rfl, (), ⟨rfl, (keep_cons rfl (keep_cons rfl (keep_cons rfl (keep_cons rfl (keep_cons rfl keep_nil))))), (.pick (p := 0) rfl (.pick (p := 0) rfl (.pick (p := 0) rfl .refl)))⟩⟩
                  · rintro m _ h
                    skip
                    refine T.at (s' := ⟨[], [(1, .ptr b1 0 3), (2, .ptr b107 0 5), (16, iv (m)), (109, iv ((leaves31.length : Int))), (110, iv (x110))], ownL true v5 encI b107_mates :: .row b107 5 [iv (c_Book_Signed), v_c_Book_Gatherings, v_c_Items, (GSo true encL leaves31).v, v5] :: .row b1 3 [iv (c_Book_Signed), v_c_Book_Gatherings, v_c_Items] :: C⟩) rfl ?_
                    refine T.text rfl ?_
                    refine TO.val rfl rfl rfl (Val.move rfl) ?_
                    refine TO.val rfl rfl rfl (Val.move rfl) ?_
                    refine TO.val rfl rfl rfl (Val.nil_ptr rfl) ?_
                    refine TO.val rfl rfl rfl (Val.faddr_ptr (fo := 4) rfl rfl rfl) ?_
                    refine TO.val rfl rfl rfl (Val.load_row (p := 1) rfl ⟨_, rfl, rfl⟩ rfl rfl rfl) ?_
                    refine TO.val rfl rfl rfl (Val.move rfl) ?_
                    refine TO.build1 (en := encI) (a := m) rfl rfl rfl ⟨rfl, rfl⟩ ⟨_, rfl, rfl⟩ (by decide) (by decide) rfl rfl (fun v128 => ?_)
                    obtain ⟨hk129, h⟩ := chk_some h
                    refine TO.eff rfl rfl rfl (Eff.append_own (b := 8) (en := encI) (l := b107_mates) (l2 := [m]) (p := 1) (q := 0) ⟨rfl, rfl, rfl, ⟨_, rfl, rfl⟩, by decide, by decide⟩ rfl rfl rfl rfl rfl rfl (flat_ones _) (by decide) hk129) ?_
                    rintro v129 _ rfl
                    refine TO.things (hs' := ownL false v128 encI [m] :: ownL true v129 encI (b107_mates ++ [m]) :: .row b107 5 [iv (c_Book_Signed), v_c_Book_Gatherings, v_c_Items, (GSo true encL leaves31).v, _] :: .row b1 3 [iv (c_Book_Signed), v_c_Book_Gatherings, v_c_Items] :: C) rfl ?_
                    refine TO.val rfl rfl rfl (Val.nil_ptr rfl) ?_
                    refine TO.val rfl rfl rfl (Val.faddr_ptr (fo := 4) rfl rfl rfl) ?_
                    refine TO.fact (own_cellS (p := 1) rfl) (fun hot5 => ?_)
                    refine TO.eff0 rfl rfl (Eff.store_row (p := 2) (cv := [_]) (cells' := [_, _, _, _, _]) rfl rfl rfl rfl rfl hot5.1 rfl rfl (by first | rfl | simp [GS.one, hot5.2]) (by decide) rfl) ?_
                    rintro _ rfl
                    refine TO.things (hs' := ownL false v128 encI [m] :: ownL true v129 encI (b107_mates ++ [m]) :: .row b107 5 [iv (c_Book_Signed), v_c_Book_Gatherings, v_c_Items, (GSo true encL leaves31).v, v129] :: .row b1 3 [iv (c_Book_Signed), v_c_Book_Gatherings, v_c_Items] :: C) rfl ?_
                    refine TO.nil ?_
                    cases h
                    exact ⟨rfl, v129, ⟨rfl, (keep_cons rfl (keep_cons rfl (keep_cons rfl (keep_cons rfl keep_nil)))), (.pick (p := 1) rfl (.pick (p := 1) rfl (.pick (p := 1) rfl (.drop .refl))))⟩⟩
                · rintro b107_mates_2 v5_2 h
                  skip
                  refine T.at (s' := ⟨[], [(1, .ptr b1 0 3), (2, .ptr b107 0 5), (109, iv ((leaves31.length : Int))), (110, iv (x110))], ownL true v5_2 encI b107_mates_2 :: .row b107 5 [iv (c_Book_Signed), v_c_Book_Gatherings, v_c_Items, (GSo true encL leaves31).v, v5_2] :: .row b1 3 [iv (c_Book_Signed), v_c_Book_Gatherings, v_c_Items] :: C⟩) rfl ?_
                  refine T.text rfl ?_
                  obtain ⟨hk132, h⟩ := chk_some h
                  refine TO.val rfl rfl rfl (Val.add rfl rfl hk132) ?_
                  refine TO.val rfl rfl rfl (Val.move rfl) ?_
                  refine TO.nil ?_
                  cases h
                  exact ⟨rfl, v5_2, ⟨rfl, (keep_cons rfl (keep_cons rfl (keep_cons rfl (keep_cons rfl keep_nil)))), (.pick (p := 0) rfl (.pick (p := 0) rfl (.pick (p := 0) rfl .refl)))⟩⟩
              | false =>
                replace hc111 := of_decide_eq_false hc111.symm
                rw [if_neg hc111] at h
                refine T.condF (fun a ha => ha.ev (.tmp 111) _ rfl) ?_
                refine T.exit ?_
                cases h
                exact ⟨ex_ne, ⟨rfl, v5, ⟨rfl, (keep_cons rfl keep_nil), (.pick (p := 0) rfl (.pick (p := 0) rfl (.pick (p := 0) rfl .refl)))⟩⟩⟩
            · rintro b107_mates v5 h
              skip
              refine T.at (s' := ⟨[], [(2, .ptr b107 0 5)], ownL true v5 encI b107_mates :: .row b107 5 [iv (c_Book_Signed), v_c_Book_Gatherings, v_c_Items, (GSo true encL leaves31).v, v5] :: .row b1 3 [iv (c_Book_Signed), v_c_Book_Gatherings, v_c_Items] :: C⟩) rfl ?_
              refine T.seq ?_
              refine T.text rfl ?_
              refine TO.val rfl rfl rfl (Val.move rfl) ?_
              refine TO.val rfl rfl rfl (Val.assign rfl) ?_
              refine TO.val rfl rfl rfl (Val.assign rfl) ?_
              refine TO.val rfl rfl rfl (Val.assign rfl) ?_
              refine TO.val rfl rfl rfl (Val.assign rfl) ?_
              refine TO.nil ?_
              refine T.ret ?_
              cases h
              exact ⟨rfl, _, rfl, ⟨(b107, v5), rfl, (.pick (p := 1) rfl (.pick (p := 0) rfl (.drop .refl)))⟩⟩
end Go.Am.Ythckcbfijdambaa
end
section
namespace Go.Am
set_option linter.unusedVariables false
noncomputable def P_c_Divided_L1 (one : List Item) : Int → Option (Stp Int (Ex Unit Int)) := fun x8 =>
  if x8 < (one.length : Int) then
    el one x8 fun a14 =>
    if (a14.could.l.length : Int) > 1 then
      some (Stp.dn (Ex.rt x8))
    else
      chk (I64 (x8 + 1)) (
        some (Stp.ag (x8 + 1)))
  else
    some (Stp.dn (Ex.nx ()))
noncomputable def P_c_Divided_L2 (other : List Item) : Int → Option (Stp Int (Ex Unit Int)) := fun x8 =>
  if x8 < (other.length : Int) then
    el other x8 fun a14 =>
    if (a14.could.l.length : Int) > 1 then
      some (Stp.dn (Ex.rt x8))
    else
      chk (I64 (x8 + 1)) (
        some (Stp.ag (x8 + 1)))
  else
    some (Stp.dn (Ex.nx ()))
noncomputable def P_c_Divided_L5 (y25_4 : List Int) (y61 : Int → Int) (y64 : Int → Int) : (Int × (List Int)) → Option (Stp (Int × (List Int)) (Stp (List Int) (Stp (List Int) (Ex (List Int) ((List Int) × Int))))) := fun (x70, cut_3) =>
  if x70 < (y25_4.length : Int) then
    seqx (
      el y25_4 x70 fun a73 =>
      andx (
        if (y61 x70) > 0 then
          some (decide ((y64 x70) > 0))
        else
          some false) fun x75 =>
        if x75 = true then
          some (Ex.rt (Stp.dn (Stp.dn (Stp.dn (Ex.rt ([], 5))))))
        else
          andx (
            if (y61 x70) > 0 then
              if a73 ≥ 0 then
                some (decide ((y64 a73) > 0))
              else
                some false
            else
              some false) fun x86 =>
            if x86 = true then
              chk (cut_3.length + [x70].length < 1000000000) (
                some (Ex.nx (cut_3 ++ [x70])))
            else
              some (Ex.nx cut_3)) fun cut_4 =>
      chk (I64 (x70 + 1)) (
        some (Stp.ag ((x70 + 1), cut_4)))
  else
    some (Stp.dn (Stp.ag cut_3))
noncomputable def P_c_Divided_L4 (b_Gatherings : List Gat) (one : List Item) (other : List Item) (y25_2 : Int) (y25_3 : GS encL) (y25_4 : List Int) (y37_2 : Int) (y37_3 : GS encL) (y37_4 : List Int) (t : List Int) : (List Int) → (List Int) → Option (Stp (List Int) (Stp (List Int) (Ex (List Int) ((List Int) × Int)))) := fun cut_2 t_2 =>
  andx (P_c_there y25_2 b_Gatherings one y25_3.l y25_4 t) fun y61 =>
    andx (P_c_there y37_2 b_Gatherings other y37_3.l y37_4 t_2) fun y64 =>
      iter (P_c_Divided_L5 y25_4 y61 y64) (0, cut_2)
noncomputable def P_c_Divided_L3 (b_Gatherings : List Gat) (one : List Item) (other : List Item) (y25_2 : Int) (y25_3 : GS encL) (y25_4 : List Int) (y37_2 : Int) (y37_3 : GS encL) (y37_4 : List Int) : (List Int) → (List Int) → Option (Stp (List Int) (Ex (List Int) ((List Int) × Int))) := fun cut t =>
  chk (other.length ≤ 120 ∧ ∀ x ∈ other, x.could.l.length ≤ 4) (
    seqx (foldx (P_c_Divided_L4 b_Gatherings one other y25_2 y25_3 y25_4 y37_2 y37_3 y37_4 t) (truthsOf other) cut) fun cut_2 =>
      some (Stp.ag cut_2))
noncomputable def P_c_Divided (b_Signed : Int) (b_Gatherings : List Gat) (one : List Item) (other : List Item) : Option ((List Int) × Int) :=
  andx (P_c_open b_Signed b_Gatherings one) fun y =>
    match y with
    | .inl (y25_2, y25_3, y25_4) =>
      chk (¬ y25_4 = 0) (
        some ([], y25_4))
    | .inr (y25_2, y25_3, y25_4, y25_5, y25_6, y25_7) =>
      chk (y25_7 = 0) (
        andx (P_c_open b_Signed b_Gatherings other) fun y =>
          match y with
          | .inl (y37_2, y37_3, y37_4) =>
            chk (¬ y37_4 = 0) (
              some ([], y37_4))
          | .inr (y37_2, y37_3, y37_4, y37_5, y37_6, y37_7) =>
            chk (y37_7 = 0) (
              seqx (
                andx (
                  andx (
                    seqx (
                      iter (P_c_Divided_L1 one) 0) fun _ =>
                      some (-1)) fun y7 =>
                    if y7 ≥ 0 then
                      some true
                    else
                      andx (
                        seqx (
                          iter (P_c_Divided_L2 other) 0) fun _ =>
                          some (-1)) fun y7_2 =>
                        some (decide (y7_2 ≥ 0))) fun x52 =>
                  if x52 = true then
                    some (Ex.rt ([], 2))
                  else
                    some (Ex.nx ())) fun _ =>
                seqx (
                  chk (one.length ≤ 120 ∧ ∀ x ∈ one, x.could.l.length ≤ 4) (
                    seqx (foldx (P_c_Divided_L3 b_Gatherings one other y25_2 y25_3 y25_4 y37_2 y37_3 y37_4) (truthsOf one) []) fun cut =>
                      some (Ex.nx cut))) fun cut =>
                  some (cut, 0)))
end Go.Am
end
