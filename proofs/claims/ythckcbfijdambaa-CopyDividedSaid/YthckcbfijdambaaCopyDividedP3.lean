/- Part 3. -/
import Derived.Test.YthckcbfijdambaaCopyDividedP2
import Derived.ChangeArms
import Derived.ChangeSlices
import Derived.OpenShut
import Derived.Test.YthckcbfijdambaaRows
import Derived.ProofKit
section
namespace Go.Am.Ythckcbfijdambaa
open Go.Am Go.RowKit
set_option linter.unusedVariables false
set_option linter.unusedSimpArgs false
theorem flat_pre {α β : Type} {f : α → List β} {l : List α} {c : Nat} {a : α} (h : l[c]? = some a) : (l.take c).flatMap f ++ f a <+: l.flatMap f := by
 have e : l = l.take c ++ a :: l.drop (c + 1) := by rw [← drop_cons h, List.take_append_drop]
 refine ⟨(l.drop (c + 1)).flatMap f, ?_⟩
 conv => rhs; rw [e]
 rw [List.flatMap_append, List.flatMap_cons, List.append_assoc]
def Visit (k l : Nat) (vt : AV) (n : Nat) (all : List (List Int)) (B : List Int → List Thing) (Y Z : List (List Int) → List Thing → Prop) : Prop :=
 ∀ vis tr C, vis ++ [tr] <+: all → tr.length = n → Y vis C → TR (EL k) l [vt] (B tr ++ C) (fun v hs' => (v = bv true ∧ ∃ C', hs' = B tr ++ C' ∧ Y (vis ++ [tr]) C') ∨ (v = bv false ∧ ∃ C', hs' = B tr ++ C' ∧ Z (vis ++ [tr]) C'))
theorem tr_item {k : Nat} {its : List Item} {itv : AV} {D : List Thing} {sg : Int} {gsv lv mv vt : AV} {bt by_ bx bi xid l : Nat} {Y Z : List (List Int) → List Thing → Prop} (hn : its.length ≤ 120) (hi : Rdl D encIt itv its)
  (hcl : ∀ x ∈ its, x.could.l.length ≤ 4) {all : List (List Int)} (hy : Visit k l vt its.length all (fun tr => [.row bt 1 [vt], .row by_ 1 [.yield l], .row bx 1 [.ptr xid 0 5], .row bi 1 [.func 62 [] [.ptr bt 0 1, .ptr by_ 0 1, .ptr bx 0 1, .ptr bi 0 1]], .row xid 5 [iv sg, gsv, itv, lv, mv], ownL false vt encI tr] ++ D) Y Z) : ∀ (m i : Nat) (j : Int) (tr : List Int) (vis : List (List Int)) (C : List Thing), j = i → i + m = its.length → tr.length = its.length → Y vis C → vis ++ comps (tr.take i) (its.drop i) <+: all →
  TF (EL k) 62 [iv j, .ptr bt 0 1, .ptr by_ 0 1, .ptr bx 0 1, .ptr bi 0 1] ([.row bt 1 [vt], .row by_ 1 [.yield l], .row bx 1 [.ptr xid 0 5], .row bi 1 [.func 62 [] [.ptr bt 0 1, .ptr by_ 0 1, .ptr bx 0 1, .ptr bi 0 1]], .row xid 5 [iv sg, gsv, itv, lv, mv], ownL false vt encI tr] ++ (D ++ C)) (fun v hs' => ∃ tr' C', tr'.length = its.length ∧ tr'.take i = tr.take i ∧ hs' = [.row bt 1 [vt], .row by_ 1 [.yield l], .row bx 1 [.ptr xid 0 5], .row bi 1 [.func 62 [] [.ptr bt 0 1, .ptr by_ 0 1, .ptr bx 0 1, .ptr bi 0 1]], .row xid 5 [iv sg, gsv, itv, lv, mv], ownL false vt encI tr'] ++ (D ++ C') ∧
   ((v = bv true ∧ Y (vis ++ comps (tr.take i) (its.drop i)) C') ∨ (v = bv false ∧ ∃ q r, comps (tr.take i) (its.drop i) = q ++ r ∧ Z (vis ++ q) C'))) := by
 intro m
 induction m using Nat.strongRecOn with
 | _ m ih =>
 intro i j tr vis C hj hi' htr hY hp;subst hj;refine TF.enter (fn := Go.Proofs.Try.f62) rfl rfl rfl rfl rfl (zU rfl (zA R4 (zN (zS (zU rfl (zM R4 (zL 0 R3 R6 (zV R3 (Val.len_own (p := 5) rfl rfl rfl) (TO.eql rfl rfl rfl rfl rfl (fun c12 hc12=>zN ?_))))))))));cases c12 with
 | true =>
  replace hc12 := btrue hc12;refine zC rfl (zU rfl (zL 1 R3 R6 (zL 0 R3 R6 (TO.callY rfl rfl rfl rfl rfl (hy vis tr C (by have := hp; rw [comps_nil (List.drop_eq_nil_of_le aO), List.take_of_length_le aO] at this; exact this) htr hY) ?_))));rintro _ _ (⟨rfl, C1, rfl, hY1⟩ | ⟨rfl, C1, rfl, hZ1⟩)
  ·skip;refine zG (_::_::_::_::_::_::(D ++ C1)) rfl (zA R4 (zN (zR ?_)))
   exact ⟨rfl, _, rfl, tr, C1, htr, rfl, rfl, .inl ⟨rfl, by rw [comps_nil (List.drop_eq_nil_of_le aO), List.take_of_length_le aO]; exact hY1⟩⟩
  ·skip;refine zG (_::_::_::_::_::_::(D ++ C1)) rfl (zA R4 (zN (zR ?_)))
   exact ⟨rfl, _, rfl, tr, C1, htr, rfl, rfl, .inr ⟨rfl, [tr], [], by rw [comps_nil (List.drop_eq_nil_of_le aO), List.take_of_length_le aO]; rfl, hZ1⟩⟩
 | false =>
  replace hc12 := bfalse hc12;refine zD rfl (zK (zS (zU rfl (zL 0 R3 R6 (zM R4 (TO.iaddr_ownL (en := encI) (p := 5) rfl rfl rfl ⟨rfl, rfl⟩ rfl rfl rfl aO (fun id18 a18 ata18 ea18=>?_)))))))
  try simp only [Int.toNat_natCast] at ea18
  refine TO.store_ownL (en := encI) (p := 5) _ rfl rfl rfl ata18 rfl (by decide) rfl rfl rfl (by first | rfl | simp [GS.one]) (by (have := (List.getElem?_eq_some_iff.1 ea18).1; omega)) ?_;refine zG (_::_::_::_::_::_::(D ++ C)) rfl (zN (zU rfl (zL 2 R3 R6 (zV R3 (Val.nil_ptr rfl) (zF 0 R6 (zF 2 R6 (zL 4 R3 R6 (zM R4 (TO.fact (rdl_find (en := encIt) (v := itv) (l := its) (k := (i : Int)) hi (memS (memS (memS (memS (memS (memS (memL))))))) aO) (fun hq=>?_))))))))));obtain ⟨it, eit, pit, hpit, hvit⟩ := hq
  try simp only [Int.toNat_natCast] at eit
  refine zV R3 (hvit ⟨rfl, rfl⟩ rfl rfl) ?_
  have hitl := hcl it (List.mem_of_getElem? eit);refine zV R3 (Val.faddr_e (fo := 0) hpit rfl rfl rfl) (zV R3 (Val.load_e (PtE.add hpit (by decide)) (memS (memS (memS (memS (memS (memS (memL))))))) ⟨_, rfl, rfl⟩ rfl rfl) (zV R3 (Val.len_gs rfl rfl) (TO.eql rfl rfl rfl rfl rfl (fun c29 hc29=>zN ?_))));cases c29 with
  | true =>
   replace hc29 := btrue hc29;refine zC rfl (zU rfl (zL 3 R3 R6 (zM R4 (zV R3 (Val.add rfl rfl aO) (TO.callV rfl rfl rfl rfl rfl rfl (orcN rfl) (ih (m - 1) aO (i + 1) _ (tr.set i (-1)) vis C aO aO (by simpa using htr) hY (by rw [set_take aO, ← comps_one eit hc29]; exact hp)) ?_)))));rintro _ _ ⟨tr1, C1, ht1, hk1, rfl, (⟨rfl, hY1⟩ | ⟨rfl, q1, r1, hq1, hZ1⟩)⟩
   ·skip;refine zG (_::_::_::_::_::_::(D ++ C1)) rfl (zA R4 (zN (zR ?_)))
    exact ⟨rfl, _, rfl, tr1, C1, ht1, tr_keep hk1, rfl, .inl ⟨rfl, by rw [comps_one eit hc29, ← set_take aO]; exact hY1⟩⟩
   ·skip;refine zG (_::_::_::_::_::_::(D ++ C1)) rfl (zA R4 (zN (zR ?_)))
    exact ⟨rfl, _, rfl, tr1, C1, ht1, tr_keep hk1, rfl, .inr ⟨rfl, q1, r1, by rw [comps_one eit hc29, ← set_take aO]; exact hq1, hZ1⟩⟩
  | false =>
   replace hc29 := bfalse hc29;refine zD rfl (zK (zS (zU rfl (zL 2 R3 R6 (zV R3 (Val.nil_ptr rfl) (zF 0 R6 (zF 2 R6 (zL 4 R3 R6 (zM R4 (TO.fact (rdl_find (en := encIt) (v := itv) (l := its) (k := (i : Int)) hi (memS (memS (memS (memS (memS (memS (memL))))))) aO) (fun hq=>?_)))))))))));obtain ⟨it2, eit2, pit2, hpit2, hvit2⟩ := hq
   try simp only [Int.toNat_natCast] at eit2
   refine zV R3 (hvit2 ⟨rfl, rfl⟩ rfl rfl) ?_
   have e40 := Option.some.inj (eit.symm.trans eit2);subst e40;refine zV R3 (Val.faddr_e (fo := 0) hpit2 rfl rfl rfl) (zV R3 (Val.load_e (PtE.add hpit2 (by decide)) (memS (memS (memS (memS (memS (memS (memL))))))) ⟨_, rfl, rfl⟩ rfl rfl) (zV R3 (Val.len_gs rfl rfl) (zM R4 (zN (zB (T.loop (fun μ s => ∃ c : Nat, ∃ jc : Int, ∃ tr2 : List Int, ∃ C2 : List Thing, μ = it.could.l.length - c ∧ jc = c ∧ c ≤ it.could.l.length ∧ tr2.length = its.length ∧ tr2.take i = tr.take i ∧ Y (vis ++ (it.could.l.take c).flatMap fun a => comps (tr.take i ++ [a]) (its.drop (i + 1))) C2 ∧ s = ⟨[], [(0, iv (i : Int)), (1, .ptr bt 0 1), (2, .ptr by_ 0 1), (3, .ptr bx 0 1), (4, .ptr bi 0 1), (42, it.could.v), (43, iv (it.could.l.length : Int)), (44, iv jc)], (.row bt 1 [vt]) :: (.row by_ 1 [.yield l]) :: (.row bx 1 [.ptr xid 0 5]) :: (.row bi 1 [.func 62 [] [.ptr bt 0 1, .ptr by_ 0 1, .ptr bx 0 1, .ptr bi 0 1]]) :: (.row xid 5 [iv sg, gsv, itv, lv, mv]) :: (ownL false vt encI tr2) :: (D ++ C2)⟩) (k := _) (s' := _) ⟨0, 0, _, _, rfl, (by first | rfl | omega | (simp; done) | (simp; omega) | simp_all), (by first | rfl | omega | (simp; done) | (simp; omega) | simp_all), (by simpa using htr), (by exact set_takeL), (by simpa using hY), rfl⟩ ⟨rfl, (keep_cons rfl (keep_cons rfl (keep_cons rfl (keep_cons rfl (keep_cons rfl (keep_cons rfl (keep_cons rfl (keep_cons rfl keep_nil)))))))), (.cons_cons _ (.cons_cons _ (.cons_cons _ (.cons_cons _ (.cons_cons _ (.cons_cons _ (.refl _)))))))⟩ ?_))))));rintro μ _ ⟨c, jc, tr2, C2, hk0, hjc, hcl, ht2, hk2, hY2, rfl⟩;subst hjc;refine zU rfl (TO.lss rfl rfl rfl rfl rfl (fun c45 hc45=>zN (zS ?_)));cases c45 with
   | true =>
    replace hc45 := btrue hc45;refine zC rfl (zK (zS (zB (zU rfl (TO.index_gs rfl rfl rfl ⟨rfl, rfl⟩ rfl rfl aO (fun cc rcc ecc=>?_))))))
    try simp only [Int.toNat_natCast] at ecc
    refine zV R3 (Val.load_tree ⟨_, rfl, rfl⟩ rfl) (zA R4 (zN (zU rfl (zL 0 R3 R6 (zM R4 (zM R4 (TO.iaddr_ownL (en := encI) (p := 5) rfl rfl rfl ⟨rfl, rfl⟩ rfl rfl rfl aO (fun id51 a51 ata51 ea51=>?_))))))))
    try simp only [Int.toNat_natCast] at ea51
    refine TO.store_ownL (en := encI) (p := 5) _ rfl rfl rfl ata51 rfl (by decide) rfl rfl rfl (by first | rfl | simp [GS.one]) (by (have := (List.getElem?_eq_some_iff.1 ea51).1; omega)) ?_;refine zG (_::_::_::_::_::_::(D ++ C2)) rfl (zN (zU rfl (zL 3 R3 R6 (zM R4 (zV R3 (Val.add rfl rfl aO) (TO.callV rfl rfl rfl rfl rfl rfl (orcN rfl) (ih (m - 1) aO (i + 1) _ (tr2.set i cc) _ C2 aO aO (by simpa using ht2) hY2 (by rw [set_take aO, hk2, List.append_assoc]; rw [comps_all eit hc29] at hp; exact (pre_app (flat_pre ecc)).trans hp)) ?_))))));rintro _ _ ⟨tr1, C1, ht1, hk1, rfl, (⟨rfl, hY1⟩ | ⟨rfl, q1, r1, hq1, hZ1⟩)⟩
    ·skip;refine zG (_::_::_::_::_::_::(D ++ C1)) rfl (zV R3 (Val.not rfl) (zN (zD rfl (zK (zT rfl (zV R3 (Val.add rfl rfl aO) (zM R4 (zN ?_))))))))
     refine ⟨_, _, aO, ⟨c + 1, _, _, _, rfl, (by first | omega | simp_all), (by first | omega | simp_all), (by exact ht1), (by exact (tr_keep hk1).trans hk2), (by have e : tr.take i ++ [cc] = (tr2.set i cc).take (i + 1) := (by rw [set_take aO, hk2]); rw [take_snoc ecc, List.flatMap_append, ← List.append_assoc, List.flatMap_cons, List.flatMap_nil, List.append_nil, e]; exact hY1), rfl⟩, ⟨rfl, (keep_cons rfl (keep_cons rfl (keep_cons rfl (keep_cons rfl (keep_cons rfl (keep_cons rfl (keep_cons rfl (keep_cons rfl keep_nil)))))))), (.cons_cons _ (.cons_cons _ (.cons_cons _ (.cons_cons _ (.cons_cons _ (.cons_cons _ (.refl _)))))))⟩⟩
    ·skip;refine zG (_::_::_::_::_::_::(D ++ C1)) rfl (zV R3 (Val.not rfl) (zN (zC rfl (zU rfl (zA R4 (zN (zR ?_)))))))
     exact ⟨rfl, _, rfl, tr1, C1, ht1, (tr_keep hk1).trans hk2, rfl, .inr ⟨rfl, _, _, comps_cut eit ecc hc29 (by rw [← hk2, ← set_take aO]; exact hq1), by rw [← List.append_assoc]; exact hZ1⟩⟩
   | false =>
    replace hc45 := bfalse hc45;refine zD rfl (zE (zU rfl (zA R4 (zN (zR ?_)))));exact ⟨rfl, _, rfl, tr2, C2, ht2, hk2, rfl, .inl ⟨rfl, by rw [comps_all eit hc29]; rw [show it.could.l.take c = it.could.l from List.take_of_length_le aO] at hY2; exact hY2⟩⟩
theorem tr_iter {k : Nat} {its : List Item} {itv : AV} {D : List Thing} {sg : Int} {gsv lv mv : AV} {bx xid l : Nat} {Y Z : List (List Int) → List Thing → Prop} (hn : its.length ≤ 120) (hi : Rdl D encIt itv its)
  (hcl : ∀ x ∈ its, x.could.l.length ≤ 4) (hy : ∀ bt by_ bi vt, Visit k l vt its.length (truthsOf its) (fun tr => [.row bt 1 [vt], .row by_ 1 [.yield l], .row bx 1 [.ptr xid 0 5], .row bi 1 [.func 62 [] [.ptr bt 0 1, .ptr by_ 0 1, .ptr bx 0 1, .ptr bi 0 1]], .row xid 5 [iv sg, gsv, itv, lv, mv], ownL false vt encI tr] ++ D) Y Z) (C : List Thing) (hY : Y [] C) :
  TF (EL k) 61 [.yield l, .ptr bx 0 1] ([.row bx 1 [.ptr xid 0 5], .row xid 5 [iv sg, gsv, itv, lv, mv]] ++ (D ++ C)) (fun v hs' => ∃ C', hs' = [.row bx 1 [.ptr xid 0 5], .row xid 5 [iv sg, gsv, itv, lv, mv]] ++ (D ++ C') ∧
   (Y (truthsOf its) C' ∨ ∃ q r, truthsOf its = q ++ r ∧ Z q C')) := by
 refine TF.enter (fn := Go.Proofs.Try.f61) rfl rfl rfl rfl rfl (zU rfl (zQ 1 [_] R7 (fun b2=>zN (zU rfl (zL 1 R3 R6 (zV R3 (Val.nil_ptr rfl) (zF 0 R6 (zF 2 R6 (zL 2 R3 R6 (zV R3 (Val.len_l hi (memS (memS (memS (memL)))) rfl rfl) (TO.makeInts (m := its.length) (b := 8) rfl rfl rfl ⟨rfl, rfl⟩ rfl rfl rfl rfl aO aO (fun v11=>zJ 1 [_] R7 (fun b3=>TO.ownfact (p := 1) rfl (fun hot24=>TO.store_row (p := 0) (cv := [_]) (cells' := [_]) rfl rfl rfl rfl rfl rfl rfl hot24.1 rfl rfl (by simp [hot24.2]) (by decide) rfl (zG (_::_::_::_::_::(D ++ C)) rfl (zN (zU rfl (zJ 1 [_] R7 (fun b4=>zN (zU rfl (zV R3 (Val.makeFunc rfl rfl) (TO.store_row (p := 0) (cv := [_]) (cells' := [_]) rfl rfl rfl rfl rfl rfl rfl rfl rfl rfl (by first | rfl | simp [GS.one]) (by decide) rfl (zG (_::_::_::_::_::_::(D ++ C)) rfl (zN (zT rfl (zL 0 R3 R6 (TO.pick (p := 2) rfl (zG (_::_::_::_::_::_::(D ++ C)) rfl (TO.pick (p := 5) rfl (zG (_::_::_::_::_::_::(D ++ C)) rfl (TO.pick (p := 2) rfl (zG (_::_::_::_::_::_::(D ++ C)) rfl (TO.pick (p := 5) rfl (zG (_::_::_::_::_::_::(D ++ C)) rfl (TO.pick (p := 5) rfl ?_)))))))))))))))))))))))))))))))))));refine zG (_::_::_::_::_::_::(D ++ C)) rfl (TO.pick (p := 5) rfl (zG (_::_::_::_::_::_::(D ++ C)) rfl (TO.callV rfl rfl rfl rfl rfl rfl (orcN rfl) (tr_item hn hi hcl (hy _ _ _ _) its.length 0 0 _ [] C rfl aO (by simp) hY (by simp [truthsOf])) ?_)));rintro _ _ ⟨tr1, C1, ht1, hk1, rfl, (⟨rfl, hY1⟩ | ⟨rfl, q1, r1, hq1, hZ1⟩)⟩
 ·skip;refine zG (_::_::_::_::_::_::(D ++ C1)) rfl (TO.keep (s' := ⟨[], [], _ :: _ :: (D ++ C1)⟩) (sc (.cons _ (.cons _ (.cons_cons _ (.cons _ (.cons_cons _ (.cons _ (.refl _)))))))) (zN ?_))
  exact ⟨rfl, _, rfl, _, rfl, .inl (by simpa [truthsOf] using hY1)⟩
 ·skip;refine zG (_::_::_::_::_::_::(D ++ C1)) rfl (TO.keep (s' := ⟨[], [], _ :: _ :: (D ++ C1)⟩) (sc (.cons _ (.cons _ (.cons_cons _ (.cons _ (.cons_cons _ (.cons _ (.refl _)))))))) (zN ?_))
  exact ⟨rfl, _, rfl, _, rfl, .inr ⟨q1, r1, by simpa [truthsOf] using hq1, by simpa using hZ1⟩⟩
end Go.Am.Ythckcbfijdambaa
end
section
namespace Go.Am.Ythckcbfijdambaa
open Go.Am Go.RowKit
set_option linter.unusedVariables false
set_option linter.unusedSimpArgs false
theorem q_out (lo : Int) (hi : Int) (x : GS encI) (hb : x.l.length < 4611686018427387904) : Comes (EL 0) 73 [iv lo, iv hi, x.v] (bv (decide (∃ n ∈ x.l, n < lo ∨ hi < n))) := by
 refine Comes.of (TF.enter (fn := Go.Proofs.Try.f73) rfl rfl rfl rfl rfl ?_);refine zU rfl (zQ 1 [_] R7 (fun b3=>zQ 1 [_] R7 (fun b4=>zA R4 (zN (zU rfl (zM R4 (zV R3 (Val.makeFunc rfl rfl) (TO.callIn rfl rfl rfl rfl rfl rfl (orcN rfl) (TF.enter (fn := Go.Proofs.Try.f85) rfl rfl rfl rfl rfl (zU rfl (zA R4 (zN (zU rfl (zM R4 (zM R4 (TO.callIn rfl rfl rfl rfl rfl rfl (orcN rfl) (TF.enter (fn := Go.Proofs.Try.f104) rfl rfl rfl rfl rfl (zU rfl (zA R4 (zN (zS (zU rfl (zM R4 (zV R3 (Val.len_gs rfl rfl) (zM R4 (zN (zB (T.loop (fun μ s => ∃ i : Nat, ∃ j : Int, μ = x.l.length - i ∧ j = i ∧ i ≤ x.l.length ∧ (∀ n ∈ x.l.take i, ¬ (n < lo ∨ hi < n)) ∧ s = ⟨[], [(0, x.v), (1, .func 101 [] [.ptr b3 0 1, .ptr b4 0 1]), (7, iv (x.l.length : Int)), (8, iv j)], [.row b4 1 [iv hi], .row b3 1 [iv lo]]⟩) (k := _) (s' := _) ⟨0, 0, rfl, (by first | rfl | omega | (simp; done) | (simp; omega) | simp_all), (by first | rfl | omega | (simp; done) | (simp; omega) | simp_all), (by first | rfl | omega | (simp; done) | (simp; omega) | simp_all), rfl⟩ ⟨rfl, (keep_cons rfl (keep_cons rfl (keep_cons rfl (keep_cons rfl keep_nil)))), (.cons_cons _ (.cons_cons _ .slnil))⟩ ?_))))))))))))))))))))))))))));rintro μ _ ⟨i, j, hk0, hj, hil, hall, rfl⟩;subst hj;refine zU rfl (TO.lss rfl rfl rfl rfl rfl (fun c9 hc9=>zN (zS ?_)));cases c9 with
 | true =>
  replace hc9 := btrue hc9;refine zC rfl (zK (zS (zB (zU rfl (zM R4 (zA R4 (zN (zU rfl (zM R4 (zM R4 (zM R4 (TO.index_gs rfl rfl rfl ⟨rfl, rfl⟩ rfl rfl aO (fun a14 ra14 ea14=>?_)))))))))))))
  try simp only [Int.toNat_natCast] at ea14
  refine zV R3 (Val.load_tree ⟨_, rfl, rfl⟩ rfl) (TO.callIn rfl rfl rfl rfl rfl rfl (orcN rfl) (TF.enter (fn := Go.Proofs.Try.f101) rfl rfl rfl rfl rfl (zU rfl (zA R4 (zN (zU rfl (zM R4 (zL 1 R3 R6 (TO.lss rfl rfl rfl rfl rfl (fun c7 hc7=>zM R4 ?_))))))))));cases c7 with
  | true =>
   replace hc7 := btrue hc7;refine zO R3 (zO R3 (zO R3 (zP R6 (zA R4 (zN (zR ?_))))));refine ⟨rfl, _, rfl, ?_⟩;refine zN (zC rfl (zU rfl (zM R4 (zA R4 (zN (zR ?_))))));refine ⟨rfl, _, rfl, ?_⟩;refine TO.geq rfl rfl rfl rfl rfl (fun c8 hc8=>zA R4 (zN (zR ?_)));refine ⟨rfl, _, rfl, ?_⟩;refine zA R4 (zN (zR ?_));cases c8 with
   | true =>
    replace hc8 := btrue hc8;exact ⟨rfl, _, rfl, RefN.cast .lit (bv_t (by first | (exfalso; omega) | exact ⟨_, List.mem_of_getElem? ea14, by omega⟩ | (rw [List.take_of_length_le aO] at hall; exact fun ⟨n, h1, h2⟩ => hall n h1 h2)))⟩
   | false =>
    replace hc8 := bfalse hc8;exact ⟨rfl, _, rfl, RefN.cast .lit (bv_f (by first | (exfalso; omega) | exact ⟨_, List.mem_of_getElem? ea14, by omega⟩ | (rw [List.take_of_length_le aO] at hall; exact fun ⟨n, h1, h2⟩ => hall n h1 h2)))⟩
  | false =>
   replace hc7 := bfalse hc7;refine zM R4 (zL 0 R3 R6 (TO.gtr rfl rfl rfl rfl rfl (fun c11 hc11=>zP R6 (zA R4 (zN (zR ?_))))));refine ⟨rfl, _, rfl, ?_⟩;refine zN ?_;cases c11 with
   | true =>
    replace hc11 := btrue hc11;refine zC rfl (zU rfl (zM R4 (zA R4 (zN (zR ?_)))));refine ⟨rfl, _, rfl, ?_⟩;refine TO.geq rfl rfl rfl rfl rfl (fun c8 hc8=>zA R4 (zN (zR ?_)));refine ⟨rfl, _, rfl, ?_⟩;refine zA R4 (zN (zR ?_));cases c8 with
    | true =>
     replace hc8 := btrue hc8;exact ⟨rfl, _, rfl, RefN.cast .lit (bv_t (by first | (exfalso; omega) | exact ⟨_, List.mem_of_getElem? ea14, by omega⟩ | (rw [List.take_of_length_le aO] at hall; exact fun ⟨n, h1, h2⟩ => hall n h1 h2)))⟩
    | false =>
     replace hc8 := bfalse hc8;exact ⟨rfl, _, rfl, RefN.cast .lit (bv_f (by first | (exfalso; omega) | exact ⟨_, List.mem_of_getElem? ea14, by omega⟩ | (rw [List.take_of_length_le aO] at hall; exact fun ⟨n, h1, h2⟩ => hall n h1 h2)))⟩
   | false =>
    replace hc11 := bfalse hc11;refine zD rfl (zK (zT rfl (zV R3 (Val.add rfl rfl aO) (zM R4 (zN ?_)))));refine ⟨_, _, aO, ⟨i + 1, _, rfl, (by first | omega | simp_all), (by first | omega | simp_all), (by rw [take_snoc ea14]; intro n hn; rcases List.mem_append.1 hn with hn | hn; exact hall n hn; simp at hn; subst hn; omega), rfl⟩, ⟨rfl, (keep_cons rfl (keep_cons rfl (keep_cons rfl (keep_cons rfl keep_nil)))), (.cons_cons _ (.cons_cons _ .slnil))⟩⟩
 | false =>
  replace hc9 := bfalse hc9;refine zD rfl (zE (zU rfl (zA R4 (zN (zR ?_)))));refine ⟨rfl, _, rfl, ?_⟩;refine TO.geq rfl rfl rfl rfl rfl (fun c8 hc8=>zA R4 (zN (zR ?_)));refine ⟨rfl, _, rfl, ?_⟩;refine zA R4 (zN (zR ?_));cases c8 with
  | true =>
   replace hc8 := btrue hc8;exact ⟨rfl, _, rfl, RefN.cast .lit (bv_t (by first | (exfalso; omega) | exact ⟨_, List.mem_of_getElem? ea14, by omega⟩ | (rw [List.take_of_length_le aO] at hall; exact fun ⟨n, h1, h2⟩ => hall n h1 h2)))⟩
  | false =>
   replace hc8 := bfalse hc8;exact ⟨rfl, _, rfl, RefN.cast .lit (bv_f (by first | (exfalso; omega) | exact ⟨_, List.mem_of_getElem? ea14, by omega⟩ | (rw [List.take_of_length_le aO] at hall; exact fun ⟨n, h1, h2⟩ => hall n h1 h2)))⟩
theorem c_outside (lo : Int) (hi : Int) (x : GS encI) (hb : x.l.length < 4611686018427387904) : Comes (EL 0) 58 [iv lo, iv hi, x.v] (bv (decide (∃ n ∈ x.l, n < lo ∨ hi < n))) := by
 refine Comes.of (TF.enter (fn := Go.Proofs.Try.f58) rfl rfl rfl rfl rfl ?_);refine zU rfl (zQ 1 [_] R7 (fun b3=>zQ 1 [_] R7 (fun b4=>zA R4 (zN (zU rfl (zM R4 (zV R3 (Val.makeFunc rfl rfl) (TO.callIn rfl rfl rfl rfl rfl rfl (orcN rfl) (TF.enter (fn := Go.Proofs.Try.f85) rfl rfl rfl rfl rfl (zU rfl (zA R4 (zN (zU rfl (zM R4 (zM R4 (TO.callIn rfl rfl rfl rfl rfl rfl (orcN rfl) (TF.enter (fn := Go.Proofs.Try.f104) rfl rfl rfl rfl rfl (zU rfl (zA R4 (zN (zS (zU rfl (zM R4 (zV R3 (Val.len_gs rfl rfl) (zM R4 (zN (zB (T.loop (fun μ s => ∃ i : Nat, ∃ j : Int, μ = x.l.length - i ∧ j = i ∧ i ≤ x.l.length ∧ (∀ n ∈ x.l.take i, ¬ (n < lo ∨ hi < n)) ∧ s = ⟨[], [(0, x.v), (1, .func 86 [] [.ptr b3 0 1, .ptr b4 0 1]), (7, iv (x.l.length : Int)), (8, iv j)], [.row b4 1 [iv hi], .row b3 1 [iv lo]]⟩) (k := _) (s' := _) ⟨0, 0, rfl, (by first | rfl | omega | (simp; done) | (simp; omega) | simp_all), (by first | rfl | omega | (simp; done) | (simp; omega) | simp_all), (by first | rfl | omega | (simp; done) | (simp; omega) | simp_all), rfl⟩ ⟨rfl, (keep_cons rfl (keep_cons rfl (keep_cons rfl (keep_cons rfl keep_nil)))), (.cons_cons _ (.cons_cons _ .slnil))⟩ ?_))))))))))))))))))))))))))));rintro μ _ ⟨i, j, hk0, hj, hil, hall, rfl⟩;subst hj;refine zU rfl (TO.lss rfl rfl rfl rfl rfl (fun c9 hc9=>zN (zS ?_)));cases c9 with
 | true =>
  replace hc9 := btrue hc9;refine zC rfl (zK (zS (zB (zU rfl (zM R4 (zA R4 (zN (zU rfl (zM R4 (zM R4 (zM R4 (TO.index_gs rfl rfl rfl ⟨rfl, rfl⟩ rfl rfl aO (fun a14 ra14 ea14=>?_)))))))))))))
  try simp only [Int.toNat_natCast] at ea14
  refine zV R3 (Val.load_tree ⟨_, rfl, rfl⟩ rfl) (TO.callIn rfl rfl rfl rfl rfl rfl (orcN rfl) (TF.enter (fn := Go.Proofs.Try.f86) rfl rfl rfl rfl rfl (zU rfl (zA R4 (zN (zU rfl (zM R4 (zL 1 R3 R6 (TO.lss rfl rfl rfl rfl rfl (fun c7 hc7=>zM R4 ?_))))))))));cases c7 with
  | true =>
   replace hc7 := btrue hc7;refine zO R3 (zO R3 (zO R3 (zP R6 (zA R4 (zN (zR ?_))))));refine ⟨rfl, _, rfl, ?_⟩;refine zN (zC rfl (zU rfl (zM R4 (zA R4 (zN (zR ?_))))));refine ⟨rfl, _, rfl, ?_⟩;refine TO.geq rfl rfl rfl rfl rfl (fun c8 hc8=>zA R4 (zN (zR ?_)));refine ⟨rfl, _, rfl, ?_⟩;refine zA R4 (zN (zR ?_));cases c8 with
   | true =>
    replace hc8 := btrue hc8;exact ⟨rfl, _, rfl, RefN.cast .lit (bv_t (by first | (exfalso; omega) | exact ⟨_, List.mem_of_getElem? ea14, by omega⟩ | (rw [List.take_of_length_le aO] at hall; exact fun ⟨n, h1, h2⟩ => hall n h1 h2)))⟩
   | false =>
    replace hc8 := bfalse hc8;exact ⟨rfl, _, rfl, RefN.cast .lit (bv_f (by first | (exfalso; omega) | exact ⟨_, List.mem_of_getElem? ea14, by omega⟩ | (rw [List.take_of_length_le aO] at hall; exact fun ⟨n, h1, h2⟩ => hall n h1 h2)))⟩
  | false =>
   replace hc7 := bfalse hc7;refine zM R4 (zL 0 R3 R6 (TO.gtr rfl rfl rfl rfl rfl (fun c11 hc11=>zP R6 (zA R4 (zN (zR ?_))))));refine ⟨rfl, _, rfl, ?_⟩;refine zN ?_;cases c11 with
   | true =>
    replace hc11 := btrue hc11;refine zC rfl (zU rfl (zM R4 (zA R4 (zN (zR ?_)))));refine ⟨rfl, _, rfl, ?_⟩;refine TO.geq rfl rfl rfl rfl rfl (fun c8 hc8=>zA R4 (zN (zR ?_)));refine ⟨rfl, _, rfl, ?_⟩;refine zA R4 (zN (zR ?_));cases c8 with
    | true =>
     replace hc8 := btrue hc8;exact ⟨rfl, _, rfl, RefN.cast .lit (bv_t (by first | (exfalso; omega) | exact ⟨_, List.mem_of_getElem? ea14, by omega⟩ | (rw [List.take_of_length_le aO] at hall; exact fun ⟨n, h1, h2⟩ => hall n h1 h2)))⟩
    | false =>
     replace hc8 := bfalse hc8;exact ⟨rfl, _, rfl, RefN.cast .lit (bv_f (by first | (exfalso; omega) | exact ⟨_, List.mem_of_getElem? ea14, by omega⟩ | (rw [List.take_of_length_le aO] at hall; exact fun ⟨n, h1, h2⟩ => hall n h1 h2)))⟩
   | false =>
    replace hc11 := bfalse hc11;refine zD rfl (zK (zT rfl (zV R3 (Val.add rfl rfl aO) (zM R4 (zN ?_)))));refine ⟨_, _, aO, ⟨i + 1, _, rfl, (by first | omega | simp_all), (by first | omega | simp_all), (by rw [take_snoc ea14]; intro n hn; rcases List.mem_append.1 hn with hn | hn; exact hall n hn; simp at hn; subst hn; omega), rfl⟩, ⟨rfl, (keep_cons rfl (keep_cons rfl (keep_cons rfl (keep_cons rfl keep_nil)))), (.cons_cons _ (.cons_cons _ .slnil))⟩⟩
 | false =>
  replace hc9 := bfalse hc9;refine zD rfl (zE (zU rfl (zA R4 (zN (zR ?_)))));refine ⟨rfl, _, rfl, ?_⟩;refine TO.geq rfl rfl rfl rfl rfl (fun c8 hc8=>zA R4 (zN (zR ?_)));refine ⟨rfl, _, rfl, ?_⟩;refine zA R4 (zN (zR ?_));cases c8 with
  | true =>
   replace hc8 := btrue hc8;exact ⟨rfl, _, rfl, RefN.cast .lit (bv_t (by first | (exfalso; omega) | exact ⟨_, List.mem_of_getElem? ea14, by omega⟩ | (rw [List.take_of_length_le aO] at hall; exact fun ⟨n, h1, h2⟩ => hall n h1 h2)))⟩
  | false =>
   replace hc8 := bfalse hc8;exact ⟨rfl, _, rfl, RefN.cast .lit (bv_f (by first | (exfalso; omega) | exact ⟨_, List.mem_of_getElem? ea14, by omega⟩ | (rw [List.take_of_length_le aO] at hall; exact fun ⟨n, h1, h2⟩ => hall n h1 h2)))⟩
theorem q_lettered (s : Sg)  : Comes (EL 0) 77 [.agg (encS.f s)] (bv (decide (s.letter < 23))) := by
 refine Comes.of (TF.enter (fn := Go.Proofs.Try.f77) rfl rfl rfl rfl rfl ?_);refine zU rfl (zQ 2 [_,_] R7 (fun b1=>zA R4 (zN (zU rfl (zF 1 R6 (zL 0 R3 R6 (TO.lss rfl rfl rfl rfl rfl (fun c5 hc5=>zA R4 (zN (zR ?_))))))))));cases c5 with
 | true =>
  replace hc5 := btrue hc5;exact ⟨rfl, _, rfl, RefN.cast .lit (bv_t (by assumption))⟩
 | false =>
  replace hc5 := bfalse hc5;exact ⟨rfl, _, rfl, RefN.cast .lit (bv_f (by assumption))⟩
theorem q_before (a : Sg) (b : Sg)  : Comes (EL 0) 78 [.agg (encS.f a), .agg (encS.f b)] (bv (decide (a.round < b.round ∨ a.round = b.round ∧ a.letter < b.letter))) := by
 refine Comes.of (TF.enter (fn := Go.Proofs.Try.f78) rfl rfl rfl rfl rfl ?_);refine zU rfl (zQ 2 [_,_] R7 (fun b2=>zQ 2 [_,_] R7 (fun b3=>zA R4 (zN (zU rfl (zF 0 R6 (zL 1 R3 R6 (zF 0 R6 (zL 0 R3 R6 (TO.lss rfl rfl rfl rfl rfl (fun c9 hc9=>zM R4 ?_)))))))))));cases c9 with
 | true =>
  replace hc9 := btrue hc9;refine zO R3 (zO R3 (zO R3 (zO R3 (zO R3 (zO R3 (zO R3 (zO R3 (zO R3 (zO R3 (zO R3 (zO R3 (zP R6 (zA R4 (zN (zR ?_)))))))))))))));exact ⟨rfl, _, rfl, RefN.cast .lit (bv_t aO)⟩
 | false =>
  replace hc9 := bfalse hc9;refine zF 0 R6 (zL 1 R3 R6 (zF 0 R6 (zL 0 R3 R6 (TO.eql rfl rfl rfl rfl rfl (fun c15 hc15=>zM R4 ?_)))));cases c15 with
  | true =>
   replace hc15 := btrue hc15;refine zF 1 R6 (zL 1 R3 R6 (zF 1 R6 (zL 0 R3 R6 (TO.lss rfl rfl rfl rfl rfl (fun c21 hc21=>zP R6 (zP R6 (zA R4 (zN (zR ?_)))))))));cases c21 with
   | true =>
    replace hc21 := btrue hc21;exact ⟨rfl, _, rfl, RefN.cast .lit (bv_t aO)⟩
   | false =>
    replace hc21 := bfalse hc21;exact ⟨rfl, _, rfl, RefN.cast .lit (bv_f aO)⟩
  | false =>
   replace hc15 := bfalse hc15;refine zO R3 (zO R3 (zO R3 (zO R3 (zO R3 (zP R6 (zP R6 (zA R4 (zN (zR ?_)))))))));exact ⟨rfl, _, rfl, RefN.cast .lit (bv_f aO)⟩
end Go.Am.Ythckcbfijdambaa
end
section
namespace Go.Am.Ythckcbfijdambaa
open Go.Am Go.RowKit
set_option linter.unusedVariables false
set_option linter.unusedSimpArgs false
theorem q_none (s : Sg)  : Comes (EL 1) 76 [.agg (encS.f s)] (bv (decide (¬ sigOk s))) := by
 refine Comes.of (TF.enter (fn := Go.Proofs.Try.f76) rfl rfl rfl rfl rfl ?_);refine zU rfl (zQ 2 [_,_] R7 (fun b1=>zA R4 (zN (zU rfl (zF 0 R6 (zL 0 R3 R6 (TO.build1 (en := encI) (a := _) rfl rfl rfl ⟨rfl, rfl⟩ ⟨_, rfl, rfl⟩ (by decide) (by decide) rfl rfl (fun v5=>TO.callD rfl rfl rfl rfl rfl (orcL rfl aD) (.cons .lit (.cons .lit (.cons (.ownL (p := 0) rfl .ints) .nil))) (sem_of (q_out _ _ _ (by exact out1_small))) (fun c6 hc6=>?_)))))))));replace hc6 := out1 hc6;refine zM R4 ?_;cases c6 with
 | true =>
  replace hc6 := btrue hc6;refine zO R3 (zO R3 (zO R3 (zO R3 (zP R6 (zA R4 (zN (zR ?_)))))));exact ⟨rfl, _, rfl, RefN.cast .lit (bv_t (by unfold sigOk inR; omega))⟩
 | false =>
  replace hc6 := bfalse hc6;refine zF 1 R6 (zL 1 R3 R6 (TO.build1 (en := encI) (a := _) rfl rfl rfl ⟨rfl, rfl⟩ ⟨_, rfl, rfl⟩ (by decide) (by decide) rfl rfl (fun v10=>TO.callD rfl rfl rfl rfl rfl (orcL rfl aD) (.cons .lit (.cons .lit (.cons (.ownL (p := 0) rfl .ints) .nil))) (sem_of (q_out _ _ _ (by exact out1_small))) (fun c11 hc11=>?_))));replace hc11 := out1 hc11;refine zP R6 (zA R4 (zN (zR ?_)));cases c11 with
  | true =>
   replace hc11 := btrue hc11;exact ⟨rfl, _, rfl, RefN.cast .lit (bv_t (by unfold sigOk inR; omega))⟩
  | false =>
   replace hc11 := bfalse hc11;exact ⟨rfl, _, rfl, RefN.cast .lit (bv_f (by unfold sigOk inR; omega))⟩
theorem q_chg {k bg : Nat} (hk : 1 ≤ k) (g : Gat) (i : Nat) (c : Chg) (C : List Thing) (hi : g.ch.l[i]? = some c) (hb : g.ch.l.length ≤ 4) :
  TF (EL k) 80 [iv (i : Int), .agg (encC.f c), .ptr bg 0 4] (.row bg 4 [iv g.round, iv g.letter, iv g.leaves, g.ch.v] :: C) fun v hs' => v = iv (chgErr g.leaves c (if i = 0 then none else g.ch.l[i - 1]?)) ∧ hs' = .row bg 4 [iv g.round, iv g.letter, iv g.leaves, g.ch.v] :: C := by
 have hlt := (List.getElem?_eq_some_iff.1 hi).1;refine TF.enter (fn := Go.Proofs.Try.f80) rfl rfl rfl rfl rfl (zU rfl (zQ 3 [_,_,_] R7 (fun b4=>zA R4 (zN (zU rfl (zA R4 (zA R4 (zN (zS (zU rfl (zV R3 (vW 0 [_,_,_] R5 R4) (TO.callIn rfl rfl rfl rfl rfl rfl (orcN rfl) (TF.enter (fn := Go.Proofs.Try.f81) rfl rfl rfl rfl rfl (zU rfl (zQ 3 [_,_,_] R7 (fun b1=>zA R4 (zN (zS (zU rfl (zF 0 R6 (zL 0 R3 R6 (zN (zB (zU rfl (TO.eql rfl rfl rfl rfl rfl (fun c6 hc6=>zA R4 (zN ?_)))))))))))))))))))))))))));cases c6 with
 | true =>
  replace hc6 := btrue hc6;refine zC rfl (zU rfl (zF 1 R6 (zL 0 R3 R6 (zV R3 (Val.build (cs := [_]) (vs := [(_, _)]) rfl rfl rfl) (zV R3 (Val.makeIface rfl rfl rfl) (zA R4 (zN (zR ?_))))))));refine ⟨rfl, _, rfl, ?_⟩;refine zN (zB (zU rfl (zV R3 (Val.bin (r := bv false) rfl rfl (by kernel_rfl)) (zN (zD rfl (zU rfl (zV R3 (Val.assert_no rfl rfl rfl rfl rfl) (zX R5 (zX R5 (zN (zD rfl (zK (zS (zU rfl (zM R4 (zF 2 R6 (zL 2 R3 R6 (zF 1 R6 (zL 1 R3 R6 (TO.build1 (en := encI) (a := _) rfl rfl rfl ⟨rfl, rfl⟩ ⟨_, rfl, rfl⟩ (by decide) (by decide) rfl rfl (fun v20=>TO.callD rfl rfl rfl rfl rfl (orcL rfl aD) (.cons .lit (.cons .lit (.cons (.ownL (p := 0) rfl .ints) .nil))) (sem_of (q_out _ _ _ (by exact out1_small))) (fun c21 hc21=>?_))))))))))))))))))))));replace hc21 := out1 hc21;refine zM R4 ?_;cases c21 with
  | true =>
   replace hc21 := btrue hc21;refine zO R3 (zO R3 (zO R3 (zO R3 (zO R3 (zO R3 (zO R3 (zP R6 (zN (zC rfl (zU rfl (zA R4 (zN (T.keep (s' := ⟨[], [(5, _)], _ :: C⟩) (sc (.cons _ (.cons _ (.cons _ (.cons_cons _ (.refl _)))))) (zR ?_))))))))))))));exact ⟨rfl, _, rfl, congrArg iv (by first | (simp_all [chgErr, inR]; done) | (simp_all [chgErr, inR]; omega)), rfl⟩
  | false =>
   replace hc21 := bfalse hc21;refine zM R4 (TO.bmin rfl rfl rfl rfl rfl (zM R4 (zF 2 R6 (zL 2 R3 R6 (TO.build1 (en := encI) (a := _) rfl rfl rfl ⟨rfl, rfl⟩ ⟨_, rfl, rfl⟩ (by decide) (by decide) rfl rfl (fun v28=>TO.callD rfl rfl rfl rfl rfl (orcL rfl aD) (.cons .lit (.cons .lit (.cons (.ownL (p := 0) rfl .ints) .nil))) (sem_of (q_out _ _ _ (by exact out1_small))) (fun c29 hc29=>?_)))))));replace hc29 := out1 hc29;refine zP R6 (zN ?_);cases c29 with
   | true =>
    replace hc29 := btrue hc29;refine zC rfl (zU rfl (zA R4 (zN (T.keep (s' := ⟨[], [(5, _)], _ :: C⟩) (sc (.cons _ (.cons _ (.cons _ (.cons _ (.cons_cons _ (.refl _))))))) (zR ?_)))));exact ⟨rfl, _, rfl, congrArg iv (by first | (simp_all [chgErr, inR]; done) | (simp_all [chgErr, inR]; omega)), rfl⟩
   | false =>
    replace hc29 := bfalse hc29;refine zD rfl (zK (zS (zU rfl (zM R4 (TO.gtr rfl rfl rfl rfl rfl (fun c32 hc32=>zN ?_))))));cases c32 with
    | true =>
     replace hc32 := btrue hc32
     have hi0 : ¬ i = 0 := by omega
     refine zC rfl (zU rfl (zF 3 R6 (zL 4 R3 R6 (zM R4 (zV R3 (Val.sub rfl rfl aO) (TO.index_gs rfl rfl rfl ⟨rfl, rfl⟩ rfl rfl aO (fun a37 ra37 ea37=>?_)))))))
     try simp only [Int.toNat_natCast] at ea37
     have e37 : ((i : Int) - 1).toNat = i - 1 := by omega
     rw [e37] at ea37;refine zV R3 (Val.load_trees (c := _) ⟨⟨_, rfl, rfl⟩, rfl, by decide⟩ rfl rfl) (zJ 3 [_,_,_] R7 (fun b8=>TO.store_row (p := 0) (cv := [_, _, _]) (cells' := [_, _, _]) rfl rfl rfl rfl rfl rfl rfl rfl rfl rfl (by first | rfl | simp [GS.one]) (by decide) rfl (zG (_::_::_::_::_::_::C) rfl (zN (zU rfl (zF 1 R6 (zL 4 R3 R6 (zF 1 R6 (zL 0 R3 R6 (TO.lss rfl rfl rfl rfl rfl (fun c43 hc43=>zM R4 ?_)))))))))));cases c43 with
     | true =>
      replace hc43 := btrue hc43;refine zO R3 (zO R3 (zO R3 (zO R3 (zO R3 (zO R3 (zO R3 (zO R3 (zO R3 (zO R3 (zO R3 (zO R3 (zO R3 (zO R3 (zO R3 (zP R6 (zN (zC rfl (zU rfl (zA R4 (zN (T.keep (s' := ⟨[], [(5, _)], _ :: C⟩) (sc (.cons _ (.cons _ (.cons _ (.cons _ (.cons _ (.cons_cons _ (.refl _)))))))) (zR ?_))))))))))))))))))))));exact ⟨rfl, _, rfl, congrArg iv (by first | (simp_all [chgErr, inR]; done) | (simp_all [chgErr, inR]; omega)), rfl⟩
     | false =>
      replace hc43 := bfalse hc43;refine zF 1 R6 (zL 4 R3 R6 (zF 1 R6 (zL 0 R3 R6 (TO.eql rfl rfl rfl rfl rfl (fun c49 hc49=>zM R4 ?_)))));cases c49 with
      | true =>
       replace hc49 := btrue hc49;refine zF 0 R6 (zL 4 R3 R6 (TO.neq rfl rfl rfl rfl rfl (fun c53 hc53=>zM R4 ?_)));cases c53 with
       | true =>
        replace hc53 := btrue hc53;refine zO R3 (zO R3 (zO R3 (zP R6 (zP R6 (zP R6 (zN (zC rfl (zU rfl (zA R4 (zN (T.keep (s' := ⟨[], [(5, _)], _ :: C⟩) (sc (.cons _ (.cons _ (.cons _ (.cons _ (.cons _ (.cons_cons _ (.refl _)))))))) (zR ?_))))))))))));exact ⟨rfl, _, rfl, congrArg iv (by first | (simp_all [chgErr, inR]; done) | (simp_all [chgErr, inR]; omega)), rfl⟩
       | false =>
        replace hc53 := bfalse hc53;refine zF 0 R6 (zL 0 R3 R6 (TO.eql rfl rfl rfl rfl rfl (fun c57 hc57=>zP R6 (zP R6 (zP R6 (zN ?_))))));cases c57 with
        | true =>
         replace hc57 := btrue hc57;refine zC rfl (zU rfl (zA R4 (zN (T.keep (s' := ⟨[], [(5, _)], _ :: C⟩) (sc (.cons _ (.cons _ (.cons _ (.cons _ (.cons _ (.cons_cons _ (.refl _)))))))) (zR ?_)))));exact ⟨rfl, _, rfl, congrArg iv (by first | (simp_all [chgErr, inR]; done) | (simp_all [chgErr, inR]; omega)), rfl⟩
        | false =>
         replace hc57 := bfalse hc57;refine zD rfl (zK (zU rfl (zA R4 (zN (T.keep (s' := ⟨[], [(5, _)], _ :: C⟩) (sc (.cons _ (.cons _ (.cons _ (.cons _ (.cons _ (.cons_cons _ (.refl _)))))))) (zR ?_))))));exact ⟨rfl, _, rfl, congrArg iv (by first | (simp_all [chgErr, inR]; done) | (simp_all [chgErr, inR]; omega)), rfl⟩
      | false =>
       replace hc49 := bfalse hc49;refine zO R3 (zO R3 (zO R3 (zO R3 (zO R3 (zO R3 (zO R3 (zO R3 (zP R6 (zP R6 (zN (zD rfl (zK (zU rfl (zA R4 (zN (T.keep (s' := ⟨[], [(5, _)], _ :: C⟩) (sc (.cons _ (.cons _ (.cons _ (.cons _ (.cons _ (.cons_cons _ (.refl _)))))))) (zR ?_)))))))))))))))));exact ⟨rfl, _, rfl, congrArg iv (by first | (simp_all [chgErr, inR]; done) | (simp_all [chgErr, inR]; omega)), rfl⟩
    | false =>
     replace hc32 := bfalse hc32
     have hi0 : i = 0 := by omega
     refine zD rfl (zK (zU rfl (zA R4 (zN (T.keep (s' := ⟨[], [(5, _)], _ :: C⟩) (sc (.cons _ (.cons _ (.cons _ (.cons _ (.cons_cons _ (.refl _))))))) (zR ?_))))));exact ⟨rfl, _, rfl, congrArg iv (by first | (simp_all [chgErr, inR]; done) | (simp_all [chgErr, inR]; omega)), rfl⟩
 | false =>
  replace hc6 := bfalse hc6;refine zD rfl (zU rfl (TO.eql rfl rfl rfl rfl rfl (fun c12 hc12=>zA R4 (zN ?_))));cases c12 with
  | true =>
   replace hc12 := btrue hc12;refine zC rfl (zU rfl (zF 1 R6 (zL 0 R3 R6 (zV R3 (Val.build (cs := [_]) (vs := [(_, _)]) rfl rfl rfl) (zV R3 (Val.makeIface rfl rfl rfl) (zA R4 (zN (zR ?_))))))));refine ⟨rfl, _, rfl, ?_⟩;refine zN (zB (zU rfl (zV R3 (Val.bin (r := bv false) rfl rfl (by kernel_rfl)) (zN (zD rfl (zU rfl (zV R3 (Val.assert_no rfl rfl rfl rfl rfl) (zX R5 (zX R5 (zN (zD rfl (zK (zS (zU rfl (zM R4 (zF 2 R6 (zL 2 R3 R6 (zF 1 R6 (zL 1 R3 R6 (TO.build1 (en := encI) (a := _) rfl rfl rfl ⟨rfl, rfl⟩ ⟨_, rfl, rfl⟩ (by decide) (by decide) rfl rfl (fun v20=>TO.callD rfl rfl rfl rfl rfl (orcL rfl aD) (.cons .lit (.cons .lit (.cons (.ownL (p := 0) rfl .ints) .nil))) (sem_of (q_out _ _ _ (by exact out1_small))) (fun c21 hc21=>?_))))))))))))))))))))));replace hc21 := out1 hc21;refine zM R4 ?_;cases c21 with
   | true =>
    replace hc21 := btrue hc21;refine zO R3 (zO R3 (zO R3 (zO R3 (zO R3 (zO R3 (zO R3 (zP R6 (zN (zC rfl (zU rfl (zA R4 (zN (T.keep (s' := ⟨[], [(5, _)], _ :: C⟩) (sc (.cons _ (.cons _ (.cons _ (.cons_cons _ (.refl _)))))) (zR ?_))))))))))))));exact ⟨rfl, _, rfl, congrArg iv (by first | (simp_all [chgErr, inR]; done) | (simp_all [chgErr, inR]; omega)), rfl⟩
   | false =>
    replace hc21 := bfalse hc21;refine zM R4 (TO.bmin rfl rfl rfl rfl rfl (zM R4 (zF 2 R6 (zL 2 R3 R6 (TO.build1 (en := encI) (a := _) rfl rfl rfl ⟨rfl, rfl⟩ ⟨_, rfl, rfl⟩ (by decide) (by decide) rfl rfl (fun v28=>TO.callD rfl rfl rfl rfl rfl (orcL rfl aD) (.cons .lit (.cons .lit (.cons (.ownL (p := 0) rfl .ints) .nil))) (sem_of (q_out _ _ _ (by exact out1_small))) (fun c29 hc29=>?_)))))));replace hc29 := out1 hc29;refine zP R6 (zN ?_);cases c29 with
    | true =>
     replace hc29 := btrue hc29;refine zC rfl (zU rfl (zA R4 (zN (T.keep (s' := ⟨[], [(5, _)], _ :: C⟩) (sc (.cons _ (.cons _ (.cons _ (.cons _ (.cons_cons _ (.refl _))))))) (zR ?_)))));exact ⟨rfl, _, rfl, congrArg iv (by first | (simp_all [chgErr, inR]; done) | (simp_all [chgErr, inR]; omega)), rfl⟩
    | false =>
     replace hc29 := bfalse hc29;refine zD rfl (zK (zS (zU rfl (zM R4 (TO.gtr rfl rfl rfl rfl rfl (fun c32 hc32=>zN ?_))))));cases c32 with
     | true =>
      replace hc32 := btrue hc32
      have hi0 : ¬ i = 0 := by omega
      refine zC rfl (zU rfl (zF 3 R6 (zL 4 R3 R6 (zM R4 (zV R3 (Val.sub rfl rfl aO) (TO.index_gs rfl rfl rfl ⟨rfl, rfl⟩ rfl rfl aO (fun a37 ra37 ea37=>?_)))))))
      try simp only [Int.toNat_natCast] at ea37
      have e37 : ((i : Int) - 1).toNat = i - 1 := by omega
      rw [e37] at ea37;refine zV R3 (Val.load_trees (c := _) ⟨⟨_, rfl, rfl⟩, rfl, by decide⟩ rfl rfl) (zJ 3 [_,_,_] R7 (fun b8=>TO.store_row (p := 0) (cv := [_, _, _]) (cells' := [_, _, _]) rfl rfl rfl rfl rfl rfl rfl rfl rfl rfl (by first | rfl | simp [GS.one]) (by decide) rfl (zG (_::_::_::_::_::_::C) rfl (zN (zU rfl (zF 1 R6 (zL 4 R3 R6 (zF 1 R6 (zL 0 R3 R6 (TO.lss rfl rfl rfl rfl rfl (fun c43 hc43=>zM R4 ?_)))))))))));cases c43 with
      | true =>
       replace hc43 := btrue hc43;refine zO R3 (zO R3 (zO R3 (zO R3 (zO R3 (zO R3 (zO R3 (zO R3 (zO R3 (zO R3 (zO R3 (zO R3 (zO R3 (zO R3 (zO R3 (zP R6 (zN (zC rfl (zU rfl (zA R4 (zN (T.keep (s' := ⟨[], [(5, _)], _ :: C⟩) (sc (.cons _ (.cons _ (.cons _ (.cons _ (.cons _ (.cons_cons _ (.refl _)))))))) (zR ?_))))))))))))))))))))));exact ⟨rfl, _, rfl, congrArg iv (by first | (simp_all [chgErr, inR]; done) | (simp_all [chgErr, inR]; omega)), rfl⟩
      | false =>
       replace hc43 := bfalse hc43;refine zF 1 R6 (zL 4 R3 R6 (zF 1 R6 (zL 0 R3 R6 (TO.eql rfl rfl rfl rfl rfl (fun c49 hc49=>zM R4 ?_)))));cases c49 with
       | true =>
        replace hc49 := btrue hc49;refine zF 0 R6 (zL 4 R3 R6 (TO.neq rfl rfl rfl rfl rfl (fun c53 hc53=>zM R4 ?_)));cases c53 with
        | true =>
         replace hc53 := btrue hc53;refine zO R3 (zO R3 (zO R3 (zP R6 (zP R6 (zP R6 (zN (zC rfl (zU rfl (zA R4 (zN (T.keep (s' := ⟨[], [(5, _)], _ :: C⟩) (sc (.cons _ (.cons _ (.cons _ (.cons _ (.cons _ (.cons_cons _ (.refl _)))))))) (zR ?_))))))))))));exact ⟨rfl, _, rfl, congrArg iv (by first | (simp_all [chgErr, inR]; done) | (simp_all [chgErr, inR]; omega)), rfl⟩
        | false =>
         replace hc53 := bfalse hc53;refine zF 0 R6 (zL 0 R3 R6 (TO.eql rfl rfl rfl rfl rfl (fun c57 hc57=>zP R6 (zP R6 (zP R6 (zN ?_))))));cases c57 with
         | true =>
          replace hc57 := btrue hc57;refine zC rfl (zU rfl (zA R4 (zN (T.keep (s' := ⟨[], [(5, _)], _ :: C⟩) (sc (.cons _ (.cons _ (.cons _ (.cons _ (.cons _ (.cons_cons _ (.refl _)))))))) (zR ?_)))));exact ⟨rfl, _, rfl, congrArg iv (by first | (simp_all [chgErr, inR]; done) | (simp_all [chgErr, inR]; omega)), rfl⟩
         | false =>
          replace hc57 := bfalse hc57;refine zD rfl (zK (zU rfl (zA R4 (zN (T.keep (s' := ⟨[], [(5, _)], _ :: C⟩) (sc (.cons _ (.cons _ (.cons _ (.cons _ (.cons _ (.cons_cons _ (.refl _)))))))) (zR ?_))))));exact ⟨rfl, _, rfl, congrArg iv (by first | (simp_all [chgErr, inR]; done) | (simp_all [chgErr, inR]; omega)), rfl⟩
       | false =>
        replace hc49 := bfalse hc49;refine zO R3 (zO R3 (zO R3 (zO R3 (zO R3 (zO R3 (zO R3 (zO R3 (zP R6 (zP R6 (zN (zD rfl (zK (zU rfl (zA R4 (zN (T.keep (s' := ⟨[], [(5, _)], _ :: C⟩) (sc (.cons _ (.cons _ (.cons _ (.cons _ (.cons _ (.cons_cons _ (.refl _)))))))) (zR ?_)))))))))))))))));exact ⟨rfl, _, rfl, congrArg iv (by first | (simp_all [chgErr, inR]; done) | (simp_all [chgErr, inR]; omega)), rfl⟩
     | false =>
      replace hc32 := bfalse hc32
      have hi0 : i = 0 := by omega
      refine zD rfl (zK (zU rfl (zA R4 (zN (T.keep (s' := ⟨[], [(5, _)], _ :: C⟩) (sc (.cons _ (.cons _ (.cons _ (.cons _ (.cons_cons _ (.refl _))))))) (zR ?_))))));exact ⟨rfl, _, rfl, congrArg iv (by first | (simp_all [chgErr, inR]; done) | (simp_all [chgErr, inR]; omega)), rfl⟩
  | false =>
   replace hc12 := bfalse hc12;refine zD rfl (zU rfl (TO.eql rfl rfl rfl rfl rfl (fun c18 hc18=>zA R4 (zN ?_))));cases c18 with
   | true =>
    replace hc18 := btrue hc18;refine zC rfl (zU rfl (zF 1 R6 (zL 0 R3 R6 (zF 2 R6 (zL 0 R3 R6 (zV R3 (Val.build (cs := [_, _]) (vs := [(_, _), (_, _)]) rfl rfl rfl) (zV R3 (Val.makeIface rfl rfl rfl) (zA R4 (zN (zR ?_))))))))));refine ⟨rfl, _, rfl, ?_⟩;refine zN (zB (zU rfl (zV R3 (Val.bin (r := bv false) rfl rfl (by kernel_rfl)) (zN (zD rfl (zU rfl (zV R3 (Val.assert_yes rfl rfl rfl rfl) (zX R5 (zX R5 (zN (zC rfl (zT rfl (zA R4 (zA R4 (zN (zS (zU rfl (zM R4 (zF 2 R6 (zL 2 R3 R6 (zF 1 R6 (zL 1 R3 R6 (TO.build1 (en := encI) (a := _) rfl rfl rfl ⟨rfl, rfl⟩ ⟨_, rfl, rfl⟩ (by decide) (by decide) rfl rfl (fun v20=>TO.callD rfl rfl rfl rfl rfl (orcL rfl aD) (.cons .lit (.cons .lit (.cons (.ownL (p := 0) rfl .ints) .nil))) (sem_of (q_out _ _ _ (by exact out1_small))) (fun c21 hc21=>?_)))))))))))))))))))))))));replace hc21 := out1 hc21;refine zM R4 ?_;cases c21 with
    | true =>
     replace hc21 := btrue hc21;refine zO R3 (zO R3 (zO R3 (zO R3 (zO R3 (zO R3 (zO R3 (zP R6 (zN (zC rfl (zU rfl (zA R4 (zN (T.keep (s' := ⟨[], [(5, _)], _ :: C⟩) (sc (.cons _ (.cons _ (.cons _ (.cons_cons _ (.refl _)))))) (zR ?_))))))))))))));exact ⟨rfl, _, rfl, congrArg iv (by first | (simp_all [chgErr, inR]; done) | (simp_all [chgErr, inR]; omega)), rfl⟩
    | false =>
     replace hc21 := bfalse hc21;refine zM R4 (TO.bmin rfl rfl rfl rfl rfl (zM R4 (zF 2 R6 (zL 2 R3 R6 (TO.build1 (en := encI) (a := _) rfl rfl rfl ⟨rfl, rfl⟩ ⟨_, rfl, rfl⟩ (by decide) (by decide) rfl rfl (fun v28=>TO.callD rfl rfl rfl rfl rfl (orcL rfl aD) (.cons .lit (.cons .lit (.cons (.ownL (p := 0) rfl .ints) .nil))) (sem_of (q_out _ _ _ (by exact out1_small))) (fun c29 hc29=>?_)))))));replace hc29 := out1 hc29;refine zP R6 (zN ?_);cases c29 with
     | true =>
      replace hc29 := btrue hc29;refine zC rfl (zU rfl (zA R4 (zN (T.keep (s' := ⟨[], [(5, _)], _ :: C⟩) (sc (.cons _ (.cons _ (.cons _ (.cons _ (.cons_cons _ (.refl _))))))) (zR ?_)))));exact ⟨rfl, _, rfl, congrArg iv (by first | (simp_all [chgErr, inR]; done) | (simp_all [chgErr, inR]; omega)), rfl⟩
     | false =>
      replace hc29 := bfalse hc29;refine zD rfl (zK (zS (zU rfl (zM R4 (TO.gtr rfl rfl rfl rfl rfl (fun c32 hc32=>zN ?_))))));cases c32 with
      | true =>
       replace hc32 := btrue hc32
       have hi0 : ¬ i = 0 := by omega
       refine zC rfl (zU rfl (zF 3 R6 (zL 4 R3 R6 (zM R4 (zV R3 (Val.sub rfl rfl aO) (TO.index_gs rfl rfl rfl ⟨rfl, rfl⟩ rfl rfl aO (fun a37 ra37 ea37=>?_)))))))
       try simp only [Int.toNat_natCast] at ea37
       have e37 : ((i : Int) - 1).toNat = i - 1 := by omega
       rw [e37] at ea37;refine zV R3 (Val.load_trees (c := _) ⟨⟨_, rfl, rfl⟩, rfl, by decide⟩ rfl rfl) (zJ 3 [_,_,_] R7 (fun b8=>TO.store_row (p := 0) (cv := [_, _, _]) (cells' := [_, _, _]) rfl rfl rfl rfl rfl rfl rfl rfl rfl rfl (by first | rfl | simp [GS.one]) (by decide) rfl (zG (_::_::_::_::_::_::C) rfl (zN (zU rfl (zF 1 R6 (zL 4 R3 R6 (zF 1 R6 (zL 0 R3 R6 (TO.lss rfl rfl rfl rfl rfl (fun c43 hc43=>zM R4 ?_)))))))))));cases c43 with
       | true =>
        replace hc43 := btrue hc43;refine zO R3 (zO R3 (zO R3 (zO R3 (zO R3 (zO R3 (zO R3 (zO R3 (zO R3 (zO R3 (zO R3 (zO R3 (zO R3 (zO R3 (zO R3 (zP R6 (zN (zC rfl (zU rfl (zA R4 (zN (T.keep (s' := ⟨[], [(5, _)], _ :: C⟩) (sc (.cons _ (.cons _ (.cons _ (.cons _ (.cons _ (.cons_cons _ (.refl _)))))))) (zR ?_))))))))))))))))))))));exact ⟨rfl, _, rfl, congrArg iv (by first | (simp_all [chgErr, inR]; done) | (simp_all [chgErr, inR]; omega)), rfl⟩
       | false =>
        replace hc43 := bfalse hc43;refine zF 1 R6 (zL 4 R3 R6 (zF 1 R6 (zL 0 R3 R6 (TO.eql rfl rfl rfl rfl rfl (fun c49 hc49=>zM R4 ?_)))));cases c49 with
        | true =>
         replace hc49 := btrue hc49;refine zF 0 R6 (zL 4 R3 R6 (TO.neq rfl rfl rfl rfl rfl (fun c53 hc53=>zM R4 ?_)));cases c53 with
         | true =>
          replace hc53 := btrue hc53;refine zO R3 (zO R3 (zO R3 (zP R6 (zP R6 (zP R6 (zN (zC rfl (zU rfl (zA R4 (zN (T.keep (s' := ⟨[], [(5, _)], _ :: C⟩) (sc (.cons _ (.cons _ (.cons _ (.cons _ (.cons _ (.cons_cons _ (.refl _)))))))) (zR ?_))))))))))));exact ⟨rfl, _, rfl, congrArg iv (by first | (simp_all [chgErr, inR]; done) | (simp_all [chgErr, inR]; omega)), rfl⟩
         | false =>
          replace hc53 := bfalse hc53;refine zF 0 R6 (zL 0 R3 R6 (TO.eql rfl rfl rfl rfl rfl (fun c57 hc57=>zP R6 (zP R6 (zP R6 (zN ?_))))));cases c57 with
          | true =>
           replace hc57 := btrue hc57;refine zC rfl (zU rfl (zA R4 (zN (T.keep (s' := ⟨[], [(5, _)], _ :: C⟩) (sc (.cons _ (.cons _ (.cons _ (.cons _ (.cons _ (.cons_cons _ (.refl _)))))))) (zR ?_)))));exact ⟨rfl, _, rfl, congrArg iv (by first | (simp_all [chgErr, inR]; done) | (simp_all [chgErr, inR]; omega)), rfl⟩
          | false =>
           replace hc57 := bfalse hc57;refine zD rfl (zK (zU rfl (zA R4 (zN (T.keep (s' := ⟨[], [(5, _)], _ :: C⟩) (sc (.cons _ (.cons _ (.cons _ (.cons _ (.cons _ (.cons_cons _ (.refl _)))))))) (zR ?_))))));exact ⟨rfl, _, rfl, congrArg iv (by first | (simp_all [chgErr, inR]; done) | (simp_all [chgErr, inR]; omega)), rfl⟩
        | false =>
         replace hc49 := bfalse hc49;refine zO R3 (zO R3 (zO R3 (zO R3 (zO R3 (zO R3 (zO R3 (zO R3 (zP R6 (zP R6 (zN (zD rfl (zK (zU rfl (zA R4 (zN (T.keep (s' := ⟨[], [(5, _)], _ :: C⟩) (sc (.cons _ (.cons _ (.cons _ (.cons _ (.cons _ (.cons_cons _ (.refl _)))))))) (zR ?_)))))))))))))))));exact ⟨rfl, _, rfl, congrArg iv (by first | (simp_all [chgErr, inR]; done) | (simp_all [chgErr, inR]; omega)), rfl⟩
      | false =>
       replace hc32 := bfalse hc32
       have hi0 : i = 0 := by omega
       refine zD rfl (zK (zU rfl (zA R4 (zN (T.keep (s' := ⟨[], [(5, _)], _ :: C⟩) (sc (.cons _ (.cons _ (.cons _ (.cons _ (.cons_cons _ (.refl _))))))) (zR ?_))))));exact ⟨rfl, _, rfl, congrArg iv (by first | (simp_all [chgErr, inR]; done) | (simp_all [chgErr, inR]; omega)), rfl⟩
   | false =>
    replace hc18 := bfalse hc18;refine zD rfl (zK (zU rfl (zA R4 (zN (zR ?_)))));refine ⟨rfl, _, rfl, ?_⟩;refine zN (zB (zU rfl (zV R3 (Val.bin (r := bv true) rfl rfl (by kernel_rfl)) (zN (zC rfl (zU rfl (zA R4 (zN (T.keep (s' := ⟨[], [(5, _)], _ :: C⟩) (sc (.cons _ (.cons _ (.cons_cons _ (.refl _))))) (zR ?_))))))))));exact ⟨rfl, _, rfl, congrArg iv (by first | (simp_all [chgErr, inR]; done) | (simp_all [chgErr, inR]; omega)), rfl⟩
theorem q_chgs {k bg : Nat} (hk : 1 ≤ k) (g : Gat) (C : List Thing) (hb : g.ch.l.length ≤ 4) :
  TF (EL k) 79 [g.ch.v, .func 80 [] [.ptr bg 0 4]] (.row bg 4 [iv g.round, iv g.letter, iv g.leaves, g.ch.v] :: C) fun v hs' => ∃ i0, v = .tuple [iv i0, iv (chgsErr g.leaves none g.ch.l)] ∧ hs' = .row bg 4 [iv g.round, iv g.letter, iv g.leaves, g.ch.v] :: C := by
 refine TF.enter (fn := Go.Proofs.Try.f79) rfl rfl rfl rfl rfl (zU rfl (zA R4 (zA R4 (zN (zS (zU rfl (zM R4 (zV R3 (Val.len_gs rfl rfl) (zM R4 (zN (zB (T.loop (fun μ s => ∃ i : Nat, ∃ j : Int, μ = g.ch.l.length - i ∧ j = i ∧ i ≤ g.ch.l.length ∧ chgsErr g.leaves none g.ch.l = chgsErr g.leaves (if i = 0 then none else g.ch.l[i - 1]?) (g.ch.l.drop i) ∧ s = ⟨[], [(1, .func 80 [] [.ptr bg 0 4]), (9, g.ch.v), (10, iv (g.ch.l.length : Int)), (11, iv j)], (.row bg 4 [iv g.round, iv g.letter, iv g.leaves, g.ch.v]) :: C⟩) (k := _) (s' := _) ⟨0, 0, rfl, (by first | rfl | omega | (simp; done) | (simp; omega) | simp_all), (by first | rfl | omega | (simp; done) | (simp; omega) | simp_all), (by rfl), rfl⟩ ⟨rfl, (keep_cons rfl (keep_cons rfl (keep_cons rfl (keep_cons rfl keep_nil)))), (.cons_cons _ (.refl _))⟩ ?_))))))))))));rintro μ _ ⟨i, j, hk0, hj, hi, he, rfl⟩;subst hj;refine zU rfl (TO.lss rfl rfl rfl rfl rfl (fun c12 hc12=>zN (zS ?_)));cases c12 with
 | true =>
  replace hc12 := btrue hc12;refine zC rfl (zK (zS (zB (zU rfl (zM R4 (TO.index_gs rfl rfl rfl ⟨rfl, rfl⟩ rfl rfl aO (fun c rc ec=>?_)))))))
  try simp only [Int.toNat_natCast] at ec
  refine zV R3 (Val.load_trees (c := _) ⟨⟨_, rfl, rfl⟩, rfl, by decide⟩ rfl rfl) (zJ 3 [_,_,_] R7 (fun b7=>zA R4 (TO.store_row (p := 0) (cv := [_, _, _]) (cells' := [_, _, _]) rfl rfl rfl rfl rfl rfl rfl rfl rfl rfl (by first | rfl | simp [GS.one]) (by decide) rfl (zG (_::_::C) rfl (zN (zU rfl (zM R4 (zM R4 (zV R3 (vW 0 [_,_,_] R5 R4) (TO.pick (p := 1) rfl (zG (_::_::C) rfl (TO.callV rfl rfl rfl rfl rfl rfl (orcN rfl) (q_chg hk g i c _ ec hb) ?_))))))))))));rintro _ _ ⟨rfl, rfl⟩;generalize hE : chgErr g.leaves c (if i = 0 then none else g.ch.l[i - 1]?) = E19;refine zG (_::_::C) rfl (zA R4 (zN (zU rfl (zM R4 (TO.neq rfl rfl rfl rfl rfl (fun c21 hc21=>zN ?_))))));cases c21 with
  | true =>
   replace hc21 := btrue hc21
   have hce : chgsErr g.leaves none g.ch.l = E19 := by rw [he, drop_cons ec, chgsErr, hE, if_pos hc21]
   refine zC rfl (zU rfl (zM R4 (zM R4 (zA R4 (zA R4 (zN (T.keep (s' := ⟨[], [(4, _), (5, _)], _ :: C⟩) (sc (.cons_cons _ (.cons _ (.refl _)))) (zR ?_))))))));exact ⟨rfl, _, rfl, _, congrArg (fun x => AV.tuple [_, iv x]) hce.symm, rfl⟩
  | false =>
   replace hc21 := bfalse hc21
   have hce : chgsErr g.leaves none g.ch.l = chgsErr g.leaves (some c) (g.ch.l.drop (i + 1)) := by rw [he, drop_cons ec, chgsErr, hE, if_neg hc21]
   refine zD rfl (zK (zT rfl (zV R3 (Val.add rfl rfl aO) (zM R4 (zN ?_)))));refine ⟨_, _, aO, ⟨i + 1, _, rfl, (by first | omega | simp_all), (by first | omega | simp_all), (by rw [hce]; simp [ec]), rfl⟩, ⟨rfl, (keep_cons rfl (keep_cons rfl (keep_cons rfl (keep_cons rfl keep_nil)))), (.cons_cons _ (.cons _ (.refl _)))⟩⟩
 | false =>
  replace hc12 := bfalse hc12;obtain rfl : i = g.ch.l.length := by omega
  rw [List.drop_length, chgsErr] at he;refine zD rfl (zE (zU rfl (zA R4 (zA R4 (zN (T.keep (s' := ⟨[], [(4, _), (5, _)], _ :: C⟩) (sc (.cons_cons _ (.refl _))) (zR ?_)))))));exact ⟨rfl, _, rfl, _, congrArg (fun x => AV.tuple [_, iv x]) he.symm, rfl⟩
theorem q_gat {k bm bl mid : Nat} (hk : 2 ≤ k) (g : Gat) (i : Nat) (before : List Gat) (f : Value → Int) (lr ll : Int) (C : List Thing) (hb : before.length ≤ 30) (hm : MetOk before f) (hl : LastOk before ⟨lr, ll⟩) :
  TF (EL k) 75 [iv (i : Int), .agg (encG.f g), .ptr bm 0 1, .ptr bl 0 2] (.row bm 1 [.map mid] :: .cnt mid KPair f [] :: .row bl 2 [iv lr, iv ll] :: C) fun v hs' => ∃ f' lr' ll', v = iv (gathErr before g) ∧
   hs' = .row bm 1 [.map mid] :: .cnt mid KPair f' [] :: .row bl 2 [iv lr', iv ll'] :: C ∧ (gathErr before g = 0 → MetOk (before ++ [g]) f' ∧ LastOk (before ++ [g]) ⟨lr', ll'⟩) := by
 have hle : 0 ≤ f (.agg #[.int .i64 g.round, .int .i64 g.letter]) ∧ f (.agg #[.int .i64 g.round, .int .i64 g.letter]) ≤ before.length := hm.le g.sig
 have hpos : 0 < f (.agg #[.int .i64 g.round, .int .i64 g.letter]) ↔ ∃ x ∈ before, x.sig = g.sig := hm.pos g
 have hmet : MetOk _ (cput f (.agg #[.int .i64 g.round, .int .i64 g.letter]) (f (.agg #[.int .i64 g.round, .int .i64 g.letter]) + 1)) := hm.snoc g;refine TF.enter (fn := Go.Proofs.Try.f75) rfl rfl rfl rfl rfl (zU rfl (zQ 4 [_,_,_,_] R7 (fun b5=>zA R4 (zN (zS (T.drawE (l1 := [0, 1, 2, 3, 4]) (l2 := [5, 6, 7]) (by kernel_rfl) (by kernel_rfl) (yR R4 (vR (p := 1) R6) (yL R4 (Val.faddr_ptr (fo := 0) rfl rfl rfl) (yR R4 (vW 0 [_,_] R5 R4) (yR R4 (Val.lookup (p := 2) rfl rfl key_ty96 rfl rfl rfl rfl ⟨_, _, rfl⟩) (yL R4 (Val.add rfl rfl aO) (TD1.over (fun v => sameC_refl v) (all_cons (⟨_, rfl, (Val.lookup (p := 2) rfl rfl key_ty96 rfl rfl rfl rfl ⟨_, _, rfl⟩)⟩) (all_cons (⟨_, rfl, (vW 0 [_,_] R5 R4)⟩) (all_cons (⟨_, rfl, (vR (p := 1) R6)⟩) all_nil))) (TD2.heavy (fun v => sameC_refl v) rfl (by decide) rfl rfl (OpS.eff (Eff.mapEntry (p := 2) rfl rfl key_ty96 rfl rfl rfl rfl ⟨_, _, rfl⟩)) ?_)))))))))))));rintro _ _ ⟨e14, rfl, rfl⟩;refine ⟨(all_cons (.inr ⟨_, rfl, (Val.lookup (p := 2) rfl rfl key_ty96 rfl rfl rfl rfl ⟨_, _, rfl⟩)⟩) (all_cons (.inl (by kernel_rfl)) (all_cons (.inl (by kernel_rfl)) all_nil))), all_nil, ?_⟩;refine yG (_::_::_::_::C) rfl (yM R4 (Val.extract rfl rfl) (TD2.heavy (fun v => sameC_refl v) rfl (by decide) rfl rfl (OpS.eff (Eff.entryStore (p := 2) rfl List.mem_cons_self rfl rfl rfl)) ?_));rintro _ _ rfl;refine ⟨(all_cons (.inl (by kernel_rfl)) (all_cons (.inl (by kernel_rfl)) (all_cons (.inl (by kernel_rfl)) all_nil))), all_nil, ?_⟩;refine yG (_::_::_::_::C) rfl (TD2.nil (zS (zB (zU rfl (zF 0 R6 (zV R3 (vW 0 [_,_] R5 R4) (TO.callD rfl rfl rfl rfl rfl (orcL rfl aD) (.cons (.agg (.cons .lit (.cons .lit .nil))) .nil) (sem_of (q_none g.sig )) (fun c19 hc19=>zA R4 (zN ?_)))))))));cases c19 with
 | true =>
  replace hc19 := btrue hc19;refine zC rfl (zU rfl (zA R4 (zN (T.keep (s' := ⟨[], [(6, _)], _ :: _ :: _ :: C⟩) (sc (.cons _ (.cons_cons _ (.cons_cons _ (.cons_cons _ (.refl _)))))) (zR ?_)))))
  have hv : gathErr before g = 7 := by unfold gathErr; (repeat' split) <;> first | rfl | (exfalso; simp_all; done) | (exfalso; simp_all [inR]; omega) | simp_all [inR]
  exact ⟨rfl, _, rfl, _, _, _, congrArg iv hv.symm, rfl, fun h0 => aO⟩
 | false =>
  replace hc19 := bfalse hc19
  have hs : sigOk g.sig := Classical.not_not.1 hc19;refine zD rfl (zU rfl (zL 1 R3 R6 (zF 0 R6 (zV R3 (vW 0 [_,_] R5 R4) (zV R3 (Val.lookup (p := 2) rfl rfl key_ty96 rfl rfl rfl rfl ⟨_, _, rfl⟩) (TO.gtr rfl rfl rfl rfl rfl (fun c25 hc25=>?_)))))));replace hc25 := hc25.trans (hm.twice g);refine zA R4 (zN ?_);cases c25 with
  | true =>
   replace hc25 := btrue hc25;refine zC rfl (zU rfl (zA R4 (zN (T.keep (s' := ⟨[], [(6, _)], _ :: _ :: _ :: C⟩) (sc (.cons _ (.cons_cons _ (.cons_cons _ (.cons_cons _ (.refl _)))))) (zR ?_)))))
   have hv : gathErr before g = 5 := by unfold gathErr; (repeat' split) <;> first | rfl | (exfalso; simp_all; done) | (exfalso; simp_all [inR]; omega) | simp_all [inR]
   exact ⟨rfl, _, rfl, _, _, _, congrArg iv hv.symm, rfl, fun h0 => aO⟩
  | false =>
   replace hc25 := bfalse hc25;refine zD rfl (zU rfl (zF 0 R6 (zV R3 (vW 0 [_,_] R5 R4) (TO.callD rfl rfl rfl rfl rfl (orcL rfl aD) (.cons (.agg (.cons .lit (.cons .lit .nil))) .nil) (sem_of (q_lettered g.sig )) (fun c29 hc29=>zM R4 ?_)))));cases c29 with
   | true =>
    replace hc29 := btrue hc29;refine zF 0 R6 (zV R3 (vW 0 [_,_] R5 R4) (zV R3 (vW 3 [_,_] R5 R4) (TO.callD rfl rfl rfl rfl rfl (orcL rfl aD) (.cons (.agg (.cons .lit (.cons .lit .nil))) (.cons (.agg (.cons .lit (.cons .lit .nil))) .nil)) (sem_of (q_before g.sig ⟨lr, ll⟩ )) (fun c34 hc34=>?_))));replace hc34 := hc34.trans (hl.before hs hc29);refine zP R6 (zA R4 (zN ?_));cases c34 with
    | true =>
     replace hc34 := btrue hc34;refine zC rfl (zU rfl (zA R4 (zN (T.keep (s' := ⟨[], [(6, _)], _ :: _ :: _ :: C⟩) (sc (.cons _ (.cons_cons _ (.cons_cons _ (.cons_cons _ (.refl _)))))) (zR ?_)))))
     have hv : gathErr before g = 2 := by unfold gathErr; (repeat' split) <;> first | rfl | (exfalso; simp_all; done) | (exfalso; simp_all [inR]; omega) | simp_all [inR]
     exact ⟨rfl, _, rfl, _, _, _, congrArg iv hv.symm, rfl, fun h0 => aO⟩
    | false =>
     replace hc34 := bfalse hc34
     have hrk := hc34;refine zD rfl (zU rfl (zF 2 R6 (zL 0 R3 R6 (TO.neq rfl rfl rfl rfl rfl (fun c39 hc39=>zM R4 ?_)))));cases c39 with
     | true =>
      replace hc39 := btrue hc39;refine zF 2 R6 (zL 0 R3 R6 (TO.build1 (en := encI) (a := _) rfl rfl rfl ⟨rfl, rfl⟩ ⟨_, rfl, rfl⟩ (by decide) (by decide) rfl rfl (fun v43=>TO.callD rfl rfl rfl rfl rfl (orcL rfl aD) (.cons .lit (.cons .lit (.cons (.ownL (p := 0) rfl .ints) .nil))) (sem_of (q_out _ _ _ (by exact out1_small))) (fun c44 hc44=>?_))));replace hc44 := out1 hc44;refine zM R4 ?_;cases c44 with
      | true =>
       replace hc44 := btrue hc44;refine zO R3 (zO R3 (zO R3 (zO R3 (zP R6 (zP R6 (zA R4 (zN (zC rfl (zU rfl (zA R4 (zN (T.keep (s' := ⟨[], [(6, _)], _ :: _ :: _ :: C⟩) (sc (.cons _ (.cons _ (.cons_cons _ (.cons_cons _ (.cons_cons _ (.refl _))))))) (zR ?_)))))))))))))
       have hv : gathErr before g = 7 := by unfold gathErr; (repeat' split) <;> first | rfl | (exfalso; simp_all; done) | (exfalso; simp_all [inR]; omega) | simp_all [inR]
       exact ⟨rfl, _, rfl, _, _, _, congrArg iv hv.symm, rfl, fun h0 => aO⟩
      | false =>
       replace hc44 := bfalse hc44;refine zF 2 R6 (zL 1 R3 R6 (zV R3 (Val.rem rfl rfl aO) (TO.eql rfl rfl rfl rfl rfl (fun c49 hc49=>zP R6 (zP R6 (zA R4 (zN ?_)))))));cases c49 with
       | true =>
        replace hc49 := btrue hc49;refine zC rfl (zU rfl (zA R4 (zN (T.keep (s' := ⟨[], [(6, _)], _ :: _ :: _ :: C⟩) (sc (.cons _ (.cons _ (.cons_cons _ (.cons_cons _ (.cons_cons _ (.refl _))))))) (zR ?_)))))
        have hv : gathErr before g = 7 := by unfold gathErr; (repeat' split) <;> first | rfl | (exfalso; simp_all; done) | (exfalso; simp_all [inR]; omega) | simp_all [inR]
        exact ⟨rfl, _, rfl, _, _, _, congrArg iv hv.symm, rfl, fun h0 => aO⟩
       | false =>
        replace hc49 := bfalse hc49;refine zD rfl (zU rfl (zF 3 R6 (zL 1 R3 R6 (zV R3 (Val.len_gs rfl rfl) (TO.gtr rfl rfl rfl rfl rfl (fun c56 hc56=>zA R4 (zN ?_)))))));cases c56 with
        | true =>
         replace hc56 := btrue hc56;refine zC rfl (zU rfl (zA R4 (zN (T.keep (s' := ⟨[], [(6, _)], _ :: _ :: _ :: C⟩) (sc (.cons _ (.cons _ (.cons_cons _ (.cons_cons _ (.cons_cons _ (.refl _))))))) (zR ?_)))))
         have hv : gathErr before g = 3 := by unfold gathErr; (repeat' split) <;> first | rfl | (exfalso; simp_all; done) | (exfalso; simp_all [inR]; omega) | simp_all [inR]
         exact ⟨rfl, _, rfl, _, _, _, congrArg iv hv.symm, rfl, fun h0 => aO⟩
        | false =>
         replace hc56 := bfalse hc56;refine zD rfl (zK (zS (zU rfl (zF 0 R6 (zV R3 (vW 1 [_,_] R5 R4) (TO.callD rfl rfl rfl rfl rfl (orcL rfl aD) (.cons (.agg (.cons .lit (.cons .lit .nil))) .nil) (sem_of (q_lettered g.sig )) (fun c59 hc59=>zN ?_)))))));cases c59 with
         | true =>
          replace hc59 := btrue hc59;refine zC rfl (zT rfl (zF 0 R6 (zV R3 (vW 1 [_,_] R5 R4) (TO.store_row (p := 4) (cv := [_, _]) (cells' := [_, _]) rfl rfl rfl rfl rfl rfl rfl rfl rfl rfl (by first | rfl | simp [GS.one]) (by decide) rfl (zG (_::_::_::_::_::C) rfl (zN (zU rfl (zF 3 R6 (zL 1 R3 R6 (zV R3 (Val.makeFunc rfl rfl) (TO.pick (p := 1) rfl (zG (_::_::_::_::_::C) rfl (TO.callV rfl rfl rfl rfl rfl rfl (orcN rfl) (q_chgs aO g _ aO) ?_)))))))))))));rintro _ _ ⟨i0, rfl, rfl⟩;refine zG (_::_::_::_::_::C) rfl (zM R4 (zX R5 (zX R5 (zA R4 (zA R4 (zN (zU rfl (zM R4 (zA R4 (zN (T.keep (s' := ⟨[], [(6, _)], _ :: _ :: _ :: C⟩) (sc (.cons _ (.cons _ (.cons_cons _ (.cons_cons _ (.cons_cons _ (.refl _))))))) (zR ?_))))))))))))
          have hv : gathErr before g = chgsErr g.leaves none g.ch.l := by unfold gathErr; (repeat' split) <;> first | rfl | (exfalso; simp_all; done) | (exfalso; simp_all [inR]; omega) | simp_all [inR]
          exact ⟨rfl, _, rfl, _, _, _, congrArg iv hv.symm, rfl, fun h0 => (by first | exact ⟨hmet, hl.snoc hs hc59 hrk⟩ | exact ⟨hmet, hl.same hc59⟩)⟩
         | false =>
          replace hc59 := bfalse hc59;refine zD rfl (zK (zU rfl (zF 3 R6 (zL 1 R3 R6 (zV R3 (Val.makeFunc rfl rfl) (TO.pick (p := 1) rfl (zG (_::_::_::_::_::C) rfl (TO.callV rfl rfl rfl rfl rfl rfl (orcN rfl) (q_chgs aO g _ aO) ?_))))))));rintro _ _ ⟨i0, rfl, rfl⟩;refine zG (_::_::_::_::_::C) rfl (zM R4 (zX R5 (zX R5 (zA R4 (zA R4 (zN (zU rfl (zM R4 (zA R4 (zN (T.keep (s' := ⟨[], [(6, _)], _ :: _ :: _ :: C⟩) (sc (.cons _ (.cons _ (.cons_cons _ (.cons_cons _ (.cons_cons _ (.refl _))))))) (zR ?_))))))))))))
          have hv : gathErr before g = chgsErr g.leaves none g.ch.l := by unfold gathErr; (repeat' split) <;> first | rfl | (exfalso; simp_all; done) | (exfalso; simp_all [inR]; omega) | simp_all [inR]
          exact ⟨rfl, _, rfl, _, _, _, congrArg iv hv.symm, rfl, fun h0 => (by first | exact ⟨hmet, hl.snoc hs hc59 hrk⟩ | exact ⟨hmet, hl.same hc59⟩)⟩
     | false =>
      replace hc39 := bfalse hc39;refine zO R3 (zO R3 (zO R3 (zO R3 (zO R3 (zO R3 (zO R3 (zO R3 (zO R3 (zO R3 (zP R6 (zA R4 (zN (zD rfl (zU rfl (zF 3 R6 (zL 0 R3 R6 (zV R3 (Val.len_gs rfl rfl) (TO.gtr rfl rfl rfl rfl rfl (fun c56 hc56=>zA R4 (zN ?_))))))))))))))))))));cases c56 with
      | true =>
       replace hc56 := btrue hc56;refine zC rfl (zU rfl (zA R4 (zN (T.keep (s' := ⟨[], [(6, _)], _ :: _ :: _ :: C⟩) (sc (.cons _ (.cons_cons _ (.cons_cons _ (.cons_cons _ (.refl _)))))) (zR ?_)))))
       have hv : gathErr before g = 3 := by unfold gathErr; (repeat' split) <;> first | rfl | (exfalso; simp_all; done) | (exfalso; simp_all [inR]; omega) | simp_all [inR]
       exact ⟨rfl, _, rfl, _, _, _, congrArg iv hv.symm, rfl, fun h0 => aO⟩
      | false =>
       replace hc56 := bfalse hc56;refine zD rfl (zK (zS (zU rfl (zF 0 R6 (zV R3 (vW 0 [_,_] R5 R4) (TO.callD rfl rfl rfl rfl rfl (orcL rfl aD) (.cons (.agg (.cons .lit (.cons .lit .nil))) .nil) (sem_of (q_lettered g.sig )) (fun c59 hc59=>zN ?_)))))));cases c59 with
       | true =>
        replace hc59 := btrue hc59;refine zC rfl (zT rfl (zF 0 R6 (zV R3 (vW 0 [_,_] R5 R4) (TO.store_row (p := 3) (cv := [_, _]) (cells' := [_, _]) rfl rfl rfl rfl rfl rfl rfl rfl rfl rfl (by first | rfl | simp [GS.one]) (by decide) rfl (zG (_::_::_::_::C) rfl (zN (zU rfl (zF 3 R6 (zL 0 R3 R6 (zV R3 (Val.makeFunc rfl rfl) (TO.callV rfl rfl rfl rfl rfl rfl (orcN rfl) (q_chgs aO g _ aO) ?_)))))))))));rintro _ _ ⟨i0, rfl, rfl⟩;refine zG (_::_::_::_::C) rfl (zM R4 (zX R5 (zX R5 (zA R4 (zA R4 (zN (zU rfl (zM R4 (zA R4 (zN (T.keep (s' := ⟨[], [(6, _)], _ :: _ :: _ :: C⟩) (sc (.cons _ (.cons_cons _ (.cons_cons _ (.cons_cons _ (.refl _)))))) (zR ?_))))))))))))
        have hv : gathErr before g = chgsErr g.leaves none g.ch.l := by unfold gathErr; (repeat' split) <;> first | rfl | (exfalso; simp_all; done) | (exfalso; simp_all [inR]; omega) | simp_all [inR]
        exact ⟨rfl, _, rfl, _, _, _, congrArg iv hv.symm, rfl, fun h0 => (by first | exact ⟨hmet, hl.snoc hs hc59 hrk⟩ | exact ⟨hmet, hl.same hc59⟩)⟩
       | false =>
        replace hc59 := bfalse hc59;refine zD rfl (zK (zU rfl (zF 3 R6 (zL 0 R3 R6 (zV R3 (Val.makeFunc rfl rfl) (TO.callV rfl rfl rfl rfl rfl rfl (orcN rfl) (q_chgs aO g _ aO) ?_))))));rintro _ _ ⟨i0, rfl, rfl⟩;refine zG (_::_::_::_::C) rfl (zM R4 (zX R5 (zX R5 (zA R4 (zA R4 (zN (zU rfl (zM R4 (zA R4 (zN (T.keep (s' := ⟨[], [(6, _)], _ :: _ :: _ :: C⟩) (sc (.cons _ (.cons_cons _ (.cons_cons _ (.cons_cons _ (.refl _)))))) (zR ?_))))))))))))
        have hv : gathErr before g = chgsErr g.leaves none g.ch.l := by unfold gathErr; (repeat' split) <;> first | rfl | (exfalso; simp_all; done) | (exfalso; simp_all [inR]; omega) | simp_all [inR]
        exact ⟨rfl, _, rfl, _, _, _, congrArg iv hv.symm, rfl, fun h0 => (by first | exact ⟨hmet, hl.snoc hs hc59 hrk⟩ | exact ⟨hmet, hl.same hc59⟩)⟩
   | false =>
    replace hc29 := bfalse hc29
    have hrk : ¬ (rank g.sig ≥ 0 ∧ rank g.sig < lastRank before) := by rw [rank_neg hc29]; omega
    refine zO R3 (zO R3 (zO R3 (zO R3 (zP R6 (zA R4 (zN (zD rfl (zU rfl (zF 2 R6 (zL 0 R3 R6 (TO.neq rfl rfl rfl rfl rfl (fun c39 hc39=>zM R4 ?_))))))))))));cases c39 with
    | true =>
     replace hc39 := btrue hc39;refine zF 2 R6 (zL 0 R3 R6 (TO.build1 (en := encI) (a := _) rfl rfl rfl ⟨rfl, rfl⟩ ⟨_, rfl, rfl⟩ (by decide) (by decide) rfl rfl (fun v43=>TO.callD rfl rfl rfl rfl rfl (orcL rfl aD) (.cons .lit (.cons .lit (.cons (.ownL (p := 0) rfl .ints) .nil))) (sem_of (q_out _ _ _ (by exact out1_small))) (fun c44 hc44=>?_))));replace hc44 := out1 hc44;refine zM R4 ?_;cases c44 with
     | true =>
      replace hc44 := btrue hc44;refine zO R3 (zO R3 (zO R3 (zO R3 (zP R6 (zP R6 (zA R4 (zN (zC rfl (zU rfl (zA R4 (zN (T.keep (s' := ⟨[], [(6, _)], _ :: _ :: _ :: C⟩) (sc (.cons _ (.cons _ (.cons_cons _ (.cons_cons _ (.cons_cons _ (.refl _))))))) (zR ?_)))))))))))))
      have hv : gathErr before g = 7 := by unfold gathErr; (repeat' split) <;> first | rfl | (exfalso; simp_all; done) | (exfalso; simp_all [inR]; omega) | simp_all [inR]
      exact ⟨rfl, _, rfl, _, _, _, congrArg iv hv.symm, rfl, fun h0 => aO⟩
     | false =>
      replace hc44 := bfalse hc44;refine zF 2 R6 (zL 1 R3 R6 (zV R3 (Val.rem rfl rfl aO) (TO.eql rfl rfl rfl rfl rfl (fun c49 hc49=>zP R6 (zP R6 (zA R4 (zN ?_)))))));cases c49 with
      | true =>
       replace hc49 := btrue hc49;refine zC rfl (zU rfl (zA R4 (zN (T.keep (s' := ⟨[], [(6, _)], _ :: _ :: _ :: C⟩) (sc (.cons _ (.cons _ (.cons_cons _ (.cons_cons _ (.cons_cons _ (.refl _))))))) (zR ?_)))))
       have hv : gathErr before g = 7 := by unfold gathErr; (repeat' split) <;> first | rfl | (exfalso; simp_all; done) | (exfalso; simp_all [inR]; omega) | simp_all [inR]
       exact ⟨rfl, _, rfl, _, _, _, congrArg iv hv.symm, rfl, fun h0 => aO⟩
      | false =>
       replace hc49 := bfalse hc49;refine zD rfl (zU rfl (zF 3 R6 (zL 1 R3 R6 (zV R3 (Val.len_gs rfl rfl) (TO.gtr rfl rfl rfl rfl rfl (fun c56 hc56=>zA R4 (zN ?_)))))));cases c56 with
       | true =>
        replace hc56 := btrue hc56;refine zC rfl (zU rfl (zA R4 (zN (T.keep (s' := ⟨[], [(6, _)], _ :: _ :: _ :: C⟩) (sc (.cons _ (.cons _ (.cons_cons _ (.cons_cons _ (.cons_cons _ (.refl _))))))) (zR ?_)))))
        have hv : gathErr before g = 3 := by unfold gathErr; (repeat' split) <;> first | rfl | (exfalso; simp_all; done) | (exfalso; simp_all [inR]; omega) | simp_all [inR]
        exact ⟨rfl, _, rfl, _, _, _, congrArg iv hv.symm, rfl, fun h0 => aO⟩
       | false =>
        replace hc56 := bfalse hc56;refine zD rfl (zK (zS (zU rfl (zF 0 R6 (zV R3 (vW 1 [_,_] R5 R4) (TO.callD rfl rfl rfl rfl rfl (orcL rfl aD) (.cons (.agg (.cons .lit (.cons .lit .nil))) .nil) (sem_of (q_lettered g.sig )) (fun c59 hc59=>zN ?_)))))));cases c59 with
        | true =>
         replace hc59 := btrue hc59;refine zC rfl (zT rfl (zF 0 R6 (zV R3 (vW 1 [_,_] R5 R4) (TO.store_row (p := 4) (cv := [_, _]) (cells' := [_, _]) rfl rfl rfl rfl rfl rfl rfl rfl rfl rfl (by first | rfl | simp [GS.one]) (by decide) rfl (zG (_::_::_::_::_::C) rfl (zN (zU rfl (zF 3 R6 (zL 1 R3 R6 (zV R3 (Val.makeFunc rfl rfl) (TO.pick (p := 1) rfl (zG (_::_::_::_::_::C) rfl (TO.callV rfl rfl rfl rfl rfl rfl (orcN rfl) (q_chgs aO g _ aO) ?_)))))))))))));rintro _ _ ⟨i0, rfl, rfl⟩;refine zG (_::_::_::_::_::C) rfl (zM R4 (zX R5 (zX R5 (zA R4 (zA R4 (zN (zU rfl (zM R4 (zA R4 (zN (T.keep (s' := ⟨[], [(6, _)], _ :: _ :: _ :: C⟩) (sc (.cons _ (.cons _ (.cons_cons _ (.cons_cons _ (.cons_cons _ (.refl _))))))) (zR ?_))))))))))))
         have hv : gathErr before g = chgsErr g.leaves none g.ch.l := by unfold gathErr; (repeat' split) <;> first | rfl | (exfalso; simp_all; done) | (exfalso; simp_all [inR]; omega) | simp_all [inR]
         exact ⟨rfl, _, rfl, _, _, _, congrArg iv hv.symm, rfl, fun h0 => (by first | exact ⟨hmet, hl.snoc hs hc59 hrk⟩ | exact ⟨hmet, hl.same hc59⟩)⟩
        | false =>
         replace hc59 := bfalse hc59;refine zD rfl (zK (zU rfl (zF 3 R6 (zL 1 R3 R6 (zV R3 (Val.makeFunc rfl rfl) (TO.pick (p := 1) rfl (zG (_::_::_::_::_::C) rfl (TO.callV rfl rfl rfl rfl rfl rfl (orcN rfl) (q_chgs aO g _ aO) ?_))))))));rintro _ _ ⟨i0, rfl, rfl⟩;refine zG (_::_::_::_::_::C) rfl (zM R4 (zX R5 (zX R5 (zA R4 (zA R4 (zN (zU rfl (zM R4 (zA R4 (zN (T.keep (s' := ⟨[], [(6, _)], _ :: _ :: _ :: C⟩) (sc (.cons _ (.cons _ (.cons_cons _ (.cons_cons _ (.cons_cons _ (.refl _))))))) (zR ?_))))))))))))
         have hv : gathErr before g = chgsErr g.leaves none g.ch.l := by unfold gathErr; (repeat' split) <;> first | rfl | (exfalso; simp_all; done) | (exfalso; simp_all [inR]; omega) | simp_all [inR]
         exact ⟨rfl, _, rfl, _, _, _, congrArg iv hv.symm, rfl, fun h0 => (by first | exact ⟨hmet, hl.snoc hs hc59 hrk⟩ | exact ⟨hmet, hl.same hc59⟩)⟩
    | false =>
     replace hc39 := bfalse hc39;refine zO R3 (zO R3 (zO R3 (zO R3 (zO R3 (zO R3 (zO R3 (zO R3 (zO R3 (zO R3 (zP R6 (zA R4 (zN (zD rfl (zU rfl (zF 3 R6 (zL 0 R3 R6 (zV R3 (Val.len_gs rfl rfl) (TO.gtr rfl rfl rfl rfl rfl (fun c56 hc56=>zA R4 (zN ?_))))))))))))))))))));cases c56 with
     | true =>
      replace hc56 := btrue hc56;refine zC rfl (zU rfl (zA R4 (zN (T.keep (s' := ⟨[], [(6, _)], _ :: _ :: _ :: C⟩) (sc (.cons _ (.cons_cons _ (.cons_cons _ (.cons_cons _ (.refl _)))))) (zR ?_)))))
      have hv : gathErr before g = 3 := by unfold gathErr; (repeat' split) <;> first | rfl | (exfalso; simp_all; done) | (exfalso; simp_all [inR]; omega) | simp_all [inR]
      exact ⟨rfl, _, rfl, _, _, _, congrArg iv hv.symm, rfl, fun h0 => aO⟩
     | false =>
      replace hc56 := bfalse hc56;refine zD rfl (zK (zS (zU rfl (zF 0 R6 (zV R3 (vW 0 [_,_] R5 R4) (TO.callD rfl rfl rfl rfl rfl (orcL rfl aD) (.cons (.agg (.cons .lit (.cons .lit .nil))) .nil) (sem_of (q_lettered g.sig )) (fun c59 hc59=>zN ?_)))))));cases c59 with
      | true =>
       replace hc59 := btrue hc59;refine zC rfl (zT rfl (zF 0 R6 (zV R3 (vW 0 [_,_] R5 R4) (TO.store_row (p := 3) (cv := [_, _]) (cells' := [_, _]) rfl rfl rfl rfl rfl rfl rfl rfl rfl rfl (by first | rfl | simp [GS.one]) (by decide) rfl (zG (_::_::_::_::C) rfl (zN (zU rfl (zF 3 R6 (zL 0 R3 R6 (zV R3 (Val.makeFunc rfl rfl) (TO.callV rfl rfl rfl rfl rfl rfl (orcN rfl) (q_chgs aO g _ aO) ?_)))))))))));rintro _ _ ⟨i0, rfl, rfl⟩;refine zG (_::_::_::_::C) rfl (zM R4 (zX R5 (zX R5 (zA R4 (zA R4 (zN (zU rfl (zM R4 (zA R4 (zN (T.keep (s' := ⟨[], [(6, _)], _ :: _ :: _ :: C⟩) (sc (.cons _ (.cons_cons _ (.cons_cons _ (.cons_cons _ (.refl _)))))) (zR ?_))))))))))))
       have hv : gathErr before g = chgsErr g.leaves none g.ch.l := by unfold gathErr; (repeat' split) <;> first | rfl | (exfalso; simp_all; done) | (exfalso; simp_all [inR]; omega) | simp_all [inR]
       exact ⟨rfl, _, rfl, _, _, _, congrArg iv hv.symm, rfl, fun h0 => (by first | exact ⟨hmet, hl.snoc hs hc59 hrk⟩ | exact ⟨hmet, hl.same hc59⟩)⟩
      | false =>
       replace hc59 := bfalse hc59;refine zD rfl (zK (zU rfl (zF 3 R6 (zL 0 R3 R6 (zV R3 (Val.makeFunc rfl rfl) (TO.callV rfl rfl rfl rfl rfl rfl (orcN rfl) (q_chgs aO g _ aO) ?_))))));rintro _ _ ⟨i0, rfl, rfl⟩;refine zG (_::_::_::_::C) rfl (zM R4 (zX R5 (zX R5 (zA R4 (zA R4 (zN (zU rfl (zM R4 (zA R4 (zN (T.keep (s' := ⟨[], [(6, _)], _ :: _ :: _ :: C⟩) (sc (.cons _ (.cons_cons _ (.cons_cons _ (.cons_cons _ (.refl _)))))) (zR ?_))))))))))))
       have hv : gathErr before g = chgsErr g.leaves none g.ch.l := by unfold gathErr; (repeat' split) <;> first | rfl | (exfalso; simp_all; done) | (exfalso; simp_all [inR]; omega) | simp_all [inR]
       exact ⟨rfl, _, rfl, _, _, _, congrArg iv hv.symm, rfl, fun h0 => (by first | exact ⟨hmet, hl.snoc hs hc59 hrk⟩ | exact ⟨hmet, hl.same hc59⟩)⟩
theorem q_gats {k bm bl mid : Nat} (hk : 2 ≤ k) (b : Book) (C : List Thing) (hb : b.gs.l.length ≤ 30) :
  TF (EL k) 74 [b.gs.v, .func 75 [] [.ptr bm 0 1, .ptr bl 0 2]] (.row bm 1 [.map mid] :: .cnt mid KPair (fun _ => 0) [] :: .row bl 2 [iv 0, iv 0] :: C) fun v hs' => ∃ (i0 e0 : Int) (f : Value → Int) (lr ll : Int), v = .tuple [iv i0, iv e0] ∧
   (gathsErr [] b.gs.l 0 = none ∧ i0 = 0 ∧ e0 = 0 ∨ ∃ j, gathsErr [] b.gs.l 0 = some (j, e0) ∧ i0 = j ∧ e0 ≠ 0) ∧ hs' = .row bm 1 [.map mid] :: .cnt mid KPair f [] :: .row bl 2 [iv lr, iv ll] :: C := by
 refine TF.enter (fn := Go.Proofs.Try.f74) rfl rfl rfl rfl rfl (zU rfl (zA R4 (zA R4 (zN (zS (zU rfl (zM R4 (zV R3 (Val.len_gs rfl rfl) (zM R4 (zN (zB (T.loop (fun μ s => ∃ i : Nat, ∃ j : Int, ∃ f : Value → Int, ∃ lr : Int, ∃ ll : Int, μ = b.gs.l.length - i ∧ j = i ∧ i ≤ b.gs.l.length ∧ gathsErr [] b.gs.l 0 = gathsErr (b.gs.l.take i) (b.gs.l.drop i) i ∧ MetOk (b.gs.l.take i) f ∧ LastOk (b.gs.l.take i) ⟨lr, ll⟩ ∧ s = ⟨[], [(1, .func 75 [] [.ptr bm 0 1, .ptr bl 0 2]), (9, b.gs.v), (10, iv (b.gs.l.length : Int)), (11, iv j)], (.row bm 1 [.map mid]) :: (.cnt mid KPair f []) :: (.row bl 2 [iv lr, iv ll]) :: C⟩) (k := _) (s' := _) ⟨0, 0, _, _, _, rfl, (by first | rfl | omega | (simp; done) | (simp; omega) | simp_all), (by first | rfl | omega | (simp; done) | (simp; omega) | simp_all), (by rfl), (by exact MetOk.nil), (by exact LastOk.nil), rfl⟩ ⟨rfl, (keep_cons rfl (keep_cons rfl (keep_cons rfl (keep_cons rfl keep_nil)))), (.cons_cons _ (.cons_cons _ (.cons_cons _ (.refl _))))⟩ ?_))))))))))));rintro μ _ ⟨i, j, f, lr, ll, hk0, hj, hi, he, hm, hl, rfl⟩;subst hj;refine zU rfl (TO.lss rfl rfl rfl rfl rfl (fun c12 hc12=>zN (zS ?_)));cases c12 with
 | true =>
  replace hc12 := btrue hc12;refine zC rfl (zK (zS (zB (zU rfl (zM R4 (TO.index_gs rfl rfl rfl ⟨rfl, rfl⟩ rfl rfl aO (fun g rg eg=>?_)))))))
  try simp only [Int.toNat_natCast] at eg
  refine zV R3 (Val.load_trees (c := _) ⟨⟨_, rfl, rfl⟩, rfl, by decide⟩ rfl rfl) (zJ 4 [_,_,_,_] R7 (fun b7=>zA R4 (TO.store_row (p := 0) (cv := [_, _, _, _]) (cells' := [_, _, _, _]) rfl rfl rfl rfl rfl rfl rfl rfl rfl rfl (by first | rfl | simp [GS.one]) (by decide) rfl (zG (_::_::_::_::C) rfl (zN (zU rfl (zM R4 (zM R4 (zV R3 (vW 0 [_,_,_,_] R5 R4) (TO.pick (p := 3) rfl (zG (_::_::_::_::C) rfl (TO.pick (p := 3) rfl (zG (_::_::_::_::C) rfl (TO.pick (p := 3) rfl (zG (_::_::_::_::C) rfl (TO.callV rfl rfl rfl rfl rfl rfl (orcN rfl) (q_gat hk g i (b.gs.l.take i) f lr ll _ (by rw [List.length_take]; omega) hm hl) ?_))))))))))))))));rintro _ _ ⟨f1, lr1, ll1, rfl, rfl, hnew⟩;generalize hE : gathErr (b.gs.l.take i) g = E19;refine zG (_::_::_::_::C) rfl (zA R4 (zN (zU rfl (zM R4 (TO.neq rfl rfl rfl rfl rfl (fun c21 hc21=>zN ?_))))));cases c21 with
  | true =>
   replace hc21 := btrue hc21
   have hG : gathsErr [] b.gs.l 0 = some (i, E19) := by rw [he, drop_cons eg, gathsErr, hE, if_pos hc21]
   refine zC rfl (zU rfl (zM R4 (zM R4 (zA R4 (zA R4 (zN (T.keep (s' := ⟨[], [(4, _), (5, _)], _ :: _ :: _ :: C⟩) (sc (.cons_cons _ (.cons_cons _ (.cons_cons _ (.cons _ (.refl _)))))) (zR ?_))))))));exact ⟨rfl, _, rfl, _, _, _, _, _, rfl, .inr ⟨_, hG, rfl, hc21⟩, rfl⟩
  | false =>
   replace hc21 := bfalse hc21
   have hE0 : E19 = 0 := by omega
   have hG : gathsErr [] b.gs.l 0 = gathsErr (b.gs.l.take (i + 1)) (b.gs.l.drop (i + 1)) (i + 1) := by rw [he, drop_cons eg, gathsErr, hE, if_neg hc21, take_snoc eg]
   have hnew := hnew (hE.trans hE0);rw [← take_snoc eg] at hnew;refine zD rfl (zK (zT rfl (zV R3 (Val.add rfl rfl aO) (zM R4 (zN ?_)))));refine ⟨_, _, aO, ⟨i + 1, _, _, _, _, rfl, (by first | omega | simp_all), (by first | omega | simp_all), (by exact hG), (by exact hnew.1), (by exact hnew.2), rfl⟩, ⟨rfl, (keep_cons rfl (keep_cons rfl (keep_cons rfl (keep_cons rfl keep_nil)))), (.cons_cons _ (.cons_cons _ (.cons_cons _ (.cons _ (.refl _)))))⟩⟩
 | false =>
  replace hc12 := bfalse hc12
  have hG : gathsErr [] b.gs.l 0 = none := by rw [he, List.drop_eq_nil_of_le aO, gathsErr]
  refine zD rfl (zE (zU rfl (zA R4 (zA R4 (zN (T.keep (s' := ⟨[], [(4, _), (5, _)], _ :: _ :: _ :: C⟩) (sc (.cons_cons _ (.cons_cons _ (.cons_cons _ (.refl _))))) (zR ?_)))))));exact ⟨rfl, _, rfl, _, _, _, _, _, rfl, .inl ⟨hG, rfl, rfl⟩, rfl⟩
theorem q_Check (b : Book)  : Comes (EL 2) 56 [.agg (encB.f b)] (.tuple [iv (bookErr b).1, iv (bookErr b).2.1, iv (bookErr b).2.2]) := by
 refine Comes.of (TF.enter (fn := Go.Proofs.Try.f56) rfl rfl rfl rfl rfl ?_);refine zU rfl (zQ 2 [_,_] R7 (fun b1=>zA R4 (zA R4 (zA R4 (zN (zS (zB (zU rfl (zF 0 R6 (zL 0 R3 R6 (TO.build1 (en := encI) (a := _) rfl rfl rfl ⟨rfl, rfl⟩ ⟨_, rfl, rfl⟩ (by decide) (by decide) rfl rfl (fun v10=>TO.callD rfl rfl rfl rfl rfl (orcL rfl aD) (.cons .lit (.cons .lit (.cons (.ownL (p := 0) rfl .ints) .nil))) (sem_of (q_out _ _ _ (by exact out1_small))) (fun c11 hc11=>?_)))))))))))));replace hc11 := out1 hc11;refine zA R4 (zN ?_);cases c11 with
 | true =>
  replace hc11 := btrue hc11
  have hr1 : ¬ inR b.signed 0 12 := by unfold inR; omega
  clear hc11
  refine zC rfl (zU rfl (zA R4 (zA R4 (zA R4 (zN (zR ?_))))));exact ⟨rfl, _, rfl, RefN.cast (.tuple (.cons .lit (.cons .lit (.cons .lit .nil)))) (by unfold bookErr; simp_all)⟩
 | false =>
  replace hc11 := bfalse hc11
  have hr1 : inR b.signed 0 12 := by unfold inR; omega
  clear hc11
  refine zD rfl (zU rfl (zF 1 R6 (zL 1 R3 R6 (zV R3 (Val.len_gs rfl rfl) (TO.build1 (en := encI) (a := _) rfl rfl rfl ⟨rfl, rfl⟩ ⟨_, rfl, rfl⟩ (by decide) (by decide) rfl rfl (fun v16=>TO.callD rfl rfl rfl rfl rfl (orcL rfl aD) (.cons .lit (.cons .lit (.cons (.ownL (p := 0) rfl .ints) .nil))) (sem_of (q_out _ _ _ (by exact out1_small))) (fun c17 hc17=>?_)))))));replace hc17 := out1 hc17;refine zA R4 (zN ?_);cases c17 with
  | true =>
   replace hc17 := btrue hc17
   have hr2 : ¬ inR b.gs.l.length 1 30 := by unfold inR; omega
   clear hc17
   refine zC rfl (zU rfl (zA R4 (zA R4 (zA R4 (zN (zR ?_))))));exact ⟨rfl, _, rfl, RefN.cast (.tuple (.cons .lit (.cons .lit (.cons .lit .nil)))) (by unfold bookErr; simp_all)⟩
  | false =>
   replace hc17 := bfalse hc17
   have hr2 : inR b.gs.l.length 1 30 := by unfold inR; omega
   refine zD rfl (zK (zU rfl (TO.makeMap KPair rfl rfl rfl (fun m18=>zJ 1 [_] R7 (fun b5=>TO.store_row (p := 0) (cv := [_]) (cells' := [_]) rfl rfl rfl rfl rfl rfl rfl rfl rfl rfl (by first | rfl | simp [GS.one]) (by decide) rfl (zG ([_,_,_,_,_]) rfl (zN (zU rfl (zJ 2 [_,_] R7 (fun b6=>zN (zU rfl (zF 1 R6 (zL 5 R3 R6 (zV R3 (Val.makeFunc rfl rfl) (TO.pick (p := 2) rfl (zG ([_,_,_,_,_,_]) rfl (TO.pick (p := 2) rfl (zG ([_,_,_,_,_,_]) rfl (TO.callV rfl rfl rfl rfl rfl rfl (orcN rfl) (q_gats (by decide) b _ aO) ?_)))))))))))))))))));rintro _ _ ⟨i0, e0, f1, lr1, ll1, rfl, hG, rfl⟩;refine zG ([_,_,_,_,_,_]) rfl (zM R4 (zX R5 (zX R5 (zA R4 (zA R4 (zN (zS (zU rfl (zM R4 (TO.neq rfl rfl rfl rfl rfl (fun c27 hc27=>zN ?_)))))))))));cases c27 with
   | true =>
    replace hc27 := btrue hc27;obtain ⟨j0, hG, rfl, -⟩ : ∃ j, gathsErr [] b.gs.l 0 = some (j, e0) ∧ i0 = j ∧ e0 ≠ 0 := by rcases hG with ⟨-, -, h⟩ | h; exact absurd h hc27; exact h
    refine zC rfl (zU rfl (zM R4 (zM R4 (zA R4 (zA R4 (zA R4 (zN (zR ?_))))))));exact ⟨rfl, _, rfl, RefN.cast (.tuple (.cons .lit (.cons .lit (.cons .lit .nil)))) (by unfold bookErr; simp_all)⟩
   | false =>
    replace hc27 := bfalse hc27;replace hG : gathsErr [] b.gs.l 0 = none := by rcases hG with ⟨h, -, -⟩ | ⟨j, -, -, h⟩; exact h; exact absurd h hc27
    refine zD rfl (zK (zU rfl (zA R4 (zA R4 (zA R4 (zN (zR ?_)))))));exact ⟨rfl, _, rfl, RefN.cast (.tuple (.cons .lit (.cons .lit (.cons .lit .nil)))) (by unfold bookErr; simp_all)⟩
end Go.Am.Ythckcbfijdambaa
end
section
namespace Go.Am.Ythckcbfijdambaa
open Go.Am Go.RowKit
set_option linter.unusedVariables false
set_option linter.unusedSimpArgs false
def ArgL (x : Leaf) (vs : List AV) (G : List Thing) : Prop := vs = [.agg (encL.f x)] ∧ G = []
theorem lv_iter {k : Nat} {b : Book} {bx l : Nat} {Y Z : List Leaf → List Thing → Prop} (hb : Good b) (hy : VisitG (EL k) l ArgL (· <+: leavesOf b) Y Z) (C : List Thing) (hY : Y [] C) :
  TF (EL k) 103 [.yield l, .ptr bx 0 2] (.row bx 2 [iv b.signed, b.gs.v] :: C) (fun v hs' => ∃ C', hs' = .row bx 2 [iv b.signed, b.gs.v] :: C' ∧ (Y (leavesOf b) C' ∨ ∃ q r, leavesOf b = q ++ r ∧ Z q C')) := by
 have hgs := hb.gs;refine TF.enter (fn := Go.Proofs.Try.f103) rfl rfl rfl rfl rfl (zU rfl (zF 0 R6 (zF 1 R6 (zL 0 R3 R6 (zV R3 (Val.len_gs rfl rfl) (zM R4 (zN (zB (T.loop (fun μ s => ∃ i : Nat, ∃ j : Int, ∃ C1 : List Thing, μ = b.gs.l.length - i ∧ j = i ∧ i ≤ b.gs.l.length ∧ Y (leavesFrom 0 (b.gs.l.take i)) C1 ∧ s = ⟨[], [(0, .yield l), (1, .ptr bx 0 2), (16, b.gs.v), (17, iv (b.gs.l.length : Int)), (18, iv j)], (.row bx 2 [iv b.signed, b.gs.v]) :: C1⟩) (k := _) (s' := _) ⟨0, 0, _, rfl, (by first | rfl | omega | (simp; done) | (simp; omega) | simp_all), (by first | rfl | omega | (simp; done) | (simp; omega) | simp_all), (by simpa [leavesFrom] using hY), rfl⟩ ⟨rfl, (keep_cons rfl (keep_cons rfl (keep_cons rfl (keep_cons rfl (keep_cons rfl keep_nil))))), (.cons_cons _ (.refl _))⟩ ?_)))))))));rintro μ _ ⟨i, j, C1, hk0, hj, hi, hY1, rfl⟩;subst hj;refine zU rfl (TO.lss rfl rfl rfl rfl rfl (fun c19 hc19=>zN (zS ?_)));cases c19 with
 | true =>
  replace hc19 := btrue hc19;refine zC rfl (zK (zS (zB (zU rfl (zM R4 (TO.index_gs rfl rfl rfl ⟨rfl, rfl⟩ rfl rfl aO (fun g rg eg=>?_)))))))
  try simp only [Int.toNat_natCast] at eg
  obtain ⟨hg1, hg2, hg3, hg4, hg5⟩ := hb.each g (List.mem_of_getElem? eg);refine zV R3 (Val.load_trees (c := _) ⟨⟨_, rfl, rfl⟩, rfl, by decide⟩ rfl rfl) (zJ 4 [_,_,_,_] R7 (fun b4=>zA R4 (TO.store_row (p := 0) (cv := [_, _, _, _]) (cells' := [_, _, _, _]) rfl rfl rfl rfl rfl rfl rfl rfl rfl rfl (by first | rfl | simp [GS.one]) (by decide) rfl (zG (_::_::C1) rfl (zN (zU rfl (zF 3 R6 (zL 0 R3 R6 (zV R3 (Val.len_gs rfl rfl) (TO.makeEn (en := encC) ⟨0, 0, 0⟩ (m := g.ch.l.length) (b := 24) rfl rfl rfl ⟨rfl, rfl⟩ rfl rfl rfl rfl rfl aO aO (fun v26 hv26=>zA R4 (zN (zU rfl (zM R4 (zF 3 R6 (zL 1 R3 R6 (TO.eff rfl rfl rfl (Eff.copy_gs (en := encC) (l := _) (p := 0) ⟨rfl, rfl⟩ (by decide) rfl rfl rfl rfl (en_ones encC_ones _) (by simp)) ?_)))))))))))))))));rintro _ _ ⟨rfl, rfl⟩;refine zG (_::_::_::C1) rfl (zN (zU rfl (zF 2 R6 (zL 1 R3 R6 (zV R3 (Val.add rfl rfl aO) (zM R4 (zN (zB (T.loop (fun μ s => ∃ n : Nat, ∃ j1 : Int, ∃ tk : Nat, ∃ w : AV, ∃ C2 : List Thing, μ = (g.leaves + 1).toNat - n ∧ j1 = n ∧ (n : Int) ≤ g.leaves + 1 ∧ ViewOf v26 3 g.ch.l.length tk w ∧ (∀ c ∈ g.ch.l.take tk, c.at_ < n) ∧ (∀ c ∈ g.ch.l.drop tk, n ≤ c.at_) ∧ Y (leavesFrom 0 (b.gs.l.take i) ++ (List.range n).flatMap (numLeaves (i : Int) g)) C2 ∧ s = ⟨[], [(0, .yield l), (1, .ptr bx 0 2), (16, b.gs.v), (17, iv (b.gs.l.length : Int)), (18, iv (i : Int)), (3, iv (i : Int)), (4, .ptr b4 0 4), (5, w), (33, iv (g.leaves + 1)), (34, iv j1)], (ownL false v26 encC g.ch.l) :: (.row b4 4 [iv g.round, iv g.letter, iv g.leaves, g.ch.v]) :: (.row bx 2 [iv b.signed, b.gs.v]) :: C2⟩) (k := _) (s' := _) ⟨0, 0, 0, _, _, rfl, (by first | rfl | omega | (simp; done) | (simp; omega) | simp_all), (by first | rfl | omega | (simp; done) | (simp; omega) | simp_all), (by exact hv26), (by first | rfl | omega | (simp; done) | (simp; omega) | simp_all), (by intro c hc; exact (hg5.each c (List.mem_of_mem_drop hc)).2.2.1), (by simpa using hY1), rfl⟩ ⟨rfl, (keep_cons rfl (keep_cons rfl (keep_cons rfl (keep_cons rfl (keep_cons rfl (keep_cons rfl (keep_cons rfl (keep_cons rfl (keep_cons rfl (keep_cons rfl keep_nil)))))))))), (.cons_cons _ (.cons_cons _ (.cons_cons _ (.refl _))))⟩ ?_)))))))));rintro μ _ ⟨n, j1, tk, w, C2, hk1, hj1, hn, hw, hs1, hs2, hY2, rfl⟩;subst hj1;refine zU rfl (TO.lss rfl rfl rfl rfl rfl (fun c35 hc35=>zN (zS ?_)));cases c35 with
  | true =>
   replace hc35 := btrue hc35;refine zC rfl (zK (zS (zB (zU rfl (zM R4 (zA R4 (zN (zU rfl (zM R4 (zM R4 (zV R3 (Val.build (cs := [_, _, _, _]) (vs := [(_, _), (_, _)]) rfl rfl rfl) (zJ 4 [_,_,_,_] R7 (fun b7=>TO.store_row (p := 0) (cv := [_, _, _, _]) (cells' := [_, _, _, _]) rfl rfl rfl rfl rfl rfl rfl rfl rfl rfl (by first | rfl | simp [GS.one]) (by decide) rfl (zG (_::_::_::_::C2) rfl (zN (zU rfl (zM R4 (TO.gtr rfl rfl rfl rfl rfl (fun c41 hc41=>zA R4 (zA R4 (zN (zS (zB (T.loop (fun μ s => ∃ s3 : Nat, ∃ w3 : AV, ∃ th : Bool, ∃ kd : Int, ∃ mo : Int, μ = g.ch.l.length - s3 ∧ ViewOf v26 3 g.ch.l.length s3 w3 ∧ AtN g.ch.l n s3 ∧ (th = true ↔ 0 < (n : Int) ∧ (plusOf (g.ch.l.take s3) n).2 ≠ 1) ∧ kd = (if (plusOf (g.ch.l.take s3) n).2 = 2 then 1 else 0) ∧ mo = (plusOf (g.ch.l.take s3) n).1 ∧ s = ⟨[], [(0, .yield l), (1, .ptr bx 0 2), (16, b.gs.v), (17, iv (b.gs.l.length : Int)), (18, iv (i : Int)), (3, iv (i : Int)), (4, .ptr b4 0 4), (5, w3), (33, iv (g.leaves + 1)), (34, iv (n : Int)), (6, iv (n : Int)), (7, .ptr b7 0 4), (8, bv th), (9, iv mo)], (.row b7 4 [iv (i : Int), iv (n : Int), iv 0, iv kd]) :: (ownL false v26 encC g.ch.l) :: (.row b4 4 [iv g.round, iv g.letter, iv g.leaves, g.ch.v]) :: (.row bx 2 [iv b.signed, b.gs.v]) :: C2⟩) (k := _) (s' := _) ⟨tk, w, _, 0, 0, rfl, (by exact hw), (by exact (AtN.start hs1 hs2).1), (by rw [(AtN.start hs1 hs2).2, hc41]; simp), (by rw [(AtN.start hs1 hs2).2]; rfl), (by rw [(AtN.start hs1 hs2).2]), rfl⟩ ⟨rfl, (keep_cons rfl (keep_cons rfl (keep_cons rfl (keep_cons rfl (keep_cons rfl (keep_cons rfl (keep_cons rfl (keep_cons rfl (keep_cons rfl (keep_cons rfl (keep_cons rfl (keep_cons rfl (keep_cons rfl (keep_cons rfl keep_nil)))))))))))))), (.cons_cons _ (.cons_cons _ (.cons_cons _ (.cons_cons _ (.refl _)))))⟩ ?_))))))))))))))))))))))));rintro μ _ ⟨s3, w3, th, kd, mo, hk2, hw3, hat, hth, hkd, hmo, rfl⟩;refine zS (zU rfl (zM R4 (zV R3 (Val.len_view hw3 rfl rfl) (TO.gtr rfl rfl rfl rfl rfl (fun c44 hc44=>zM R4 ?_)))));cases c44 with
   | true =>
    replace hc44 := btrue hc44;refine zM R4 (TO.iaddr_view (en := encC) (p := 1) rfl rfl rfl ⟨rfl, rfl⟩ rfl hw3 rfl rfl (by show 0 ≤ (0 : Int) ∧ s3 + 0 < _; omega) (fun id47 c atc ec=>?_));replace ec : g.ch.l[s3]? = some c := ec;refine zV R3 (Val.faddr_ptr_ rfl rfl) (zV R3 (Val.load_ownL (en := encC) (p := 1) (j := 1) rfl atc ⟨_, rfl, rfl⟩ rfl ec rfl) (zM R4 (TO.eql rfl rfl rfl rfl rfl (fun c51 hc51=>zP R6 (zN ?_)))));cases c51 with
    | true =>
     replace hc51 := btrue hc51;refine zC rfl (zK (zB (zS (zU rfl (zM R4 (TO.iaddr_view (en := encC) (p := 1) rfl rfl rfl ⟨rfl, rfl⟩ rfl hw3 rfl rfl (by show 0 ≤ (0 : Int) ∧ s3 + 0 < _; omega) (fun id54 c2 atc2 ec2=>?_)))))))
     have e54 : c2 = c := Option.some.inj (Eq.trans (show some c2 = g.ch.l[s3]? from ec2.symm) ec);subst e54;refine zV R3 (Val.load_ownA (en := encC) (p := 1) rfl atc2 ⟨⟨_, rfl, rfl⟩, rfl, by decide⟩ rfl ec2) (TO.callIn rfl rfl rfl rfl rfl rfl (orcN rfl) (TF.enter (fn := Go.Proofs.Try.f81) rfl rfl rfl rfl rfl (zU rfl (zQ 3 [_,_,_] R7 (fun b1=>zA R4 (zN (zS (zU rfl (zF 0 R6 (zL 0 R3 R6 (zN (zB (zU rfl (TO.eql rfl rfl rfl rfl rfl (fun c6 hc6=>zA R4 (zN ?_))))))))))))))));cases c6 with
     | true =>
      replace hc6 := btrue hc6
      have hp0 := plusOf_first hg5.order ec hc51 aO
      have hp := step_less hg5.order ec hc51 hc6;refine zC rfl (zU rfl (zF 1 R6 (zL 0 R3 R6 (zV R3 (Val.build (cs := [_]) (vs := [(_, _)]) rfl rfl rfl) (zV R3 (Val.makeIface rfl rfl rfl) (zA R4 (zN (zR ?_))))))));refine ⟨rfl, _, rfl, ?_⟩;refine zN (zB (zU rfl (zV R3 (Val.assert_yes rfl rfl rfl rfl) (zX R5 (zX R5 (zN (zC rfl (zU rfl (zJ 1 [_] R7 (fun b10=>TO.store_row (p := 0) (cv := [_]) (cells' := [_]) rfl rfl rfl rfl rfl rfl rfl rfl rfl rfl (by first | rfl | simp [GS.one]) (by decide) rfl (zG (_::_::_::_::_::_::C2) rfl (zN (zT rfl (zA R4 (zN (zT rfl (zM R4 (TO.slice_view (en := encC) (p := 3) (j := 1) rfl rfl rfl ⟨rfl, rfl⟩ rfl hw3 rfl rfl aO (fun w70 hw70=>zA R4 (zN ?_))))))))))))))))))));refine ⟨_, _, aO, ⟨s3 + 1, _, _, _, _, rfl, (by exact hw70), (by exact hat.one ec hc51), (by rw [hp]; simp), (by rw [hp]; rw [hp0] at hkd; simpa using hkd), (by rw [hp]; rw [hp0] at hmo; exact hmo), rfl⟩, ⟨rfl, (keep_cons rfl (keep_cons rfl (keep_cons rfl (keep_cons rfl (keep_cons rfl (keep_cons rfl (keep_cons rfl (keep_cons rfl (keep_cons rfl (keep_cons rfl (keep_cons rfl (keep_cons rfl (keep_cons rfl (keep_cons rfl keep_nil)))))))))))))), (.cons _ (.cons _ (.cons_cons _ (.cons_cons _ (.cons_cons _ (.cons_cons _ (.refl _)))))))⟩⟩
     | false =>
      replace hc6 := bfalse hc6;refine zD rfl (zU rfl (TO.eql rfl rfl rfl rfl rfl (fun c12 hc12=>zA R4 (zN ?_))));cases c12 with
      | true =>
       replace hc12 := btrue hc12
       have hp0 := plusOf_first hg5.order ec hc51 aO
       have hp := step_swap hg5.order ec hc51 hc12;refine zC rfl (zU rfl (zF 1 R6 (zL 0 R3 R6 (zV R3 (Val.build (cs := [_]) (vs := [(_, _)]) rfl rfl rfl) (zV R3 (Val.makeIface rfl rfl rfl) (zA R4 (zN (zR ?_))))))));refine ⟨rfl, _, rfl, ?_⟩;refine zN (zB (zU rfl (zV R3 (Val.assert_no rfl rfl rfl rfl rfl) (zX R5 (zX R5 (zN (zD rfl (zU rfl (zV R3 (Val.assert_yes rfl rfl rfl rfl) (zX R5 (zX R5 (zN (zC rfl (zU rfl (zJ 1 [_] R7 (fun b11=>TO.store_row (p := 0) (cv := [_]) (cells' := [_]) rfl rfl rfl rfl rfl rfl rfl rfl rfl rfl (by first | rfl | simp [GS.one]) (by decide) rfl (zG (_::_::_::_::_::_::C2) rfl (zN (zT rfl (zF 3 R6 (TO.store_row (p := 2) (cv := [_]) (cells' := [_, _, _, _]) rfl rfl rfl rfl rfl rfl rfl rfl rfl rfl (by first | rfl | simp [GS.one]) (by decide) rfl (zG (_::_::_::_::_::_::C2) rfl (zN (zT rfl (zM R4 (TO.slice_view (en := encC) (p := 3) (j := 1) rfl rfl rfl ⟨rfl, rfl⟩ rfl hw3 rfl rfl aO (fun w70 hw70=>zA R4 (zN ?_))))))))))))))))))))))))))));refine ⟨_, _, aO, ⟨s3 + 1, _, _, _, _, rfl, (by exact hw70), (by exact hat.one ec hc51), (by rw [hp]; rw [hp0] at hth; simpa using hth), (by rw [hp]; rfl), (by rw [hp]; rw [hp0] at hmo; exact hmo), rfl⟩, ⟨rfl, (keep_cons rfl (keep_cons rfl (keep_cons rfl (keep_cons rfl (keep_cons rfl (keep_cons rfl (keep_cons rfl (keep_cons rfl (keep_cons rfl (keep_cons rfl (keep_cons rfl (keep_cons rfl (keep_cons rfl (keep_cons rfl keep_nil)))))))))))))), (.cons _ (.cons _ (.cons_cons _ (.cons_cons _ (.cons_cons _ (.cons_cons _ (.refl _)))))))⟩⟩
      | false =>
       replace hc12 := bfalse hc12;refine zD rfl (zU rfl (TO.eql rfl rfl rfl rfl rfl (fun c18 hc18=>zA R4 (zN ?_))));cases c18 with
       | true =>
        replace hc18 := btrue hc18
        have hp := step_plus ec hc51 hc18;refine zC rfl (zU rfl (zF 1 R6 (zL 0 R3 R6 (zF 2 R6 (zL 0 R3 R6 (zV R3 (Val.build (cs := [_, _]) (vs := [(_, _), (_, _)]) rfl rfl rfl) (zV R3 (Val.makeIface rfl rfl rfl) (zA R4 (zN (zR ?_))))))))));refine ⟨rfl, _, rfl, ?_⟩;refine zN (zB (zU rfl (zV R3 (Val.assert_no rfl rfl rfl rfl rfl) (zX R5 (zX R5 (zN (zD rfl (zU rfl (zV R3 (Val.assert_no rfl rfl rfl rfl rfl) (zX R5 (zX R5 (zN (zD rfl (zU rfl (zV R3 (Val.assert_yes rfl rfl rfl rfl) (zX R5 (zX R5 (zN (zC rfl (zU rfl (zJ 2 [_,_] R7 (fun b12=>TO.store_row (p := 0) (cv := [_, _]) (cells' := [_, _]) rfl rfl rfl rfl rfl rfl rfl rfl rfl rfl (by first | rfl | simp [GS.one]) (by decide) rfl (zG (_::_::_::_::_::_::C2) rfl (zN (zT rfl (zF 1 R6 (zL 0 R3 R6 (zA R4 (zN (zT rfl (zM R4 (TO.slice_view (en := encC) (p := 3) (j := 1) rfl rfl rfl ⟨rfl, rfl⟩ rfl hw3 rfl rfl aO (fun w70 hw70=>zA R4 (zN ?_))))))))))))))))))))))))))))))))));refine ⟨_, _, aO, ⟨s3 + 1, _, _, _, _, rfl, (by exact hw70), (by exact hat.one ec hc51), (by rw [hp]; exact hth), (by rw [hp]; exact hkd), (by rw [hp]), rfl⟩, ⟨rfl, (keep_cons rfl (keep_cons rfl (keep_cons rfl (keep_cons rfl (keep_cons rfl (keep_cons rfl (keep_cons rfl (keep_cons rfl (keep_cons rfl (keep_cons rfl (keep_cons rfl (keep_cons rfl (keep_cons rfl (keep_cons rfl keep_nil)))))))))))))), (.cons _ (.cons _ (.cons_cons _ (.cons_cons _ (.cons_cons _ (.cons_cons _ (.refl _)))))))⟩⟩
       | false =>
        replace hc18 := bfalse hc18
        exfalso; have := hg5.each _ (List.mem_of_getElem? ec); omega
    | false =>
     replace hc51 := bfalse hc51
     have hov := hat.over hg5.order (.inr ⟨_, ec, hc51⟩)
     have hmo4 : mo ≤ 4 := by rw [hmo]; exact plusOf_le fun c hc => (hg5.each c (List.mem_of_mem_take hc)).2.2.2.2
     refine zD rfl (zE (zS (zU rfl (zM R4 (zM R4 ?_)))));cases th with
     | true =>
      replace hth := btrue hth
      have hown : ownLeaf (i : Int) (n : Int) g = [⟨i, n, 0, kd⟩] := by unfold ownLeaf; rw [hov.1, if_pos hth, ← hkd]
      refine zM R4 (zV R3 (vW 0 [_,_,_,_] R5 R4) (TO.perm (hs' := C2 ++ [_, _, _, _]) List.perm_append_comm (TO.callY rfl rfl rfl rfl rfl (hy (leavesFrom 0 (b.gs.l.take i) ++ (List.range n).flatMap (numLeaves (i : Int) g)) ⟨(i : Int), (n : Int), 0, kd⟩ _ [] C2 _ (hown ▸ own_first eg hc35) ⟨rfl, rfl⟩ hY2) ?_)));rintro _ _ (⟨rfl, C9, rfl, hY9⟩ | ⟨rfl, C9, rfl, hZ9⟩)
      ·skip;refine TO.perm (hs' := [_, _, _, _] ++ C9) List.perm_append_comm (zG (_::_::_::_::C9) rfl (zV R3 (Val.not rfl) (zP R6 (zN (zD rfl (zK (zU rfl (zM R4 (zM R4 (zN (zB (T.loop (fun μ s => ∃ k1 : Nat, ∃ j3 : Int, ∃ C3 : List Thing, μ = mo.toNat - k1 ∧ j3 = k1 ∧ (k1 : Int) ≤ max 0 mo ∧ Y (leavesFrom 0 (b.gs.l.take i) ++ (List.range n).flatMap (numLeaves (i : Int) g) ++ ownLeaf (i : Int) (n : Int) g ++ newLeaves (i : Int) (n : Int) k1) C3 ∧ s = ⟨[], [(0, .yield l), (1, .ptr bx 0 2), (16, b.gs.v), (17, iv (b.gs.l.length : Int)), (18, iv (i : Int)), (3, iv (i : Int)), (4, .ptr b4 0 4), (5, w3), (33, iv (g.leaves + 1)), (34, iv (n : Int)), (6, iv (n : Int)), (78, iv mo), (79, iv j3)], (ownL false v26 encC g.ch.l) :: (.row b4 4 [iv g.round, iv g.letter, iv g.leaves, g.ch.v]) :: (.row bx 2 [iv b.signed, b.gs.v]) :: C3⟩) (k := _) (s' := _) ⟨0, 0, _, rfl, (by first | rfl | omega | (simp; done) | (simp; omega) | simp_all), (by first | rfl | omega | (simp; done) | (simp; omega) | simp_all), (by rw [hown, show newLeaves (i : Int) (n : Int) 0 = [] from rfl, List.append_nil]; first | exact hY9 | (rw [List.append_nil]; exact hY2)), rfl⟩ ⟨rfl, (keep_cons rfl (keep_cons rfl (keep_cons rfl (keep_cons rfl (keep_cons rfl (keep_cons rfl (keep_cons rfl (keep_cons rfl (keep_cons rfl (keep_cons rfl (keep_cons rfl (keep_cons rfl (keep_cons rfl keep_nil))))))))))))), (.cons _ (.cons_cons _ (.cons_cons _ (.cons_cons _ (.refl _)))))⟩ ?_))))))))))))
       rintro μ _ ⟨k1, j3, C3, hk3, hj3, hk1, hY3, rfl⟩;subst hj3;refine zU rfl (TO.lss rfl rfl rfl rfl rfl (fun c80 hc80=>zN (zS ?_)));cases c80 with
       | true =>
        replace hc80 := btrue hc80;refine zC rfl (zK (zS (zB (zU rfl (zM R4 (zA R4 (zN (zU rfl (zM R4 (zM R4 (zM R4 (zM R4 (zV R3 (Val.add rfl rfl aO) (zV R3 (Val.build (cs := [_, _, _, _]) (vs := [(_, _), (_, _), (_, _), (_, _)]) rfl rfl rfl) (TO.perm (hs' := C3 ++ [_, _, _]) List.perm_append_comm (TO.callY rfl rfl rfl rfl rfl (hy (leavesFrom 0 (b.gs.l.take i) ++ (List.range n).flatMap (numLeaves (i : Int) g) ++ ownLeaf (i : Int) (n : Int) g ++ newLeaves (i : Int) (n : Int) k1) ⟨(i : Int), (n : Int), (k1 : Int) + 1, 2⟩ _ [] C3 _ (by rw [List.append_assoc, ← newLeaves_succ]; exact new_first eg hc35 (by rw [hov.1, ← hmo]; omega)) ⟨rfl, rfl⟩ hY3) ?_))))))))))))))));rintro _ _ (⟨rfl, C9, rfl, hY9⟩ | ⟨rfl, C9, rfl, hZ9⟩)
        ·skip;refine TO.perm (hs' := [_, _, _] ++ C9) List.perm_append_comm (zG (_::_::_::C9) rfl (zV R3 (Val.not rfl) (zN (zD rfl (zK (zT rfl (zV R3 (Val.add rfl rfl aO) (zM R4 (zN ?_)))))))))
         refine ⟨_, _, aO, ⟨k1 + 1, _, _, rfl, (by first | omega | simp_all), (by first | omega | simp_all), (by rw [newLeaves_succ, ← List.append_assoc]; exact hY9), rfl⟩, ⟨rfl, (keep_cons rfl (keep_cons rfl (keep_cons rfl (keep_cons rfl (keep_cons rfl (keep_cons rfl (keep_cons rfl (keep_cons rfl (keep_cons rfl (keep_cons rfl (keep_cons rfl (keep_cons rfl (keep_cons rfl keep_nil))))))))))))), (.cons_cons _ (.cons_cons _ (.cons_cons _ (.refl _))))⟩⟩
        ·skip;refine TO.perm (hs' := [_, _, _] ++ C9) List.perm_append_comm (zG (_::_::_::C9) rfl (zV R3 (Val.not rfl) (zN (zC rfl (T.keep (s' := ⟨[], [], _ :: C9⟩) (sc (.cons _ (.cons _ (.cons_cons _ (.refl _))))) (zR ?_))))))
         obtain ⟨r9, hr9⟩ := new_first (j := k1 + 1) eg hc35 (by rw [hov.1, ← hmo]; omega); exact ⟨rfl, _, rfl, C9, rfl, .inr ⟨_, r9, hr9.symm, by rw [newLeaves_succ, ← List.append_assoc]; exact hZ9⟩⟩
       | false =>
        replace hc80 := bfalse hc80
        have hkm : k1 = mo.toNat := by omega
        have enum : numLeaves (i : Int) g n = ownLeaf (i : Int) (n : Int) g ++ newLeaves (i : Int) (n : Int) k1 := by unfold numLeaves; rw [hov.1, ← hmo, hkm]
        refine zD rfl (zE (zT rfl (zV R3 (Val.add rfl rfl aO) (zM R4 (zN ?_)))));refine ⟨_, _, aO, ⟨n + 1, _, _, _, _, rfl, (by first | omega | simp_all), (by first | omega | simp_all), (by exact hw3), (by intro c hc; have := hov.2.1 c hc; omega), (by intro c hc; have := hov.2.2 c hc; omega), (by rw [range_flat_succ, enum, ← List.append_assoc, ← List.append_assoc]; exact hY3), rfl⟩, ⟨rfl, (keep_cons rfl (keep_cons rfl (keep_cons rfl (keep_cons rfl (keep_cons rfl (keep_cons rfl (keep_cons rfl (keep_cons rfl (keep_cons rfl (keep_cons rfl keep_nil)))))))))), (.cons_cons _ (.cons_cons _ (.cons_cons _ (.refl _))))⟩⟩
      ·skip;refine TO.perm (hs' := [_, _, _, _] ++ C9) List.perm_append_comm (zG (_::_::_::_::C9) rfl (zV R3 (Val.not rfl) (zP R6 (zN (zC rfl (T.keep (s' := ⟨[], [], _ :: C9⟩) (sc (.cons _ (.cons _ (.cons _ (.cons_cons _ (.refl _)))))) (zR ?_)))))))
       obtain ⟨r9, hr9⟩ := new_first (j := 0) eg hc35 (Nat.zero_le _); exact ⟨rfl, _, rfl, C9, rfl, .inr ⟨_, r9, hr9.symm, by rw [hown, show newLeaves (i : Int) (n : Int) 0 = [] from rfl, List.append_nil]; exact hZ9⟩⟩
     | false =>
      replace hth := bfalse hth
      have hown : ownLeaf (i : Int) (n : Int) g = [] := by unfold ownLeaf; rw [hov.1, if_neg hth]
      refine zO R3 (zO R3 (zO R3 (zO R3 (zP R6 (zN (zD rfl (zK (zU rfl (zM R4 (zM R4 (zN (zB (T.loop (fun μ s => ∃ k1 : Nat, ∃ j3 : Int, ∃ C3 : List Thing, μ = mo.toNat - k1 ∧ j3 = k1 ∧ (k1 : Int) ≤ max 0 mo ∧ Y (leavesFrom 0 (b.gs.l.take i) ++ (List.range n).flatMap (numLeaves (i : Int) g) ++ ownLeaf (i : Int) (n : Int) g ++ newLeaves (i : Int) (n : Int) k1) C3 ∧ s = ⟨[], [(0, .yield l), (1, .ptr bx 0 2), (16, b.gs.v), (17, iv (b.gs.l.length : Int)), (18, iv (i : Int)), (3, iv (i : Int)), (4, .ptr b4 0 4), (5, w3), (33, iv (g.leaves + 1)), (34, iv (n : Int)), (6, iv (n : Int)), (78, iv mo), (79, iv j3)], (ownL false v26 encC g.ch.l) :: (.row b4 4 [iv g.round, iv g.letter, iv g.leaves, g.ch.v]) :: (.row bx 2 [iv b.signed, b.gs.v]) :: C3⟩) (k := _) (s' := _) ⟨0, 0, _, rfl, (by first | rfl | omega | (simp; done) | (simp; omega) | simp_all), (by first | rfl | omega | (simp; done) | (simp; omega) | simp_all), (by rw [hown, show newLeaves (i : Int) (n : Int) 0 = [] from rfl, List.append_nil]; first | exact hY9 | (rw [List.append_nil]; exact hY2)), rfl⟩ ⟨rfl, (keep_cons rfl (keep_cons rfl (keep_cons rfl (keep_cons rfl (keep_cons rfl (keep_cons rfl (keep_cons rfl (keep_cons rfl (keep_cons rfl (keep_cons rfl (keep_cons rfl (keep_cons rfl (keep_cons rfl keep_nil))))))))))))), (.cons _ (.cons_cons _ (.cons_cons _ (.cons_cons _ (.refl _)))))⟩ ?_)))))))))))));rintro μ _ ⟨k1, j3, C3, hk3, hj3, hk1, hY3, rfl⟩;subst hj3;refine zU rfl (TO.lss rfl rfl rfl rfl rfl (fun c80 hc80=>zN (zS ?_)));cases c80 with
      | true =>
       replace hc80 := btrue hc80;refine zC rfl (zK (zS (zB (zU rfl (zM R4 (zA R4 (zN (zU rfl (zM R4 (zM R4 (zM R4 (zM R4 (zV R3 (Val.add rfl rfl aO) (zV R3 (Val.build (cs := [_, _, _, _]) (vs := [(_, _), (_, _), (_, _), (_, _)]) rfl rfl rfl) (TO.perm (hs' := C3 ++ [_, _, _]) List.perm_append_comm (TO.callY rfl rfl rfl rfl rfl (hy (leavesFrom 0 (b.gs.l.take i) ++ (List.range n).flatMap (numLeaves (i : Int) g) ++ ownLeaf (i : Int) (n : Int) g ++ newLeaves (i : Int) (n : Int) k1) ⟨(i : Int), (n : Int), (k1 : Int) + 1, 2⟩ _ [] C3 _ (by rw [List.append_assoc, ← newLeaves_succ]; exact new_first eg hc35 (by rw [hov.1, ← hmo]; omega)) ⟨rfl, rfl⟩ hY3) ?_))))))))))))))));rintro _ _ (⟨rfl, C9, rfl, hY9⟩ | ⟨rfl, C9, rfl, hZ9⟩)
       ·skip;refine TO.perm (hs' := [_, _, _] ++ C9) List.perm_append_comm (zG (_::_::_::C9) rfl (zV R3 (Val.not rfl) (zN (zD rfl (zK (zT rfl (zV R3 (Val.add rfl rfl aO) (zM R4 (zN ?_)))))))))
        refine ⟨_, _, aO, ⟨k1 + 1, _, _, rfl, (by first | omega | simp_all), (by first | omega | simp_all), (by rw [newLeaves_succ, ← List.append_assoc]; exact hY9), rfl⟩, ⟨rfl, (keep_cons rfl (keep_cons rfl (keep_cons rfl (keep_cons rfl (keep_cons rfl (keep_cons rfl (keep_cons rfl (keep_cons rfl (keep_cons rfl (keep_cons rfl (keep_cons rfl (keep_cons rfl (keep_cons rfl keep_nil))))))))))))), (.cons_cons _ (.cons_cons _ (.cons_cons _ (.refl _))))⟩⟩
       ·skip;refine TO.perm (hs' := [_, _, _] ++ C9) List.perm_append_comm (zG (_::_::_::C9) rfl (zV R3 (Val.not rfl) (zN (zC rfl (T.keep (s' := ⟨[], [], _ :: C9⟩) (sc (.cons _ (.cons _ (.cons_cons _ (.refl _))))) (zR ?_))))))
        obtain ⟨r9, hr9⟩ := new_first (j := k1 + 1) eg hc35 (by rw [hov.1, ← hmo]; omega); exact ⟨rfl, _, rfl, C9, rfl, .inr ⟨_, r9, hr9.symm, by rw [newLeaves_succ, ← List.append_assoc]; exact hZ9⟩⟩
      | false =>
       replace hc80 := bfalse hc80
       have hkm : k1 = mo.toNat := by omega
       have enum : numLeaves (i : Int) g n = ownLeaf (i : Int) (n : Int) g ++ newLeaves (i : Int) (n : Int) k1 := by unfold numLeaves; rw [hov.1, ← hmo, hkm]
       refine zD rfl (zE (zT rfl (zV R3 (Val.add rfl rfl aO) (zM R4 (zN ?_)))));refine ⟨_, _, aO, ⟨n + 1, _, _, _, _, rfl, (by first | omega | simp_all), (by first | omega | simp_all), (by exact hw3), (by intro c hc; have := hov.2.1 c hc; omega), (by intro c hc; have := hov.2.2 c hc; omega), (by rw [range_flat_succ, enum, ← List.append_assoc, ← List.append_assoc]; exact hY3), rfl⟩, ⟨rfl, (keep_cons rfl (keep_cons rfl (keep_cons rfl (keep_cons rfl (keep_cons rfl (keep_cons rfl (keep_cons rfl (keep_cons rfl (keep_cons rfl (keep_cons rfl keep_nil)))))))))), (.cons_cons _ (.cons_cons _ (.cons_cons _ (.refl _))))⟩⟩
   | false =>
    replace hc44 := bfalse hc44
    have hov := hat.over hg5.order (.inl aO)
    have hmo4 : mo ≤ 4 := by rw [hmo]; exact plusOf_le fun c hc => (hg5.each c (List.mem_of_mem_take hc)).2.2.2.2
    refine zO R3 (zO R3 (zO R3 (zO R3 (zO R3 (zO R3 (zP R6 (zN (zD rfl (zE (zS (zU rfl (zM R4 (zM R4 ?_)))))))))))));cases th with
    | true =>
     replace hth := btrue hth
     have hown : ownLeaf (i : Int) (n : Int) g = [⟨i, n, 0, kd⟩] := by unfold ownLeaf; rw [hov.1, if_pos hth, ← hkd]
     refine zM R4 (zV R3 (vW 0 [_,_,_,_] R5 R4) (TO.perm (hs' := C2 ++ [_, _, _, _]) List.perm_append_comm (TO.callY rfl rfl rfl rfl rfl (hy (leavesFrom 0 (b.gs.l.take i) ++ (List.range n).flatMap (numLeaves (i : Int) g)) ⟨(i : Int), (n : Int), 0, kd⟩ _ [] C2 _ (hown ▸ own_first eg hc35) ⟨rfl, rfl⟩ hY2) ?_)));rintro _ _ (⟨rfl, C9, rfl, hY9⟩ | ⟨rfl, C9, rfl, hZ9⟩)
     ·skip;refine TO.perm (hs' := [_, _, _, _] ++ C9) List.perm_append_comm (zG (_::_::_::_::C9) rfl (zV R3 (Val.not rfl) (zP R6 (zN (zD rfl (zK (zU rfl (zM R4 (zM R4 (zN (zB (T.loop (fun μ s => ∃ k1 : Nat, ∃ j3 : Int, ∃ C3 : List Thing, μ = mo.toNat - k1 ∧ j3 = k1 ∧ (k1 : Int) ≤ max 0 mo ∧ Y (leavesFrom 0 (b.gs.l.take i) ++ (List.range n).flatMap (numLeaves (i : Int) g) ++ ownLeaf (i : Int) (n : Int) g ++ newLeaves (i : Int) (n : Int) k1) C3 ∧ s = ⟨[], [(0, .yield l), (1, .ptr bx 0 2), (16, b.gs.v), (17, iv (b.gs.l.length : Int)), (18, iv (i : Int)), (3, iv (i : Int)), (4, .ptr b4 0 4), (5, w3), (33, iv (g.leaves + 1)), (34, iv (n : Int)), (6, iv (n : Int)), (78, iv mo), (79, iv j3)], (ownL false v26 encC g.ch.l) :: (.row b4 4 [iv g.round, iv g.letter, iv g.leaves, g.ch.v]) :: (.row bx 2 [iv b.signed, b.gs.v]) :: C3⟩) (k := _) (s' := _) ⟨0, 0, _, rfl, (by first | rfl | omega | (simp; done) | (simp; omega) | simp_all), (by first | rfl | omega | (simp; done) | (simp; omega) | simp_all), (by rw [hown, show newLeaves (i : Int) (n : Int) 0 = [] from rfl, List.append_nil]; first | exact hY9 | (rw [List.append_nil]; exact hY2)), rfl⟩ ⟨rfl, (keep_cons rfl (keep_cons rfl (keep_cons rfl (keep_cons rfl (keep_cons rfl (keep_cons rfl (keep_cons rfl (keep_cons rfl (keep_cons rfl (keep_cons rfl (keep_cons rfl (keep_cons rfl (keep_cons rfl keep_nil))))))))))))), (.cons _ (.cons_cons _ (.cons_cons _ (.cons_cons _ (.refl _)))))⟩ ?_))))))))))))
      rintro μ _ ⟨k1, j3, C3, hk3, hj3, hk1, hY3, rfl⟩;subst hj3;refine zU rfl (TO.lss rfl rfl rfl rfl rfl (fun c80 hc80=>zN (zS ?_)));cases c80 with
      | true =>
       replace hc80 := btrue hc80;refine zC rfl (zK (zS (zB (zU rfl (zM R4 (zA R4 (zN (zU rfl (zM R4 (zM R4 (zM R4 (zM R4 (zV R3 (Val.add rfl rfl aO) (zV R3 (Val.build (cs := [_, _, _, _]) (vs := [(_, _), (_, _), (_, _), (_, _)]) rfl rfl rfl) (TO.perm (hs' := C3 ++ [_, _, _]) List.perm_append_comm (TO.callY rfl rfl rfl rfl rfl (hy (leavesFrom 0 (b.gs.l.take i) ++ (List.range n).flatMap (numLeaves (i : Int) g) ++ ownLeaf (i : Int) (n : Int) g ++ newLeaves (i : Int) (n : Int) k1) ⟨(i : Int), (n : Int), (k1 : Int) + 1, 2⟩ _ [] C3 _ (by rw [List.append_assoc, ← newLeaves_succ]; exact new_first eg hc35 (by rw [hov.1, ← hmo]; omega)) ⟨rfl, rfl⟩ hY3) ?_))))))))))))))));rintro _ _ (⟨rfl, C9, rfl, hY9⟩ | ⟨rfl, C9, rfl, hZ9⟩)
       ·skip;refine TO.perm (hs' := [_, _, _] ++ C9) List.perm_append_comm (zG (_::_::_::C9) rfl (zV R3 (Val.not rfl) (zN (zD rfl (zK (zT rfl (zV R3 (Val.add rfl rfl aO) (zM R4 (zN ?_)))))))))
        refine ⟨_, _, aO, ⟨k1 + 1, _, _, rfl, (by first | omega | simp_all), (by first | omega | simp_all), (by rw [newLeaves_succ, ← List.append_assoc]; exact hY9), rfl⟩, ⟨rfl, (keep_cons rfl (keep_cons rfl (keep_cons rfl (keep_cons rfl (keep_cons rfl (keep_cons rfl (keep_cons rfl (keep_cons rfl (keep_cons rfl (keep_cons rfl (keep_cons rfl (keep_cons rfl (keep_cons rfl keep_nil))))))))))))), (.cons_cons _ (.cons_cons _ (.cons_cons _ (.refl _))))⟩⟩
       ·skip;refine TO.perm (hs' := [_, _, _] ++ C9) List.perm_append_comm (zG (_::_::_::C9) rfl (zV R3 (Val.not rfl) (zN (zC rfl (T.keep (s' := ⟨[], [], _ :: C9⟩) (sc (.cons _ (.cons _ (.cons_cons _ (.refl _))))) (zR ?_))))))
        obtain ⟨r9, hr9⟩ := new_first (j := k1 + 1) eg hc35 (by rw [hov.1, ← hmo]; omega); exact ⟨rfl, _, rfl, C9, rfl, .inr ⟨_, r9, hr9.symm, by rw [newLeaves_succ, ← List.append_assoc]; exact hZ9⟩⟩
      | false =>
       replace hc80 := bfalse hc80
       have hkm : k1 = mo.toNat := by omega
       have enum : numLeaves (i : Int) g n = ownLeaf (i : Int) (n : Int) g ++ newLeaves (i : Int) (n : Int) k1 := by unfold numLeaves; rw [hov.1, ← hmo, hkm]
       refine zD rfl (zE (zT rfl (zV R3 (Val.add rfl rfl aO) (zM R4 (zN ?_)))));refine ⟨_, _, aO, ⟨n + 1, _, _, _, _, rfl, (by first | omega | simp_all), (by first | omega | simp_all), (by exact hw3), (by intro c hc; have := hov.2.1 c hc; omega), (by intro c hc; have := hov.2.2 c hc; omega), (by rw [range_flat_succ, enum, ← List.append_assoc, ← List.append_assoc]; exact hY3), rfl⟩, ⟨rfl, (keep_cons rfl (keep_cons rfl (keep_cons rfl (keep_cons rfl (keep_cons rfl (keep_cons rfl (keep_cons rfl (keep_cons rfl (keep_cons rfl (keep_cons rfl keep_nil)))))))))), (.cons_cons _ (.cons_cons _ (.cons_cons _ (.refl _))))⟩⟩
     ·skip;refine TO.perm (hs' := [_, _, _, _] ++ C9) List.perm_append_comm (zG (_::_::_::_::C9) rfl (zV R3 (Val.not rfl) (zP R6 (zN (zC rfl (T.keep (s' := ⟨[], [], _ :: C9⟩) (sc (.cons _ (.cons _ (.cons _ (.cons_cons _ (.refl _)))))) (zR ?_)))))))
      obtain ⟨r9, hr9⟩ := new_first (j := 0) eg hc35 (Nat.zero_le _); exact ⟨rfl, _, rfl, C9, rfl, .inr ⟨_, r9, hr9.symm, by rw [hown, show newLeaves (i : Int) (n : Int) 0 = [] from rfl, List.append_nil]; exact hZ9⟩⟩
    | false =>
     replace hth := bfalse hth
     have hown : ownLeaf (i : Int) (n : Int) g = [] := by unfold ownLeaf; rw [hov.1, if_neg hth]
     refine zO R3 (zO R3 (zO R3 (zO R3 (zP R6 (zN (zD rfl (zK (zU rfl (zM R4 (zM R4 (zN (zB (T.loop (fun μ s => ∃ k1 : Nat, ∃ j3 : Int, ∃ C3 : List Thing, μ = mo.toNat - k1 ∧ j3 = k1 ∧ (k1 : Int) ≤ max 0 mo ∧ Y (leavesFrom 0 (b.gs.l.take i) ++ (List.range n).flatMap (numLeaves (i : Int) g) ++ ownLeaf (i : Int) (n : Int) g ++ newLeaves (i : Int) (n : Int) k1) C3 ∧ s = ⟨[], [(0, .yield l), (1, .ptr bx 0 2), (16, b.gs.v), (17, iv (b.gs.l.length : Int)), (18, iv (i : Int)), (3, iv (i : Int)), (4, .ptr b4 0 4), (5, w3), (33, iv (g.leaves + 1)), (34, iv (n : Int)), (6, iv (n : Int)), (78, iv mo), (79, iv j3)], (ownL false v26 encC g.ch.l) :: (.row b4 4 [iv g.round, iv g.letter, iv g.leaves, g.ch.v]) :: (.row bx 2 [iv b.signed, b.gs.v]) :: C3⟩) (k := _) (s' := _) ⟨0, 0, _, rfl, (by first | rfl | omega | (simp; done) | (simp; omega) | simp_all), (by first | rfl | omega | (simp; done) | (simp; omega) | simp_all), (by rw [hown, show newLeaves (i : Int) (n : Int) 0 = [] from rfl, List.append_nil]; first | exact hY9 | (rw [List.append_nil]; exact hY2)), rfl⟩ ⟨rfl, (keep_cons rfl (keep_cons rfl (keep_cons rfl (keep_cons rfl (keep_cons rfl (keep_cons rfl (keep_cons rfl (keep_cons rfl (keep_cons rfl (keep_cons rfl (keep_cons rfl (keep_cons rfl (keep_cons rfl keep_nil))))))))))))), (.cons _ (.cons_cons _ (.cons_cons _ (.cons_cons _ (.refl _)))))⟩ ?_)))))))))))));rintro μ _ ⟨k1, j3, C3, hk3, hj3, hk1, hY3, rfl⟩;subst hj3;refine zU rfl (TO.lss rfl rfl rfl rfl rfl (fun c80 hc80=>zN (zS ?_)));cases c80 with
     | true =>
      replace hc80 := btrue hc80;refine zC rfl (zK (zS (zB (zU rfl (zM R4 (zA R4 (zN (zU rfl (zM R4 (zM R4 (zM R4 (zM R4 (zV R3 (Val.add rfl rfl aO) (zV R3 (Val.build (cs := [_, _, _, _]) (vs := [(_, _), (_, _), (_, _), (_, _)]) rfl rfl rfl) (TO.perm (hs' := C3 ++ [_, _, _]) List.perm_append_comm (TO.callY rfl rfl rfl rfl rfl (hy (leavesFrom 0 (b.gs.l.take i) ++ (List.range n).flatMap (numLeaves (i : Int) g) ++ ownLeaf (i : Int) (n : Int) g ++ newLeaves (i : Int) (n : Int) k1) ⟨(i : Int), (n : Int), (k1 : Int) + 1, 2⟩ _ [] C3 _ (by rw [List.append_assoc, ← newLeaves_succ]; exact new_first eg hc35 (by rw [hov.1, ← hmo]; omega)) ⟨rfl, rfl⟩ hY3) ?_))))))))))))))));rintro _ _ (⟨rfl, C9, rfl, hY9⟩ | ⟨rfl, C9, rfl, hZ9⟩)
      ·skip;refine TO.perm (hs' := [_, _, _] ++ C9) List.perm_append_comm (zG (_::_::_::C9) rfl (zV R3 (Val.not rfl) (zN (zD rfl (zK (zT rfl (zV R3 (Val.add rfl rfl aO) (zM R4 (zN ?_)))))))))
       refine ⟨_, _, aO, ⟨k1 + 1, _, _, rfl, (by first | omega | simp_all), (by first | omega | simp_all), (by rw [newLeaves_succ, ← List.append_assoc]; exact hY9), rfl⟩, ⟨rfl, (keep_cons rfl (keep_cons rfl (keep_cons rfl (keep_cons rfl (keep_cons rfl (keep_cons rfl (keep_cons rfl (keep_cons rfl (keep_cons rfl (keep_cons rfl (keep_cons rfl (keep_cons rfl (keep_cons rfl keep_nil))))))))))))), (.cons_cons _ (.cons_cons _ (.cons_cons _ (.refl _))))⟩⟩
      ·skip;refine TO.perm (hs' := [_, _, _] ++ C9) List.perm_append_comm (zG (_::_::_::C9) rfl (zV R3 (Val.not rfl) (zN (zC rfl (T.keep (s' := ⟨[], [], _ :: C9⟩) (sc (.cons _ (.cons _ (.cons_cons _ (.refl _))))) (zR ?_))))))
       obtain ⟨r9, hr9⟩ := new_first (j := k1 + 1) eg hc35 (by rw [hov.1, ← hmo]; omega); exact ⟨rfl, _, rfl, C9, rfl, .inr ⟨_, r9, hr9.symm, by rw [newLeaves_succ, ← List.append_assoc]; exact hZ9⟩⟩
     | false =>
      replace hc80 := bfalse hc80
      have hkm : k1 = mo.toNat := by omega
      have enum : numLeaves (i : Int) g n = ownLeaf (i : Int) (n : Int) g ++ newLeaves (i : Int) (n : Int) k1 := by unfold numLeaves; rw [hov.1, ← hmo, hkm]
      refine zD rfl (zE (zT rfl (zV R3 (Val.add rfl rfl aO) (zM R4 (zN ?_)))));refine ⟨_, _, aO, ⟨n + 1, _, _, _, _, rfl, (by first | omega | simp_all), (by first | omega | simp_all), (by exact hw3), (by intro c hc; have := hov.2.1 c hc; omega), (by intro c hc; have := hov.2.2 c hc; omega), (by rw [range_flat_succ, enum, ← List.append_assoc, ← List.append_assoc]; exact hY3), rfl⟩, ⟨rfl, (keep_cons rfl (keep_cons rfl (keep_cons rfl (keep_cons rfl (keep_cons rfl (keep_cons rfl (keep_cons rfl (keep_cons rfl (keep_cons rfl (keep_cons rfl keep_nil)))))))))), (.cons_cons _ (.cons_cons _ (.cons_cons _ (.refl _))))⟩⟩
  | false =>
   replace hc35 := bfalse hc35
   have hn1 : (g.leaves + 1).toNat = n := by omega
   refine zD rfl (zE (zT rfl (zV R3 (Val.add rfl rfl aO) (zM R4 (zN ?_)))));refine ⟨_, _, aO, ⟨i + 1, _, _, rfl, (by first | omega | simp_all), (by first | omega | simp_all), (by rw [take_snoc eg, leavesFrom_snoc, List.length_take, Nat.min_eq_left aO, Nat.zero_add]; unfold gatLeaves; rw [hn1]; exact hY2), rfl⟩, ⟨rfl, (keep_cons rfl (keep_cons rfl (keep_cons rfl (keep_cons rfl (keep_cons rfl keep_nil))))), (.cons _ (.cons _ (.cons_cons _ (.refl _))))⟩⟩
 | false =>
  replace hc19 := bfalse hc19;refine zD rfl (zE ?_);exact ⟨rfl, _, rfl, C1, rfl, .inl (by rw [List.take_of_length_le aO] at hY1; exact hY1)⟩
theorem q_Leaves (b : Book)  : Comes (EL 3) 57 [.agg (encB.f b)] (.tuple [(GSo true encL (if (bookErr b).2.2 = 0 then leavesOf b else [])).v, iv (bookErr b).2.2]) := by
 have hgood := fun h => book_good (b := b) h
 refine Comes.of (TF.enter (fn := Go.Proofs.Try.f57) rfl rfl rfl rfl rfl ?_);refine zU rfl (zQ 2 [_,_] R7 (fun b1=>zA R4 (zA R4 (zN (zU rfl (zV R3 (vW 0 [_,_] R5 R4) (TO.callIn rfl rfl rfl rfl rfl rfl (orcN rfl) (TF.enterG (fn := Go.Proofs.Try.f82) rfl rfl rfl rfl rfl (zU rfl (zQ 2 [_,_] R7 (fun b1_2=>zJ 2 [_,_] R7 (fun b2=>zA R4 (zN (zU rfl (zV R3 (vW 1 [_,_] R5 R4) (TO.call rfl rfl rfl rfl rfl (orcL rfl aD) (.cons (.agg (.cons .lit (.cons .gs .nil))) .nil) (sem_of (q_Check _ )) (zM R4 (zX R5 (zX R5 (zX R5 (zA R4 (zA R4 (zA R4 (zN (zU rfl (zV R3 (vW 1 [_,_] R5 R4) (zV R3 (Val.build (cs := [_, _]) (vs := [(_, _)]) rfl rfl rfl) (zM R4 (TO.store_row (p := 0) (cv := [_, _]) (cells' := [_, _]) rfl rfl rfl rfl rfl rfl rfl rfl rfl rfl (by first | rfl | simp [GS.one]) (by decide) rfl (zG ([_,_,_]) rfl (zA R4 (zN (zR ?_)))))))))))))))))))))))))))))))));refine ⟨rfl, _, rfl, [_, _], ⟨⟨_, rfl, LoadR.rows (p := 0) (c := [_, _]) rfl ⟨⟨_, rfl, rfl⟩, rfl, by decide⟩ rfl rfl rfl⟩, ⟨rfl, trivial⟩⟩, ?_⟩;refine zG ([_,_,_]) rfl (zM R4 (zX R5 (zX R5 (zJ 2 [_,_] R7 (fun b4=>TO.store_row (p := 0) (cv := [_, _]) (cells' := [_, _]) rfl rfl rfl rfl rfl rfl rfl rfl rfl rfl (by first | rfl | simp [GS.one]) (by decide) rfl (zG ([_,_,_,_]) rfl (zA R4 (zN (zS (zU rfl (zM R4 (TO.neq rfl rfl rfl rfl rfl (fun c12 hc12=>zN ?_)))))))))))));cases c12 with
 | true =>
  replace hc12 := btrue hc12;refine zC rfl (zU rfl (zM R4 (zA R4 (zA R4 (zN (zR ?_))))));exact ⟨rfl, _, rfl, RefN.cast (.tuple (.cons .lit (.cons .lit .nil))) (by rw [if_neg hc12]; rfl)⟩
 | false =>
  replace hc12 := bfalse hc12
  have hb := book_good (b := b) aO;refine zD rfl (zK (zU rfl (zV R3 (vW 0 [_,_] R5 R4) (TO.callIn rfl rfl rfl rfl rfl rfl (orcN rfl) (TF.enter (fn := Go.Proofs.Try.f84) rfl rfl rfl rfl rfl (zU rfl (zQ 2 [_,_] R7 (fun b1_3=>zA R4 (zN (zU rfl (zV R3 (Val.makeFunc rfl rfl) (zA R4 (zN (zR ?_))))))))))))));refine ⟨rfl, _, rfl, ?_⟩;refine TO.callIn rfl rfl rfl rfl rfl rfl (orcN rfl) (TF.enter (fn := Go.Proofs.Try.f83) rfl rfl rfl rfl rfl (zU rfl (zA R4 (zN (zU rfl (zM R4 (TO.callIn rfl rfl rfl rfl rfl rfl (orcN rfl) (TF.enterG (fn := Go.Proofs.Try.f102) rfl rfl rfl rfl rfl (zU rfl (zQ 1 [_] R7 (fun b2_2=>zA R4 (zN (zS (zU rfl (zM R4 (zN (zB (T.nilown (u := encL.u) (T.keep (s' := ⟨[], [(2, _), (6, _)], [_, _, _]⟩) (sc (.cons_cons _ (.cons_cons _ (.cons_cons _ (.cons _ (.cons _ (.cons _ (.cons _ .slnil)))))))) (T.pick (p := 1) rfl (T.things (hs' := [_, _, _]) rfl (T.pick (p := 2) rfl (T.things (hs' := [_, _, _]) rfl ?_)))))))))))))))))))))));refine T.range0 (ArgL) ((· <+: leavesOf b)) (leavesOf b) (fun vis A => ∃ v, A = [.row b2_2 1 [v], ownL true v encL vis] ∧ vis.length ≤ 1950) (fun _ _ _ => False) [_] [_, _] (by rfl) (by rfl) (by rfl) (.refl _) ⟨_, rfl, by decide⟩ ?_ ?_ ?_ ?_
  ·exact fun l YY ZZ hv C hY => lv_iter hb hv C hY
  ·intro l d vis a vs G A B hP ha hA;obtain ⟨rfl, rfl⟩ := ha;obtain ⟨v, rfl, hvl⟩ := hA;refine ⟨_, rfl, fun LR LB hLB => ?_⟩;refine T.things (hs' := _ :: _ :: _ :: B) rfl (zT rfl (zJ 4 [_,_,_,_] R7 (fun b5=>TO.store_row (p := 0) (cv := [_, _, _, _]) (cells' := [_, _, _, _]) rfl rfl rfl rfl rfl rfl rfl rfl rfl rfl (by first | rfl | simp [GS.one]) (by decide) rfl (zG (_::_::_::_::B) rfl (zN ?_)))));refine ⟨rfl, 1, rfl, ?_⟩;refine T.things (hs' := _ :: _ :: _ :: _ :: B) rfl (zB (zT rfl (zL 2 R3 R6 (zV R3 (vW 0 [_,_,_,_] R5 R4) (TO.build1 (en := encL) (a := ⟨_, _, _, _⟩) rfl rfl rfl ⟨rfl, rfl⟩ ⟨_, rfl, rfl⟩ (by decide) (by decide) rfl rfl (fun v10=>TO.append_own (b := 32) (en := encL) (l := _) (l2 := _) (p := 4) (q := 0) rfl rfl rfl ⟨rfl, rfl, rfl, ⟨_, rfl, rfl⟩, by decide, by decide⟩ rfl rfl rfl rfl rfl rfl (en_ones encL_ones _) (by simp; omega) (fun v11=>zG (_::_::_::_::_::B) rfl (TO.ownfact (p := 4) rfl (fun hoown=>TO.store_row (p := 3) (cv := [_]) (cells' := [_]) rfl rfl rfl rfl rfl rfl rfl hoown.1 rfl rfl (by simp [hoown.2]) (by decide) rfl (zG (_::_::_::_::_::B) rfl (zN ?_)))))))))));exact ⟨[_, _], (.cons _ (.cons _ (.cons_cons _ (.cons_cons _ (.cons_cons _ (.refl _)))))), .inl ⟨rfl, ⟨_, rfl, Nat.le_trans hP.length_le (leaves_len hb.fits)⟩⟩⟩
  ·intro d A hA;obtain ⟨v, rfl, hvl⟩ := hA;refine T.things (hs' := [_, _, _, _]) rfl (zU rfl (zL 2 R3 R6 (zA R4 (zN (zR ?_)))));refine ⟨rfl, _, ⟨1, rfl, rfl⟩, [_], ⟨rfl, trivial⟩, ?_⟩;refine zG ([_,_,_]) rfl (zA R4 (zN (zR ?_)));refine ⟨rfl, _, rfl, ?_⟩;refine zA R4 (zA R4 (zN (zR ?_)));exact ⟨rfl, _, rfl, RefN.cast (.tuple (.cons (.ownL (en := encL) (p := 2) rfl (.lits encL_lits)) (.cons .lit .nil))) (by have h0 : (bookErr b).2.2 = 0 := (by omega); simp [h0])⟩
  ·exact fun d e q r A hq hZ => hZ.elim
end Go.Am.Ythckcbfijdambaa
end
section
namespace Go.Am.Ythckcbfijdambaa
open Go.Am Go.RowKit
set_option linter.unusedVariables false
set_option linter.unusedSimpArgs false
theorem s_IndexL (l : GS encL) (x : Leaf) (hb : l.l.length < 4611686018427387904) : Comes (EL 0) 87 [l.v, .agg (encL.f x)] (iv (idxOf x l.l)) := by
 refine Comes.of (TF.enter (fn := Go.Proofs.Try.f87) rfl rfl rfl rfl rfl ?_);refine zU rfl (zQ 4 [_,_,_,_] R7 (fun b3=>zA R4 (zN (zS (zU rfl (zM R4 (zV R3 (Val.len_gs rfl rfl) (zM R4 (zN (zB (T.loop (fun μ s => ∃ i : Nat, ∃ j : Int, μ = l.l.length - i ∧ j = i ∧ i ≤ l.l.length ∧ idxOf x l.l = idxFrom x i (l.l.drop i) ∧ s = ⟨[], [(0, l.v), (3, .ptr b3 0 4), (7, iv (l.l.length : Int)), (8, iv j)], [.row b3 4 [iv x.g, iv x.num, iv x.plus, iv x.kind]]⟩) (k := _) (s' := _) ⟨0, 0, rfl, (by first | rfl | omega | (simp; done) | (simp; omega) | simp_all), (by first | rfl | omega | (simp; done) | (simp; omega) | simp_all), (by rfl), rfl⟩ ⟨rfl, (keep_cons rfl (keep_cons rfl (keep_cons rfl (keep_cons rfl keep_nil)))), (.cons_cons _ .slnil)⟩ ?_)))))))))));rintro μ _ ⟨i, j, hk0, hj, hi, he, rfl⟩;subst hj;refine zU rfl (TO.lss rfl rfl rfl rfl rfl (fun c9 hc9=>zN (zS ?_)));cases c9 with
 | true =>
  replace hc9 := btrue hc9;refine zC rfl (zK (zS (zB (zU rfl (zM R4 (zA R4 (zN (zS (T.draw (fun v => sameC_refl v) (l1 := [0, 1, 2, 3, 4, 5]) (l2 := []) (by kernel_rfl) (by kernel_rfl) (zV R3 (vW 0 [_,_,_,_] R5 R4) (zM R4 (zM R4 (TO.index_gs rfl rfl rfl ⟨rfl, rfl⟩ rfl rfl aO (fun y ry ey=>?_))))))))))))))
  try simp only [Int.toNat_natCast] at ey
  refine zV R3 (Val.load_trees (c := _) ⟨⟨_, rfl, rfl⟩, rfl, by decide⟩ rfl rfl) (TO.binP rfl rfl rfl rfl rfl (eql_ty104 _ _ _ _ _ _ _ _ _ _) (fun c16 hc16=>zN ?_));cases c16 with
  | true =>
   replace hc16 := btrue hc16;refine zC rfl (zU rfl (zM R4 (zA R4 (zN (zR ?_)))));exact ⟨rfl, _, rfl, RefN.cast .lit (by rw [he, drop_cons ey, idxFrom, if_pos (leaf_ext.1 hc16)])⟩
  | false =>
   replace hc16 := bfalse hc16;refine zD rfl (zK (zT rfl (zV R3 (Val.add rfl rfl aO) (zM R4 (zN ?_)))));refine ⟨_, _, aO, ⟨i + 1, _, rfl, (by first | omega | simp_all), (by first | omega | simp_all), (by rw [he, drop_cons ey, idxFrom, if_neg (fun e => hc16 (leaf_ext.2 e))]), rfl⟩, ⟨rfl, (keep_cons rfl (keep_cons rfl (keep_cons rfl (keep_cons rfl keep_nil)))), (.cons_cons _ .slnil)⟩⟩
 | false =>
  replace hc9 := bfalse hc9;refine zD rfl (zE (zU rfl (zA R4 (zN (zR ?_)))));exact ⟨rfl, _, rfl, RefN.cast .lit (by rw [he, List.drop_eq_nil_of_le aO, idxFrom])⟩
theorem q_Mate (b : Book) (n : Int)  : Comes (EL 4) 59 [.agg (encB.f b), iv n] (.tuple [iv (mateOf b n).1, iv (mateOf b n).2]) := by
 refine Comes.of (TF.enter (fn := Go.Proofs.Try.f59) rfl rfl rfl rfl rfl ?_);refine zU rfl (zQ 2 [_,_] R7 (fun b2=>zA R4 (zA R4 (zN (zU rfl (zV R3 (vW 0 [_,_] R5 R4) (TO.call rfl rfl rfl rfl rfl (orcL rfl aD) (.cons (.agg (.cons .lit (.cons .gs .nil))) .nil) (sem_of (q_Leaves _ )) (zM R4 (zX R5 (zX R5 (zA R4 (zA R4 (zN (zS (zB (zU rfl (zM R4 (TO.neq rfl rfl rfl rfl rfl (fun c17 hc17=>zA R4 (zN ?_))))))))))))))))))));cases c17 with
 | true =>
  replace hc17 := btrue hc17;refine zC rfl (zU rfl (zM R4 (zA R4 (zA R4 (zN (zR ?_))))));exact ⟨rfl, _, rfl, RefN.cast (.tuple (.cons .lit (.cons .lit .nil))) (by unfold mateOf; rw [if_pos hc17])⟩
 | false =>
  replace hc17 := bfalse hc17
  have h0 : (bookErr b).2.2 = 0 := by omega
  have hb := book_good h0
  have hll := leaves_len hb.fits;rw [if_pos h0];refine zD rfl (zU rfl (zM R4 (zV R3 (Val.len_gso rfl rfl) (zV R3 (Val.sub rfl rfl aO) (zM R4 (TO.build1 (en := encI) (a := _) rfl rfl rfl ⟨rfl, rfl⟩ ⟨_, rfl, rfl⟩ (by decide) (by decide) rfl rfl (fun v24=>TO.callD rfl rfl rfl rfl rfl (orcL rfl aD) (.cons .lit (.cons .lit (.cons (.ownL (p := 0) rfl .ints) .nil))) (sem_of (q_out _ _ _ (by exact out1_small))) (fun c25 hc25=>?_))))))));replace hc25 := out1 hc25;refine zA R4 (zN ?_);cases c25 with
  | true =>
   replace hc25 := btrue hc25;refine zC rfl (zU rfl (zA R4 (zA R4 (zN (zR ?_)))));exact ⟨rfl, _, rfl, RefN.cast (.tuple (.cons .lit (.cons .lit .nil))) (by unfold mateOf; rw [if_neg aO]; split; rfl; rename_i h1; exfalso; split at h1; have := (List.getElem?_eq_some_iff.1 h1).1; omega; cases h1)⟩
  | false =>
   replace hc25 := bfalse hc25;refine zD rfl (zK (zU rfl (zM R4 (zM R4 (TO.index_gso rfl rfl rfl ⟨rfl, rfl⟩ rfl rfl aO (fun x rx ex=>?_))))))
   try simp only [Int.toNat_natCast] at ex
   have hxm := List.mem_of_getElem? ex;obtain ⟨g0, hg0, hg1, hg2, hx1, hx2⟩ := mem_leaves hxm;refine zV R3 (Val.load_trees (c := _) ⟨⟨_, rfl, rfl⟩, rfl, by decide⟩ rfl rfl) (zJ 4 [_,_,_,_] R7 (fun b8=>TO.store_row (p := 0) (cv := [_, _, _, _]) (cells' := [_, _, _, _]) rfl rfl rfl rfl rfl rfl rfl rfl rfl rfl (by first | rfl | simp [GS.one]) (by decide) rfl (zG ([_,_,_]) rfl (zN (zS (T.drawE (l1 := [0, 1, 2, 3, 4, 5, 6, 7, 8, 9, 10, 11]) (l2 := [12]) (by kernel_rfl) (by kernel_rfl) (yL R4 (Val.faddr_ptr (fo := 1) rfl rfl rfl) (yR R4 (vR (p := 2) R6) (yL R4 (Val.faddr_ptr (fo := 0) rfl rfl rfl) (yR R4 (vR (p := 0) R6) (TD1.index_gs rfl rfl rfl ⟨rfl, rfl⟩ rfl rfl aO (fun g rg eg=>?_))))))))))))
   try simp only [Int.toNat_natCast] at eg
   have e34 := Option.some.inj (hg0.symm.trans eg);subst e34;obtain ⟨-, hgl1, hgl2, -, -⟩ := hb.each g0 (List.mem_of_getElem? hg0);refine yL R4 (Val.faddr_tree (fo := 2) rfl rfl rfl rfl) (yR R4 (Val.load_tree ⟨_, rfl, rfl⟩ rfl) (yL R4 (Val.add rfl rfl aO) (yL R4 (Val.faddr_ptr (fo := 1) rfl rfl rfl) (yR R4 (vR (p := 0) R6) (yL R4 (Val.sub rfl rfl aO) (yL R4 (Val.faddr_ptr (fo := 1) rfl rfl rfl) (TD1.over (fun v => sameC_refl v) (all_cons (⟨_, rfl, (vR (p := 0) R6)⟩) (all_cons (⟨_, rfl, (Val.load_tree ⟨_, rfl, rfl⟩ rfl)⟩) (all_cons (⟨_, rfl, (vR (p := 0) R6)⟩) (all_cons (⟨_, rfl, (vR (p := 2) R6)⟩) all_nil)))) (TD2.heavy (fun v => sameC_refl v) rfl (by decide) rfl rfl (OpS.eff (Eff.store_row (p := 0) (cv := [_]) (cells' := [_, _, _, _]) rfl rfl rfl rfl rfl rfl rfl rfl (by first | rfl | simp [GS.one]) (by decide) rfl)) ?_))))))));rintro _ _ rfl;refine ⟨(all_cons (.inl (by kernel_rfl)) (all_cons (.inl (by kernel_rfl)) (all_cons (.inl (by kernel_rfl)) (all_cons (.inl (by kernel_rfl)) all_nil)))), all_nil, ?_⟩;refine yG ([_,_,_]) rfl (TD2.nil (zS (zU rfl (zM R4 (zV R3 (vW 0 [_,_,_,_] R5 R4) (TO.call rfl rfl rfl rfl rfl (orcL rfl aD) (.cons .gs (.cons (.agg (.cons .lit (.cons .lit (.cons .lit (.cons .lit .nil))))) .nil)) (sem_of (s_IndexL _ ⟨x.g, g0.leaves + 1 - x.num, x.plus, x.kind⟩ (by show (leavesOf b).length < _; omega))) ?_))))));rw [show (GSo true encL (leavesOf b)).l = leavesOf b from rfl]
   have hmo : mateOf b n = if x.kind = 0 ∧ 0 ≤ idxOf (mirror b x) (leavesOf b) ∧ idxOf (mirror b x) (leavesOf b) ≠ n then (idxOf (mirror b x) (leavesOf b), 0) else (0, 4) := by unfold mateOf; rw [if_neg aO, if_pos aO, ex]
   have hmi : mirror b x = ⟨x.g, g0.leaves + 1 - x.num, x.plus, x.kind⟩ := by unfold mirror; rw [hg0]
   rw [hmi] at hmo
   have hir := idxFrom_range (x := ⟨x.g, g0.leaves + 1 - x.num, x.plus, x.kind⟩) (leavesOf b) 0
   change -1 ≤ idxOf _ _ ∧ idxOf _ _ < _ at hir
   refine zA R4 (zN (zU rfl (zF 3 R6 (zL 0 R3 R6 (TO.eql rfl rfl rfl rfl rfl (fun c47 hc47=>zM R4 ?_))))));cases c47 with
   | true =>
    replace hc47 := btrue hc47;refine zM R4 (TO.geq rfl rfl rfl rfl rfl (fun c50 hc50=>zP R6 (zM R4 ?_)));cases c50 with
    | true =>
     replace hc50 := btrue hc50;refine zM R4 (zM R4 (TO.neq rfl rfl rfl rfl rfl (fun c55 hc55=>zP R6 (zN ?_))));cases c55 with
     | true =>
      replace hc55 := btrue hc55;refine zC rfl (zU rfl (zM R4 (zA R4 (zA R4 (zN (zR ?_))))));exact ⟨rfl, _, rfl, RefN.cast (.tuple (.cons .lit (.cons .lit .nil))) (by rw [hmo]; split <;> first | rfl | (exfalso; omega))⟩
     | false =>
      replace hc55 := bfalse hc55;refine zD rfl (zK (zU rfl (zA R4 (zA R4 (zN (zR ?_))))));exact ⟨rfl, _, rfl, RefN.cast (.tuple (.cons .lit (.cons .lit .nil))) (by rw [hmo]; split <;> first | rfl | (exfalso; omega))⟩
    | false =>
     replace hc50 := bfalse hc50;refine zO R3 (zO R3 (zO R3 (zP R6 (zN (zD rfl (zK (zU rfl (zA R4 (zA R4 (zN (zR ?_)))))))))));exact ⟨rfl, _, rfl, RefN.cast (.tuple (.cons .lit (.cons .lit .nil))) (by rw [hmo]; split <;> first | rfl | (exfalso; omega))⟩
   | false =>
    replace hc47 := bfalse hc47;refine zO R3 (zO R3 (zP R6 (zM R4 (zO R3 (zO R3 (zO R3 (zP R6 (zN (zD rfl (zK (zU rfl (zA R4 (zA R4 (zN (zR ?_)))))))))))))));exact ⟨rfl, _, rfl, RefN.cast (.tuple (.cons .lit (.cons .lit .nil))) (by rw [hmo]; split <;> first | rfl | (exfalso; omega))⟩
end Go.Am.Ythckcbfijdambaa
end
section
namespace Go.Am.Ythckcbfijdambaa
open Go.Am Go.RowKit
set_option linter.unusedVariables false
set_option linter.unusedSimpArgs false
theorem w_r1_Check (s : Int) (g : GS encG) (r : Int × Int × Int) (h : P_r1_Check s g.l = some r) : Comes (EL 3) 63 [.agg [iv s, g.v]] (.tuple [iv r.1, iv r.2.1, iv r.2.2]) := by
 cases h; exact r1_Check ⟨s, g⟩
theorem w_r1_All (s : Int) (g : GS encG) (r : List Leaf) (h : P_r1_All s g.l = some r) : Comes (EL 1) 32 [.agg [iv s, g.v]] ((GSo true encL r).v) := by
 obtain ⟨hp, h⟩ := chk_some h; cases h; exact r1_All ⟨s, g⟩ ⟨hp.gs, hp.leaves⟩
theorem w_r1_Pair (s : Int) (g : GS encG) (n : Int) (r : Int) (h : P_r1_Pair s g.l n = some r) : Comes (EL 2) 22 [.agg [iv s, g.v], iv n] (iv r) := by
 obtain ⟨⟨hp, h0, h1⟩, h⟩ := chk_some h; cases h; have := r1_Pair ⟨s, g⟩ n.toNat ⟨hp.gs, hp.leaves⟩ h1; rw [Int.toNat_of_nonneg h0] at this; exact this
theorem w_r1_Has (x : GS encI) (n : Int) (r : Bool) (h : P_r1_Has x.l n = some r) : Comes (EL 0) 31 [x.v, iv n] (bv r) := by
 obtain ⟨hp, h⟩ := chk_some h; cases h; exact r1_Has x n hp
theorem w_q_Check (s : Int) (g : GS encG) (r : Int × Int × Int) (h : P_q_Check s g.l = some r) : Comes (EL 2) 56 [.agg [iv s, g.v]] (.tuple [iv r.1, iv r.2.1, iv r.2.2]) := by
 cases h; exact q_Check ⟨s, g⟩
theorem w_q_Leaves (s : Int) (g : GS encG) (r : List Leaf × Int) (h : P_q_Leaves s g.l = some r) : Comes (EL 3) 57 [.agg [iv s, g.v]] (.tuple [(GSo true encL r.1).v, iv r.2]) := by
 cases h; exact q_Leaves ⟨s, g⟩
theorem w_q_Mate (s : Int) (g : GS encG) (n : Int) (r : Int × Int) (h : P_q_Mate s g.l n = some r) : Comes (EL 4) 59 [.agg [iv s, g.v], iv n] (.tuple [iv r.1, iv r.2]) := by
 cases h; exact q_Mate ⟨s, g⟩ n
theorem w_c_outside (lo hi : Int) (x : GS encI) (r : Bool) (h : P_c_outside lo hi x.l = some r) : Comes (EL 0) 58 [iv lo, iv hi, x.v] (bv r) := by
 obtain ⟨hp, h⟩ := chk_some h; cases h; exact c_outside lo hi x hp
end Go.Am.Ythckcbfijdambaa
end
section
namespace Go.Am
set_option linter.unusedVariables false
structure S_copy_run where
 item : Int
 first : Int
 last : Int
end Go.Am
end
section
namespace Go.Am
set_option linter.unusedVariables false
noncomputable def P_r4_in (n : Int) (low : Int) (high : Int) : Option Bool :=
  andx (
    if n ≥ low then
      some (decide (n ≤ high))
    else
      some false) fun x6 =>
    some x6
noncomputable def P_r4_item_L1 (x_Could : List Int) (leaves : Int) : Int → Option (Stp Int (Ex Unit Int)) := fun i =>
  if i < (x_Could.length : Int) then
    el x_Could i fun a21 =>
    chk (I64 (leaves - 1)) (
      andx (P_r4_in a21 0 (leaves - 1)) fun y25 =>
        if y25 = true then
          chk (I64 (i + 1)) (
            some (Stp.ag (i + 1)))
        else
          some (Stp.dn (Ex.rt 4)))
  else
    some (Stp.dn (Ex.nx ()))
noncomputable def P_r4_item_L2 (x_Could : List Int) : Int → Option (Stp Int (Ex Unit Int)) := fun i =>
  if i < (x_Could.length : Int) then
    el x_Could i fun a37 =>
    chk (I64 (i - 1)) (
      el x_Could (i - 1) fun a43 =>
      if a37 ≤ a43 then
        some (Stp.dn (Ex.rt 2))
      else
        chk (I64 (i + 1)) (
          some (Stp.ag (i + 1))))
  else
    some (Stp.dn (Ex.nx ()))
noncomputable def P_r4_item (x_Could : List Int) (leaves : Int) : Option Int :=
  if (x_Could.length : Int) > 4 then
    some 3
  else
    seqx (
      iter (P_r4_item_L1 x_Could leaves) 0) fun _ =>
      seqx (
        iter (P_r4_item_L2 x_Could) 1) fun _ =>
        some 0
noncomputable def P_c_there_L1 (t : List Int) : (Int × (Int → Int)) → Option (Stp (Int × (Int → Int)) (Int → Int)) := fun (x11, m) =>
  if x11 < (t.length : Int) then
    el t x11 fun a13 =>
    chk (I64 ((m a13) + 1)) (
      chk (I64 (x11 + 1)) (
        some (Stp.ag ((x11 + 1), putI m a13 ((m a13) + 1)))))
  else
    some (Stp.dn m)
noncomputable def P_c_there (x_CpCase_Book_Signed : Int) (x_CpCase_Book_Gatherings : List Gat) (x_CpCase_Items : List Item) (x_leaves : List Leaf) (x_mates : List Int) (t : List Int) : Option (Int → Int) :=
  andx (
    iter (P_c_there_L1 t) (0, (fun _ => 0))) fun m =>
    some m
end Go.Am
end
section
namespace Go.Am.Ythckcbfijdambaa
open Go.Am Go.RowKit
set_option linter.unusedVariables false
set_option linter.unusedSimpArgs false
theorem tr_yields {k : Nat} {D : List Thing} {bx xid : Nat} {sg : Int} {gsv itv lv mv : AV} {its : List Item} (hb : Thing.row bx 1 [.ptr xid 0 5] ∈ D) (hx : Thing.row xid 5 [iv sg, gsv, itv, lv, mv] ∈ D) (hi : Rdl D encIt itv its)
  (hk : its.length ≤ 120 ∧ ∀ x ∈ its, x.could.l.length ≤ 4) : Yields (EL k) 61 [] [.ptr bx 0 1] ArgT D (truthsOf its) := by
 intro l YY ZZ hv C hY;obtain ⟨D', hD⟩ := two_perm hb hx (by intro e; cases e)
 have hi' : Rdl D' encIt itv its := hi.perm2 hD (fun z e => by cases e) (fun z e => by cases e)
 have pm : ∀ C : List Thing, ([Thing.row bx 1 [.ptr xid 0 5], Thing.row xid 5 [iv sg, gsv, itv, lv, mv]] ++ (D' ++ C)).Perm (D ++ C) := fun C => List.Perm.append_right C hD.symm
 refine TF.perm (TF.conv (tr_iter (Y := YY) (Z := ZZ) hk.1 hi' hk.2 ?_ C hY) ?_) (pm C)
 ·intro bt by_ bi vt vis tr C hp hl hY
  have key : ∀ C : List Thing, (C ++ ([ownL false vt encI tr] ++ (D ++ [Thing.row bt 1 [vt], Thing.row by_ 1 [.yield l], Thing.row bi 1 [.func 62 [] [.ptr bt 0 1, .ptr by_ 0 1, .ptr bx 0 1, .ptr bi 0 1]]]))).Perm
    ([Thing.row bt 1 [vt], Thing.row by_ 1 [.yield l], Thing.row bx 1 [.ptr xid 0 5], Thing.row bi 1 [.func 62 [] [.ptr bt 0 1, .ptr by_ 0 1, .ptr bx 0 1, .ptr bi 0 1]], Thing.row xid 5 [iv sg, gsv, itv, lv, mv], ownL false vt encI tr] ++ D' ++ C) := fun C =>
   List.perm_append_comm.trans (List.Perm.append_right C ((List.Perm.append_left _ (List.Perm.append_right _ hD)).trans (perm_six _ _ _ _ _ _ _)))
  refine (hv vis tr [vt] [ownL false vt encI tr] C _ hp ⟨vt, rfl, rfl⟩ hY).conv (key C) ?_;rintro v h1 (⟨rfl, C', rfl, h⟩ | ⟨rfl, C', rfl, h⟩)
  ·exact ⟨_, key C', .inl ⟨rfl, C', rfl, h⟩⟩
  ·exact ⟨_, key C', .inr ⟨rfl, C', rfl, h⟩⟩
 ·rintro v h1 ⟨C', rfl, h⟩;exact ⟨_, pm C', C', rfl, h⟩
set_option maxRecDepth 10000 in
theorem tf_r4_in {k : Nat} (hk : 0 ≤ k) {C : List Thing} {n : Int} {low : Int} {high : Int} {r : Bool} (h : P_r4_in n low high = some r) :
  TF (EL k) 90 [iv (n), iv (low), iv (high)] C (RepF (fun (w : Unit) => bv r) (fun (w : Unit) => C)) := by
 unfold P_r4_in at h;refine TF.enter (fn := Go.Proofs.Try.f90) rfl rfl rfl rfl rfl (zU rfl (zA R4 (zN ?_)))
 show T _ _ _ _ _ _;apply T.joinA (r := r) (W := Unit) (fun j w => ⟨[], [(6, bv j)], C⟩) h
 ·intro j h;refine zT rfl (zM R4 (zM R4 ?_));obtain ⟨c9, hc9⟩ := zY (n ≥ low);refine zV R3 (Val.geq hc9 rfl rfl) (zM R4 ?_);obtain ⟨rfl, hc9, h⟩ | ⟨rfl, hc9, h⟩ := zI hc9 h
  ·refine zM R4 (zM R4 ?_);obtain ⟨c13, hc13⟩ := zY (n ≤ high);refine zV R3 (Val.leq hc13 rfl rfl) (zP R6 (zA R4 (zN ?_)));subst hc13;cases h;exact ⟨rfl, (), (sb .refl)⟩
  refine zO R3 (zO R3 (zO R3 (zP R6 (zA R4 (zN ?_)))));cases h;exact ⟨rfl, (), (sb .refl)⟩
 ·rintro x6 _ h;refine zR ?_;cases h;exact ⟨rfl, _, rfl, ⟨(), rfl, .refl⟩⟩
set_option maxRecDepth 10000 in
theorem tf_r4_item {k : Nat} (hk : 0 ≤ k) {C : List Thing} {v_x_Could : AV} {x_Could : List Int} {leaves : Int} (h_x_Could : Rdl C encI v_x_Could x_Could) {r : Int} (h : P_r4_item x_Could leaves = some r) :
  TF (EL k) 64 [.agg [v_x_Could], iv (leaves)] C (RepF (fun (w : Unit) => iv r) (fun (w : Unit) => C)) := by
 unfold P_r4_item at h;refine TF.enter (fn := Go.Proofs.Try.f64) rfl rfl rfl rfl rfl (zU rfl (zQ 1 [_] R7 (fun b2=>zA R4 (zN (zS (zU rfl (zF 0 R6 (zL 0 R3 R6 (zV R3 (Val.len_l h_x_Could M1 rfl rfl) ?_)))))))));obtain ⟨c10, hc10⟩ := zY ((x_Could.length : Int) > 4);refine zV R3 (Val.gtr hc10 rfl rfl) (zN ?_);obtain ⟨rfl, hc10, h⟩ | ⟨rfl, hc10, h⟩ := zI hc10 h
 ·refine zC rfl (zU rfl (zA R4 (zN (zR ?_))));cases h;exact ⟨rfl, _, rfl, ⟨(), rfl, (pk [98] rfl)⟩⟩
 refine zD rfl (zK ?_)
 show T _ _ _ _ _ _;apply T.join (r := r) (W := Unit) (fun j w => ⟨[], [(2, .ptr b2 0 1)], .row b2 1 [v_x_Could] :: C⟩) h
 ·intro j h;refine zU rfl (zA R4 (zN (zB ?_)))
  show T _ _ _ _ _ _;apply T.iter (r := j) (W := Unit) (fun j w => ⟨[], [(1, iv (leaves)), (2, .ptr b2 0 1), (5, iv (j))], .row b2 1 [v_x_Could] :: C⟩) (w0 := ()) h
  ·exact (sb .refl)
  rintro i _ a h;unfold P_r4_item_L1 at h;refine zS (zU rfl (zM R4 (zF 0 R6 (zL 0 R3 R6 (zV R3 (Val.len_l h_x_Could M1 rfl rfl) ?_)))));obtain ⟨c15, hc15⟩ := zY (i < (x_Could.length : Int));refine zV R3 (Val.lss hc15 rfl rfl) (zN ?_);obtain ⟨rfl, hc15, h⟩ | ⟨rfl, hc15, h⟩ := zI hc15 h
  ·refine zC rfl (zK (zS (zB (zU rfl (zF 0 R6 (zL 0 R3 R6 (zM R4 ?_)))))));obtain ⟨a21, hia21, ea21, h⟩ := el_some h;refine TO.fact (rdl_at h_x_Could M1 hia21 ea21) (fun hp=>?_);obtain ⟨pa21, hpa21, hva21⟩ := hp;refine zV R3 (hva21 ⟨rfl, rfl⟩ rfl rfl) (zV R3 (Val.load_e hpa21 M1 ⟨_, rfl, rfl⟩ rfl rfl) (zM R4 ?_));obtain ⟨hk24, h⟩ := chk_some h;refine zV R3 (Val.sub rfl rfl hk24) ?_;obtain ⟨y25, hr25, h⟩ := andx_some h;refine TO.callT (first := []) (cap := []) (vs := [iv (a21), iv (0), iv ((leaves - 1))]) rfl rfl rfl rfl rfl rfl (orcN rfl) (tf_r4_in aD hr25) ?_;rintro _;refine zG (_::C) rfl (zV R3 (Val.not rfl) (zN ?_));obtain ⟨rfl, h⟩ | ⟨rfl, h⟩ := zZ h
   ·refine zD rfl (zK (zT rfl (zM R4 ?_)));obtain ⟨hk17, h⟩ := chk_some h;refine zV R3 (Val.add rfl rfl hk17) (zA R4 (zN ?_));cases h;exact ⟨rfl, (), (sb .refl)⟩
   refine zC rfl (zU rfl (zA R4 (zN (zR ?_))));cases h;exact ⟨ret_ne, ⟨ret_ne, ⟨rfl, _, rfl, ⟨(), rfl, (pk [98] rfl)⟩⟩⟩⟩
  refine zD rfl (zE ?_);cases h;exact ⟨ex_ne, ⟨rfl, (), (sb .refl)⟩⟩
 ·rintro _ _ h
  show T _ _ _ _ _ _;apply T.join (r := r) (W := Unit) (fun j w => ⟨[], [], .row b2 1 [v_x_Could] :: C⟩) h
  ·intro j h;refine zU rfl (zA R4 (zN (zB ?_)))
   show T _ _ _ _ _ _;apply T.iter (r := j) (W := Unit) (fun j w => ⟨[], [(2, .ptr b2 0 1), (6, iv (j))], .row b2 1 [v_x_Could] :: C⟩) (w0 := ()) h
   ·exact (sb .refl)
   rintro i _ a h;unfold P_r4_item_L2 at h;refine zS (zU rfl (zM R4 (zF 0 R6 (zL 0 R3 R6 (zV R3 (Val.len_l h_x_Could M1 rfl rfl) ?_)))));obtain ⟨c31, hc31⟩ := zY (i < (x_Could.length : Int));refine zV R3 (Val.lss hc31 rfl rfl) (zN ?_);obtain ⟨rfl, hc31, h⟩ | ⟨rfl, hc31, h⟩ := zI hc31 h
   ·refine zC rfl (zK (zS (zB (zS (T.draw (fun v => sameC_refl v) (l1 := [0, 1, 2, 3, 4, 5, 6, 7, 8, 9, 10, 11]) (l2 := []) (by kernel_rfl) (by kernel_rfl) (zF 0 R6 (zL 0 R3 R6 (zM R4 ?_))))))));obtain ⟨a37, hia37, ea37, h⟩ := el_some h;refine TO.fact (rdl_at h_x_Could M1 hia37 ea37) (fun hp=>?_);obtain ⟨pa37, hpa37, hva37⟩ := hp;refine zV R3 (hva37 ⟨rfl, rfl⟩ rfl rfl) (zV R3 (Val.load_e hpa37 M1 ⟨_, rfl, rfl⟩ rfl rfl) (zF 0 R6 (zL 0 R3 R6 (zM R4 ?_))));obtain ⟨hk42, h⟩ := chk_some h;refine zV R3 (Val.sub rfl rfl hk42) ?_;obtain ⟨a43, hia43, ea43, h⟩ := el_some h;refine TO.fact (rdl_at h_x_Could M1 hia43 ea43) (fun hp=>?_);obtain ⟨pa43, hpa43, hva43⟩ := hp;refine zV R3 (hva43 ⟨rfl, rfl⟩ rfl rfl) (zV R3 (Val.load_e hpa43 M1 ⟨_, rfl, rfl⟩ rfl rfl) ?_);obtain ⟨c45, hc45⟩ := zY (a37 ≤ a43);refine zV R3 (Val.leq hc45 rfl rfl) (zN ?_);obtain ⟨rfl, hc45, h⟩ | ⟨rfl, hc45, h⟩ := zI hc45 h
    ·refine zC rfl (zU rfl (zA R4 (zN (zR ?_))));cases h;exact ⟨ret_ne, ⟨ret_ne, ⟨rfl, _, rfl, ⟨(), rfl, (pk [98] rfl)⟩⟩⟩⟩
    refine zD rfl (zK (zT rfl (zM R4 ?_)));obtain ⟨hk33, h⟩ := chk_some h;refine zV R3 (Val.add rfl rfl hk33) (zA R4 (zN ?_));cases h;exact ⟨rfl, (), (sb .refl)⟩
   refine zD rfl (zE ?_);cases h;exact ⟨ex_ne, ⟨rfl, (), (sb .refl)⟩⟩
  ·rintro _ _ h;refine zU rfl (zA R4 (zN (zR ?_)));cases h;exact ⟨rfl, _, rfl, ⟨(), rfl, (pk [98] rfl)⟩⟩
set_option maxRecDepth 10000 in
theorem tf_c_there {k : Nat} (hk : 0 ≤ k) {C : List Thing} {id_x : Nat} {x_CpCase_Book_Signed : Int} {v_x_CpCase_Book_Gatherings : AV} {x_CpCase_Book_Gatherings : List Gat} {v_x_CpCase_Items : AV} {x_CpCase_Items : List Item} {v_x_leaves : AV} {x_leaves : List Leaf} {v_x_mates : AV} {x_mates : List Int} {v_t : AV} {t : List Int} (h_x_CpCase_Book_Gatherings : Rdl C encG v_x_CpCase_Book_Gatherings x_CpCase_Book_Gatherings) (h_x_CpCase_Items : Rdl C encIt v_x_CpCase_Items x_CpCase_Items) (h_x_leaves : Rdl C encL v_x_leaves x_leaves) (h_x_mates : Rdl C encI v_x_mates x_mates) (h_x : Thing.row id_x 5 [iv (x_CpCase_Book_Signed), v_x_CpCase_Book_Gatherings, v_x_CpCase_Items, v_x_leaves, v_x_mates] ∈ C) (h_t : Rdl C encI v_t t) {r : (Int → Int)} (h : P_c_there x_CpCase_Book_Signed x_CpCase_Book_Gatherings x_CpCase_Items x_leaves x_mates t = some r) :
  TF (EL k) 40 [.ptr id_x 0 5, v_t] C (RepF (fun (w : Nat) => .map w) (fun (w : Nat) => .cnt w KInt (cntI r) [] :: C)) := by
 unfold P_c_there at h;refine TF.enter (fn := Go.Proofs.Try.f40) rfl rfl rfl rfl rfl (zU rfl (zA R4 (zN (zU rfl (TO.makeMapI rfl rfl rfl (fun m8=>zA R4 (zN ?_)))))))
 show T _ _ _ _ _ _;apply T.joinA (r := r) (W := Unit) (fun j w => ⟨[], [(5, .map m8)], .cnt m8 KInt (cntI j) [] :: C⟩) h
 ·intro j h;refine zU rfl (zM R4 (zV R3 (Val.len_l h_t M1 rfl rfl) (zM R4 (zN (zB ?_)))))
  show T _ _ _ _ _ _;apply T.iter (r := j) (W := Unit) (fun j w => ⟨[], [(5, .map m8), (9, v_t), (10, iv ((t.length : Int))), (11, iv (j.1))], .cnt m8 KInt (cntI j.2) [] :: C⟩) (w0 := ()) h
  ·exact (sb .refl)
  rintro ⟨x11, m⟩ _ a h;unfold P_c_there_L1 at h;dsimp only at h;dsimp only;refine zU rfl ?_;obtain ⟨c12, hc12⟩ := zY (x11 < (t.length : Int));refine zV R3 (Val.lss hc12 rfl rfl) (zN (zS ?_));obtain ⟨rfl, hc12, h⟩ | ⟨rfl, hc12, h⟩ := zI hc12 h
  ·refine zC rfl (zK (zS (zB (zU rfl ?_))));obtain ⟨a13, hia13, ea13, h⟩ := el_some h;refine TO.fact (rdl_at h_t M1 hia13 ea13) (fun hp=>?_);obtain ⟨pa13, hpa13, hva13⟩ := hp;refine zV R3 (hva13 ⟨rfl, rfl⟩ rfl rfl) (zV R3 (Val.load_e hpa13 M1 ⟨_, rfl, rfl⟩ rfl rfl) (zA R4 (zN (zT rfl (zM R4 (zM R4 (zV R3 (Val.lookupI (p := 0) rfl rfl key_ty3 rfl rfl rfl) ?_)))))));obtain ⟨hk18, h⟩ := chk_some h;refine zV R3 (Val.add rfl rfl hk18) (TO.eff0 rfl rfl (Eff.mapUpdateI (p := 0) rfl rfl key_ty3 rfl rfl rfl) ?_);rintro _ rfl;refine zG (_::C) rfl (zN (zT rfl ?_));obtain ⟨hk19, h⟩ := chk_some h;refine zV R3 (Val.add rfl rfl hk19) (zM R4 (zN ?_));cases h;exact ⟨rfl, (), (sb .refl)⟩
  refine zD rfl (zE ?_);cases h;exact ⟨ex_ne, ⟨rfl, (), (sb .refl)⟩⟩
 ·rintro m _ h;refine zU rfl (zM R4 (zA R4 (zN (zR ?_))));cases h;exact ⟨rfl, _, rfl, ⟨m8, rfl, .refl⟩⟩
end Go.Am.Ythckcbfijdambaa
end
section
namespace Go.Am
set_option linter.unusedVariables false
noncomputable def P_c_open_L2 (x44 : Int) (a47 : Item) : Int → Option (Stp Int (Ex Unit (Stp Int (Ex Unit (Sum (Int × Int × Int) (Int × (GS encL) × (List Int) × Int × Int × Int)))))) := fun x66 =>
  if x66 < (a47.could.l.length : Int) then
    seqx (
      el a47.could.l x66 fun a69 =>
      andx (
        if x66 > 0 then
          chk (I64 (x66 - 1)) (
            el a47.could.l (x66 - 1) fun a79 =>
            some (decide (a69 ≤ a79)))
        else
          some false) fun x82 =>
        if x82 = true then
          some (Ex.rt (Stp.dn (Ex.rt (Stp.dn (Ex.rt (Sum.inl (2, x44, 2)))))))
        else
          some (Ex.nx ())) fun _ =>
      chk (I64 (x66 + 1)) (
        some (Stp.ag (x66 + 1)))
  else
    some (Stp.dn (Ex.nx ()))
noncomputable def P_c_open_L1 (c_Items : List Item) (leaves31 : List Leaf) : Int → Option (Stp Int (Ex Unit (Sum (Int × Int × Int) (Int × (GS encL) × (List Int) × Int × Int × Int)))) := fun x44 =>
  if x44 < (c_Items.length : Int) then
    seqx (
      el c_Items x44 fun a47 =>
      if (a47.could.l.length : Int) > 4 then
        some (Ex.rt (Stp.dn (Ex.rt (Sum.inl (2, x44, 3)))))
      else
        chk (I64 ((leaves31.length : Int) - 1)) (
          andx (P_c_outside 0 ((leaves31.length : Int) - 1) a47.could.l) fun out61 =>
            if out61 = true then
              some (Ex.rt (Stp.dn (Ex.rt (Sum.inl (2, x44, 4)))))
            else
              iter (P_c_open_L2 x44 a47) 0)) fun _ =>
      chk (I64 (x44 + 1)) (
        some (Stp.ag (x44 + 1)))
  else
    some (Stp.dn (Ex.nx ()))
noncomputable def P_c_open_L3 (c_Items : List Item) : (Int × Int) → Option (Stp (Int × Int) (Ex Unit (Sum (Int × Int × Int) (Int × (GS encL) × (List Int) × Int × Int × Int)))) := fun (doubts, x89) =>
  if x89 < (c_Items.length : Int) then
    seqx (
      el c_Items x89 fun a92 =>
      andx (
        if (a92.could.l.length : Int) > 1 then
          chk (I64 (doubts + 1)) (
            some (doubts + 1))
        else
          some doubts) fun doubts_2 =>
        if doubts_2 > 3 then
          some (Ex.rt (Stp.dn (Ex.rt (Sum.inl (3, x89, 3)))))
        else
          some (Ex.nx doubts_2)) fun doubts_2 =>
      chk (I64 (x89 + 1)) (
        some (Stp.ag (doubts_2, (x89 + 1))))
  else
    some (Stp.dn (Ex.nx ()))
noncomputable def P_c_open_L4 (c_Book_Signed : Int) (c_Book_Gatherings : List Gat) (leaves31 : List Leaf) : (Int × (List Int)) → Option (Stp (Int × (List Int)) (List Int)) := fun (x110, b107_mates) =>
  if x110 < (leaves31.length : Int) then
    andx (
      andx (P_q_Mate c_Book_Signed c_Book_Gatherings x110) fun (mate117, e117) =>
        andx (
          if ¬ e117 = 0 then
            some (-1)
          else
            some mate117) fun m =>
          chk (b107_mates.length + [m].length < 1000000000) (
            some (b107_mates ++ [m]))) fun b107_mates_2 =>
      chk (I64 (x110 + 1)) (
        some (Stp.ag ((x110 + 1), b107_mates_2)))
  else
    some (Stp.dn b107_mates)
noncomputable def P_c_open (c_Book_Signed : Int) (c_Book_Gatherings : List Gat) (c_Items : List Item) : Option (Sum (Int × Int × Int) (Int × (GS encL) × (List Int) × Int × Int × Int)) :=
  andx (P_q_Check c_Book_Signed c_Book_Gatherings) fun (part21, at_21, e21) =>
    if ¬ e21 = 0 then
      some (Sum.inl (1, 0, e21))
    else
      andx (P_q_Leaves c_Book_Signed c_Book_Gatherings) fun (leaves31, e31) =>
        if (leaves31.length : Int) > 120 then
          some (Sum.inl (1, 0, 3))
        else
          if (c_Items.length : Int) > 120 then
            some (Sum.inl (2, 0, 3))
          else
            seqx (
              iter (P_c_open_L1 c_Items leaves31) 0) fun _ =>
              seqx (
                iter (P_c_open_L3 c_Items) (0, 0)) fun _ =>
                andx (
                  iter (P_c_open_L4 c_Book_Signed c_Book_Gatherings leaves31) (0, [])) fun b107_mates =>
                  some (Sum.inr (c_Book_Signed, (GSo true encL leaves31), b107_mates, 0, 0, 0))
end Go.Am
end
section
namespace Go.Am.Ythckcbfijdambaa
open Go.Am Go.RowKit
set_option linter.unusedVariables false
set_option linter.unusedSimpArgs false
set_option maxRecDepth 10000 in
theorem tf_c_open {k : Nat} (hk : 5 ≤ k) {C : List Thing} {c_Book_Signed : Int} {v_c_Book_Gatherings : AV} {c_Book_Gatherings : List Gat} {v_c_Items : AV} {c_Items : List Item} (h_c_Book_Gatherings : Rdl C encG v_c_Book_Gatherings c_Book_Gatherings) (h_c_Items : Rdl C encIt v_c_Items c_Items) {r : Sum (Int × Int × Int) (Int × (GS encL) × (List Int) × Int × Int × Int)} (h : P_c_open c_Book_Signed c_Book_Gatherings c_Items = some r) :
  TF (EL k) 36 [.agg [iv (c_Book_Signed), v_c_Book_Gatherings, v_c_Items]] C (RepS (fun (r : Int × Int × Int) => RepF (fun (w : Unit) => .tuple [.lit (.pointer none), iv r.1, iv r.2.1, iv r.2.2]) (fun (w : Unit) => C)) (fun (r : Int × (GS encL) × (List Int) × Int × Int × Int) => RepF (fun (w : Nat × AV) => .tuple [.ptr w.1 0 5, iv r.2.2.2.1, iv r.2.2.2.2.1, iv r.2.2.2.2.2]) (fun (w : Nat × AV) => .row w.1 5 [iv r.1, v_c_Book_Gatherings, v_c_Items, r.2.1.v, w.2] :: ownL true w.2 encI r.2.2.1 :: C)) r) := by
 unfold P_c_open at h;refine TF.enter (fn := Go.Proofs.Try.f36) rfl rfl rfl rfl rfl (zU rfl (zQ 3 [_,_,_] R7 (fun b1=>zA R4 (zA R4 (zA R4 (zA R4 (zN (zS (zU rfl (zF 0 R6 (zV R3 (vW 0 [_,_] R5 R4) ?_)))))))))));obtain ⟨⟨part21, at_21, e21⟩, hr21, h⟩ := andx_some h;dsimp only at h;obtain ⟨g, hgg, hrg⟩ := Rdl.reif (hs := .row b1 3 [iv (c_Book_Signed), v_c_Book_Gatherings, v_c_Items] :: C) h_c_Book_Gatherings M1 (ReifL.flat encG_tr);refine TO.call rfl rfl rfl rfl rfl (orcL rfl aD) (.cons (.agg (.cons .lit (.cons (hrg _) .nil))) .nil) (sem_of (w_q_Check c_Book_Signed g _ (by try rw [hgg]; exact hr21))) (zM R4 (zX R5 (zX R5 (zX R5 (zA R4 (zN (zU rfl (zM R4 ?_))))))));obtain ⟨c26, hc26⟩ := zY (¬ e21 = 0);refine zV R3 (Val.neq hc26 rfl rfl) (zN ?_);obtain ⟨rfl, hc26, h⟩ | ⟨rfl, hc26, h⟩ := zI hc26 h
 ·refine zC rfl (zU rfl (zM R4 (zA R4 (zA R4 (zA R4 (zA R4 (zN (zR ?_))))))));cases h;exact ⟨rfl, _, rfl, ⟨(), rfl, (pk [98] rfl)⟩⟩
 refine zD rfl (zK (zU rfl (zF 0 R6 (zV R3 (vW 0 [_,_] R5 R4) ?_))));obtain ⟨⟨leaves31, e31⟩, hr31, h⟩ := andx_some h;dsimp only at h;obtain ⟨g_2, hgg_2, hrg_2⟩ := Rdl.reif (hs := .row b1 3 [iv (c_Book_Signed), v_c_Book_Gatherings, v_c_Items] :: C) h_c_Book_Gatherings M1 (ReifL.flat encG_tr);refine TO.call rfl rfl rfl rfl rfl (orcL rfl aD) (.cons (.agg (.cons .lit (.cons (hrg_2 _) .nil))) .nil) (sem_of (w_q_Leaves c_Book_Signed g_2 _ (by try rw [hgg_2]; exact hr31))) (zM R4 (zX R5 (zX R5 (zA R4 (zA R4 (zN (zS (zU rfl (zM R4 (zV R3 (Val.len_gs rfl rfl) ?_))))))))));obtain ⟨c36, hc36⟩ := zY ((leaves31.length : Int) > 120);refine zV R3 (Val.gtr hc36 rfl rfl) (zN ?_);obtain ⟨rfl, hc36, h⟩ | ⟨rfl, hc36, h⟩ := zI hc36 h
 ·refine zC rfl (zU rfl (zA R4 (zA R4 (zA R4 (zA R4 (zN (zR ?_)))))));cases h;exact ⟨rfl, _, rfl, ⟨(), rfl, (pk [98] rfl)⟩⟩
 refine zD rfl (zK (zS (zU rfl (zF 2 R6 (zL 0 R3 R6 (zV R3 (Val.len_l h_c_Items M1 rfl rfl) ?_))))));obtain ⟨c40, hc40⟩ := zY ((c_Items.length : Int) > 120);refine zV R3 (Val.gtr hc40 rfl rfl) (zN ?_);obtain ⟨rfl, hc40, h⟩ | ⟨rfl, hc40, h⟩ := zI hc40 h
 ·refine zC rfl (zU rfl (zA R4 (zA R4 (zA R4 (zA R4 (zN (zR ?_)))))));cases h;exact ⟨rfl, _, rfl, ⟨(), rfl, (pk [98] rfl)⟩⟩
 refine zD rfl (zK ?_)
 show T _ _ _ _ _ _;apply T.join (r := r) (W := Unit) (fun j w => ⟨[], [(1, .ptr b1 0 3), (6, (GSo true encL leaves31).v)], .row b1 3 [iv (c_Book_Signed), v_c_Book_Gatherings, v_c_Items] :: C⟩) h
 ·intro j h;refine zU rfl (zF 2 R6 (zL 0 R3 R6 (zV R3 (Val.len_l h_c_Items M1 rfl rfl) (zM R4 (zN (zB ?_))))))
  show T _ _ _ _ _ _;apply T.iter (r := j) (W := Unit) (fun j w => ⟨[], [(1, .ptr b1 0 3), (6, (GSo true encL leaves31).v), (42, v_c_Items), (43, iv ((c_Items.length : Int))), (44, iv (j))], .row b1 3 [iv (c_Book_Signed), v_c_Book_Gatherings, v_c_Items] :: C⟩) (w0 := ()) h
  ·exact (sb .refl)
  rintro x44 _ a h;unfold P_c_open_L1 at h;refine zU rfl ?_;obtain ⟨c45, hc45⟩ := zY (x44 < (c_Items.length : Int));refine zV R3 (Val.lss hc45 rfl rfl) (zN (zS ?_));obtain ⟨rfl, hc45, h⟩ | ⟨rfl, hc45, h⟩ := zI hc45 h
  ·refine zC rfl (zK ?_)
   show T _ _ _ _ _ _;apply T.join (r := a) (W := Unit) (fun j w => ⟨[], [(1, .ptr b1 0 3), (6, (GSo true encL leaves31).v), (42, v_c_Items), (43, iv ((c_Items.length : Int))), (44, iv (x44))], .row b1 3 [iv (c_Book_Signed), v_c_Book_Gatherings, v_c_Items] :: C⟩) h
   ·intro j h;refine zB (zU rfl (zM R4 ?_));obtain ⟨a47, hia47, ea47, h⟩ := el_some h;refine TO.fact (rdl_at h_c_Items M1 hia47 ea47) (fun hp=>?_);obtain ⟨pa47, hpa47, hva47⟩ := hp;refine zV R3 (hva47 ⟨rfl, rfl⟩ rfl rfl) (zV R3 (Val.load_es (c := [_]) hpa47 M1 ⟨⟨_, rfl, rfl⟩, rfl, by decide⟩ rfl rfl rfl) (zJ 1 [_] R7 (fun b9=>zA R4 (TO.eff0 rfl rfl (Eff.store_row (p := 0) (cv := [_]) (cells' := [_]) rfl rfl rfl rfl rfl rfl rfl rfl aG (by decide) rfl) ?_))));rintro _ rfl;refine zG (_::_::C) rfl (zN (zS (zB (zU rfl (zF 0 R6 (zL 0 R3 R6 (zV R3 (Val.len_gs rfl rfl) ?_)))))));obtain ⟨c53, hc53⟩ := zY ((a47.could.l.length : Int) > 4);refine zV R3 (Val.gtr hc53 rfl rfl) (zA R4 (zN ?_));obtain ⟨rfl, hc53, h⟩ | ⟨rfl, hc53, h⟩ := zI hc53 h
    ·refine zC rfl (zU rfl (zM R4 (zA R4 (zA R4 (zA R4 (zA R4 (zN (zR ?_))))))));cases h;exact ⟨ret_ne, ⟨ret_ne, ⟨ret_ne, ⟨rfl, _, rfl, ⟨(), rfl, (pk [98,98] rfl)⟩⟩⟩⟩⟩
    refine zD rfl (zU rfl (zM R4 (zV R3 (Val.len_gs rfl rfl) ?_)));obtain ⟨hk58, h⟩ := chk_some h;refine zV R3 (Val.sub rfl rfl hk58) (zF 0 R6 (zL 0 R3 R6 ?_));obtain ⟨out61, hr61, h⟩ := andx_some h;refine TO.call rfl rfl rfl rfl rfl (orcL rfl aD) (.cons .lit (.cons .lit (.cons .gs .nil))) (sem_of (w_c_outside 0 ((leaves31.length : Int) - 1) a47.could _ (by exact hr61))) (zA R4 (zN ?_));obtain ⟨rfl, h⟩ | ⟨rfl, h⟩ := zZ h
    ·refine zC rfl (zU rfl (zM R4 (zA R4 (zA R4 (zA R4 (zA R4 (zN (zR ?_))))))));cases h;exact ⟨ret_ne, ⟨ret_ne, ⟨ret_ne, ⟨rfl, _, rfl, ⟨(), rfl, (pk [98,98] rfl)⟩⟩⟩⟩⟩
    refine zD rfl (zK (zU rfl (zF 0 R6 (zL 0 R3 R6 (zV R3 (Val.len_gs rfl rfl) (zM R4 (zN (zB ?_))))))))
    show T _ _ _ _ _ _;apply T.iter (r := j) (W := Unit) (fun j w => ⟨[], [(1, .ptr b1 0 3), (6, (GSo true encL leaves31).v), (8, iv (x44)), (9, .ptr b9 0 1), (42, v_c_Items), (43, iv ((c_Items.length : Int))), (44, iv (x44)), (64, a47.could.v), (65, iv ((a47.could.l.length : Int))), (66, iv (j))], .row b9 1 [a47.could.v] :: .row b1 3 [iv (c_Book_Signed), v_c_Book_Gatherings, v_c_Items] :: C⟩) (w0 := ()) h
    ·exact (sb .refl)
    rintro x66 _ a h;unfold P_c_open_L2 at h;refine zU rfl ?_;obtain ⟨c67, hc67⟩ := zY (x66 < (a47.could.l.length : Int));refine zV R3 (Val.lss hc67 rfl rfl) (zN (zS ?_));obtain ⟨rfl, hc67, h⟩ | ⟨rfl, hc67, h⟩ := zI hc67 h
    ·refine zC rfl (zK ?_)
     show T _ _ _ _ _ _;apply T.join (r := a) (W := Unit) (fun j w => ⟨[], [(1, .ptr b1 0 3), (6, (GSo true encL leaves31).v), (8, iv (x44)), (9, .ptr b9 0 1), (42, v_c_Items), (43, iv ((c_Items.length : Int))), (44, iv (x44)), (64, a47.could.v), (65, iv ((a47.could.l.length : Int))), (66, iv (x66))], .row b9 1 [a47.could.v] :: .row b1 3 [iv (c_Book_Signed), v_c_Book_Gatherings, v_c_Items] :: C⟩) h
     ·intro j h;refine zB (zU rfl (zM R4 ?_));obtain ⟨a69, hia69, ea69, h⟩ := el_some h;refine TO.fact (rdl_at (Rdl.gs (C := C) a47.could) M2 hia69 ea69) (fun hp=>?_);obtain ⟨pa69, hpa69, hva69⟩ := hp;refine zV R3 (hva69 ⟨rfl, rfl⟩ rfl rfl) (zV R3 (Val.load_e hpa69 M2 ⟨_, rfl, rfl⟩ rfl rfl) (zA R4 (zA R4 (zN ?_))))
      show T _ _ _ _ _ _;apply T.joinA (r := j) (W := Unit) (fun j w => ⟨[], [(1, .ptr b1 0 3), (6, (GSo true encL leaves31).v), (8, iv (x44)), (9, .ptr b9 0 1), (42, v_c_Items), (43, iv ((c_Items.length : Int))), (44, iv (x44)), (64, a47.could.v), (65, iv ((a47.could.l.length : Int))), (66, iv (x66)), (82, bv j)], .row b9 1 [a47.could.v] :: .row b1 3 [iv (c_Book_Signed), v_c_Book_Gatherings, v_c_Items] :: C⟩) h
      ·intro j h;refine zT rfl (zM R4 ?_);obtain ⟨c72, hc72⟩ := zY (x66 > 0);refine zV R3 (Val.gtr hc72 rfl rfl) (zM R4 ?_);obtain ⟨rfl, hc72, h⟩ | ⟨rfl, hc72, h⟩ := zI hc72 h
       ·refine zM R4 (zF 0 R6 (zL 0 R3 R6 (zM R4 ?_)));obtain ⟨hk78, h⟩ := chk_some h;refine zV R3 (Val.sub rfl rfl hk78) ?_;obtain ⟨a79, hia79, ea79, h⟩ := el_some h;refine TO.fact (rdl_at (Rdl.gs (C := C) a47.could) M2 hia79 ea79) (fun hp=>?_);obtain ⟨pa79, hpa79, hva79⟩ := hp;refine zV R3 (hva79 ⟨rfl, rfl⟩ rfl rfl) (zV R3 (Val.load_e hpa79 M2 ⟨_, rfl, rfl⟩ rfl rfl) ?_);obtain ⟨c81, hc81⟩ := zY (a69 ≤ a79);refine zV R3 (Val.leq hc81 rfl rfl) (zP R6 (zN ?_));subst hc81;cases h;exact ⟨rfl, (), (sb .refl)⟩
       refine zO R3 (zO R3 (zO R3 (zO R3 (zO R3 (zO R3 (zO R3 (zO R3 (zP R6 (zN ?_)))))))));cases h;exact ⟨rfl, (), (sb .refl)⟩
      ·rintro x82 _ h;obtain ⟨rfl, h⟩ | ⟨rfl, h⟩ := zZ h
       ·refine zC rfl (zU rfl (zM R4 (zA R4 (zA R4 (zA R4 (zA R4 (zN (zR ?_))))))));cases h;exact ⟨ret_ne, ⟨ret_ne, ⟨ret_ne, ⟨ret_ne, ⟨ret_ne, ⟨rfl, _, rfl, ⟨(), rfl, (pk [98,98] rfl)⟩⟩⟩⟩⟩⟩⟩
       refine zD rfl (zK ?_);cases h;exact ⟨rfl, (), (sb .refl)⟩
     ·rintro _ _ h;refine zT rfl ?_;obtain ⟨hk84, h⟩ := chk_some h;refine zV R3 (Val.add rfl rfl hk84) (zM R4 (zN ?_));cases h;exact ⟨rfl, (), (sb .refl)⟩
    refine zD rfl (zE ?_);cases h;exact ⟨ex_ne, ⟨rfl, (), (sb (pk [1,98] rfl))⟩⟩
   ·rintro _ _ h;refine zT rfl ?_;obtain ⟨hk85, h⟩ := chk_some h;refine zV R3 (Val.add rfl rfl hk85) (zM R4 (zN ?_));cases h;exact ⟨rfl, (), (sb .refl)⟩
  refine zD rfl (zE ?_);cases h;exact ⟨ex_ne, ⟨rfl, (), (sb .refl)⟩⟩
 ·rintro _ _ h;refine zU rfl (zA R4 (zN ?_))
  show T _ _ _ _ _ _;apply T.join (r := r) (W := Unit) (fun j w => ⟨[], [(1, .ptr b1 0 3), (6, (GSo true encL leaves31).v)], .row b1 3 [iv (c_Book_Signed), v_c_Book_Gatherings, v_c_Items] :: C⟩) h
  ·intro j h;refine zU rfl (zF 2 R6 (zL 0 R3 R6 (zV R3 (Val.len_l h_c_Items M1 rfl rfl) (zM R4 (zN (zB ?_))))))
   show T _ _ _ _ _ _;apply T.iter (r := j) (W := Unit) (fun j w => ⟨[], [(1, .ptr b1 0 3), (6, (GSo true encL leaves31).v), (12, iv (j.1)), (87, v_c_Items), (88, iv ((c_Items.length : Int))), (89, iv (j.2))], .row b1 3 [iv (c_Book_Signed), v_c_Book_Gatherings, v_c_Items] :: C⟩) (w0 := ()) h
   ·exact (sb .refl)
   rintro ⟨doubts, x89⟩ _ a h;unfold P_c_open_L3 at h;dsimp only at h;dsimp only;refine zU rfl ?_;obtain ⟨c90, hc90⟩ := zY (x89 < (c_Items.length : Int));refine zV R3 (Val.lss hc90 rfl rfl) (zN (zS ?_));obtain ⟨rfl, hc90, h⟩ | ⟨rfl, hc90, h⟩ := zI hc90 h
   ·refine zC rfl (zK ?_)
    show T _ _ _ _ _ _;apply T.join (r := a) (W := Unit) (fun j w => ⟨[], [(1, .ptr b1 0 3), (6, (GSo true encL leaves31).v), (12, iv (j)), (87, v_c_Items), (88, iv ((c_Items.length : Int))), (89, iv (x89))], .row b1 3 [iv (c_Book_Signed), v_c_Book_Gatherings, v_c_Items] :: C⟩) h
    ·intro j h;refine zB (zU rfl (zM R4 ?_));obtain ⟨a92, hia92, ea92, h⟩ := el_some h;refine TO.fact (rdl_at h_c_Items M1 hia92 ea92) (fun hp=>?_);obtain ⟨pa92, hpa92, hva92⟩ := hp;refine zV R3 (hva92 ⟨rfl, rfl⟩ rfl rfl) (zV R3 (Val.load_es (c := [_]) hpa92 M1 ⟨⟨_, rfl, rfl⟩, rfl, by decide⟩ rfl rfl rfl) (zJ 1 [_] R7 (fun b14=>zA R4 (TO.eff0 rfl rfl (Eff.store_row (p := 0) (cv := [_]) (cells' := [_]) rfl rfl rfl rfl rfl rfl rfl rfl aG (by decide) rfl) ?_))));rintro _ rfl;refine zG (_::_::C) rfl (zN ?_)
     show T _ _ _ _ _ _;apply T.joinA (r := j) (W := Unit) (fun j w => ⟨[], [(1, .ptr b1 0 3), (6, (GSo true encL leaves31).v), (12, iv (j)), (13, iv (x89)), (87, v_c_Items), (88, iv ((c_Items.length : Int))), (89, iv (x89))], .row b14 1 [a92.could.v] :: .row b1 3 [iv (c_Book_Signed), v_c_Book_Gatherings, v_c_Items] :: C⟩) h
     ·intro j h;refine zU rfl (zF 0 R6 (zL 0 R3 R6 (zV R3 (Val.len_gs rfl rfl) ?_)));obtain ⟨c97, hc97⟩ := zY ((a92.could.l.length : Int) > 1);refine zV R3 (Val.gtr hc97 rfl rfl) (zN ?_);obtain ⟨rfl, hc97, h⟩ | ⟨rfl, hc97, h⟩ := zI hc97 h
      ·refine zC rfl (zT rfl (zM R4 ?_));obtain ⟨hk99, h⟩ := chk_some h;refine zV R3 (Val.add rfl rfl hk99) (zA R4 (zN ?_));cases h;exact ⟨rfl, (), (sb .refl)⟩
      refine zD rfl (zK ?_);cases h;exact ⟨rfl, (), (sb .refl)⟩
     ·rintro doubts_2 _ h;refine zU rfl (zM R4 ?_);obtain ⟨c101, hc101⟩ := zY (doubts_2 > 3);refine zV R3 (Val.gtr hc101 rfl rfl) (zN ?_);obtain ⟨rfl, hc101, h⟩ | ⟨rfl, hc101, h⟩ := zI hc101 h
      ·refine zC rfl (zU rfl (zM R4 (zA R4 (zA R4 (zA R4 (zA R4 (zN (zR ?_))))))));cases h;exact ⟨ret_ne, ⟨ret_ne, ⟨ret_ne, ⟨rfl, _, rfl, ⟨(), rfl, (pk [98,98] rfl)⟩⟩⟩⟩⟩
      refine zD rfl (zK ?_);cases h;exact ⟨rfl, (), (sb (pk [1,98] rfl))⟩
    ·rintro doubts_2 _ h;refine zT rfl ?_;obtain ⟨hk103, h⟩ := chk_some h;refine zV R3 (Val.add rfl rfl hk103) (zM R4 (zN ?_));cases h;exact ⟨rfl, (), (sb .refl)⟩
   refine zD rfl (zE ?_);cases h;exact ⟨ex_ne, ⟨rfl, (), (sb .refl)⟩⟩
  ·rintro _ _ h;refine zU rfl (zV R3 (vW 0 [_,_,_] R5 R4) (zM R4 (zV R3 (Val.buildC (cs := [_, _, _, _, _]) (vs := [(_, _), (_, _)]) (ws := [(_, [_, _, _]), (_, [_])]) rfl rfl (CellsL.cons rfl (CellsL.cons (GS.cells (GSo true encL leaves31)).1 CellsL.nil)) rfl) (zQ 5 [_,_,_,_,_] R7 (fun b107=>zA R4 (zN ?_))))))
   show T _ _ _ _ _ _;apply T.joinA (r := r) (W := AV) (fun j w => ⟨[], [(2, .ptr b107 0 5)], ownL true w encI j :: .row b107 5 [iv (c_Book_Signed), v_c_Book_Gatherings, v_c_Items, (GSo true encL leaves31).v, w] :: .row b1 3 [iv (c_Book_Signed), v_c_Book_Gatherings, v_c_Items] :: C⟩) h
   ·intro j h;refine zU rfl (zM R4 (zV R3 (Val.len_gs rfl rfl) (zM R4 (zN (zB (T.nilown (u := encI.u) ?_))))))
    show T _ _ _ _ _ _;apply T.iter (r := j) (W := AV) (fun j w => ⟨[], [(1, .ptr b1 0 3), (2, .ptr b107 0 5), (109, iv ((leaves31.length : Int))), (110, iv (j.1))], ownL true w encI j.2 :: .row b107 5 [iv (c_Book_Signed), v_c_Book_Gatherings, v_c_Items, (GSo true encL leaves31).v, w] :: .row b1 3 [iv (c_Book_Signed), v_c_Book_Gatherings, v_c_Items] :: C⟩) (w0 := nilS) h
    ·exact (sb .refl)
    rintro ⟨x110, b107_mates⟩ v5 a h;unfold P_c_open_L4 at h;dsimp only at h;dsimp only;refine zU rfl ?_;obtain ⟨c111, hc111⟩ := zY (x110 < (leaves31.length : Int));refine zV R3 (Val.lss hc111 rfl rfl) (zN (zS ?_));obtain ⟨rfl, hc111, h⟩ | ⟨rfl, hc111, h⟩ := zI hc111 h
    ·refine zC rfl (zK ?_)
     show T _ _ _ _ _ _;apply T.joinA (r := a) (W := AV) (fun j w => ⟨[], [(1, .ptr b1 0 3), (2, .ptr b107 0 5), (109, iv ((leaves31.length : Int))), (110, iv (x110))], ownL true w encI j :: .row b107 5 [iv (c_Book_Signed), v_c_Book_Gatherings, v_c_Items, (GSo true encL leaves31).v, w] :: .row b1 3 [iv (c_Book_Signed), v_c_Book_Gatherings, v_c_Items] :: C⟩) h
     ·intro j h;refine zB (zU rfl (zM R4 (zA R4 (zN (zU rfl (zF 0 R6 (zV R3 (vW 2 [_,_] R5 R4) (zM R4 ?_))))))));obtain ⟨⟨mate117, e117⟩, hr117, h⟩ := andx_some h;dsimp only at h;obtain ⟨g_3, hgg_3, hrg_3⟩ := Rdl.reif (hs := ownL true v5 encI b107_mates :: .row b107 5 [iv (c_Book_Signed), v_c_Book_Gatherings, v_c_Items, (GSo true encL leaves31).v, v5] :: .row b1 3 [iv (c_Book_Signed), v_c_Book_Gatherings, v_c_Items] :: C) h_c_Book_Gatherings M3 (ReifL.flat encG_tr);refine TO.call rfl rfl rfl rfl rfl (orcL rfl aD) (.cons (.agg (.cons .lit (.cons (hrg_3 _) .nil))) (.cons .lit .nil)) (sem_of (w_q_Mate c_Book_Signed g_3 x110 _ (by try rw [hgg_3]; exact hr117))) (zM R4 (zX R5 (zX R5 (zA R4 (zA R4 (zN ?_))))))
      show T _ _ _ _ _ _;apply T.joinA (r := j) (W := Unit) (fun j w => ⟨[], [(1, .ptr b1 0 3), (2, .ptr b107 0 5), (16, iv (j)), (109, iv ((leaves31.length : Int))), (110, iv (x110))], ownL true v5 encI b107_mates :: .row b107 5 [iv (c_Book_Signed), v_c_Book_Gatherings, v_c_Items, (GSo true encL leaves31).v, v5] :: .row b1 3 [iv (c_Book_Signed), v_c_Book_Gatherings, v_c_Items] :: C⟩) h
      ·intro j h;refine zU rfl (zM R4 ?_);obtain ⟨c121, hc121⟩ := zY (¬ e117 = 0);refine zV R3 (Val.neq hc121 rfl rfl) (zN ?_);obtain ⟨rfl, hc121, h⟩ | ⟨rfl, hc121, h⟩ := zI hc121 h
       ·refine zC rfl (zT rfl (zA R4 (zN ?_)));cases h;exact ⟨rfl, (), (sb .refl)⟩
       refine zD rfl (zK ?_);cases h;exact ⟨rfl, (), (sb .refl)⟩
      ·rintro m _ h;refine zT rfl (zM R4 (zM R4 (zV R3 (Val.nil_ptr rfl) (zF 4 R6 (zL 1 R3 R6 (zM R4 (TO.build1 (en := encI) (a := m) rfl rfl rfl ⟨rfl, rfl⟩ ⟨_, rfl, rfl⟩ (by decide) (by decide) rfl rfl (fun v128=>?_))))))));obtain ⟨hk129, h⟩ := chk_some h;refine TO.eff rfl rfl rfl (Eff.append_own (b := 8) (en := encI) (l := b107_mates) (l2 := [m]) (p := 1) (q := 0) ⟨rfl, rfl, rfl, ⟨_, rfl, rfl⟩, by decide, by decide⟩ rfl rfl rfl rfl rfl rfl (flat_ones _) (by decide) hk129) ?_;rintro v129 _ rfl;refine zG (_::_::_::_::C) rfl (zV R3 (Val.nil_ptr rfl) (zF 4 R6 (TO.fact (own_cellS (p := 1) rfl) (fun hot5=>TO.eff0 rfl rfl (Eff.store_row (p := 2) (cv := [_]) (cells' := [_, _, _, _, _]) rfl rfl rfl rfl rfl hot5.1 rfl rfl (by first | rfl | (simp [GS.one, hot5.2]; done)) (by decide) rfl) ?_))));rintro _ rfl;refine zG (_::_::_::_::C) rfl (zN ?_);cases h;exact ⟨rfl, v129, (sb (pk [1,1,1,98] rfl))⟩
     ·rintro b107_mates_2 v5_2 h;refine zT rfl ?_;obtain ⟨hk132, h⟩ := chk_some h;refine zV R3 (Val.add rfl rfl hk132) (zM R4 (zN ?_));cases h;exact ⟨rfl, v5_2, (sb .refl)⟩
    refine zD rfl (zE ?_);cases h;exact ⟨ex_ne, ⟨rfl, v5, (sb .refl)⟩⟩
   ·rintro b107_mates v5 h;refine zU rfl (zM R4 (zA R4 (zA R4 (zA R4 (zA R4 (zN (zR ?_)))))));cases h;exact ⟨rfl, _, rfl, ⟨(b107, v5), rfl, (pk [1,0,98] rfl)⟩⟩
end Go.Am.Ythckcbfijdambaa
end
section
namespace Go.Am
set_option linter.unusedVariables false
noncomputable def P_c_Divided_L1 (one : List Item) : Int → Option (Stp Int (Ex Unit Int)) := fun x8 =>
  if x8 < (one.length : Int) then
    el one x8 fun a14 =>
    if (a14.could.l.length : Int) > 1 then
      some (Stp.dn (Ex.rt x8))
    else
      chk (I64 (x8 + 1)) (
        some (Stp.ag (x8 + 1)))
  else
    some (Stp.dn (Ex.nx ()))
noncomputable def P_c_Divided_L2 (other : List Item) : Int → Option (Stp Int (Ex Unit Int)) := fun x8 =>
  if x8 < (other.length : Int) then
    el other x8 fun a14 =>
    if (a14.could.l.length : Int) > 1 then
      some (Stp.dn (Ex.rt x8))
    else
      chk (I64 (x8 + 1)) (
        some (Stp.ag (x8 + 1)))
  else
    some (Stp.dn (Ex.nx ()))
noncomputable def P_c_Divided_L5 (y25_4 : List Int) (y61 : Int → Int) (y64 : Int → Int) : (Int × (List Int)) → Option (Stp (Int × (List Int)) (Stp (List Int) (Stp (List Int) (Ex (List Int) ((List Int) × Int))))) := fun (x70, cut_3) =>
  if x70 < (y25_4.length : Int) then
    seqx (
      el y25_4 x70 fun a73 =>
      andx (
        if (y61 x70) > 0 then
          some (decide ((y64 x70) > 0))
        else
          some false) fun x75 =>
        if x75 = true then
          some (Ex.rt (Stp.dn (Stp.dn (Stp.dn (Ex.rt ([], 5))))))
        else
          andx (
            if (y61 x70) > 0 then
              if a73 ≥ 0 then
                some (decide ((y64 a73) > 0))
              else
                some false
            else
              some false) fun x86 =>
            if x86 = true then
              chk (cut_3.length + [x70].length < 1000000000) (
                some (Ex.nx (cut_3 ++ [x70])))
            else
              some (Ex.nx cut_3)) fun cut_4 =>
      chk (I64 (x70 + 1)) (
        some (Stp.ag ((x70 + 1), cut_4)))
  else
    some (Stp.dn (Stp.ag cut_3))
noncomputable def P_c_Divided_L4 (b_Gatherings : List Gat) (one : List Item) (other : List Item) (y25_2 : Int) (y25_3 : GS encL) (y25_4 : List Int) (y37_2 : Int) (y37_3 : GS encL) (y37_4 : List Int) (t : List Int) : (List Int) → (List Int) → Option (Stp (List Int) (Stp (List Int) (Ex (List Int) ((List Int) × Int)))) := fun cut_2 t_2 =>
 andx (P_c_there y25_2 b_Gatherings one y25_3.l y25_4 t) fun y61 =>
  andx (P_c_there y37_2 b_Gatherings other y37_3.l y37_4 t_2) fun y64 =>
   iter (P_c_Divided_L5 y25_4 y61 y64) (0, cut_2)
noncomputable def P_c_Divided_L3 (b_Gatherings : List Gat) (one : List Item) (other : List Item) (y25_2 : Int) (y25_3 : GS encL) (y25_4 : List Int) (y37_2 : Int) (y37_3 : GS encL) (y37_4 : List Int) : (List Int) → (List Int) → Option (Stp (List Int) (Ex (List Int) ((List Int) × Int))) := fun cut t =>
  chk (other.length ≤ 120 ∧ ∀ x ∈ other, x.could.l.length ≤ 4) (
    seqx (foldx (P_c_Divided_L4 b_Gatherings one other y25_2 y25_3 y25_4 y37_2 y37_3 y37_4 t) (truthsOf other) cut) fun cut_2 =>
      some (Stp.ag cut_2))
noncomputable def P_c_Divided (b_Signed : Int) (b_Gatherings : List Gat) (one : List Item) (other : List Item) : Option ((List Int) × Int) :=
  andx (P_c_open b_Signed b_Gatherings one) fun y =>
    match y with
    | .inl (y25_2, y25_3, y25_4) =>
      chk (¬ y25_4 = 0) (
        some ([], y25_4))
    | .inr (y25_2, y25_3, y25_4, y25_5, y25_6, y25_7) =>
      chk (y25_7 = 0) (
        andx (P_c_open b_Signed b_Gatherings other) fun y =>
          match y with
          | .inl (y37_2, y37_3, y37_4) =>
            chk (¬ y37_4 = 0) (
              some ([], y37_4))
          | .inr (y37_2, y37_3, y37_4, y37_5, y37_6, y37_7) =>
            chk (y37_7 = 0) (
              seqx (
                andx (
                  andx (
                    seqx (
                      iter (P_c_Divided_L1 one) 0) fun _ =>
                      some (-1)) fun y7 =>
                    if y7 ≥ 0 then
                      some true
                    else
                      andx (
                        seqx (
                          iter (P_c_Divided_L2 other) 0) fun _ =>
                          some (-1)) fun y7_2 =>
                        some (decide (y7_2 ≥ 0))) fun x52 =>
                  if x52 = true then
                    some (Ex.rt ([], 2))
                  else
                    some (Ex.nx ())) fun _ =>
                seqx (
                  chk (one.length ≤ 120 ∧ ∀ x ∈ one, x.could.l.length ≤ 4) (
                    seqx (foldx (P_c_Divided_L3 b_Gatherings one other y25_2 y25_3 y25_4 y37_2 y37_3 y37_4) (truthsOf one) []) fun cut =>
                      some (Ex.nx cut))) fun cut =>
                  some (cut, 0)))
end Go.Am
end
section
namespace Go.Am.Ythckcbfijdambaa
open Go.Am Go.RowKit
set_option linter.unusedVariables false
set_option linter.unusedSimpArgs false
set_option maxRecDepth 10000 in
theorem tf_c_Divided {k : Nat} (hk : 5 ≤ k) {C : List Thing} {b_Signed : Int} {v_b_Gatherings : AV} {b_Gatherings : List Gat} {v_one : AV} {one : List Item} {v_other : AV} {other : List Item} (ht_b_Gatherings : RdT encG v_b_Gatherings b_Gatherings) (ht_one : RdT encIt v_one one) (ht_other : RdT encIt v_other other) {r : (List Int) × Int} (h : P_c_Divided b_Signed b_Gatherings one other = some r) :
  TF (EL k) 11 [.agg [iv (b_Signed), v_b_Gatherings], v_one, v_other] C (RepF (fun (w : AV) => .tuple [w, iv r.2]) (fun (w : AV) => ownL true w encI r.1 :: C)) := by
 unfold P_c_Divided at h
 have h_b_Gatherings : Rdl C encG v_b_Gatherings b_Gatherings := RdT.rdl ht_b_Gatherings
 have h_one : Rdl C encIt v_one one := RdT.rdl ht_one
 have h_other : Rdl C encIt v_other other := RdT.rdl ht_other;refine TF.enterG (fn := Go.Proofs.Try.f11) rfl rfl rfl rfl rfl (zU rfl (zQ 2 [_,_] R7 (fun b3=>zJ 1 [_] R7 (fun b6=>zJ 1 [_] R7 (fun b7=>zN (zU rfl (zV R3 (vW 2 [_,_] R5 R4) (zM R4 (TO.fact (rdl_cellS h_one M3) (fun hoone=>zV R3 (Val.buildC (cs := [_, _, _]) (vs := [(_, _), (_, _)]) (ws := [(_, [_, _]), (_, [_])]) rfl rfl (CellsL.cons rfl (CellsL.cons hoone.1 CellsL.nil)) rfl) ?_))))))))));obtain ⟨y25, hr25, h⟩ := andx_some h;cases y25 with
 | inl y25 =>
  obtain ⟨y25_2, y25_3, y25_4⟩ := y25;dsimp only at h;obtain ⟨hkn25, h⟩ := chk_some h;refine TO.callT (first := []) (cap := []) (vs := [.agg [iv (b_Signed), v_b_Gatherings, v_one]]) rfl rfl rfl rfl rfl rfl (orcN rfl) (tf_c_open aD (Rdl.mono h_b_Gatherings M3) (Rdl.mono h_one M3) hr25) ?_;rintro _;refine zG (_::_::_::C) rfl (zM R4 (zX R5 (zX R5 (zX R5 (zX R5 (zJ 1 [_] R7 (fun b8=>TO.eff0 rfl rfl (Eff.store_row (p := 0) (cv := [_]) (cells' := [_]) rfl rfl rfl rfl rfl rfl rfl rfl aG (by decide) rfl) ?_)))))));rintro _ rfl;refine zG (_::_::_::_::C) rfl (zA R4 (zA R4 (TO.eff0 rfl rfl (Eff.store_row (p := 1) (cv := [_]) (cells' := [_]) rfl rfl rfl rfl rfl rfl rfl rfl aG (by decide) rfl) ?_)));rintro _ rfl;refine zG (_::_::_::_::C) rfl (zN (zS (zU rfl (zL 1 R3 R6 ?_))));obtain ⟨c31, hc31⟩ := zY (¬ y25_4 = 0);refine zV R3 (Val.neq hc31 rfl rfl) (zN ?_);obtain rfl : c31 = true := hc31.trans (decide_eq_true hkn25);refine zC rfl (zS (T.drawE (l1 := [0]) (l2 := [1, 2]) (by kernel_rfl) (by kernel_rfl) (yR R4 (vR (p := 1) R6) (TD1.over (fun v => sameC_refl v) (all_cons (⟨_, rfl, (vR (p := 1) R6)⟩) all_nil) (TD2.heavy (fun v => sameC_refl v) rfl (by decide) rfl rfl (OpS.eff (Eff.store_row (p := 2) (cv := [_]) (cells' := [_]) rfl rfl rfl rfl rfl rfl rfl rfl aG (by decide) rfl)) ?_)))));rintro _ _ rfl;refine ⟨(all_cons (.inr ⟨_, rfl, (vR (p := 1) R6)⟩) all_nil), all_nil, ?_⟩;refine yG (_::_::_::_::C) rfl (TD2.heavy (fun v => sameC_refl v) rfl (by decide) rfl rfl (OpS.eff (Eff.store_row (p := 1) (cv := [_]) (cells' := [_]) rfl rfl rfl rfl rfl rfl rfl rfl aG (by decide) rfl)) ?_);rintro _ _ rfl;refine ⟨(all_cons (.inl (by kernel_rfl)) all_nil), all_nil, ?_⟩;refine yG (_::_::_::_::C) rfl (TD2.nil (T.nilown (u := encI.u) (zR ?_)));cases h;exact ⟨rfl, _, rfl, [_, _], ⟨⟨_, rfl, LoadR.row (p := 3) rfl ⟨_, rfl, rfl⟩ rfl rfl⟩, ⟨⟨_, rfl, LoadR.row (p := 2) rfl ⟨_, rfl, rfl⟩ rfl rfl⟩, trivial⟩⟩, ⟨nilS, rfl, (pk [0,98,98,98,98] rfl)⟩⟩
 | inr y25 =>
  obtain ⟨y25_2, y25_3, y25_4, y25_5, y25_6, y25_7⟩ := y25;dsimp only at h;obtain ⟨hkn25, h⟩ := chk_some h;refine TO.callT (first := []) (cap := []) (vs := [.agg [iv (b_Signed), v_b_Gatherings, v_one]]) rfl rfl rfl rfl rfl rfl (orcN rfl) (tf_c_open aD (Rdl.mono h_b_Gatherings M3) (Rdl.mono h_one M3) hr25) ?_;rintro ⟨w25, w25_2⟩;refine zG (_::_::_::_::_::C) rfl (zM R4 (zX R5 (zX R5 (zX R5 (zX R5 (zJ 1 [_] R7 (fun b8=>TO.eff0 rfl rfl (Eff.store_row (p := 0) (cv := [_]) (cells' := [_]) rfl rfl rfl rfl rfl rfl rfl rfl aG (by decide) rfl) ?_)))))));rintro _ rfl;refine zG (_::_::_::_::_::_::C) rfl (zA R4 (zA R4 (TO.eff0 rfl rfl (Eff.store_row (p := 3) (cv := [_]) (cells' := [_]) rfl rfl rfl rfl rfl rfl rfl rfl aG (by decide) rfl) ?_)));rintro _ rfl;refine zG (_::_::_::_::_::_::C) rfl (zN (zS (zU rfl (zL 3 R3 R6 ?_))));obtain ⟨c31, hc31⟩ := zY (¬ y25_7 = 0);refine zV R3 (Val.neq hc31 rfl rfl) (zN ?_);obtain rfl : c31 = false := hc31.trans (decide_eq_false (fun x => x hkn25));refine zD rfl (zK (zU rfl (zV R3 (vW 5 [_,_] R5 R4) (zM R4 (TO.fact (rdl_cellS h_other M6) (fun hoother=>zV R3 (Val.buildC (cs := [_, _, _]) (vs := [(_, _), (_, _)]) (ws := [(_, [_, _]), (_, [_])]) rfl rfl (CellsL.cons rfl (CellsL.cons hoother.1 CellsL.nil)) rfl) ?_))))));obtain ⟨y37, hr37, h⟩ := andx_some h;cases y37 with
  | inl y37 =>
   obtain ⟨y37_2, y37_3, y37_4⟩ := y37;dsimp only at h;obtain ⟨hkn37, h⟩ := chk_some h;refine TO.callT (first := []) (cap := []) (vs := [.agg [iv (b_Signed), v_b_Gatherings, v_other]]) rfl rfl rfl rfl rfl rfl (orcN rfl) (tf_c_open aD (Rdl.mono h_b_Gatherings M6) (Rdl.mono h_other M6) hr37) ?_;rintro _;refine zG (_::_::_::_::_::_::C) rfl (zM R4 (zX R5 (zX R5 (zX R5 (zX R5 (zJ 1 [_] R7 (fun b11=>TO.eff0 rfl rfl (Eff.store_row (p := 0) (cv := [_]) (cells' := [_]) rfl rfl rfl rfl rfl rfl rfl rfl aG (by decide) rfl) ?_)))))));rintro _ rfl;refine zG (_::_::_::_::_::_::_::C) rfl (zA R4 (zA R4 (TO.eff0 rfl rfl (Eff.store_row (p := 4) (cv := [_]) (cells' := [_]) rfl rfl rfl rfl rfl rfl rfl rfl aG (by decide) rfl) ?_)));rintro _ rfl;refine zG (_::_::_::_::_::_::_::C) rfl (zN (zS (zU rfl (zL 4 R3 R6 ?_))));obtain ⟨c43, hc43⟩ := zY (¬ y37_4 = 0);refine zV R3 (Val.neq hc43 rfl rfl) (zN ?_);obtain rfl : c43 = true := hc43.trans (decide_eq_true hkn37);refine zC rfl (zS (T.drawE (l1 := [0]) (l2 := [1, 2]) (by kernel_rfl) (by kernel_rfl) (yR R4 (vR (p := 4) R6) (TD1.over (fun v => sameC_refl v) (all_cons (⟨_, rfl, (vR (p := 4) R6)⟩) all_nil) (TD2.heavy (fun v => sameC_refl v) rfl (by decide) rfl rfl (OpS.eff (Eff.store_row (p := 5) (cv := [_]) (cells' := [_]) rfl rfl rfl rfl rfl rfl rfl rfl aG (by decide) rfl)) ?_)))));rintro _ _ rfl;refine ⟨(all_cons (.inr ⟨_, rfl, (vR (p := 4) R6)⟩) all_nil), all_nil, ?_⟩;refine yG (_::_::_::_::_::_::_::C) rfl (TD2.heavy (fun v => sameC_refl v) rfl (by decide) rfl rfl (OpS.eff (Eff.store_row (p := 4) (cv := [_]) (cells' := [_]) rfl rfl rfl rfl rfl rfl rfl rfl aG (by decide) rfl)) ?_);rintro _ _ rfl;refine ⟨(all_cons (.inl (by kernel_rfl)) all_nil), all_nil, ?_⟩;refine yG (_::_::_::_::_::_::_::C) rfl (TD2.nil (T.nilown (u := encI.u) (zR ?_)));cases h;exact ⟨rfl, _, rfl, [_, _], ⟨⟨_, rfl, LoadR.row (p := 6) rfl ⟨_, rfl, rfl⟩ rfl rfl⟩, ⟨⟨_, rfl, LoadR.row (p := 5) rfl ⟨_, rfl, rfl⟩ rfl rfl⟩, trivial⟩⟩, ⟨nilS, rfl, (pk [0,98,98,98,98,98,98,98] rfl)⟩⟩
  | inr y37 =>
   obtain ⟨y37_2, y37_3, y37_4, y37_5, y37_6, y37_7⟩ := y37;dsimp only at h;obtain ⟨hkn37, h⟩ := chk_some h;refine TO.callT (first := []) (cap := []) (vs := [.agg [iv (b_Signed), v_b_Gatherings, v_other]]) rfl rfl rfl rfl rfl rfl (orcN rfl) (tf_c_open aD (Rdl.mono h_b_Gatherings M6) (Rdl.mono h_other M6) hr37) ?_;rintro ⟨w37, w37_2⟩;refine zG (_::_::_::_::_::_::_::_::C) rfl (zM R4 (zX R5 (zX R5 (zX R5 (zX R5 (zJ 1 [_] R7 (fun b11=>TO.eff0 rfl rfl (Eff.store_row (p := 0) (cv := [_]) (cells' := [_]) rfl rfl rfl rfl rfl rfl rfl rfl aG (by decide) rfl) ?_)))))));rintro _ rfl;refine zG (_::_::_::_::_::_::_::_::_::C) rfl (zA R4 (zA R4 (TO.eff0 rfl rfl (Eff.store_row (p := 6) (cv := [_]) (cells' := [_]) rfl rfl rfl rfl rfl rfl rfl rfl aG (by decide) rfl) ?_)));rintro _ rfl;refine zG (_::_::_::_::_::_::_::_::_::C) rfl (zN (zS (zU rfl (zL 6 R3 R6 ?_))));obtain ⟨c43, hc43⟩ := zY (¬ y37_7 = 0);refine zV R3 (Val.neq hc43 rfl rfl) (zN ?_);obtain rfl : c43 = false := hc43.trans (decide_eq_false (fun x => x hkn37));refine zD rfl (zK (zU rfl (zA R4 (zN ?_))))
   show T _ _ _ _ _ _;apply T.join (r := r) (W := Unit) (fun j w => ⟨[], [(6, .ptr b6 0 1), (7, .ptr b7 0 1), (8, .ptr b8 0 1), (11, .ptr b11 0 1)], .row b11 1 [.ptr w37 0 5] :: .row w37 5 [iv (y37_2), v_b_Gatherings, v_other, y37_3.v, w37_2] :: ownL true w37_2 encI y37_4 :: .row b8 1 [.ptr w25 0 5] :: .row w25 5 [iv (y25_2), v_b_Gatherings, v_one, y25_3.v, w25_2] :: ownL true w25_2 encI y25_4 :: .row b7 1 [iv (y37_7)] :: .row b6 1 [nilS] :: .row b3 2 [iv (b_Signed), v_b_Gatherings] :: C⟩) h
   ·intro j h
    show T _ _ _ _ _ _;apply T.joinA (r := j) (W := Unit) (fun j w => ⟨[], [(6, .ptr b6 0 1), (7, .ptr b7 0 1), (8, .ptr b8 0 1), (11, .ptr b11 0 1), (52, bv j)], .row b11 1 [.ptr w37 0 5] :: .row w37 5 [iv (y37_2), v_b_Gatherings, v_other, y37_3.v, w37_2] :: ownL true w37_2 encI y37_4 :: .row b8 1 [.ptr w25 0 5] :: .row w25 5 [iv (y25_2), v_b_Gatherings, v_one, y25_3.v, w25_2] :: ownL true w25_2 encI y25_4 :: .row b7 1 [iv (y37_7)] :: .row b6 1 [nilS] :: .row b3 2 [iv (b_Signed), v_b_Gatherings] :: C⟩) h
    ·intro j h;refine zT rfl (zM R4 (zM R4 (TO.callIn rfl rfl rfl rfl rfl rfl (orcN rfl) (TF.enter (fn := Go.Proofs.Try.f38) rfl rfl rfl rfl rfl (zU rfl (zA R4 (zN (zU rfl (zM R4 (zM R4 ?_))))))))));refine TO.callJ (W := Unit) (fun (j : Int) (w : Unit) => iv (j)) (fun (j : Int) (w : Unit) => .row b11 1 [.ptr w37 0 5] :: .row w37 5 [iv (y37_2), v_b_Gatherings, v_other, y37_3.v, w37_2] :: ownL true w37_2 encI y37_4 :: .row b8 1 [.ptr w25 0 5] :: .row w25 5 [iv (y25_2), v_b_Gatherings, v_one, y25_3.v, w25_2] :: ownL true w25_2 encI y25_4 :: .row b7 1 [iv (y37_7)] :: .row b6 1 [nilS] :: .row b3 2 [iv (b_Signed), v_b_Gatherings] :: C) h rfl rfl rfl rfl rfl rfl (orcN rfl) ?_ ?_
     ·intro j h;refine TF.enter (fn := Go.Proofs.Try.f60) rfl rfl rfl rfl rfl (zU rfl (zA R4 (zN ?_)))
      show T _ _ _ _ _ _;apply T.join (r := j) (W := Unit) (fun j w => ⟨[], [], .row b11 1 [.ptr w37 0 5] :: .row w37 5 [iv (y37_2), v_b_Gatherings, v_other, y37_3.v, w37_2] :: ownL true w37_2 encI y37_4 :: .row b8 1 [.ptr w25 0 5] :: .row w25 5 [iv (y25_2), v_b_Gatherings, v_one, y25_3.v, w25_2] :: ownL true w25_2 encI y25_4 :: .row b7 1 [iv (y37_7)] :: .row b6 1 [nilS] :: .row b3 2 [iv (b_Signed), v_b_Gatherings] :: C⟩) h
      ·intro j h;refine zU rfl (zM R4 (zV R3 (Val.len_l h_one (memS M8) rfl rfl) (zM R4 (zN (zB ?_)))))
       show T _ _ _ _ _ _;apply T.iter (r := j) (W := Unit) (fun j w => ⟨[], [(0, v_one), (1, .func 37 [] []), (7, iv ((one.length : Int))), (8, iv (j))], .row b11 1 [.ptr w37 0 5] :: .row w37 5 [iv (y37_2), v_b_Gatherings, v_other, y37_3.v, w37_2] :: ownL true w37_2 encI y37_4 :: .row b8 1 [.ptr w25 0 5] :: .row w25 5 [iv (y25_2), v_b_Gatherings, v_one, y25_3.v, w25_2] :: ownL true w25_2 encI y25_4 :: .row b7 1 [iv (y37_7)] :: .row b6 1 [nilS] :: .row b3 2 [iv (b_Signed), v_b_Gatherings] :: C⟩) (w0 := ()) h
       ·exact (sb .refl)
       rintro x8 _ a h;unfold P_c_Divided_L1 at h;refine zU rfl ?_;obtain ⟨c9, hc9⟩ := zY (x8 < (one.length : Int));refine zV R3 (Val.lss hc9 rfl rfl) (zN (zS ?_));obtain ⟨rfl, hc9, h⟩ | ⟨rfl, hc9, h⟩ := zI hc9 h
       ·refine zC rfl (zK (zS (zB (zU rfl (zM R4 (zA R4 (zN (zU rfl (zM R4 (zM R4 (zM R4 ?_)))))))))));obtain ⟨a14, hia14, ea14, h⟩ := el_some h;refine TO.fact (rdl_at h_one (memS M8) hia14 ea14) (fun hp=>?_);obtain ⟨pa14, hpa14, hva14⟩ := hp;refine zV R3 (hva14 ⟨rfl, rfl⟩ rfl rfl) (zV R3 (Val.load_es (c := [_]) hpa14 (memS M8) ⟨⟨_, rfl, rfl⟩, rfl, by decide⟩ rfl rfl rfl) (TO.callIn rfl rfl rfl rfl rfl rfl (orcN rfl) (TF.enter (fn := Go.Proofs.Try.f37) rfl rfl rfl rfl rfl (zU rfl (zQ 1 [_] R7 (fun b1=>zA R4 (zN (zU rfl (zF 0 R6 (zL 0 R3 R6 (zV R3 (Val.len_gs rfl rfl) ?_)))))))))));obtain ⟨c6, hc6⟩ := zY ((a14.could.l.length : Int) > 1);refine zV R3 (Val.gtr hc6 rfl rfl) (zA R4 (zN (zR ?_)));refine ⟨rfl, _, rfl, ?_⟩;refine zN ?_;obtain ⟨rfl, hc6, h⟩ | ⟨rfl, hc6, h⟩ := zI hc6 h
        ·refine zC rfl (zU rfl (zM R4 (zA R4 (zN (zR ?_)))));cases h;exact ⟨ret_ne, ⟨ret_ne, ⟨rfl, _, rfl, ⟨(), rfl, (pk [1,1,1,1,1,1,1,1,1,98] rfl)⟩⟩⟩⟩
        refine zD rfl (zK (zT rfl ?_));obtain ⟨hk18, h⟩ := chk_some h;refine zV R3 (Val.add rfl rfl hk18) (zM R4 (zN ?_));cases h;exact ⟨rfl, (), (sb (pk [1,1,1,1,1,1,1,1,1,98] rfl))⟩
       refine zD rfl (zE ?_);cases h;exact ⟨ex_ne, ⟨rfl, (), (sb .refl)⟩⟩
      ·rintro _ _ h;refine zU rfl (zA R4 (zN (zR ?_)));cases h;exact ⟨rfl, _, rfl, ⟨(), rfl, .refl⟩⟩
     ·rintro y7 _ h;refine zG (_::_::_::_::_::_::_::_::_::C) rfl ?_;obtain ⟨c8, hc8⟩ := zY (y7 ≥ 0);refine zV R3 (Val.geq hc8 rfl rfl) (zA R4 (zN (zR ?_)));refine ⟨rfl, _, rfl, ?_⟩;refine zM R4 ?_;obtain ⟨rfl, hc8, h⟩ | ⟨rfl, hc8, h⟩ := zI hc8 h
      ·refine zO R3 (zO R3 (zO R3 (zP R6 (zN ?_))));cases h;exact ⟨rfl, (), (sb .refl)⟩
      refine zM R4 (zM R4 (TO.callIn rfl rfl rfl rfl rfl rfl (orcN rfl) (TF.enter (fn := Go.Proofs.Try.f38) rfl rfl rfl rfl rfl (zU rfl (zA R4 (zN (zU rfl (zM R4 (zM R4 ?_)))))))));refine TO.callJ (W := Unit) (fun (j : Int) (w : Unit) => iv (j)) (fun (j : Int) (w : Unit) => .row b11 1 [.ptr w37 0 5] :: .row w37 5 [iv (y37_2), v_b_Gatherings, v_other, y37_3.v, w37_2] :: ownL true w37_2 encI y37_4 :: .row b8 1 [.ptr w25 0 5] :: .row w25 5 [iv (y25_2), v_b_Gatherings, v_one, y25_3.v, w25_2] :: ownL true w25_2 encI y25_4 :: .row b7 1 [iv (y37_7)] :: .row b6 1 [nilS] :: .row b3 2 [iv (b_Signed), v_b_Gatherings] :: C) h rfl rfl rfl rfl rfl rfl (orcN rfl) ?_ ?_
      ·intro j h;refine TF.enter (fn := Go.Proofs.Try.f60) rfl rfl rfl rfl rfl (zU rfl (zA R4 (zN ?_)))
       show T _ _ _ _ _ _;apply T.join (r := j) (W := Unit) (fun j w => ⟨[], [], .row b11 1 [.ptr w37 0 5] :: .row w37 5 [iv (y37_2), v_b_Gatherings, v_other, y37_3.v, w37_2] :: ownL true w37_2 encI y37_4 :: .row b8 1 [.ptr w25 0 5] :: .row w25 5 [iv (y25_2), v_b_Gatherings, v_one, y25_3.v, w25_2] :: ownL true w25_2 encI y25_4 :: .row b7 1 [iv (y37_7)] :: .row b6 1 [nilS] :: .row b3 2 [iv (b_Signed), v_b_Gatherings] :: C⟩) h
       ·intro j h;refine zU rfl (zM R4 (zV R3 (Val.len_l h_other (memS M8) rfl rfl) (zM R4 (zN (zB ?_)))))
        show T _ _ _ _ _ _;apply T.iter (r := j) (W := Unit) (fun j w => ⟨[], [(0, v_other), (1, .func 37 [] []), (7, iv ((other.length : Int))), (8, iv (j))], .row b11 1 [.ptr w37 0 5] :: .row w37 5 [iv (y37_2), v_b_Gatherings, v_other, y37_3.v, w37_2] :: ownL true w37_2 encI y37_4 :: .row b8 1 [.ptr w25 0 5] :: .row w25 5 [iv (y25_2), v_b_Gatherings, v_one, y25_3.v, w25_2] :: ownL true w25_2 encI y25_4 :: .row b7 1 [iv (y37_7)] :: .row b6 1 [nilS] :: .row b3 2 [iv (b_Signed), v_b_Gatherings] :: C⟩) (w0 := ()) h
        ·exact (sb .refl)
        rintro x8 _ a h;unfold P_c_Divided_L2 at h;refine zU rfl ?_;obtain ⟨c9, hc9⟩ := zY (x8 < (other.length : Int));refine zV R3 (Val.lss hc9 rfl rfl) (zN (zS ?_));obtain ⟨rfl, hc9, h⟩ | ⟨rfl, hc9, h⟩ := zI hc9 h
        ·refine zC rfl (zK (zS (zB (zU rfl (zM R4 (zA R4 (zN (zU rfl (zM R4 (zM R4 (zM R4 ?_)))))))))));obtain ⟨a14, hia14, ea14, h⟩ := el_some h;refine TO.fact (rdl_at h_other (memS M8) hia14 ea14) (fun hp=>?_);obtain ⟨pa14, hpa14, hva14⟩ := hp;refine zV R3 (hva14 ⟨rfl, rfl⟩ rfl rfl) (zV R3 (Val.load_es (c := [_]) hpa14 (memS M8) ⟨⟨_, rfl, rfl⟩, rfl, by decide⟩ rfl rfl rfl) (TO.callIn rfl rfl rfl rfl rfl rfl (orcN rfl) (TF.enter (fn := Go.Proofs.Try.f37) rfl rfl rfl rfl rfl (zU rfl (zQ 1 [_] R7 (fun b1=>zA R4 (zN (zU rfl (zF 0 R6 (zL 0 R3 R6 (zV R3 (Val.len_gs rfl rfl) ?_)))))))))));obtain ⟨c6, hc6⟩ := zY ((a14.could.l.length : Int) > 1);refine zV R3 (Val.gtr hc6 rfl rfl) (zA R4 (zN (zR ?_)));refine ⟨rfl, _, rfl, ?_⟩;refine zN ?_;obtain ⟨rfl, hc6, h⟩ | ⟨rfl, hc6, h⟩ := zI hc6 h
         ·refine zC rfl (zU rfl (zM R4 (zA R4 (zN (zR ?_)))));cases h;exact ⟨ret_ne, ⟨ret_ne, ⟨rfl, _, rfl, ⟨(), rfl, (pk [1,1,1,1,1,1,1,1,1,98] rfl)⟩⟩⟩⟩
         refine zD rfl (zK (zT rfl ?_));obtain ⟨hk18, h⟩ := chk_some h;refine zV R3 (Val.add rfl rfl hk18) (zM R4 (zN ?_));cases h;exact ⟨rfl, (), (sb (pk [1,1,1,1,1,1,1,1,1,98] rfl))⟩
        refine zD rfl (zE ?_);cases h;exact ⟨ex_ne, ⟨rfl, (), (sb .refl)⟩⟩
       ·rintro _ _ h;refine zU rfl (zA R4 (zN (zR ?_)));cases h;exact ⟨rfl, _, rfl, ⟨(), rfl, .refl⟩⟩
      ·rintro y7_2 _ h;refine zG (_::_::_::_::_::_::_::_::_::C) rfl ?_;obtain ⟨c8_2, hc8_2⟩ := zY (y7_2 ≥ 0);refine zV R3 (Val.geq hc8_2 rfl rfl) (zA R4 (zN (zR ?_)));refine ⟨rfl, _, rfl, ?_⟩;refine zP R6 (zN ?_);subst hc8_2;cases h;exact ⟨rfl, (), (sb .refl)⟩
    ·rintro x52 _ h;obtain ⟨rfl, h⟩ | ⟨rfl, h⟩ := zZ h
     ·refine zC rfl (zU rfl (TO.eff0 rfl rfl (Eff.store_row (p := 7) (cv := [_]) (cells' := [_]) rfl rfl rfl rfl rfl rfl rfl rfl aG (by decide) rfl) ?_));rintro _ rfl;refine zG (_::_::_::_::_::_::_::_::_::C) rfl (TO.eff0 rfl rfl (Eff.store_row (p := 6) (cv := [_]) (cells' := [_]) rfl rfl rfl rfl rfl rfl rfl rfl aG (by decide) rfl) ?_);rintro _ rfl;refine zG (_::_::_::_::_::_::_::_::_::C) rfl (zN (T.nilown (u := encI.u) (zR ?_)));cases h;exact ⟨ret_ne, ⟨rfl, _, rfl, [_, _], ⟨⟨_, rfl, LoadR.row (p := 8) rfl ⟨_, rfl, rfl⟩ rfl rfl⟩, ⟨⟨_, rfl, LoadR.row (p := 7) rfl ⟨_, rfl, rfl⟩ rfl rfl⟩, trivial⟩⟩, ⟨nilS, rfl, (pk [0,98,98,98,98,98,98,98,98,98] rfl)⟩⟩⟩
     refine zD rfl (zK ?_);cases h;exact ⟨rfl, (), (sb .refl)⟩
   ·rintro _ _ h
    show T _ _ _ _ _ _;apply T.join (r := r) (W := Nat × AV) (fun j w => ⟨[w.1], [(6, .ptr b6 0 1), (7, .ptr b7 0 1)], .obj w.1 (.dfr true) :: ownL true w.2 encI j :: .row b7 1 [iv (y37_7)] :: .row b6 1 [w.2] :: .row b11 1 [.ptr w37 0 5] :: .row w37 5 [iv (y37_2), v_b_Gatherings, v_other, y37_3.v, w37_2] :: ownL true w37_2 encI y37_4 :: .row b8 1 [.ptr w25 0 5] :: .row w25 5 [iv (y25_2), v_b_Gatherings, v_one, y25_3.v, w25_2] :: ownL true w25_2 encI y25_4 :: .row b3 2 [iv (b_Signed), v_b_Gatherings] :: C⟩) h
    ·intro j h;refine zU rfl (zL 3 R3 R6 (TO.callIn rfl rfl rfl rfl rfl rfl (orcN rfl) (TF.enter (fn := Go.Proofs.Try.f39) rfl rfl rfl rfl rfl (zU rfl (zQ 1 [_] R7 (fun b1=>zA R4 (zN (zU rfl (zV R3 (Val.makeFunc rfl rfl) (zA R4 (zN (zR ?_))))))))))));refine ⟨rfl, _, rfl, ?_⟩;refine zN (zB (T.nilown (u := encI.u) ?_));obtain ⟨hkR3, h⟩ := chk_some h
     show T _ _ _ _ _ _;apply T.rangeP (r := j) (W := AV) (w0 := nilS) ArgT (fun (j : (List Int)) (w : AV) => [ownL true w encI j, .row b7 1 [iv (y37_7)], .row b6 1 [w]]) (.row b1 1 [.ptr w25 0 5] :: .row b11 1 [.ptr w37 0 5] :: .row w37 5 [iv (y37_2), v_b_Gatherings, v_other, y37_3.v, w37_2] :: ownL true w37_2 encI y37_4 :: .row b8 1 [.ptr w25 0 5] :: .row w25 5 [iv (y25_2), v_b_Gatherings, v_one, y25_3.v, w25_2] :: ownL true w25_2 encI y25_4 :: .row b3 2 [iv (b_Signed), v_b_Gatherings] :: C) h
     ·rfl
     ·rfl
     ·rfl
     ·exact (pk [0,7,7] rfl)
     ·exact tr_yields (List.mem_of_getElem? (i := 0) rfl) (List.mem_of_getElem? (i := 5) rfl) (Rdl.mono h_one M8) hkR3
     ·rintro l3 d cut v18 t vs G F3 ans hmem harg hD hG h;unfold P_c_Divided_L3 at h;obtain ⟨v_t, rfl, rfl⟩ := harg
      have h_t : Rdl F3 encI v_t t := .inr ⟨false, hG _ (by simp)⟩
      have hCF : ∀ x ∈ C, x ∈ F3 := fun x hx => hD x (memS M7 x hx)
      replace h_b_Gatherings := Rdl.mono h_b_Gatherings hCF;replace h_one := Rdl.mono h_one hCF;replace h_other := Rdl.mono h_other hCF
      have hu3_t12 : Rdl F3 encI w37_2 y37_4 := .inr ⟨true, (hD _ (List.mem_of_getElem? (i := 3) rfl))⟩
      have hu3_t7 : Rdl F3 encI w25_2 y25_4 := .inr ⟨true, (hD _ (List.mem_of_getElem? (i := 6) rfl))⟩
      have hu3_t11 : Thing.row w37 5 [iv (y37_2), v_b_Gatherings, v_other, y37_3.v, w37_2] ∈ F3 := (hD _ (List.mem_of_getElem? (i := 2) rfl))
      have hu3_t6 : Thing.row w25 5 [iv (y25_2), v_b_Gatherings, v_one, y25_3.v, w25_2] ∈ F3 := (hD _ (List.mem_of_getElem? (i := 5) rfl))
      have hu3_t1 : Thing.row b3 2 [iv (b_Signed), v_b_Gatherings] ∈ F3 := (hD _ (List.mem_of_getElem? (i := 7) rfl))
      have hu3_t17 : Thing.row b1 1 [.ptr w25 0 5] ∈ F3 := (hD _ (List.mem_of_getElem? (i := 0) rfl))
      have hu3_t13 : Thing.row b11 1 [.ptr w37 0 5] ∈ F3 := (hD _ (List.mem_of_getElem? (i := 1) rfl))
      have hu3_t8 : Thing.row b8 1 [.ptr w25 0 5] ∈ F3 := (hD _ (List.mem_of_getElem? (i := 4) rfl));refine ⟨_, rfl, fun LR3 LB3 hLB3 => ?_⟩;refine T.things (hs' := LR3 :: ownL true v18 encI cut :: .row b7 1 [iv (y37_7)] :: .row b6 1 [v18] :: F3) rfl (zT rfl (zJ 1 [_] R7 (fun b15=>TO.fact (rdl_cellS h_t M5) (fun hot=>TO.eff0 rfl rfl (Eff.store_row (p := 0) (cv := [_]) (cells' := [_]) rfl rfl rfl rfl rfl hot.1 rfl rfl (by first | rfl | (simp [GS.one, hot.2]; done)) (by decide) rfl) ?_))));rintro _ rfl;refine zG (_::_::_::_::_::F3) rfl (zN ?_);refine ⟨rfl, 1, rfl, ?_⟩;refine T.things (hs' := .row b15 1 [v_t] :: LB3 :: ownL true v18 encI cut :: .row b7 1 [iv (y37_7)] :: .row b6 1 [v18] :: F3) rfl (zB (zU rfl (zV R3 (Val.load_rowM hu3_t13 M5 ⟨_, rfl, rfl⟩ rfl rfl rfl) (TO.callIn rfl rfl rfl rfl rfl rfl (orcN rfl) (TF.enter (fn := Go.Proofs.Try.f39) rfl rfl rfl rfl rfl (zU rfl (zQ 1 [_] R7 (fun b1_2=>zA R4 (zN (zU rfl (zV R3 (Val.makeFunc rfl rfl) (zA R4 (zN (zR ?_))))))))))))));refine ⟨rfl, _, rfl, ?_⟩;refine zN (zB ?_);obtain ⟨hkR4, h⟩ := chk_some h
      show T _ _ _ _ _ _;apply T.rangeP1 (p0 := 5) (r := ans) (W := AV) (w0 := v18) ArgT (fun (j : (List Int)) (w : AV) => [ownL true w encI j, .row b7 1 [iv (y37_7)], .row b6 1 [w]]) (.row b1_2 1 [.ptr w37 0 5] :: .row b15 1 [v_t] :: LB3 :: F3) h
      ·exact (rfl : _ = some LB3)
      ·exact hLB3
      ·rfl
      ·rfl
      ·rfl
      ·exact (pk [3,3,3] rfl)
      ·exact tr_yields (List.mem_of_getElem? (i := 0) rfl) (M3 _ hu3_t11) (Rdl.mono h_other M3) hkR4
      ·rintro l4 cut_2 v18_2 t_2 vs G F4 ans hmem harg hD hG h;unfold P_c_Divided_L4 at h;obtain ⟨v_t_2, rfl, rfl⟩ := harg
       have h_t_2 : Rdl F4 encI v_t_2 t_2 := .inr ⟨false, hG _ (by simp)⟩
       have hCF : ∀ x ∈ F3, x ∈ F4 := fun x hx => hD x (memS M2 x hx)
       replace h_b_Gatherings := Rdl.mono h_b_Gatherings hCF;replace h_one := Rdl.mono h_one hCF;replace h_other := Rdl.mono h_other hCF;replace hu3_t12 := Rdl.mono hu3_t12 hCF;replace hu3_t7 := Rdl.mono hu3_t7 hCF;replace hu3_t11 := hCF _ hu3_t11;replace hu3_t6 := hCF _ hu3_t6;replace hu3_t1 := hCF _ hu3_t1;replace hu3_t17 := hCF _ hu3_t17;replace hu3_t13 := hCF _ hu3_t13;replace hu3_t8 := hCF _ hu3_t8;replace h_t := Rdl.mono h_t hCF
       have hu4_t20 : Thing.row b1_2 1 [.ptr w37 0 5] ∈ F4 := (hD _ (List.mem_of_getElem? (i := 0) rfl))
       have hu4_t19 : Thing.row b15 1 [v_t] ∈ F4 := (hD _ (List.mem_of_getElem? (i := 1) rfl));refine ⟨_, rfl, fun LR4 LB4 hLB4 => ?_⟩;refine T.things (hs' := LR4 :: ownL true v18_2 encI cut_2 :: .row b7 1 [iv (y37_7)] :: .row b6 1 [v18_2] :: F4) rfl (zT rfl (zA R4 (zN ?_)));refine ⟨rfl, 0, rfl, ?_⟩;refine T.things (hs' := LB4 :: ownL true v18_2 encI cut_2 :: .row b7 1 [iv (y37_7)] :: .row b6 1 [v18_2] :: F4) rfl (zB (zS (T.drawE (l1 := [0, 1, 3, 4]) (l2 := [2, 5, 6, 7]) (by kernel_rfl) (by kernel_rfl) (yR R4 (Val.load_rowM hu3_t8 M4 ⟨_, rfl, rfl⟩ rfl rfl rfl) (yR R4 (Val.load_rowM hu4_t19 M4 ⟨_, rfl, rfl⟩ rfl rfl rfl) (yR R4 (Val.load_rowM hu3_t13 M4 ⟨_, rfl, rfl⟩ rfl rfl rfl) (yL R4 (Val.move rfl) (TD1.over (fun v => sameC_refl v) (all_cons (⟨_, rfl, (Val.load_rowM hu3_t13 M4 ⟨_, rfl, rfl⟩ rfl rfl rfl)⟩) (all_cons (⟨_, rfl, (Val.load_rowM hu4_t19 M4 ⟨_, rfl, rfl⟩ rfl rfl rfl)⟩) (all_cons (⟨_, rfl, (Val.load_rowM hu3_t8 M4 ⟨_, rfl, rfl⟩ rfl rfl rfl)⟩) all_nil))) ?_))))))));obtain ⟨y61, hr61, h⟩ := andx_some h;refine TD2.heavy (fun v => sameC_refl v) rfl (by decide) rfl rfl (OpS.callV rfl rfl rfl rfl (orcN rfl) (RepF.conv (tf_c_there aD (Rdl.mono h_b_Gatherings M4) (Rdl.mono h_one M4) (Rdl.mono (Rdl.gs (C := F4) y25_3) M4) (Rdl.mono hu3_t7 M4) (M4 _ hu3_t6) (Rdl.mono h_t M4) hr61))) ?_;rintro w61 _ ⟨w61, rfl, rfl⟩;refine ⟨(all_cons (.inr ⟨_, rfl, (Val.load_rowM hu3_t13 M5 ⟨_, rfl, rfl⟩ rfl rfl rfl)⟩) (all_cons (.inl (by kernel_rfl)) (all_cons (.inl (by kernel_rfl)) all_nil))), all_nil, ?_⟩;refine yG (_::_::_::_::_::F4) rfl ?_;obtain ⟨y64, hr64, h⟩ := andx_some h;refine TD2.heavy (fun v => sameC_refl v) rfl (by decide) rfl rfl (OpS.callV rfl rfl rfl rfl (orcN rfl) (RepF.conv (tf_c_there aD (Rdl.mono h_b_Gatherings M5) (Rdl.mono h_other M5) (Rdl.mono (Rdl.gs (C := F4) y37_3) M5) (Rdl.mono hu3_t12 M5) (M5 _ hu3_t11) (Rdl.mono h_t_2 M5) hr64))) ?_;rintro w64 _ ⟨w64, rfl, rfl⟩;refine ⟨(all_cons (.inl (by kernel_rfl)) (all_cons (.inl (by kernel_rfl)) (all_cons (.inl (by kernel_rfl)) all_nil))), all_nil, ?_⟩;refine yG (_::_::_::_::_::_::F4) rfl (yM R4 (Val.assign rfl) (yM R4 (Val.assign rfl) (TD2.nil (zU rfl (zV R3 (Val.load_rowM hu3_t8 M6 ⟨_, rfl, rfl⟩ rfl rfl rfl) (zV R3 (Val.nil_ptr rfl) (zF 4 R6 (zV R3 (Val.load_rowM hu3_t6 M6 ⟨_, rfl, rfl⟩ rfl rfl rfl) (zV R3 (Val.len_l hu3_t7 M6 rfl rfl) (zM R4 (zN (zB ?_))))))))))))
       show T _ _ _ _ _ _;apply T.iter (r := ans) (W := AV) (fun j w => ⟨[], [(6, .ptr b6 0 1), (7, .ptr b7 0 1), (17, .map w61), (18, .map w64), (68, w25_2), (69, iv ((y25_4.length : Int))), (70, iv (j.1))], .cnt w64 KInt (cntI y64) [] :: .cnt w61 KInt (cntI y61) [] :: LB4 :: ownL true w encI j.2 :: .row b7 1 [iv (y37_7)] :: .row b6 1 [w] :: F4⟩) (w0 := v18_2) h
       ·exact (sb .refl)
       rintro ⟨x70, cut_3⟩ v18_3 a h;unfold P_c_Divided_L5 at h;dsimp only at h;dsimp only;refine zU rfl ?_;obtain ⟨c71, hc71⟩ := zY (x70 < (y25_4.length : Int));refine zV R3 (Val.lss hc71 rfl rfl) (zN (zS ?_));obtain ⟨rfl, hc71, h⟩ | ⟨rfl, hc71, h⟩ := zI hc71 h
       ·refine zC rfl (zK ?_)
        show T _ _ _ _ _ _;apply T.join (r := a) (W := AV) (fun j w => ⟨[], [(6, .ptr b6 0 1), (7, .ptr b7 0 1), (17, .map w61), (18, .map w64), (68, w25_2), (69, iv ((y25_4.length : Int))), (70, iv (x70))], .cnt w64 KInt (cntI y64) [] :: .cnt w61 KInt (cntI y61) [] :: LB4 :: ownL true w encI j :: .row b7 1 [iv (y37_7)] :: .row b6 1 [w] :: F4⟩) h
        ·intro j h;refine zB (zU rfl (zM R4 ?_));obtain ⟨a73, hia73, ea73, h⟩ := el_some h;refine TO.fact (rdl_at hu3_t7 M6 hia73 ea73) (fun hp=>?_);obtain ⟨pa73, hpa73, hva73⟩ := hp;refine zV R3 (hva73 ⟨rfl, rfl⟩ rfl rfl) (zV R3 (Val.load_e hpa73 M6 ⟨_, rfl, rfl⟩ rfl rfl) (zA R4 (zA R4 (zN (zB ?_)))))
         show T _ _ _ _ _ _;apply T.joinA (r := j) (W := Unit) (fun j w => ⟨[], [(6, .ptr b6 0 1), (7, .ptr b7 0 1), (17, .map w61), (18, .map w64), (19, iv (x70)), (20, iv (a73)), (68, w25_2), (69, iv ((y25_4.length : Int))), (70, iv (x70)), (75, bv j)], .cnt w64 KInt (cntI y64) [] :: .cnt w61 KInt (cntI y61) [] :: LB4 :: ownL true v18_3 encI cut_3 :: .row b7 1 [iv (y37_7)] :: .row b6 1 [v18_3] :: F4⟩) h
         ·intro j h;refine zT rfl (zM R4 (zM R4 (zV R3 (Val.lookupI (p := 1) rfl rfl key_ty3 rfl rfl rfl) ?_)));obtain ⟨c79, hc79⟩ := zY ((y61 x70) > 0);refine zV R3 (Val.gtr hc79 rfl rfl) (zM R4 ?_);obtain ⟨rfl, hc79, h⟩ | ⟨rfl, hc79, h⟩ := zI hc79 h
          ·refine zM R4 (zM R4 (zV R3 (Val.lookupI (p := 0) rfl rfl key_ty3 rfl rfl rfl) ?_));obtain ⟨c84, hc84⟩ := zY ((y64 x70) > 0);refine zV R3 (Val.gtr hc84 rfl rfl) (zP R6 (zA R4 (zN ?_)));subst hc84;cases h;exact ⟨rfl, (), (sb .refl)⟩
          refine zO R3 (zO R3 (zO R3 (zO R3 (zP R6 (zA R4 (zN ?_))))));cases h;exact ⟨rfl, (), (sb .refl)⟩
         ·rintro x75 _ h;obtain ⟨rfl, h⟩ | ⟨rfl, h⟩ := zZ h
          ·refine zC rfl (zU rfl (TO.eff0 rfl rfl (Eff.store_row (p := 5) (cv := [_]) (cells' := [_]) rfl rfl rfl rfl rfl rfl rfl rfl aG (by decide) rfl) ?_));rintro _ rfl;refine zG (_::_::_::_::_::_::F4) rfl (TO.eff0 rfl rfl (Eff.store_row (p := 4) (cv := [_]) (cells' := [_]) rfl rfl rfl rfl rfl rfl rfl rfl aG (by decide) rfl) ?_);rintro _ rfl;refine zG (_::_::_::_::_::_::F4) rfl (zN (T.nilown (u := encI.u) (zR ?_)));cases h;exact ⟨ret_ne, ⟨ret_ne, ⟨_, [ownL true v18_3 encI cut_3, .row b7 1 [iv (5)], .row b6 1 [nilS], ownL true nilS encI []], rfl, rfl, (pk [3,3,3,3,0,98,98] rfl), fun d => ⟨_, [ownL true v18_3 encI cut_3, .row b7 1 [iv (5)], .row b6 1 [nilS], ownL true nilS encI []], rfl, rfl, (pk [6,0,0,0,0,98,98] rfl), fun d => ⟨ret_ne, ⟨rfl, _, ⟨0, rfl, rfl⟩, [_, _], ⟨⟨_, rfl, LoadR.row (p := 2) rfl ⟨_, rfl, rfl⟩ rfl rfl⟩, ⟨⟨_, rfl, LoadR.row (p := 1) rfl ⟨_, rfl, rfl⟩ rfl rfl⟩, trivial⟩⟩, ⟨nilS, rfl, (pk [3,98,98,98,98,98,98,98,98,98,98,98] rfl)⟩⟩⟩⟩⟩⟩⟩
          refine zD rfl ?_
          show T _ _ _ _ _ _;apply T.joinA (r := j) (W := Unit) (fun j w => ⟨[], [(6, .ptr b6 0 1), (7, .ptr b7 0 1), (17, .map w61), (18, .map w64), (19, iv (x70)), (68, w25_2), (69, iv ((y25_4.length : Int))), (70, iv (x70)), (86, bv j)], .cnt w64 KInt (cntI y64) [] :: .cnt w61 KInt (cntI y61) [] :: LB4 :: ownL true v18_3 encI cut_3 :: .row b7 1 [iv (y37_7)] :: .row b6 1 [v18_3] :: F4⟩) h
          ·intro j h;refine zT rfl (zM R4 (zM R4 (zV R3 (Val.lookupI (p := 1) rfl rfl key_ty3 rfl rfl rfl) ?_)));obtain ⟨c90, hc90⟩ := zY ((y61 x70) > 0);refine zV R3 (Val.gtr hc90 rfl rfl) (zM R4 ?_);obtain ⟨rfl, hc90, h⟩ | ⟨rfl, hc90, h⟩ := zI hc90 h
           ·refine zM R4 ?_;obtain ⟨c93, hc93⟩ := zY (a73 ≥ 0);refine zV R3 (Val.geq hc93 rfl rfl) (zP R6 (zM R4 ?_));obtain ⟨rfl, hc93, h⟩ | ⟨rfl, hc93, h⟩ := zI hc93 h
            ·refine zM R4 (zM R4 (zV R3 (Val.lookupI (p := 0) rfl rfl key_ty3 rfl rfl rfl) ?_));obtain ⟨c99, hc99⟩ := zY ((y64 a73) > 0);refine zV R3 (Val.gtr hc99 rfl rfl) (zP R6 (zA R4 (zN ?_)));subst hc99;cases h;exact ⟨rfl, (), (sb .refl)⟩
            refine zO R3 (zO R3 (zO R3 (zO R3 (zP R6 (zA R4 (zN ?_))))));cases h;exact ⟨rfl, (), (sb .refl)⟩
           refine zO R3 (zO R3 (zP R6 (zM R4 (zO R3 (zO R3 (zO R3 (zO R3 (zP R6 (zA R4 (zN ?_))))))))));cases h;exact ⟨rfl, (), (sb .refl)⟩
          ·rintro x86 _ h;obtain ⟨rfl, h⟩ | ⟨rfl, h⟩ := zZ h
           ·refine zC rfl (zT rfl (zL 5 R3 R6 (zM R4 (TO.build1 (en := encI) (a := x70) rfl rfl rfl ⟨rfl, rfl⟩ ⟨_, rfl, rfl⟩ (by decide) (by decide) rfl rfl (fun v103=>?_)))));obtain ⟨hk104, h⟩ := chk_some h;refine TO.eff rfl rfl rfl (Eff.append_own (b := 8) (en := encI) (l := cut_3) (l2 := [x70]) (p := 4) (q := 0) ⟨rfl, rfl, rfl, ⟨_, rfl, rfl⟩, by decide, by decide⟩ rfl rfl rfl rfl rfl rfl (flat_ones _) (by decide) hk104) ?_;rintro v104 _ rfl;refine zG (_::_::_::_::_::_::_::F4) rfl (TO.fact (own_cellS (p := 4) rfl) (fun hot18=>TO.eff0 rfl rfl (Eff.store_row (p := 6) (cv := [_]) (cells' := [_]) rfl rfl rfl rfl rfl hot18.1 rfl rfl (by first | rfl | (simp [GS.one, hot18.2]; done)) (by decide) rfl) ?_));rintro _ rfl;refine zG (_::_::_::_::_::_::_::F4) rfl (zN ?_);cases h;exact ⟨rfl, v104, (sb (pk [1,1,1,1,1,1,98] rfl))⟩
           refine zD rfl (zK ?_);cases h;exact ⟨rfl, v18_3, (sb .refl)⟩
        ·rintro cut_4 v18_4 h;refine zT rfl ?_;obtain ⟨hk105, h⟩ := chk_some h;refine zV R3 (Val.add rfl rfl hk105) (zM R4 (zN ?_));cases h;exact ⟨rfl, v18_4, (sb .refl)⟩
       refine zD rfl (zE ?_);cases h;exact ⟨ex_ne, ⟨rfl, v18_3, (pk [2,2,2,2,98,98] rfl)⟩⟩
      ·rintro cut_2 v18_2 h;cases h;exact ⟨rfl, v18_2, (pk [5,0,0,0,98,98] rfl)⟩
     ·rintro d cut v18 h;cases h;exact ⟨rfl, (d, v18), (sb (pk [0,0,0,0,1,1,1,1,1,1,1,98] rfl))⟩
    ·rintro cut ⟨iddfr3, v18⟩ h;dsimp only;refine zU rfl (zL 3 R3 R6 (TO.fact (own_cellS (p := 1) rfl) (fun hot18=>TO.eff0 rfl rfl (Eff.store_row (p := 3) (cv := [_]) (cells' := [_]) rfl rfl rfl rfl rfl hot18.1 rfl rfl (by first | rfl | (simp [GS.one, hot18.2]; done)) (by decide) rfl) ?_)));rintro _ rfl;refine zG (_::_::_::_::_::_::_::_::_::_::_::C) rfl (TO.eff0 rfl rfl (Eff.store_row (p := 2) (cv := [_]) (cells' := [_]) rfl rfl rfl rfl rfl rfl rfl rfl aG (by decide) rfl) ?_);rintro _ rfl;refine zG (_::_::_::_::_::_::_::_::_::_::_::C) rfl (zN (zR ?_));cases h;exact ⟨rfl, _, ⟨0, rfl, rfl⟩, [_, _], ⟨⟨_, rfl, LoadR.row (p := 2) rfl ⟨_, rfl, rfl⟩ rfl rfl⟩, ⟨⟨_, rfl, LoadR.row (p := 1) rfl ⟨_, rfl, rfl⟩ rfl rfl⟩, trivial⟩⟩, ⟨v18, rfl, (pk [0,98,98,98,98,98,98,98,98,98] rfl)⟩⟩
theorem w_c_Divided (b_Signed : Int) (b_Gatherings : GS encG) (one : GS encIt) (other : GS encIt) (r : (List Int) × Int) (h : P_c_Divided b_Signed b_Gatherings.l one.l other.l = some r) : Comes (EL 5) 11 [.agg [iv (b_Signed), b_Gatherings.v], one.v, other.v] (.tuple [(GSo true encI r.1).v, iv r.2]) :=
 TF.run (tf_c_Divided (Nat.le_refl _) (RdT.gs b_Gatherings) (RdT.gs one) (RdT.gs other) h) fun w => (.tuple (.cons (.ownL (en := encI) (p := 0) rfl (.lits encI_lits)) (.cons .lit .nil)))
end Go.Am.Ythckcbfijdambaa
end
section
namespace Go.Am
set_option linter.unusedVariables false
noncomputable def P_r4_Check_L1 (c_Items : List Item) (all33 : List Leaf) : Int → Option (Stp Int (Ex Unit (Int × Int × Int))) := fun i =>
  if i < (c_Items.length : Int) then
    el c_Items i fun a49 =>
    andx (P_r4_item a49.could.l (all33.length : Int)) fun y52 =>
      if ¬ y52 = 0 then
        some (Stp.dn (Ex.rt (2, i, y52)))
      else
        chk (I64 (i + 1)) (
          some (Stp.ag (i + 1)))
  else
    some (Stp.dn (Ex.nx ()))
noncomputable def P_r4_Check_L2 (c_Items : List Item) : (Int × Int) → Option (Stp (Int × Int) (Ex Unit (Int × Int × Int))) := fun (doubts, i) =>
  if i < (c_Items.length : Int) then
    seqx (
      andx (
        el c_Items i fun a67 =>
        if (a67.could.l.length : Int) > 1 then
          chk (I64 (doubts + 1)) (
            some (doubts + 1))
        else
          some doubts) fun doubts_2 =>
        if doubts_2 > 3 then
          some (Ex.rt (Stp.dn (Ex.rt (3, i, 3))))
        else
          some (Ex.nx doubts_2)) fun doubts_2 =>
      chk (I64 (i + 1)) (
        some (Stp.ag (doubts_2, (i + 1))))
  else
    some (Stp.dn (Ex.nx ()))
noncomputable def P_r4_Check (c_Book_Signed : Int) (c_Book_Gatherings : List Gat) (c_Items : List Item) : Option (Int × Int × Int) :=
  andx (P_r1_Check c_Book_Signed c_Book_Gatherings) fun (part15, at_15, e15) =>
    andx (
      andx (
        if e15 = 0 then
          andx (P_r1_All c_Book_Signed c_Book_Gatherings) fun all24 =>
            some (decide ((all24.length : Int) > 120))
        else
          some false) fun x27 =>
        if x27 = true then
          some 3
        else
          some e15) fun e =>
      if ¬ e = 0 then
        some (1, 0, e)
      else
        andx (P_r1_All c_Book_Signed c_Book_Gatherings) fun all33 =>
          if (c_Items.length : Int) > 120 then
            some (2, 0, 3)
          else
            seqx (
              iter (P_r4_Check_L1 c_Items all33) 0) fun _ =>
              seqx (
                iter (P_r4_Check_L2 c_Items) (0, 0)) fun _ =>
                some (0, 0, 0)
end Go.Am
end
section
namespace Go.Am.Ythckcbfijdambaa
open Go.Am Go.RowKit
set_option linter.unusedVariables false
set_option linter.unusedSimpArgs false
set_option maxRecDepth 10000 in
theorem tf_r4_Check {k : Nat} (hk : 4 ≤ k) {C : List Thing} {c_Book_Signed : Int} {v_c_Book_Gatherings : AV} {c_Book_Gatherings : List Gat} {v_c_Items : AV} {c_Items : List Item} (ht_c_Book_Gatherings : RdT encG v_c_Book_Gatherings c_Book_Gatherings) (ht_c_Items : RdT encIt v_c_Items c_Items) {r : Int × Int × Int} (h : P_r4_Check c_Book_Signed c_Book_Gatherings c_Items = some r) :
  TF (EL k) 41 [.agg [iv (c_Book_Signed), v_c_Book_Gatherings, v_c_Items]] C (RepF (fun (w : Unit) => .tuple [iv r.1, iv r.2.1, iv r.2.2]) (fun (w : Unit) => C)) := by
 unfold P_r4_Check at h
 have h_c_Book_Gatherings : Rdl C encG v_c_Book_Gatherings c_Book_Gatherings := RdT.rdl ht_c_Book_Gatherings
 have h_c_Items : Rdl C encIt v_c_Items c_Items := RdT.rdl ht_c_Items;refine TF.enter (fn := Go.Proofs.Try.f41) rfl rfl rfl rfl rfl (zU rfl (zQ 3 [_,_,_] R7 (fun b1=>zA R4 (zA R4 (zA R4 (zN (zU rfl (zF 0 R6 (zV R3 (vW 0 [_,_] R5 R4) ?_)))))))));obtain ⟨⟨part15, at_15, e15⟩, hr15, h⟩ := andx_some h;dsimp only at h;obtain ⟨g, hgg, hrg⟩ := Rdl.reif (hs := .row b1 3 [iv (c_Book_Signed), v_c_Book_Gatherings, v_c_Items] :: C) h_c_Book_Gatherings M1 (ReifL.flat encG_tr);refine TO.call rfl rfl rfl rfl rfl (orcL rfl aD) (.cons (.agg (.cons .lit (.cons (hrg _) .nil))) .nil) (sem_of (w_r1_Check c_Book_Signed g _ (by try rw [hgg]; exact hr15))) (zM R4 (zX R5 (zX R5 (zX R5 (zA R4 (zA R4 (zA R4 (zN ?_))))))))
 show T _ _ _ _ _ _;apply T.joinA (r := r) (W := Unit) (fun j w => ⟨[], [(1, .ptr b1 0 3), (7, iv (j))], .row b1 3 [iv (c_Book_Signed), v_c_Book_Gatherings, v_c_Items] :: C⟩) h
 ·intro j h
  show T _ _ _ _ _ _;apply T.joinA (r := j) (W := Unit) (fun j w => ⟨[], [(1, .ptr b1 0 3), (7, iv (e15)), (27, bv j)], .row b1 3 [iv (c_Book_Signed), v_c_Book_Gatherings, v_c_Items] :: C⟩) h
  ·intro j h;refine zT rfl (zM R4 ?_);obtain ⟨c20, hc20⟩ := zY (e15 = 0);refine zV R3 (Val.eql hc20 rfl rfl) (zM R4 ?_);obtain ⟨rfl, hc20, h⟩ | ⟨rfl, hc20, h⟩ := zI hc20 h
   ·refine zF 0 R6 (zV R3 (vW 0 [_,_] R5 R4) ?_);obtain ⟨all24, hr24, h⟩ := andx_some h;obtain ⟨g_2, hgg_2, hrg_2⟩ := Rdl.reif (hs := .row b1 3 [iv (c_Book_Signed), v_c_Book_Gatherings, v_c_Items] :: C) h_c_Book_Gatherings M1 (ReifL.flat encG_tr);refine TO.call rfl rfl rfl rfl rfl (orcL rfl aD) (.cons (.agg (.cons .lit (.cons (hrg_2 _) .nil))) .nil) (sem_of (w_r1_All c_Book_Signed g_2 _ (by try rw [hgg_2]; exact hr24))) (zV R3 (Val.len_gs rfl rfl) ?_);obtain ⟨c26, hc26⟩ := zY ((all24.length : Int) > 120);refine zV R3 (Val.gtr hc26 rfl rfl) (zP R6 (zN ?_));subst hc26;cases h;exact ⟨rfl, (), (sb .refl)⟩
   refine zO R3 (zO R3 (zO R3 (zO R3 (zO R3 (zP R6 (zN ?_))))));cases h;exact ⟨rfl, (), (sb .refl)⟩
  ·rintro x27 _ h;obtain ⟨rfl, h⟩ | ⟨rfl, h⟩ := zZ h
   ·refine zC rfl (zT rfl (zA R4 (zN ?_)));cases h;exact ⟨rfl, (), (sb .refl)⟩
   refine zD rfl (zK ?_);cases h;exact ⟨rfl, (), (sb .refl)⟩
 ·rintro e _ h;refine zS (zU rfl (zM R4 ?_));obtain ⟨c29, hc29⟩ := zY (¬ e = 0);refine zV R3 (Val.neq hc29 rfl rfl) (zN ?_);obtain ⟨rfl, hc29, h⟩ | ⟨rfl, hc29, h⟩ := zI hc29 h
  ·refine zC rfl (zU rfl (zM R4 (zA R4 (zA R4 (zA R4 (zN (zR ?_)))))));cases h;exact ⟨rfl, _, rfl, ⟨(), rfl, (pk [98] rfl)⟩⟩
  refine zD rfl (zK (zU rfl (zF 0 R6 (zV R3 (vW 0 [_,_] R5 R4) ?_))));obtain ⟨all33, hr33, h⟩ := andx_some h;obtain ⟨g_2, hgg_2, hrg_2⟩ := Rdl.reif (hs := .row b1 3 [iv (c_Book_Signed), v_c_Book_Gatherings, v_c_Items] :: C) h_c_Book_Gatherings M1 (ReifL.flat encG_tr);refine TO.call rfl rfl rfl rfl rfl (orcL rfl aD) (.cons (.agg (.cons .lit (.cons (hrg_2 _) .nil))) .nil) (sem_of (w_r1_All c_Book_Signed g_2 _ (by try rw [hgg_2]; exact hr33))) (zV R3 (Val.len_gs rfl rfl) (zA R4 (zN (zS (zU rfl (zF 2 R6 (zL 0 R3 R6 (zV R3 (Val.len_l h_c_Items M1 rfl rfl) ?_))))))));obtain ⟨c38, hc38⟩ := zY ((c_Items.length : Int) > 120);refine zV R3 (Val.gtr hc38 rfl rfl) (zN ?_);obtain ⟨rfl, hc38, h⟩ | ⟨rfl, hc38, h⟩ := zI hc38 h
  ·refine zC rfl (zU rfl (zA R4 (zA R4 (zA R4 (zN (zR ?_))))));cases h;exact ⟨rfl, _, rfl, ⟨(), rfl, (pk [98] rfl)⟩⟩
  refine zD rfl (zK ?_)
  show T _ _ _ _ _ _;apply T.join (r := r) (W := Unit) (fun j w => ⟨[], [(1, .ptr b1 0 3)], .row b1 3 [iv (c_Book_Signed), v_c_Book_Gatherings, v_c_Items] :: C⟩) h
  ·intro j h;refine zU rfl (zA R4 (zN (zB ?_)))
   show T _ _ _ _ _ _;apply T.iter (r := j) (W := Unit) (fun j w => ⟨[], [(1, .ptr b1 0 3), (8, iv ((all33.length : Int))), (9, iv (j))], .row b1 3 [iv (c_Book_Signed), v_c_Book_Gatherings, v_c_Items] :: C⟩) (w0 := ()) h
   ·exact (sb .refl)
   rintro i _ a h;unfold P_r4_Check_L1 at h;refine zS (zU rfl (zM R4 (zF 2 R6 (zL 0 R3 R6 (zV R3 (Val.len_l h_c_Items M1 rfl rfl) ?_)))));obtain ⟨c43, hc43⟩ := zY (i < (c_Items.length : Int));refine zV R3 (Val.lss hc43 rfl rfl) (zN ?_);obtain ⟨rfl, hc43, h⟩ | ⟨rfl, hc43, h⟩ := zI hc43 h
   ·refine zC rfl (zK (zS (zB (zU rfl (zF 2 R6 (zL 0 R3 R6 (zM R4 ?_)))))));obtain ⟨a49, hia49, ea49, h⟩ := el_some h;refine TO.fact (rdl_at h_c_Items M1 hia49 ea49) (fun hp=>?_);obtain ⟨pa49, hpa49, hva49⟩ := hp;refine zV R3 (hva49 ⟨rfl, rfl⟩ rfl rfl) (zV R3 (Val.load_es (c := [_]) hpa49 M1 ⟨⟨_, rfl, rfl⟩, rfl, by decide⟩ rfl rfl rfl) (zM R4 ?_));obtain ⟨y52, hr52, h⟩ := andx_some h;refine TO.callT (first := []) (cap := []) (vs := [.agg [a49.could.v], iv ((all33.length : Int))]) rfl rfl rfl rfl rfl rfl (orcN rfl) (tf_r4_item aD (Rdl.mono (Rdl.gs (C := C) a49.could) M1) hr52) ?_;rintro _;refine zG (_::C) rfl (zA R4 (zN (zU rfl (zM R4 ?_))));obtain ⟨c54, hc54⟩ := zY (¬ y52 = 0);refine zV R3 (Val.neq hc54 rfl rfl) (zN ?_);obtain ⟨rfl, hc54, h⟩ | ⟨rfl, hc54, h⟩ := zI hc54 h
    ·refine zC rfl (zU rfl (zM R4 (zM R4 (zA R4 (zA R4 (zA R4 (zN (zR ?_))))))));cases h;exact ⟨ret_ne, ⟨ret_ne, ⟨rfl, _, rfl, ⟨(), rfl, (pk [98] rfl)⟩⟩⟩⟩
    refine zD rfl (zK (zT rfl (zM R4 ?_)));obtain ⟨hk45, h⟩ := chk_some h;refine zV R3 (Val.add rfl rfl hk45) (zA R4 (zN ?_));cases h;exact ⟨rfl, (), (sb .refl)⟩
   refine zD rfl (zE ?_);cases h;exact ⟨ex_ne, ⟨rfl, (), (sb .refl)⟩⟩
  ·rintro _ _ h;refine zU rfl (zA R4 (zN ?_))
   show T _ _ _ _ _ _;apply T.join (r := r) (W := Unit) (fun j w => ⟨[], [], .row b1 3 [iv (c_Book_Signed), v_c_Book_Gatherings, v_c_Items] :: C⟩) h
   ·intro j h;refine zU rfl (zA R4 (zN (zB ?_)))
    show T _ _ _ _ _ _;apply T.iter (r := j) (W := Unit) (fun j w => ⟨[], [(1, .ptr b1 0 3), (10, iv (j.1)), (11, iv (j.2))], .row b1 3 [iv (c_Book_Signed), v_c_Book_Gatherings, v_c_Items] :: C⟩) (w0 := ()) h
    ·exact (sb .refl)
    rintro ⟨doubts, i⟩ _ a h;unfold P_r4_Check_L2 at h;dsimp only at h;dsimp only;refine zS (zU rfl (zM R4 (zF 2 R6 (zL 0 R3 R6 (zV R3 (Val.len_l h_c_Items M1 rfl rfl) ?_)))));obtain ⟨c61, hc61⟩ := zY (i < (c_Items.length : Int));refine zV R3 (Val.lss hc61 rfl rfl) (zN ?_);obtain ⟨rfl, hc61, h⟩ | ⟨rfl, hc61, h⟩ := zI hc61 h
    ·refine zC rfl (zK ?_)
     show T _ _ _ _ _ _;apply T.join (r := a) (W := Unit) (fun j w => ⟨[], [(1, .ptr b1 0 3), (10, iv (j)), (11, iv (i))], .row b1 3 [iv (c_Book_Signed), v_c_Book_Gatherings, v_c_Items] :: C⟩) h
     ·intro j h;refine zB ?_
      show T _ _ _ _ _ _;apply T.joinA (r := j) (W := Unit) (fun j w => ⟨[], [(1, .ptr b1 0 3), (10, iv (j)), (11, iv (i))], .row b1 3 [iv (c_Book_Signed), v_c_Book_Gatherings, v_c_Items] :: C⟩) h
      ·intro j h;refine zU rfl (zF 2 R6 (zL 0 R3 R6 (zM R4 ?_)));obtain ⟨a67, hia67, ea67, h⟩ := el_some h;refine TO.fact (rdl_at h_c_Items M1 hia67 ea67) (fun hp=>?_);obtain ⟨pa67, hpa67, hva67⟩ := hp;refine zV R3 (hva67 ⟨rfl, rfl⟩ rfl rfl) (zV R3 (Val.faddr_e (fo := 0) hpa67 rfl rfl rfl) (zV R3 (Val.load_e (PtE.add hpa67 (by decide)) M1 ⟨_, rfl, rfl⟩ rfl rfl) (zV R3 (Val.len_gs rfl rfl) ?_)));obtain ⟨c71, hc71⟩ := zY ((a67.could.l.length : Int) > 1);refine zV R3 (Val.gtr hc71 rfl rfl) (zN ?_);obtain ⟨rfl, hc71, h⟩ | ⟨rfl, hc71, h⟩ := zI hc71 h
       ·refine zC rfl (zT rfl (zM R4 ?_));obtain ⟨hk73, h⟩ := chk_some h;refine zV R3 (Val.add rfl rfl hk73) (zA R4 (zN ?_));cases h;exact ⟨rfl, (), (sb .refl)⟩
       refine zD rfl (zK ?_);cases h;exact ⟨rfl, (), (sb .refl)⟩
      ·rintro doubts_2 _ h;refine zU rfl (zM R4 ?_);obtain ⟨c75, hc75⟩ := zY (doubts_2 > 3);refine zV R3 (Val.gtr hc75 rfl rfl) (zN ?_);obtain ⟨rfl, hc75, h⟩ | ⟨rfl, hc75, h⟩ := zI hc75 h
       ·refine zC rfl (zU rfl (zM R4 (zA R4 (zA R4 (zA R4 (zN (zR ?_)))))));cases h;exact ⟨ret_ne, ⟨ret_ne, ⟨ret_ne, ⟨rfl, _, rfl, ⟨(), rfl, (pk [98] rfl)⟩⟩⟩⟩⟩
       refine zD rfl (zK ?_);cases h;exact ⟨rfl, (), (sb .refl)⟩
     ·rintro doubts_2 _ h;refine zT rfl (zM R4 ?_);obtain ⟨hk63, h⟩ := chk_some h;refine zV R3 (Val.add rfl rfl hk63) (zA R4 (zN ?_));cases h;exact ⟨rfl, (), (sb .refl)⟩
    refine zD rfl (zE ?_);cases h;exact ⟨ex_ne, ⟨rfl, (), (sb .refl)⟩⟩
   ·rintro _ _ h;refine zU rfl (zA R4 (zA R4 (zA R4 (zN (zR ?_)))));cases h;exact ⟨rfl, _, rfl, ⟨(), rfl, (pk [98] rfl)⟩⟩
theorem w_r4_Check (c_Book_Signed : Int) (c_Book_Gatherings : GS encG) (c_Items : GS encIt) (r : Int × Int × Int) (h : P_r4_Check c_Book_Signed c_Book_Gatherings.l c_Items.l = some r) : Comes (EL 4) 41 [.agg [iv (c_Book_Signed), c_Book_Gatherings.v, c_Items.v]] (.tuple [iv r.1, iv r.2.1, iv r.2.2]) :=
 TF.run (tf_r4_Check (Nat.le_refl _) (RdT.gs c_Book_Gatherings) (RdT.gs c_Items) h) fun w => (.tuple (.cons .lit (.cons .lit (.cons .lit .nil))))
end Go.Am.Ythckcbfijdambaa
end
section
namespace Go.Am
set_option linter.unusedVariables false
end Go.Am
end
section
namespace Go.Am.Ythckcbfijdambaa
open Go.Am Go.RowKit
set_option linter.unusedVariables false
set_option linter.unusedSimpArgs false
end Go.Am.Ythckcbfijdambaa
end
section
namespace Go.Am
set_option linter.unusedVariables false
end Go.Am
end
section
namespace Go.Am.Ythckcbfijdambaa
open Go.Am Go.RowKit
set_option linter.unusedVariables false
set_option linter.unusedSimpArgs false
end Go.Am.Ythckcbfijdambaa
end
section
namespace Go.Am
set_option linter.unusedVariables false
noncomputable def P_l_valid (c_Book_Signed : Int) (c_Book_Gatherings : List Gat) (c_Items : List Item) : Option Bool :=
 andx (P_r4_Check c_Book_Signed c_Book_Gatherings c_Items) fun (y8, y8_2, y8_3) =>
  some (decide (y8_3 = 0))
noncomputable def P_l_whole (b_Signed : Int) (b_Gatherings : List Gat) : Option Bool :=
 andx (P_l_valid b_Signed b_Gatherings []) fun y5 =>
  some y5
noncomputable def P_l_full_L1 (all7 : List Leaf) : (Int × (List (List Int))) → Option (Stp (Int × (List (List Int))) (List (List Int))) := fun (i, out) =>
  if i < (all7.length : Int) then
    chk (out.length + [[i]].length < 1000000000) (
      chk (I64 (i + 1)) (
        some (Stp.ag ((i + 1), out ++ [[i]]))))
  else
    some (Stp.dn out)
noncomputable def P_l_full (b_Signed : Int) (b_Gatherings : List Gat) : Option (List (List Int)) :=
  andx (P_r1_All b_Signed b_Gatherings) fun all7 =>
    andx (
      iter (P_l_full_L1 all7) (0, ([] : List (List Int)))) fun out =>
      some out
noncomputable def P_law_CopyDivided_L1 (bits : List UInt8) (y37 : List (List Int)) : (Int × (List Item) × (List Item) × (List Int)) → Option (Stp (Int × (List Item) × (List Item) × (List Int)) ((List Int) × (List Item) × (List Item))) := fun (i, one, other, here) =>
  if i < ((List.map (fun x => (⟨GSo true encI x⟩ : Item)) y37).length : Int) then
    andx (
      andx (
        if (bits.length : Int) > 0 then
          chk (0 < (bits.length : Int)) (
            el bits (Int.tmod i (bits.length : Int)) fun a56 =>
            chk ((0 : Int) < 2) (
              some (decide ((Int.tmod (a56.toNat : Int) 2) = 1))))
        else
          some false) fun x60 =>
        if x60 = true then
          el (List.map (fun x => (⟨GSo true encI x⟩ : Item)) y37) i fun a64 =>
          chk (one.length + [a64].length < 1000000000) (
            el here i fun a70 =>
            some (one ++ [a64], other, List.set here i.toNat 1))
        else
          el (List.map (fun x => (⟨GSo true encI x⟩ : Item)) y37) i fun a74 =>
          chk (other.length + [a74].length < 1000000000) (
            some (one, other ++ [a74], here))) fun (one_2, other_2, here_2) =>
      chk (I64 (i + 1)) (
        some (Stp.ag ((i + 1), one_2, other_2, here_2)))
  else
    some (Stp.dn (here, one, other))
noncomputable def P_law_CopyDivided_L2 (b_Signed : Int) (b_Gatherings : List Gat) (y37 : List (List Int)) (here : List Int) (y82 : List Int) : Int → Option (Stp Int (Ex Unit Bool)) := fun i =>
  if i < ((List.map (fun x => (⟨GSo true encI x⟩ : Item)) y37).length : Int) then
    seqx (
      andx (P_r1_Pair b_Signed b_Gatherings i) fun mate95 =>
        andx (
          el here i fun a101 =>
          andx (P_r1_Has y82 i) fun has98 =>
            if a101 = 1 then
              if mate95 ≥ 0 then
                el here mate95 fun a111 =>
                some (decide (¬ (has98 = (decide (a111 = 0)))))
              else
                some (decide (¬ (has98 = false)))
            else
              some (decide (¬ (has98 = false)))) fun x115 =>
          if x115 = true then
            some (Ex.rt (Stp.dn (Ex.rt false)))
          else
            some (Ex.nx ())) fun _ =>
      chk (I64 (i + 1)) (
        some (Stp.ag (i + 1)))
  else
    some (Stp.dn (Ex.nx ()))
noncomputable def P_law_CopyDivided_L3 (b_Signed : Int) (b_Gatherings : List Gat) (y37 : List (List Int)) (y122 : List Int) (y131 : List Int) : Int → Option (Stp Int (Ex Unit Bool)) := fun i =>
  if i < (y122.length : Int) then
    seqx (
      andx (
        el y122 i fun a163 =>
        if a163 < 0 then
          some true
        else
          el y122 i fun a169 =>
          if a169 ≥ ((List.map (fun x => (⟨GSo true encI x⟩ : Item)) y37).length : Int) then
            some true
          else
            el y122 i fun a180 =>
            andx (P_r1_Pair b_Signed b_Gatherings a180) fun mate182 =>
              andx (P_r1_Has y131 mate182) fun has183 =>
                some (!has183)) fun x185 =>
        if x185 = true then
          some (Ex.rt (Stp.dn (Ex.rt false)))
        else
          some (Ex.nx ())) fun _ =>
      chk (I64 (i + 1)) (
        some (Stp.ag (i + 1)))
  else
    some (Stp.dn (Ex.nx ()))
noncomputable def P_law_CopyDivided (b_Signed : Int) (b_Gatherings : List Gat) (x_One : List Item) (x_Other : List Item) (bits : List UInt8) : Option Bool :=
  andx (P_l_whole b_Signed b_Gatherings) fun y24 =>
    if y24 = true then
      andx (P_l_full b_Signed b_Gatherings) fun y37 =>
        chk (0 ≤ ((List.map (fun x => (⟨GSo true encI x⟩ : Item)) y37).length : Int) ∧ ((List.map (fun x => (⟨GSo true encI x⟩ : Item)) y37).length : Int) ≤ 1000000000) (
          andx (
            iter (P_law_CopyDivided_L1 bits y37) (0, [], [], List.replicate ((List.map (fun x => (⟨GSo true encI x⟩ : Item)) y37).length : Int).toNat (0 : Int))) fun (here, one, other) =>
            andx (P_c_Divided b_Signed b_Gatherings one other) fun (y82, y82_2) =>
              if ¬ y82_2 = 0 then
                some false
              else
                seqx (
                  iter (P_law_CopyDivided_L2 b_Signed b_Gatherings y37 here y82) 0) fun _ =>
                  andx (P_c_Divided b_Signed b_Gatherings x_One x_Other) fun (y122, y122_2) =>
                    andx (P_c_Divided b_Signed b_Gatherings x_Other x_One) fun (y131, y131_2) =>
                      if ¬ y122_2 = 0 then
                        andx (
                          if (y122.length : Int) = 0 then
                            if ¬ y131_2 = 0 then
                              some true
                            else
                              some false
                          else
                            some false) fun x6 =>
                          some x6
                      else
                        seqx (
                          andx (
                            if ¬ y131_2 = 0 then
                              some true
                            else
                              some (decide (¬ (y122.length : Int) = (y131.length : Int)))) fun x154 =>
                            if x154 = true then
                              some (Ex.rt false)
                            else
                              some (Ex.nx ())) fun _ =>
                          seqx (
                            iter (P_law_CopyDivided_L3 b_Signed b_Gatherings y37 y122 y131) 0) fun _ =>
                            some true)
    else
      andx (P_c_Divided b_Signed b_Gatherings [] []) fun (y28, y28_2) =>
        andx (
          if ¬ y28_2 = 0 then
            some true
          else
            some false) fun x6 =>
          some x6
end Go.Am
end
section
namespace Go.Am.Ythckcbfijdambaa
open Go.Am Go.RowKit
set_option linter.unusedVariables false
set_option linter.unusedSimpArgs false
set_option maxRecDepth 10000 in
theorem tf_l_valid {k : Nat} (hk : 5 ≤ k) {C : List Thing} {c_Book_Signed : Int} {v_c_Book_Gatherings : AV} {c_Book_Gatherings : List Gat} {v_c_Items : AV} {c_Items : List Item} (ht_c_Book_Gatherings : RdT encG v_c_Book_Gatherings c_Book_Gatherings) (ht_c_Items : RdT encIt v_c_Items c_Items) {r : Bool} (h : P_l_valid c_Book_Signed c_Book_Gatherings c_Items = some r) :
  TF (EL k) 29 [.agg [iv (c_Book_Signed), v_c_Book_Gatherings, v_c_Items]] C (RepF (fun (w : Unit) => bv r) (fun (w : Unit) => C)) := by
 unfold P_l_valid at h
 have h_c_Book_Gatherings : Rdl C encG v_c_Book_Gatherings c_Book_Gatherings := RdT.rdl ht_c_Book_Gatherings
 have h_c_Items : Rdl C encIt v_c_Items c_Items := RdT.rdl ht_c_Items;refine TF.enter (fn := Go.Proofs.Try.f29) rfl rfl rfl rfl rfl (zU rfl (zQ 3 [_,_,_] R7 (fun b1=>zA R4 (zN (zU rfl (zV R3 (vW 0 [_,_,_] R5 R4) ?_))))));obtain ⟨⟨y8, y8_2, y8_3⟩, hr8, h⟩ := andx_some h;dsimp only at h;obtain ⟨g, hgg, hrg⟩ := Rdl.reif (hs := .row b1 3 [iv (c_Book_Signed), v_c_Book_Gatherings, v_c_Items] :: C) h_c_Book_Gatherings M1 (ReifL.flat encG_tr);obtain ⟨g_2, hgg_2, hrg_2⟩ := Rdl.reif (hs := .row b1 3 [iv (c_Book_Signed), v_c_Book_Gatherings, v_c_Items] :: C) h_c_Items M1 (ReifL.flat encIt_tr);refine TO.call rfl rfl rfl rfl rfl (orcL rfl aD) (.cons (.agg (.cons .lit (.cons (hrg _) (.cons (hrg_2 _) .nil)))) .nil) (sem_of (w_r4_Check c_Book_Signed g g_2 _ (by try rw [hgg]; try rw [hgg_2]; exact hr8))) (zM R4 (zX R5 (zX R5 (zX R5 (zA R4 (zA R4 (zA R4 (zN (zU rfl (zM R4 ?_))))))))));obtain ⟨c13, hc13⟩ := zY (y8_3 = 0);refine zV R3 (Val.eql hc13 rfl rfl) (zA R4 (zN (zR ?_)));subst hc13;cases h;exact ⟨rfl, _, rfl, ⟨(), rfl, (pk [98] rfl)⟩⟩
theorem w_l_valid (c_Book_Signed : Int) (c_Book_Gatherings : GS encG) (c_Items : GS encIt) (r : Bool) (h : P_l_valid c_Book_Signed c_Book_Gatherings.l c_Items.l = some r) : Comes (EL 5) 29 [.agg [iv (c_Book_Signed), c_Book_Gatherings.v, c_Items.v]] (bv r) :=
 TF.run (tf_l_valid (Nat.le_refl _) (RdT.gs c_Book_Gatherings) (RdT.gs c_Items) h) fun w => .lit
set_option maxRecDepth 10000 in
theorem tf_l_whole {k : Nat} (hk : 6 ≤ k) {C : List Thing} {b_Signed : Int} {v_b_Gatherings : AV} {b_Gatherings : List Gat} (ht_b_Gatherings : RdT encG v_b_Gatherings b_Gatherings) {r : Bool} (h : P_l_whole b_Signed b_Gatherings = some r) :
  TF (EL k) 20 [.agg [iv (b_Signed), v_b_Gatherings]] C (RepF (fun (w : Unit) => bv r) (fun (w : Unit) => C)) := by
 unfold P_l_whole at h
 have h_b_Gatherings : Rdl C encG v_b_Gatherings b_Gatherings := RdT.rdl ht_b_Gatherings;refine TF.enter (fn := Go.Proofs.Try.f20) rfl rfl rfl rfl rfl (zU rfl (zQ 2 [_,_] R7 (fun b1=>zA R4 (zN (zU rfl (zV R3 (vW 0 [_,_] R5 R4) (zV R3 (Val.buildC (cs := [_, _, _]) (vs := [(_, _)]) (ws := [(_, [_, _])]) rfl rfl (CellsL.cons rfl CellsL.nil) rfl) ?_)))))));obtain ⟨y5, hr5, h⟩ := andx_some h;obtain ⟨g, hgg, hrg⟩ := Rdl.reif (hs := .row b1 2 [iv (b_Signed), v_b_Gatherings] :: C) h_b_Gatherings M1 (ReifL.flat encG_tr);refine TO.call rfl rfl rfl rfl rfl (orcL rfl aD) (.cons (.agg (.cons .lit (.cons (hrg _) (.cons .lit .nil)))) .nil) (sem_of (w_l_valid b_Signed g (GSo true encIt []) _ (by try rw [hgg]; exact hr5))) (zA R4 (zN (zR ?_)));cases h;exact ⟨rfl, _, rfl, ⟨(), rfl, (pk [98] rfl)⟩⟩
theorem w_l_whole (b_Signed : Int) (b_Gatherings : GS encG) (r : Bool) (h : P_l_whole b_Signed b_Gatherings.l = some r) : Comes (EL 6) 20 [.agg [iv (b_Signed), b_Gatherings.v]] (bv r) :=
 TF.run (tf_l_whole (Nat.le_refl _) (RdT.gs b_Gatherings) h) fun w => .lit
set_option maxRecDepth 10000 in
theorem tf_l_full {k : Nat} (hk : 2 ≤ k) {C : List Thing} {b_Signed : Int} {v_b_Gatherings : AV} {b_Gatherings : List Gat} (ht_b_Gatherings : RdT encG v_b_Gatherings b_Gatherings) {r : (List (List Int))} (h : P_l_full b_Signed b_Gatherings = some r) :
  TF (EL k) 21 [.agg [iv (b_Signed), v_b_Gatherings]] C (RepF (fun (w : AV × (List AV)) => w.1) (fun (w : AV × (List AV)) => nestH true w.1 r w.2 :: (seg encI w.2 r ++ C))) := by
 unfold P_l_full at h
 have h_b_Gatherings : Rdl C encG v_b_Gatherings b_Gatherings := RdT.rdl ht_b_Gatherings;refine TF.enter (fn := Go.Proofs.Try.f21) rfl rfl rfl rfl rfl (zU rfl (zQ 2 [_,_] R7 (fun b1=>zA R4 (zN (zU rfl (zA R4 (zN (zU rfl (zV R3 (vW 0 [_,_] R5 R4) ?_)))))))));obtain ⟨all7, hr7, h⟩ := andx_some h;obtain ⟨g, hgg, hrg⟩ := Rdl.reif (hs := .row b1 2 [iv (b_Signed), v_b_Gatherings] :: C) h_b_Gatherings M1 (ReifL.flat encG_tr);refine TO.call rfl rfl rfl rfl rfl (orcL rfl aD) (.cons (.agg (.cons .lit (.cons (hrg _) .nil))) .nil) (sem_of (w_r1_All b_Signed g _ (by try rw [hgg]; exact hr7))) (zV R3 (Val.len_gs rfl rfl) (zA R4 (zN ?_)))
 show T _ _ _ _ _ _;apply T.joinA (r := r) (W := AV × (List AV)) (fun j w => ⟨[], [(3, w.1)], nestH true w.1 j w.2 :: (seg encI w.2 j ++ C)⟩) h
 ·intro j h;refine zU rfl (zA R4 (zN (zB (T.nilown (u := 1) (T.things (hs' := nestH true nilS ([] : List (List Int)) [] :: .row b1 2 [iv (b_Signed), v_b_Gatherings] :: (seg encI [] ([] : List (List Int)) ++ C)) rfl ?_)))))
  show T _ _ _ _ _ _;apply T.iter (r := j) (W := AV × (List AV)) (fun j w => ⟨[], [(3, w.1), (4, iv ((all7.length : Int))), (5, iv (j.1))], nestH true w.1 j.2 w.2 :: (seg encI w.2 j.2 ++ C)⟩) (w0 := (nilS, [])) h
  ·exact (sb (pk [0,98] rfl))
  rintro ⟨i, out⟩ ⟨vn2, wsn2⟩ a h;unfold P_l_full_L1 at h;dsimp only at h;dsimp only;refine zS (zU rfl (zM R4 (zM R4 ?_)));obtain ⟨c11, hc11⟩ := zY (i < (all7.length : Int));refine zV R3 (Val.lss hc11 rfl rfl) (zN ?_);obtain ⟨rfl, hc11, h⟩ | ⟨rfl, hc11, h⟩ := zI hc11 h
  ·refine zC rfl (zK (zS (zB (zT rfl (zM R4 (zM R4 (TO.build1 (en := encI) (a := i) rfl rfl rfl ⟨rfl, rfl⟩ ⟨_, rfl, rfl⟩ (by decide) (by decide) rfl rfl (fun v16=>TO.fact (own_cellS (p := 0) rfl) (fun hot3=>zV R3 (Val.buildC (cs := [_]) (vs := [(_, _)]) (ws := [(_, [_])]) rfl rfl (CellsL.cons hot3.1 CellsL.nil) rfl) (TO.less (Less.ownTrue (p := 0) rfl (.inr (by simp))) (zG (_::_::(seg encI wsn2 out ++ C)) rfl (TO.fact (own_cellS (p := 0) rfl) (fun hot3=>TO.eff rfl rfl rfl (Eff.new (New.buildSlice (en := encAV) (l := [v16]) (vs := [(_, _)]) (ws := [(_, [_])]) ⟨rfl, rfl⟩ rfl rfl rfl rfl (CellsL.cons rfl CellsL.nil) rfl rfl)) ?_)))))))))))));rintro _ _ ⟨v18_2, rfl, rfl⟩;refine TO.less (Less.rowOwn (en := encAV) (l := [v16]) (p := 0) rfl) (zG (_::_::_::(seg encI wsn2 out ++ C)) rfl (TO.less (Pk.less (Pk.pick (p := 0) rfl (Pk.pick (p := 1) rfl (Pk.pick (p := 0) rfl Pk.refl)))) (zG (_::_::(seg encI [v16] [[i]] ++ (seg encI wsn2 out ++ C))) rfl ?_)));obtain ⟨hk19, h⟩ := chk_some h;refine TO.fact (nest_len (p := 1) rfl) (fun hl19=>TO.fact (nest_len (p := 0) rfl) (fun hm19=>TO.eff rfl rfl rfl (Eff.append_nest (b := 24) (ls := out) (ls2 := [[i]]) (p := 1) (q := 0) ⟨rfl, rfl, rfl, ⟨_, rfl, rfl⟩, by decide, by decide⟩ rfl rfl rfl rfl rfl rfl (seg_ones (en := encI) hm19 (fun x hx => M2 x (List.mem_append_left _ hx))) (by decide) hk19) ?_));rintro v19 _ rfl;refine zG ([nestH false (.slice v18_2 0 (List.flatMap encAV.f [v16]).length true (List.length [v16]) (List.length [v16])) [[i]] [v16], nestH true v19 (out ++ [[i]]) (wsn2 ++ [v16])] ++ (seg encI [v16] [[i]] ++ (seg encI wsn2 out ++ C))) rfl (TO.less (Less.cat [nestH false (.slice v18_2 0 (List.flatMap encAV.f [v16]).length true (List.length [v16]) (List.length [v16])) [[i]] [v16], nestH true v19 (out ++ [[i]]) (wsn2 ++ [v16])] hl19) (zG (_::_::(seg encI (wsn2 ++ [v16]) (out ++ [[i]]) ++ C)) rfl (zA R4 (zN (zT rfl (zM R4 ?_))))));obtain ⟨hk13, h⟩ := chk_some h;refine zV R3 (Val.add rfl rfl hk13) (zA R4 (zN ?_));cases h;exact ⟨rfl, (v19, wsn2 ++ [v16]), (sb (pk [1,98] rfl))⟩
  refine zD rfl (zE ?_);cases h;exact ⟨ex_ne, ⟨rfl, (vn2, wsn2), (sb .refl)⟩⟩
 ·rintro out ⟨vn2, wsn2⟩ h;dsimp only;refine zU rfl (zM R4 (zA R4 (zN (zR ?_))));cases h;exact ⟨rfl, _, rfl, ⟨(vn2, wsn2), rfl, .refl⟩⟩
theorem w_l_full (b_Signed : Int) (b_Gatherings : GS encG) (r : (List (List Int))) (h : P_l_full b_Signed b_Gatherings.l = some r) : Comes (EL 2) 21 [.agg [iv (b_Signed), b_Gatherings.v]] ((GSo true encIt (List.map (fun x => (⟨GSo true encI x⟩ : Item)) r)).v) :=
 TF.run (tf_l_full (Nat.le_refl _) (RdT.gs b_Gatherings) h) fun w => (.nestIt (p := 0) rfl (fun x hx => M1 x (List.mem_append_left _ hx)))
set_option maxRecDepth 10000 in
theorem tf_law_CopyDivided {k : Nat} (hk : 7 ≤ k) {C : List Thing} {b_Signed : Int} {v_b_Gatherings : AV} {b_Gatherings : List Gat} {v_x_One : AV} {x_One : List Item} {v_x_Other : AV} {x_Other : List Item} {v_bits : AV} {bits : List UInt8} (ht_b_Gatherings : RdT encG v_b_Gatherings b_Gatherings) (ht_x_One : RdT encIt v_x_One x_One) (ht_x_Other : RdT encIt v_x_Other x_Other) (ht_bits : RdT encU8 v_bits bits) {r : Bool} (h : P_law_CopyDivided b_Signed b_Gatherings x_One x_Other bits = some r) :
  TF (EL k) 10 [.agg [iv (b_Signed), v_b_Gatherings], .agg [v_x_One, v_x_Other], v_bits] C (RepF (fun (w : Unit) => bv r) (fun (w : Unit) => C)) := by
 unfold P_law_CopyDivided at h
 have h_b_Gatherings : Rdl C encG v_b_Gatherings b_Gatherings := RdT.rdl ht_b_Gatherings
 have h_x_One : Rdl C encIt v_x_One x_One := RdT.rdl ht_x_One
 have h_x_Other : Rdl C encIt v_x_Other x_Other := RdT.rdl ht_x_Other
 have h_bits : Rdl C encU8 v_bits bits := RdT.rdl ht_bits;refine TF.enter (fn := Go.Proofs.Try.f10) rfl rfl rfl rfl rfl (zU rfl (zQ 2 [_,_] R7 (fun b3=>zQ 2 [_,_] R7 (fun b4=>zA R4 (zN (zS (zU rfl (zV R3 (vW 1 [_,_] R5 R4) ?_))))))));obtain ⟨y24, hr24, h⟩ := andx_some h;obtain ⟨g, hgg, hrg⟩ := Rdl.reif (hs := .row b4 2 [v_x_One, v_x_Other] :: .row b3 2 [iv (b_Signed), v_b_Gatherings] :: C) h_b_Gatherings M2 (ReifL.flat encG_tr);refine TO.call rfl rfl rfl rfl rfl (orcL rfl aD) (.cons (.agg (.cons .lit (.cons (hrg _) .nil))) .nil) (sem_of (w_l_whole b_Signed g _ (by try rw [hgg]; exact hr24))) (zV R3 (Val.not rfl) (zN ?_));obtain ⟨rfl, h⟩ | ⟨rfl, h⟩ := zZ h
 ·refine zD rfl (zK (zU rfl (zA R4 (zA R4 (zN (zU rfl (zV R3 (vW 1 [_,_] R5 R4) ?_)))))));obtain ⟨y37, hr37, h⟩ := andx_some h;obtain ⟨g_2, hgg_2, hrg_2⟩ := Rdl.reif (hs := .row b4 2 [v_x_One, v_x_Other] :: .row b3 2 [iv (b_Signed), v_b_Gatherings] :: C) h_b_Gatherings M2 (ReifL.flat encG_tr);refine TO.call rfl rfl rfl rfl rfl (orcL rfl aD) (.cons (.agg (.cons .lit (.cons (hrg_2 _) .nil))) .nil) (sem_of (w_l_full b_Signed g_2 _ (by try rw [hgg_2]; exact hr37))) (zA R4 (zN (zU rfl (zM R4 (zV R3 (Val.len_gs rfl rfl) ?_)))));obtain ⟨hk40, h⟩ := chk_some h;refine TO.makeE (en := encI) (0) (b := 8) rfl rfl rfl ⟨rfl, rfl⟩ rfl rfl rfl rfl rfl hk40 (by decide) (fun v40=>zA R4 (zN ?_))
  show T _ _ _ _ _ _;apply T.joinA (r := r) (W := AV × AV) (fun j w => ⟨[], [(3, .ptr b3 0 2), (4, .ptr b4 0 2), (9, w.1), (10, w.2), (11, (GSo true encIt (List.map (fun x => (⟨GSo true encI x⟩ : Item)) y37)).v), (12, v40)], ownL true w.1 encIt j.2.1 :: ownL true w.2 encIt j.2.2 :: ownL false v40 encI j.1 :: .row b4 2 [v_x_One, v_x_Other] :: .row b3 2 [iv (b_Signed), v_b_Gatherings] :: C⟩) h
  ·intro j h;refine zU rfl (zA R4 (zN (zB (T.nilown (u := encIt.u) (T.nilown (u := encIt.u) ?_)))))
   show T _ _ _ _ _ _;apply T.iter (r := j) (W := AV × AV) (fun j w => ⟨[], [(2, v_bits), (3, .ptr b3 0 2), (4, .ptr b4 0 2), (9, w.1), (10, w.2), (11, (GSo true encIt (List.map (fun x => (⟨GSo true encI x⟩ : Item)) y37)).v), (12, v40), (13, iv (j.1))], ownL true w.1 encIt j.2.1 :: ownL true w.2 encIt j.2.2.1 :: ownL false v40 encI j.2.2.2 :: .row b4 2 [v_x_One, v_x_Other] :: .row b3 2 [iv (b_Signed), v_b_Gatherings] :: C⟩) (w0 := (nilS, nilS)) h
   ·exact (sb .refl)
   rintro ⟨i, one, other, here⟩ ⟨v5, v4⟩ a h;unfold P_law_CopyDivided_L1 at h;dsimp only at h;dsimp only;refine zS (zU rfl (zM R4 (zM R4 (zV R3 (Val.len_gs rfl rfl) ?_))));obtain ⟨c44, hc44⟩ := zY (i < ((List.map (fun x => (⟨GSo true encI x⟩ : Item)) y37).length : Int));refine zV R3 (Val.lss hc44 rfl rfl) (zN ?_);obtain ⟨rfl, hc44, h⟩ | ⟨rfl, hc44, h⟩ := zI hc44 h
   ·refine zC rfl (zK ?_)
    show T _ _ _ _ _ _;apply T.joinA (r := a) (W := AV × AV) (fun j w => ⟨[], [(2, v_bits), (3, .ptr b3 0 2), (4, .ptr b4 0 2), (9, w.1), (10, w.2), (11, (GSo true encIt (List.map (fun x => (⟨GSo true encI x⟩ : Item)) y37)).v), (12, v40), (13, iv (i))], ownL true w.1 encIt j.1 :: ownL true w.2 encIt j.2.1 :: ownL false v40 encI j.2.2 :: .row b4 2 [v_x_One, v_x_Other] :: .row b3 2 [iv (b_Signed), v_b_Gatherings] :: C⟩) h
    ·intro j h;refine zB ?_
     show T _ _ _ _ _ _;apply T.joinA (r := j) (W := Unit) (fun j w => ⟨[], [(2, v_bits), (3, .ptr b3 0 2), (4, .ptr b4 0 2), (9, v5), (10, v4), (11, (GSo true encIt (List.map (fun x => (⟨GSo true encI x⟩ : Item)) y37)).v), (12, v40), (13, iv (i)), (60, bv j)], ownL true v5 encIt one :: ownL true v4 encIt other :: ownL false v40 encI here :: .row b4 2 [v_x_One, v_x_Other] :: .row b3 2 [iv (b_Signed), v_b_Gatherings] :: C⟩) h
     ·intro j h;refine zT rfl (zM R4 (zV R3 (Val.len_l h_bits M5 rfl rfl) ?_));obtain ⟨c49, hc49⟩ := zY ((bits.length : Int) > 0);refine zV R3 (Val.gtr hc49 rfl rfl) (zM R4 ?_);obtain ⟨rfl, hc49, h⟩ | ⟨rfl, hc49, h⟩ := zI hc49 h
      ·refine zM R4 (zM R4 (zM R4 (zV R3 (Val.len_l h_bits M5 rfl rfl) ?_)));obtain ⟨hk55, h⟩ := chk_some h;refine zV R3 (Val.rem rfl rfl hk55) ?_;obtain ⟨a56, hia56, ea56, h⟩ := el_some h;refine TO.fact (rdl_at h_bits M5 hia56 ea56) (fun hp=>?_);obtain ⟨pa56, hpa56, hva56⟩ := hp;refine zV R3 (hva56 ⟨rfl, rfl⟩ rfl rfl) (zV R3 (Val.load_e hpa56 M5 ⟨_, rfl, rfl⟩ rfl rfl) ?_);obtain ⟨hk58, h⟩ := chk_some h;refine zV R3 (Val.remK rfl rfl hk58) ?_;obtain ⟨c59, hc59⟩ := zY ((Int.tmod (a56.toNat : Int) 2) = 1);refine zV R3 (Val.eqlK hc59 rfl rfl) (zP R6 (zN ?_));subst hc59;cases h;exact ⟨rfl, (), (sb .refl)⟩
      refine zO R3 (zO R3 (zO R3 (zO R3 (zO R3 (zO R3 (zO R3 (zO R3 (zO R3 (zP R6 (zN ?_))))))))));cases h;exact ⟨rfl, (), (sb .refl)⟩
     ·rintro x60 _ h;obtain ⟨rfl, h⟩ | ⟨rfl, h⟩ := zZ h
      ·refine zC rfl (zU rfl (zM R4 (zM R4 (zM R4 ?_))));obtain ⟨a64, hia64, ea64, h⟩ := el_some h;refine TO.fact (rdl_at (Rdl.gs (C := C) (GSo true encIt (List.map (fun x => (⟨GSo true encI x⟩ : Item)) y37))) M5 hia64 ea64) (fun hp=>?_);obtain ⟨pa64, hpa64, hva64⟩ := hp;refine zV R3 (hva64 ⟨rfl, rfl⟩ rfl rfl) (zV R3 (Val.load_es (c := [_]) hpa64 M5 ⟨⟨_, rfl, rfl⟩, rfl, by decide⟩ rfl rfl rfl) (TO.build1 (en := encIt) (a := a64) rfl rfl rfl ⟨rfl, rfl⟩ ⟨_, rfl, rfl⟩ (by decide) (by decide) rfl rfl (fun v66=>?_)));obtain ⟨hk67, h⟩ := chk_some h;refine TO.eff rfl rfl rfl (Eff.append_own (b := 24) (en := encIt) (l := one) (l2 := [a64]) (p := 1) (q := 0) ⟨rfl, rfl, rfl, ⟨_, rfl, rfl⟩, by decide, by decide⟩ rfl rfl rfl rfl rfl rfl (en_ones encIt_ones _) (by decide) hk67) ?_;rintro v67 _ rfl;refine zG (_::_::_::_::_::_::C) rfl (zA R4 (zN (zT rfl (zM R4 (zM R4 ?_)))));obtain ⟨a70, hia70, ea70, h⟩ := el_some h;refine TO.fact (own_at (en := encI) (p := 3) rfl hia70) (fun hp=>?_);obtain ⟨ida70, ata70⟩ := hp;refine zV R3 (Val.iaddr_at (en := encI) ata70 ⟨rfl, rfl⟩ rfl rfl hia70) (TO.eff0 rfl rfl (Eff.store_ownE (en := encI) (p := 3) (a := a70) (a' := 1) (j := 0) (cv := [_]) rfl ata70 ea70 rfl rfl (by decide) rfl rfl rfl rfl aG rfl) ?_);rintro _ rfl;refine zG (_::_::_::_::_::_::C) rfl (zN ?_);cases h;exact ⟨rfl, (v67, v4), (sb (pk [1,1,1,1,1,98] rfl))⟩
      refine zD rfl (zT rfl (zM R4 (zM R4 (zM R4 ?_))));obtain ⟨a74, hia74, ea74, h⟩ := el_some h;refine TO.fact (rdl_at (Rdl.gs (C := C) (GSo true encIt (List.map (fun x => (⟨GSo true encI x⟩ : Item)) y37))) M5 hia74 ea74) (fun hp=>?_);obtain ⟨pa74, hpa74, hva74⟩ := hp;refine zV R3 (hva74 ⟨rfl, rfl⟩ rfl rfl) (zV R3 (Val.load_es (c := [_]) hpa74 M5 ⟨⟨_, rfl, rfl⟩, rfl, by decide⟩ rfl rfl rfl) (TO.build1 (en := encIt) (a := a74) rfl rfl rfl ⟨rfl, rfl⟩ ⟨_, rfl, rfl⟩ (by decide) (by decide) rfl rfl (fun v76=>?_)));obtain ⟨hk77, h⟩ := chk_some h;refine TO.eff rfl rfl rfl (Eff.append_own (b := 24) (en := encIt) (l := other) (l2 := [a74]) (p := 2) (q := 0) ⟨rfl, rfl, rfl, ⟨_, rfl, rfl⟩, by decide, by decide⟩ rfl rfl rfl rfl rfl rfl (en_ones encIt_ones _) (by decide) hk77) ?_;rintro v77 _ rfl;refine zG (_::_::_::_::_::_::C) rfl (zA R4 (zN ?_));cases h;exact ⟨rfl, (v5, v77), (sb (pk [1,1,1,1,1,98] rfl))⟩
    ·rintro ⟨one_2, other_2, here_2⟩ ⟨v5_2, v4_2⟩ h;dsimp only at h;dsimp only;refine zT rfl (zM R4 ?_);obtain ⟨hk46, h⟩ := chk_some h;refine zV R3 (Val.add rfl rfl hk46) (zA R4 (zN ?_));cases h;exact ⟨rfl, (v5_2, v4_2), (sb .refl)⟩
   refine zD rfl (zE ?_);cases h;exact ⟨ex_ne, ⟨rfl, (v5, v4), (sb .refl)⟩⟩
  ·rintro ⟨here, one, other⟩ ⟨v5, v4⟩ h;dsimp only at h;dsimp only;refine zU rfl (zV R3 (vW 4 [_,_] R5 R4) (zM R4 (zM R4 ?_)));obtain ⟨⟨y82, y82_2⟩, hr82, h⟩ := andx_some h;dsimp only at h;obtain ⟨g_3, hgg_3, hrg_3⟩ := Rdl.reif (hs := ownL true v5 encIt one :: ownL true v4 encIt other :: ownL false v40 encI here :: .row b4 2 [v_x_One, v_x_Other] :: .row b3 2 [iv (b_Signed), v_b_Gatherings] :: C) h_b_Gatherings M5 (ReifL.flat encG_tr);refine TO.call rfl rfl rfl rfl rfl (orcL rfl aD) (.cons (.agg (.cons .lit (.cons (hrg_3 _) .nil))) (.cons (.ownL (p := 0) rfl ((ReifL.flat encIt_tr) _ _)) (.cons (.ownL (p := 1) rfl ((ReifL.flat encIt_tr) _ _)) .nil))) (sem_of (w_c_Divided b_Signed g_3 (GSo true encIt one) (GSo true encIt other) _ (by try rw [hgg_3]; exact hr82))) (zM R4 (zX R5 (zX R5 (zA R4 (zA R4 (zN (zS (zU rfl (zM R4 ?_)))))))));obtain ⟨c86, hc86⟩ := zY (¬ y82_2 = 0);refine zV R3 (Val.neq hc86 rfl rfl) (zN ?_);obtain ⟨rfl, hc86, h⟩ | ⟨rfl, hc86, h⟩ := zI hc86 h
   ·refine zC rfl (zU rfl (zA R4 (zN (zR ?_))));cases h;exact ⟨rfl, _, rfl, ⟨(), rfl, (pk [98,98,98,98,98] rfl)⟩⟩
   refine zD rfl (zK ?_)
   show T _ _ _ _ _ _;apply T.join (r := r) (W := Unit) (fun j w => ⟨[], [(3, .ptr b3 0 2), (4, .ptr b4 0 2), (11, (GSo true encIt (List.map (fun x => (⟨GSo true encI x⟩ : Item)) y37)).v)], ownL false v40 encI here :: .row b4 2 [v_x_One, v_x_Other] :: .row b3 2 [iv (b_Signed), v_b_Gatherings] :: C⟩) h
   ·intro j h;refine zU rfl (zA R4 (zN (zB ?_)))
    show T _ _ _ _ _ _;apply T.iter (r := j) (W := Unit) (fun j w => ⟨[], [(3, .ptr b3 0 2), (4, .ptr b4 0 2), (11, (GSo true encIt (List.map (fun x => (⟨GSo true encI x⟩ : Item)) y37)).v), (12, v40), (14, (GSo true encI y82).v), (16, iv (j))], ownL false v40 encI here :: .row b4 2 [v_x_One, v_x_Other] :: .row b3 2 [iv (b_Signed), v_b_Gatherings] :: C⟩) (w0 := ()) h
    ·exact (sb (pk [2,2,2,98,98] rfl))
    rintro i _ a h;unfold P_law_CopyDivided_L2 at h;refine zS (zU rfl (zM R4 (zM R4 (zV R3 (Val.len_gs rfl rfl) ?_))));obtain ⟨c90, hc90⟩ := zY (i < ((List.map (fun x => (⟨GSo true encI x⟩ : Item)) y37).length : Int));refine zV R3 (Val.lss hc90 rfl rfl) (zN ?_);obtain ⟨rfl, hc90, h⟩ | ⟨rfl, hc90, h⟩ := zI hc90 h
    ·refine zC rfl (zK ?_)
     show T _ _ _ _ _ _;apply T.join (r := a) (W := Unit) (fun j w => ⟨[], [(3, .ptr b3 0 2), (4, .ptr b4 0 2), (11, (GSo true encIt (List.map (fun x => (⟨GSo true encI x⟩ : Item)) y37)).v), (12, v40), (14, (GSo true encI y82).v), (16, iv (i))], ownL false v40 encI here :: .row b4 2 [v_x_One, v_x_Other] :: .row b3 2 [iv (b_Signed), v_b_Gatherings] :: C⟩) h
     ·intro j h;refine zB (zU rfl (zV R3 (vW 2 [_,_] R5 R4) (zM R4 ?_)));obtain ⟨mate95, hr95, h⟩ := andx_some h;obtain ⟨g_4, hgg_4, hrg_4⟩ := Rdl.reif (hs := ownL false v40 encI here :: .row b4 2 [v_x_One, v_x_Other] :: .row b3 2 [iv (b_Signed), v_b_Gatherings] :: C) h_b_Gatherings M3 (ReifL.flat encG_tr);refine TO.call rfl rfl rfl rfl rfl (orcL rfl aD) (.cons (.agg (.cons .lit (.cons (hrg_4 _) .nil))) (.cons .lit .nil)) (sem_of (w_r1_Pair b_Signed g_4 i _ (by try rw [hgg_4]; exact hr95))) (zA R4 (zN ?_))
      show T _ _ _ _ _ _;apply T.joinA (r := j) (W := Unit) (fun j w => ⟨[], [(3, .ptr b3 0 2), (4, .ptr b4 0 2), (11, (GSo true encIt (List.map (fun x => (⟨GSo true encI x⟩ : Item)) y37)).v), (12, v40), (14, (GSo true encI y82).v), (16, iv (i)), (115, bv j)], ownL false v40 encI here :: .row b4 2 [v_x_One, v_x_Other] :: .row b3 2 [iv (b_Signed), v_b_Gatherings] :: C⟩) h
      ·intro j h;refine T.draw (fun v => sameC_refl v) (l1 := [0, 1, 3, 4, 5, 6, 7]) (l2 := [2, 8, 9, 10, 11, 12, 13, 14, 15, 16, 17, 18, 19]) (by kernel_rfl) (by kernel_rfl) (zM R4 (zM R4 (zM R4 (zM R4 ?_))));obtain ⟨a101, hia101, ea101, h⟩ := el_some h;refine TO.fact (own_at (en := encI) (p := 0) rfl hia101) (fun hp=>?_);obtain ⟨ida101, ata101⟩ := hp;refine zV R3 (Val.iaddr_at (en := encI) ata101 ⟨rfl, rfl⟩ rfl rfl hia101) (zV R3 (Val.load_ownL (en := encI) (p := 0) (j := 0) rfl ata101 ⟨_, rfl, rfl⟩ rfl ea101 rfl) ?_);obtain ⟨c103, hc103⟩ := zY (a101 = 1);refine zV R3 (Val.eql hc103 rfl rfl) ?_;obtain ⟨has98, hr98, h⟩ := andx_some h;refine TO.call rfl rfl rfl rfl rfl (orcL rfl aD) (.cons .gs (.cons .lit .nil)) (sem_of (w_r1_Has (GSo true encI y82) i _ (by exact hr98))) (zM R4 ?_);obtain ⟨rfl, hc103, h⟩ | ⟨rfl, hc103, h⟩ := zI hc103 h
       ·refine zM R4 ?_;obtain ⟨c106, hc106⟩ := zY (mate95 ≥ 0);refine zV R3 (Val.geq hc106 rfl rfl) (zP R6 (zM R4 ?_));obtain ⟨rfl, hc106, h⟩ | ⟨rfl, hc106, h⟩ := zI hc106 h
        ·refine zM R4 (zM R4 ?_);obtain ⟨a111, hia111, ea111, h⟩ := el_some h;refine TO.fact (own_at (en := encI) (p := 0) rfl hia111) (fun hp=>?_);obtain ⟨ida111, ata111⟩ := hp;refine zV R3 (Val.iaddr_at (en := encI) ata111 ⟨rfl, rfl⟩ rfl rfl hia111) (zV R3 (Val.load_ownL (en := encI) (p := 0) (j := 0) rfl ata111 ⟨_, rfl, rfl⟩ rfl ea111 rfl) ?_);obtain ⟨c113, hc113⟩ := zY (a111 = 0);refine zV R3 (Val.eql hc113 rfl rfl) (zP R6 ?_);subst hc113;obtain ⟨c115, hc115⟩ := zY (¬ (has98 = (decide (a111 = 0))));refine zV R3 (Val.bneq bo_ty4 hc115 rfl rfl) (zN ?_);subst hc115;cases h;exact ⟨rfl, (), (sb .refl)⟩
        refine zO R3 (zO R3 (zO R3 (zO R3 (zO R3 (zP R6 ?_)))));obtain ⟨c115, hc115⟩ := zY (¬ (has98 = false));refine zV R3 (Val.bneq bo_ty4 hc115 rfl rfl) (zN ?_);subst hc115;cases h;exact ⟨rfl, (), (sb .refl)⟩
       refine zO R3 (zO R3 (zP R6 (zM R4 (zO R3 (zO R3 (zO R3 (zO R3 (zO R3 (zP R6 ?_)))))))));obtain ⟨c115, hc115⟩ := zY (¬ (has98 = false));refine zV R3 (Val.bneq bo_ty4 hc115 rfl rfl) (zN ?_);subst hc115;cases h;exact ⟨rfl, (), (sb .refl)⟩
      ·rintro x115 _ h;obtain ⟨rfl, h⟩ | ⟨rfl, h⟩ := zZ h
       ·refine zC rfl (zU rfl (zA R4 (zN (zR ?_))));cases h;exact ⟨ret_ne, ⟨ret_ne, ⟨ret_ne, ⟨rfl, _, rfl, ⟨(), rfl, (pk [98,98,98] rfl)⟩⟩⟩⟩⟩
       refine zD rfl (zK ?_);cases h;exact ⟨rfl, (), (sb .refl)⟩
     ·rintro _ _ h;refine zT rfl (zM R4 ?_);obtain ⟨hk92, h⟩ := chk_some h;refine zV R3 (Val.add rfl rfl hk92) (zA R4 (zN ?_));cases h;exact ⟨rfl, (), (sb .refl)⟩
    refine zD rfl (zE ?_);cases h;exact ⟨ex_ne, ⟨rfl, (), (sb .refl)⟩⟩
   ·rintro _ _ h;refine zU rfl (zV R3 (vW 2 [_,_] R5 R4) (zF 0 R6 (zL 1 R3 R6 (zF 1 R6 (zL 1 R3 R6 ?_)))));obtain ⟨⟨y122, y122_2⟩, hr122, h⟩ := andx_some h;dsimp only at h;obtain ⟨g_4, hgg_4, hrg_4⟩ := Rdl.reif (hs := ownL false v40 encI here :: .row b4 2 [v_x_One, v_x_Other] :: .row b3 2 [iv (b_Signed), v_b_Gatherings] :: C) h_b_Gatherings M3 (ReifL.flat encG_tr);obtain ⟨g_5, hgg_5, hrg_5⟩ := Rdl.reif (hs := ownL false v40 encI here :: .row b4 2 [v_x_One, v_x_Other] :: .row b3 2 [iv (b_Signed), v_b_Gatherings] :: C) h_x_One M3 (ReifL.flat encIt_tr);obtain ⟨g_6, hgg_6, hrg_6⟩ := Rdl.reif (hs := ownL false v40 encI here :: .row b4 2 [v_x_One, v_x_Other] :: .row b3 2 [iv (b_Signed), v_b_Gatherings] :: C) h_x_Other M3 (ReifL.flat encIt_tr);refine TO.call rfl rfl rfl rfl rfl (orcL rfl aD) (.cons (.agg (.cons .lit (.cons (hrg_4 _) .nil))) (.cons (hrg_5 _) (.cons (hrg_6 _) .nil))) (sem_of (w_c_Divided b_Signed g_4 g_5 g_6 _ (by try rw [hgg_4]; try rw [hgg_5]; try rw [hgg_6]; exact hr122))) (zM R4 (zX R5 (zX R5 (zA R4 (zA R4 (zN (zU rfl (zV R3 (vW 2 [_,_] R5 R4) (zF 1 R6 (zL 1 R3 R6 (zF 0 R6 (zL 1 R3 R6 ?_))))))))))));obtain ⟨⟨y131, y131_2⟩, hr131, h⟩ := andx_some h;dsimp only at h;obtain ⟨g_7, hgg_7, hrg_7⟩ := Rdl.reif (hs := ownL false v40 encI here :: .row b4 2 [v_x_One, v_x_Other] :: .row b3 2 [iv (b_Signed), v_b_Gatherings] :: C) h_b_Gatherings M3 (ReifL.flat encG_tr);obtain ⟨g_8, hgg_8, hrg_8⟩ := Rdl.reif (hs := ownL false v40 encI here :: .row b4 2 [v_x_One, v_x_Other] :: .row b3 2 [iv (b_Signed), v_b_Gatherings] :: C) h_x_Other M3 (ReifL.flat encIt_tr);obtain ⟨g_9, hgg_9, hrg_9⟩ := Rdl.reif (hs := ownL false v40 encI here :: .row b4 2 [v_x_One, v_x_Other] :: .row b3 2 [iv (b_Signed), v_b_Gatherings] :: C) h_x_One M3 (ReifL.flat encIt_tr);refine TO.call rfl rfl rfl rfl rfl (orcL rfl aD) (.cons (.agg (.cons .lit (.cons (hrg_7 _) .nil))) (.cons (hrg_8 _) (.cons (hrg_9 _) .nil))) (sem_of (w_c_Divided b_Signed g_7 g_8 g_9 _ (by try rw [hgg_7]; try rw [hgg_8]; try rw [hgg_9]; exact hr131))) (zM R4 (zX R5 (zX R5 (zA R4 (zA R4 (zN (zS (zU rfl (zM R4 ?_)))))))));obtain ⟨c135, hc135⟩ := zY (¬ y122_2 = 0);refine zV R3 (Val.neq hc135 rfl rfl) (zN ?_);obtain ⟨rfl, hc135, h⟩ | ⟨rfl, hc135, h⟩ := zI hc135 h
    ·refine zC rfl ?_
     show T _ _ _ _ _ _;apply T.joinA (r := r) (W := Unit) (fun j w => ⟨[], [(6, bv j)], ownL false v40 encI here :: .row b4 2 [v_x_One, v_x_Other] :: .row b3 2 [iv (b_Signed), v_b_Gatherings] :: C⟩) h
     ·intro j h;refine zT rfl (zM R4 (zV R3 (Val.len_gs rfl rfl) ?_));obtain ⟨c138, hc138⟩ := zY ((y122.length : Int) = 0);refine zV R3 (Val.eql hc138 rfl rfl) (zM R4 ?_);obtain ⟨rfl, hc138, h⟩ | ⟨rfl, hc138, h⟩ := zI hc138 h
      ·refine zM R4 ?_;obtain ⟨c141, hc141⟩ := zY (¬ y131_2 = 0);refine zV R3 (Val.neq hc141 rfl rfl) (zP R6 (zM R4 ?_));obtain ⟨rfl, hc141, h⟩ | ⟨rfl, hc141, h⟩ := zI hc141 h
       ·refine TO.call rfl rfl rfl rfl rfl orcA .nil rfl (zP R6 (zA R4 (zN ?_)));cases h;exact ⟨rfl, (), (sb .refl)⟩
       refine zO R3 (zP R6 (zA R4 (zN ?_)));cases h;exact ⟨rfl, (), (sb .refl)⟩
      refine zO R3 (zO R3 (zP R6 (zM R4 (zO R3 (zP R6 (zA R4 (zN ?_)))))));cases h;exact ⟨rfl, (), (sb .refl)⟩
     ·rintro x6 _ h;refine zR ?_;cases h;exact ⟨rfl, _, rfl, ⟨(), rfl, (pk [98,98,98] rfl)⟩⟩
    refine zD rfl (zK ?_)
    show T _ _ _ _ _ _;apply T.join (r := r) (W := Unit) (fun j w => ⟨[], [(3, .ptr b3 0 2), (11, (GSo true encIt (List.map (fun x => (⟨GSo true encI x⟩ : Item)) y37)).v), (18, (GSo true encI y122).v), (20, (GSo true encI y131).v)], ownL false v40 encI here :: .row b4 2 [v_x_One, v_x_Other] :: .row b3 2 [iv (b_Signed), v_b_Gatherings] :: C⟩) h
    ·intro j h
     show T _ _ _ _ _ _;apply T.joinA (r := j) (W := Unit) (fun j w => ⟨[], [(3, .ptr b3 0 2), (11, (GSo true encIt (List.map (fun x => (⟨GSo true encI x⟩ : Item)) y37)).v), (18, (GSo true encI y122).v), (20, (GSo true encI y131).v), (154, bv j)], ownL false v40 encI here :: .row b4 2 [v_x_One, v_x_Other] :: .row b3 2 [iv (b_Signed), v_b_Gatherings] :: C⟩) h
     ·intro j h;refine zT rfl (zM R4 ?_);obtain ⟨c147, hc147⟩ := zY (¬ y131_2 = 0);refine zV R3 (Val.neq hc147 rfl rfl) (zM R4 ?_);obtain ⟨rfl, hc147, h⟩ | ⟨rfl, hc147, h⟩ := zI hc147 h
      ·refine zO R3 (zO R3 (zO R3 (zO R3 (zO R3 (zP R6 (zN ?_))))));cases h;exact ⟨rfl, (), (sb .refl)⟩
      refine zM R4 (zV R3 (Val.len_gs rfl rfl) (zM R4 (zV R3 (Val.len_gs rfl rfl) ?_)));obtain ⟨c153, hc153⟩ := zY (¬ (y122.length : Int) = (y131.length : Int));refine zV R3 (Val.neq hc153 rfl rfl) (zP R6 (zN ?_));subst hc153;cases h;exact ⟨rfl, (), (sb .refl)⟩
     ·rintro x154 _ h;obtain ⟨rfl, h⟩ | ⟨rfl, h⟩ := zZ h
      ·refine zC rfl (zU rfl (zA R4 (zN (zR ?_))));cases h;exact ⟨ret_ne, ⟨rfl, _, rfl, ⟨(), rfl, (pk [98,98,98] rfl)⟩⟩⟩
      refine zD rfl (zK ?_);cases h;exact ⟨rfl, (), (sb .refl)⟩
    ·rintro _ _ h
     show T _ _ _ _ _ _;apply T.join (r := r) (W := Unit) (fun j w => ⟨[], [], .row b3 2 [iv (b_Signed), v_b_Gatherings] :: C⟩) h
     ·intro j h;refine zU rfl (zA R4 (zN (zB ?_)))
      show T _ _ _ _ _ _;apply T.iter (r := j) (W := Unit) (fun j w => ⟨[], [(3, .ptr b3 0 2), (11, (GSo true encIt (List.map (fun x => (⟨GSo true encI x⟩ : Item)) y37)).v), (18, (GSo true encI y122).v), (20, (GSo true encI y131).v), (22, iv (j))], .row b3 2 [iv (b_Signed), v_b_Gatherings] :: C⟩) (w0 := ()) h
      ·exact (sb (pk [2,98,98] rfl))
      rintro i _ a h;unfold P_law_CopyDivided_L3 at h;refine zS (zU rfl (zM R4 (zM R4 (zV R3 (Val.len_gs rfl rfl) ?_))));obtain ⟨c158, hc158⟩ := zY (i < (y122.length : Int));refine zV R3 (Val.lss hc158 rfl rfl) (zN ?_);obtain ⟨rfl, hc158, h⟩ | ⟨rfl, hc158, h⟩ := zI hc158 h
      ·refine zC rfl (zK ?_)
       show T _ _ _ _ _ _;apply T.join (r := a) (W := Unit) (fun j w => ⟨[], [(3, .ptr b3 0 2), (11, (GSo true encIt (List.map (fun x => (⟨GSo true encI x⟩ : Item)) y37)).v), (18, (GSo true encI y122).v), (20, (GSo true encI y131).v), (22, iv (i))], .row b3 2 [iv (b_Signed), v_b_Gatherings] :: C⟩) h
       ·intro j h;refine zB ?_
        show T _ _ _ _ _ _;apply T.joinA (r := j) (W := Unit) (fun j w => ⟨[], [(3, .ptr b3 0 2), (11, (GSo true encIt (List.map (fun x => (⟨GSo true encI x⟩ : Item)) y37)).v), (18, (GSo true encI y122).v), (20, (GSo true encI y131).v), (22, iv (i)), (185, bv j)], .row b3 2 [iv (b_Signed), v_b_Gatherings] :: C⟩) h
        ·intro j h;refine T.draw (fun v => sameC_refl v) (l1 := [0, 1, 2, 3, 4, 5, 6, 7, 8, 9, 10, 11, 12, 13, 14, 15, 16, 17, 18, 19, 20]) (l2 := [21, 22, 23, 24]) (by kernel_rfl) (by kernel_rfl) (zM R4 (zM R4 ?_));obtain ⟨a163, hia163, ea163, h⟩ := el_some h;refine TO.fact (rdl_at (Rdl.gs (C := C) (GSo true encI y122)) M1 hia163 ea163) (fun hp=>?_);obtain ⟨pa163, hpa163, hva163⟩ := hp;refine zV R3 (hva163 ⟨rfl, rfl⟩ rfl rfl) (zV R3 (Val.load_e hpa163 M1 ⟨_, rfl, rfl⟩ rfl rfl) ?_);obtain ⟨c165, hc165⟩ := zY (a163 < 0);refine zV R3 (Val.lss hc165 rfl rfl) (zM R4 ?_);obtain ⟨rfl, hc165, h⟩ | ⟨rfl, hc165, h⟩ := zI hc165 h
         ·refine zO R3 (zO R3 (zO R3 (zO R3 (zO R3 (zO R3 (zO R3 (zP R6 (zM R4 (zO R3 (zO R3 (zO R3 (zO R3 (zO R3 (zO R3 (zO R3 (zO R3 (zO R3 (zP R6 (zN ?_)))))))))))))))))));cases h;exact ⟨rfl, (), (sb .refl)⟩
         refine zM R4 (zM R4 ?_);obtain ⟨a169, hia169, ea169, h⟩ := el_some h;refine TO.fact (rdl_at (Rdl.gs (C := C) (GSo true encI y122)) M1 hia169 ea169) (fun hp=>?_);obtain ⟨pa169, hpa169, hva169⟩ := hp;refine zV R3 (hva169 ⟨rfl, rfl⟩ rfl rfl) (zV R3 (Val.load_e hpa169 M1 ⟨_, rfl, rfl⟩ rfl rfl) (zM R4 (zV R3 (Val.len_gs rfl rfl) ?_)));obtain ⟨c173, hc173⟩ := zY (a169 ≥ ((List.map (fun x => (⟨GSo true encI x⟩ : Item)) y37).length : Int));refine zV R3 (Val.geq hc173 rfl rfl) (zP R6 (zM R4 ?_));obtain ⟨rfl, hc173, h⟩ | ⟨rfl, hc173, h⟩ := zI hc173 h
         ·refine zO R3 (zO R3 (zO R3 (zO R3 (zO R3 (zO R3 (zO R3 (zO R3 (zO R3 (zP R6 (zN ?_))))))))));cases h;exact ⟨rfl, (), (sb .refl)⟩
         refine zM R4 (zV R3 (vW 0 [_,_] R5 R4) (zM R4 (zM R4 ?_)));obtain ⟨a180, hia180, ea180, h⟩ := el_some h;refine TO.fact (rdl_at (Rdl.gs (C := C) (GSo true encI y122)) M1 hia180 ea180) (fun hp=>?_);obtain ⟨pa180, hpa180, hva180⟩ := hp;refine zV R3 (hva180 ⟨rfl, rfl⟩ rfl rfl) (zV R3 (Val.load_e hpa180 M1 ⟨_, rfl, rfl⟩ rfl rfl) ?_);obtain ⟨mate182, hr182, h⟩ := andx_some h;obtain ⟨g_10, hgg_10, hrg_10⟩ := Rdl.reif (hs := .row b3 2 [iv (b_Signed), v_b_Gatherings] :: C) h_b_Gatherings M1 (ReifL.flat encG_tr);refine TO.call rfl rfl rfl rfl rfl (orcL rfl aD) (.cons (.agg (.cons .lit (.cons (hrg_10 _) .nil))) (.cons .lit .nil)) (sem_of (w_r1_Pair b_Signed g_10 a180 _ (by try rw [hgg_10]; exact hr182))) ?_;obtain ⟨has183, hr183, h⟩ := andx_some h;refine TO.call rfl rfl rfl rfl rfl (orcL rfl aD) (.cons .gs (.cons .lit .nil)) (sem_of (w_r1_Has (GSo true encI y131) mate182 _ (by exact hr183))) (zV R3 (Val.not rfl) (zP R6 (zN ?_)));cases h;exact ⟨rfl, (), (sb .refl)⟩
        ·rintro x185 _ h;obtain ⟨rfl, h⟩ | ⟨rfl, h⟩ := zZ h
         ·refine zC rfl (zU rfl (zA R4 (zN (zR ?_))));cases h;exact ⟨ret_ne, ⟨ret_ne, ⟨ret_ne, ⟨rfl, _, rfl, ⟨(), rfl, (pk [98] rfl)⟩⟩⟩⟩⟩
         refine zD rfl (zK ?_);cases h;exact ⟨rfl, (), (sb .refl)⟩
       ·rintro _ _ h;refine zT rfl (zM R4 ?_);obtain ⟨hk160, h⟩ := chk_some h;refine zV R3 (Val.add rfl rfl hk160) (zA R4 (zN ?_));cases h;exact ⟨rfl, (), (sb .refl)⟩
      refine zD rfl (zE ?_);cases h;exact ⟨ex_ne, ⟨rfl, (), (sb .refl)⟩⟩
     ·rintro _ _ h;refine zU rfl (TO.call rfl rfl rfl rfl rfl orcA .nil rfl (zA R4 (zN (zR ?_))));cases h;exact ⟨rfl, _, rfl, ⟨(), rfl, (pk [98] rfl)⟩⟩
 refine zC rfl (zU rfl (zV R3 (vW 1 [_,_] R5 R4) ?_));obtain ⟨⟨y28, y28_2⟩, hr28, h⟩ := andx_some h;dsimp only at h;obtain ⟨g_2, hgg_2, hrg_2⟩ := Rdl.reif (hs := .row b4 2 [v_x_One, v_x_Other] :: .row b3 2 [iv (b_Signed), v_b_Gatherings] :: C) h_b_Gatherings M2 (ReifL.flat encG_tr);refine TO.call rfl rfl rfl rfl rfl (orcL rfl aD) (.cons (.agg (.cons .lit (.cons (hrg_2 _) .nil))) (.cons .lit (.cons .lit .nil))) (sem_of (w_c_Divided b_Signed g_2 (GSo true encIt []) (GSo true encIt []) _ (by try rw [hgg_2]; exact hr28))) (zM R4 (zX R5 (zX R5 (zA R4 (zA R4 (zN ?_))))))
 show T _ _ _ _ _ _;apply T.joinA (r := r) (W := Unit) (fun j w => ⟨[], [(6, bv j)], .row b4 2 [v_x_One, v_x_Other] :: .row b3 2 [iv (b_Signed), v_b_Gatherings] :: C⟩) h
 ·intro j h;refine zT rfl (zM R4 ?_);obtain ⟨c32, hc32⟩ := zY (¬ y28_2 = 0);refine zV R3 (Val.neq hc32 rfl rfl) (zM R4 ?_);obtain ⟨rfl, hc32, h⟩ | ⟨rfl, hc32, h⟩ := zI hc32 h
  ·refine TO.call rfl rfl rfl rfl rfl orcA .nil rfl (zP R6 (zA R4 (zN ?_)));cases h;exact ⟨rfl, (), (sb .refl)⟩
  refine zO R3 (zP R6 (zA R4 (zN ?_)));cases h;exact ⟨rfl, (), (sb .refl)⟩
 ·rintro x6 _ h;refine zR ?_;cases h;exact ⟨rfl, _, rfl, ⟨(), rfl, (pk [98,98] rfl)⟩⟩
theorem w_law_CopyDivided (b_Signed : Int) (b_Gatherings : GS encG) (x_One : GS encIt) (x_Other : GS encIt) (bits : GS encU8) (r : Bool) (h : P_law_CopyDivided b_Signed b_Gatherings.l x_One.l x_Other.l bits.l = some r) : Comes (EL 7) 10 [.agg [iv (b_Signed), b_Gatherings.v], .agg [x_One.v, x_Other.v], bits.v] (bv r) :=
 TF.run (tf_law_CopyDivided (Nat.le_refl _) (RdT.gs b_Gatherings) (RdT.gs x_One) (RdT.gs x_Other) (RdT.gs bits) h) fun w => .lit
end Go.Am.Ythckcbfijdambaa
end
section
namespace Go.Am
open Go.RowKit
def Lifts (P : Program) (t : TypeId) {α : Type} (e : En α) : Prop :=
 ∀ (H : Type) (enc : TypeId × Value → H) (W : World) (base : Nat) (held : Bool) (fuel : Nat) (cs : List Value) (x : DataW H × List MemPlace),
  DataW.trod enc P W base (fun _ => true) held fuel t cs = some x → ∃ a : α, RelL (snapR W 0) (e.f a) cs
theorem Lifts.int {P : Program} {t : TypeId} (ht : P.underlying t = some (.int .i64)) : Lifts P t encI := by
 intro H enc W base held fuel cs x hx;obtain ⟨n, rfl, _, _⟩ := DataW.trod_int ht hx;exact ⟨n, .cons (.lit _) (.nil _)⟩
theorem snap_cell {W : World} {b off : Nat} {v : Value} (h : W.cell? ⟨b, off, none⟩ = some v) : ∃ c, (snapR W 0).imm b = some c ∧ c[off]? = some v := by
 unfold World.cell? at h;split at h
 ·rename_i c _ _ hb
  simp at h;exact ⟨c, by simp only [snapR, snap, Nat.zero_le, if_true]; simp only [] at hb; rw [hb], h⟩
 ·cases h
theorem list_of {α : Type} {p : Nat → α → Prop} : ∀ n : Nat, (∀ i, i < n → ∃ a, p i a) → ∃ l : List α, l.length = n ∧ ∀ i a, l[i]? = some a → p i a := by
 intro n
 induction n with
 | zero => intro _; exact ⟨[], rfl, fun i a h => by simp at h⟩
 | succ n ih =>
  intro h;obtain ⟨l, h1, h2⟩ := ih fun i hi => h i (by omega)
  obtain ⟨a, ha⟩ := h n (by omega);refine ⟨l ++ [a], by simp [h1], fun i b hb => ?_⟩
  by_cases hi : i < l.length
  ·rw [List.getElem?_append_left hi] at hb; exact h2 i b hb
  ·rw [List.getElem?_append_right (by omega)] at hb
   have : i - l.length = 0 := by
    have := (List.getElem?_eq_some_iff.1 hb).1;simp at this; omega
   rw [this] at hb;simp at hb;subst hb
   have : i = n := by omega
   rw [this]; exact ha
theorem Lifts.slice {P : Program} {t e : TypeId} {α : Type} {en : En α} (ht : P.underlying t = some (.slice e)) (hu : P.cellsOf e = en.u) (h0 : 0 < en.u) (h : Lifts P e en) : Lifts P t (encSl en) := by
 intro H enc W base held fuel cs x hx
 rcases DataW.trod_slice ht hx with ⟨rfl, _⟩ | ⟨a, len, cap, elems, rest, n, _, rfl, _, hb, hl, _, hlen, hel, hsp, _⟩
 ·exact ⟨⟨nilS, [], .inl ⟨rfl, rfl, rfl⟩⟩, .cons (.lit _) (.nil _)⟩
 ·rw [hu] at hel hsp;obtain ⟨hrl, hr⟩ := hsp rfl
  by_cases hc : cap = 0
  ·subst hc
   have : len = 0 := by omega
   subst this;exact ⟨⟨.tree en.u 0 [], [], .inr ⟨rfl, by simp⟩⟩, .cons .tree0 (.nil _)⟩
  ·have hcell : ∀ i, i < len → ∃ (a' : α) (ci : List Value), W.cells? base (a.add (i * en.u)) en.u = some ci ∧ RelL (snapR W 0) (en.f a') ci := by
    intro i hi
    have he := hel i hi;rw [List.getElem?_eq_getElem (by omega)] at he;obtain ⟨ci, h1, h2⟩ := Option.bind_eq_some_iff.1 he;obtain ⟨a', h3⟩ := h _ _ _ _ _ _ _ _ h2;exact ⟨a', ci, h1, h3⟩
   have hspot : a.spot = none := by
    have : ∃ ci, W.cells? base (a.add (0 * en.u)) en.u = some ci := by
     by_cases hl0 : 0 < len
     ·obtain ⟨_, ci, h1, _⟩ := hcell 0 hl0;exact ⟨ci, h1⟩
     ·have hz : len = 0 := by omega
      have he := hr 0 (by omega);rw [List.getElem?_eq_getElem (by omega)] at he;obtain ⟨ci, h1, _⟩ := Option.bind_eq_some_iff.1 he;exact ⟨ci, by simpa [hz] using h1⟩
    obtain ⟨ci, h1⟩ := this;obtain ⟨_, h2, h3⟩ := World.cells?_some h1
    have h4 := h3 0 h0;rw [List.getElem?_eq_getElem (by omega)] at h4
    have := World.cell?_spot h4
    simpa [Addr.add] using this
   obtain ⟨b, off, sp⟩ := a;simp only at hspot;subst hspot;obtain ⟨l, hl1, hl2⟩ := list_of (p := fun i a' => ∃ ci : List Value, W.cells? base ((⟨b, off, none⟩ : Addr).add (i * en.u)) en.u = some ci ∧ RelL (snapR W 0) (en.f a') ci) len hcell
   have hfl : (l.flatMap en.f).length = len * en.u := by rw [flat_len, hl1]
   have each : ∀ j, j < len * en.u → ∃ v y c, (l.flatMap en.f)[j]? = some v ∧ (snapR W 0).imm b = some c ∧ c[off + j]? = some y ∧ RelV (snapR W 0) v y := by
    intro j hj
    have hi : j / en.u < l.length := by rw [hl1]; exact Nat.div_lt_of_lt_mul (by rw [Nat.mul_comm]; exact hj)
    have hk : j % en.u < en.u := Nat.mod_lt _ h0
    have hd : j / en.u * en.u + j % en.u = j := by rw [Nat.mul_comm]; exact Nat.div_add_mod j en.u
    obtain ⟨ci, h1, h2⟩ := hl2 _ _ (List.getElem?_eq_getElem hi);obtain ⟨_, h3, h4⟩ := World.cells?_some h1
    have h5 := h4 _ hk;rw [List.getElem?_eq_getElem (by omega)] at h5
    have h6 : ((⟨b, off, none⟩ : Addr).add (j / en.u * en.u)).add (j % en.u) = ⟨b, off + j, none⟩ := by
     simp only [addr_add]
     congr 1
     omega
    rw [h6] at h5;obtain ⟨c, h7, h8⟩ := snap_cell h5
    have hlen' := en.len l[j / en.u]
    have hv := List.getElem?_eq_getElem (l := en.f l[j / en.u]) (i := j % en.u) (by omega);refine ⟨_, _, c, ?_, h7, h8, h2.2 _ _ _ hv (List.getElem?_eq_getElem _)⟩
    have := flat_get (en := en) (List.getElem?_eq_getElem hi) hk;rw [hd] at this;rw [this, hv]
   refine ⟨⟨.tree en.u l.length (l.flatMap en.f), l, .inr ⟨rfl, by rw [hfl, hl1]⟩⟩, .cons ?_ (.nil _)⟩
   show RelV _ (.tree en.u l.length (l.flatMap en.f)) _;rw [hl1]
   by_cases hz : len * en.u = 0
   ·refine .tree (c := #[]) hfl hl (.inl (List.eq_nil_of_length_eq_zero (by omega))) fun i v x hv hx => by simp at hx
   ·obtain ⟨_, _, c, _, hc1, _, _⟩ := each (len * en.u - 1) (by omega);refine .tree (c := c) hfl hl (.inr ⟨hc1, ?_⟩) fun j v y hv hy => ?_
    ·obtain ⟨_, _, c', _, hc2, hc3, _⟩ := each (len * en.u - 1) (by omega);rw [hc1] at hc2;cases hc2
     have := (Array.getElem?_eq_some_iff.1 hc3).1;omega
    ·have hj := (List.getElem?_eq_some_iff.1 hv).1;obtain ⟨v', y', c', e1, e2, e3, e4⟩ := each j (by omega);rw [hc1] at e2;cases e2;rw [hv] at e1;rw [hy] at e3;cases e1;cases e3;exact e4
theorem RelL.glue {r : Ren} {a b : List AV} {cs : List Value} {n : Nat} (h1 : RelL r a (cs.take n)) (h2 : RelL r b (cs.drop n)) : RelL r (a ++ b) cs := by
 have := h1.append h2
 rwa [List.take_append_drop] at this
end Go.Am
end
section
namespace Go.Am
open Go.RowKit
def enPair {α β : Type} (a : En α) (b : En β) : En (α × β) := ⟨a.u + b.u, fun p => a.f p.1 ++ b.f p.2, fun p => by simp [a.len, b.len]⟩
theorem Lifts.map {P : Program} {t : TypeId} {α β : Type} {a : En α} {b : En β} (h : Lifts P t a) (hf : ∀ x, ∃ y, b.f y = a.f x) : Lifts P t b := by
 intro H enc W base held fuel cs x hx;obtain ⟨v, hv⟩ := h _ _ _ _ _ _ _ _ hx;obtain ⟨y, hy⟩ := hf v;exact ⟨y, by rw [hy]; exact hv⟩
theorem Lifts.struct1 {P : Program} {t : TypeId} {f0 : Field} {α : Type} {a : En α} (ht : P.underlying t = some (.struct #[f0])) (o0 : f0.offset = 0) (c0 : P.cellsOf f0.type = a.u) (ct : P.cellsOf t = a.u)
  (l0 : Lifts P f0.type a) : Lifts P t a := by
 intro H enc W base held fuel cs x hx;obtain ⟨xs, n, _, _, hl, hn, h⟩ := DataW.trod_struct ht hx
 have hn1 : xs.length = 1 := hn
 have h0 := h 0 f0 rfl;rw [List.getElem?_eq_getElem (by omega), o0, c0, List.drop_zero, List.take_of_length_le (by omega)] at h0;exact l0 _ _ _ _ _ _ _ _ h0
theorem Lifts.struct2 {P : Program} {t : TypeId} {f0 f1 : Field} {α β : Type} {a : En α} {b : En β} (ht : P.underlying t = some (.struct #[f0, f1])) (o0 : f0.offset = 0) (o1 : f1.offset = a.u)
  (c0 : P.cellsOf f0.type = a.u) (c1 : P.cellsOf f1.type = b.u) (ct : P.cellsOf t = a.u + b.u) (l0 : Lifts P f0.type a) (l1 : Lifts P f1.type b) : Lifts P t (enPair a b) := by
 intro H enc W base held fuel cs x hx;obtain ⟨xs, n, _, _, hl, hn, h⟩ := DataW.trod_struct ht hx
 have hn1 : xs.length = 2 := hn
 have h0 := h 0 f0 rfl
 have h1 := h 1 f1 rfl;rw [List.getElem?_eq_getElem (by omega), o0, c0, List.drop_zero] at h0;rw [List.getElem?_eq_getElem (by omega), o1, c1, List.take_of_length_le (by simp; omega)] at h1;obtain ⟨x0, r0⟩ := l0 _ _ _ _ _ _ _ _ h0;obtain ⟨x1, r1⟩ := l1 _ _ _ _ _ _ _ _ h1;exact ⟨(x0, x1), .glue r0 r1⟩
theorem Lifts.struct3 {P : Program} {t : TypeId} {f0 f1 f2 : Field} {α β γ : Type} {a : En α} {b : En β} {c : En γ} (ht : P.underlying t = some (.struct #[f0, f1, f2])) (o0 : f0.offset = 0) (o1 : f1.offset = a.u) (o2 : f2.offset = a.u + b.u)
  (c0 : P.cellsOf f0.type = a.u) (c1 : P.cellsOf f1.type = b.u) (c2 : P.cellsOf f2.type = c.u) (ct : P.cellsOf t = a.u + (b.u + c.u)) (l0 : Lifts P f0.type a) (l1 : Lifts P f1.type b) (l2 : Lifts P f2.type c) :
  Lifts P t (enPair a (enPair b c)) := by
 intro H enc W base held fuel cs x hx;obtain ⟨xs, n, _, _, hl, hn, h⟩ := DataW.trod_struct ht hx
 have hn1 : xs.length = 3 := hn
 have h0 := h 0 f0 rfl
 have h1 := h 1 f1 rfl
 have h2 := h 2 f2 rfl;rw [List.getElem?_eq_getElem (by omega), o0, c0, List.drop_zero] at h0;rw [List.getElem?_eq_getElem (by omega), o1, c1] at h1;rw [List.getElem?_eq_getElem (by omega), o2, c2, ← List.drop_drop, List.take_of_length_le (by simp; omega)] at h2;obtain ⟨x0, r0⟩ := l0 _ _ _ _ _ _ _ _ h0;obtain ⟨x1, r1⟩ := l1 _ _ _ _ _ _ _ _ h1;obtain ⟨x2, r2⟩ := l2 _ _ _ _ _ _ _ _ h2;exact ⟨(x0, x1, x2), .glue r0 (.glue r1 r2)⟩
theorem Lifts.arg {P : Program} {t : TypeId} {fs : Array Field} {α : Type} {en : En α} (hl : Lifts P t en) (ht : P.underlying t = some (.struct fs)) {W : World} {r : Reach} {b0 : Nat} {v : Value} (hval : Value.okWide P W r b0 t v)
  {H : Type} {enc : TypeId × Value → H} {base : Nat} {held : Bool} {d : DataW H} {ps : List MemPlace} (h : DataW.Trod enc P W base (fun _ => true) held t v d ps) : ∃ a, RelV (snapR W 0) (.agg (en.f a)) v := by
 simp only [Value.okWide, ht] at hval;obtain ⟨cs, rfl, _, _⟩ := hval;obtain ⟨fuel, hf⟩ := h;obtain ⟨a, ha⟩ := hl _ _ _ _ _ _ _ _ hf;exact ⟨a, by simpa [Value.cells] using RelV.agg ha.1 ha.2⟩
theorem Lifts.argS {P : Program} {t e : TypeId} {α : Type} {en : En α} (hl : Lifts P t (encSl en)) (ht : P.underlying t = some (.slice e)) {W : World} {r : Reach} {b0 : Nat} {v : Value} (hval : Value.okWide P W r b0 t v)
  {H : Type} {enc : TypeId × Value → H} {base : Nat} {held : Bool} {d : DataW H} {ps : List MemPlace} (h : DataW.Trod enc P W base (fun _ => true) held t v d ps) : ∃ g : GS en, RelV (snapR W 0) g.v v := by
 obtain ⟨fuel, hf⟩ := h;obtain ⟨a, ha⟩ := hl _ _ _ _ _ _ _ _ hf;refine ⟨a, ?_⟩;cases v with
 | agg cs => simp [Value.okWide, ht, Cell.okWide, Cell.ok] at hval
 | slice x y z => exact ha.2 0 _ _ rfl rfl
 | _ => simp [Value.okWide, ht, Cell.okWide, Cell.ok] at hval
end Go.Am
end
section
namespace Go.Am
open Go.RowKit
set_option linter.unusedVariables false
def encU16 : En UInt16 := ⟨1, fun b => [ivk .u16 (b.toNat : Int)], fun _ => rfl⟩
theorem Lifts.u8 {P : Program} {t : TypeId} (ht : P.underlying t = some (.int .u8)) : Lifts P t encU8 := by
 intro H enc W base held fuel cs x hx;obtain ⟨n, rfl, _, hw⟩ := DataW.trod_int ht hx
 have hw : 0 ≤ n ∧ n ≤ 255 := by
  have := Bool.and_eq_true_iff.1 hw;exact ⟨of_decide_eq_true this.1, of_decide_eq_true this.2⟩
 have e : ((UInt8.ofNat n.toNat).toNat : Int) = n := by rw [UInt8.toNat_ofNat']; omega
 refine ⟨UInt8.ofNat n.toNat, .cons ?_ (.nil _)⟩;rw [e];exact .lit _
theorem Lifts.u16 {P : Program} {t : TypeId} (ht : P.underlying t = some (.int .u16)) : Lifts P t encU16 := by
 intro H enc W base held fuel cs x hx;obtain ⟨n, rfl, _, hw⟩ := DataW.trod_int ht hx
 have hw : 0 ≤ n ∧ n ≤ 65535 := by
  have := Bool.and_eq_true_iff.1 hw;exact ⟨of_decide_eq_true this.1, of_decide_eq_true this.2⟩
 have e : ((UInt16.ofNat n.toNat).toNat : Int) = n := by rw [UInt16.toNat_ofNat']; omega
 refine ⟨UInt16.ofNat n.toNat, .cons ?_ (.nil _)⟩;rw [e];exact .lit _
theorem Lifts.arr2 {P : Program} {t e : TypeId} {α : Type} {a : En α} (ht : P.underlying t = some (.array 2 e)) (ce : P.cellsOf e = a.u) (ct : P.cellsOf t = a.u + a.u) (hu : a.u = 1) (l : Lifts P e a) : Lifts P t (enPair a a) := by
 intro H enc W base held fuel cs x hx;obtain ⟨xs, n, _, _, hl, hn, h⟩ := DataW.trod_array ht hx
 have h0 := h 0 (by omega)
 have h1 := h 1 (by omega);rw [List.getElem?_eq_getElem (by omega), ce, Nat.zero_mul, List.drop_zero] at h0;rw [List.getElem?_eq_getElem (by omega), ce, Nat.one_mul, List.take_of_length_le (by simp; omega)] at h1;obtain ⟨x0, r0⟩ := l _ _ _ _ _ _ _ _ h0;obtain ⟨x1, r1⟩ := l _ _ _ _ _ _ _ _ h1;exact ⟨(x0, x1), .glue r0 r1⟩
end Go.Am
end
section
namespace Go.Am.Ythckcbfijdambaa
open Go.Am Go.RowKit Go.Proofs
theorem li_3 : Lifts Try.prog 3 encI := .int Try.underlying3
theorem li_96 : Lifts Try.prog 96 (enPair encI encI) := Lifts.struct2 Try.underlying96 rfl rfl (by kernel_rfl) (by kernel_rfl) (by kernel_rfl) li_3 li_3
theorem li_131 : Lifts Try.prog 131 encC := (Lifts.struct3 Try.underlying131 rfl rfl rfl (by kernel_rfl) (by kernel_rfl) (by kernel_rfl) (by kernel_rfl) li_3 li_3 li_3).map fun x => ⟨⟨x.1, x.2.1, x.2.2⟩, rfl⟩
theorem li_97 : Lifts Try.prog 97 (encSl encC) := .slice Try.underlying97 (by kernel_rfl) (by decide) li_131
theorem li_99 : Lifts Try.prog 99 encG := (Lifts.struct3 Try.underlying99 rfl rfl rfl (by kernel_rfl) (by kernel_rfl) (by kernel_rfl) (by kernel_rfl) li_96 li_3 li_97).map fun x => ⟨⟨x.1.1, x.1.2, x.2.1, x.2.2⟩, rfl⟩
theorem li_22 : Lifts Try.prog 22 (encSl encG) := .slice Try.underlying22 (by kernel_rfl) (by decide) li_99
theorem li_24 : Lifts Try.prog 24 encB := (Lifts.struct2 Try.underlying24 rfl rfl (by kernel_rfl) (by kernel_rfl) (by kernel_rfl) li_3 li_22).map fun x => ⟨⟨x.1, x.2⟩, rfl⟩
theorem li_26 : Lifts Try.prog 26 (encSl encI) := .slice Try.underlying26 (by kernel_rfl) (by decide) li_3
theorem li_53 : Lifts Try.prog 53 encIt := (Lifts.struct1 Try.underlying53 rfl (by kernel_rfl) (by kernel_rfl) li_26).map fun x => ⟨⟨x⟩, rfl⟩
theorem li_25 : Lifts Try.prog 25 (encSl encIt) := .slice Try.underlying25 (by kernel_rfl) (by decide) li_53
theorem li_36 : Lifts Try.prog 36 encCa := (Lifts.struct2 Try.underlying36 rfl rfl (by kernel_rfl) (by kernel_rfl) (by kernel_rfl) li_24 li_25).map fun x => ⟨⟨x.1, x.2⟩, rfl⟩
theorem li_44 : Lifts Try.prog 44 encU16 := .u16 Try.underlying44
theorem li_62 : Lifts Try.prog 62 (enPair encU16 encU16) := .arr2 Try.underlying62 (by kernel_rfl) (by kernel_rfl) rfl li_44
theorem li_74 : Lifts Try.prog 74 (enPair (encSl encIt) (encSl encIt)) := Lifts.struct2 Try.underlying74 rfl rfl (by kernel_rfl) (by kernel_rfl) (by kernel_rfl) li_25 li_25
theorem li_5 : Lifts Try.prog 5 encU8 := .u8 Try.underlying5
theorem li_75 : Lifts Try.prog 75 (encSl encU8) := .slice Try.underlying75 (by kernel_rfl) (by decide) li_5
end Go.Am.Ythckcbfijdambaa
end
section
namespace Go.Am
set_option linter.unusedVariables false
theorem i64_small {x : Int} (h : -4000000000000000000 ≤ x ∧ x ≤ 4000000000000000000) : I64 x := by unfold I64; omega
section
variable {σ ε J A β : Type}
theorem Ok.ifp {p : Prop} [Decidable p] {x y : Option β} {Q : β → Prop} (h : p) (hx : Ok x Q) : Ok (if p then x else y) Q := by rw [if_pos h]; exact hx
theorem Ok.ifn {p : Prop} [Decidable p] {x y : Option β} {Q : β → Prop} (h : ¬ p) (hy : Ok y Q) : Ok (if p then x else y) Q := by rw [if_neg h]; exact hy
theorem Ok.eq {x : Option β} {a : β} {Q : β → Prop} (h : x = Option.some a) (hq : Q a) : Ok x Q := ⟨a, h, hq⟩
theorem Ok.andx' {x : Option J} {k : J → Option β} {a : J} {Q : β → Prop} (h : x = Option.some a) (hk : Ok (k a) Q) : Ok (Am.andx x k) Q := by subst h; exact hk
def CountQ (idx : σ → Int) (I : Nat → σ → Prop) (k : Nat) (Q : ε → Prop) : Stp σ ε → Prop
 | .ag s => idx s = k + 1 ∧ I (k + 1) s
 | .dn e => Q e
def FinQ (Q : ε → Prop) : Stp σ ε → Prop
 | .ag _ => False
 | .dn e => Q e
theorem Ok.count (idx : σ → Int) (n : Nat) (I : Nat → σ → Prop) {body : σ → Option (Stp σ ε)} {s0 : σ} {Q : ε → Prop} (h0 : idx s0 = 0) (hI : I 0 s0)
  (step : ∀ k s, k < n → idx s = k → I k s → Ok (body s) (CountQ idx I k Q)) (fin : ∀ s, idx s = n → I n s → Ok (body s) (FinQ Q)) : Ok (Am.iter body s0) Q := by
 refine Ok.iter (fun s => ∃ k : Nat, k ≤ n ∧ idx s = k ∧ I k s) (fun s => n - (idx s).toNat) ⟨0, Nat.zero_le _, h0, hI⟩ ?_;rintro s ⟨k, hk, hx, hi⟩
 by_cases hlt : k < n
 ·refine (step k s hlt hx hi).mono fun x hq => ?_
  cases x with
  | ag s' =>
   have h1 : idx s' = k + 1 := hq.1;exact ⟨⟨k + 1, by omega, by rw [h1]; rfl, hq.2⟩, by show n - (idx s').toNat < n - (idx s).toNat; rw [h1, hx]; omega⟩
  | dn e => exact hq
 ·have : k = n := by omega
  subst this;refine (fin s hx hi).mono fun x hq => ?_
  cases x with
  | ag s' => exact hq.elim
  | dn e => exact hq
end
theorem get_of {α : Type} {l : List α} {k : Nat} {i : Int} {a : α} (h : l[i.toNat]? = some a) (hi : i = k) : l[k]? = some a := by rw [hi] at h; simpa using h
end Go.Am
end
section
namespace Go.Am
def cntOf (t : List Int) : Int → Int := fun x => ((t.countP fun y => decide (y = x) : Nat) : Int)
theorem cntOf_snoc (t : List Int) (n : Int) : cntOf (t ++ [n]) = putI (cntOf t) n (cntOf t n + 1) := by
 funext x
 unfold cntOf putI;rw [List.countP_append]
 by_cases h : x = n
 ·subst h; simp
 ·have : ¬ n = x := fun e => h e.symm
  simp [h, this]
theorem cntOf_le (t : List Int) (x : Int) : 0 ≤ cntOf t x ∧ cntOf t x ≤ t.length := by
 unfold cntOf
 have := List.countP_le_length (p := fun y => decide (y = x)) (l := t);omega
theorem cntOf_pos (t : List Int) (x : Int) : 0 < cntOf t x ↔ x ∈ t := by
 unfold cntOf;rw [show (0 < ((t.countP fun y => decide (y = x) : Nat) : Int)) ↔ 0 < t.countP fun y => decide (y = x) by omega, List.countP_pos_iff];simp
theorem there_ok {s : Int} {g : List Gat} {its : List Item} {lv : List Leaf} {mt t : List Int} (ht : t.length ≤ 1000000) : P_c_there s g its lv mt t = some (cntOf t) := by
 refine Ok.get ?_;unfold P_c_there;refine Ok.andx (P := fun f => f = cntOf t) (Ok.count Prod.fst t.length (fun k s => s.2 = cntOf (t.take k)) rfl rfl ?_ ?_) fun _ h => .some h
 ·rintro k ⟨x, f⟩ hk hx hf;simp only at hx hf;subst hf;unfold P_c_there_L1;refine .ifp (by omega) (.el (by omega) fun a ha => ?_)
  have ha := get_of ha hx
  have := cntOf_le (t.take k) a
  have : (t.take k).length ≤ t.length := by rw [List.length_take]; omega
  refine .chk (i64_small (by omega)) (.chk (i64_small (by omega)) (.some ⟨by simp only; omega, ?_⟩))
  show _ = cntOf (t.take (k + 1));rw [take_snoc ha, cntOf_snoc]
 ·rintro ⟨x, f⟩ hx hf;simp only at hx hf;unfold P_c_there_L1;refine .ifn (by omega) (.some ?_)
  show _ = _;rw [hf, List.take_length]
end Go.Am
end
section
namespace Go.Am
set_option linter.unusedVariables false
def isPlain (t : List Int) (k : Nat) (n : Int) : Bool := decide (0 ≤ n ∧ n ∉ t.take k)
def rnStep (g : Int → Int) (l : List S_copy_run) (i n : Int) : List S_copy_run :=
 match l[l.length - 1]? with
 | some r => if r.last < n ∧ g r.last = g n then l.set (l.length - 1) ⟨r.item, r.first, n⟩ else l ++ [⟨i, n, n⟩]
 | none => l ++ [⟨i, n, n⟩]
def runsTo (g : Int → Int) (t : List Int) : Nat → List S_copy_run
 | 0 => []
 | k + 1 => match t[k]? with | some n => if isPlain t k n = true then rnStep g (runsTo g t k) k n else runsTo g t k | none => runsTo g t k
def follow (last : Int) (ps : List (S_copy_run × Int)) (a : Int) : Int := ps.foldl (fun a p => if p.1.first > last then max a p.2 else a) a
def chains : List S_copy_run → List Int
 | [] => []
 | r :: l => (follow r.last (l.zip (chains l)) 0 + 1) :: chains l
def row (l : List S_copy_run) (i : Nat) : List Int := List.replicate i 0 ++ (chains (l.drop i) ++ List.replicate (120 - l.length) 0)
end Go.Am
end
section
namespace Go.Am
set_option linter.unusedVariables false
end Go.Am
end
