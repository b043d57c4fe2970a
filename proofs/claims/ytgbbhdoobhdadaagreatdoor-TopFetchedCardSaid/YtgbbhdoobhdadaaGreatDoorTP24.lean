/- Part 24. -/
import Derived.Test.YtgbbhdoobhdadaaGreatDoorTP23
import Derived.Test.YtgbbhdoobhdadaaGreatDoorTP2
section
namespace Go.Am.YtgbbhdoobhdadaaGreatDoor
open Go.Am Go.RowKit
set_option linter.unusedVariables false
set_option linter.unusedSimpArgs false
set_option maxRecDepth 100000
theorem T.seqEx {α : Type} {E : Env} {n : Nat} {rnd : Option Nat} {s : Sy} {I : α → Sy} {P : α → Prop} {Q : Exit → Sy → Prop} {x y : Code} (h1 : T E n rnd x s fun e s' => e = .normal ∧ ∃ z, P z ∧ Sub (I z) s') (h2 : ∀ z, P z → T E n rnd y (I z) Q) : T E n rnd (.seq x y) s Q :=
 .seq (h1.mono fun e s' ⟨he, z, hp, hs⟩ => by subst he; exact T.keep hs (h2 z hp))
def VisitW (k l many bm by_ bt bs bf : Nat) (D : List Thing) (all : List (List Int × List Int)) (Y Z : List (List Int × List Int) → List Thing → Prop) : Prop :=
 ∀ vis t s v v0 a w w0 b C, vis ++ [(t, s)] <+: all → Stk v v0 a t → Stk w w0 b s → t.length = many → s.length ≤ many → a.length ≤ many → Y vis C →
  TR (EL k) l [v, w] (.row bt 1 [v] :: .row bs 1 [w] :: .row bm 1 [iv (many : Int)] :: .row by_ 1 [.yield l] :: .row bf 1 [.func 97 [] [.ptr bm 0 1, .ptr by_ 0 1, .ptr bt 0 1, .ptr bs 0 1, .ptr bf 0 1]] :: ownL false v0 encI (a) :: ownL true w0 encI (b) :: (D ++ C)) (fun r hs' => (r = bv true ∧ ∃ C', hs' = .row bt 1 [v] :: .row bs 1 [w] :: .row bm 1 [iv (many : Int)] :: .row by_ 1 [.yield l] :: .row bf 1 [.func 97 [] [.ptr bm 0 1, .ptr by_ 0 1, .ptr bt 0 1, .ptr bs 0 1, .ptr bf 0 1]] :: ownL false v0 encI (a) :: ownL true w0 encI (b) :: (D ++ C') ∧ Y (vis ++ [(t, s)]) C') ∨ (r = bv false ∧ ∃ C', hs' = .row bt 1 [v] :: .row bs 1 [w] :: .row bm 1 [iv (many : Int)] :: .row by_ 1 [.yield l] :: .row bf 1 [.func 97 [] [.ptr bm 0 1, .ptr by_ 0 1, .ptr bt 0 1, .ptr bs 0 1, .ptr bf 0 1]] :: ownL false v0 encI (a) :: ownL true w0 encI (b) :: (D ++ C') ∧ Z (vis ++ [(t, s)]) C'))
theorem wk_pre {s : List Int} {f : Nat → List (List Int × List Int)} {c : Nat} (hc : c < s.length + 1) : ((List.range c).flatMap f) ++ f c <+: (List.range (s.length + 1)).flatMap f := by
 obtain ⟨r, hr⟩ : ∃ r, List.range (s.length + 1) = List.range c ++ c :: r := by
  refine ⟨(List.range (s.length + 1)).drop (c + 1), ?_⟩
  have h : (List.range (s.length + 1)).take c = List.range c := by rw [List.take_range, Nat.min_eq_left (by omega)]
  rw [← h]
  conv => lhs; rw [← List.take_append_drop c (List.range (s.length + 1))]
  rw [List.drop_eq_getElem_cons (by simpa using hc)];simp
 refine ⟨r.flatMap f, ?_⟩;rw [hr, List.flatMap_append, List.flatMap_cons, List.append_assoc]
theorem wk_fill {k many bm by_ bt bs bf l : Nat} {D : List Thing} {Y Z : List (List Int × List Int) → List Thing → Prop} (hm6 : many ≤ 6) {all : List (List Int × List Int)} (hy : VisitW k l many bm by_ bt bs bf D all Y Z) :
    ∀ (m i : Nat) (j : Int) (t s : List Int) (v v0 : AV) (a : List Int) (w w0 : AV) (b : List Int) (vis : List (List Int × List Int)) (C : List Thing), j = i → i + m = many → t.length = i → GoodS i s → Stk v v0 a t → Stk w w0 b s → a.length ≤ many → b.length ≤ many → Y vis C → vis ++ wk m i t s <+: all →
    TF (EL k) 97 [iv j, .ptr bm 0 1, .ptr by_ 0 1, .ptr bt 0 1, .ptr bs 0 1, .ptr bf 0 1] (.row bt 1 [v] :: .row bs 1 [w] :: .row bm 1 [iv (many : Int)] :: .row by_ 1 [.yield l] :: .row bf 1 [.func 97 [] [.ptr bm 0 1, .ptr by_ 0 1, .ptr bt 0 1, .ptr bs 0 1, .ptr bf 0 1]] :: ownL false v0 encI (a) :: ownL true w0 encI (b) :: (D ++ C)) (fun r hs' => ∃ v' v0' a' w' w0' b' C', hs' = .row bt 1 [v'] :: .row bs 1 [w'] :: .row bm 1 [iv (many : Int)] :: .row by_ 1 [.yield l] :: .row bf 1 [.func 97 [] [.ptr bm 0 1, .ptr by_ 0 1, .ptr bt 0 1, .ptr bs 0 1, .ptr bf 0 1]] :: ownL false v0' encI (a') :: ownL true w0' encI (b') :: (D ++ C') ∧
      ((r = bv true ∧ Stk v' v0' a' t ∧ Stk w' w0' b' s ∧ a'.length ≤ many ∧ b'.length ≤ many ∧ Y (vis ++ wk m i t s) C') ∨ (r = bv false ∧ ∃ q r', wk m i t s = q ++ r' ∧ Z (vis ++ q) C'))) := by
  intro m
  induction m with
  | zero =>
    intro i j t s v v0 a w w0 b vis C hj him htl hg hSt hSs hal hbl hY hp
    subst hj
    refine TF.enter (fn := Go.Proofs.Tryz.f97) rfl rfl rfl rfl rfl ?_
    refine T.seq ?_
    refine T.text rfl ?_
    refine TO.val rfl rfl rfl (Val.assign rfl) ?_
    refine TO.nil ?_
    refine T.seq ?_
    refine T.seq ?_
    refine T.text rfl ?_
    refine TO.val rfl rfl rfl (Val.move rfl) ?_
    refine TO.val rfl rfl rfl (Val.load_row (p := 2) rfl ⟨_, rfl, rfl⟩ rfl rfl rfl) ?_
    refine TO.eql rfl rfl rfl rfl rfl (fun c11 hc11 => ?_)
    refine TO.nil ?_
    have hc : c11 = true := hc11.2 (by omega)
    subst hc
    refine T.condT (fun a ha => ha.ev (.tmp 11) _ rfl) ?_
    refine T.seq ?_
    refine T.text rfl ?_
    refine TO.val rfl rfl rfl (Val.load_row (p := 3) rfl ⟨_, rfl, rfl⟩ rfl rfl rfl) ?_
    refine TO.val rfl rfl rfl (Val.load_row (p := 0) rfl ⟨_, rfl, rfl⟩ rfl rfl rfl) ?_
    refine TO.val rfl rfl rfl (Val.load_row (p := 1) rfl ⟨_, rfl, rfl⟩ rfl rfl rfl) ?_
    refine TO.callY rfl rfl rfl rfl rfl (hy vis t s v v0 a w w0 b C hp hSt hSs (by omega) (by have := hg.len; omega) hal hY) ?_
    rintro _ _ (⟨rfl, C1, rfl, hY1⟩ | ⟨rfl, C1, rfl, hZ1⟩)
    · skip
      refine TO.things (hs' := .row bt 1 [v] :: .row bs 1 [w] :: .row bm 1 [iv (many : Int)] :: .row by_ 1 [.yield l] :: .row bf 1 [.func 97 [] [.ptr bm 0 1, .ptr by_ 0 1, .ptr bt 0 1, .ptr bs 0 1, .ptr bf 0 1]] :: ownL false v0 encI (a) :: ownL true w0 encI (b) :: (D ++ C1)) rfl ?_
      refine TO.val rfl rfl rfl (Val.assign rfl) ?_
      refine TO.nil ?_
      refine T.ret ?_
      exact ⟨rfl, _, rfl, v, v0, a, w, w0, b, C1, rfl, .inl ⟨rfl, hSt, hSs, hal, hbl, hY1⟩⟩
    · skip
      refine TO.things (hs' := .row bt 1 [v] :: .row bs 1 [w] :: .row bm 1 [iv (many : Int)] :: .row by_ 1 [.yield l] :: .row bf 1 [.func 97 [] [.ptr bm 0 1, .ptr by_ 0 1, .ptr bt 0 1, .ptr bs 0 1, .ptr bf 0 1]] :: ownL false v0 encI (a) :: ownL true w0 encI (b) :: (D ++ C1)) rfl ?_
      refine TO.val rfl rfl rfl (Val.assign rfl) ?_
      refine TO.nil ?_
      refine T.ret ?_
      exact ⟨rfl, _, rfl, v, v0, a, w, w0, b, C1, rfl, .inr ⟨rfl, [(t, s)], [], rfl, hZ1⟩⟩
  | succ m ih =>
    intro i j t s v v0 a w w0 b vis C hj him htl hg hSt hSs hal hbl hY hp
    subst hj
    have hgl := hg.len
    refine TF.enter (fn := Go.Proofs.Tryz.f97) rfl rfl rfl rfl rfl ?_
    refine T.seq ?_
    refine T.text rfl ?_
    refine TO.val rfl rfl rfl (Val.assign rfl) ?_
    refine TO.nil ?_
    refine T.seq ?_
    refine T.seq ?_
    refine T.text rfl ?_
    refine TO.val rfl rfl rfl (Val.move rfl) ?_
    refine TO.val rfl rfl rfl (Val.load_row (p := 2) rfl ⟨_, rfl, rfl⟩ rfl rfl rfl) ?_
    refine TO.eql rfl rfl rfl rfl rfl (fun c11 hc11 => ?_)
    refine TO.nil ?_
    have hc : c11 = false := by cases c11 with | false => rfl | true => (have := hc11.1 rfl; omega)
    subst hc
    refine T.condF (fun a ha => ha.ev (.tmp 11) _ rfl) ?_
    refine T.skip ?_
    refine T.seq ?_
    refine T.seq ?_
    refine T.text rfl ?_
    refine TO.val rfl rfl rfl (Val.load_row (p := 1) rfl ⟨_, rfl, rfl⟩ rfl rfl rfl) ?_
    refine TO.val rfl rfl rfl (Val.len_pre hSs.pre rfl rfl) ?_
    refine TO.val rfl rfl rfl (Val.add rfl rfl (by omega)) ?_
    refine TO.val rfl rfl rfl (Val.move rfl) ?_
    refine TO.nil ?_
    refine T.block ?_
    refine T.loop (fun μ s_ => ∃ c : Nat, ∃ jc : Int, ∃ v v0 : AV, ∃ a : List Int, ∃ w w0 : AV, ∃ b : List Int, ∃ C2 : List Thing, μ = s.length + 1 - c ∧ jc = c ∧ c ≤ s.length + 1 ∧ Stk v v0 a t ∧ Stk w w0 b s ∧ a.length ≤ many ∧ b.length ≤ many ∧ Y (vis ++ (List.range c).flatMap (fun n : Nat => wk m (i + 1) (t ++ [(n : Int)]) (wkSet s n i))) C2 ∧ s_ = ⟨[], [(0, iv (i : Int)), (1, .ptr bm 0 1), (2, .ptr by_ 0 1), (3, .ptr bt 0 1), (4, .ptr bs 0 1), (5, .ptr bf 0 1), (18, iv ((s.length : Int) + 1)), (19, iv jc)], .row bt 1 [v] :: .row bs 1 [w] :: .row bm 1 [iv (many : Int)] :: .row by_ 1 [.yield l] :: .row bf 1 [.func 97 [] [.ptr bm 0 1, .ptr by_ 0 1, .ptr bt 0 1, .ptr bs 0 1, .ptr bf 0 1]] :: ownL false v0 encI (a) :: ownL true w0 encI (b) :: (D ++ C2)⟩) (k := _) (s' := _) ⟨0, 0, v, v0, a, w, w0, b, C, rfl, rfl, Nat.zero_le _, hSt, hSs, hal, hbl, by simpa using hY, rfl⟩ ⟨rfl, (keep_cons rfl (keep_cons rfl (keep_cons rfl (keep_cons rfl (keep_cons rfl (keep_cons rfl (keep_cons rfl (keep_cons rfl keep_nil)))))))), (.cons_cons _ (.cons_cons _ (.cons_cons _ (.cons_cons _ (.cons_cons _ (.cons_cons _ (.cons_cons _ (.refl _))))))))⟩ ?_
    clear hY hSt hSs hal hbl
    clear v v0 a w w0 b C
    rintro μ _ ⟨c, jc, v, v0, a, w, w0, b, C2, hk0, hjc, hcl, hSt, hSs, hal, hbl, hY2, rfl⟩
    subst hjc
    refine T.seq ?_
    refine T.text rfl ?_
    refine TO.lss rfl rfl rfl rfl rfl (fun c20 hc20 => ?_)
    refine TO.nil ?_
    refine T.seq ?_
    cases c20 with
    | true =>
      replace hc20 := btrue hc20
      have hcs : c ≤ s.length := by omega
      obtain ⟨x, hx, hxo, hxn⟩ := extS_at hcs
      have hxr := hg.ext hcs hx
      have hel := extS_len hcs
      have hbo := bit_ops (i := i) (x := x) (by omega) hxr.1 hxr.2.1
      have hsb := bit_ok (i := i) (by omega)
      refine T.condT (fun a ha => ha.ev (.tmp 20) _ rfl) ?_
      refine T.skip ?_
      refine T.seq ?_
      refine T.block ?_
      refine T.seq ?_
      refine T.text rfl ?_
      refine TO.val rfl rfl rfl (Val.move rfl) ?_
      refine TO.val rfl rfl rfl (Val.assign rfl) ?_
      refine TO.nil ?_
      refine T.seqEx (α := AV × AV × List Int) (I := fun z => ⟨[], [(0, iv (i : Int)), (1, .ptr bm 0 1), (2, .ptr by_ 0 1), (3, .ptr bt 0 1), (4, .ptr bs 0 1), (5, .ptr bf 0 1), (8, iv (c : Int)), (18, iv ((s.length : Int) + 1)), (19, iv (c : Int))], .row bt 1 [v] :: .row bs 1 [z.1] :: .row bm 1 [iv (many : Int)] :: .row by_ 1 [.yield l] :: .row bf 1 [.func 97 [] [.ptr bm 0 1, .ptr by_ 0 1, .ptr bt 0 1, .ptr bs 0 1, .ptr bf 0 1]] :: ownL false v0 encI (a) :: ownL true z.2.1 encI (z.2.2) :: (D ++ C2)⟩) (P := fun z => Stk z.1 z.2.1 z.2.2 (extS s c) ∧ z.2.2.length ≤ many) ?_ ?_
      · refine T.seq ?_
        refine T.text rfl ?_
        refine TO.val rfl rfl rfl (Val.move rfl) ?_
        refine TO.val rfl rfl rfl (Val.load_row (p := 1) rfl ⟨_, rfl, rfl⟩ rfl rfl rfl) ?_
        refine TO.val rfl rfl rfl (Val.len_pre hSs.pre rfl rfl) ?_
        refine TO.eql rfl rfl rfl rfl rfl (fun c25 hc25 => ?_)
        refine TO.nil ?_
        cases c25 with
        | true =>
          replace hc25 := btrue hc25
          have hce : c = s.length := by omega
          refine T.condT (fun a ha => ha.ev (.tmp 25) _ rfl) ?_
          refine T.text rfl ?_
          refine TO.val rfl rfl rfl (Val.load_row (p := 1) rfl ⟨_, rfl, rfl⟩ rfl rfl rfl) ?_
          refine TO.build1 (en := encI) (a := 0) rfl rfl rfl ⟨rfl, rfl⟩ ⟨_, rfl, rfl⟩ (by decide) (by decide) rfl rfl (fun v27 => ?_)
          refine TO.eff rfl rfl rfl (Eff.push (b := 8) (p := 7) (q := 0) hSs.pre ⟨rfl, rfl, rfl, ⟨_, rfl, rfl⟩, by decide, by decide⟩ rfl rfl rfl rfl rfl rfl (by decide) (by omega)) ?_
          rintro w28 _ ⟨w10, rfl, hp28⟩
          have hS28 := hSs.push hp28
          have hb28 := push_len (x := 0) (show s.length < many by omega) hbl hSs.pre.le
          refine TO.things (hs' := ownL false v27 encI [0] :: .row bt 1 [v] :: .row bs 1 [w] :: .row bm 1 [iv (many : Int)] :: .row by_ 1 [.yield l] :: .row bf 1 [.func 97 [] [.ptr bm 0 1, .ptr by_ 0 1, .ptr bt 0 1, .ptr bs 0 1, .ptr bf 0 1]] :: ownL false v0 encI (a) :: ownL true w10 encI (pushL b s.length 0) :: (D ++ C2)) rfl ?_
          refine TO.store_row (p := 2) (cv := [_]) (cells' := [_]) rfl rfl rfl rfl rfl rfl rfl hS28.pre.cell.1 rfl rfl (by simp [hS28.pre.cell.2]) (by decide) rfl ?_
          refine TO.things (hs' := ownL false v27 encI [0] :: .row bt 1 [v] :: .row bs 1 [w28] :: .row bm 1 [iv (many : Int)] :: .row by_ 1 [.yield l] :: .row bf 1 [.func 97 [] [.ptr bm 0 1, .ptr by_ 0 1, .ptr bt 0 1, .ptr bs 0 1, .ptr bf 0 1]] :: ownL false v0 encI (a) :: ownL true w10 encI (pushL b s.length 0) :: (D ++ C2)) rfl ?_
          refine TO.nil ?_
          exact ⟨rfl, (w28, w10, pushL b s.length 0), ⟨by unfold extS; rw [if_pos hce]; exact hS28, hb28⟩, ⟨rfl, (keep_cons rfl (keep_cons rfl (keep_cons rfl (keep_cons rfl (keep_cons rfl (keep_cons rfl (keep_cons rfl (keep_cons rfl (keep_cons rfl keep_nil))))))))), .cons _ (.refl _)⟩⟩
        | false =>
          replace hc25 := bfalse hc25
          have hce : ¬ c = s.length := by omega
          refine T.condF (fun a ha => ha.ev (.tmp 25) _ rfl) ?_
          refine T.skip ?_
          exact ⟨rfl, (w, w0, b), ⟨by unfold extS; rw [if_neg hce]; exact hSs, hbl⟩, ⟨rfl, (keep_cons rfl (keep_cons rfl (keep_cons rfl (keep_cons rfl (keep_cons rfl (keep_cons rfl (keep_cons rfl (keep_cons rfl (keep_cons rfl keep_nil))))))))), .refl _⟩⟩
      rintro ⟨w1, w10, b1⟩ ⟨hS1, hb1⟩
      simp only at hS1 hb1 ⊢
      refine T.seq ?_
      refine T.drawE (l1 := [0, 1, 2, 3, 4, 5, 6, 7]) (l2 := [8]) (by kernel_rfl) (by kernel_rfl) ?_
      refine TD1.read rfl rfl rfl rfl (Val.load_row (p := 1) rfl ⟨_, rfl, rfl⟩ rfl rfl rfl) ?_
      refine TD1.light rfl rfl rfl rfl (Val.move rfl) ?_
      refine TD1.fact (pre_at hS1.pre (by omega)) (fun hp_ => ?_)
      obtain ⟨idb, atb⟩ := hp_
      refine TD1.light rfl rfl rfl rfl (Val.iaddr_pre hS1.pre atb ⟨rfl, rfl⟩ rfl rfl ⟨by omega, by omega⟩) ?_
      refine TD1.read rfl rfl rfl rfl (Val.load_ownL (en := encI) (p := 6) (j := 0) rfl atb ⟨_, rfl, rfl⟩ rfl (hS1.get (by simpa using hx)) rfl) ?_
      refine TD1.light rfl rfl rfl rfl (Val.move rfl) ?_
      refine TD1.light rfl rfl rfl rfl (Val.shl rfl rfl hsb) ?_
      refine TD1.light rfl rfl rfl rfl (Val.or rfl rfl) ?_
      refine TD1.light rfl rfl rfl rfl (Val.iaddr_pre hS1.pre atb ⟨rfl, rfl⟩ rfl rfl ⟨by omega, by omega⟩) ?_
      refine TD1.over (fun v => sameC_refl v) (all_cons (⟨_, rfl, (Val.load_ownL (en := encI) (p := 6) (j := 0) rfl atb ⟨_, rfl, rfl⟩ rfl (hS1.get (by simpa using hx)) rfl)⟩) (all_cons (⟨_, rfl, (Val.load_row (p := 1) rfl ⟨_, rfl, rfl⟩ rfl rfl rfl)⟩) all_nil)) ?_
      refine TD2.heavy (fun v => sameC_refl v) rfl (by decide) rfl rfl (OpS.eff (Eff.store_ownE (en := encI) (p := 6) (a := x) (a' := x + 2 ^ i) (j := 0) (cv := [_]) rfl atb (hS1.get (by simpa using hx)) rfl rfl (by decide) rfl rfl rfl rfl (by first | rfl | (simp [GS.one]; done)) (by rw [hbo.1]; rfl))) ?_
      rintro _ _ rfl
      refine ⟨(all_cons (.inl (by kernel_rfl)) (all_cons (.inl (by kernel_rfl)) all_nil)), all_nil, ?_⟩
      refine TD2.things (hs' := .row bt 1 [v] :: .row bs 1 [w1] :: .row bm 1 [iv (many : Int)] :: .row by_ 1 [.yield l] :: .row bf 1 [.func 97 [] [.ptr bm 0 1, .ptr by_ 0 1, .ptr bt 0 1, .ptr bs 0 1, .ptr bf 0 1]] :: ownL false v0 encI (a) :: ownL true w10 encI (b1.set c (x + 2 ^ i)) :: (D ++ C2)) rfl ?_
      refine TD2.nil ?_
      have hS2 := hS1.set c (x + 2 ^ i)
      rw [← wkSet_of hx] at hS2
      refine T.seq ?_
      refine T.text rfl ?_
      refine TO.val rfl rfl rfl (Val.load_row (p := 0) rfl ⟨_, rfl, rfl⟩ rfl rfl rfl) ?_
      refine TO.val rfl rfl rfl (Val.move rfl) ?_
      refine TO.build1 (en := encI) (a := (c : Int)) rfl rfl rfl ⟨rfl, rfl⟩ ⟨_, rfl, rfl⟩ (by decide) (by decide) rfl rfl (fun v39 => ?_)
      refine TO.eff rfl rfl rfl (Eff.push (b := 8) (p := 6) (q := 0) hSt.pre ⟨rfl, rfl, rfl, ⟨_, rfl, rfl⟩, by decide, by decide⟩ rfl rfl rfl rfl rfl rfl (by decide) (by omega)) ?_
      rintro v40 _ ⟨v10, rfl, hp40⟩
      have hS40 := hSt.push hp40
      have ha40 := push_len (x := (c : Int)) (show t.length < many by omega) hal hSt.pre.le
      refine TO.things (hs' := ownL false v39 encI [(c : Int)] :: .row bt 1 [v] :: .row bs 1 [w1] :: .row bm 1 [iv (many : Int)] :: .row by_ 1 [.yield l] :: .row bf 1 [.func 97 [] [.ptr bm 0 1, .ptr by_ 0 1, .ptr bt 0 1, .ptr bs 0 1, .ptr bf 0 1]] :: ownL false v10 encI (pushL a t.length (c : Int)) :: ownL true w10 encI (b1.set c (x + 2 ^ i)) :: (D ++ C2)) rfl ?_
      refine TO.store_row (p := 1) (cv := [_]) (cells' := [_]) rfl rfl rfl rfl rfl rfl rfl hS40.pre.cell.1 rfl rfl (by simp [hS40.pre.cell.2]) (by decide) rfl ?_
      refine TO.things (hs' := ownL false v39 encI [(c : Int)] :: .row bt 1 [v40] :: .row bs 1 [w1] :: .row bm 1 [iv (many : Int)] :: .row by_ 1 [.yield l] :: .row bf 1 [.func 97 [] [.ptr bm 0 1, .ptr by_ 0 1, .ptr bt 0 1, .ptr bs 0 1, .ptr bf 0 1]] :: ownL false v10 encI (pushL a t.length (c : Int)) :: ownL true w10 encI (b1.set c (x + 2 ^ i)) :: (D ++ C2)) rfl ?_
      refine TO.keep (s' := ⟨[], [(0, iv (i : Int)), (1, .ptr bm 0 1), (2, .ptr by_ 0 1), (3, .ptr bt 0 1), (4, .ptr bs 0 1), (5, .ptr bf 0 1), (8, iv (c : Int)), (18, iv ((s.length : Int) + 1)), (19, iv (c : Int))], .row bt 1 [v40] :: .row bs 1 [w1] :: .row bm 1 [iv (many : Int)] :: .row by_ 1 [.yield l] :: .row bf 1 [.func 97 [] [.ptr bm 0 1, .ptr by_ 0 1, .ptr bt 0 1, .ptr bs 0 1, .ptr bf 0 1]] :: ownL false v10 encI (pushL a t.length (c : Int)) :: ownL true w10 encI (b1.set c (x + 2 ^ i)) :: (D ++ C2)⟩) ⟨rfl, (keep_cons rfl (keep_cons rfl (keep_cons rfl (keep_cons rfl (keep_cons rfl (keep_cons rfl (keep_cons rfl (keep_cons rfl (keep_cons rfl keep_nil))))))))), .cons _ (.refl _)⟩ ?_
      refine TO.nil ?_
      refine T.seq ?_
      refine T.seq ?_
      refine T.text rfl ?_
      refine TO.val rfl rfl rfl (Val.load_row (p := 4) rfl ⟨_, rfl, rfl⟩ rfl rfl rfl) ?_
      refine TO.val rfl rfl rfl (Val.move rfl) ?_
      refine TO.val rfl rfl rfl (Val.add rfl rfl (by omega)) ?_
      have hpn : vis ++ ((List.range c).flatMap (fun n : Nat => wk m (i + 1) (t ++ [(n : Int)]) (wkSet s n i)) ++ wk m (i + 1) (t ++ [(c : Int)]) (wkSet s c i)) <+: all := by
        obtain ⟨r0, hr0⟩ := wk_pre (s := s) (f := (fun n : Nat => wk m (i + 1) (t ++ [(n : Int)]) (wkSet s n i))) (c := c) (by omega)
        obtain ⟨r1, hr1⟩ := hp
        refine ⟨r0 ++ r1, ?_⟩
        rw [← hr1]
        show _ = vis ++ (List.range (s.length + 1)).flatMap _ ++ r1
        rw [← hr0]
        simp [List.append_assoc]
      refine TO.callV rfl rfl rfl rfl rfl rfl (orcN rfl) (ih (i + 1) _ (t ++ [(c : Int)]) (wkSet s c i) v40 v10 (pushL a t.length (c : Int)) w1 w10 (b1.set c (x + 2 ^ i)) _ C2 (by omega) (by omega) (by simp; omega) (hg.next hcs) hS40 hS2 ha40 (by rw [List.length_set]; exact hb1) hY2 (by rw [List.append_assoc]; exact hpn)) ?_
      rintro _ _ ⟨v3, v30, a3, w3, w30, b3, C3, rfl, (⟨rfl, hSt3, hSs3, ha3, hb3, hY3⟩ | ⟨rfl, q1, r1, hq1, hZ1⟩)⟩
      · skip
        refine TO.things (hs' := .row bt 1 [v3] :: .row bs 1 [w3] :: .row bm 1 [iv (many : Int)] :: .row by_ 1 [.yield l] :: .row bf 1 [.func 97 [] [.ptr bm 0 1, .ptr by_ 0 1, .ptr bt 0 1, .ptr bs 0 1, .ptr bf 0 1]] :: ownL false v30 encI (a3) :: ownL true w30 encI (b3) :: (D ++ C3)) rfl ?_
        refine TO.val rfl rfl rfl (Val.not rfl) ?_
        refine TO.nil ?_
        refine T.condF (fun a ha => ha.ev (.tmp 45) _ rfl) ?_
        refine T.skip ?_
        refine T.seq ?_
        refine T.text rfl ?_
        refine TO.val rfl rfl rfl (Val.load_row (p := 0) rfl ⟨_, rfl, rfl⟩ rfl rfl rfl) ?_
        refine TO.val rfl rfl rfl (Val.move rfl) ?_
        obtain ⟨v4, hp48, hv48⟩ := Val.slice_pre_ hSt3 (j := i) (by simp; omega)
        refine TO.val rfl rfl rfl (hv48 (p := 5) rfl ⟨rfl, rfl⟩ rfl rfl) ?_
        have hS4 := hSt3.cut (j := i) (by simp; omega) hp48
        rw [show (t ++ [(c : Int)]).take i = t by rw [← htl]; simp] at hS4
        refine TO.store_row (p := 0) (cv := [_]) (cells' := [_]) rfl rfl rfl rfl rfl rfl rfl hS4.pre.cell.1 rfl rfl (by simp [hS4.pre.cell.2]) (by decide) rfl ?_
        refine TO.things (hs' := .row bt 1 [v4] :: .row bs 1 [w3] :: .row bm 1 [iv (many : Int)] :: .row by_ 1 [.yield l] :: .row bf 1 [.func 97 [] [.ptr bm 0 1, .ptr by_ 0 1, .ptr bt 0 1, .ptr bs 0 1, .ptr bf 0 1]] :: ownL false v30 encI (a3) :: ownL true w30 encI (b3) :: (D ++ C3)) rfl ?_
        refine TO.nil ?_
        have hx3 : (wkSet s c i)[c]? = some (x + 2 ^ i) := by rw [wkSet_of hx, List.getElem?_set_self hel.1]
        have hl3 := (List.getElem?_eq_some_iff.1 hx3).1
        refine T.seq ?_
        refine T.drawE (l1 := [0, 1, 2, 3, 4, 5, 6, 7]) (l2 := [8]) (by kernel_rfl) (by kernel_rfl) ?_
        refine TD1.read rfl rfl rfl rfl (Val.load_row (p := 1) rfl ⟨_, rfl, rfl⟩ rfl rfl rfl) ?_
        refine TD1.light rfl rfl rfl rfl (Val.move rfl) ?_
        refine TD1.fact (pre_at hSs3.pre (by omega)) (fun hp_ => ?_)
        obtain ⟨idb, atb⟩ := hp_
        refine TD1.light rfl rfl rfl rfl (Val.iaddr_pre hSs3.pre atb ⟨rfl, rfl⟩ rfl rfl ⟨by omega, by omega⟩) ?_
        refine TD1.read rfl rfl rfl rfl (Val.load_ownL (en := encI) (p := 6) (j := 0) rfl atb ⟨_, rfl, rfl⟩ rfl (hSs3.get (by simpa using hx3)) rfl) ?_
        refine TD1.light rfl rfl rfl rfl (Val.move rfl) ?_
        refine TD1.light rfl rfl rfl rfl (Val.shl rfl rfl hsb) ?_
        refine TD1.light rfl rfl rfl rfl (Val.andNot rfl rfl) ?_
        refine TD1.light rfl rfl rfl rfl (Val.iaddr_pre hSs3.pre atb ⟨rfl, rfl⟩ rfl rfl ⟨by omega, by omega⟩) ?_
        refine TD1.over (fun v => sameC_refl v) (all_cons (⟨_, rfl, (Val.load_ownL (en := encI) (p := 6) (j := 0) rfl atb ⟨_, rfl, rfl⟩ rfl (hSs3.get (by simpa using hx3)) rfl)⟩) (all_cons (⟨_, rfl, (Val.load_row (p := 1) rfl ⟨_, rfl, rfl⟩ rfl rfl rfl)⟩) all_nil)) ?_
        refine TD2.heavy (fun v => sameC_refl v) rfl (by decide) rfl rfl (OpS.eff (Eff.store_ownE (en := encI) (p := 6) (a := x + 2 ^ i) (a' := x) (j := 0) (cv := [_]) rfl atb (hSs3.get (by simpa using hx3)) rfl rfl (by decide) rfl rfl rfl rfl (by first | rfl | (simp [GS.one]; done)) (by rw [hbo.2]; rfl))) ?_
        rintro _ _ rfl
        refine ⟨(all_cons (.inl (by kernel_rfl)) (all_cons (.inl (by kernel_rfl)) all_nil)), all_nil, ?_⟩
        refine TD2.things (hs' := .row bt 1 [v4] :: .row bs 1 [w3] :: .row bm 1 [iv (many : Int)] :: .row by_ 1 [.yield l] :: .row bf 1 [.func 97 [] [.ptr bm 0 1, .ptr by_ 0 1, .ptr bt 0 1, .ptr bs 0 1, .ptr bf 0 1]] :: ownL false v30 encI (a3) :: ownL true w30 encI (b3.set c x) :: (D ++ C3)) rfl ?_
        refine TD2.nil ?_
        have hS5 := hSs3.set c x
        rw [wkSet_back hx] at hS5
        refine T.monoS (Q := fun e s_ => e = .normal ∧ ∃ w6 : AV, Stk w6 w30 (b3.set c x) s ∧ Sub ⟨[], [(0, iv (i : Int)), (1, .ptr bm 0 1), (2, .ptr by_ 0 1), (3, .ptr bt 0 1), (4, .ptr bs 0 1), (5, .ptr bf 0 1), (18, iv ((s.length : Int) + 1)), (19, iv (c : Int))], .row bt 1 [v4] :: .row bs 1 [w6] :: .row bm 1 [iv (many : Int)] :: .row by_ 1 [.yield l] :: .row bf 1 [.func 97 [] [.ptr bm 0 1, .ptr by_ 0 1, .ptr bt 0 1, .ptr bs 0 1, .ptr bf 0 1]] :: ownL false v30 encI (a3) :: ownL true w30 encI (b3.set c x) :: (D ++ C3)⟩ s_) ?_ ?_
        · refine T.seq ?_
          refine T.text rfl ?_
          refine TO.val rfl rfl rfl (Val.load_row (p := 1) rfl ⟨_, rfl, rfl⟩ rfl rfl rfl) ?_
          refine TO.val rfl rfl rfl (Val.move rfl) ?_
          refine TO.fact (pre_at hS5.pre (by omega)) (fun hp_ => ?_)
          obtain ⟨idb, atb⟩ := hp_
          refine TO.val rfl rfl rfl (Val.iaddr_pre hS5.pre atb ⟨rfl, rfl⟩ rfl rfl ⟨by omega, by omega⟩) ?_
          refine TO.val rfl rfl rfl (Val.load_ownL (en := encI) (p := 6) (j := 0) rfl atb ⟨_, rfl, rfl⟩ rfl (hS5.get (by simpa using hx)) rfl) ?_
          refine TO.eql rfl rfl rfl rfl rfl (fun c61 hc61 => ?_)
          refine TO.nil ?_
          cases c61 with
          | true =>
            replace hc61 := btrue hc61
            have hce : c = s.length := by have := hxr.2.2; omega
            refine T.condT (fun a ha => ha.ev (.tmp 61) _ rfl) ?_
            refine T.text rfl ?_
            refine TO.val rfl rfl rfl (Val.load_row (p := 1) rfl ⟨_, rfl, rfl⟩ rfl rfl rfl) ?_
            refine TO.val rfl rfl rfl (Val.move rfl) ?_
            obtain ⟨w4, hp64, hw64⟩ := Val.slice_pre_ hS5 (j := c) (by omega)
            refine TO.val rfl rfl rfl (hw64 (p := 6) rfl ⟨rfl, rfl⟩ rfl rfl) ?_
            have hS6 := hS5.cut (j := c) (by omega) hp64
            rw [extS_cut hce] at hS6
            refine TO.store_row (p := 1) (cv := [_]) (cells' := [_]) rfl rfl rfl rfl rfl rfl rfl hS6.pre.cell.1 rfl rfl (by simp [hS6.pre.cell.2]) (by decide) rfl ?_
            refine TO.things (hs' := .row bt 1 [v4] :: .row bs 1 [w4] :: .row bm 1 [iv (many : Int)] :: .row by_ 1 [.yield l] :: .row bf 1 [.func 97 [] [.ptr bm 0 1, .ptr by_ 0 1, .ptr bt 0 1, .ptr bs 0 1, .ptr bf 0 1]] :: ownL false v30 encI (a3) :: ownL true w30 encI (b3.set c x) :: (D ++ C3)) rfl ?_
            refine TO.nil ?_
            exact ⟨rfl, w4, hS6, ⟨rfl, (keep_cons rfl (keep_cons rfl (keep_cons rfl (keep_cons rfl (keep_cons rfl (keep_cons rfl (keep_cons rfl (keep_cons rfl keep_nil)))))))), .refl _⟩⟩
          | false =>
            replace hc61 := bfalse hc61
            have hce : ¬ c = s.length := fun h => hc61 (hxn h)
            refine T.condF (fun a ha => ha.ev (.tmp 61) _ rfl) ?_
            refine T.skip ?_
            exact ⟨rfl, w3, by have := hS5; unfold extS at this; rwa [if_neg hce] at this, ⟨rfl, (keep_cons rfl (keep_cons rfl (keep_cons rfl (keep_cons rfl (keep_cons rfl (keep_cons rfl (keep_cons rfl (keep_cons rfl keep_nil)))))))), .refl _⟩⟩
        rintro e ⟨ms1, sl1, hs1⟩ ⟨rfl, w6, hS6, hsub⟩
        refine ⟨⟨[], [(0, iv (i : Int)), (1, .ptr bm 0 1), (2, .ptr by_ 0 1), (3, .ptr bt 0 1), (4, .ptr bs 0 1), (5, .ptr bf 0 1), (18, iv ((s.length : Int) + 1)), (19, iv (c : Int))], .row bt 1 [v4] :: .row bs 1 [w6] :: .row bm 1 [iv (many : Int)] :: .row by_ 1 [.yield l] :: .row bf 1 [.func 97 [] [.ptr bm 0 1, .ptr by_ 0 1, .ptr bt 0 1, .ptr bs 0 1, .ptr bf 0 1]] :: ownL false v30 encI (a3) :: ownL true w30 encI (b3.set c x) :: (D ++ C3)⟩, fun a S hi => hi.sub hsub, ?_⟩
        refine T.text rfl ?_
        refine TO.val rfl rfl rfl (Val.add rfl rfl (by omega)) ?_
        refine TO.val rfl rfl rfl (Val.move rfl) ?_
        refine TO.nil ?_
        refine ⟨_, _, (by omega), ⟨c + 1, _, v4, v30, a3, w6, w30, b3.set c x, C3, rfl, (by omega), (by omega), hS4, hS6, ha3, (by rw [List.length_set]; exact hb3), (by rw [List.range_succ, List.flatMap_append, List.flatMap_cons, List.flatMap_nil, List.append_nil, ← List.append_assoc]; exact hY3), rfl⟩, ⟨rfl, (keep_cons rfl (keep_cons rfl (keep_cons rfl (keep_cons rfl (keep_cons rfl (keep_cons rfl (keep_cons rfl (keep_cons rfl keep_nil)))))))), .refl _⟩⟩
      · skip
        refine TO.things (hs' := .row bt 1 [v3] :: .row bs 1 [w3] :: .row bm 1 [iv (many : Int)] :: .row by_ 1 [.yield l] :: .row bf 1 [.func 97 [] [.ptr bm 0 1, .ptr by_ 0 1, .ptr bt 0 1, .ptr bs 0 1, .ptr bf 0 1]] :: ownL false v30 encI (a3) :: ownL true w30 encI (b3) :: (D ++ C3)) rfl ?_
        refine TO.val rfl rfl rfl (Val.not rfl) ?_
        refine TO.nil ?_
        refine T.condT (fun a ha => ha.ev (.tmp 45) _ rfl) ?_
        refine T.seq ?_
        refine T.text rfl ?_
        refine TO.val rfl rfl rfl (Val.assign rfl) ?_
        refine TO.nil ?_
        refine T.ret ?_
        obtain ⟨r0, hr0⟩ := wk_pre (s := s) (f := (fun n : Nat => wk m (i + 1) (t ++ [(n : Int)]) (wkSet s n i))) (c := c) (by omega)
        exact ⟨rfl, _, rfl, v3, v30, a3, w3, w30, b3, C3, rfl, .inr ⟨rfl, (List.range c).flatMap (fun n : Nat => wk m (i + 1) (t ++ [(n : Int)]) (wkSet s n i)) ++ q1, r1 ++ r0, (by show (List.range (s.length + 1)).flatMap _ = _; rw [← hr0]; show _ ++ wk m (i + 1) (t ++ [(c : Int)]) (wkSet s c i) ++ r0 = _; rw [hq1]; simp [List.append_assoc]), (by rw [← List.append_assoc]; exact hZ1)⟩⟩
    | false =>
      replace hc20 := bfalse hc20
      have hce : c = s.length + 1 := by omega
      refine T.condF (fun a ha => ha.ev (.tmp 20) _ rfl) ?_
      refine T.exit ?_
      refine T.seq ?_
      refine T.text rfl ?_
      refine TO.val rfl rfl rfl (Val.assign rfl) ?_
      refine TO.nil ?_
      refine T.ret ?_
      exact ⟨rfl, _, rfl, v, v0, a, w, w0, b, C2, rfl, .inl ⟨rfl, hSt, hSs, hal, hbl, by rw [hce] at hY2; exact hY2⟩⟩
theorem perm_wk (a b c d e f g : Thing) : [a, b, c, d, e, f, g].Perm [d, c, g, f, b, e, a] := by
 refine .trans (List.perm_append_comm (l₁ := [a, b, c]) (l₂ := [d, e, f, g])) ?_;refine .cons d ?_
 show [e, f, g, a, b, c].Perm [c, g, f, b, e, a];refine .trans (List.perm_middle (a := c) (l₁ := [e, f, g, a, b]) (l₂ := [])) ?_;refine .cons c ?_;refine .trans (List.perm_middle (a := g) (l₁ := [e, f]) (l₂ := [a, b])) ?_;refine .cons g ?_;refine .trans (List.perm_middle (a := f) (l₁ := [e]) (l₂ := [a, b])) ?_;refine .cons f ?_;refine .trans (List.perm_middle (a := b) (l₁ := [e, a]) (l₂ := [])) ?_;exact .refl _
theorem perm_wk2 (o1 o2 m t s y f : Thing) (D : List Thing) : ([o1, o2] ++ ((m :: D) ++ [t, s, y, f])).Perm ([t, s, m, y, f, o1, o2] ++ D) := by
 have h1 : ([o1, o2] ++ ((m :: D) ++ [t, s, y, f])).Perm (([o1, o2, m] ++ [t, s, y, f]) ++ D) := by
  show (([o1, o2, m] ++ (D ++ [t, s, y, f])) : List Thing).Perm _;rw [List.append_assoc];exact List.Perm.append_left _ List.perm_append_comm
 refine h1.trans (List.Perm.append_right D ?_)
 show [o1, o2, m, t, s, y, f].Perm [t, s, m, y, f, o1, o2];refine .trans (List.perm_append_comm (l₁ := [o1, o2]) (l₂ := [m, t, s, y, f])) ?_
 show [m, t, s, y, f, o1, o2].Perm _;refine .trans (List.Perm.swap t m _) ?_;exact .cons t (List.Perm.swap s m _)
theorem wk_iter {k many bm l : Nat} {D : List Thing} {Y Z : List (List Int × List Int) → List Thing → Prop} (hm6 : many ≤ 6) (hy : ∀ by_ bt bs bf, VisitW k l many bm by_ bt bs bf D (walksOf many) Y Z) (C : List Thing) (hY : Y [] C) :
  TF (EL k) 96 [.yield l, .ptr bm 0 1] (.row bm 1 [iv (many : Int)] :: (D ++ C)) (fun r hs' => ∃ C', hs' = .row bm 1 [iv (many : Int)] :: (D ++ C') ∧ (Y (walksOf many) C' ∨ ∃ q r', walksOf many = q ++ r' ∧ Z q C')) := by
 refine TF.enter (fn := Go.Proofs.Tryz.f96) rfl rfl rfl rfl rfl ?_;refine T.seq ?_;refine T.text rfl ?_;refine TO.box (k := 1) (cells := [_]) rfl rfl rfl rfl rfl rfl rfl (fun b2 => ?_);refine TO.nil ?_;refine T.seq ?_;refine T.text rfl ?_;refine TO.val rfl rfl rfl (Val.load_row (p := 1) rfl ⟨_, rfl, rfl⟩ rfl rfl rfl) ?_;refine TO.eff rfl rfl rfl (Eff.makeRoom (m := many) (b := 8) ⟨rfl, rfl⟩ rfl rfl rfl rfl (by omega) (by decide)) ?_;rintro v7 _ ⟨v70, rfl, hp7⟩;refine TO.alloc (k := 1) (cells := [_]) rfl rfl rfl rfl rfl rfl rfl (fun b3 => ?_);refine TO.store_row (p := 0) (cv := [_]) (cells' := [_]) rfl rfl rfl rfl rfl rfl rfl hp7.cell.1 rfl rfl (by simp [hp7.cell.2]) (by decide) rfl ?_;refine TO.things (hs' := .row b3 1 [v7] :: ownL false v70 encI (List.replicate many 0) :: .row b2 1 [.yield l] :: .row bm 1 [iv (many : Int)] :: (D ++ C)) rfl ?_;refine TO.nil ?_;refine T.seq ?_;refine T.text rfl ?_;refine TO.alloc (k := 1) (cells := [_]) rfl rfl rfl rfl rfl rfl rfl (fun b4 => ?_);refine TO.nil ?_;refine T.seq ?_;refine T.text rfl ?_;refine TO.alloc (k := 1) (cells := [_]) rfl rfl rfl rfl rfl rfl rfl (fun b5 => ?_);refine TO.nil ?_;refine T.seq ?_;refine T.text rfl ?_;refine TO.val rfl rfl rfl (Val.makeFunc rfl rfl) ?_;refine TO.store_row (p := 0) (cv := [_]) (cells' := [_]) rfl rfl rfl rfl rfl rfl rfl rfl rfl rfl (by first | rfl | simp [GS.one]) (by decide) rfl ?_;refine TO.things (hs' := .row b5 1 [.func 97 [] [.ptr bm 0 1, .ptr b2 0 1, .ptr b3 0 1, .ptr b4 0 1, .ptr b5 0 1]] :: .row b4 1 [nilS] :: .row b3 1 [v7] :: ownL false v70 encI (List.replicate many 0) :: .row b2 1 [.yield l] :: .row bm 1 [iv (many : Int)] :: (D ++ C)) rfl ?_;refine TO.nil ?_;refine T.text rfl ?_;refine TO.val rfl rfl rfl (Val.load_row (p := 0) rfl ⟨_, rfl, rfl⟩ rfl rfl rfl) ?_;refine TO.nilown (u := 1) ?_
 have hperm : (.own true nilS 1 0 [] :: .row b5 1 [.func 97 [] [.ptr bm 0 1, .ptr b2 0 1, .ptr b3 0 1, .ptr b4 0 1, .ptr b5 0 1]] :: .row b4 1 [nilS] :: .row b3 1 [v7] :: ownL false v70 encI (List.replicate many 0) :: .row b2 1 [.yield l] :: .row bm 1 [iv (many : Int)] :: (D ++ C) : List Thing).Perm (.row b3 1 [v7] :: .row b4 1 [nilS] :: .row bm 1 [iv (many : Int)] :: .row b2 1 [.yield l] :: .row b5 1 [.func 97 [] [.ptr bm 0 1, .ptr b2 0 1, .ptr b3 0 1, .ptr b4 0 1, .ptr b5 0 1]] :: ownL false v70 encI (List.replicate many 0) :: ownL true nilS encI (([] : List Int)) :: (D ++ C)) := by
  show ([_, _, _, _, _, _, _] ++ (D ++ C) : List Thing).Perm ([_, _, _, _, _, _, _] ++ (D ++ C));refine List.Perm.append_right _ ?_;exact perm_wk _ _ _ _ _ _ _
 refine TO.perm hperm.symm ?_
 have hS0 : Stk v7 v70 (List.replicate many 0) [] := ⟨by rw [List.length_replicate]; exact hp7, rfl⟩
 have hS1 : Stk nilS nilS [] [] := ⟨⟨Nat.le_refl _, .inl ⟨rfl, rfl, rfl⟩⟩, rfl⟩;refine TO.callV rfl rfl rfl rfl rfl rfl (orcN rfl) (wk_fill hm6 (hy _ _ _ _) many 0 0 [] [] v7 v70 (List.replicate many 0) nilS nilS [] [] C rfl (by omega) rfl ⟨Nat.le_refl _, fun _ h => by cases h⟩ hS0 hS1 (by rw [List.length_replicate]; exact Nat.le_refl _) (Nat.zero_le _) hY ⟨[], by simp [walksOf]⟩) ?_;rintro _ _ ⟨v3, v30, a3, w3, w30, b3_, C3, rfl, (⟨rfl, _, _, _, _, hY3⟩ | ⟨rfl, q1, r1, hq1, hZ1⟩)⟩
 ·skip;refine TO.things (hs' := .row b3 1 [v3] :: .row b4 1 [w3] :: .row bm 1 [iv (many : Int)] :: .row b2 1 [.yield l] :: .row b5 1 [.func 97 [] [.ptr bm 0 1, .ptr b2 0 1, .ptr b3 0 1, .ptr b4 0 1, .ptr b5 0 1]] :: ownL false v30 encI (a3) :: ownL true w30 encI (b3_) :: (D ++ C3)) rfl ?_
  refine TO.keep (s' := ⟨[], [], .row bm 1 [iv (many : Int)] :: (D ++ C3)⟩) ⟨rfl, keep_nil, .cons _ (.cons _ (.cons_cons _ (.cons _ (.cons _ (.cons _ (.cons _ (.refl _)))))))⟩ ?_;refine TO.nil ?_;exact ⟨rfl, _, rfl, C3, rfl, .inl (by simpa [walksOf] using hY3)⟩
 ·skip;refine TO.things (hs' := .row b3 1 [v3] :: .row b4 1 [w3] :: .row bm 1 [iv (many : Int)] :: .row b2 1 [.yield l] :: .row b5 1 [.func 97 [] [.ptr bm 0 1, .ptr b2 0 1, .ptr b3 0 1, .ptr b4 0 1, .ptr b5 0 1]] :: ownL false v30 encI (a3) :: ownL true w30 encI (b3_) :: (D ++ C3)) rfl ?_
  refine TO.keep (s' := ⟨[], [], .row bm 1 [iv (many : Int)] :: (D ++ C3)⟩) ⟨rfl, keep_nil, .cons _ (.cons _ (.cons_cons _ (.cons _ (.cons _ (.cons _ (.cons _ (.refl _)))))))⟩ ?_;refine TO.nil ?_;exact ⟨rfl, _, rfl, C3, rfl, .inr ⟨q1, r1, hq1, by simpa using hZ1⟩⟩
def ArgW (p : List Int × List Int) (vs : List AV) (G : List Thing) : Prop := ∃ v w w0 b, vs = [v, w] ∧ G = [ownL false v encI p.1, ownL true w0 encI b] ∧ Stk w w0 b p.2
theorem wk_yields {k many bm : Nat} {D : List Thing} (hb : Thing.row bm 1 [iv (many : Int)] ∈ D) (hm6 : many ≤ 6) : Yields (EL k) 96 [] [.ptr bm 0 1] ArgW D (walksOf many) := by
 intro l YY ZZ hv C hY;obtain ⟨D', hD⟩ : ∃ D', D.Perm (.row bm 1 [iv (many : Int)] :: D') := by
  obtain ⟨p, hp⟩ := List.getElem?_of_mem hb;exact ⟨D.eraseIdx p, (pick_perm (.row bm 1 []) hp).1⟩
 have pm : ∀ C : List Thing, (.row bm 1 [iv (many : Int)] :: (D' ++ C) : List Thing).Perm (D ++ C) := fun C => List.Perm.append_right C hD.symm
 refine TF.perm (TF.conv (wk_iter (Y := YY) (Z := ZZ) hm6 ?_ C hY) ?_) (pm C)
 ·intro by_ bt bs bf vis t s v v0 a w w0 b C hp hSt hSs htl _ hal hY;obtain ⟨rfl, rfl⟩ := hSt.full (by omega)
  have key : ∀ C : List Thing, (C ++ ([ownL false v encI a, ownL true w0 encI b] ++ (D ++ [Thing.row bt 1 [v], Thing.row bs 1 [w], Thing.row by_ 1 [.yield l], Thing.row bf 1 [.func 97 [] [.ptr bm 0 1, .ptr by_ 0 1, .ptr bt 0 1, .ptr bs 0 1, .ptr bf 0 1]]]))).Perm
    (.row bt 1 [v] :: .row bs 1 [w] :: .row bm 1 [iv (many : Int)] :: .row by_ 1 [.yield l] :: .row bf 1 [.func 97 [] [.ptr bm 0 1, .ptr by_ 0 1, .ptr bt 0 1, .ptr bs 0 1, .ptr bf 0 1]] :: ownL false v encI (a) :: ownL true w0 encI (b) :: (D' ++ C)) := fun C => by
   refine List.perm_append_comm.trans ?_;refine .trans ?_ (show (([Thing.row bt 1 [v], Thing.row bs 1 [w], Thing.row bm 1 [iv (many : Int)], Thing.row by_ 1 [.yield l], Thing.row bf 1 [.func 97 [] [.ptr bm 0 1, .ptr by_ 0 1, .ptr bt 0 1, .ptr bs 0 1, .ptr bf 0 1]], ownL false v encI a, ownL true w0 encI b] ++ D') ++ C : List Thing).Perm (.row bt 1 [v] :: .row bs 1 [w] :: .row bm 1 [iv (many : Int)] :: .row by_ 1 [.yield l] :: .row bf 1 [.func 97 [] [.ptr bm 0 1, .ptr by_ 0 1, .ptr bt 0 1, .ptr bs 0 1, .ptr bf 0 1]] :: ownL false v encI (a) :: ownL true w0 encI (b) :: (D' ++ C)) from by rw [List.append_assoc]; exact .refl _);refine List.Perm.append_right C ?_;refine .trans (List.Perm.append_left _ (List.Perm.append_right _ hD)) ?_;exact perm_wk2 _ _ _ _ _ _ _ _
  refine (hv vis (a, s) [v, w] [ownL false v encI a, ownL true w0 encI b] C _ hp ⟨v, w, w0, b, rfl, rfl, hSs⟩ hY).conv (key C) ?_;rintro r h1 (⟨rfl, C', rfl, h⟩ | ⟨rfl, C', rfl, h⟩)
  ·exact ⟨_, key C', .inl ⟨rfl, C', rfl, h⟩⟩
  ·exact ⟨_, key C', .inr ⟨rfl, C', rfl, h⟩⟩
 ·rintro r h1 ⟨C', rfl, h⟩;exact ⟨_, pm C', C', rfl, h⟩
theorem tf_cloneT {k : Nat} {C hs : List Thing} {v : AV} {l : List Int} (hm : ownL false v encI l ∈ C) (hC : ∀ x ∈ C, x ∈ hs) (hl : l.length < 1000) :
  TF (EL k) 52 [v] hs (RepF (fun v : AV => v) fun v => ownL false v encI l :: hs) := by
 refine TF.enter (fn := Go.Proofs.Tryz.f52) rfl rfl rfl rfl rfl ?_;refine T.seq ?_;refine T.text rfl ?_;refine TO.val rfl rfl rfl (Val.assign rfl) ?_;refine TO.nil ?_;refine T.seq ?_;refine T.seq ?_;refine T.text rfl ?_;refine TO.val rfl rfl rfl (Val.move rfl) ?_;refine TO.fact (P := ∃ id off ver ex len cap, v = .slice id off ver ex len cap) (fun S hS => ?_) (fun hv => ?_)
 ·rcases hS.ok _ (hC _ hm) with ⟨h0, _⟩ | ⟨id, ex, h1, _⟩
  ·cases h0
  ·exact ⟨_, _, _, _, _, _, h1⟩
 obtain ⟨id, off, ver, ex, len, cap, hv⟩ := hv;refine TO.val rfl rfl rfl (Val.nil_eqS rfl (congrArg some hv) rfl) ?_;refine TO.nil ?_;refine T.condF (fun a ha => ha.ev (.tmp 4) _ rfl) ?_;refine T.skip ?_;refine T.seq ?_;refine T.text rfl ?_;refine TO.build0 (en := encI) rfl rfl rfl ⟨rfl, rfl⟩ (fun v5 => ?_);refine TO.val rfl rfl rfl (Val.move rfl) ?_;refine TO.eff rfl rfl rfl (Eff.append_l (b := 8) (en := encI) (l := []) (p := 0) ⟨rfl, rfl, rfl, ⟨_, rfl, rfl⟩, by decide, by decide⟩ rfl rfl rfl (.inr ⟨false, hm⟩) (fun x hx => List.mem_cons_of_mem _ (hC x hx)) rfl rfl (flat_ones _) (by decide) (by simp; omega)) ?_;rintro v7 _ rfl;refine TO.things (hs' := ownL false v7 encI l :: hs) rfl ?_;refine TO.val rfl rfl rfl (Val.assign rfl) ?_;refine TO.nil ?_;refine T.ret ?_;exact ⟨rfl, _, rfl, ⟨v7, rfl, .refl⟩⟩
end Go.Am.YtgbbhdoobhdadaaGreatDoor
end
section
namespace Go.Am.YtgbbhdoobhdadaaGreatDoor
open Go.Am Go.RowKit
set_option linter.unusedVariables false
set_option linter.unusedSimpArgs false
set_option maxRecDepth 10000 in
theorem tf_s9_Walk {k : Nat} (hk : 1 ≤ k) {C : List Thing} {qH : AV} {qE : List Str} {qG : AV} {qF : List qD} {qB : AV} {qC : List qA} {v_books : AV} {books : List Int} {carry : Int} (qAg : RdT encStr qH qE) (qBc : RdT qZ qG qF) (qAf : RdT qS qB qC) (ht_books : RdT encI v_books books) {r : (List Int) × Bool × Int × Int} (h : P_s9_Walk qE qF qC books carry = some r) :
  TF (EL k) 9 [.agg [qH, qG, qB], v_books, iv (carry)] C (RepF (fun (w : AV) => .tuple [w, iv r.2.2.1, iv r.2.2.2]) (fun (w : AV) => ownL r.2.1 w encI r.1 :: C)) := by
 unfold P_s9_Walk at h
 have qAc : Rdl C encStr qH qE := RdT.rdl qAg
 have qW : Rdl C qZ qG qF := RdT.rdl qBc
 have qI : Rdl C qS qB qC := RdT.rdl qAf
 have h_books : Rdl C encI v_books books := RdT.rdl ht_books;refine TF.enterG (fn := Go.Proofs.Tryz.f9) rfl rfl rfl rfl rfl (zU rfl (zQ 3 [_,_,_] R7 (fun b3=>TO.fact (rdl_cellS h_books M1) (fun hobooks=>TO.box (k := 1) (cells := [_]) rfl rfl rfl rfl hobooks.1 rfl rfl (fun b4=>zQ 1 [_] R7 (fun b5=>zJ 1 [_] R7 (fun b6=>zJ 1 [_] R7 (fun b7=>zA R4 (zN (zU rfl (zV R3 (vW 4 [_,_,_] R5 R4) ?_)))))))))));obtain ⟨y23, hr23, h⟩ := andx_some h;refine TO.callT (first := []) (cap := []) (vs := [.agg [qH, qG, qB]]) rfl rfl rfl rfl rfl rfl (orcN rfl) (tf_s9_open aD (Rdl.mono qAc M5) (Rdl.mono qW M5) (Rdl.mono qI M5) hr23) ?_;rintro _;refine zG (_::_::_::_::_::C) rfl (zM R4 (zX R5 (zX R5 (zJ 3 [_,_,_] R7 (fun b9=>TO.fact (rdl_cellS qAc M6) (fun qBa=>TO.fact (rdl_cellS qW M6) (fun qBb=>TO.fact (rdl_cellS qI M6) (fun qAh=>TO.eff0 rfl rfl (Eff.store_row (p := 0) (cv := [_, _, _]) (cells' := [_, _, _]) rfl rfl rfl rfl rfl rfl rfl rfl (by first | rfl | (simp [GS.one, qBa.2, qBb.2, qAh.2]; done) | (simp [GS.one, qBa.2, qBb.2, qAh.2]; (repeat' apply And.intro) <;> rfl)) (by decide) rfl) ?_))))))));rintro _ rfl;refine zG (_::_::_::_::_::_::C) rfl (zA R4 (zN (zS (zB (zU rfl (zM R4 ?_))))));obtain ⟨c28, hc28⟩ := zY (¬ y23 = 0);refine zV R3 (Val.neq hc28 rfl rfl) (zA R4 (zN ?_));obtain ⟨rfl, hc28, h⟩ | ⟨rfl, hc28, h⟩ := zI hc28 h
 ·refine zC rfl (zU rfl (zM R4 (TO.eff0 rfl rfl (Eff.store_row (p := 2) (cv := [_]) (cells' := [_]) rfl rfl rfl rfl rfl rfl rfl rfl aG (by decide) rfl) ?_)));rintro _ rfl;refine zG (_::_::_::_::_::_::C) rfl (TO.eff0 rfl rfl (Eff.store_row (p := 1) (cv := [_]) (cells' := [_]) rfl rfl rfl rfl rfl rfl rfl rfl aG (by decide) rfl) ?_);rintro _ rfl;refine zG (_::_::_::_::_::_::C) rfl (zA R4 (zN (T.nilown (u := encI.u) (zR ?_))));cases h;exact ⟨rfl, _, rfl, [_, _, _], ⟨⟨_, rfl, LoadR.row (p := 3) rfl ⟨_, rfl, rfl⟩ rfl rfl⟩, ⟨⟨_, rfl, LoadR.row (p := 2) rfl ⟨_, rfl, rfl⟩ rfl rfl⟩, ⟨rfl, trivial⟩⟩⟩, ⟨nilS, rfl, (pk [0,98,98,98,98,98,98] rfl)⟩⟩
 refine zD rfl (zU rfl (zL 4 R3 R6 (zV R3 (Val.len_l h_books M6 rfl rfl) ?_)));obtain ⟨c33, hc33⟩ := zY ((books.length : Int) > 6);refine zV R3 (Val.gtr hc33 rfl rfl) (zA R4 (zN ?_));obtain ⟨rfl, hc33, h⟩ | ⟨rfl, hc33, h⟩ := zI hc33 h
 ·refine zC rfl (zU rfl (TO.eff0 rfl rfl (Eff.store_row (p := 2) (cv := [_]) (cells' := [_]) rfl rfl rfl rfl rfl rfl rfl rfl aG (by decide) rfl) ?_));rintro _ rfl;refine zG (_::_::_::_::_::_::C) rfl (TO.eff0 rfl rfl (Eff.store_row (p := 1) (cv := [_]) (cells' := [_]) rfl rfl rfl rfl rfl rfl rfl rfl aG (by decide) rfl) ?_);rintro _ rfl;refine zG (_::_::_::_::_::_::C) rfl (zA R4 (zN (T.nilown (u := encI.u) (zR ?_))));cases h;exact ⟨rfl, _, rfl, [_, _, _], ⟨⟨_, rfl, LoadR.row (p := 3) rfl ⟨_, rfl, rfl⟩ rfl rfl⟩, ⟨⟨_, rfl, LoadR.row (p := 2) rfl ⟨_, rfl, rfl⟩ rfl rfl⟩, ⟨rfl, trivial⟩⟩⟩, ⟨nilS, rfl, (pk [0,98,98,98,98,98,98] rfl)⟩⟩
 refine zD rfl (zU rfl (zF 2 R6 (zL 5 R3 R6 (zV R3 (Val.len_l qI M6 rfl rfl) ?_))));obtain ⟨hk38, h⟩ := chk_some h;refine zV R3 (Val.sub rfl rfl hk38) (zL 4 R3 R6 ?_);obtain ⟨y40, hr40, h⟩ := andx_some h;refine TO.callT (first := []) (cap := []) (vs := [iv (0), iv (((qC.length : Int) - 1)), v_books]) rfl rfl rfl rfl rfl rfl (orcN rfl) (tf_s9_out aD (Rdl.mono h_books M6) hr40) ?_;rintro _;refine zG (_::_::_::_::_::_::C) rfl (zA R4 (zN ?_));obtain ⟨rfl, h⟩ | ⟨rfl, h⟩ := zZ h
 ·refine zC rfl (zU rfl (TO.eff0 rfl rfl (Eff.store_row (p := 2) (cv := [_]) (cells' := [_]) rfl rfl rfl rfl rfl rfl rfl rfl aG (by decide) rfl) ?_));rintro _ rfl;refine zG (_::_::_::_::_::_::C) rfl (TO.eff0 rfl rfl (Eff.store_row (p := 1) (cv := [_]) (cells' := [_]) rfl rfl rfl rfl rfl rfl rfl rfl aG (by decide) rfl) ?_);rintro _ rfl;refine zG (_::_::_::_::_::_::C) rfl (zA R4 (zN (T.nilown (u := encI.u) (zR ?_))));cases h;exact ⟨rfl, _, rfl, [_, _, _], ⟨⟨_, rfl, LoadR.row (p := 3) rfl ⟨_, rfl, rfl⟩ rfl rfl⟩, ⟨⟨_, rfl, LoadR.row (p := 2) rfl ⟨_, rfl, rfl⟩ rfl rfl⟩, ⟨rfl, trivial⟩⟩⟩, ⟨nilS, rfl, (pk [0,98,98,98,98,98,98] rfl)⟩⟩
 refine zD rfl (zK (zS (zU rfl (zL 4 R3 R6 (zV R3 (Val.makeFunc rfl rfl) ?_)))));refine TO.callJ (W := Unit) (fun (j : Int × Int) (w : Unit) => .tuple [iv (j.1), iv (j.2)]) (fun (j : Int × Int) (w : Unit) => .row b9 3 [qH, qG, qB] :: .row b7 1 [iv (0)] :: .row b6 1 [nilS] :: .row b5 1 [iv (carry)] :: .row b4 1 [v_books] :: .row b3 3 [qH, qG, qB] :: C) h rfl rfl rfl rfl rfl rfl (orcN rfl) ?_ ?_
 ·intro j h;refine TF.enter (fn := Go.Proofs.Tryz.f47) rfl rfl rfl rfl rfl (zU rfl (zA R4 (zA R4 (zN ?_))))
  show T _ _ _ _ _ _;apply T.join (r := j) (W := Unit) (fun j w => ⟨[], [], .row b9 3 [qH, qG, qB] :: .row b7 1 [iv (0)] :: .row b6 1 [nilS] :: .row b5 1 [iv (carry)] :: .row b4 1 [v_books] :: .row b3 3 [qH, qG, qB] :: C⟩) h
  ·intro j h;refine zU rfl (zM R4 (zV R3 (Val.len_l h_books M6 rfl rfl) (zM R4 (zN (zB ?_)))))
   show T _ _ _ _ _ _;apply T.iter (r := j) (W := Unit) (fun j w => ⟨[], [(1, .func 48 [] [.ptr b4 0 1]), (9, v_books), (10, iv ((books.length : Int))), (11, iv (j))], .row b9 3 [qH, qG, qB] :: .row b7 1 [iv (0)] :: .row b6 1 [nilS] :: .row b5 1 [iv (carry)] :: .row b4 1 [v_books] :: .row b3 3 [qH, qG, qB] :: C⟩) (w0 := ()) h
   ·exact (sb .refl)
   rintro x11 _ a h;unfold P_s9_Walk_L1 at h;refine zU rfl ?_;obtain ⟨c12, hc12⟩ := zY (x11 < (books.length : Int));refine zV R3 (Val.lss hc12 rfl rfl) (zN (zS ?_));obtain ⟨rfl, hc12, h⟩ | ⟨rfl, hc12, h⟩ := zI hc12 h
   ·refine zC rfl (zK (zS (zB (zU rfl (zM R4 ?_)))));obtain ⟨a14, hia14, ea14, h⟩ := el_some h;refine TO.fact (rdl_at h_books M6 hia14 ea14) (fun hp=>?_);obtain ⟨pa14, hpa14, hva14⟩ := hp;refine zV R3 (hva14 ⟨rfl, rfl⟩ rfl rfl) (zV R3 (Val.load_e hpa14 M6 ⟨_, rfl, rfl⟩ rfl rfl) (zA R4 (zA R4 (zN (zU rfl (zM R4 (zM R4 (zM R4 ?_))))))));refine TO.callJ (W := Unit) (fun (j : Int) (w : Unit) => iv (j)) (fun (j : Int) (w : Unit) => .row b9 3 [qH, qG, qB] :: .row b7 1 [iv (0)] :: .row b6 1 [nilS] :: .row b5 1 [iv (carry)] :: .row b4 1 [v_books] :: .row b3 3 [qH, qG, qB] :: C) h rfl rfl rfl rfl rfl rfl (orcN rfl) ?_ ?_
    ·intro j h;refine TF.enter (fn := Go.Proofs.Tryz.f48) rfl rfl rfl rfl rfl (zU rfl (zA R4 (zN (zS (zU rfl (zL 4 R3 R6 (zM R4 ?_)))))));obtain ⟨hk8, h⟩ := chk_some h;obtain ⟨w8, htw8, hgw8, hvw8⟩ := slice_T ht_books hk8
     have hw8 : Rdl C encI w8 (List.take (x11 - (0 : Int)).toNat (List.drop ((0 : Int) : Int).toNat books)) := RdT.rdl htw8;refine zV R3 (hvw8 ⟨rfl, rfl⟩ rfl .no (.some rfl)) (zM R4 (TO.callIn rfl rfl rfl rfl rfl rfl (orcN rfl) (TF.enter (fn := Go.Proofs.Tryz.f49) rfl rfl rfl rfl rfl (zU rfl (zA R4 (zN (zU rfl (zM R4 (zM R4 ?_)))))))));refine TO.callJ (W := Unit) (fun (j : Int) (w : Unit) => iv (j)) (fun (j : Int) (w : Unit) => .row b9 3 [qH, qG, qB] :: .row b7 1 [iv (0)] :: .row b6 1 [nilS] :: .row b5 1 [iv (carry)] :: .row b4 1 [v_books] :: .row b3 3 [qH, qG, qB] :: C) h rfl rfl rfl rfl rfl rfl (orcN rfl) ?_ ?_
     ·intro j h;refine TF.enter (fn := Go.Proofs.Tryz.f95) rfl rfl rfl rfl rfl (zU rfl (zA R4 (zN ?_)))
      show T _ _ _ _ _ _;apply T.join (r := j) (W := Unit) (fun j w => ⟨[], [], .row b9 3 [qH, qG, qB] :: .row b7 1 [iv (0)] :: .row b6 1 [nilS] :: .row b5 1 [iv (carry)] :: .row b4 1 [v_books] :: .row b3 3 [qH, qG, qB] :: C⟩) h
      ·intro j h;refine zU rfl (zM R4 (zV R3 (Val.len_l hw8 M6 rfl rfl) (zM R4 (zN (zB ?_)))))
       show T _ _ _ _ _ _;apply T.iter (r := j) (W := Unit) (fun j w => ⟨[], [(0, w8), (1, iv (a14)), (7, iv (((List.take (x11 - (0 : Int)).toNat (List.drop ((0 : Int) : Int).toNat books)).length : Int))), (8, iv (j))], .row b9 3 [qH, qG, qB] :: .row b7 1 [iv (0)] :: .row b6 1 [nilS] :: .row b5 1 [iv (carry)] :: .row b4 1 [v_books] :: .row b3 3 [qH, qG, qB] :: C⟩) (w0 := ()) h
       ·exact (sb .refl)
       rintro x8 _ a h;unfold P_s9_Walk_L2 at h;refine zU rfl ?_;obtain ⟨c9, hc9⟩ := zY (x8 < ((List.take (x11 - (0 : Int)).toNat (List.drop ((0 : Int) : Int).toNat books)).length : Int));refine zV R3 (Val.lss hc9 rfl rfl) (zN (zS ?_));obtain ⟨rfl, hc9, h⟩ | ⟨rfl, hc9, h⟩ := zI hc9 h
       ·refine zC rfl (zK (zS (zB (zU rfl (zM R4 (zA R4 (zN (zU rfl (zM R4 (zM R4 (zM R4 ?_)))))))))));obtain ⟨a14_2, hia14_2, ea14_2, h⟩ := el_some h;refine TO.fact (rdl_at hw8 M6 hia14_2 ea14_2) (fun hp=>?_);obtain ⟨pa14_2, hpa14_2, hva14_2⟩ := hp;refine zV R3 (hva14_2 ⟨rfl, rfl⟩ rfl rfl) (zV R3 (Val.load_e hpa14_2 M6 ⟨_, rfl, rfl⟩ rfl rfl) ?_);obtain ⟨c16, hc16⟩ := zY (a14 = a14_2);refine zV R3 (Val.eql hc16 rfl rfl) (zN ?_);obtain ⟨rfl, hc16, h⟩ | ⟨rfl, hc16, h⟩ := zI hc16 h
        ·refine zC rfl (zU rfl (zM R4 (zA R4 (zN (zR ?_)))));cases h;exact ⟨ret_ne, ⟨ret_ne, ⟨rfl, _, rfl, ⟨(), rfl, .refl⟩⟩⟩⟩
        refine zD rfl (zK (zT rfl ?_));obtain ⟨hk18, h⟩ := chk_some h;refine zV R3 (Val.add rfl rfl hk18) (zM R4 (zN ?_));cases h;exact ⟨rfl, (), (sb .refl)⟩
       refine zD rfl (zE ?_);cases h;exact ⟨ex_ne, ⟨rfl, (), (sb .refl)⟩⟩
      ·rintro _ _ h;refine zU rfl (zA R4 (zN (zR ?_)));cases h;exact ⟨rfl, _, rfl, ⟨(), rfl, .refl⟩⟩
     ·rintro y7 _ h;refine zG (_::_::_::_::_::_::C) rfl ?_;obtain ⟨c8, hc8⟩ := zY (y7 ≥ 0);refine zV R3 (Val.geq hc8 rfl rfl) (zA R4 (zN (zR ?_)));refine ⟨rfl, _, rfl, ?_⟩;refine zN ?_;obtain ⟨rfl, hc8, h⟩ | ⟨rfl, hc8, h⟩ := zI hc8 h
      ·refine zC rfl (zU rfl (zA R4 (zN (zR ?_))));cases h;exact ⟨rfl, _, rfl, ⟨(), rfl, .refl⟩⟩
      refine zD rfl (zK (zU rfl (zA R4 (zN (zR ?_)))));cases h;exact ⟨rfl, _, rfl, ⟨(), rfl, .refl⟩⟩
    ·rintro y19 _ h;refine zG (_::_::_::_::_::_::C) rfl (zA R4 (zN (zU rfl (zM R4 ?_))));obtain ⟨c21, hc21⟩ := zY (¬ y19 = 0);refine zV R3 (Val.neq hc21 rfl rfl) (zN ?_);obtain ⟨rfl, hc21, h⟩ | ⟨rfl, hc21, h⟩ := zI hc21 h
     ·refine zC rfl (zU rfl (zM R4 (zM R4 (zA R4 (zA R4 (zN (zR ?_)))))));cases h;exact ⟨ret_ne, ⟨ret_ne, ⟨rfl, _, rfl, ⟨(), rfl, .refl⟩⟩⟩⟩
     refine zD rfl (zK (zT rfl ?_));obtain ⟨hk24, h⟩ := chk_some h;refine zV R3 (Val.add rfl rfl hk24) (zM R4 (zN ?_));cases h;exact ⟨rfl, (), (sb .refl)⟩
   refine zD rfl (zE ?_);cases h;exact ⟨ex_ne, ⟨rfl, (), (sb .refl)⟩⟩
  ·rintro _ _ h;refine zU rfl (zA R4 (zA R4 (zN (zR ?_))));cases h;exact ⟨rfl, _, rfl, ⟨(), rfl, .refl⟩⟩
 ·rintro ⟨y44, y44_2⟩ _ h;dsimp only at h;refine zG (_::_::_::_::_::_::C) rfl (zM R4 (zX R5 (zX R5 (zA R4 (zN (zU rfl (zM R4 ?_)))))));obtain ⟨c48, hc48⟩ := zY (¬ y44_2 = 0);refine zV R3 (Val.neq hc48 rfl rfl) (zN ?_);obtain ⟨rfl, hc48, h⟩ | ⟨rfl, hc48, h⟩ := zI hc48 h
  ·refine zC rfl (zU rfl (zM R4 (TO.eff0 rfl rfl (Eff.store_row (p := 2) (cv := [_]) (cells' := [_]) rfl rfl rfl rfl rfl rfl rfl rfl aG (by decide) rfl) ?_)));rintro _ rfl;refine zG (_::_::_::_::_::_::C) rfl (TO.eff0 rfl rfl (Eff.store_row (p := 1) (cv := [_]) (cells' := [_]) rfl rfl rfl rfl rfl rfl rfl rfl aG (by decide) rfl) ?_);rintro _ rfl;refine zG (_::_::_::_::_::_::C) rfl (zA R4 (zN (T.nilown (u := encI.u) (zR ?_))));cases h;exact ⟨rfl, _, rfl, [_, _, _], ⟨⟨_, rfl, LoadR.row (p := 3) rfl ⟨_, rfl, rfl⟩ rfl rfl⟩, ⟨⟨_, rfl, LoadR.row (p := 2) rfl ⟨_, rfl, rfl⟩ rfl rfl⟩, ⟨rfl, trivial⟩⟩⟩, ⟨nilS, rfl, (pk [0,98,98,98,98,98,98] rfl)⟩⟩
  refine zD rfl (zK (zS (zU rfl (zL 3 R3 R6 (TO.build1 (en := encI) (a := carry) rfl rfl rfl ⟨rfl, rfl⟩ ⟨_, rfl, rfl⟩ (by decide) (by decide) rfl rfl (fun v51=>?_))))));obtain ⟨y52, hr52, h⟩ := andx_some h;refine TO.callT (first := []) (cap := []) (vs := [iv (1), iv (100), v51]) rfl rfl rfl rfl rfl rfl (orcN rfl) (tf_s9_out aD (Rdl.mono (Rdl.own (C := ownL false v51 encI [carry] :: .row b9 3 [qH, qG, qB] :: .row b7 1 [iv (0)] :: .row b6 1 [nilS] :: .row b5 1 [iv (carry)] :: .row b4 1 [v_books] :: .row b3 3 [qH, qG, qB] :: C) (p := 0) rfl) mem0) hr52) ?_;rintro _;refine zG (_::_::_::_::_::_::_::C) rfl (zN ?_);obtain ⟨rfl, h⟩ | ⟨rfl, h⟩ := zZ h
  ·refine zC rfl (zU rfl (TO.eff0 rfl rfl (Eff.store_row (p := 3) (cv := [_]) (cells' := [_]) rfl rfl rfl rfl rfl rfl rfl rfl aG (by decide) rfl) ?_));rintro _ rfl;refine zG (_::_::_::_::_::_::_::C) rfl (TO.eff0 rfl rfl (Eff.store_row (p := 2) (cv := [_]) (cells' := [_]) rfl rfl rfl rfl rfl rfl rfl rfl aG (by decide) rfl) ?_);rintro _ rfl;refine zG (_::_::_::_::_::_::_::C) rfl (zA R4 (zN (T.nilown (u := encI.u) (zR ?_))));cases h;exact ⟨rfl, _, rfl, [_, _, _], ⟨⟨_, rfl, LoadR.row (p := 4) rfl ⟨_, rfl, rfl⟩ rfl rfl⟩, ⟨⟨_, rfl, LoadR.row (p := 3) rfl ⟨_, rfl, rfl⟩ rfl rfl⟩, ⟨rfl, trivial⟩⟩⟩, ⟨nilS, rfl, (pk [0,98,98,98,98,98,98,98] rfl)⟩⟩
  refine zD rfl (zK ?_)
  show T _ _ _ _ _ _;apply T.join (r := r) (W := Unit) (fun j w => ⟨[], [(4, .ptr b4 0 1), (5, .ptr b5 0 1), (6, .ptr b6 0 1), (7, .ptr b7 0 1), (8, iv (y44_2)), (9, .ptr b9 0 3)], .row b9 3 [qH, qG, qB] :: .row b7 1 [iv (0)] :: .row b6 1 [nilS] :: .row b5 1 [iv (carry)] :: .row b4 1 [v_books] :: .row b3 3 [qH, qG, qB] :: C⟩) h
  ·intro j h;refine zU rfl (zL 5 R3 R6 (zV R3 (Val.len_l h_books M7 rfl rfl) (zM R4 (zN (zB ?_)))))
   show T _ _ _ _ _ _;apply T.iter (r := j) (W := Unit) (fun j w => ⟨[], [(3, .ptr b3 0 3), (4, .ptr b4 0 1), (5, .ptr b5 0 1), (6, .ptr b6 0 1), (7, .ptr b7 0 1), (8, iv (y44_2)), (9, .ptr b9 0 3), (53, v_books), (54, iv ((books.length : Int))), (55, iv (j))], .row b9 3 [qH, qG, qB] :: .row b7 1 [iv (0)] :: .row b6 1 [nilS] :: .row b5 1 [iv (carry)] :: .row b4 1 [v_books] :: .row b3 3 [qH, qG, qB] :: C⟩) (w0 := ()) h
   ·exact (sb (pk [1,1,1,1,1,1,98] rfl))
   rintro x55 _ a h;unfold P_s9_Walk_L3 at h;refine zU rfl ?_;obtain ⟨c56, hc56⟩ := zY (x55 < (books.length : Int));refine zV R3 (Val.lss hc56 rfl rfl) (zN (zS ?_));obtain ⟨rfl, hc56, h⟩ | ⟨rfl, hc56, h⟩ := zI hc56 h
   ·refine zC rfl (zK (zS (zB (zU rfl ?_))));obtain ⟨a57, hia57, ea57, h⟩ := el_some h;refine TO.fact (rdl_at h_books M6 hia57 ea57) (fun hp=>?_);obtain ⟨pa57, hpa57, hva57⟩ := hp;refine zV R3 (hva57 ⟨rfl, rfl⟩ rfl rfl) (zV R3 (Val.load_e hpa57 M6 ⟨_, rfl, rfl⟩ rfl rfl) (zA R4 (zN (zS (T.draw (fun v => sameC_refl v) (l1 := [0, 1, 2, 3, 4, 5, 6, 7]) (l2 := []) (by kernel_rfl) (by kernel_rfl) (zF 2 R6 (zL 5 R3 R6 (zM R4 ?_))))))));obtain ⟨a62, hia62, ea62, h⟩ := el_some h;refine TO.fact (rdl_at qI M6 hia62 ea62) (fun hp=>?_);obtain ⟨pa62, hpa62, hva62⟩ := hp;refine zV R3 (hva62 ⟨rfl, rfl⟩ rfl rfl) (zV R3 (Val.faddr_e (fo := 5) hpa62 rfl rfl rfl) (zV R3 (Val.load_e (PtE.add hpa62 (by decide)) M6 ⟨_, rfl, rfl⟩ rfl rfl) (zL 3 R3 R6 ?_)));obtain ⟨c66, hc66⟩ := zY (a62.heavy > carry);refine zV R3 (Val.gtr hc66 rfl rfl) (zN ?_);obtain ⟨rfl, hc66, h⟩ | ⟨rfl, hc66, h⟩ := zI hc66 h
    ·refine zC rfl (zU rfl (TO.eff0 rfl rfl (Eff.store_row (p := 2) (cv := [_]) (cells' := [_]) rfl rfl rfl rfl rfl rfl rfl rfl aG (by decide) rfl) ?_));rintro _ rfl;refine zG (_::_::_::_::_::_::C) rfl (TO.eff0 rfl rfl (Eff.store_row (p := 1) (cv := [_]) (cells' := [_]) rfl rfl rfl rfl rfl rfl rfl rfl aG (by decide) rfl) ?_);rintro _ rfl;refine zG (_::_::_::_::_::_::C) rfl (zA R4 (zN (T.nilown (u := encI.u) (zR ?_))));cases h;exact ⟨ret_ne, ⟨ret_ne, ⟨rfl, _, rfl, [_, _, _], ⟨⟨_, rfl, LoadR.row (p := 3) rfl ⟨_, rfl, rfl⟩ rfl rfl⟩, ⟨⟨_, rfl, LoadR.row (p := 2) rfl ⟨_, rfl, rfl⟩ rfl rfl⟩, ⟨rfl, trivial⟩⟩⟩, ⟨nilS, rfl, (pk [0,98,98,98,98,98,98] rfl)⟩⟩⟩⟩
    refine zD rfl (zK (zT rfl ?_));obtain ⟨hk67, h⟩ := chk_some h;refine zV R3 (Val.add rfl rfl hk67) (zM R4 (zN ?_));cases h;exact ⟨rfl, (), (sb .refl)⟩
   refine zD rfl (zE ?_);cases h;exact ⟨ex_ne, ⟨rfl, (), (sb .refl)⟩⟩
  ·rintro _ _ h;refine zU rfl (zJ 1 [_] R7 (fun b12=>TO.eff0 rfl rfl (Eff.store_row (p := 0) (cv := [_]) (cells' := [_]) rfl rfl rfl rfl rfl rfl rfl rfl aG (by decide) rfl) ?_));rintro _ rfl;refine zG (_::_::_::_::_::_::_::C) rfl (zN ?_)
   show T _ _ _ _ _ _;apply T.joinA (r := r) (W := Nat × AV) (fun j w => ⟨[w.1], [(6, .ptr b6 0 1), (7, .ptr b7 0 1)], .obj w.1 (.dfr true) :: ownL j.2.1 w.2 encI j.1 :: .row b12 1 [bv j.2.2.1] :: .row b7 1 [iv (j.2.2.2)] :: .row b6 1 [w.2] :: .row b9 3 [qH, qG, qB] :: .row b5 1 [iv (carry)] :: .row b4 1 [v_books] :: .row b3 3 [qH, qG, qB] :: C⟩) h
   ·intro j h;refine zU rfl (zL 5 R3 R6 (zV R3 (Val.len_l h_books M7 rfl rfl) (TO.callIn rfl rfl rfl rfl rfl rfl (orcN rfl) (TF.enter (fn := Go.Proofs.Tryz.f50) rfl rfl rfl rfl rfl (zU rfl (zQ 1 [_] R7 (fun b1=>zA R4 (zN (zU rfl (zV R3 (Val.makeFunc rfl rfl) (zA R4 (zN (zR ?_)))))))))))));refine ⟨rfl, _, rfl, ?_⟩;refine zN (zB (T.nilown (u := encI.u) ?_));obtain ⟨hkR4, h⟩ := chk_some h
    show T _ _ _ _ _ _;apply T.rangeP (r := j) (W := AV) (w0 := nilS) ArgW (fun (j : (List Int) × Bool × Bool × Int) (w : AV) => [ownL j.2.1 w encI j.1, .row b12 1 [bv j.2.2.1], .row b7 1 [iv (j.2.2.2)], .row b6 1 [w]]) (.row b1 1 [iv ((books.length : Int))] :: .row b9 3 [qH, qG, qB] :: .row b5 1 [iv (carry)] :: .row b4 1 [v_books] :: .row b3 3 [qH, qG, qB] :: C) h
    ·rfl
    ·rfl
    ·rfl
    ·exact (pk [0,1,2,2] rfl)
    ·exact wk_yields (many := books.length) (List.mem_of_getElem? (i := 0) rfl) hkR4
    ·rintro l4 d ⟨trips, z, found, way⟩ v16 p vs G F4 ans hmem harg hD hG h;unfold P_s9_Walk_L4 at h;dsimp only at h;obtain ⟨v1_p, v2_p, w0_p, b_p, rfl, rfl, hS_p⟩ := harg
     have hm_p : ownL false v1_p encI p.1 ∈ F4 := hG _ (by simp)
     have hT_p : Rdl F4 encI v1_p p.1 := .inr ⟨false, hm_p⟩
     have hP_p : RdP F4 v2_p p.2 := ⟨true, w0_p, b_p, hG _ (by simp), hS_p⟩
     have hCF : ∀ x ∈ C, x ∈ F4 := fun x hx => hD x (memS M4 x hx)
     replace qAc := Rdl.mono qAc hCF;replace qW := Rdl.mono qW hCF;replace qI := Rdl.mono qI hCF;replace h_books := Rdl.mono h_books hCF
     have hu4_t15 : Thing.row b1 1 [iv ((books.length : Int))] ∈ F4 := (hD _ (List.mem_of_getElem? (i := 0) rfl))
     have hu4_t6 : Thing.row b9 3 [qH, qG, qB] ∈ F4 := (hD _ (List.mem_of_getElem? (i := 1) rfl))
     have hu4_t3 : Thing.row b5 1 [iv (carry)] ∈ F4 := (hD _ (List.mem_of_getElem? (i := 2) rfl))
     have hu4_t2 : Thing.row b4 1 [v_books] ∈ F4 := (hD _ (List.mem_of_getElem? (i := 3) rfl))
     have hu4_t1 : Thing.row b3 3 [qH, qG, qB] ∈ F4 := (hD _ (List.mem_of_getElem? (i := 4) rfl));refine ⟨_, rfl, fun LR4 LB4 hLB4 => ?_⟩;refine T.things (hs' := LR4 :: ownL z v16 encI trips :: .row b12 1 [bv found] :: .row b7 1 [iv (way)] :: .row b6 1 [v16] :: F4) rfl (zU rfl (zA R4 (zN (zT rfl (zA R4 (zN ?_))))));refine ⟨rfl, 0, rfl, ?_⟩;refine T.things (hs' := LB4 :: ownL z v16 encI trips :: .row b12 1 [bv found] :: .row b7 1 [iv (way)] :: .row b6 1 [v16] :: F4) rfl (zB (zU rfl (zA R4 (zN (zU rfl (zA R4 (zN ?_)))))))
     show T _ _ _ _ _ _;apply T.joinA (r := ans) (W := Unit) (fun j w => ⟨[], [(6, .ptr b6 0 1), (7, .ptr b7 0 1), (12, .ptr b12 0 1), (13, v1_p), (15, iv (j.1)), (16, bv j.2)], LB4 :: ownL z v16 encI trips :: .row b12 1 [bv found] :: .row b7 1 [iv (way)] :: .row b6 1 [v16] :: F4⟩) h
     ·intro j h;refine zU rfl (zM R4 (zV R3 (Val.len_P hP_p M5 rfl rfl) (zM R4 (zN (zB ?_)))))
      show T _ _ _ _ _ _;apply T.iter (r := j) (W := Unit) (fun j w => ⟨[], [(4, .ptr b4 0 1), (5, .ptr b5 0 1), (6, .ptr b6 0 1), (7, .ptr b7 0 1), (9, .ptr b9 0 3), (12, .ptr b12 0 1), (13, v1_p), (15, iv (j.1)), (16, bv j.2.1), (73, v2_p), (74, iv ((p.2.length : Int))), (75, iv (j.2.2))], LB4 :: ownL z v16 encI trips :: .row b12 1 [bv found] :: .row b7 1 [iv (way)] :: .row b6 1 [v16] :: F4⟩) (w0 := ()) h
      ·exact (sb .refl)
      rintro ⟨sum, light, x75⟩ _ a h;unfold P_s9_Walk_L5 at h;dsimp only at h;dsimp only;refine zU rfl ?_;obtain ⟨c76, hc76⟩ := zY (x75 < (p.2.length : Int));refine zV R3 (Val.lss hc76 rfl rfl) (zN (zS ?_));obtain ⟨rfl, hc76, h⟩ | ⟨rfl, hc76, h⟩ := zI hc76 h
      ·refine zC rfl (zK ?_)
       show T _ _ _ _ _ _;apply T.joinA (r := a) (W := Unit) (fun j w => ⟨[], [(4, .ptr b4 0 1), (5, .ptr b5 0 1), (6, .ptr b6 0 1), (7, .ptr b7 0 1), (9, .ptr b9 0 3), (12, .ptr b12 0 1), (13, v1_p), (15, iv (j.1)), (16, bv j.2), (73, v2_p), (74, iv ((p.2.length : Int))), (75, iv (x75))], LB4 :: ownL z v16 encI trips :: .row b12 1 [bv found] :: .row b7 1 [iv (way)] :: .row b6 1 [v16] :: F4⟩) h
       ·intro j h;refine zB (zU rfl ?_);obtain ⟨a77, hia77, ea77, h⟩ := el_some h;refine TO.fact (rdP_at hP_p M5 hia77 ea77) (fun hp=>?_);obtain ⟨pa77, hpa77, hva77⟩ := hp;refine zV R3 (hva77 ⟨rfl, rfl⟩ rfl rfl) (zV R3 (Val.load_e hpa77 M5 ⟨_, rfl, rfl⟩ rfl rfl) (zA R4 (zN (zU rfl (zV R3 (Val.load_rowsM (c := [_, _, _]) hu4_t6 M5 ⟨⟨_, rfl, rfl⟩, rfl, by decide⟩ rfl rfl rfl rfl) (zV R3 (Val.load_rowM hu4_t2 M5 ⟨_, rfl, rfl⟩ rfl rfl rfl) (zM R4 ?_)))))));obtain ⟨⟨y83, y83_2⟩, hr83, h⟩ := andx_some h;dsimp only at h;refine TO.callT (first := []) (cap := []) (vs := [.agg [qH, qG, qB], v_books, iv (a77)]) rfl rfl rfl rfl rfl rfl (orcN rfl) (tf_s9_trip aD (Rdl.mono qAc M5) (Rdl.mono qW M5) (Rdl.mono qI M5) (Rdl.mono h_books M5) hr83) ?_;rintro _;refine zG (_::_::_::_::_::F4) rfl (zM R4 (zX R5 (zX R5 (zA R4 (zA R4 (zN (zU rfl (zM R4 (zM R4 ?_)))))))));obtain ⟨hk88, h⟩ := chk_some h;refine zV R3 (Val.add rfl rfl hk88) (zA R4 (zN (zT rfl (zM R4 (zM R4 ?_)))));obtain ⟨rfl, h⟩ | ⟨rfl, h⟩ := zZ h
        ·refine zM R4 (zV R3 (Val.load_rowM hu4_t3 M5 ⟨_, rfl, rfl⟩ rfl rfl rfl) ?_);obtain ⟨c93, hc93⟩ := zY (y83_2 ≤ carry);refine zV R3 (Val.leq hc93 rfl rfl) (zP R6 (zA R4 (zN ?_)));subst hc93;cases h;exact ⟨rfl, (), (sb .refl)⟩
        refine zO R3 (zO R3 (zO R3 (zP R6 (zA R4 (zN ?_)))));cases h;exact ⟨rfl, (), (sb .refl)⟩
       ·rintro ⟨sum_2, light_2⟩ _ h;dsimp only at h;dsimp only;refine zT rfl ?_;obtain ⟨hk95, h⟩ := chk_some h;refine zV R3 (Val.add rfl rfl hk95) (zM R4 (zN ?_));cases h;exact ⟨rfl, (), (sb .refl)⟩
      refine zD rfl (zE ?_);cases h;exact ⟨ex_ne, ⟨rfl, (), (sb .refl)⟩⟩
     ·rintro ⟨sum, light⟩ _ h;dsimp only at h;dsimp only
      show T _ _ _ _ _ _;apply T.joinA (r := ans) (W := Unit) (fun j w => ⟨[], [(6, .ptr b6 0 1), (7, .ptr b7 0 1), (12, .ptr b12 0 1), (13, v1_p), (15, iv (sum)), (105, bv j.1)], LB4 :: ownL z v16 encI trips :: .row b12 1 [bv j.2] :: .row b7 1 [iv (way)] :: .row b6 1 [v16] :: F4⟩) h
      ·intro j h;refine zT rfl (zM R4 (zM R4 ?_));obtain ⟨rfl, h⟩ | ⟨rfl, h⟩ := zZ h
       ·refine zL 2 R3 R6 (zV R3 (Val.not rfl) (zM R4 ?_));obtain ⟨rfl, h⟩ | ⟨rfl, h⟩ := zZ h
        ·refine zM R4 (zL 3 R3 R6 ?_);obtain ⟨c103, hc103⟩ := zY (sum < way);refine zV R3 (Val.lss hc103 rfl rfl) (zP R6 (zP R6 (zN ?_)));subst hc103;cases h;exact ⟨rfl, (), (sb .refl)⟩
        refine zO R3 (zO R3 (zO R3 (zP R6 (zP R6 (zN ?_)))));cases h;exact ⟨rfl, (), (sb .refl)⟩
       refine zO R3 (zO R3 (zO R3 (zO R3 (zO R3 (zO R3 (zO R3 (zP R6 (zN ?_))))))));cases h;exact ⟨rfl, (), (sb .refl)⟩
      ·rintro ⟨x105, found_2⟩ _ h;dsimp only at h;dsimp only;obtain ⟨rfl, h⟩ | ⟨rfl, h⟩ := zZ h
       ·refine zC rfl (zT rfl (zM R4 ?_));obtain ⟨hk107, h⟩ := chk_some h;refine TO.callT (first := []) (cap := []) (vs := [v1_p]) rfl rfl rfl rfl rfl rfl (orcN rfl) (tf_cloneT hm_p M5 hk107) ?_;rintro v107;refine zG (_::_::_::_::_::_::F4) rfl (zM R4 (TO.fact (own_cellS (p := 0) rfl) (fun hot20=>TO.eff0 rfl rfl (Eff.store_row (p := 5) (cv := [_]) (cells' := [_]) rfl rfl rfl rfl rfl hot20.1 rfl rfl (by first | rfl | (simp [GS.one, hot20.2]; done)) (by decide) rfl) ?_)));rintro _ rfl;refine zG (_::_::_::_::_::_::F4) rfl (TO.eff0 rfl rfl (Eff.store_row (p := 4) (cv := [_]) (cells' := [_]) rfl rfl rfl rfl rfl rfl rfl rfl aG (by decide) rfl) ?_);rintro _ rfl;refine zG (_::_::_::_::_::_::F4) rfl (TO.eff0 rfl rfl (Eff.store_row (p := 3) (cv := [_]) (cells' := [_]) rfl rfl rfl rfl rfl rfl rfl rfl aG (by decide) rfl) ?_);rintro _ rfl;refine zG (_::_::_::_::_::_::F4) rfl (zN ?_);cases h;exact ⟨rfl, v107, (pk [1,0,1,1,1,98] rfl)⟩
       refine zD rfl (zK ?_);cases h;exact ⟨rfl, v16, .refl⟩
    ·rintro d ⟨trips, z, found, way⟩ v16 h;dsimp only at h;cases h;exact ⟨rfl, (d, v16), (sb (pk [0,0,0,0,0,1,1,1,1,98] rfl))⟩
   ·rintro ⟨trips, z, found, way⟩ ⟨iddfr4, v16⟩ h;dsimp only at h;dsimp only;refine zS (T.drawE (l1 := [0, 1]) (l2 := [2, 3, 4]) (by kernel_rfl) (by kernel_rfl) (yR R4 (vR (p := 4) R6) (yR R4 (vR (p := 3) R6) (TD1.over (fun v => sameC_refl v) (all_cons (⟨_, rfl, (vR (p := 3) R6)⟩) (all_cons (⟨_, rfl, (vR (p := 4) R6)⟩) all_nil)) (TD2.fact (own_cellS (p := 1) rfl) (fun hot16=>TD2.heavy (fun v => sameC_refl v) rfl (by decide) rfl rfl (OpS.eff (Eff.store_row (p := 4) (cv := [_]) (cells' := [_]) rfl rfl rfl rfl rfl hot16.1 rfl rfl (by first | rfl | (simp [GS.one, hot16.2]; done)) (by decide) rfl)) ?_))))));rintro _ _ rfl;refine ⟨(all_cons (.inr ⟨_, rfl, (vR (p := 3) R6)⟩) (all_cons (.inl (by kernel_rfl)) all_nil)), all_nil, ?_⟩;refine yG (_::_::_::_::_::_::_::_::_::C) rfl (TD2.heavy (fun v => sameC_refl v) rfl (by decide) rfl rfl (OpS.eff (Eff.store_row (p := 3) (cv := [_]) (cells' := [_]) rfl rfl rfl rfl rfl rfl rfl rfl aG (by decide) rfl)) ?_);rintro _ _ rfl;refine ⟨(all_cons (.inl (by kernel_rfl)) (all_cons (.inl (by kernel_rfl)) all_nil)), all_nil, ?_⟩;refine yG (_::_::_::_::_::_::_::_::_::C) rfl (yM R4 (Val.assign rfl) (TD2.nil (zR ?_)));cases h;exact ⟨rfl, _, ⟨0, rfl, rfl⟩, [_, _, _], ⟨⟨_, rfl, LoadR.row (p := 3) rfl ⟨_, rfl, rfl⟩ rfl rfl⟩, ⟨⟨_, rfl, LoadR.row (p := 2) rfl ⟨_, rfl, rfl⟩ rfl rfl⟩, ⟨rfl, trivial⟩⟩⟩, ⟨v16, rfl, (pk [0,98,98,98,98,98,98,98] rfl)⟩⟩
theorem w_s9_Walk (qE : GS encStr) (qF : GS qZ) (qC : GS qS) (books : GS encI) (carry : Int) (r : (List Int) × Bool × Int × Int) (h : P_s9_Walk qE.l qF.l qC.l books.l carry = some r) : Comes (EL 1) 9 [.agg [qE.v, qF.v, qC.v], books.v, iv (carry)] (.tuple [(GSo r.2.1 encI r.1).v, iv r.2.2.1, iv r.2.2.2]) :=
 TF.run (tf_s9_Walk (Nat.le_refl _) (RdT.gs qE) (RdT.gs qF) (RdT.gs qC) (RdT.gs books) h) fun w => (.tuple (.cons (.ownL (en := encI) (p := 0) rfl (.lits encI_lits)) (.cons .lit (.cons .lit .nil))))
end Go.Am.YtgbbhdoobhdadaaGreatDoor
end
section
namespace Go.Am
set_option linter.unusedVariables false
noncomputable def P_r1_Range (s_Lo : Int) (s_Hi : Int) (low : Int) (high : Int) : Option Int :=
  seqx (
    andx (
      if (min s_Lo s_Hi) < low then
        some true
      else
        some (decide ((max s_Lo s_Hi) > high))) fun x22 =>
      if x22 = true then
        some (Ex.rt 7)
      else
        some (Ex.nx ())) fun _ =>
    if s_Hi < s_Lo then
      some 2
    else
      some 0
noncomputable def P_r10_in (n : Int) (low : Int) (high : Int) : Option Bool :=
  andx (
    if n ≥ low then
      some (decide (n ≤ high))
    else
      some false) fun x6 =>
    some x6
noncomputable def P_r10_books_L1 (l : List qX) : (Int × (List Str)) → Option (Stp (Int × (List Str)) (Ex Unit (Int × Int))) := fun (i, names) =>
  if i < (l.length : Int) then
    seqx (
      el l i fun a18 =>
      andx (P_r1_Fresh a18.name names) fun y22 =>
        el l i fun a26 =>
        chk (names.length + [a26.name].length < 1000000000) (
          andx (
            andx (
              if y22 = 0 then
                el l i fun a36 =>
                andx (P_r10_in a36.classv 0 5) fun y39 =>
                  some (!y39)
              else
                some false) fun x41 =>
              if x41 = true then
                some 7
              else
                some y22) fun e =>
            andx (
              if e = 0 then
                el l i fun a46 =>
                andx (P_r1_Range a46.light_lo a46.light_hi 0 1000) fun y49 =>
                  some y49
              else
                some e) fun e_2 =>
              if ¬ e_2 = 0 then
                some (Ex.rt (Stp.dn (Ex.rt (i, e_2))))
              else
                some (Ex.nx (names ++ [a26.name])))) fun names_2 =>
      chk (I64 (i + 1)) (
        some (Stp.ag ((i + 1), names_2)))
  else
    some (Stp.dn (Ex.nx ()))
noncomputable def P_r10_books (l : List qX) : Option (Int × Int) :=
  if (l.length : Int) > 8 then
    some (0, 3)
  else
    seqx (
      iter (P_r10_books_L1 l) (0, [])) fun _ =>
      some (0, 0)
noncomputable def P_r10_readers_L1 (l : List qAa) : (Int × (List Str)) → Option (Stp (Int × (List Str)) (Ex Unit (Int × Int))) := fun (i, names) =>
  if i < (l.length : Int) then
    seqx (
      el l i fun a18 =>
      andx (P_r1_Fresh a18.name names) fun y22 =>
        el l i fun a26 =>
        chk (names.length + [a26.name].length < 1000000000) (
          andx (
            andx (
              if y22 = 0 then
                el l i fun a36 =>
                andx (P_r10_in a36.permit 0 5) fun y39 =>
                  some (!y39)
              else
                some false) fun x41 =>
              if x41 = true then
                some 7
              else
                some y22) fun e =>
            if ¬ e = 0 then
              some (Ex.rt (Stp.dn (Ex.rt (i, e))))
            else
              some (Ex.nx (names ++ [a26.name])))) fun names_2 =>
      chk (I64 (i + 1)) (
        some (Stp.ag ((i + 1), names_2)))
  else
    some (Stp.dn (Ex.nx ()))
noncomputable def P_r10_readers (l : List qAa) : Option (Int × Int) :=
  if (l.length : Int) > 8 then
    some (0, 3)
  else
    seqx (
      iter (P_r10_readers_L1 l) (0, [])) fun _ =>
      some (0, 0)
noncomputable def P_r10_Check_L1 (r_Seats : List qAe) : Int → Option (Stp Int (Ex Unit (Int × Int × Int))) := fun i =>
  if i < (r_Seats.length : Int) then
    el r_Seats i fun a44 =>
    andx (P_r10_in a44.light 0 100) fun y47 =>
      if y47 = true then
        chk (I64 (i + 1)) (
          some (Stp.ag (i + 1)))
      else
        some (Stp.dn (Ex.rt (3, i, 7)))
  else
    some (Stp.dn (Ex.nx ()))
noncomputable def P_r10_Check_L2 (qC : List qX) (r_Readers : List qAa) (r_Requests : List qY) : Int → Option (Stp Int (Ex Unit (Int × Int × Int))) := fun i =>
  if i < (r_Requests.length : Int) then
    seqx (
      el r_Requests i fun a64 =>
      seqx (
        andx (
          chk (I64 ((r_Readers.length : Int) - 1)) (
            andx (P_r10_in a64.reader 0 ((r_Readers.length : Int) - 1)) fun y72 =>
              if y72 = true then
                chk (I64 ((qC.length : Int) - 1)) (
                  andx (P_r10_in a64.book 0 ((qC.length : Int) - 1)) fun y81 =>
                    some (!y81))
              else
                some true)) fun x83 =>
          if x83 = true then
            some (Ex.rt (Ex.rt (Stp.dn (Ex.rt (4, i, 4)))))
          else
            some (Ex.nx ())) fun _ =>
        andx (
          andx (P_r10_in a64.hours 1 12) fun y87 =>
            if y87 = true then
              andx (P_r10_in a64.worth 0 100) fun y92 =>
                some (!y92)
            else
              some true) fun x94 =>
          if x94 = true then
            some (Ex.rt (Stp.dn (Ex.rt (4, i, 7))))
          else
            some (Ex.nx ())) fun _ =>
      chk (I64 (i + 1)) (
        some (Stp.ag (i + 1)))
  else
    some (Stp.dn (Ex.nx ()))
noncomputable def P_r10_Check (qC : List qX) (r_Readers : List qAa) (r_Seats : List qAe) (r_Requests : List qY) : Option (Int × Int × Int) :=
  andx (P_r10_books qC) fun (y13, y13_2) =>
    if ¬ y13_2 = 0 then
      some (1, y13, y13_2)
    else
      andx (P_r10_readers r_Readers) fun (y23, y23_2) =>
        if ¬ y23_2 = 0 then
          some (2, y23, y23_2)
        else
          if (r_Seats.length : Int) > 6 then
            some (3, 0, 3)
          else
            seqx (
              iter (P_r10_Check_L1 r_Seats) 0) fun _ =>
              if (r_Requests.length : Int) > 8 then
                some (4, 0, 3)
              else
                seqx (
                  iter (P_r10_Check_L2 qC r_Readers r_Requests) 0) fun _ =>
                  some (0, 0, 0)
noncomputable def P_rd_outside_L1 (lo : Int) (hi : Int) (numbers : List Int) : Int → Option (Stp Int (Ex Unit Int)) := fun x8 =>
  if x8 < (numbers.length : Int) then
    el numbers x8 fun a14 =>
    andx (
      if a14 < lo then
        some true
      else
        some (decide (a14 > hi))) fun x4 =>
      if x4 = true then
        some (Stp.dn (Ex.rt x8))
      else
        chk (I64 (x8 + 1)) (
          some (Stp.ag (x8 + 1)))
  else
    some (Stp.dn (Ex.nx ()))
noncomputable def P_rd_outside (lo : Int) (hi : Int) (numbers : List Int) : Option Bool :=
  andx (
    seqx (
      iter (P_rd_outside_L1 lo hi numbers) 0) fun _ =>
      some (-1)) fun y7 =>
    some (decide (y7 ≥ 0))
noncomputable def P_rd_Check_L2 (qC : List qX) (x20 : Int) (a23 : qX) : Int → Option (Stp Int (Ex Unit Int)) := fun x8 =>
  if x8 < ((List.take (x20 - (0 : Int)).toNat (List.drop ((0 : Int) : Int).toNat qC)).length : Int) then
    el (List.take (x20 - (0 : Int)).toNat (List.drop ((0 : Int) : Int).toNat qC)) x8 fun a14 =>
    if a14.name = a23.name then
      some (Stp.dn (Ex.rt x8))
    else
      chk (I64 (x8 + 1)) (
        some (Stp.ag (x8 + 1)))
  else
    some (Stp.dn (Ex.nx ()))
noncomputable def P_rd_Check_L1 (qC : List qX) : Int → Option (Stp Int (Ex Unit (Int × Int × Int))) := fun x20 =>
  if x20 < (qC.length : Int) then
    seqx (
      el qC x20 fun a23 =>
      andx (P_q_Name a23.name) fun y28 =>
        if y28 = true then
          chk (0 ≤ (0 : Int) ∧ (0 : Int) ≤ x20 ∧ x20 ≤ (qC.length : Int)) (
            andx (
              seqx (
                iter (P_rd_Check_L2 qC x20 a23) 0) fun _ =>
                some (-1)) fun y7 =>
              if y7 ≥ 0 then
                some (Ex.rt (Stp.dn (Ex.rt (1, x20, 5))))
              else
                andx (
                  andx (P_rd_outside 0 5 [a23.classv]) fun y43 =>
                    if y43 = true then
                      some true
                    else
                      andx (P_rd_outside 0 1000 [a23.light_lo, a23.light_hi]) fun y52 =>
                        some y52) fun x39 =>
                  if x39 = true then
                    some (Ex.rt (Stp.dn (Ex.rt (1, x20, 7))))
                  else
                    if a23.light_lo > a23.light_hi then
                      some (Ex.rt (Stp.dn (Ex.rt (1, x20, 2))))
                    else
                      some (Ex.nx ()))
        else
          some (Ex.rt (Stp.dn (Ex.rt (1, x20, 6))))) fun _ =>
      chk (I64 (x20 + 1)) (
        some (Stp.ag (x20 + 1)))
  else
    some (Stp.dn (Ex.nx ()))
noncomputable def P_rd_Check_L4 (r_Readers : List qAa) (x72 : Int) (a75 : qAa) : Int → Option (Stp Int (Ex Unit Int)) := fun x8 =>
  if x8 < ((List.take (x72 - (0 : Int)).toNat (List.drop ((0 : Int) : Int).toNat r_Readers)).length : Int) then
    el (List.take (x72 - (0 : Int)).toNat (List.drop ((0 : Int) : Int).toNat r_Readers)) x8 fun a14 =>
    if a14.name = a75.name then
      some (Stp.dn (Ex.rt x8))
    else
      chk (I64 (x8 + 1)) (
        some (Stp.ag (x8 + 1)))
  else
    some (Stp.dn (Ex.nx ()))
noncomputable def P_rd_Check_L3 (r_Readers : List qAa) : Int → Option (Stp Int (Ex Unit (Int × Int × Int))) := fun x72 =>
  if x72 < (r_Readers.length : Int) then
    el r_Readers x72 fun a75 =>
    andx (P_q_Name a75.name) fun y80 =>
      if y80 = true then
        chk (0 ≤ (0 : Int) ∧ (0 : Int) ≤ x72 ∧ x72 ≤ (r_Readers.length : Int)) (
          andx (
            seqx (
              iter (P_rd_Check_L4 r_Readers x72 a75) 0) fun _ =>
              some (-1)) fun y7 =>
            if y7 ≥ 0 then
              some (Stp.dn (Ex.rt (2, x72, 5)))
            else
              andx (P_rd_outside 0 5 [a75.permit]) fun y95 =>
                if y95 = true then
                  some (Stp.dn (Ex.rt (2, x72, 7)))
                else
                  chk (I64 (x72 + 1)) (
                    some (Stp.ag (x72 + 1))))
      else
        some (Stp.dn (Ex.rt (2, x72, 6)))
  else
    some (Stp.dn (Ex.nx ()))
noncomputable def P_rd_Check_L5 (r_Seats : List qAe) : Int → Option (Stp Int (Ex Unit (Int × Int × Int))) := fun x105 =>
  if x105 < (r_Seats.length : Int) then
    el r_Seats x105 fun a108 =>
    andx (P_rd_outside 0 100 [a108.light]) fun y113 =>
      if y113 = true then
        some (Stp.dn (Ex.rt (3, x105, 7)))
      else
        chk (I64 (x105 + 1)) (
          some (Stp.ag (x105 + 1)))
  else
    some (Stp.dn (Ex.nx ()))
noncomputable def P_rd_Check_L6 (qC : List qX) (r_Readers : List qAa) (r_Requests : List qY) : Int → Option (Stp Int (Ex Unit (Int × Int × Int))) := fun x123 =>
  if x123 < (r_Requests.length : Int) then
    seqx (
      el r_Requests x123 fun a126 =>
      andx (
        chk (I64 ((r_Readers.length : Int) - 1)) (
          andx (P_rd_outside 0 ((r_Readers.length : Int) - 1) [a126.reader]) fun y136 =>
            if y136 = true then
              some true
            else
              chk (I64 ((qC.length : Int) - 1)) (
                andx (P_rd_outside 0 ((qC.length : Int) - 1) [a126.book]) fun y145 =>
                  some y145))) fun x128 =>
        if x128 = true then
          some (Ex.rt (Stp.dn (Ex.rt (4, x123, 4))))
        else
          andx (
            andx (P_rd_outside 1 12 [a126.hours]) fun y152 =>
              if y152 = true then
                some true
              else
                andx (P_rd_outside 0 100 [a126.worth]) fun y157 =>
                  some y157) fun x148 =>
            if x148 = true then
              some (Ex.rt (Stp.dn (Ex.rt (4, x123, 7))))
            else
              some (Ex.nx ())) fun _ =>
      chk (I64 (x123 + 1)) (
        some (Stp.ag (x123 + 1)))
  else
    some (Stp.dn (Ex.nx ()))
noncomputable def P_rd_Check (qC : List qX) (r_Readers : List qAa) (r_Seats : List qAe) (r_Requests : List qY) : Option (Int × Int × Int) :=
  if (qC.length : Int) > 8 then
    some (1, 0, 3)
  else
    seqx (
      iter (P_rd_Check_L1 qC) 0) fun _ =>
      if (r_Readers.length : Int) > 8 then
        some (2, 0, 3)
      else
        seqx (
          iter (P_rd_Check_L3 r_Readers) 0) fun _ =>
          if (r_Seats.length : Int) > 6 then
            some (3, 0, 3)
          else
            seqx (
              iter (P_rd_Check_L5 r_Seats) 0) fun _ =>
              if (r_Requests.length : Int) > 8 then
                some (4, 0, 3)
              else
                seqx (
                  iter (P_rd_Check_L6 qC r_Readers r_Requests) 0) fun _ =>
                  some (0, 0, 0)
end Go.Am
end
section
namespace Go.Am.YtgbbhdoobhdadaaGreatDoor
open Go.Am Go.RowKit
set_option linter.unusedVariables false
set_option linter.unusedSimpArgs false
set_option maxRecDepth 10000 in
theorem tf_r1_Range {k : Nat} (hk : 0 ≤ k) {C : List Thing} {s_Lo : Int} {s_Hi : Int} {low : Int} {high : Int} {r : Int} (h : P_r1_Range s_Lo s_Hi low high = some r) :
  TF (EL k) 57 [.agg [iv (s_Lo), iv (s_Hi)], iv (low), iv (high)] C (RepF (fun (w : Unit) => iv r) (fun (w : Unit) => C)) := by
 unfold P_r1_Range at h;refine TF.enter (fn := Go.Proofs.Tryz.f57) rfl rfl rfl rfl rfl (zU rfl (zQ 2 [_,_] R7 (fun b3=>zA R4 (zN ?_))))
 show T _ _ _ _ _ _;apply T.join (r := r) (W := Unit) (fun j w => ⟨[], [(3, .ptr b3 0 2)], .row b3 2 [iv (s_Lo), iv (s_Hi)] :: C⟩) h
 ·intro j h
  show T _ _ _ _ _ _;apply T.joinA (r := j) (W := Unit) (fun j w => ⟨[], [(3, .ptr b3 0 2), (22, bv j)], .row b3 2 [iv (s_Lo), iv (s_Hi)] :: C⟩) h
  ·intro j h;refine zT rfl (zF 0 R6 (zL 0 R3 R6 (zF 1 R6 (zL 0 R3 R6 (zV R3 (Val.bmin rfl rfl) (zM R4 ?_))))));obtain ⟨c13, hc13⟩ := zY ((min s_Lo s_Hi) < low);refine zV R3 (Val.lss hc13 rfl rfl) (zM R4 ?_);obtain ⟨rfl, hc13, h⟩ | ⟨rfl, hc13, h⟩ := zI hc13 h
   ·refine zO R3 (zO R3 (zO R3 (zO R3 (zO R3 (zO R3 (zO R3 (zP R6 (zN ?_))))))));cases h;exact ⟨rfl, (), (sb .refl)⟩
   refine zF 0 R6 (zL 0 R3 R6 (zF 1 R6 (zL 0 R3 R6 (zV R3 (Val.bmax rfl rfl) (zM R4 ?_)))));obtain ⟨c21, hc21⟩ := zY ((max s_Lo s_Hi) > high);refine zV R3 (Val.gtr hc21 rfl rfl) (zP R6 (zN ?_));subst hc21;cases h;exact ⟨rfl, (), (sb .refl)⟩
  ·rintro x22 _ h;replace h := zZ h;obtain ⟨rfl, h⟩ | ⟨rfl, h⟩ := h
   ·refine zC rfl (zU rfl (zA R4 (zN (zR ?_))));cases h;exact ⟨ret_ne, ⟨rfl, _, rfl, ⟨(), rfl, (pk [98] rfl)⟩⟩⟩
   refine zD rfl (zK ?_);cases h;exact ⟨rfl, (), (sb .refl)⟩
 ·rintro _ _ h;refine zS (zU rfl (zF 1 R6 (zL 0 R3 R6 (zF 0 R6 (zL 0 R3 R6 ?_)))));obtain ⟨c27, hc27⟩ := zY (s_Hi < s_Lo);refine zV R3 (Val.lss hc27 rfl rfl) (zN ?_);obtain ⟨rfl, hc27, h⟩ | ⟨rfl, hc27, h⟩ := zI hc27 h
  ·refine zC rfl (zU rfl (zA R4 (zN (zR ?_))));cases h;exact ⟨rfl, _, rfl, ⟨(), rfl, (pk [98] rfl)⟩⟩
  refine zD rfl (zK (zU rfl (zA R4 (zN (zR ?_)))));cases h;exact ⟨rfl, _, rfl, ⟨(), rfl, (pk [98] rfl)⟩⟩
set_option maxRecDepth 10000 in
theorem tf_r10_in {k : Nat} (hk : 0 ≤ k) {C : List Thing} {n : Int} {low : Int} {high : Int} {r : Bool} (h : P_r10_in n low high = some r) :
  TF (EL k) 17 [iv (n), iv (low), iv (high)] C (RepF (fun (w : Unit) => bv r) (fun (w : Unit) => C)) := by
 unfold P_r10_in at h;refine TF.enter (fn := Go.Proofs.Tryz.f17) rfl rfl rfl rfl rfl (zU rfl (zA R4 (zN ?_)))
 show T _ _ _ _ _ _;apply T.joinA (r := r) (W := Unit) (fun j w => ⟨[], [(6, bv j)], C⟩) h
 ·intro j h;refine zT rfl (zM R4 (zM R4 ?_));obtain ⟨c9, hc9⟩ := zY (n ≥ low);refine zV R3 (Val.geq hc9 rfl rfl) (zM R4 ?_);obtain ⟨rfl, hc9, h⟩ | ⟨rfl, hc9, h⟩ := zI hc9 h
  ·refine zM R4 (zM R4 ?_);obtain ⟨c13, hc13⟩ := zY (n ≤ high);refine zV R3 (Val.leq hc13 rfl rfl) (zP R6 (zA R4 (zN ?_)));subst hc13;cases h;exact ⟨rfl, (), (sb .refl)⟩
  refine zO R3 (zO R3 (zO R3 (zP R6 (zA R4 (zN ?_)))));cases h;exact ⟨rfl, (), (sb .refl)⟩
 ·rintro x6 _ h;refine zR ?_;cases h;exact ⟨rfl, _, rfl, ⟨(), rfl, .refl⟩⟩
set_option maxRecDepth 10000 in
theorem tf_r10_books {k : Nat} (hk : 0 ≤ k) {C : List Thing} {v_l : AV} {l : List qX} (h_l : Rdl C qJ v_l l) {r : Int × Int} (h : P_r10_books l = some r) :
  TF (EL k) 15 [v_l] C (RepF (fun (w : Unit) => .tuple [iv r.1, iv r.2]) (fun (w : Unit) => C)) := by
 unfold P_r10_books at h;refine TF.enter (fn := Go.Proofs.Tryz.f15) rfl rfl rfl rfl rfl (zU rfl (zA R4 (zA R4 (zN (zS (zU rfl (zM R4 (zV R3 (Val.len_l h_l mem0 rfl rfl) ?_))))))));obtain ⟨c9, hc9⟩ := zY ((l.length : Int) > 8);refine zV R3 (Val.gtr hc9 rfl rfl) (zN ?_);obtain ⟨rfl, hc9, h⟩ | ⟨rfl, hc9, h⟩ := zI hc9 h
 ·refine zC rfl (zU rfl (zA R4 (zA R4 (zN (zR ?_)))));cases h;exact ⟨rfl, _, rfl, ⟨(), rfl, .refl⟩⟩
 refine zD rfl (zK (zU rfl (zA R4 (zN ?_))))
 show T _ _ _ _ _ _;apply T.join (r := r) (W := Unit) (fun j w => ⟨[], [], C⟩) h
 ·intro j h;refine zU rfl (zA R4 (zN (zB (T.nilown (u := encStr.u) ?_))))
  show T _ _ _ _ _ _;apply T.iter (r := j) (W := AV) (fun j w => ⟨[], [(0, v_l), (4, w), (5, iv (j.1))], ownL true w encStr j.2 :: C⟩) (w0 := nilS) h
  ·exact (sb .refl)
  rintro ⟨i, names⟩ v1 a h;unfold P_r10_books_L1 at h;dsimp only at h;dsimp only;refine zS (zU rfl (zM R4 (zM R4 (zV R3 (Val.len_l h_l M1 rfl rfl) ?_))));obtain ⟨c13, hc13⟩ := zY (i < (l.length : Int));refine zV R3 (Val.lss hc13 rfl rfl) (zN ?_);obtain ⟨rfl, hc13, h⟩ | ⟨rfl, hc13, h⟩ := zI hc13 h
  ·refine zC rfl (zK ?_)
   show T _ _ _ _ _ _;apply T.join (r := a) (W := AV) (fun j w => ⟨[], [(0, v_l), (4, w), (5, iv (i))], ownL true w encStr j :: C⟩) h
   ·intro j h;refine zB (zU rfl (zM R4 (zM R4 ?_)));obtain ⟨a18, hia18, ea18, h⟩ := el_some h;refine TO.fact (rdl_at h_l M1 hia18 ea18) (fun hp=>?_);obtain ⟨pa18, hpa18, hva18⟩ := hp;refine zV R3 (hva18 ⟨rfl, rfl⟩ rfl rfl) (zV R3 (Val.faddr_e (fo := 0) hpa18 rfl rfl rfl) (zV R3 (Val.load_e (PtE.add hpa18 (by decide)) M1 ⟨_, rfl, rfl⟩ rfl rfl) (zM R4 ?_)));obtain ⟨y22, hr22, h⟩ := andx_some h;refine TO.callT (first := []) (cap := []) (vs := [sv a18.name, v1]) rfl rfl rfl rfl rfl rfl (orcN rfl) (tf_r1_Fresh aD (Rdl.mono (Rdl.own (C := ownL true v1 encStr names :: C) (p := 0) rfl) mem0) hr22) ?_;rintro _;refine zG (_::C) rfl (zA R4 (zN (zU rfl (zM R4 (zM R4 (zM R4 ?_))))));obtain ⟨a26, hia26, ea26, h⟩ := el_some h;refine TO.fact (rdl_at h_l M1 hia26 ea26) (fun hp=>?_);obtain ⟨pa26, hpa26, hva26⟩ := hp;refine zV R3 (hva26 ⟨rfl, rfl⟩ rfl rfl) (zV R3 (Val.faddr_e (fo := 0) hpa26 rfl rfl rfl) (zV R3 (Val.load_e (PtE.add hpa26 (by decide)) M1 ⟨_, rfl, rfl⟩ rfl rfl) (TO.build1 (en := encStr) (a := a26.name) rfl rfl rfl ⟨rfl, rfl⟩ ⟨_, rfl, rfl⟩ (by decide) (by decide) rfl rfl (fun v29=>?_))));obtain ⟨hk30, h⟩ := chk_some h;refine TO.eff rfl rfl rfl (Eff.append_own (b := 16) (en := encStr) (l := names) (l2 := [a26.name]) (p := 1) (q := 0) ⟨rfl, rfl, rfl, ⟨_, rfl, rfl⟩, by decide, by decide⟩ rfl rfl rfl rfl rfl rfl (en_ones encStr_ones _) (by decide) hk30) ?_;rintro v30 _ rfl;refine zG (_::_::C) rfl (zA R4 (zN ?_))
    show T _ _ _ _ _ _;apply T.joinA (r := j) (W := Unit) (fun j w => ⟨[], [(0, v_l), (4, v30), (5, iv (i)), (6, iv (j))], ownL false v29 encStr [a26.name] :: ownL true v30 encStr (names ++ [a26.name]) :: C⟩) h
    ·intro j h
     show T _ _ _ _ _ _;apply T.joinA (r := j) (W := Unit) (fun j w => ⟨[], [(0, v_l), (4, v30), (5, iv (i)), (6, iv (y22)), (41, bv j)], ownL false v29 encStr [a26.name] :: ownL true v30 encStr (names ++ [a26.name]) :: C⟩) h
     ·intro j h;refine zT rfl (zM R4 ?_);obtain ⟨c32, hc32⟩ := zY (y22 = 0);refine zV R3 (Val.eql hc32 rfl rfl) (zM R4 ?_);obtain ⟨rfl, hc32, h⟩ | ⟨rfl, hc32, h⟩ := zI hc32 h
      ·refine zM R4 (zM R4 ?_);obtain ⟨a36, hia36, ea36, h⟩ := el_some h;refine TO.fact (rdl_at h_l M2 hia36 ea36) (fun hp=>?_);obtain ⟨pa36, hpa36, hva36⟩ := hp;refine zV R3 (hva36 ⟨rfl, rfl⟩ rfl rfl) (zV R3 (Val.faddr_e (fo := 1) hpa36 rfl rfl rfl) (zV R3 (Val.load_e (PtE.add hpa36 (by decide)) M2 ⟨_, rfl, rfl⟩ rfl rfl) ?_));obtain ⟨y39, hr39, h⟩ := andx_some h;refine TO.callT (first := []) (cap := []) (vs := [iv (a36.classv), iv (0), iv (5)]) rfl rfl rfl rfl rfl rfl (orcN rfl) (tf_r10_in aD hr39) ?_;rintro _;refine zG (_::_::C) rfl (zV R3 (Val.not rfl) (zP R6 (zN ?_)));cases h;exact ⟨rfl, (), (sb .refl)⟩
      refine zO R3 (zO R3 (zO R3 (zO R3 (zO R3 (zO R3 (zO R3 (zP R6 (zN ?_))))))));cases h;exact ⟨rfl, (), (sb .refl)⟩
     ·rintro x41 _ h;replace h := zZ h;obtain ⟨rfl, h⟩ | ⟨rfl, h⟩ := h
      ·refine zC rfl (zT rfl (zA R4 (zN ?_)));cases h;exact ⟨rfl, (), (sb .refl)⟩
      refine zD rfl (zK ?_);cases h;exact ⟨rfl, (), (sb .refl)⟩
    ·rintro e _ h
     show T _ _ _ _ _ _;apply T.joinA (r := j) (W := Unit) (fun j w => ⟨[], [(0, v_l), (4, v30), (5, iv (i)), (6, iv (j))], ownL false v29 encStr [a26.name] :: ownL true v30 encStr (names ++ [a26.name]) :: C⟩) h
     ·intro j h;refine zU rfl (zM R4 ?_);obtain ⟨c43, hc43⟩ := zY (e = 0);refine zV R3 (Val.eql hc43 rfl rfl) (zN ?_);obtain ⟨rfl, hc43, h⟩ | ⟨rfl, hc43, h⟩ := zI hc43 h
      ·refine zC rfl (zT rfl (zM R4 (zM R4 ?_)));obtain ⟨a46, hia46, ea46, h⟩ := el_some h;refine TO.fact (rdl_at h_l M2 hia46 ea46) (fun hp=>?_);obtain ⟨pa46, hpa46, hva46⟩ := hp;refine zV R3 (hva46 ⟨rfl, rfl⟩ rfl rfl) (zV R3 (Val.faddr_e (fo := 2) hpa46 rfl rfl rfl) (zV R3 (Val.load_es (c := [_, _]) (PtE.add hpa46 (by decide)) M2 ⟨⟨_, rfl, rfl⟩, rfl, by decide⟩ rfl rfl rfl) ?_));obtain ⟨y49, hr49, h⟩ := andx_some h;refine TO.callT (first := []) (cap := []) (vs := [.agg [iv (a46.light_lo), iv (a46.light_hi)], iv (0), iv (1000)]) rfl rfl rfl rfl rfl rfl (orcN rfl) (tf_r1_Range aD hr49) ?_;rintro _;refine zG (_::_::C) rfl (zA R4 (zN ?_));cases h;exact ⟨rfl, (), (sb .refl)⟩
      refine zD rfl (zK ?_);cases h;exact ⟨rfl, (), (sb .refl)⟩
     ·rintro e_2 _ h;refine zU rfl (zM R4 ?_);obtain ⟨c51, hc51⟩ := zY (¬ e_2 = 0);refine zV R3 (Val.neq hc51 rfl rfl) (zN ?_);obtain ⟨rfl, hc51, h⟩ | ⟨rfl, hc51, h⟩ := zI hc51 h
      ·refine zC rfl (zU rfl (zM R4 (zM R4 (zA R4 (zA R4 (zN (zR ?_)))))));cases h;exact ⟨ret_ne, ⟨ret_ne, ⟨ret_ne, ⟨rfl, _, rfl, ⟨(), rfl, (pk [98,98] rfl)⟩⟩⟩⟩⟩
      refine zD rfl (zK ?_);cases h;exact ⟨rfl, v30, (sb (pk [1,98] rfl))⟩
   ·rintro names_2 v1_2 h;refine zT rfl (zM R4 ?_);obtain ⟨hk15, h⟩ := chk_some h;refine zV R3 (Val.add rfl rfl hk15) (zA R4 (zN ?_));cases h;exact ⟨rfl, v1_2, (sb .refl)⟩
  refine zD rfl (zE ?_);cases h;exact ⟨ex_ne, ⟨rfl, (), (sb (pk [98] rfl))⟩⟩
 ·rintro _ _ h;refine zU rfl (zA R4 (zA R4 (zN (zR ?_))));cases h;exact ⟨rfl, _, rfl, ⟨(), rfl, .refl⟩⟩
set_option maxRecDepth 10000 in
theorem tf_r10_readers {k : Nat} (hk : 0 ≤ k) {C : List Thing} {v_l : AV} {l : List qAa} (h_l : Rdl C qR v_l l) {r : Int × Int} (h : P_r10_readers l = some r) :
  TF (EL k) 16 [v_l] C (RepF (fun (w : Unit) => .tuple [iv r.1, iv r.2]) (fun (w : Unit) => C)) := by
 unfold P_r10_readers at h;refine TF.enter (fn := Go.Proofs.Tryz.f16) rfl rfl rfl rfl rfl (zU rfl (zA R4 (zA R4 (zN (zS (zU rfl (zM R4 (zV R3 (Val.len_l h_l mem0 rfl rfl) ?_))))))));obtain ⟨c9, hc9⟩ := zY ((l.length : Int) > 8);refine zV R3 (Val.gtr hc9 rfl rfl) (zN ?_);obtain ⟨rfl, hc9, h⟩ | ⟨rfl, hc9, h⟩ := zI hc9 h
 ·refine zC rfl (zU rfl (zA R4 (zA R4 (zN (zR ?_)))));cases h;exact ⟨rfl, _, rfl, ⟨(), rfl, .refl⟩⟩
 refine zD rfl (zK (zU rfl (zA R4 (zN ?_))))
 show T _ _ _ _ _ _;apply T.join (r := r) (W := Unit) (fun j w => ⟨[], [], C⟩) h
 ·intro j h;refine zU rfl (zA R4 (zN (zB (T.nilown (u := encStr.u) ?_))))
  show T _ _ _ _ _ _;apply T.iter (r := j) (W := AV) (fun j w => ⟨[], [(0, v_l), (4, w), (5, iv (j.1))], ownL true w encStr j.2 :: C⟩) (w0 := nilS) h
  ·exact (sb .refl)
  rintro ⟨i, names⟩ v1 a h;unfold P_r10_readers_L1 at h;dsimp only at h;dsimp only;refine zS (zU rfl (zM R4 (zM R4 (zV R3 (Val.len_l h_l M1 rfl rfl) ?_))));obtain ⟨c13, hc13⟩ := zY (i < (l.length : Int));refine zV R3 (Val.lss hc13 rfl rfl) (zN ?_);obtain ⟨rfl, hc13, h⟩ | ⟨rfl, hc13, h⟩ := zI hc13 h
  ·refine zC rfl (zK ?_)
   show T _ _ _ _ _ _;apply T.join (r := a) (W := AV) (fun j w => ⟨[], [(0, v_l), (4, w), (5, iv (i))], ownL true w encStr j :: C⟩) h
   ·intro j h;refine zB (zU rfl (zM R4 (zM R4 ?_)));obtain ⟨a18, hia18, ea18, h⟩ := el_some h;refine TO.fact (rdl_at h_l M1 hia18 ea18) (fun hp=>?_);obtain ⟨pa18, hpa18, hva18⟩ := hp;refine zV R3 (hva18 ⟨rfl, rfl⟩ rfl rfl) (zV R3 (Val.faddr_e (fo := 0) hpa18 rfl rfl rfl) (zV R3 (Val.load_e (PtE.add hpa18 (by decide)) M1 ⟨_, rfl, rfl⟩ rfl rfl) (zM R4 ?_)));obtain ⟨y22, hr22, h⟩ := andx_some h;refine TO.callT (first := []) (cap := []) (vs := [sv a18.name, v1]) rfl rfl rfl rfl rfl rfl (orcN rfl) (tf_r1_Fresh aD (Rdl.mono (Rdl.own (C := ownL true v1 encStr names :: C) (p := 0) rfl) mem0) hr22) ?_;rintro _;refine zG (_::C) rfl (zA R4 (zN (zU rfl (zM R4 (zM R4 (zM R4 ?_))))));obtain ⟨a26, hia26, ea26, h⟩ := el_some h;refine TO.fact (rdl_at h_l M1 hia26 ea26) (fun hp=>?_);obtain ⟨pa26, hpa26, hva26⟩ := hp;refine zV R3 (hva26 ⟨rfl, rfl⟩ rfl rfl) (zV R3 (Val.faddr_e (fo := 0) hpa26 rfl rfl rfl) (zV R3 (Val.load_e (PtE.add hpa26 (by decide)) M1 ⟨_, rfl, rfl⟩ rfl rfl) (TO.build1 (en := encStr) (a := a26.name) rfl rfl rfl ⟨rfl, rfl⟩ ⟨_, rfl, rfl⟩ (by decide) (by decide) rfl rfl (fun v29=>?_))));obtain ⟨hk30, h⟩ := chk_some h;refine TO.eff rfl rfl rfl (Eff.append_own (b := 16) (en := encStr) (l := names) (l2 := [a26.name]) (p := 1) (q := 0) ⟨rfl, rfl, rfl, ⟨_, rfl, rfl⟩, by decide, by decide⟩ rfl rfl rfl rfl rfl rfl (en_ones encStr_ones _) (by decide) hk30) ?_;rintro v30 _ rfl;refine zG (_::_::C) rfl (zA R4 (zN ?_))
    show T _ _ _ _ _ _;apply T.joinA (r := j) (W := Unit) (fun j w => ⟨[], [(0, v_l), (4, v30), (5, iv (i)), (6, iv (j))], ownL false v29 encStr [a26.name] :: ownL true v30 encStr (names ++ [a26.name]) :: C⟩) h
    ·intro j h
     show T _ _ _ _ _ _;apply T.joinA (r := j) (W := Unit) (fun j w => ⟨[], [(0, v_l), (4, v30), (5, iv (i)), (6, iv (y22)), (41, bv j)], ownL false v29 encStr [a26.name] :: ownL true v30 encStr (names ++ [a26.name]) :: C⟩) h
     ·intro j h;refine zT rfl (zM R4 ?_);obtain ⟨c32, hc32⟩ := zY (y22 = 0);refine zV R3 (Val.eql hc32 rfl rfl) (zM R4 ?_);obtain ⟨rfl, hc32, h⟩ | ⟨rfl, hc32, h⟩ := zI hc32 h
      ·refine zM R4 (zM R4 ?_);obtain ⟨a36, hia36, ea36, h⟩ := el_some h;refine TO.fact (rdl_at h_l M2 hia36 ea36) (fun hp=>?_);obtain ⟨pa36, hpa36, hva36⟩ := hp;refine zV R3 (hva36 ⟨rfl, rfl⟩ rfl rfl) (zV R3 (Val.faddr_e (fo := 1) hpa36 rfl rfl rfl) (zV R3 (Val.load_e (PtE.add hpa36 (by decide)) M2 ⟨_, rfl, rfl⟩ rfl rfl) ?_));obtain ⟨y39, hr39, h⟩ := andx_some h;refine TO.callT (first := []) (cap := []) (vs := [iv (a36.permit), iv (0), iv (5)]) rfl rfl rfl rfl rfl rfl (orcN rfl) (tf_r10_in aD hr39) ?_;rintro _;refine zG (_::_::C) rfl (zV R3 (Val.not rfl) (zP R6 (zN ?_)));cases h;exact ⟨rfl, (), (sb .refl)⟩
      refine zO R3 (zO R3 (zO R3 (zO R3 (zO R3 (zO R3 (zO R3 (zP R6 (zN ?_))))))));cases h;exact ⟨rfl, (), (sb .refl)⟩
     ·rintro x41 _ h;replace h := zZ h;obtain ⟨rfl, h⟩ | ⟨rfl, h⟩ := h
      ·refine zC rfl (zT rfl (zA R4 (zN ?_)));cases h;exact ⟨rfl, (), (sb .refl)⟩
      refine zD rfl (zK ?_);cases h;exact ⟨rfl, (), (sb .refl)⟩
    ·rintro e _ h;refine zU rfl (zM R4 ?_);obtain ⟨c43, hc43⟩ := zY (¬ e = 0);refine zV R3 (Val.neq hc43 rfl rfl) (zN ?_);obtain ⟨rfl, hc43, h⟩ | ⟨rfl, hc43, h⟩ := zI hc43 h
     ·refine zC rfl (zU rfl (zM R4 (zM R4 (zA R4 (zA R4 (zN (zR ?_)))))));cases h;exact ⟨ret_ne, ⟨ret_ne, ⟨ret_ne, ⟨rfl, _, rfl, ⟨(), rfl, (pk [98,98] rfl)⟩⟩⟩⟩⟩
     refine zD rfl (zK ?_);cases h;exact ⟨rfl, v30, (sb (pk [1,98] rfl))⟩
   ·rintro names_2 v1_2 h;refine zT rfl (zM R4 ?_);obtain ⟨hk15, h⟩ := chk_some h;refine zV R3 (Val.add rfl rfl hk15) (zA R4 (zN ?_));cases h;exact ⟨rfl, v1_2, (sb .refl)⟩
  refine zD rfl (zE ?_);cases h;exact ⟨ex_ne, ⟨rfl, (), (sb (pk [98] rfl))⟩⟩
 ·rintro _ _ h;refine zU rfl (zA R4 (zA R4 (zN (zR ?_))));cases h;exact ⟨rfl, _, rfl, ⟨(), rfl, .refl⟩⟩
set_option maxRecDepth 10000 in
theorem tf_r10_Check {k : Nat} (hk : 0 ≤ k) {C : List Thing} {qB : AV} {qC : List qX} {v_r_Readers : AV} {r_Readers : List qAa} {v_r_Seats : AV} {r_Seats : List qAe} {v_r_Requests : AV} {r_Requests : List qY} (qAf : RdT qJ qB qC) (ht_r_Readers : RdT qR v_r_Readers r_Readers) (ht_r_Seats : RdT qQ v_r_Seats r_Seats) (ht_r_Requests : RdT qK v_r_Requests r_Requests) {r : Int × Int × Int} (h : P_r10_Check qC r_Readers r_Seats r_Requests = some r) :
  TF (EL k) 5 [.agg [qB, v_r_Readers, v_r_Seats, v_r_Requests]] C (RepF (fun (w : Unit) => .tuple [iv r.1, iv r.2.1, iv r.2.2]) (fun (w : Unit) => C)) := by
 unfold P_r10_Check at h
 have qI : Rdl C qJ qB qC := RdT.rdl qAf
 have h_r_Readers : Rdl C qR v_r_Readers r_Readers := RdT.rdl ht_r_Readers
 have h_r_Seats : Rdl C qQ v_r_Seats r_Seats := RdT.rdl ht_r_Seats
 have h_r_Requests : Rdl C qK v_r_Requests r_Requests := RdT.rdl ht_r_Requests;refine TF.enter (fn := Go.Proofs.Tryz.f5) rfl rfl rfl rfl rfl (zU rfl (zQ 4 [_,_,_,_] R7 (fun b1=>zA R4 (zA R4 (zA R4 (zN (zU rfl (zF 0 R6 (zL 0 R3 R6 ?_)))))))));obtain ⟨⟨y13, y13_2⟩, hr13, h⟩ := andx_some h;dsimp only at h;refine TO.callT (first := []) (cap := []) (vs := [qB]) rfl rfl rfl rfl rfl rfl (orcN rfl) (tf_r10_books aD (Rdl.mono qI M1) hr13) ?_;rintro _;refine zG (_::C) rfl (zM R4 (zX R5 (zX R5 (zA R4 (zA R4 (zN (zS (zU rfl (zM R4 ?_)))))))));obtain ⟨c17, hc17⟩ := zY (¬ y13_2 = 0);refine zV R3 (Val.neq hc17 rfl rfl) (zN ?_);obtain ⟨rfl, hc17, h⟩ | ⟨rfl, hc17, h⟩ := zI hc17 h
 ·refine zC rfl (zU rfl (zM R4 (zM R4 (zA R4 (zA R4 (zA R4 (zN (zR ?_))))))));cases h;exact ⟨rfl, _, rfl, ⟨(), rfl, (pk [98] rfl)⟩⟩
 refine zD rfl (zK (zU rfl (zF 1 R6 (zL 0 R3 R6 ?_))));obtain ⟨⟨y23, y23_2⟩, hr23, h⟩ := andx_some h;dsimp only at h;refine TO.callT (first := []) (cap := []) (vs := [v_r_Readers]) rfl rfl rfl rfl rfl rfl (orcN rfl) (tf_r10_readers aD (Rdl.mono h_r_Readers M1) hr23) ?_;rintro _;refine zG (_::C) rfl (zM R4 (zX R5 (zX R5 (zA R4 (zA R4 (zN (zS (zU rfl (zM R4 ?_)))))))));obtain ⟨c27, hc27⟩ := zY (¬ y23_2 = 0);refine zV R3 (Val.neq hc27 rfl rfl) (zN ?_);obtain ⟨rfl, hc27, h⟩ | ⟨rfl, hc27, h⟩ := zI hc27 h
 ·refine zC rfl (zU rfl (zM R4 (zM R4 (zA R4 (zA R4 (zA R4 (zN (zR ?_))))))));cases h;exact ⟨rfl, _, rfl, ⟨(), rfl, (pk [98] rfl)⟩⟩
 refine zD rfl (zK (zS (zU rfl (zF 2 R6 (zL 0 R3 R6 (zV R3 (Val.len_l h_r_Seats M1 rfl rfl) ?_))))));obtain ⟨c33, hc33⟩ := zY ((r_Seats.length : Int) > 6);refine zV R3 (Val.gtr hc33 rfl rfl) (zN ?_);obtain ⟨rfl, hc33, h⟩ | ⟨rfl, hc33, h⟩ := zI hc33 h
 ·refine zC rfl (zU rfl (zA R4 (zA R4 (zA R4 (zN (zR ?_))))));cases h;exact ⟨rfl, _, rfl, ⟨(), rfl, (pk [98] rfl)⟩⟩
 refine zD rfl (zK ?_)
 show T _ _ _ _ _ _;apply T.join (r := r) (W := Unit) (fun j w => ⟨[], [(1, .ptr b1 0 4)], .row b1 4 [qB, v_r_Readers, v_r_Seats, v_r_Requests] :: C⟩) h
 ·intro j h;refine zU rfl (zA R4 (zN (zB ?_)))
  show T _ _ _ _ _ _;apply T.iter (r := j) (W := Unit) (fun j w => ⟨[], [(1, .ptr b1 0 4), (7, iv (j))], .row b1 4 [qB, v_r_Readers, v_r_Seats, v_r_Requests] :: C⟩) (w0 := ()) h
  ·exact (sb .refl)
  rintro i _ a h;unfold P_r10_Check_L1 at h;refine zS (zU rfl (zM R4 (zF 2 R6 (zL 0 R3 R6 (zV R3 (Val.len_l h_r_Seats M1 rfl rfl) ?_)))));obtain ⟨c38, hc38⟩ := zY (i < (r_Seats.length : Int));refine zV R3 (Val.lss hc38 rfl rfl) (zN ?_);obtain ⟨rfl, hc38, h⟩ | ⟨rfl, hc38, h⟩ := zI hc38 h
  ·refine zC rfl (zK (zS (zB (zU rfl (zF 2 R6 (zL 0 R3 R6 (zM R4 ?_)))))));obtain ⟨a44, hia44, ea44, h⟩ := el_some h;refine TO.fact (rdl_at h_r_Seats M1 hia44 ea44) (fun hp=>?_);obtain ⟨pa44, hpa44, hva44⟩ := hp;refine zV R3 (hva44 ⟨rfl, rfl⟩ rfl rfl) (zV R3 (Val.faddr_e (fo := 0) hpa44 rfl rfl rfl) (zV R3 (Val.load_e (PtE.add hpa44 (by decide)) M1 ⟨_, rfl, rfl⟩ rfl rfl) ?_));obtain ⟨y47, hr47, h⟩ := andx_some h;refine TO.callT (first := []) (cap := []) (vs := [iv (a44.light), iv (0), iv (100)]) rfl rfl rfl rfl rfl rfl (orcN rfl) (tf_r10_in aD hr47) ?_;rintro _;refine zG (_::C) rfl (zV R3 (Val.not rfl) (zN ?_));obtain ⟨rfl, h⟩ | ⟨rfl, h⟩ := zZ h
   ·refine zD rfl (zK (zT rfl (zM R4 ?_)));obtain ⟨hk40, h⟩ := chk_some h;refine zV R3 (Val.add rfl rfl hk40) (zA R4 (zN ?_));cases h;exact ⟨rfl, (), (sb .refl)⟩
   refine zC rfl (zU rfl (zM R4 (zA R4 (zA R4 (zA R4 (zN (zR ?_)))))));cases h;exact ⟨ret_ne, ⟨ret_ne, ⟨rfl, _, rfl, ⟨(), rfl, (pk [98] rfl)⟩⟩⟩⟩
  refine zD rfl (zE ?_);cases h;exact ⟨ex_ne, ⟨rfl, (), (sb .refl)⟩⟩
 ·rintro _ _ h;refine zS (zU rfl (zF 3 R6 (zL 0 R3 R6 (zV R3 (Val.len_l h_r_Requests M1 rfl rfl) ?_))));obtain ⟨c53, hc53⟩ := zY ((r_Requests.length : Int) > 8);refine zV R3 (Val.gtr hc53 rfl rfl) (zN ?_);obtain ⟨rfl, hc53, h⟩ | ⟨rfl, hc53, h⟩ := zI hc53 h
  ·refine zC rfl (zU rfl (zA R4 (zA R4 (zA R4 (zN (zR ?_))))));cases h;exact ⟨rfl, _, rfl, ⟨(), rfl, (pk [98] rfl)⟩⟩
  refine zD rfl (zK ?_)
  show T _ _ _ _ _ _;apply T.join (r := r) (W := Unit) (fun j w => ⟨[], [], .row b1 4 [qB, v_r_Readers, v_r_Seats, v_r_Requests] :: C⟩) h
  ·intro j h;refine zU rfl (zA R4 (zN (zB ?_)))
   show T _ _ _ _ _ _;apply T.iter (r := j) (W := Unit) (fun j w => ⟨[], [(1, .ptr b1 0 4), (8, iv (j))], .row b1 4 [qB, v_r_Readers, v_r_Seats, v_r_Requests] :: C⟩) (w0 := ()) h
   ·exact (sb .refl)
   rintro i _ a h;unfold P_r10_Check_L2 at h;refine zS (zU rfl (zM R4 (zF 3 R6 (zL 0 R3 R6 (zV R3 (Val.len_l h_r_Requests M1 rfl rfl) ?_)))));obtain ⟨c58, hc58⟩ := zY (i < (r_Requests.length : Int));refine zV R3 (Val.lss hc58 rfl rfl) (zN ?_);obtain ⟨rfl, hc58, h⟩ | ⟨rfl, hc58, h⟩ := zI hc58 h
   ·refine zC rfl (zK ?_)
    show T _ _ _ _ _ _;apply T.join (r := a) (W := Unit) (fun j w => ⟨[], [(1, .ptr b1 0 4), (8, iv (i))], .row b1 4 [qB, v_r_Readers, v_r_Seats, v_r_Requests] :: C⟩) h
    ·intro j h;refine zB (zU rfl (zF 3 R6 (zL 0 R3 R6 (zM R4 ?_))));obtain ⟨a64, hia64, ea64, h⟩ := el_some h;refine TO.fact (rdl_at h_r_Requests M1 hia64 ea64) (fun hp=>?_);obtain ⟨pa64, hpa64, hva64⟩ := hp;refine zV R3 (hva64 ⟨rfl, rfl⟩ rfl rfl) (zV R3 (Val.load_es (c := [_, _, _, _]) hpa64 M1 ⟨⟨_, rfl, rfl⟩, rfl, by decide⟩ rfl rfl rfl) (zJ 4 [_,_,_,_] R7 (fun b9=>TO.eff0 rfl rfl (Eff.store_row (p := 0) (cv := [_, _, _, _]) (cells' := [_, _, _, _]) rfl rfl rfl rfl rfl rfl rfl rfl aG (by decide) rfl) ?_)));rintro _ rfl;refine zG (_::_::C) rfl (zN ?_)
     show T _ _ _ _ _ _;apply T.join (r := j) (W := Unit) (fun j w => ⟨[], [(1, .ptr b1 0 4), (8, iv (i)), (9, .ptr b9 0 4)], .row b9 4 [iv (a64.reader), iv (a64.book), iv (a64.hours), iv (a64.worth)] :: .row b1 4 [qB, v_r_Readers, v_r_Seats, v_r_Requests] :: C⟩) h
     ·intro j h
      show T _ _ _ _ _ _;apply T.joinA (r := j) (W := Unit) (fun j w => ⟨[], [(1, .ptr b1 0 4), (8, iv (i)), (9, .ptr b9 0 4), (83, bv j)], .row b9 4 [iv (a64.reader), iv (a64.book), iv (a64.hours), iv (a64.worth)] :: .row b1 4 [qB, v_r_Readers, v_r_Seats, v_r_Requests] :: C⟩) h
      ·intro j h;refine zT rfl (zF 0 R6 (zL 0 R3 R6 (zF 1 R6 (zL 1 R3 R6 (zV R3 (Val.len_l h_r_Readers M2 rfl rfl) ?_)))));obtain ⟨hk71, h⟩ := chk_some h;refine zV R3 (Val.sub rfl rfl hk71) ?_;obtain ⟨y72, hr72, h⟩ := andx_some h;refine TO.callT (first := []) (cap := []) (vs := [iv (a64.reader), iv (0), iv (((r_Readers.length : Int) - 1))]) rfl rfl rfl rfl rfl rfl (orcN rfl) (tf_r10_in aD hr72) ?_;rintro _;refine zG (_::_::C) rfl (zV R3 (Val.not rfl) (zM R4 ?_));obtain ⟨rfl, h⟩ | ⟨rfl, h⟩ := zZ h
       ·refine zF 1 R6 (zL 0 R3 R6 (zF 0 R6 (zL 1 R3 R6 (zV R3 (Val.len_l qI M2 rfl rfl) ?_))));obtain ⟨hk80, h⟩ := chk_some h;refine zV R3 (Val.sub rfl rfl hk80) ?_;obtain ⟨y81, hr81, h⟩ := andx_some h;refine TO.callT (first := []) (cap := []) (vs := [iv (a64.book), iv (0), iv (((qC.length : Int) - 1))]) rfl rfl rfl rfl rfl rfl (orcN rfl) (tf_r10_in aD hr81) ?_;rintro _;refine zG (_::_::C) rfl (zV R3 (Val.not rfl) (zP R6 (zN ?_)));cases h;exact ⟨rfl, (), (sb .refl)⟩
       refine zO R3 (zO R3 (zO R3 (zO R3 (zO R3 (zO R3 (zO R3 (zO R3 (zP R6 (zN ?_)))))))));cases h;exact ⟨rfl, (), (sb .refl)⟩
      ·rintro x83 _ h;replace h := zZ h;obtain ⟨rfl, h⟩ | ⟨rfl, h⟩ := h
       ·refine zC rfl (zU rfl (zM R4 (zA R4 (zA R4 (zA R4 (zN (zR ?_)))))));cases h;exact ⟨ret_ne, ⟨ret_ne, ⟨ret_ne, ⟨ret_ne, ⟨rfl, _, rfl, ⟨(), rfl, (pk [98,98] rfl)⟩⟩⟩⟩⟩⟩
       refine zD rfl (zK ?_);cases h;exact ⟨rfl, (), (sb .refl)⟩
     ·rintro _ _ h
      show T _ _ _ _ _ _;apply T.joinA (r := j) (W := Unit) (fun j w => ⟨[], [(1, .ptr b1 0 4), (8, iv (i)), (94, bv j)], .row b9 4 [iv (a64.reader), iv (a64.book), iv (a64.hours), iv (a64.worth)] :: .row b1 4 [qB, v_r_Readers, v_r_Seats, v_r_Requests] :: C⟩) h
      ·intro j h;refine zT rfl (zF 2 R6 (zL 0 R3 R6 ?_));obtain ⟨y87, hr87, h⟩ := andx_some h;refine TO.callT (first := []) (cap := []) (vs := [iv (a64.hours), iv (1), iv (12)]) rfl rfl rfl rfl rfl rfl (orcN rfl) (tf_r10_in aD hr87) ?_;rintro _;refine zG (_::_::C) rfl (zV R3 (Val.not rfl) (zM R4 ?_));obtain ⟨rfl, h⟩ | ⟨rfl, h⟩ := zZ h
       ·refine zF 3 R6 (zL 0 R3 R6 ?_);obtain ⟨y92, hr92, h⟩ := andx_some h;refine TO.callT (first := []) (cap := []) (vs := [iv (a64.worth), iv (0), iv (100)]) rfl rfl rfl rfl rfl rfl (orcN rfl) (tf_r10_in aD hr92) ?_;rintro _;refine zG (_::_::C) rfl (zV R3 (Val.not rfl) (zP R6 (zN ?_)));cases h;exact ⟨rfl, (), (sb .refl)⟩
       refine zO R3 (zO R3 (zO R3 (zO R3 (zP R6 (zN ?_)))));cases h;exact ⟨rfl, (), (sb .refl)⟩
      ·rintro x94 _ h;replace h := zZ h;obtain ⟨rfl, h⟩ | ⟨rfl, h⟩ := h
       ·refine zC rfl (zU rfl (zM R4 (zA R4 (zA R4 (zA R4 (zN (zR ?_)))))));cases h;exact ⟨ret_ne, ⟨ret_ne, ⟨ret_ne, ⟨rfl, _, rfl, ⟨(), rfl, (pk [98,98] rfl)⟩⟩⟩⟩⟩
       refine zD rfl (zK ?_);cases h;exact ⟨rfl, (), (sb (pk [1,98] rfl))⟩
    ·rintro _ _ h;refine zT rfl (zM R4 ?_);obtain ⟨hk60, h⟩ := chk_some h;refine zV R3 (Val.add rfl rfl hk60) (zA R4 (zN ?_));cases h;exact ⟨rfl, (), (sb .refl)⟩
   refine zD rfl (zE ?_);cases h;exact ⟨ex_ne, ⟨rfl, (), (sb .refl)⟩⟩
  ·rintro _ _ h;refine zU rfl (zA R4 (zA R4 (zA R4 (zN (zR ?_)))));cases h;exact ⟨rfl, _, rfl, ⟨(), rfl, (pk [98] rfl)⟩⟩
theorem w_r10_Check (qC : GS qJ) (r_Readers : GS qR) (r_Seats : GS qQ) (r_Requests : GS qK) (r : Int × Int × Int) (h : P_r10_Check qC.l r_Readers.l r_Seats.l r_Requests.l = some r) : Comes (EL 0) 5 [.agg [qC.v, r_Readers.v, r_Seats.v, r_Requests.v]] (.tuple [iv r.1, iv r.2.1, iv r.2.2]) :=
 TF.run (tf_r10_Check (Nat.le_refl _) (RdT.gs qC) (RdT.gs r_Readers) (RdT.gs r_Seats) (RdT.gs r_Requests) h) fun w => (.tuple (.cons .lit (.cons .lit (.cons .lit .nil))))
set_option maxRecDepth 10000 in
theorem tf_rd_outside {k : Nat} (hk : 0 ≤ k) {C : List Thing} {lo : Int} {hi : Int} {v_numbers : AV} {numbers : List Int} (h_numbers : Rdl C encI v_numbers numbers) {r : Bool} (h : P_rd_outside lo hi numbers = some r) :
  TF (EL k) 79 [iv (lo), iv (hi), v_numbers] C (RepF (fun (w : Unit) => bv r) (fun (w : Unit) => C)) := by
 unfold P_rd_outside at h;refine TF.enter (fn := Go.Proofs.Tryz.f79) rfl rfl rfl rfl rfl (zU rfl (zQ 1 [_] R7 (fun b3=>zQ 1 [_] R7 (fun b4=>zA R4 (zN (zU rfl (zM R4 (zV R3 (Val.makeFunc rfl rfl) (TO.callIn rfl rfl rfl rfl rfl rfl (orcN rfl) (TF.enter (fn := Go.Proofs.Tryz.f93) rfl rfl rfl rfl rfl (zU rfl (zA R4 (zN (zU rfl (zM R4 (zM R4 ?_))))))))))))))));refine TO.callJ (W := Unit) (fun (j : Int) (w : Unit) => iv (j)) (fun (j : Int) (w : Unit) => .row b4 1 [iv (hi)] :: .row b3 1 [iv (lo)] :: C) h rfl rfl rfl rfl rfl rfl (orcN rfl) ?_ ?_
 ·intro j h;refine TF.enter (fn := Go.Proofs.Tryz.f135) rfl rfl rfl rfl rfl (zU rfl (zA R4 (zN ?_)))
  show T _ _ _ _ _ _;apply T.join (r := j) (W := Unit) (fun j w => ⟨[], [], .row b4 1 [iv (hi)] :: .row b3 1 [iv (lo)] :: C⟩) h
  ·intro j h;refine zU rfl (zM R4 (zV R3 (Val.len_l h_numbers M2 rfl rfl) (zM R4 (zN (zB ?_)))))
   show T _ _ _ _ _ _;apply T.iter (r := j) (W := Unit) (fun j w => ⟨[], [(0, v_numbers), (1, .func 114 [] [.ptr b3 0 1, .ptr b4 0 1]), (7, iv ((numbers.length : Int))), (8, iv (j))], .row b4 1 [iv (hi)] :: .row b3 1 [iv (lo)] :: C⟩) (w0 := ()) h
   ·exact (sb .refl)
   rintro x8 _ a h;unfold P_rd_outside_L1 at h;refine zU rfl ?_;obtain ⟨c9, hc9⟩ := zY (x8 < (numbers.length : Int));refine zV R3 (Val.lss hc9 rfl rfl) (zN (zS ?_));obtain ⟨rfl, hc9, h⟩ | ⟨rfl, hc9, h⟩ := zI hc9 h
   ·refine zC rfl (zK (zS (zB (zU rfl (zM R4 (zA R4 (zN (zU rfl (zM R4 (zM R4 (zM R4 ?_)))))))))));obtain ⟨a14, hia14, ea14, h⟩ := el_some h;refine TO.fact (rdl_at h_numbers M2 hia14 ea14) (fun hp=>?_);obtain ⟨pa14, hpa14, hva14⟩ := hp;refine zV R3 (hva14 ⟨rfl, rfl⟩ rfl rfl) (zV R3 (Val.load_e hpa14 M2 ⟨_, rfl, rfl⟩ rfl rfl) (TO.callIn rfl rfl rfl rfl rfl rfl (orcN rfl) (TF.enter (fn := Go.Proofs.Tryz.f114) rfl rfl rfl rfl rfl (zU rfl (zA R4 (zN ?_))))))
    show T _ _ _ _ _ _;apply T.joinA (r := a) (W := Unit) (fun j w => ⟨[], [(4, bv j)], .row b4 1 [iv (hi)] :: .row b3 1 [iv (lo)] :: C⟩) h
    ·intro j h;refine zT rfl (zM R4 (zL 1 R3 R6 ?_));obtain ⟨c7, hc7⟩ := zY (a14 < lo);refine zV R3 (Val.lss hc7 rfl rfl) (zM R4 ?_);obtain ⟨rfl, hc7, h⟩ | ⟨rfl, hc7, h⟩ := zI hc7 h
     ·refine zO R3 (zO R3 (zO R3 (zP R6 (zA R4 (zN ?_)))));cases h;exact ⟨rfl, (), (sb .refl)⟩
     refine zM R4 (zL 0 R3 R6 ?_);obtain ⟨c11, hc11⟩ := zY (a14 > hi);refine zV R3 (Val.gtr hc11 rfl rfl) (zP R6 (zA R4 (zN ?_)));subst hc11;cases h;exact ⟨rfl, (), (sb .refl)⟩
    ·rintro x4 _ h;refine zR ?_;refine ⟨rfl, _, rfl, ?_⟩;refine zN ?_;obtain ⟨rfl, h⟩ | ⟨rfl, h⟩ := zZ h
     ·refine zC rfl (zU rfl (zM R4 (zA R4 (zN (zR ?_)))));cases h;exact ⟨ret_ne, ⟨ret_ne, ⟨rfl, _, rfl, ⟨(), rfl, .refl⟩⟩⟩⟩
     refine zD rfl (zK (zT rfl ?_));obtain ⟨hk18, h⟩ := chk_some h;refine zV R3 (Val.add rfl rfl hk18) (zM R4 (zN ?_));cases h;exact ⟨rfl, (), (sb .refl)⟩
   refine zD rfl (zE ?_);cases h;exact ⟨ex_ne, ⟨rfl, (), (sb .refl)⟩⟩
  ·rintro _ _ h;refine zU rfl (zA R4 (zN (zR ?_)));cases h;exact ⟨rfl, _, rfl, ⟨(), rfl, .refl⟩⟩
 ·rintro y7 _ h;refine zG (_::_::C) rfl ?_;obtain ⟨c8, hc8⟩ := zY (y7 ≥ 0);refine zV R3 (Val.geq hc8 rfl rfl) (zA R4 (zN (zR ?_)));refine ⟨rfl, _, rfl, ?_⟩;refine zA R4 (zN (zR ?_));subst hc8;cases h;exact ⟨rfl, _, rfl, ⟨(), rfl, (pk [98,98] rfl)⟩⟩
set_option maxRecDepth 10000 in
theorem tf_rd_Check {k : Nat} (hk : 0 ≤ k) {C : List Thing} {qB : AV} {qC : List qX} {v_r_Readers : AV} {r_Readers : List qAa} {v_r_Seats : AV} {r_Seats : List qAe} {v_r_Requests : AV} {r_Requests : List qY} (qAf : RdT qJ qB qC) (ht_r_Readers : RdT qR v_r_Readers r_Readers) (ht_r_Seats : RdT qQ v_r_Seats r_Seats) (ht_r_Requests : RdT qK v_r_Requests r_Requests) {r : Int × Int × Int} (h : P_rd_Check qC r_Readers r_Seats r_Requests = some r) :
  TF (EL k) 91 [.agg [qB, v_r_Readers, v_r_Seats, v_r_Requests]] C (RepF (fun (w : Unit) => .tuple [iv r.1, iv r.2.1, iv r.2.2]) (fun (w : Unit) => C)) := by
 unfold P_rd_Check at h
 have qI : Rdl C qJ qB qC := RdT.rdl qAf
 have h_r_Readers : Rdl C qR v_r_Readers r_Readers := RdT.rdl ht_r_Readers
 have h_r_Seats : Rdl C qQ v_r_Seats r_Seats := RdT.rdl ht_r_Seats
 have h_r_Requests : Rdl C qK v_r_Requests r_Requests := RdT.rdl ht_r_Requests;refine TF.enter (fn := Go.Proofs.Tryz.f91) rfl rfl rfl rfl rfl (zU rfl (zQ 4 [_,_,_,_] R7 (fun b1=>zA R4 (zA R4 (zA R4 (zN (zS (zU rfl (zF 0 R6 (zL 0 R3 R6 (zV R3 (Val.len_l qI M1 rfl rfl) ?_)))))))))));obtain ⟨c16, hc16⟩ := zY ((qC.length : Int) > 8);refine zV R3 (Val.gtr hc16 rfl rfl) (zN ?_);obtain ⟨rfl, hc16, h⟩ | ⟨rfl, hc16, h⟩ := zI hc16 h
 ·refine zC rfl (zU rfl (zA R4 (zA R4 (zA R4 (zN (zR ?_))))));cases h;exact ⟨rfl, _, rfl, ⟨(), rfl, (pk [98] rfl)⟩⟩
 refine zD rfl (zK ?_)
 show T _ _ _ _ _ _;apply T.join (r := r) (W := Unit) (fun j w => ⟨[], [(1, .ptr b1 0 4)], .row b1 4 [qB, v_r_Readers, v_r_Seats, v_r_Requests] :: C⟩) h
 ·intro j h;refine zU rfl (zF 0 R6 (zL 0 R3 R6 (zV R3 (Val.len_l qI M1 rfl rfl) (zM R4 (zN (zB ?_))))))
  show T _ _ _ _ _ _;apply T.iter (r := j) (W := Unit) (fun j w => ⟨[], [(1, .ptr b1 0 4), (18, qB), (19, iv ((qC.length : Int))), (20, iv (j))], .row b1 4 [qB, v_r_Readers, v_r_Seats, v_r_Requests] :: C⟩) (w0 := ()) h
  ·exact (sb .refl)
  rintro x20 _ a h;unfold P_rd_Check_L1 at h;refine zU rfl ?_;obtain ⟨c21, hc21⟩ := zY (x20 < (qC.length : Int));refine zV R3 (Val.lss hc21 rfl rfl) (zN (zS ?_));obtain ⟨rfl, hc21, h⟩ | ⟨rfl, hc21, h⟩ := zI hc21 h
  ·refine zC rfl (zK ?_)
   show T _ _ _ _ _ _;apply T.join (r := a) (W := Unit) (fun j w => ⟨[], [(1, .ptr b1 0 4), (18, qB), (19, iv ((qC.length : Int))), (20, iv (x20))], .row b1 4 [qB, v_r_Readers, v_r_Seats, v_r_Requests] :: C⟩) h
   ·intro j h;refine zB (zU rfl (zM R4 ?_));obtain ⟨a23, hia23, ea23, h⟩ := el_some h;refine TO.fact (rdl_at qI M1 hia23 ea23) (fun hp=>?_);obtain ⟨pa23, hpa23, hva23⟩ := hp;refine zV R3 (hva23 ⟨rfl, rfl⟩ rfl rfl) (zV R3 (Val.load_es (c := [_, _, _, _, _]) hpa23 M1 ⟨⟨_, rfl, rfl⟩, rfl, by decide⟩ rfl rfl rfl) (zJ 5 [_,_,_,_,_] R7 (fun b6=>zA R4 (TO.eff0 rfl rfl (Eff.store_row (p := 0) (cv := [_, _, _, _, _]) (cells' := [_, _, _, _, _]) rfl rfl rfl rfl rfl rfl rfl rfl aG (by decide) rfl) ?_))));rintro _ rfl;refine zG (_::_::C) rfl (zN (zB (zU rfl (zF 0 R6 (zL 0 R3 R6 ?_)))));obtain ⟨y28, hr28, h⟩ := andx_some h;refine TO.callT (first := []) (cap := []) (vs := [sv a23.name]) rfl rfl rfl rfl rfl rfl (orcN rfl) (tf_q_Name aD hr28) ?_;rintro _;refine zG (_::_::C) rfl (zV R3 (Val.not rfl) (zA R4 (zN ?_)));obtain ⟨rfl, h⟩ | ⟨rfl, h⟩ := zZ h
    ·refine zD rfl (zU rfl (zF 0 R6 (zL 1 R3 R6 (zM R4 ?_))));obtain ⟨hk35, h⟩ := chk_some h;obtain ⟨w35, htw35, hgw35, hvw35⟩ := slice_T qAf hk35
     have hw35 : Rdl C qJ w35 (List.take (x20 - (0 : Int)).toNat (List.drop ((0 : Int) : Int).toNat qC)) := RdT.rdl htw35;refine zV R3 (hvw35 ⟨rfl, rfl⟩ rfl .no (.some rfl)) (zV R3 (Val.makeFunc rfl rfl) (TO.callIn rfl rfl rfl rfl rfl rfl (orcN rfl) (TF.enter (fn := Go.Proofs.Tryz.f123) rfl rfl rfl rfl rfl (zU rfl (zA R4 (zN (zU rfl (zM R4 (zM R4 ?_)))))))));refine TO.callJ (W := Unit) (fun (j : Int) (w : Unit) => iv (j)) (fun (j : Int) (w : Unit) => .row b6 5 [sv a23.name, iv (a23.classv), iv (a23.light_lo), iv (a23.light_hi), bv a23.large] :: .row b1 4 [qB, v_r_Readers, v_r_Seats, v_r_Requests] :: C) h rfl rfl rfl rfl rfl rfl (orcN rfl) ?_ ?_
     ·intro j h;refine TF.enter (fn := Go.Proofs.Tryz.f155) rfl rfl rfl rfl rfl (zU rfl (zA R4 (zN ?_)))
      show T _ _ _ _ _ _;apply T.join (r := j) (W := Unit) (fun j w => ⟨[], [], .row b6 5 [sv a23.name, iv (a23.classv), iv (a23.light_lo), iv (a23.light_hi), bv a23.large] :: .row b1 4 [qB, v_r_Readers, v_r_Seats, v_r_Requests] :: C⟩) h
      ·intro j h;refine zU rfl (zM R4 (zV R3 (Val.len_l hw35 M2 rfl rfl) (zM R4 (zN (zB ?_)))))
       show T _ _ _ _ _ _;apply T.iter (r := j) (W := Unit) (fun j w => ⟨[], [(0, w35), (1, .func 124 [] [.ptr b6 0 5]), (7, iv (((List.take (x20 - (0 : Int)).toNat (List.drop ((0 : Int) : Int).toNat qC)).length : Int))), (8, iv (j))], .row b6 5 [sv a23.name, iv (a23.classv), iv (a23.light_lo), iv (a23.light_hi), bv a23.large] :: .row b1 4 [qB, v_r_Readers, v_r_Seats, v_r_Requests] :: C⟩) (w0 := ()) h
       ·exact (sb .refl)
       rintro x8 _ a h;unfold P_rd_Check_L2 at h;refine zU rfl ?_;obtain ⟨c9, hc9⟩ := zY (x8 < ((List.take (x20 - (0 : Int)).toNat (List.drop ((0 : Int) : Int).toNat qC)).length : Int));refine zV R3 (Val.lss hc9 rfl rfl) (zN (zS ?_));obtain ⟨rfl, hc9, h⟩ | ⟨rfl, hc9, h⟩ := zI hc9 h
       ·refine zC rfl (zK (zS (zB (zU rfl (zM R4 (zA R4 (zN (zU rfl (zM R4 (zM R4 (zM R4 ?_)))))))))));obtain ⟨a14, hia14, ea14, h⟩ := el_some h;refine TO.fact (rdl_at hw35 M2 hia14 ea14) (fun hp=>?_);obtain ⟨pa14, hpa14, hva14⟩ := hp;refine zV R3 (hva14 ⟨rfl, rfl⟩ rfl rfl) (zV R3 (Val.load_es (c := [_, _, _, _, _]) hpa14 M2 ⟨⟨_, rfl, rfl⟩, rfl, by decide⟩ rfl rfl rfl) (TO.callIn rfl rfl rfl rfl rfl rfl (orcN rfl) (TF.enter (fn := Go.Proofs.Tryz.f124) rfl rfl rfl rfl rfl (zU rfl (zQ 5 [_,_,_,_,_] R7 (fun b2=>zA R4 (zN (zU rfl (zF 0 R6 (zL 0 R3 R6 (zF 0 R6 (zL 1 R3 R6 ?_))))))))))));obtain ⟨c8, hc8⟩ := zY (a14.name = a23.name);refine zV R3 (Val.eql_str hc8 rfl rfl) (zA R4 (zN (zR ?_)));refine ⟨rfl, _, rfl, ?_⟩;refine zN ?_;obtain ⟨rfl, hc8, h⟩ | ⟨rfl, hc8, h⟩ := zI hc8 h
        ·refine zC rfl (zU rfl (zM R4 (zA R4 (zN (zR ?_)))));cases h;exact ⟨ret_ne, ⟨ret_ne, ⟨rfl, _, rfl, ⟨(), rfl, (pk [1,1,98] rfl)⟩⟩⟩⟩
        refine zD rfl (zK (zT rfl ?_));obtain ⟨hk18, h⟩ := chk_some h;refine zV R3 (Val.add rfl rfl hk18) (zM R4 (zN ?_));cases h;exact ⟨rfl, (), (sb (pk [1,1,98] rfl))⟩
       refine zD rfl (zE ?_);cases h;exact ⟨ex_ne, ⟨rfl, (), (sb .refl)⟩⟩
      ·rintro _ _ h;refine zU rfl (zA R4 (zN (zR ?_)));cases h;exact ⟨rfl, _, rfl, ⟨(), rfl, .refl⟩⟩
     ·rintro y7 _ h;refine zG (_::_::C) rfl ?_;obtain ⟨c8, hc8⟩ := zY (y7 ≥ 0);refine zV R3 (Val.geq hc8 rfl rfl) (zA R4 (zN (zR ?_)));refine ⟨rfl, _, rfl, ?_⟩;refine zA R4 (zN ?_);obtain ⟨rfl, hc8, h⟩ | ⟨rfl, hc8, h⟩ := zI hc8 h
      ·refine zC rfl (zU rfl (zM R4 (zA R4 (zA R4 (zA R4 (zN (zR ?_)))))));cases h;exact ⟨ret_ne, ⟨ret_ne, ⟨ret_ne, ⟨rfl, _, rfl, ⟨(), rfl, (pk [98,98] rfl)⟩⟩⟩⟩⟩
      refine zD rfl ?_
      show T _ _ _ _ _ _;apply T.joinA (r := j) (W := Unit) (fun j w => ⟨[], [(1, .ptr b1 0 4), (5, iv (x20)), (6, .ptr b6 0 5), (18, qB), (19, iv ((qC.length : Int))), (20, iv (x20)), (39, bv j)], .row b6 5 [sv a23.name, iv (a23.classv), iv (a23.light_lo), iv (a23.light_hi), bv a23.large] :: .row b1 4 [qB, v_r_Readers, v_r_Seats, v_r_Requests] :: C⟩) h
      ·intro j h;refine zT rfl (zF 1 R6 (zL 0 R3 R6 (TO.build1 (en := encI) (a := a23.classv) rfl rfl rfl ⟨rfl, rfl⟩ ⟨_, rfl, rfl⟩ (by decide) (by decide) rfl rfl (fun v42=>?_))));obtain ⟨y43, hr43, h⟩ := andx_some h;refine TO.callT (first := []) (cap := []) (vs := [iv (0), iv (5), v42]) rfl rfl rfl rfl rfl rfl (orcN rfl) (tf_rd_outside aD (Rdl.mono (Rdl.own (C := ownL false v42 encI [a23.classv] :: .row b6 5 [sv a23.name, iv (a23.classv), iv (a23.light_lo), iv (a23.light_hi), bv a23.large] :: .row b1 4 [qB, v_r_Readers, v_r_Seats, v_r_Requests] :: C) (p := 0) rfl) mem0) hr43) ?_;rintro _;refine zG (_::_::_::C) rfl (zM R4 ?_);obtain ⟨rfl, h⟩ | ⟨rfl, h⟩ := zZ h
       ·refine zO R3 (zO R3 (zO R3 (zO R3 (zO R3 (zO R3 (zO R3 (zO R3 (zP R6 (zA R4 (zN ?_))))))))));cases h;exact ⟨rfl, (), (sb (pk [1,1,98] rfl))⟩
       refine zF 2 R6 (zF 2 R6 (zL 1 R3 R6 (zF 2 R6 (zF 3 R6 (zL 1 R3 R6 (TO.eff rfl rfl rfl (Eff.new (New.buildSlice (en := encI) (l := [a23.light_lo, a23.light_hi]) (vs := [(_, _), (_, _)]) (ws := [(_, [_]), (_, [_])]) ⟨rfl, rfl⟩ rfl rfl rfl rfl (CellsL.cons rfl (CellsL.cons rfl CellsL.nil)) rfl rfl)) ?_))))));rintro _ _ ⟨v51, rfl, rfl⟩;refine TO.less (Less.rowOwn (en := encI) (l := [a23.light_lo, a23.light_hi]) (p := 0) rfl) (zG (_::_::_::_::C) rfl ?_);obtain ⟨y52, hr52, h⟩ := andx_some h;refine TO.callT (first := []) (cap := []) (vs := [iv (0), iv (1000), (.slice v51 0 (List.flatMap encI.f [a23.light_lo, a23.light_hi]).length true (List.length [a23.light_lo, a23.light_hi]) (List.length [a23.light_lo, a23.light_hi]))]) rfl rfl rfl rfl rfl rfl (orcN rfl) (tf_rd_outside aD (Rdl.mono (Rdl.own (C := ownL false (.slice v51 0 (List.flatMap encI.f [a23.light_lo, a23.light_hi]).length true (List.length [a23.light_lo, a23.light_hi]) (List.length [a23.light_lo, a23.light_hi])) encI [a23.light_lo, a23.light_hi] :: ownL false v42 encI [a23.classv] :: .row b6 5 [sv a23.name, iv (a23.classv), iv (a23.light_lo), iv (a23.light_hi), bv a23.large] :: .row b1 4 [qB, v_r_Readers, v_r_Seats, v_r_Requests] :: C) (p := 0) rfl) mem0) hr52) ?_;rintro _;refine zG (_::_::_::_::C) rfl (zP R6 (zA R4 (zN ?_)));cases h;exact ⟨rfl, (), (sb (pk [2,2,98,98] rfl))⟩
      ·rintro x39 _ h;replace h := zZ h;obtain ⟨rfl, h⟩ | ⟨rfl, h⟩ := h
       ·refine zC rfl (zU rfl (zM R4 (zA R4 (zA R4 (zA R4 (zN (zR ?_)))))));cases h;exact ⟨ret_ne, ⟨ret_ne, ⟨ret_ne, ⟨rfl, _, rfl, ⟨(), rfl, (pk [98,98] rfl)⟩⟩⟩⟩⟩
       refine zD rfl (zU rfl (zF 2 R6 (zF 2 R6 (zL 0 R3 R6 (zF 2 R6 (zF 3 R6 (zL 0 R3 R6 ?_)))))));obtain ⟨c62, hc62⟩ := zY (a23.light_lo > a23.light_hi);refine zV R3 (Val.gtr hc62 rfl rfl) (zA R4 (zN ?_));obtain ⟨rfl, hc62, h⟩ | ⟨rfl, hc62, h⟩ := zI hc62 h
       ·refine zC rfl (zU rfl (zM R4 (zA R4 (zA R4 (zA R4 (zN (zR ?_)))))));cases h;exact ⟨ret_ne, ⟨ret_ne, ⟨ret_ne, ⟨rfl, _, rfl, ⟨(), rfl, (pk [98,98] rfl)⟩⟩⟩⟩⟩
       refine zD rfl (zK ?_);cases h;exact ⟨rfl, (), (sb (pk [1,98] rfl))⟩
    refine zC rfl (zU rfl (zM R4 (zA R4 (zA R4 (zA R4 (zN (zR ?_)))))));cases h;exact ⟨ret_ne, ⟨ret_ne, ⟨ret_ne, ⟨rfl, _, rfl, ⟨(), rfl, (pk [98,98] rfl)⟩⟩⟩⟩⟩
   ·rintro _ _ h;refine zT rfl ?_;obtain ⟨hk64, h⟩ := chk_some h;refine zV R3 (Val.add rfl rfl hk64) (zM R4 (zN ?_));cases h;exact ⟨rfl, (), (sb .refl)⟩
  refine zD rfl (zE ?_);cases h;exact ⟨ex_ne, ⟨rfl, (), (sb .refl)⟩⟩
 ·rintro _ _ h;refine zS (zU rfl (zF 1 R6 (zL 0 R3 R6 (zV R3 (Val.len_l h_r_Readers M1 rfl rfl) ?_))));obtain ⟨c68, hc68⟩ := zY ((r_Readers.length : Int) > 8);refine zV R3 (Val.gtr hc68 rfl rfl) (zN ?_);obtain ⟨rfl, hc68, h⟩ | ⟨rfl, hc68, h⟩ := zI hc68 h
  ·refine zC rfl (zU rfl (zA R4 (zA R4 (zA R4 (zN (zR ?_))))));cases h;exact ⟨rfl, _, rfl, ⟨(), rfl, (pk [98] rfl)⟩⟩
  refine zD rfl (zK ?_)
  show T _ _ _ _ _ _;apply T.join (r := r) (W := Unit) (fun j w => ⟨[], [(1, .ptr b1 0 4)], .row b1 4 [qB, v_r_Readers, v_r_Seats, v_r_Requests] :: C⟩) h
  ·intro j h;refine zU rfl (zF 1 R6 (zL 0 R3 R6 (zV R3 (Val.len_l h_r_Readers M1 rfl rfl) (zM R4 (zN (zB ?_))))))
   show T _ _ _ _ _ _;apply T.iter (r := j) (W := Unit) (fun j w => ⟨[], [(1, .ptr b1 0 4), (70, v_r_Readers), (71, iv ((r_Readers.length : Int))), (72, iv (j))], .row b1 4 [qB, v_r_Readers, v_r_Seats, v_r_Requests] :: C⟩) (w0 := ()) h
   ·exact (sb .refl)
   rintro x72 _ a h;unfold P_rd_Check_L3 at h;refine zU rfl ?_;obtain ⟨c73, hc73⟩ := zY (x72 < (r_Readers.length : Int));refine zV R3 (Val.lss hc73 rfl rfl) (zN (zS ?_));obtain ⟨rfl, hc73, h⟩ | ⟨rfl, hc73, h⟩ := zI hc73 h
   ·refine zC rfl (zK (zS (zB (zU rfl (zM R4 ?_)))));obtain ⟨a75, hia75, ea75, h⟩ := el_some h;refine TO.fact (rdl_at h_r_Readers M1 hia75 ea75) (fun hp=>?_);obtain ⟨pa75, hpa75, hva75⟩ := hp;refine zV R3 (hva75 ⟨rfl, rfl⟩ rfl rfl) (zV R3 (Val.load_es (c := [_, _]) hpa75 M1 ⟨⟨_, rfl, rfl⟩, rfl, by decide⟩ rfl rfl rfl) (zJ 2 [_,_] R7 (fun b8=>zA R4 (TO.eff0 rfl rfl (Eff.store_row (p := 0) (cv := [_, _]) (cells' := [_, _]) rfl rfl rfl rfl rfl rfl rfl rfl aG (by decide) rfl) ?_))));rintro _ rfl;refine zG (_::_::C) rfl (zN (zB (zU rfl (zF 0 R6 (zL 0 R3 R6 ?_)))));obtain ⟨y80, hr80, h⟩ := andx_some h;refine TO.callT (first := []) (cap := []) (vs := [sv a75.name]) rfl rfl rfl rfl rfl rfl (orcN rfl) (tf_q_Name aD hr80) ?_;rintro _;refine zG (_::_::C) rfl (zV R3 (Val.not rfl) (zA R4 (zN ?_)));obtain ⟨rfl, h⟩ | ⟨rfl, h⟩ := zZ h
    ·refine zD rfl (zU rfl (zF 1 R6 (zL 1 R3 R6 (zM R4 ?_))));obtain ⟨hk87, h⟩ := chk_some h;obtain ⟨w87, htw87, hgw87, hvw87⟩ := slice_T ht_r_Readers hk87
     have hw87 : Rdl C qR w87 (List.take (x72 - (0 : Int)).toNat (List.drop ((0 : Int) : Int).toNat r_Readers)) := RdT.rdl htw87;refine zV R3 (hvw87 ⟨rfl, rfl⟩ rfl .no (.some rfl)) (zV R3 (Val.makeFunc rfl rfl) (TO.callIn rfl rfl rfl rfl rfl rfl (orcN rfl) (TF.enter (fn := Go.Proofs.Tryz.f125) rfl rfl rfl rfl rfl (zU rfl (zA R4 (zN (zU rfl (zM R4 (zM R4 ?_)))))))));refine TO.callJ (W := Unit) (fun (j : Int) (w : Unit) => iv (j)) (fun (j : Int) (w : Unit) => .row b8 2 [sv a75.name, iv (a75.permit)] :: .row b1 4 [qB, v_r_Readers, v_r_Seats, v_r_Requests] :: C) h rfl rfl rfl rfl rfl rfl (orcN rfl) ?_ ?_
     ·intro j h;refine TF.enter (fn := Go.Proofs.Tryz.f156) rfl rfl rfl rfl rfl (zU rfl (zA R4 (zN ?_)))
      show T _ _ _ _ _ _;apply T.join (r := j) (W := Unit) (fun j w => ⟨[], [], .row b8 2 [sv a75.name, iv (a75.permit)] :: .row b1 4 [qB, v_r_Readers, v_r_Seats, v_r_Requests] :: C⟩) h
      ·intro j h;refine zU rfl (zM R4 (zV R3 (Val.len_l hw87 M2 rfl rfl) (zM R4 (zN (zB ?_)))))
       show T _ _ _ _ _ _;apply T.iter (r := j) (W := Unit) (fun j w => ⟨[], [(0, w87), (1, .func 126 [] [.ptr b8 0 2]), (7, iv (((List.take (x72 - (0 : Int)).toNat (List.drop ((0 : Int) : Int).toNat r_Readers)).length : Int))), (8, iv (j))], .row b8 2 [sv a75.name, iv (a75.permit)] :: .row b1 4 [qB, v_r_Readers, v_r_Seats, v_r_Requests] :: C⟩) (w0 := ()) h
       ·exact (sb .refl)
       rintro x8 _ a h;unfold P_rd_Check_L4 at h;refine zU rfl ?_;obtain ⟨c9, hc9⟩ := zY (x8 < ((List.take (x72 - (0 : Int)).toNat (List.drop ((0 : Int) : Int).toNat r_Readers)).length : Int));refine zV R3 (Val.lss hc9 rfl rfl) (zN (zS ?_));obtain ⟨rfl, hc9, h⟩ | ⟨rfl, hc9, h⟩ := zI hc9 h
       ·refine zC rfl (zK (zS (zB (zU rfl (zM R4 (zA R4 (zN (zU rfl (zM R4 (zM R4 (zM R4 ?_)))))))))));obtain ⟨a14, hia14, ea14, h⟩ := el_some h;refine TO.fact (rdl_at hw87 M2 hia14 ea14) (fun hp=>?_);obtain ⟨pa14, hpa14, hva14⟩ := hp;refine zV R3 (hva14 ⟨rfl, rfl⟩ rfl rfl) (zV R3 (Val.load_es (c := [_, _]) hpa14 M2 ⟨⟨_, rfl, rfl⟩, rfl, by decide⟩ rfl rfl rfl) (TO.callIn rfl rfl rfl rfl rfl rfl (orcN rfl) (TF.enter (fn := Go.Proofs.Tryz.f126) rfl rfl rfl rfl rfl (zU rfl (zQ 2 [_,_] R7 (fun b2=>zA R4 (zN (zU rfl (zF 0 R6 (zL 0 R3 R6 (zF 0 R6 (zL 1 R3 R6 ?_))))))))))));obtain ⟨c8, hc8⟩ := zY (a14.name = a75.name);refine zV R3 (Val.eql_str hc8 rfl rfl) (zA R4 (zN (zR ?_)));refine ⟨rfl, _, rfl, ?_⟩;refine zN ?_;obtain ⟨rfl, hc8, h⟩ | ⟨rfl, hc8, h⟩ := zI hc8 h
        ·refine zC rfl (zU rfl (zM R4 (zA R4 (zN (zR ?_)))));cases h;exact ⟨ret_ne, ⟨ret_ne, ⟨rfl, _, rfl, ⟨(), rfl, (pk [1,1,98] rfl)⟩⟩⟩⟩
        refine zD rfl (zK (zT rfl ?_));obtain ⟨hk18, h⟩ := chk_some h;refine zV R3 (Val.add rfl rfl hk18) (zM R4 (zN ?_));cases h;exact ⟨rfl, (), (sb (pk [1,1,98] rfl))⟩
       refine zD rfl (zE ?_);cases h;exact ⟨ex_ne, ⟨rfl, (), (sb .refl)⟩⟩
      ·rintro _ _ h;refine zU rfl (zA R4 (zN (zR ?_)));cases h;exact ⟨rfl, _, rfl, ⟨(), rfl, .refl⟩⟩
     ·rintro y7 _ h;refine zG (_::_::C) rfl ?_;obtain ⟨c8, hc8⟩ := zY (y7 ≥ 0);refine zV R3 (Val.geq hc8 rfl rfl) (zA R4 (zN (zR ?_)));refine ⟨rfl, _, rfl, ?_⟩;refine zA R4 (zN ?_);obtain ⟨rfl, hc8, h⟩ | ⟨rfl, hc8, h⟩ := zI hc8 h
      ·refine zC rfl (zU rfl (zM R4 (zA R4 (zA R4 (zA R4 (zN (zR ?_)))))));cases h;exact ⟨ret_ne, ⟨ret_ne, ⟨rfl, _, rfl, ⟨(), rfl, (pk [98,98] rfl)⟩⟩⟩⟩
      refine zD rfl (zU rfl (zF 1 R6 (zL 0 R3 R6 (TO.build1 (en := encI) (a := a75.permit) rfl rfl rfl ⟨rfl, rfl⟩ ⟨_, rfl, rfl⟩ (by decide) (by decide) rfl rfl (fun v94=>?_)))));obtain ⟨y95, hr95, h⟩ := andx_some h;refine TO.callT (first := []) (cap := []) (vs := [iv (0), iv (5), v94]) rfl rfl rfl rfl rfl rfl (orcN rfl) (tf_rd_outside aD (Rdl.mono (Rdl.own (C := ownL false v94 encI [a75.permit] :: .row b8 2 [sv a75.name, iv (a75.permit)] :: .row b1 4 [qB, v_r_Readers, v_r_Seats, v_r_Requests] :: C) (p := 0) rfl) mem0) hr95) ?_;rintro _;refine zG (_::_::_::C) rfl (zA R4 (zN ?_));obtain ⟨rfl, h⟩ | ⟨rfl, h⟩ := zZ h
      ·refine zC rfl (zU rfl (zM R4 (zA R4 (zA R4 (zA R4 (zN (zR ?_)))))));cases h;exact ⟨ret_ne, ⟨ret_ne, ⟨rfl, _, rfl, ⟨(), rfl, (pk [98,98,98] rfl)⟩⟩⟩⟩
      refine zD rfl (zK (zT rfl ?_));obtain ⟨hk97, h⟩ := chk_some h;refine zV R3 (Val.add rfl rfl hk97) (zM R4 (zN ?_));cases h;exact ⟨rfl, (), (sb (pk [2,98,98] rfl))⟩
    refine zC rfl (zU rfl (zM R4 (zA R4 (zA R4 (zA R4 (zN (zR ?_)))))));cases h;exact ⟨ret_ne, ⟨ret_ne, ⟨rfl, _, rfl, ⟨(), rfl, (pk [98,98] rfl)⟩⟩⟩⟩
   refine zD rfl (zE ?_);cases h;exact ⟨ex_ne, ⟨rfl, (), (sb .refl)⟩⟩
  ·rintro _ _ h;refine zS (zU rfl (zF 2 R6 (zL 0 R3 R6 (zV R3 (Val.len_l h_r_Seats M1 rfl rfl) ?_))));obtain ⟨c101, hc101⟩ := zY ((r_Seats.length : Int) > 6);refine zV R3 (Val.gtr hc101 rfl rfl) (zN ?_);obtain ⟨rfl, hc101, h⟩ | ⟨rfl, hc101, h⟩ := zI hc101 h
   ·refine zC rfl (zU rfl (zA R4 (zA R4 (zA R4 (zN (zR ?_))))));cases h;exact ⟨rfl, _, rfl, ⟨(), rfl, (pk [98] rfl)⟩⟩
   refine zD rfl (zK ?_)
   show T _ _ _ _ _ _;apply T.join (r := r) (W := Unit) (fun j w => ⟨[], [(1, .ptr b1 0 4)], .row b1 4 [qB, v_r_Readers, v_r_Seats, v_r_Requests] :: C⟩) h
   ·intro j h;refine zU rfl (zF 2 R6 (zL 0 R3 R6 (zV R3 (Val.len_l h_r_Seats M1 rfl rfl) (zM R4 (zN (zB ?_))))))
    show T _ _ _ _ _ _;apply T.iter (r := j) (W := Unit) (fun j w => ⟨[], [(1, .ptr b1 0 4), (103, v_r_Seats), (104, iv ((r_Seats.length : Int))), (105, iv (j))], .row b1 4 [qB, v_r_Readers, v_r_Seats, v_r_Requests] :: C⟩) (w0 := ()) h
    ·exact (sb .refl)
    rintro x105 _ a h;unfold P_rd_Check_L5 at h;refine zU rfl ?_;obtain ⟨c106, hc106⟩ := zY (x105 < (r_Seats.length : Int));refine zV R3 (Val.lss hc106 rfl rfl) (zN (zS ?_));obtain ⟨rfl, hc106, h⟩ | ⟨rfl, hc106, h⟩ := zI hc106 h
    ·refine zC rfl (zK (zS (zB (zU rfl (zM R4 ?_)))));obtain ⟨a108, hia108, ea108, h⟩ := el_some h;refine TO.fact (rdl_at h_r_Seats M1 hia108 ea108) (fun hp=>?_);obtain ⟨pa108, hpa108, hva108⟩ := hp;refine zV R3 (hva108 ⟨rfl, rfl⟩ rfl rfl) (zV R3 (Val.load_es (c := [_, _]) hpa108 M1 ⟨⟨_, rfl, rfl⟩, rfl, by decide⟩ rfl rfl rfl) (zJ 2 [_,_] R7 (fun b10=>zA R4 (TO.eff0 rfl rfl (Eff.store_row (p := 0) (cv := [_, _]) (cells' := [_, _]) rfl rfl rfl rfl rfl rfl rfl rfl aG (by decide) rfl) ?_))));rintro _ rfl;refine zG (_::_::C) rfl (zN (zU rfl (zF 0 R6 (zL 0 R3 R6 (TO.build1 (en := encI) (a := a108.light) rfl rfl rfl ⟨rfl, rfl⟩ ⟨_, rfl, rfl⟩ (by decide) (by decide) rfl rfl (fun v112=>?_))))));obtain ⟨y113, hr113, h⟩ := andx_some h;refine TO.callT (first := []) (cap := []) (vs := [iv (0), iv (100), v112]) rfl rfl rfl rfl rfl rfl (orcN rfl) (tf_rd_outside aD (Rdl.mono (Rdl.own (C := ownL false v112 encI [a108.light] :: .row b10 2 [iv (a108.light), bv a108.small] :: .row b1 4 [qB, v_r_Readers, v_r_Seats, v_r_Requests] :: C) (p := 0) rfl) mem0) hr113) ?_;rintro _;refine zG (_::_::_::C) rfl (zN ?_);obtain ⟨rfl, h⟩ | ⟨rfl, h⟩ := zZ h
     ·refine zC rfl (zU rfl (zM R4 (zA R4 (zA R4 (zA R4 (zN (zR ?_)))))));cases h;exact ⟨ret_ne, ⟨ret_ne, ⟨rfl, _, rfl, ⟨(), rfl, (pk [98,98,98] rfl)⟩⟩⟩⟩
     refine zD rfl (zK (zT rfl ?_));obtain ⟨hk115, h⟩ := chk_some h;refine zV R3 (Val.add rfl rfl hk115) (zM R4 (zN ?_));cases h;exact ⟨rfl, (), (sb (pk [2,98,98] rfl))⟩
    refine zD rfl (zE ?_);cases h;exact ⟨ex_ne, ⟨rfl, (), (sb .refl)⟩⟩
   ·rintro _ _ h;refine zS (zU rfl (zF 3 R6 (zL 0 R3 R6 (zV R3 (Val.len_l h_r_Requests M1 rfl rfl) ?_))));obtain ⟨c119, hc119⟩ := zY ((r_Requests.length : Int) > 8);refine zV R3 (Val.gtr hc119 rfl rfl) (zN ?_);obtain ⟨rfl, hc119, h⟩ | ⟨rfl, hc119, h⟩ := zI hc119 h
    ·refine zC rfl (zU rfl (zA R4 (zA R4 (zA R4 (zN (zR ?_))))));cases h;exact ⟨rfl, _, rfl, ⟨(), rfl, (pk [98] rfl)⟩⟩
    refine zD rfl (zK ?_)
    show T _ _ _ _ _ _;apply T.join (r := r) (W := Unit) (fun j w => ⟨[], [], .row b1 4 [qB, v_r_Readers, v_r_Seats, v_r_Requests] :: C⟩) h
    ·intro j h;refine zU rfl (zF 3 R6 (zL 0 R3 R6 (zV R3 (Val.len_l h_r_Requests M1 rfl rfl) (zM R4 (zN (zB ?_))))))
     show T _ _ _ _ _ _;apply T.iter (r := j) (W := Unit) (fun j w => ⟨[], [(1, .ptr b1 0 4), (121, v_r_Requests), (122, iv ((r_Requests.length : Int))), (123, iv (j))], .row b1 4 [qB, v_r_Readers, v_r_Seats, v_r_Requests] :: C⟩) (w0 := ()) h
     ·exact (sb .refl)
     rintro x123 _ a h;unfold P_rd_Check_L6 at h;refine zU rfl ?_;obtain ⟨c124, hc124⟩ := zY (x123 < (r_Requests.length : Int));refine zV R3 (Val.lss hc124 rfl rfl) (zN (zS ?_));obtain ⟨rfl, hc124, h⟩ | ⟨rfl, hc124, h⟩ := zI hc124 h
     ·refine zC rfl (zK ?_)
      show T _ _ _ _ _ _;apply T.join (r := a) (W := Unit) (fun j w => ⟨[], [(1, .ptr b1 0 4), (121, v_r_Requests), (122, iv ((r_Requests.length : Int))), (123, iv (x123))], .row b1 4 [qB, v_r_Readers, v_r_Seats, v_r_Requests] :: C⟩) h
      ·intro j h;refine zB (zU rfl (zM R4 ?_));obtain ⟨a126, hia126, ea126, h⟩ := el_some h;refine TO.fact (rdl_at h_r_Requests M1 hia126 ea126) (fun hp=>?_);obtain ⟨pa126, hpa126, hva126⟩ := hp;refine zV R3 (hva126 ⟨rfl, rfl⟩ rfl rfl) (zV R3 (Val.load_es (c := [_, _, _, _]) hpa126 M1 ⟨⟨_, rfl, rfl⟩, rfl, by decide⟩ rfl rfl rfl) (zJ 4 [_,_,_,_] R7 (fun b12=>zA R4 (TO.eff0 rfl rfl (Eff.store_row (p := 0) (cv := [_, _, _, _]) (cells' := [_, _, _, _]) rfl rfl rfl rfl rfl rfl rfl rfl aG (by decide) rfl) ?_))));rintro _ rfl;refine zG (_::_::C) rfl (zN (zB ?_))
       show T _ _ _ _ _ _;apply T.joinA (r := j) (W := Unit) (fun j w => ⟨[], [(1, .ptr b1 0 4), (11, iv (x123)), (12, .ptr b12 0 4), (121, v_r_Requests), (122, iv ((r_Requests.length : Int))), (123, iv (x123)), (128, bv j)], .row b12 4 [iv (a126.reader), iv (a126.book), iv (a126.hours), iv (a126.worth)] :: .row b1 4 [qB, v_r_Readers, v_r_Seats, v_r_Requests] :: C⟩) h
       ·intro j h;refine zT rfl (zF 1 R6 (zL 1 R3 R6 (zV R3 (Val.len_l h_r_Readers M2 rfl rfl) ?_)));obtain ⟨hk132, h⟩ := chk_some h;refine zV R3 (Val.sub rfl rfl hk132) (zF 0 R6 (zL 0 R3 R6 (TO.build1 (en := encI) (a := a126.reader) rfl rfl rfl ⟨rfl, rfl⟩ ⟨_, rfl, rfl⟩ (by decide) (by decide) rfl rfl (fun v135=>?_))));obtain ⟨y136, hr136, h⟩ := andx_some h;refine TO.callT (first := []) (cap := []) (vs := [iv (0), iv (((r_Readers.length : Int) - 1)), v135]) rfl rfl rfl rfl rfl rfl (orcN rfl) (tf_rd_outside aD (Rdl.mono (Rdl.own (C := ownL false v135 encI [a126.reader] :: .row b12 4 [iv (a126.reader), iv (a126.book), iv (a126.hours), iv (a126.worth)] :: .row b1 4 [qB, v_r_Readers, v_r_Seats, v_r_Requests] :: C) (p := 0) rfl) mem0) hr136) ?_;rintro _;refine zG (_::_::_::C) rfl (zM R4 ?_);obtain ⟨rfl, h⟩ | ⟨rfl, h⟩ := zZ h
        ·refine zO R3 (zO R3 (zO R3 (zO R3 (zO R3 (zO R3 (zO R3 (zO R3 (zP R6 (zA R4 (zN ?_))))))))));cases h;exact ⟨rfl, (), (sb (pk [1,1,98] rfl))⟩
        refine zF 0 R6 (zL 2 R3 R6 (zV R3 (Val.len_l qI M3 rfl rfl) ?_));obtain ⟨hk141, h⟩ := chk_some h;refine zV R3 (Val.sub rfl rfl hk141) (zF 1 R6 (zL 1 R3 R6 (TO.build1 (en := encI) (a := a126.book) rfl rfl rfl ⟨rfl, rfl⟩ ⟨_, rfl, rfl⟩ (by decide) (by decide) rfl rfl (fun v144=>?_))));obtain ⟨y145, hr145, h⟩ := andx_some h;refine TO.callT (first := []) (cap := []) (vs := [iv (0), iv (((qC.length : Int) - 1)), v144]) rfl rfl rfl rfl rfl rfl (orcN rfl) (tf_rd_outside aD (Rdl.mono (Rdl.own (C := ownL false v144 encI [a126.book] :: ownL false v135 encI [a126.reader] :: .row b12 4 [iv (a126.reader), iv (a126.book), iv (a126.hours), iv (a126.worth)] :: .row b1 4 [qB, v_r_Readers, v_r_Seats, v_r_Requests] :: C) (p := 0) rfl) mem0) hr145) ?_;rintro _;refine zG (_::_::_::_::C) rfl (zP R6 (zA R4 (zN ?_)));cases h;exact ⟨rfl, (), (sb (pk [2,2,98,98] rfl))⟩
       ·rintro x128 _ h;replace h := zZ h;obtain ⟨rfl, h⟩ | ⟨rfl, h⟩ := h
        ·refine zC rfl (zU rfl (zM R4 (zA R4 (zA R4 (zA R4 (zN (zR ?_)))))));cases h;exact ⟨ret_ne, ⟨ret_ne, ⟨ret_ne, ⟨rfl, _, rfl, ⟨(), rfl, (pk [98,98] rfl)⟩⟩⟩⟩⟩
        refine zD rfl ?_
        show T _ _ _ _ _ _;apply T.joinA (r := j) (W := Unit) (fun j w => ⟨[], [(1, .ptr b1 0 4), (11, iv (x123)), (121, v_r_Requests), (122, iv ((r_Requests.length : Int))), (123, iv (x123)), (148, bv j)], .row b12 4 [iv (a126.reader), iv (a126.book), iv (a126.hours), iv (a126.worth)] :: .row b1 4 [qB, v_r_Readers, v_r_Seats, v_r_Requests] :: C⟩) h
        ·intro j h;refine zT rfl (zF 2 R6 (zL 0 R3 R6 (TO.build1 (en := encI) (a := a126.hours) rfl rfl rfl ⟨rfl, rfl⟩ ⟨_, rfl, rfl⟩ (by decide) (by decide) rfl rfl (fun v151=>?_))));obtain ⟨y152, hr152, h⟩ := andx_some h;refine TO.callT (first := []) (cap := []) (vs := [iv (1), iv (12), v151]) rfl rfl rfl rfl rfl rfl (orcN rfl) (tf_rd_outside aD (Rdl.mono (Rdl.own (C := ownL false v151 encI [a126.hours] :: .row b12 4 [iv (a126.reader), iv (a126.book), iv (a126.hours), iv (a126.worth)] :: .row b1 4 [qB, v_r_Readers, v_r_Seats, v_r_Requests] :: C) (p := 0) rfl) mem0) hr152) ?_;rintro _;refine zG (_::_::_::C) rfl (zM R4 ?_);obtain ⟨rfl, h⟩ | ⟨rfl, h⟩ := zZ h
         ·refine zO R3 (zO R3 (zO R3 (zO R3 (zP R6 (zA R4 (zN ?_))))));cases h;exact ⟨rfl, (), (sb (pk [1,1,98] rfl))⟩
         refine zF 3 R6 (zL 1 R3 R6 (TO.build1 (en := encI) (a := a126.worth) rfl rfl rfl ⟨rfl, rfl⟩ ⟨_, rfl, rfl⟩ (by decide) (by decide) rfl rfl (fun v156=>?_)));obtain ⟨y157, hr157, h⟩ := andx_some h;refine TO.callT (first := []) (cap := []) (vs := [iv (0), iv (100), v156]) rfl rfl rfl rfl rfl rfl (orcN rfl) (tf_rd_outside aD (Rdl.mono (Rdl.own (C := ownL false v156 encI [a126.worth] :: ownL false v151 encI [a126.hours] :: .row b12 4 [iv (a126.reader), iv (a126.book), iv (a126.hours), iv (a126.worth)] :: .row b1 4 [qB, v_r_Readers, v_r_Seats, v_r_Requests] :: C) (p := 0) rfl) mem0) hr157) ?_;rintro _;refine zG (_::_::_::_::C) rfl (zP R6 (zA R4 (zN ?_)));cases h;exact ⟨rfl, (), (sb (pk [2,2,98,98] rfl))⟩
        ·rintro x148 _ h;replace h := zZ h;obtain ⟨rfl, h⟩ | ⟨rfl, h⟩ := h
         ·refine zC rfl (zU rfl (zM R4 (zA R4 (zA R4 (zA R4 (zN (zR ?_)))))));cases h;exact ⟨ret_ne, ⟨ret_ne, ⟨ret_ne, ⟨rfl, _, rfl, ⟨(), rfl, (pk [98,98] rfl)⟩⟩⟩⟩⟩
         refine zD rfl (zK ?_);cases h;exact ⟨rfl, (), (sb (pk [1,98] rfl))⟩
      ·rintro _ _ h;refine zT rfl ?_;obtain ⟨hk160, h⟩ := chk_some h;refine zV R3 (Val.add rfl rfl hk160) (zM R4 (zN ?_));cases h;exact ⟨rfl, (), (sb .refl)⟩
     refine zD rfl (zE ?_);cases h;exact ⟨ex_ne, ⟨rfl, (), (sb .refl)⟩⟩
    ·rintro _ _ h;refine zU rfl (zA R4 (zA R4 (zA R4 (zN (zR ?_)))));cases h;exact ⟨rfl, _, rfl, ⟨(), rfl, (pk [98] rfl)⟩⟩
theorem w_rd_Check (qC : GS qJ) (r_Readers : GS qR) (r_Seats : GS qQ) (r_Requests : GS qK) (r : Int × Int × Int) (h : P_rd_Check qC.l r_Readers.l r_Seats.l r_Requests.l = some r) : Comes (EL 0) 91 [.agg [qC.v, r_Readers.v, r_Seats.v, r_Requests.v]] (.tuple [iv r.1, iv r.2.1, iv r.2.2]) :=
 TF.run (tf_rd_Check (Nat.le_refl _) (RdT.gs qC) (RdT.gs r_Readers) (RdT.gs r_Seats) (RdT.gs r_Requests) h) fun w => (.tuple (.cons .lit (.cons .lit (.cons .lit .nil))))
end Go.Am.YtgbbhdoobhdadaaGreatDoor
end
section
namespace Go.Am.YtgbbhdoobhdadaaGreatDoor
open Go.Am Go.RowKit
set_option linter.unusedVariables false
set_option maxRecDepth 100000
variable {k : Nat} {gb : GS qJ} {gr : GS qR} {gs : GS qQ} {gq : GS qK} {hs : List Thing}
def ReqOk (gb : GS qJ) (gr : GS qR) (gq : GS qK) : Prop := ∀ q ∈ gq.l, (0 ≤ q.book ∧ q.book < gb.l.length) ∧ (0 ≤ q.reader ∧ q.reader < gr.l.length)
theorem tf_book {p b1 : Nat} (hp : hs[p]? = some (.row b1 4 [gb.v, gr.v, gs.v, gq.v])) {i : Int} (hi : 0 ≤ i ∧ i < gq.l.length) (hq : ReqOk gb gr gq) :
  TF (EL k) 119 [iv i, .ptr b1 0 4] hs (RepF (fun b : qX => .agg (qJ.f b)) fun _ => hs) := by
 refine TF.enterG (fn := Go.Proofs.Tryz.f119) rfl rfl rfl rfl rfl ?_;refine T.seq ?_;refine T.text rfl ?_;refine TO.alloc (k := 5) (cells := [_, _, _, _, _]) rfl rfl rfl rfl rfl rfl rfl (fun b3 => ?_);refine TO.nil ?_
 have hp1 : (Thing.row b3 5 [sv [], iv 0, iv 0, iv 0, bv false] :: hs)[p + 1]? = some (.row b1 4 [gb.v, gr.v, gs.v, gq.v]) := hp;refine T.seq ?_;refine T.drawE (l1 := [0, 1, 2, 3, 4, 5, 6, 7, 8, 9]) (l2 := [10]) (by kernel_rfl) (by kernel_rfl) ?_;refine TD1.light rfl rfl rfl rfl (Val.faddr_ptr (fo := 0) rfl rfl rfl) ?_;refine TD1.read rfl rfl rfl rfl (Val.load_row (p := p + 1) hp1 ⟨_, rfl, rfl⟩ rfl rfl rfl) ?_;refine TD1.light rfl rfl rfl rfl (Val.faddr_ptr (fo := 3) rfl rfl rfl) ?_;refine TD1.read rfl rfl rfl rfl (Val.load_row (p := p + 1) hp1 ⟨_, rfl, rfl⟩ rfl rfl rfl) ?_;refine TD1.light rfl rfl rfl rfl (Val.move rfl) ?_;refine TD1.index_gs (gs := gq) rfl rfl rfl ⟨rfl, rfl⟩ rfl rfl hi fun q rest hqi => ?_
 have hq1 := hq q (List.mem_of_getElem? hqi);refine TD1.light rfl rfl rfl rfl (Val.faddr_tree (fo := 1) rfl rfl rfl rfl) ?_;refine TD1.read rfl rfl rfl rfl (Val.load_tree ⟨_, rfl, rfl⟩ rfl) ?_;refine TD1.index_gs (gs := gb) rfl rfl rfl ⟨rfl, rfl⟩ rfl rfl hq1.1 fun b rest2 hbi => ?_
 refine TD1.read rfl rfl rfl rfl (Val.load_trees (k := 5) (c := qJ.f b) ⟨⟨_, rfl, rfl⟩, rfl, by decide⟩ rfl rfl) ?_;refine TD1.over (fun v => sameC_refl v) (all_cons ⟨_, rfl, Val.load_trees (k := 5) (c := qJ.f b) ⟨⟨_, rfl, rfl⟩, rfl, by decide⟩ rfl rfl⟩ (all_cons ⟨_, rfl, Val.load_tree ⟨_, rfl, rfl⟩ rfl⟩ (all_cons ⟨_, rfl, Val.load_row (p := p + 1) hp1 ⟨_, rfl, rfl⟩ rfl rfl rfl⟩ (all_cons ⟨_, rfl, Val.load_row (p := p + 1) hp1 ⟨_, rfl, rfl⟩ rfl rfl rfl⟩ all_nil)))) ?_;refine TD2.heavy (fun v => sameC_refl v) rfl (by decide) rfl rfl (OpS.eff (Eff.store_row (p := 0) (cv := qJ.f b) (cells' := qJ.f b) rfl rfl rfl rfl rfl rfl rfl rfl rfl (by decide) rfl)) ?_;rintro _ _ rfl;refine ⟨all_cons (.inl (by kernel_rfl)) (all_cons (.inl (by kernel_rfl)) (all_cons (.inl (by kernel_rfl)) (all_cons (.inl (by kernel_rfl)) all_nil))), all_nil, ?_⟩;refine TD2.things (hs' := .row b3 5 (qJ.f b) :: hs) rfl ?_;refine TD2.nil ?_;refine T.ret ?_;exact ⟨rfl, _, rfl, [_], ⟨⟨_, rfl, LoadR.rows (p := 0) (c := qJ.f b) rfl ⟨⟨_, rfl, rfl⟩, rfl, by decide⟩ rfl rfl rfl⟩, trivial⟩, ⟨b, rfl, .drop .refl⟩⟩
theorem tf_rule1 {p p8 b1 b8 : Nat} (hp : hs[p]? = some (.row b1 4 [gb.v, gr.v, gs.v, gq.v])) (h8 : hs[p8]? = some (.row b8 1 [.func 119 [] [.ptr b1 0 4]])) {i j : Int} (hi : 0 ≤ i ∧ i < gq.l.length)
  (hj : 0 ≤ j ∧ j < gs.l.length) (hq : ReqOk gb gr gq) : TF (EL k) 120 [iv i, iv j, .ptr b8 0 1, .ptr b1 0 4] hs (RepF (fun b : Bool => bv b) fun _ => hs) := by
 refine TF.enterG (fn := Go.Proofs.Tryz.f120) rfl rfl rfl rfl rfl ?_;refine T.seq ?_;refine T.text rfl ?_;refine TO.val rfl rfl rfl (Val.assign rfl) ?_;refine TO.nil ?_;refine T.seq ?_;refine T.drawE (l1 := [0, 1, 4, 5, 6, 7, 8, 9, 10, 11, 12, 13, 14]) (l2 := [2, 3, 15, 16]) (by kernel_rfl) (by kernel_rfl) ?_;refine TD1.read rfl rfl rfl rfl (Val.load_row (p := p8) h8 ⟨_, rfl, rfl⟩ rfl rfl rfl) ?_;refine TD1.light rfl rfl rfl rfl (Val.move rfl) ?_;refine TD1.light rfl rfl rfl rfl (Val.faddr_ptr (fo := 1) rfl rfl rfl) ?_;refine TD1.read rfl rfl rfl rfl (Val.load_row (p := p) hp ⟨_, rfl, rfl⟩ rfl rfl rfl) ?_;refine TD1.light rfl rfl rfl rfl (Val.faddr_ptr (fo := 3) rfl rfl rfl) ?_;refine TD1.read rfl rfl rfl rfl (Val.load_row (p := p) hp ⟨_, rfl, rfl⟩ rfl rfl rfl) ?_;refine TD1.light rfl rfl rfl rfl (Val.move rfl) ?_;refine TD1.index_gs (gs := gq) rfl rfl rfl ⟨rfl, rfl⟩ rfl rfl hi fun q rest hqi => ?_
 have hq1 := hq q (List.mem_of_getElem? hqi);refine TD1.light rfl rfl rfl rfl (Val.faddr_tree (fo := 0) rfl rfl rfl rfl) ?_;refine TD1.read rfl rfl rfl rfl (Val.load_tree ⟨_, rfl, rfl⟩ rfl) ?_;refine TD1.index_gs (gs := gr) rfl rfl rfl ⟨rfl, rfl⟩ rfl rfl hq1.2 fun d rest2 hdi => ?_
 refine TD1.light rfl rfl rfl rfl (Val.faddr_tree (fo := 1) rfl rfl rfl rfl) ?_;refine TD1.read rfl rfl rfl rfl (Val.load_tree ⟨_, rfl, rfl⟩ rfl) ?_;refine TD1.over (fun v => sameC_refl v) (all_cons (⟨_, rfl, Val.load_tree ⟨_, rfl, rfl⟩ rfl⟩) (all_cons (⟨_, rfl, Val.load_tree ⟨_, rfl, rfl⟩ rfl⟩) (all_cons (⟨_, rfl, Val.load_row (p := p) hp ⟨_, rfl, rfl⟩ rfl rfl rfl⟩) (all_cons (⟨_, rfl, Val.load_row (p := p) hp ⟨_, rfl, rfl⟩ rfl rfl rfl⟩) (all_cons (⟨_, rfl, Val.load_row (p := p8) h8 ⟨_, rfl, rfl⟩ rfl rfl rfl⟩) all_nil))))) ?_;refine TD2.heavy (fun v => sameC_refl v) rfl (by decide) rfl rfl (OpS.callV rfl rfl rfl rfl (orcN rfl) (RepF.conv (tf_book hp hi hq))) ?_;rintro _ _ ⟨b, rfl, rfl⟩;refine ⟨(all_cons (.inr ⟨_, rfl, Val.load_tree ⟨_, rfl, rfl⟩ rfl⟩) (all_cons (.inr ⟨_, rfl, Val.load_tree ⟨_, rfl, rfl⟩ rfl⟩) (all_cons (.inr ⟨_, rfl, Val.load_row (p := p) hp ⟨_, rfl, rfl⟩ rfl rfl rfl⟩) (all_cons (.inr ⟨_, rfl, Val.load_row (p := p) hp ⟨_, rfl, rfl⟩ rfl rfl rfl⟩) (all_cons (.inl (by kernel_rfl)) all_nil))))), all_nil, ?_⟩;refine TD2.light rfl rfl rfl rfl (Val.field (k := 0) rfl rfl rfl rfl rfl) ?_;obtain ⟨c, hc⟩ : ∃ c : Bool, c = decide (b.classv > d.permit) := ⟨_, rfl⟩;refine TD2.light rfl rfl rfl rfl (Val.gtr hc rfl rfl) ?_;refine TD2.light rfl rfl rfl rfl (Val.assign rfl) ?_;refine TD2.nil ?_;refine T.ret ?_;exact ⟨rfl, _, rfl, [_], ⟨rfl, trivial⟩, ⟨c, rfl, .refl⟩⟩
theorem tf_rule2 {p p8 b1 b8 : Nat} (hp : hs[p]? = some (.row b1 4 [gb.v, gr.v, gs.v, gq.v])) (h8 : hs[p8]? = some (.row b8 1 [.func 119 [] [.ptr b1 0 4]])) {i j : Int} (hi : 0 ≤ i ∧ i < gq.l.length)
  (hj : 0 ≤ j ∧ j < gs.l.length) (hq : ReqOk gb gr gq) : TF (EL k) 121 [iv i, iv j, .ptr b8 0 1, .ptr b1 0 4] hs (RepF (fun b : Bool => bv b) fun _ => hs) := by
 refine TF.enterG (fn := Go.Proofs.Tryz.f121) rfl rfl rfl rfl rfl ?_;refine T.seq ?_;refine T.text rfl ?_;refine TO.val rfl rfl rfl (Val.assign rfl) ?_;refine TO.nil ?_;refine T.seq ?_;refine T.text rfl ?_;refine TO.val rfl rfl rfl (Val.load_row (p := p8) h8 ⟨_, rfl, rfl⟩ rfl rfl rfl) ?_;refine TO.val rfl rfl rfl (Val.move rfl) ?_;refine TO.callV rfl rfl rfl rfl rfl rfl (orcN rfl) (RepF.conv (tf_book hp hi hq)) ?_;rintro _ _ ⟨b, rfl, rfl⟩;obtain ⟨c, hc⟩ : ∃ c : Bool, c = b.large := ⟨_, rfl⟩;refine TO.val rfl rfl rfl (Val.field (k := 0) (v := bv c) rfl rfl rfl rfl (by subst hc; rfl)) ?_;refine TO.val rfl rfl rfl (Val.move rfl) ?_;cases c with
 | true =>
  refine TO.val rfl rfl rfl (Val.faddr_ptr (fo := 2) rfl rfl rfl) ?_;refine TO.val rfl rfl rfl (Val.load_row (p := p) hp ⟨_, rfl, rfl⟩ rfl rfl rfl) ?_;refine TO.val rfl rfl rfl (Val.move rfl) ?_;refine TO.index_gs (gs := gs) rfl rfl rfl ⟨rfl, rfl⟩ rfl rfl hj fun a rest hsi => ?_
  refine TO.val rfl rfl rfl (Val.faddr_tree (fo := 1) rfl rfl rfl rfl) ?_;refine TO.val rfl rfl rfl (Val.load_tree ⟨_, rfl, rfl⟩ rfl) ?_;refine TO.val rfl rfl rfl (Val.pick rfl rfl rfl) ?_;refine TO.val rfl rfl rfl (Val.assign rfl) ?_;refine TO.nil ?_;refine T.ret ?_;exact ⟨rfl, _, rfl, [_], ⟨rfl, trivial⟩, ⟨a.small, rfl, .refl⟩⟩
 | false =>
  refine TO.off rfl rfl rfl ?_;refine TO.off rfl rfl rfl ?_;refine TO.off rfl rfl rfl ?_;refine TO.off rfl rfl rfl ?_;refine TO.off rfl rfl rfl ?_;refine TO.off rfl rfl rfl ?_;refine TO.val rfl rfl rfl (Val.pick rfl rfl rfl) ?_;refine TO.val rfl rfl rfl (Val.assign rfl) ?_;refine TO.nil ?_;refine T.ret ?_;exact ⟨rfl, _, rfl, [_], ⟨rfl, trivial⟩, ⟨false, rfl, .refl⟩⟩
def roomC (gb : GS qJ) (gr : GS qR) (gs : GS qQ) (gq : GS qK) (L : List Int) (vr : AV) : List AV := gb.v :: gr.v :: gs.v :: gq.v :: (L.map (fun x => iv x) ++ [vr])
theorem roomC_len {L : List Int} {vr : AV} (hL : L.length = 48) : (roomC gb gr gs gq L vr).length = 53 := by
 simp [roomC, hL]
theorem roomC_light {L : List Int} {vr : AV} (hL : L.length = 48) {i j : Int} (hi : 0 ≤ i ∧ i < 8) (hj : 0 ≤ j ∧ j < 6) :
  ∃ x, x ∈ L ∧ (roomC gb gr gs gq L vr)[4 + i.toNat * 6 + j.toNat * 1]? = some (iv x) := by
 have hlt : i.toNat * 6 + j.toNat < L.length := by omega
 refine ⟨L[i.toNat * 6 + j.toNat], List.getElem_mem hlt, ?_⟩;rw [show 4 + i.toNat * 6 + j.toNat * 1 = i.toNat * 6 + j.toNat + 4 by omega];simp only [roomC, List.getElem?_cons_succ];rw [List.getElem?_append_left (by simpa using hlt), List.getElem?_map, List.getElem?_eq_getElem hlt];rfl
theorem tf_rule3 {p p8 b1 b8 : Nat} (hp : hs[p]? = some (.row b1 4 [gb.v, gr.v, gs.v, gq.v])) (h8 : hs[p8]? = some (.row b8 1 [.func 119 [] [.ptr b1 0 4]])) {p3 px b3 bx : Nat} {L : List Int} {vr : AV} (h3 : hs[p3]? = some (.row b3 1 [.ptr bx 0 53])) (hx : hs[px]? = some (.row bx 6 (roomC gb gr gs gq L vr))) (hL : L.length = 48) (h8q : gq.l.length ≤ 8) (h6s : gs.l.length ≤ 6) {i j : Int} (hi : 0 ≤ i ∧ i < gq.l.length)
  (hj : 0 ≤ j ∧ j < gs.l.length) (hq : ReqOk gb gr gq) : TF (EL k) 122 [iv i, iv j, .ptr b3 0 1, .ptr b8 0 1] hs (RepF (fun b : Bool => bv b) fun _ => hs) := by
 refine TF.enterG (fn := Go.Proofs.Tryz.f122) rfl rfl rfl rfl rfl ?_;refine T.seq ?_;refine T.text rfl ?_;refine TO.val rfl rfl rfl (Val.assign rfl) ?_;refine TO.nil ?_;refine T.seq ?_;refine T.drawE (l1 := [0, 1, 2, 3, 4, 5, 6, 7, 8, 9]) (l2 := [10, 11, 12, 13, 14]) (by kernel_rfl) (by kernel_rfl) ?_;obtain ⟨x, hxL, hxe⟩ := roomC_light (gb := gb) (gr := gr) (gs := gs) (gq := gq) (vr := vr) hL (i := i) (j := j) (by omega) (by omega);refine TD1.read rfl rfl rfl rfl (Val.load_row (p := p3) h3 ⟨_, rfl, rfl⟩ rfl rfl rfl) ?_;refine TD1.light rfl rfl rfl rfl (Val.move rfl) ?_;refine TD1.light rfl rfl rfl rfl (Val.move rfl) ?_;refine TD1.light rfl rfl rfl rfl (Val.nil_ptr rfl) ?_;refine TD1.light rfl rfl rfl rfl (Val.faddr_ptr (fo := 4) rfl rfl rfl) ?_;refine TD1.light rfl rfl rfl rfl (Val.iaddr_array (m := 8) (u := 6) rfl rfl rfl rfl (by omega)) ?_;refine TD1.light rfl rfl rfl rfl (Val.iaddr_array (m := 6) (u := 1) rfl rfl rfl rfl (by omega)) ?_;refine TD1.read rfl rfl rfl rfl (Val.load_row (p := px) hx ⟨_, rfl, rfl⟩ rfl (roomC_len hL) hxe) ?_;refine TD1.read rfl rfl rfl rfl (Val.load_row (p := p8) h8 ⟨_, rfl, rfl⟩ rfl rfl rfl) ?_;refine TD1.light rfl rfl rfl rfl (Val.move rfl) ?_;refine TD1.over (fun v => sameC_refl v) (all_cons (⟨_, rfl, Val.load_row (p := p8) h8 ⟨_, rfl, rfl⟩ rfl rfl rfl⟩) (all_cons (⟨_, rfl, Val.load_row (p := px) hx ⟨_, rfl, rfl⟩ rfl (roomC_len hL) hxe⟩) (all_cons (⟨_, rfl, Val.load_row (p := p3) h3 ⟨_, rfl, rfl⟩ rfl rfl rfl⟩) all_nil))) ?_;refine TD2.heavy (fun v => sameC_refl v) rfl (by decide) rfl rfl (OpS.callV rfl rfl rfl rfl (orcN rfl) (RepF.conv (tf_book hp hi hq))) ?_;rintro _ _ ⟨b, rfl, rfl⟩;refine ⟨(all_cons (.inr ⟨_, rfl, Val.load_row (p := p8) h8 ⟨_, rfl, rfl⟩ rfl rfl rfl⟩) (all_cons (.inr ⟨_, rfl, Val.load_row (p := px) hx ⟨_, rfl, rfl⟩ rfl (roomC_len hL) hxe⟩) (all_cons (.inr ⟨_, rfl, Val.load_row (p := p3) h3 ⟨_, rfl, rfl⟩ rfl rfl rfl⟩) all_nil))), all_nil, ?_⟩;refine TD2.light rfl rfl rfl rfl (Val.fieldA (k := 2) (c := [iv b.light_lo, iv b.light_hi]) rfl rfl rfl rfl rfl rfl) ?_;refine TD2.light rfl rfl rfl rfl (Val.field (k := 0) rfl rfl rfl rfl rfl) ?_;obtain ⟨c, hc⟩ : ∃ c : Bool, c = decide (x > b.light_lo) := ⟨_, rfl⟩;refine TD2.light rfl rfl rfl rfl (Val.gtr hc rfl rfl) ?_;refine TD2.light rfl rfl rfl rfl (Val.assign rfl) ?_;refine TD2.nil ?_;refine T.ret ?_;exact ⟨rfl, _, rfl, [_], ⟨rfl, trivial⟩, ⟨c, rfl, .refl⟩⟩
end Go.Am.YtgbbhdoobhdadaaGreatDoor
end
section
namespace Go.Am.YtgbbhdoobhdadaaGreatDoor
open Go.Am Go.RowKit
set_option linter.unusedVariables false
set_option maxRecDepth 100000
variable {k : Nat} {gb : GS qJ} {gr : GS qR} {gs : GS qQ} {gq : GS qK} {hs C : List Thing}
def ruleC (b1 b8 b3 : Nat) : List AV := [iv 1, .func 120 [] [.ptr b8 0 1, .ptr b1 0 4], iv 2, .func 121 [] [.ptr b8 0 1, .ptr b1 0 4], iv 3, .func 122 [] [.ptr b3 0 1, .ptr b8 0 1]]
structure Room (C : List Thing) (gb : GS qJ) (gr : GS qR) (gs : GS qQ) (gq : GS qK) (bx b1 b8 b3 : Nat) (vr : AV) (L : List Int) : Prop where
 row1 : Thing.row b1 4 [gb.v, gr.v, gs.v, gq.v] ∈ C
 row8 : Thing.row b8 1 [.func 119 [] [.ptr b1 0 4]] ∈ C
 row3 : Thing.row b3 1 [.ptr bx 0 53] ∈ C
 rowx : Thing.row bx 6 (roomC gb gr gs gq L vr) ∈ C
 rules : Thing.own false vr 2 3 (ruleC b1 b8 b3) ∈ C
 L48 : L.length = 48
 Lok : ∀ x ∈ L, 0 ≤ x ∧ x ≤ 1200
 req : ReqOk gb gr gq
 q8 : gq.l.length ≤ 8
 s6 : gs.l.length ≤ 6
variable {bx b1 b8 b3 : Nat} {vr : AV} {L : List Int} (R : Room C gb gr gs gq bx b1 b8 b3 vr L)
include R
theorem rule_any (hC : ∀ x ∈ C, x ∈ hs) {i j : Int} (hi : 0 ≤ i ∧ i < gq.l.length) (hj : 0 ≤ j ∧ j < gs.l.length) (c : Nat) (hc : c < 3) :
  ∃ (w : Int) (f : FuncId) (fn : Func) (caps : List AV), ((ruleC b1 b8 b3).drop (c * 2)).take 2 = [iv w, .func f [] caps] ∧ (EL k).fn f = some fn ∧ (EL k).orc f = none ∧ TF (EL k) f ([] ++ [iv i, iv j] ++ caps) hs (RepF (fun b : Bool => bv b) fun _ => hs) := by
 obtain ⟨p1, h1⟩ := List.getElem?_of_mem (hC _ R.row1);obtain ⟨p8, h8⟩ := List.getElem?_of_mem (hC _ R.row8);obtain ⟨p3, h3⟩ := List.getElem?_of_mem (hC _ R.row3);obtain ⟨px, hx⟩ := List.getElem?_of_mem (hC _ R.rowx)
 have : c = 0 ∨ c = 1 ∨ c = 2 := by omega
 rcases this with rfl | rfl | rfl
 ·exact ⟨1, 120, _, _, rfl, rfl, orcN rfl, tf_rule1 h1 h8 hi hj R.req⟩
 ·exact ⟨2, 121, _, _, rfl, rfl, orcN rfl, tf_rule2 h1 h8 hi hj R.req⟩
 ·exact ⟨3, 122, _, _, rfl, rfl, orcN rfl, tf_rule3 h1 h8 h3 hx R.L48 R.q8 R.s6 hi hj R.req⟩
theorem tf_why (hC : ∀ x ∈ C, x ∈ hs) {i j : Int} (hi : 0 ≤ i ∧ i < gq.l.length) (hj : 0 ≤ j ∧ j < gs.l.length) :
  TF (EL k) 80 [.ptr bx 0 53, iv i, iv j] hs (RepF (fun n : Int => iv n) fun _ => hs) := by
 obtain ⟨px, hx⟩ := List.getElem?_of_mem (hC _ R.rowx);obtain ⟨pr, hr⟩ := List.getElem?_of_mem (hC _ R.rules)
 have hv52 : (roomC gb gr gs gq L vr)[52]? = some vr := by
  simp only [roomC, List.getElem?_cons_succ];rw [List.getElem?_append_right (by simp [R.L48])];simp [R.L48]
 refine TF.enter (fn := Go.Proofs.Tryz.f80) rfl rfl rfl rfl rfl ?_;refine T.seq ?_;refine T.text rfl ?_;refine TO.val rfl rfl rfl (Val.assign rfl) ?_;refine TO.nil ?_;refine T.seq ?_;refine T.seq ?_;refine T.text rfl ?_;refine TO.val rfl rfl rfl (Val.move rfl) ?_;refine TO.val rfl rfl rfl (Val.nil_ptr rfl) ?_;refine TO.val rfl rfl rfl (Val.faddr_ptr (fo := 52) rfl rfl rfl) ?_;refine TO.val rfl rfl rfl (Val.load_row (p := px) hx ⟨_, rfl, rfl⟩ rfl (roomC_len R.L48) hv52) ?_;refine TO.val rfl rfl rfl (Val.len_own (p := pr) hr rfl rfl) ?_;refine TO.val rfl rfl rfl (Val.move rfl) ?_;refine TO.nil ?_;refine T.block ?_
 let st : Nat → Sy := fun n => ⟨[], [(0, .ptr bx 0 53), (1, iv i), (2, iv j), (6, iv 0), (12, vr), (13, iv (3 : Nat)), (14, iv n)], hs⟩
 refine T.loop (fun μ s => ∃ n : Nat, μ = 3 - n ∧ n ≤ 3 ∧ s = st n) (k := 3) (s' := st 0) ⟨0, rfl, by omega, rfl⟩ ⟨rfl, keep_cons rfl (keep_cons rfl (keep_cons rfl (keep_cons rfl (keep_cons rfl (keep_cons rfl (keep_cons rfl keep_nil)))))), .refl _⟩ ?_;rintro μ _ ⟨n, rfl, hn, rfl⟩;refine T.seq ?_;refine T.text rfl ?_;obtain ⟨c15, hc15⟩ : ∃ c : Bool, c = decide ((n : Int) < ((3 : Nat) : Int)) := ⟨_, rfl⟩;refine TO.val rfl rfl rfl (Val.lss hc15 rfl rfl) ?_;refine TO.nil ?_;refine T.seq ?_;cases c15 with
 | false =>
  refine T.condF (fun a ha => ha.ev (.tmp 15) _ rfl) ?_;refine T.exit ?_;refine T.seq ?_;refine T.text rfl ?_;refine TO.val rfl rfl rfl (Val.assign rfl) ?_;refine TO.nil ?_;refine T.ret ?_;exact ⟨rfl, _, rfl, ⟨0, rfl, .refl⟩⟩
 | true =>
  replace hc15 := of_decide_eq_true hc15.symm;refine T.condT (fun a ha => ha.ev (.tmp 15) _ rfl) ?_;refine T.skip ?_;refine T.seq ?_;refine T.block ?_;refine T.seq ?_;refine T.text rfl ?_;refine TO.iaddr_own (p := pr) rfl rfl rfl ⟨rfl, rfl⟩ hr rfl rfl (by omega) (fun idr ex hvr => ?_);obtain ⟨w, f, fn, caps, hcl, hf, ho, htf⟩ := rule_any (k := k) R hC hi hj n (by omega);refine TO.val rfl rfl rfl (Val.load_owns (p := pr) (c := [iv w, .func f [] caps]) hr hvr (q := 2) ⟨⟨_, rfl, rfl⟩, rfl, by decide⟩ rfl (by rw [Int.toNat_natCast]; exact hcl) rfl) ?_;refine TO.alloc (k := 2) (cells := [_, _]) rfl rfl rfl rfl rfl rfl rfl (fun b18 => ?_);refine TO.eff0 rfl rfl (Eff.store_row (p := 0) (cv := [_, _]) (cells' := [iv w, .func f [] caps]) rfl rfl rfl rfl rfl rfl rfl rfl rfl (by decide) rfl) ?_;rintro _ rfl;refine TO.things (hs' := .row b18 2 [iv w, .func f [] caps] :: hs) rfl ?_;refine TO.nil ?_;refine T.seq ?_;refine T.text rfl ?_;refine TO.val rfl rfl rfl (Val.faddr_ptr (fo := 1) rfl rfl rfl) ?_;refine TO.val rfl rfl rfl (Val.load_row (p := 0) rfl ⟨_, rfl, rfl⟩ rfl rfl rfl) ?_;refine TO.val rfl rfl rfl (Val.move rfl) ?_;refine TO.val rfl rfl rfl (Val.move rfl) ?_;obtain ⟨w', f', fn', caps', hcl', hf', ho', htf'⟩ := rule_any (k := k) R (hs := .row b18 2 [iv w, .func f [] caps] :: hs) (fun x hx => List.mem_cons_of_mem _ (hC x hx)) hi hj n (by omega)
  have he : [iv w, AV.func f [] caps] = [iv w', .func f' [] caps'] := hcl.symm.trans hcl';cases he;refine TO.callV rfl rfl rfl rfl rfl hf' ho' (RepF.conv htf') ?_;rintro _ _ ⟨c22, rfl, rfl⟩;refine TO.nil ?_;cases c22 with
  | true =>
   refine T.condT (fun a ha => ha.ev (.tmp 22) _ rfl) ?_;refine T.seq ?_;refine T.text rfl ?_;refine TO.val rfl rfl rfl (Val.faddr_ptr (fo := 0) rfl rfl rfl) ?_;refine TO.val rfl rfl rfl (Val.load_row (p := 0) rfl ⟨_, rfl, rfl⟩ rfl rfl rfl) ?_;refine TO.val rfl rfl rfl (Val.assign rfl) ?_;refine TO.nil ?_;refine T.ret ?_;exact ⟨rfl, _, rfl, ⟨w, rfl, .drop .refl⟩⟩
  | false =>
   refine T.condF (fun a ha => ha.ev (.tmp 22) _ rfl) ?_;refine T.skip ?_;refine T.text rfl ?_;refine TO.val rfl rfl rfl (Val.add rfl rfl (by omega)) ?_;refine TO.val rfl rfl rfl (Val.move rfl) ?_;refine TO.nil ?_;exact ⟨3 - (n + 1), st (n + 1), by omega, ⟨n + 1, rfl, by omega, rfl⟩, ⟨rfl, keep_cons rfl (keep_cons rfl (keep_cons rfl (keep_cons rfl (keep_cons rfl (keep_cons rfl (keep_cons rfl keep_nil)))))), List.sublist_cons_self _ _⟩⟩
end Go.Am.YtgbbhdoobhdadaaGreatDoor
end
section
namespace Go.Am.YtgbbhdoobhdadaaGreatDoor
open Go.Am Go.RowKit
set_option linter.unusedVariables false
set_option maxRecDepth 100000
theorem T.seqX {α : Type} {E : Env} {n : Nat} {rnd : Option Nat} {s : Sy} {I : α → Sy} {P : α → Prop} {Q : Exit → Sy → Prop} {x y : Code} (h1 : T E n rnd x s fun e s' => e = .normal ∧ ∃ z, P z ∧ Sub (I z) s') (h2 : ∀ z, P z → T E n rnd y (I z) Q) : T E n rnd (.seq x y) s Q :=
 .seq (h1.mono fun e s' ⟨he, z, hp, hs⟩ => by subst he; exact T.keep hs (h2 z hp))
def pc (t : Nat) : Nat := ((List.range 6).filter t.testBit).length
theorem bits6 : ∀ t : Fin 64, ∀ s : Fin 6, (decide (andI (shrI (t.val : Int) (s.val : Int)) 1 = 1) = t.val.testBit s.val) ∧
  (t.val.testBit s.val = false → orI (t.val : Int) (shlI 1 (s.val : Int)) = ((t.val + 2 ^ s.val : Nat) : Int) ∧ pc (t.val + 2 ^ s.val) = pc t.val + 1 ∧ t.val + 2 ^ s.val < 64) := by decide +kernel
theorem bits6n : ∀ n : Fin 7, ∀ t : Fin 64, t.val < 2 ^ n.val → pc t.val ≤ n.val ∧ ∀ s : Fin 6, s.val < n.val → t.val.testBit s.val = false → t.val + 2 ^ s.val < 2 ^ n.val := by decide +kernel
theorem pow6 {n : Nat} (h : n ≤ 6) : 2 ^ n ≤ 64 := Nat.pow_le_pow_right (n := 2) (by decide) h
structure GiveS (m nS : Nat) (light0 : Int) where
 light : Int
 vb : AV
 zb : Bool
 best : List Int
 own : List Int
 hown : own.length = m
 low : -1 ≤ light ∧ light ≤ 12000
 why : 0 ≤ light → 0 ≤ light0 ∨ m ≤ nS
def giveD (bl bb bo br bq bn bx : Nat) (vown vreq : AV) (zr : Bool) (reqs : List Int) (C : List Thing) : List Thing :=
 .row bo 1 [vown] :: .row br 1 [.ptr bx 0 53] :: .row bq 1 [vreq] :: .row bn 1 [.func 115 [] [.ptr bl 0 1, .ptr bo 0 1, .ptr bb 0 1, .ptr br 0 1, .ptr bq 0 1, .ptr bn 0 1]] :: ownL zr vreq encI reqs :: C
def giveH (bl bb : Nat) (vown : AV) (zo : Bool) (D : List Thing) {m nS : Nat} {light0 : Int} (g : GiveS m nS light0) : List Thing :=
 .row bl 1 [iv g.light] :: .row bb 1 [g.vb] :: ownL zo vown encI g.own :: ownL g.zb g.vb encI g.best :: D
def GiveS.up {m nS : Nat} {l0 : Int} {g : GiveS m nS l0} (h : GiveS m nS g.light) : GiveS m nS l0 :=
 ⟨h.light, h.vb, h.zb, h.best, h.own, h.hown, h.low, fun k => (h.why k).elim g.why .inr⟩
variable {k : Nat} {gb : GS qJ} {gr : GS qR} {gs : GS qQ} {gq : GS qK} {hs C : List Thing}
variable {bx b1 b8 b3 : Nat} {vr : AV} {L : List Int} (R : Room C gb gr gs gq bx b1 b8 b3 vr L)
include R
theorem tf_give1 {bl bb bo br bq bn : Nat} {vown vreq : AV} {zo zr : Bool} {reqs : List Int} (hr : ∀ r ∈ reqs, 0 ≤ r ∧ r < gq.l.length) (hm8 : reqs.length ≤ 8) :
  ∀ (d i t : Nat) (sum : Int) (l0 : Int) (g : GiveS reqs.length gs.l.length l0), reqs.length - i < d → i ≤ reqs.length → t < 2 ^ gs.l.length → pc t = i → 0 ≤ sum → sum ≤ 1200 * i →
  TF (EL k) 115 [iv i, iv t, iv sum, .ptr bl 0 1, .ptr bo 0 1, .ptr bb 0 1, .ptr br 0 1, .ptr bq 0 1, .ptr bn 0 1] (giveH bl bb vown zo (giveD bl bb bo br bq bn bx vown vreq zr reqs C) g)
   (RepF (fun _ : GiveS reqs.length gs.l.length g.light => .tuple []) fun h => giveH bl bb vown zo (giveD bl bb bo br bq bn bx vown vreq zr reqs C) h) := by
 have hp6 := pow6 R.s6;intro d
 induction d with
 | zero => intro i t sum l0 g h; omega
 | succ d ih =>
 intro i t sum l0 g hd hi ht hpc h0 hsum
 have hown := g.hown;refine TF.enter (fn := Go.Proofs.Tryz.f115) rfl rfl rfl rfl rfl ?_;refine T.seq ?_;refine T.seqX (α := Bool) (P := fun _ => True) (I := fun c => ⟨[], (19, bv c) :: [(0, iv i), (1, iv t), (2, iv sum), (3, .ptr bl 0 1), (4, .ptr bo 0 1), (5, .ptr bb 0 1), (6, .ptr br 0 1), (7, .ptr bq 0 1), (8, .ptr bn 0 1)], giveH bl bb vown zo (giveD bl bb bo br bq bn bx vown vreq zr reqs C) g⟩) ?_ ?_
 ·refine T.text rfl ?_;refine TO.val rfl rfl rfl (Val.load_row (p := 0) rfl ⟨_, rfl, rfl⟩ rfl rfl rfl) ?_;obtain ⟨c14, hc14⟩ : ∃ c : Bool, c = decide (g.light ≥ 0) := ⟨_, rfl⟩;refine TO.val rfl rfl rfl (Val.geq hc14 rfl rfl) ?_;refine TO.val rfl rfl rfl (Val.move rfl) ?_;cases c14 with
  | true =>
   refine TO.val rfl rfl rfl (Val.move rfl) ?_;refine TO.val rfl rfl rfl (Val.load_row (p := 0) rfl ⟨_, rfl, rfl⟩ rfl rfl rfl) ?_;obtain ⟨c18, hc18⟩ : ∃ c : Bool, c = decide (sum ≥ g.light) := ⟨_, rfl⟩;refine TO.val rfl rfl rfl (Val.geq hc18 rfl rfl) ?_;refine TO.val rfl rfl rfl (Val.pick rfl rfl rfl) ?_;refine TO.nil ?_;exact ⟨rfl, c18, trivial, rfl, (keep_cons rfl (keep_cons rfl (keep_cons rfl (keep_cons rfl (keep_cons rfl (keep_cons rfl (keep_cons rfl (keep_cons rfl (keep_cons rfl (keep_cons rfl keep_nil)))))))))), .refl _⟩
  | false =>
   refine TO.off rfl rfl rfl ?_;refine TO.off rfl rfl rfl ?_;refine TO.off rfl rfl rfl ?_;refine TO.val rfl rfl rfl (Val.pick rfl rfl rfl) ?_;refine TO.nil ?_;exact ⟨rfl, false, trivial, rfl, (keep_cons rfl (keep_cons rfl (keep_cons rfl (keep_cons rfl (keep_cons rfl (keep_cons rfl (keep_cons rfl (keep_cons rfl (keep_cons rfl (keep_cons rfl keep_nil)))))))))), .refl _⟩
 intro c19 _;cases c19 with
 | true =>
  refine T.condT (fun a ha => ha.ev (.tmp 19) _ rfl) ?_;refine T.ret ?_;exact ⟨rfl, _, rfl, ⟨⟨g.light, g.vb, g.zb, g.best, g.own, g.hown, g.low, .inl⟩, rfl, .refl⟩⟩
 | false =>
 refine T.condF (fun a ha => ha.ev (.tmp 19) _ rfl) ?_;refine T.skip ?_;refine T.seq ?_;refine T.seq ?_;refine T.text rfl ?_;refine TO.val rfl rfl rfl (Val.move rfl) ?_;refine TO.val rfl rfl rfl (Val.load_row (p := 4) rfl ⟨_, rfl, rfl⟩ rfl rfl rfl) ?_;refine TO.val rfl rfl rfl (Val.len_own (p := 2) rfl rfl rfl) ?_;obtain ⟨c23, hc23⟩ : ∃ c : Bool, c = decide ((i : Int) = (g.own.length : Int)) := ⟨_, rfl⟩;refine TO.val rfl rfl rfl (Val.eql hc23 rfl rfl) ?_;refine TO.nil ?_;cases c23 with
 | true =>
  replace hc23 := of_decide_eq_true hc23.symm;refine T.condT (fun a ha => ha.ev (.tmp 23) _ rfl) ?_;refine T.seq ?_;refine T.text rfl ?_;refine TO.val rfl rfl rfl (Val.load_row (p := 4) rfl ⟨_, rfl, rfl⟩ rfl rfl rfl) ?_;refine TO.val rfl rfl rfl (Val.len_own (p := 2) rfl rfl rfl) ?_;refine TO.makeInts (m := g.own.length) (b := 8) rfl rfl rfl ⟨rfl, rfl⟩ rfl rfl rfl rfl (by omega) (by omega) (fun v' => ?_);refine TO.fact (own_cellS (p := 0) rfl) (fun hcell => ?_);refine TO.eff0 rfl rfl (Eff.store_row (p := 2) (cv := [v']) (cells' := [v']) rfl rfl rfl rfl rfl hcell.1 rfl rfl (by simp [hcell.2]) (by decide) rfl) ?_;rintro _ rfl;refine TO.things (hs' := ownL false v' encI (List.replicate g.own.length 0) :: .row bl 1 [iv g.light] :: .row bb 1 [v'] :: ownL zo vown encI g.own :: ownL g.zb g.vb encI g.best :: giveD bl bb bo br bq bn bx vown vreq zr reqs C) rfl ?_;refine TO.nil ?_;refine T.seq ?_;refine T.text rfl ?_;refine TO.val rfl rfl rfl (Val.load_row (p := 2) rfl ⟨_, rfl, rfl⟩ rfl rfl rfl) ?_;refine TO.val rfl rfl rfl (Val.load_row (p := 5) rfl ⟨_, rfl, rfl⟩ rfl rfl rfl) ?_;refine TO.eff rfl rfl rfl (Eff.copy_own (en := encI) (p := 0) (q := 3) ⟨rfl, rfl⟩ (by decide) rfl rfl rfl rfl rfl (by simp [encI, oneCell]) (by simp)) ?_;rintro _ _ ⟨rfl, rfl⟩;refine TO.things (hs' := ownL false v' encI g.own :: .row bl 1 [iv g.light] :: .row bb 1 [v'] :: ownL zo vown encI g.own :: ownL g.zb g.vb encI g.best :: giveD bl bb bo br bq bn bx vown vreq zr reqs C) rfl ?_;refine TO.nil ?_;refine T.seq ?_;refine T.text rfl ?_;refine TO.val rfl rfl rfl (Val.move rfl) ?_;refine TO.eff0 rfl rfl (Eff.store_row (p := 1) (cv := [iv sum]) (cells' := [iv sum]) rfl rfl rfl rfl rfl rfl rfl rfl rfl (by decide) rfl) ?_;rintro _ rfl;refine TO.things (hs' := ownL false v' encI g.own :: .row bl 1 [iv sum] :: .row bb 1 [v'] :: ownL zo vown encI g.own :: ownL g.zb g.vb encI g.best :: giveD bl bb bo br bq bn bx vown vreq zr reqs C) rfl ?_;refine TO.nil ?_;refine T.ret ?_
  have hpn : pc t ≤ gs.l.length := (bits6n ⟨gs.l.length, by have := R.s6; omega⟩ ⟨t, by omega⟩ ht).1;refine ⟨rfl, _, rfl, ⟨⟨sum, v', false, g.own, g.own, g.hown, ⟨by omega, by omega⟩, fun _ => .inr (by omega)⟩, rfl, ?_⟩⟩;exact .pick (p := 1) rfl (.pick (p := 1) rfl (.pick (p := 1) rfl (.pick (p := 0) rfl (.drop .refl))))
 | false =>
  replace hc23 := of_decide_eq_false hc23.symm;refine T.condF (fun a ha => ha.ev (.tmp 23) _ rfl) ?_;refine T.skip ?_;obtain ⟨px, hx⟩ := List.getElem?_of_mem R.rowx
  have hx9 : (giveH bl bb vown zo (giveD bl bb bo br bq bn bx vown vreq zr reqs C) g)[px + 9]? = some (.row bx 6 (roomC gb gr gs gq L vr)) := hx;refine T.seq ?_;refine T.text rfl ?_;refine TO.val rfl rfl rfl (Val.load_row (p := 5) rfl ⟨_, rfl, rfl⟩ rfl rfl rfl) ?_;refine TO.val rfl rfl rfl (Val.nil_ptr rfl) ?_;refine TO.val rfl rfl rfl (Val.faddr_ptr (fo := 0) rfl rfl rfl) ?_;refine TO.val rfl rfl rfl (Val.faddr_ptr (fo := 2) rfl rfl rfl) ?_;refine TO.val rfl rfl rfl (Val.load_row (p := px + 9) hx9 ⟨_, rfl, rfl⟩ rfl (roomC_len R.L48) rfl) ?_;refine TO.val rfl rfl rfl (Val.len_gs (gs := gs) rfl rfl) ?_;refine TO.val rfl rfl rfl (Val.move rfl) ?_;refine TO.nil ?_;refine T.block ?_
  let st : Nat → GiveS reqs.length gs.l.length g.light → Sy := fun n h => ⟨[], [(36, iv gs.l.length), (37, iv n), (0, iv i), (1, iv t), (2, iv sum), (3, .ptr bl 0 1), (4, .ptr bo 0 1), (5, .ptr bb 0 1), (6, .ptr br 0 1), (7, .ptr bq 0 1), (8, .ptr bn 0 1)], giveH bl bb vown zo (giveD bl bb bo br bq bn bx vown vreq zr reqs C) h⟩
  refine T.loop (fun μ s => ∃ (n : Nat) (h : GiveS reqs.length gs.l.length g.light), μ = gs.l.length - n ∧ n ≤ gs.l.length ∧ s = st n h) (k := gs.l.length) (s' := st 0 ⟨g.light, g.vb, g.zb, g.best, g.own, g.hown, g.low, .inl⟩) ⟨0, _, rfl, Nat.zero_le _, rfl⟩ ⟨rfl, (keep_cons rfl (keep_cons rfl (keep_cons rfl (keep_cons rfl (keep_cons rfl (keep_cons rfl (keep_cons rfl (keep_cons rfl (keep_cons rfl (keep_cons rfl (keep_cons rfl keep_nil))))))))))), .refl _⟩ ?_;rintro μ _ ⟨n, h, rfl, hn, rfl⟩
  have hown' := h.hown
  have hs6 := R.s6
  have hq8 := R.q8;refine T.seq ?_;refine T.text rfl ?_;obtain ⟨c38, hc38⟩ : ∃ c : Bool, c = decide ((n : Int) < (gs.l.length : Int)) := ⟨_, rfl⟩;refine TO.val rfl rfl rfl (Val.lss hc38 rfl rfl) ?_;refine TO.nil ?_;refine T.seq ?_;cases c38 with
  | false =>
   refine T.condF (fun a ha => ha.ev (.tmp 38) _ rfl) ?_;refine T.exit ?_;exact ⟨rfl, _, rfl, ⟨h, rfl, .refl⟩⟩
  | true =>
   replace hc38 := of_decide_eq_true hc38.symm;refine T.condT (fun a ha => ha.ev (.tmp 38) _ rfl) ?_;refine T.skip ?_;refine T.seq ?_;refine T.block ?_;refine T.seq ?_;refine T.text rfl ?_;refine TO.val rfl rfl rfl (Val.move rfl) ?_;refine TO.val rfl rfl rfl (Val.assign rfl) ?_;refine TO.nil ?_;obtain ⟨r, hri⟩ : ∃ r, reqs[i]? = some r := ⟨_, List.getElem?_eq_getElem (by omega)⟩
   have hrr := hr r (List.mem_of_getElem? hri)
   have hb := bits6 ⟨t, by omega⟩ ⟨n, by omega⟩;simp only at hb;refine T.seq ?_;refine T.seqX (α := Bool) (P := fun c => c = false → t.testBit n = false) (I := fun c => ⟨[], (54, bv c) :: (12, iv n) :: (st n h).sl, (st n h).hs⟩) ?_ ?_
   ·refine T.drawE (l1 := [0, 1, 2, 3, 4, 5, 6, 7, 8, 9, 10, 11]) (l2 := [12, 13, 14]) (by kernel_rfl) (by kernel_rfl) ?_;refine TD1.light rfl rfl rfl rfl (Val.move rfl) ?_;refine TD1.light rfl rfl rfl rfl (Val.move rfl) ?_;refine TD1.light rfl rfl rfl rfl (Val.shr (k := .i64) rfl rfl (by omega)) ?_;refine TD1.light rfl rfl rfl rfl (Val.and rfl rfl) ?_;obtain ⟨c44, hc44⟩ : ∃ c : Bool, c = decide (andI (shrI (t : Int) (n : Int)) 1 = 1) := ⟨_, rfl⟩;refine TD1.light rfl rfl rfl rfl (Val.eql hc44 rfl rfl) ?_;refine TD1.light rfl rfl rfl rfl (Val.move rfl) ?_;cases c44 with
    | true =>
     refine TD1.off rfl rfl rfl ?_;refine TD1.off rfl rfl rfl ?_;refine TD1.off rfl rfl rfl ?_;refine TD1.off rfl rfl rfl ?_;refine TD1.off rfl rfl rfl ?_;refine TD1.off rfl rfl rfl ?_;refine TD1.over (fun v => sameC_refl v) all_nil ?_;refine TD2.off rfl rfl rfl ?_;refine TD2.off rfl rfl rfl ?_;refine TD2.light rfl rfl rfl rfl (Val.pick rfl rfl rfl) ?_;refine TD2.nil ?_;exact ⟨rfl, true, by simp, rfl, (keep_cons rfl (keep_cons rfl (keep_cons rfl (keep_cons rfl (keep_cons rfl (keep_cons rfl (keep_cons rfl (keep_cons rfl (keep_cons rfl (keep_cons rfl (keep_cons rfl (keep_cons rfl (keep_cons rfl keep_nil))))))))))))), .refl _⟩
    | false =>
     refine TD1.read rfl rfl rfl rfl (Val.load_row (p := 5) rfl ⟨_, rfl, rfl⟩ rfl rfl rfl) ?_;refine TD1.read rfl rfl rfl rfl (Val.load_row (p := 6) rfl ⟨_, rfl, rfl⟩ rfl rfl rfl) ?_;refine TD1.light rfl rfl rfl rfl (Val.move rfl) ?_;refine TD1.fact (rdl_at (k := (i : Int)) (a := r) (Rdl.own (C := giveH bl bb vown zo (giveD bl bb bo br bq bn bx vown vreq zr reqs C) h) (en := encI) (p := 8) rfl) (fun _ h => h) (by omega) (by simpa using hri)) (fun hp => ?_);obtain ⟨pa, hpa, hva⟩ := hp;refine TD1.light rfl rfl rfl rfl (hva ⟨rfl, rfl⟩ rfl rfl) ?_;refine TD1.read rfl rfl rfl rfl (Val.load_e hpa (fun _ h => h) ⟨_, rfl, rfl⟩ rfl rfl) ?_;refine TD1.light rfl rfl rfl rfl (Val.move rfl) ?_;refine TD1.over (fun v => sameC_refl v) (all_cons (⟨_, rfl, Val.load_e hpa (fun _ h => h) ⟨_, rfl, rfl⟩ rfl rfl⟩) (all_cons (⟨_, rfl, Val.load_row (p := 6) rfl ⟨_, rfl, rfl⟩ rfl rfl rfl⟩) (all_cons (⟨_, rfl, Val.load_row (p := 5) rfl ⟨_, rfl, rfl⟩ rfl rfl rfl⟩) all_nil))) ?_;refine TD2.heavy (fun v => sameC_refl v) rfl (by decide) rfl rfl (OpS.callV rfl rfl rfl rfl (orcN rfl) (RepF.conv (tf_why R (hs := (st n h).hs) (memS (memS (memS (memS (memS (memS (memS (memS (memS mem0))))))))) hrr (by omega)))) ?_;rintro _ _ ⟨w, rfl, rfl⟩;refine ⟨(all_cons (.inr ⟨_, rfl, Val.load_e hpa (fun _ h => h) ⟨_, rfl, rfl⟩ rfl rfl⟩) (all_cons (.inr ⟨_, rfl, Val.load_row (p := 6) rfl ⟨_, rfl, rfl⟩ rfl rfl rfl⟩) (all_cons (.inr ⟨_, rfl, Val.load_row (p := 5) rfl ⟨_, rfl, rfl⟩ rfl rfl rfl⟩) all_nil))), all_nil, ?_⟩;obtain ⟨c53, hc53⟩ : ∃ c : Bool, c = decide (w ≠ 0) := ⟨_, rfl⟩;refine TD2.light rfl rfl rfl rfl (Val.neq hc53 rfl rfl) ?_;refine TD2.light rfl rfl rfl rfl (Val.pick rfl rfl rfl) ?_;refine TD2.nil ?_;exact ⟨rfl, c53, fun _ => by rw [← hb.1]; exact hc44.symm, rfl, (keep_cons rfl (keep_cons rfl (keep_cons rfl (keep_cons rfl (keep_cons rfl (keep_cons rfl (keep_cons rfl (keep_cons rfl (keep_cons rfl (keep_cons rfl (keep_cons rfl (keep_cons rfl (keep_cons rfl keep_nil))))))))))))), .refl _⟩
   intro c54 h54
   have hround : ∀ (σ : Sl) (h' : GiveS reqs.length gs.l.length g.light), True := fun _ _ => trivial
   cases c54 with
   | true =>
    refine T.condT (fun a ha => ha.ev (.tmp 54) _ rfl) ?_;refine T.exit ?_;refine T.text rfl ?_;refine TO.val rfl rfl rfl (Val.add rfl rfl (by omega)) ?_;refine TO.val rfl rfl rfl (Val.move rfl) ?_;refine TO.nil ?_;exact ⟨gs.l.length - (n + 1), st (n + 1) h, by omega, ⟨n + 1, h, rfl, by omega, rfl⟩, ⟨rfl, (keep_cons rfl (keep_cons rfl (keep_cons rfl (keep_cons rfl (keep_cons rfl (keep_cons rfl (keep_cons rfl (keep_cons rfl (keep_cons rfl (keep_cons rfl (keep_cons rfl keep_nil))))))))))), .refl _⟩⟩
   | false =>
    have hbit := h54 rfl;obtain ⟨hor, hpc1, h64⟩ := hb.2 hbit;refine T.condF (fun a ha => ha.ev (.tmp 54) _ rfl) ?_;refine T.skip ?_;refine T.seq ?_;refine T.text rfl ?_;refine TO.val rfl rfl rfl (Val.load_row (p := 4) rfl ⟨_, rfl, rfl⟩ rfl rfl rfl) ?_;refine TO.val rfl rfl rfl (Val.move rfl) ?_;refine TO.val rfl rfl rfl (Val.move rfl) ?_;refine TO.iaddr_ownL (en := encI) (p := 2) (l := h.own) rfl rfl rfl ⟨rfl, rfl⟩ rfl rfl rfl (by omega) (fun ido a hat ha => ?_);refine TO.store_ownL (en := encI) (p := 2) (l := h.own) (n : Int) rfl rfl rfl hat rfl (by decide) rfl rfl rfl rfl (by omega) ?_
    have hlow := h.low
    let h1 : GiveS reqs.length gs.l.length g.light := ⟨h.light, h.vb, h.zb, h.best, h.own.set (i : Int).toNat n, by rw [List.length_set]; exact h.hown, h.low, h.why⟩
    refine TO.things (hs' := giveH bl bb vown zo (giveD bl bb bo br bq bn bx vown vreq zr reqs C) h1) rfl ?_;refine TO.nil ?_;obtain ⟨x, hxL, hxe⟩ := roomC_light (gb := gb) (gr := gr) (gs := gs) (gq := gq) (vr := vr) R.L48 (i := r) (j := (n : Int)) (by omega) (by omega)
    have hx12 := R.Lok x hxL
    have hx9 : (giveH bl bb vown zo (giveD bl bb bo br bq bn bx vown vreq zr reqs C) h1)[px + 9]? = some (.row bx 6 (roomC gb gr gs gq L vr)) := hx
    have hcall := ih (i + 1) (t + 2 ^ n) (sum + x) g.light h1 (by omega) (by omega) ((bits6n ⟨gs.l.length, by omega⟩ ⟨t, by omega⟩ ht).2 ⟨n, by omega⟩ (by simp only; omega) hbit) (by rw [hpc1, hpc]) (by omega) (by push_cast; omega);rw [show (((i + 1 : Nat) : Int)) = (i : Int) + 1 by push_cast; rfl, ← hor] at hcall;refine T.drawE (l1 := [0, 1, 2, 3, 4, 5, 6, 7, 8, 9, 10, 11, 12, 13, 14, 15, 16, 17, 18, 19]) (l2 := [20]) (by kernel_rfl) (by kernel_rfl) ?_;refine TD1.read rfl rfl rfl rfl (Val.load_row (p := 7) rfl ⟨_, rfl, rfl⟩ rfl rfl rfl) ?_;refine TD1.light rfl rfl rfl rfl (Val.move rfl) ?_;refine TD1.light rfl rfl rfl rfl (Val.add rfl rfl (by omega)) ?_;refine TD1.light rfl rfl rfl rfl (Val.move rfl) ?_;refine TD1.light rfl rfl rfl rfl (Val.move rfl) ?_;refine TD1.light rfl rfl rfl rfl (Val.shl (k := .i64) rfl rfl (bit_ok (by omega))) ?_;refine TD1.light rfl rfl rfl rfl (Val.or rfl rfl) ?_;refine TD1.light rfl rfl rfl rfl (Val.move rfl) ?_;refine TD1.read rfl rfl rfl rfl (Val.load_row (p := 5) rfl ⟨_, rfl, rfl⟩ rfl rfl rfl) ?_;refine TD1.read rfl rfl rfl rfl (Val.load_row (p := 6) rfl ⟨_, rfl, rfl⟩ rfl rfl rfl) ?_;refine TD1.light rfl rfl rfl rfl (Val.move rfl) ?_;refine TD1.fact (rdl_at (k := (i : Int)) (a := r) (Rdl.own (C := giveH bl bb vown zo (giveD bl bb bo br bq bn bx vown vreq zr reqs C) h1) (en := encI) (p := 8) rfl) (fun _ h => h) (by omega) (by simpa using hri)) (fun hp => ?_);obtain ⟨pa, hpa, hva⟩ := hp;refine TD1.light rfl rfl rfl rfl (hva ⟨rfl, rfl⟩ rfl rfl) ?_;refine TD1.read rfl rfl rfl rfl (Val.load_e hpa (fun _ h => h) ⟨_, rfl, rfl⟩ rfl rfl) ?_;refine TD1.light rfl rfl rfl rfl (Val.move rfl) ?_;refine TD1.light rfl rfl rfl rfl (Val.nil_ptr rfl) ?_;refine TD1.light rfl rfl rfl rfl (Val.faddr_ptr (fo := 4) rfl rfl rfl) ?_;refine TD1.light rfl rfl rfl rfl (Val.iaddr_array (m := 8) (u := 6) rfl rfl rfl rfl (by omega)) ?_;refine TD1.light rfl rfl rfl rfl (Val.iaddr_array (m := 6) (u := 1) rfl rfl rfl rfl (by omega)) ?_;refine TD1.read rfl rfl rfl rfl (Val.load_row (p := px + 9) hx9 ⟨_, rfl, rfl⟩ rfl (roomC_len R.L48) hxe) ?_;refine TD1.light rfl rfl rfl rfl (Val.add rfl rfl (by omega)) ?_;refine TD1.over (fun v => sameC_refl v) (all_cons (⟨_, rfl, Val.load_row (p := px + 9) hx9 ⟨_, rfl, rfl⟩ rfl (roomC_len R.L48) hxe⟩) (all_cons (⟨_, rfl, Val.load_e hpa (fun _ h => h) ⟨_, rfl, rfl⟩ rfl rfl⟩) (all_cons (⟨_, rfl, Val.load_row (p := 6) rfl ⟨_, rfl, rfl⟩ rfl rfl rfl⟩) (all_cons (⟨_, rfl, Val.load_row (p := 5) rfl ⟨_, rfl, rfl⟩ rfl rfl rfl⟩) (all_cons (⟨_, rfl, Val.load_row (p := 7) rfl ⟨_, rfl, rfl⟩ rfl rfl rfl⟩) all_nil))))) ?_;refine TD2.heavy (fun v => sameC_refl v) rfl (by decide) rfl rfl (OpS.callV rfl rfl rfl rfl (orcN rfl) (RepF.conv hcall)) ?_;rintro _ _ ⟨h2, rfl, rfl⟩;refine ⟨(all_cons (.inl (by kernel_rfl)) (all_cons (.inl (by kernel_rfl)) (all_cons (.inl (by kernel_rfl)) (all_cons (.inl (by kernel_rfl)) (all_cons (.inl (by kernel_rfl)) all_nil))))), all_nil, ?_⟩;refine TD2.nil ?_;refine T.text rfl ?_;refine TO.val rfl rfl rfl (Val.add rfl rfl (by omega)) ?_
    refine TO.val rfl rfl rfl (Val.move rfl) ?_;refine TO.nil ?_;exact ⟨gs.l.length - (n + 1), st (n + 1) (GiveS.up (g := h1) h2), by omega, ⟨n + 1, _, rfl, by omega, rfl⟩, ⟨rfl, (keep_cons rfl (keep_cons rfl (keep_cons rfl (keep_cons rfl (keep_cons rfl (keep_cons rfl (keep_cons rfl (keep_cons rfl (keep_cons rfl (keep_cons rfl (keep_cons rfl keep_nil))))))))))), .refl _⟩⟩
end Go.Am.YtgbbhdoobhdadaaGreatDoor
end
section
namespace Go.Am
open Go.RowKit
theorem FieldEq.bool {P : Program} {f : Field} {xs ys : Array Value} {a b : Bool} (h1 : f.name ≠ "_") (h2 : pureVal P (underlying f.type) = some .bool) (h3 : pureVal P (part f.type xs f.offset) = some (.bool a))
  (h4 : pureVal P (part f.type ys f.offset) = some (.bool b)) : FieldEq P f xs ys (a == b) := ⟨h1, _, _, h3, h4, pure_eqBool h2⟩
theorem pure_eqF2 {P : Program} {t : Nat} {f0 f1 : Field} {xs ys : Array Value} {c0 c1 : Bool} (hu : pureVal P (underlying t) = some (.struct #[f0, f1])) (hs : P.stoodInHeld t = false)
  (h0 : FieldEq P f0 xs ys c0) (h1 : FieldEq P f1 xs ys c1) : pureVal P (Op.equal t (.agg xs) (.agg ys)) = some (c0 && c1) := by
 unfold Op.equal
 have e : Op.maxDepth = 9998 + 1 + 1 := rfl;rw [e, Op.equalIn, pv_bind, hu];obtain ⟨n0, x0, y0, p0, r0, z0⟩ := h0;obtain ⟨n1, x1, y1, p1, r1, z1⟩ := h1;simp only [Option.bind_some, pv_bind, pv_program, hs];cases c0 <;> cases c1 <;> simp [pv_bind, n0, p0, r0, z0, n1, p1, r1, z1, pv_pure]
def KBI (k : Value) : Prop := ∃ (a : Bool) (b : Int), k = .agg #[.bool a, .int .i64 b]
theorem findAsking_bi {P : Program} {kt : TypeId} {a : Bool} {b : Int} (heq : ∀ (c : Bool) (d : Int), pureVal P (Op.equal kt (.agg #[.bool a, .int .i64 b]) (.agg #[.bool c, .int .i64 d])) = some (a == c && b == d)) : ∀ (es : List MapEntry) (i : Nat), (∀ e ∈ es, KBI e.key) →
  pureVal P (Instr.findAsking kt (.agg #[.bool a, .int .i64 b]) es i) = some (findIx (.agg #[.bool a, .int .i64 b]) es i) := by
 intro es
 induction es with
 | nil => intro i _; rfl
 | cons e es ih =>
  intro i h;obtain ⟨c, d, hm⟩ := h e (by simp)
  have ih' := ih (i + 1) fun e he => h e (by simp [he])
  unfold Instr.findAsking findIx;rw [hm, pv_bind, heq c d, Option.bind_some]
  by_cases hcd : a = c ∧ b = d
  ·obtain ⟨rfl, rfl⟩ := hcd;simp [pv_pure]
  ·have h1 : (a == c && b == d) = false := by
    cases hb : (a == c && b == d) with
    | false => rfl
    | true => simp at hb; exact absurd hb hcd
   have h2 : ¬ (Value.agg #[.bool c, .int .i64 d] = Value.agg #[.bool a, .int .i64 b]) := fun e => by
    simp at e;exact hcd ⟨e.1.symm, e.2.symm⟩
   rw [h1, if_neg h2];exact ih'
theorem keyBI {P : Program} {kt : TypeId} {fs : Array Field} (hu : pureVal P (underlying kt) = some (.struct fs)) (hc : ∀ (a : Bool) (b : Int) e, pureVal P (Instr.checkKey e 10000 kt (.agg #[.bool a, .int .i64 b])) = some ())
  (heq : ∀ (a : Bool) (b : Int) (c : Bool) (d : Int), pureVal P (Op.equal kt (.agg #[.bool a, .int .i64 b]) (.agg #[.bool c, .int .i64 d])) = some (a == c && b == d)) : KeyG P kt KBI := by
 rintro _ ⟨a, b, rfl⟩;refine ⟨fun e => hc a b e, by rw [show (10000 : Nat) = 9999 + 1 from rfl]; simp [Instr.sameBits], fun es hes => ?_⟩;unfold Instr.findKey;rw [pv_bind, hu, Option.bind_some];cases es with
 | nil => rfl
 | cons e es =>
  obtain ⟨c, d, hm⟩ := hes e (by simp)
  have h1 : Instr.findNow (.struct fs) (.agg #[.bool a, .int .i64 b]) (e :: es) 0 = none := by
   unfold Instr.findNow;rw [hm];rfl
  rw [h1];exact findAsking_bi (heq a b) _ 0 hes
end Go.Am
end
section
namespace Go.Am.YtgbbhdoobhdadaaGreatDoor
open Go.Am Go.RowKit
set_option linter.unusedVariables false
set_option maxRecDepth 100000
theorem hu_t182 : pureVal Go.Proofs.Tryz.prog (underlying 182) = some Go.Proofs.Tryz.t181.desc := by kernel_rfl
theorem eq_t182 (a : Bool) (b : Int) (c : Bool) (d : Int) : pureVal Go.Proofs.Tryz.prog (Op.equal 182 (.agg #[.bool a, .int .i64 b]) (.agg #[.bool c, .int .i64 d])) = some (a == c && b == d) := by
 refine pure_eqF2 hu_t182 ?_ (.bool (by decide) (by kernel_rfl) (by kernel_rfl) (by kernel_rfl)) (.int (by decide) ⟨.i64, by kernel_rfl⟩ (by kernel_rfl) (by kernel_rfl))
 all_goals kernel_rfl
theorem key_t182 {k : Nat} : KeyG (EL k).P 182 KBI := keyBI (P := Go.Proofs.Tryz.prog) hu_t182 (fun a b e => by kernel_rfl) eq_t182
theorem cput_self (f : Value → Int) (v : Value) (m : Int) : cput f v m v = m := by unfold cput; rw [if_pos rfl]
theorem cput_ne {f : Value → Int} {v w : Value} {m : Int} (h : w ≠ v) : cput f v m w = f w := by unfold cput; rw [if_neg h]
theorem cput_up (f : Value → Int) (v w : Value) : f w ≤ cput f v (f v + 1) w ∧ cput f v (f v + 1) w ≤ f w + 1 := by
 by_cases h : w = v
 ·subst h; rw [cput_self]; omega
 ·rw [cput_ne h]; omega
def bookOf (l : List qY) (r : Int) : Option Int := (l[r.toNat]?).map (·.book)
def Apart (l : List qY) (reqs : List Int) : Prop := (reqs.map (bookOf l)).Nodup
abbrev keyB (b : Int) : Value := .agg #[.bool true, .int .i64 b]
theorem eq_claims {k : Nat} (a b : Int) : abin (EL k) .eql 182 (.tmp 43) (.tmp 44) (.agg [bv false, iv a]) (.agg [bv true, iv b]) = .ok (bv false) := by
 refine abin_agg (A := .agg #[.bool false, .int .i64 a]) (B := .agg #[.bool true, .int .i64 b]) (.inl rfl) rfl rfl ?_ (bin_eql (b := false) (eq_t182 false a true b))
 kernel_rfl
structure Counted (l : List qY) (reqs : List Int) (n : Nat) (f : Value → Int) : Prop where
 low : ∀ v, 0 ≤ f v ∧ f v ≤ 2 * n
 met : ∀ r ∈ reqs.take n, ∀ b, bookOf l r = some b → 1 ≤ f (keyB b)
 apart : Apart l (reqs.take n)
theorem Counted.step {l : List qY} {reqs : List Int} {n : Nat} {f : Value → Int} (h : Counted l reqs n f) {r b : Int} (hr : reqs[n]? = some r) (hb : bookOf l r = some b) {f1 f2 : Value → Int} {ka : Value}
  (h1 : f1 = cput f ka (f ka + 1)) (h2 : f2 = cput f1 (keyB b) (f1 (keyB b) + 1)) (h3 : ¬ f2 (keyB b) > 1) : Counted l reqs (n + 1) f2 := by
 have hn : n < reqs.length := (List.getElem?_eq_some_iff.1 hr).1
 have ht : reqs.take (n + 1) = reqs.take n ++ [r] := by rw [List.take_add_one, hr]; rfl
 subst h1
 have u1 := fun v => cput_up f ka v
 generalize cput f ka (f ka + 1) = f1 at *;subst h2
 have u2 := fun v => cput_up f1 (keyB b) v
 rw [cput_self] at h3
 have u1b := u1 (keyB b)
 have hlow := h.low;refine ⟨fun v => ?_, fun q hq c hc => ?_, ?_⟩
 ·have := u1 v; have := u2 v; have := hlow v; push_cast; omega
 ·rw [ht, List.mem_append] at hq
  rcases hq with hq | hq
  ·have := h.met q hq c hc; have := u1 (keyB c); have := u2 (keyB c); omega
  ·simp at hq;subst hq;rw [hb] at hc;cases hc;rw [cput_self]
   have := hlow (keyB b);omega
 ·unfold Apart;rw [ht, List.map_append, List.nodup_append];refine ⟨h.apart, by simp, fun x hx y hy e => ?_⟩;simp at hy;subst hy;subst e;obtain ⟨q, hq, hq2⟩ := List.mem_map.1 hx;rw [hb] at hq2
  have := h.met q hq b hq2;omega
variable {k : Nat} {gb : GS qJ} {gr : GS qR} {gs : GS qQ} {gq : GS qK} {hs C : List Thing}
variable {bx b1 b8 b3 : Nat} {vr : AV} {L : List Int} (R : Room C gb gr gs gq bx b1 b8 b3 vr L)
include R
theorem tf_apart (hC : ∀ x ∈ C, x ∈ hs) {vreq : AV} {zr : Bool} {reqs : List Int} {pq : Nat} (hpq : hs[pq]? = some (ownL zr vreq encI reqs)) (hr : ∀ r ∈ reqs, 0 ≤ r ∧ r < gq.l.length) (hm8 : reqs.length ≤ 8) :
  TF (EL k) 82 [.ptr bx 0 53, vreq] hs (RepF (fun b : { b : Bool // b = true → Apart gq.l reqs } => bv b.1) fun _ => hs) := by
 obtain ⟨px, hx⟩ := List.getElem?_of_mem (hC _ R.rowx);refine TF.enter (fn := Go.Proofs.Tryz.f82) rfl rfl rfl rfl rfl ?_;refine T.seq ?_;refine T.text rfl ?_;refine TO.val rfl rfl rfl (Val.assign rfl) ?_;refine TO.nil ?_;refine T.seq ?_;refine T.text rfl ?_;refine TO.makeMap KBI rfl rfl rfl (fun m => ?_);refine TO.val rfl rfl rfl (Val.assign rfl) ?_;refine TO.nil ?_;refine T.seq ?_;refine T.seq ?_;refine T.text rfl ?_;refine TO.val rfl rfl rfl (Val.move rfl) ?_;refine TO.val rfl rfl rfl (Val.len_own (p := pq + 1) hpq rfl rfl) ?_;refine TO.val rfl rfl rfl (Val.move rfl) ?_;refine TO.nil ?_;refine T.block ?_
 let st : Nat → (Value → Int) → Sy := fun n f => ⟨[], [(0, .ptr bx 0 53), (5, .map m), (11, vreq), (12, iv reqs.length), (13, iv n)], .cnt m KBI f [] :: hs⟩
 refine T.loop (fun μ s => ∃ (n : Nat) (f : Value → Int), μ = reqs.length - n ∧ n ≤ reqs.length ∧ Counted gq.l reqs n f ∧ s = st n f) (k := reqs.length) (s' := st 0 fun _ => 0) ⟨0, _, rfl, Nat.zero_le _, ⟨by simp, by simp, by simp [Apart]⟩, rfl⟩ ⟨rfl, (keep_cons rfl (keep_cons rfl (keep_cons rfl (keep_cons rfl (keep_cons rfl keep_nil))))), .refl _⟩ ?_;rintro μ _ ⟨n, f, rfl, hn, hF, rfl⟩;refine T.seq ?_;refine T.text rfl ?_;obtain ⟨c14, hc14⟩ : ∃ c : Bool, c = decide ((n : Int) < (reqs.length : Int)) := ⟨_, rfl⟩;refine TO.val rfl rfl rfl (Val.lss hc14 rfl rfl) ?_;refine TO.nil ?_;refine T.seq ?_;cases c14 with
 | false =>
  replace hc14 := of_decide_eq_false hc14.symm;refine T.condF (fun a ha => ha.ev (.tmp 14) _ rfl) ?_;refine T.exit ?_;refine T.seq ?_;refine T.text rfl ?_;refine TO.val rfl rfl rfl (Val.assign rfl) ?_;refine TO.nil ?_;refine T.ret ?_
  have h := hF.apart;rw [List.take_of_length_le (by omega)] at h;exact ⟨rfl, _, rfl, ⟨⟨true, fun _ => h⟩, rfl, .drop .refl⟩⟩
 | true =>
  replace hc14 := of_decide_eq_true hc14.symm;refine T.condT (fun a ha => ha.ev (.tmp 14) _ rfl) ?_;refine T.skip ?_;refine T.seq ?_;refine T.block ?_;refine T.seq ?_;refine T.text rfl ?_;refine TO.iaddr_ownL (en := encI) (p := pq + 1) (l := reqs) rfl rfl rfl ⟨rfl, rfl⟩ hpq rfl rfl (by omega) (fun ido r hat hri => ?_);refine TO.val rfl rfl rfl (Val.load_ownL (en := encI) (j := 0) (p := pq + 1) hpq hat ⟨_, rfl, rfl⟩ rfl hri rfl) ?_;refine TO.val rfl rfl rfl (Val.assign rfl) ?_;refine TO.nil ?_
  have hrr := hr r (List.mem_of_getElem? hri);refine T.seq ?_;refine T.drawE (l1 := [0, 1, 2, 3, 4, 5, 6, 7, 8, 9, 10, 11, 12, 13, 14, 15, 16, 17, 18, 19, 20, 21]) (l2 := [22, 23]) (by kernel_rfl) (by kernel_rfl) ?_;refine TD1.light rfl rfl rfl rfl (Val.move rfl) ?_;refine TD1.light rfl rfl rfl rfl (Val.nil_ptr rfl) ?_;refine TD1.light rfl rfl rfl rfl (Val.faddr_ptr (fo := 0) rfl rfl rfl) ?_;refine TD1.light rfl rfl rfl rfl (Val.faddr_ptr (fo := 3) rfl rfl rfl) ?_;refine TD1.read rfl rfl rfl rfl (Val.load_row (p := px + 1) hx ⟨_, rfl, rfl⟩ rfl (roomC_len R.L48) rfl) ?_;refine TD1.light rfl rfl rfl rfl (Val.move rfl) ?_;refine TD1.index_gs (gs := gq) rfl rfl rfl ⟨rfl, rfl⟩ rfl rfl hrr fun q rest hqi => ?_
  refine TD1.light rfl rfl rfl rfl (Val.faddr_tree (fo := 0) rfl rfl rfl rfl) ?_;refine TD1.read rfl rfl rfl rfl (Val.load_tree ⟨_, rfl, rfl⟩ rfl) ?_;refine TD1.light rfl rfl rfl rfl (Val.buildC (cs := [bv false, iv q.reader]) (vs := [(_, _)]) (ws := [(_, [_])]) rfl rfl (CellsL.cons rfl CellsL.nil) rfl) ?_;refine TD1.light rfl rfl rfl rfl (Val.move rfl) ?_;refine TD1.light rfl rfl rfl rfl (Val.nil_ptr rfl) ?_;refine TD1.light rfl rfl rfl rfl (Val.faddr_ptr (fo := 0) rfl rfl rfl) ?_;refine TD1.light rfl rfl rfl rfl (Val.faddr_ptr (fo := 3) rfl rfl rfl) ?_;refine TD1.read rfl rfl rfl rfl (Val.load_row (p := px + 1) hx ⟨_, rfl, rfl⟩ rfl (roomC_len R.L48) rfl) ?_;refine TD1.light rfl rfl rfl rfl (Val.move rfl) ?_;refine TD1.index_gs (gs := gq) rfl rfl rfl ⟨rfl, rfl⟩ rfl rfl hrr fun q2 rest2 hqi2 => ?_
  cases hqi.symm.trans hqi2;refine TD1.light rfl rfl rfl rfl (Val.faddr_tree (fo := 1) rfl rfl rfl rfl) ?_;refine TD1.read rfl rfl rfl rfl (Val.load_tree ⟨_, rfl, rfl⟩ rfl) ?_;refine TD1.light rfl rfl rfl rfl (Val.buildC (cs := [bv true, iv q.book]) (vs := [(_, _), (_, _)]) (ws := [(_, [_]), (_, [_])]) rfl rfl (CellsL.cons rfl (CellsL.cons rfl CellsL.nil)) rfl) ?_;refine TD1.floatN rfl rfl rfl rfl (New.alloc (k := 2) (cells := [bv false, iv 0]) rfl rfl rfl rfl) (fun ba => ?_);refine TD1.floatN rfl rfl rfl rfl (New.alloc (k := 2) (cells := [bv false, iv 0]) rfl rfl rfl rfl) (fun bb => ?_);refine TD1.over (fun v => sameC_refl v) (all_cons (⟨_, rfl, Val.load_tree ⟨_, rfl, rfl⟩ rfl⟩) (all_cons (⟨_, rfl, Val.load_row (p := px + 3) hx ⟨_, rfl, rfl⟩ rfl (roomC_len R.L48) rfl⟩) (all_cons (⟨_, rfl, Val.load_tree ⟨_, rfl, rfl⟩ rfl⟩) (all_cons (⟨_, rfl, Val.load_row (p := px + 3) hx ⟨_, rfl, rfl⟩ rfl (roomC_len R.L48) rfl⟩) all_nil)))) ?_;refine TD2.less (Less.floatRow (p := 1) rfl) ?_;refine TD2.things (hs' := .obj bb (.row [bv false, iv 0] 2 0) :: .row ba 2 [bv false, iv 0] :: .cnt m KBI f [] :: hs) rfl ?_;refine TD2.heavy (fun v => sameC_refl v) rfl (by decide) rfl rfl (OpS.eff (Eff.store_row (p := 1) (cv := [_, _]) (cells' := [bv false, iv q.reader]) rfl rfl rfl rfl rfl rfl rfl rfl rfl (by decide) rfl)) ?_;rintro _ _ rfl;refine ⟨(all_cons (.inr ⟨_, rfl, Val.load_tree ⟨_, rfl, rfl⟩ rfl⟩) (all_cons (.inr ⟨_, rfl, Val.load_row (p := px + 3) hx ⟨_, rfl, rfl⟩ rfl (roomC_len R.L48) rfl⟩) (all_cons (.inl (by kernel_rfl)) (all_cons (.inl (by kernel_rfl)) all_nil)))), (all_cons (.inl (by kernel_rfl)) (all_cons (.inl (by kernel_rfl)) all_nil)), ?_⟩;refine TD2.less (Less.floatRow (p := 0) rfl) ?_;refine TD2.things (hs' := .row bb 2 [bv false, iv 0] :: .row ba 2 [bv false, iv q.reader] :: .cnt m KBI f [] :: hs) rfl ?_;refine TD2.heavy (fun v => sameC_refl v) rfl (by decide) rfl rfl (OpS.eff (Eff.store_row (p := 0) (cv := [_, _]) (cells' := [bv true, iv q.book]) rfl rfl rfl rfl rfl rfl rfl rfl rfl (by decide) rfl)) ?_;rintro _ _ rfl;refine ⟨(all_cons (.inl (by kernel_rfl)) (all_cons (.inl (by kernel_rfl)) (all_cons (.inl (by kernel_rfl)) (all_cons (.inl (by kernel_rfl)) all_nil)))), (all_cons (.inl (by kernel_rfl)) (all_cons (.inl (by kernel_rfl)) all_nil)), ?_⟩;refine TD2.things (hs' := .row bb 2 [bv true, iv q.book] :: .row ba 2 [bv false, iv q.reader] :: .cnt m KBI f [] :: hs) rfl ?_;refine TD2.nil ?_
  have hlow := hF.low
  have fa := hlow (.agg #[.bool false, .int .i64 q.reader]);refine T.seq ?_;refine T.seq ?_;refine T.drawE (l1 := [0, 1, 2, 3]) (l2 := [4, 5, 6]) (by kernel_rfl) (by kernel_rfl) ?_;refine TD1.light rfl rfl rfl rfl (Val.move rfl) ?_;refine TD1.read rfl rfl rfl rfl (Val.load_rows (p := 1) (c := [_, _]) rfl ⟨⟨_, rfl, rfl⟩, rfl, by decide⟩ rfl rfl rfl rfl) ?_;refine TD1.read rfl rfl rfl rfl (Val.lookup (p := 2) rfl rfl key_t182 rfl rfl rfl rfl ⟨_, _, rfl⟩) ?_;refine TD1.light rfl rfl rfl rfl (Val.add rfl rfl (by omega)) ?_;refine TD1.over (fun v => sameC_refl v) (all_cons (⟨_, rfl, Val.lookup (p := 2) rfl rfl key_t182 rfl rfl rfl rfl ⟨_, _, rfl⟩⟩) (all_cons (⟨_, rfl, Val.load_rows (p := 1) (c := [_, _]) rfl ⟨⟨_, rfl, rfl⟩, rfl, by decide⟩ rfl rfl rfl rfl⟩) all_nil)) ?_;refine TD2.heavy (fun v => sameC_refl v) rfl (by decide) rfl rfl (OpS.eff (Eff.mapEntry (p := 2) rfl rfl key_t182 rfl rfl rfl rfl ⟨_, _, rfl⟩)) ?_;rintro _ _ ⟨e, rfl, rfl⟩;refine ⟨(all_cons (.inr ⟨_, rfl, Val.lookup (p := 2) rfl rfl key_t182 rfl rfl rfl rfl ⟨_, _, rfl⟩⟩) (all_cons (.inl (by kernel_rfl)) all_nil)), all_nil, ?_⟩;refine TD2.things (hs' := .row bb 2 [bv true, iv q.book] :: .row ba 2 [bv false, iv q.reader] :: .cnt m KBI f [((.agg #[.bool false, .int .i64 q.reader]), e)] :: hs) rfl ?_;refine TD2.light rfl rfl rfl rfl (Val.extract rfl rfl) ?_;refine TD2.heavy (fun v => sameC_refl v) rfl (by decide) rfl rfl (OpS.eff (Eff.entryStore (p := 2) rfl (List.mem_singleton.2 rfl) rfl rfl rfl)) ?_;rintro _ _ rfl;refine ⟨(all_cons (.inl (by kernel_rfl)) (all_cons (.inl (by kernel_rfl)) all_nil)), all_nil, ?_⟩;refine TD2.things (hs' := .row bb 2 [bv true, iv q.book] :: .row ba 2 [bv false, iv q.reader] :: .cnt m KBI (cput f (.agg #[.bool false, .int .i64 q.reader]) (f (.agg #[.bool false, .int .i64 q.reader]) + 1)) [] :: hs) rfl ?_;refine TD2.nil ?_;obtain ⟨f1, hf1⟩ : ∃ f1, f1 = cput f (.agg #[.bool false, .int .i64 q.reader]) (f (.agg #[.bool false, .int .i64 q.reader]) + 1) := ⟨_, rfl⟩;rw [← hf1]
  have u1 : ∀ v, f v ≤ f1 v ∧ f1 v ≤ f v + 1 := fun v => by rw [hf1]; exact cput_up _ _ _
  refine T.seq ?_;refine T.text rfl ?_;refine TO.val rfl rfl rfl (Val.load_rows (p := 1) (c := [_, _]) rfl ⟨⟨_, rfl, rfl⟩, rfl, by decide⟩ rfl rfl rfl rfl) ?_;refine TO.val rfl rfl rfl (Val.load_rows (p := 0) (c := [_, _]) rfl ⟨⟨_, rfl, rfl⟩, rfl, by decide⟩ rfl rfl rfl rfl) ?_;refine TO.val rfl rfl rfl (Val.bin rfl rfl (eq_claims _ _)) ?_;refine TO.val rfl rfl rfl (Val.move rfl) ?_;refine TO.val rfl rfl rfl (Val.move rfl) ?_;refine TO.val rfl rfl rfl (Val.load_rows (p := 1) (c := [_, _]) rfl ⟨⟨_, rfl, rfl⟩, rfl, by decide⟩ rfl rfl rfl rfl) ?_;refine TO.val rfl rfl rfl (Val.lookup (p := 2) rfl rfl key_t182 rfl rfl rfl rfl ⟨_, _, rfl⟩) ?_;obtain ⟨c50, hc50⟩ : ∃ c : Bool, c = decide (f1 (.agg #[.bool false, .int .i64 q.reader]) > 1) := ⟨_, rfl⟩;refine TO.val rfl rfl rfl (Val.gtr hc50 rfl rfl) ?_;refine TO.val rfl rfl rfl (Val.pick rfl rfl rfl) ?_;refine TO.nil ?_;cases c50 with
  | true =>
   refine T.condT (fun a ha => ha.ev (.tmp 51) _ rfl) ?_;refine T.seq ?_;refine T.text rfl ?_;refine TO.val rfl rfl rfl (Val.assign rfl) ?_;refine TO.nil ?_;refine T.ret ?_;exact ⟨rfl, _, rfl, ⟨⟨false, by simp⟩, rfl, .drop (.drop (.drop .refl))⟩⟩
  | false =>
  refine T.condF (fun a ha => ha.ev (.tmp 51) _ rfl) ?_;refine T.skip ?_
  have fb := hlow (keyB q.book)
  have fb1 := u1 (keyB q.book)
  have fb2 := hlow (.agg #[.bool true, .int .i64 q.book])
  have fb3 := u1 (.agg #[.bool true, .int .i64 q.book]);refine T.seq ?_;refine T.drawE (l1 := [0, 1, 2, 3]) (l2 := [4, 5, 6]) (by kernel_rfl) (by kernel_rfl) ?_;refine TD1.light rfl rfl rfl rfl (Val.move rfl) ?_;refine TD1.read rfl rfl rfl rfl (Val.load_rows (p := 0) (c := [_, _]) rfl ⟨⟨_, rfl, rfl⟩, rfl, by decide⟩ rfl rfl rfl rfl) ?_;refine TD1.read rfl rfl rfl rfl (Val.lookup (p := 2) rfl rfl key_t182 rfl rfl rfl rfl ⟨_, _, rfl⟩) ?_;refine TD1.light rfl rfl rfl rfl (Val.add rfl rfl (by omega)) ?_;refine TD1.over (fun v => sameC_refl v) (all_cons (⟨_, rfl, Val.lookup (p := 2) rfl rfl key_t182 rfl rfl rfl rfl ⟨_, _, rfl⟩⟩) (all_cons (⟨_, rfl, Val.load_rows (p := 0) (c := [_, _]) rfl ⟨⟨_, rfl, rfl⟩, rfl, by decide⟩ rfl rfl rfl rfl⟩) all_nil)) ?_;refine TD2.heavy (fun v => sameC_refl v) rfl (by decide) rfl rfl (OpS.eff (Eff.mapEntry (p := 2) rfl rfl key_t182 rfl rfl rfl rfl ⟨_, _, rfl⟩)) ?_;rintro _ _ ⟨e, rfl, rfl⟩;refine ⟨(all_cons (.inr ⟨_, rfl, Val.lookup (p := 2) rfl rfl key_t182 rfl rfl rfl rfl ⟨_, _, rfl⟩⟩) (all_cons (.inl (by kernel_rfl)) all_nil)), all_nil, ?_⟩;refine TD2.things (hs' := .row bb 2 [bv true, iv q.book] :: .row ba 2 [bv false, iv q.reader] :: .cnt m KBI f1 [((keyB q.book), e)] :: hs) rfl ?_;refine TD2.light rfl rfl rfl rfl (Val.extract rfl rfl) ?_;refine TD2.heavy (fun v => sameC_refl v) rfl (by decide) rfl rfl (OpS.eff (Eff.entryStore (p := 2) rfl (List.mem_singleton.2 rfl) rfl rfl rfl)) ?_;rintro _ _ rfl;refine ⟨(all_cons (.inl (by kernel_rfl)) (all_cons (.inl (by kernel_rfl)) all_nil)), all_nil, ?_⟩;refine TD2.things (hs' := .row bb 2 [bv true, iv q.book] :: .row ba 2 [bv false, iv q.reader] :: .cnt m KBI (cput f1 (keyB q.book) (f1 (keyB q.book) + 1)) [] :: hs) rfl ?_;refine TD2.nil ?_;obtain ⟨f2, hf2⟩ : ∃ f2, f2 = cput f1 (keyB q.book) (f1 (keyB q.book) + 1) := ⟨_, rfl⟩;rw [← hf2];refine T.seq ?_;refine T.text rfl ?_;refine TO.val rfl rfl rfl (Val.move rfl) ?_;refine TO.val rfl rfl rfl (Val.load_rows (p := 0) (c := [_, _]) rfl ⟨⟨_, rfl, rfl⟩, rfl, by decide⟩ rfl rfl rfl rfl) ?_;refine TO.val rfl rfl rfl (Val.lookup (p := 2) rfl rfl key_t182 rfl rfl rfl rfl ⟨_, _, rfl⟩) ?_;obtain ⟨c61, hc61⟩ : ∃ c : Bool, c = decide (f2 (keyB q.book) > 1) := ⟨_, rfl⟩;refine TO.val rfl rfl rfl (Val.gtr hc61 rfl rfl) ?_;refine TO.nil ?_;cases c61 with
  | true =>
   refine T.condT (fun a ha => ha.ev (.tmp 61) _ rfl) ?_;refine T.seq ?_;refine T.text rfl ?_;refine TO.val rfl rfl rfl (Val.assign rfl) ?_;refine TO.nil ?_;refine T.ret ?_;exact ⟨rfl, _, rfl, ⟨⟨false, by simp⟩, rfl, .drop (.drop (.drop .refl))⟩⟩
  | false =>
  replace hc61 := of_decide_eq_false hc61.symm;refine T.condF (fun a ha => ha.ev (.tmp 61) _ rfl) ?_;refine T.skip ?_;refine T.text rfl ?_;refine TO.val rfl rfl rfl (Val.add rfl rfl (by omega)) ?_;refine TO.val rfl rfl rfl (Val.move rfl) ?_;refine TO.nil ?_
  have hbk : bookOf gq.l r = some q.book := by unfold bookOf; rw [hqi]; rfl
  have hstep := hF.step (by simpa using hri) hbk hf1 hf2 hc61;exact ⟨reqs.length - (n + 1), st (n + 1) f2, by omega, ⟨n + 1, f2, rfl, by omega, hstep, rfl⟩, ⟨rfl, (keep_cons rfl (keep_cons rfl (keep_cons rfl (keep_cons rfl (keep_cons rfl keep_nil))))), .cons _ (.cons _ (.refl _))⟩⟩
end Go.Am.YtgbbhdoobhdadaaGreatDoor
end
section
namespace Go.Am.YtgbbhdoobhdadaaGreatDoor
open Go.Am Go.RowKit
set_option linter.unusedVariables false
set_option maxRecDepth 100000
def GrantOk (l : List qY) (nS : Nat) (reqs : List Int) : Prop := Apart l reqs ∧ reqs.length ≤ nS
variable {k : Nat} {gb : GS qJ} {gr : GS qR} {gs : GS qQ} {gq : GS qK} {C : List Thing}
variable {bx b1 b8 b3 : Nat} {vr : AV} {L : List Int} (R : Room C gb gr gs gq bx b1 b8 b3 vr L)
include R
theorem tf_give {vreq : AV} {zr : Bool} {reqs : List Int} (hr : ∀ r ∈ reqs, 0 ≤ r ∧ r < gq.l.length) (hm8 : reqs.length ≤ 8) :
  TF (EL k) 81 [.ptr bx 0 53, vreq] (ownL zr vreq encI reqs :: C) (RepF (fun w : { x : Int // 0 ≤ x → GrantOk gq.l gs.l.length reqs } × AV => .tuple [w.2, iv w.1.1]) fun _ => ownL zr vreq encI reqs :: C) := by
 refine TF.enterG (fn := Go.Proofs.Tryz.f81) rfl rfl rfl rfl rfl ?_;refine T.seq ?_;refine T.text rfl ?_;refine TO.box (k := 1) (cells := [_]) rfl rfl rfl rfl rfl rfl rfl (fun br => ?_);refine TO.fact (own_cellS (p := 1) rfl) (fun hcell => ?_);refine TO.box (k := 1) (cells := [vreq]) rfl rfl rfl rfl hcell.1 rfl rfl (fun bq => ?_);refine TO.alloc (k := 1) (cells := [nilS]) rfl rfl rfl rfl rfl rfl rfl (fun bb => ?_);refine TO.alloc (k := 1) (cells := [iv 0]) rfl rfl rfl rfl rfl rfl rfl (fun bl => ?_);refine TO.nil ?_;refine T.seq ?_;refine T.text rfl ?_;refine TO.eff0 rfl rfl (Eff.store_row (p := 0) (cv := [_]) (cells' := [iv (-1)]) rfl rfl rfl rfl rfl rfl rfl rfl rfl (by decide) rfl) ?_;rintro _ rfl;refine TO.things (hs' := .row bl 1 [iv (-1)] :: .row bb 1 [nilS] :: .row bq 1 [vreq] :: .row br 1 [.ptr bx 0 53] :: ownL zr vreq encI reqs :: C) rfl ?_;refine TO.nil ?_;refine T.seq ?_;refine T.seq ?_;refine T.text rfl ?_;refine TO.val rfl rfl rfl (Val.load_row (p := 3) rfl ⟨_, rfl, rfl⟩ rfl rfl rfl) ?_;refine TO.val rfl rfl rfl (Val.load_row (p := 2) rfl ⟨_, rfl, rfl⟩ rfl rfl rfl) ?_;refine TO.callV rfl rfl rfl rfl rfl rfl (orcN rfl) (RepF.conv (tf_apart R (memS (memS (memS (memS (memS mem0))))) (pq := 4) rfl hr hm8)) ?_;rintro _ _ ⟨⟨c10, hap⟩, rfl, rfl⟩;refine TO.val rfl rfl rfl (Val.not rfl) ?_;refine TO.nil ?_;cases c10 with
 | false =>
  refine T.condT (fun a ha => ha.ev (.tmp 11) _ rfl) ?_;refine T.seq ?_;refine T.drawE (l1 := [0]) (l2 := [1, 2]) (by kernel_rfl) (by kernel_rfl) ?_;refine TD1.read rfl rfl rfl rfl (Val.load_row (p := 0) rfl ⟨_, rfl, rfl⟩ rfl rfl rfl) ?_;refine TD1.over (fun v => sameC_refl v) (all_cons ⟨_, rfl, Val.load_row (p := 0) rfl ⟨_, rfl, rfl⟩ rfl rfl rfl⟩ all_nil) ?_;refine TD2.heavy (fun v => sameC_refl v) rfl (by decide) rfl rfl (OpS.eff (Eff.store_row (p := 1) (cv := [_]) (cells' := [nilS]) rfl rfl rfl rfl rfl rfl rfl rfl rfl (by decide) rfl)) ?_;rintro _ _ rfl;refine ⟨all_cons (.inr ⟨_, rfl, Val.load_row (p := 0) rfl ⟨_, rfl, rfl⟩ rfl rfl rfl⟩) all_nil, all_nil, ?_⟩;refine TD2.heavy (fun v => sameC_refl v) rfl (by decide) rfl rfl (OpS.eff (Eff.store_row (p := 0) (cv := [_]) (cells' := [iv (-1)]) rfl rfl rfl rfl rfl rfl rfl rfl rfl (by decide) rfl)) ?_;rintro _ _ rfl;refine ⟨all_cons (.inl (by kernel_rfl)) all_nil, all_nil, ?_⟩;refine TD2.things (hs' := .row bl 1 [iv (-1)] :: .row bb 1 [nilS] :: .row bq 1 [vreq] :: .row br 1 [.ptr bx 0 53] :: ownL zr vreq encI reqs :: C) rfl ?_;refine TD2.nil ?_;refine T.ret ?_;exact ⟨rfl, _, rfl, [_, _], ⟨⟨_, rfl, LoadR.row (p := 1) rfl ⟨_, rfl, rfl⟩ rfl rfl⟩, ⟨_, rfl, LoadR.row (p := 0) rfl ⟨_, rfl, rfl⟩ rfl rfl⟩, trivial⟩, ⟨(⟨-1, by omega⟩, nilS), rfl, .drop (.drop (.drop (.drop .refl)))⟩⟩
 | true =>
  refine T.condF (fun a ha => ha.ev (.tmp 11) _ rfl) ?_;refine T.skip ?_;refine T.seq ?_;refine T.text rfl ?_;refine TO.val rfl rfl rfl (Val.load_row (p := 2) rfl ⟨_, rfl, rfl⟩ rfl rfl rfl) ?_;refine TO.val rfl rfl rfl (Val.len_own (p := 4) rfl rfl rfl) ?_;refine TO.makeInts (m := reqs.length) (b := 8) rfl rfl rfl ⟨rfl, rfl⟩ rfl rfl rfl rfl (by omega) (by omega) (fun vown => ?_);refine TO.fact (own_cellS (p := 0) rfl) (fun hco => ?_);refine TO.alloc (k := 1) (cells := [nilS]) rfl rfl rfl rfl rfl rfl rfl (fun bo => ?_);refine TO.eff0 rfl rfl (Eff.store_row (p := 0) (cv := [vown]) (cells' := [vown]) rfl rfl rfl rfl rfl hco.1 rfl rfl (by simp [hco.2]) (by decide) rfl) ?_;rintro _ rfl;refine TO.nil ?_;refine T.seq ?_;refine T.text rfl ?_;refine TO.alloc (k := 1) (cells := [_]) rfl rfl rfl rfl rfl rfl rfl (fun bn => ?_);refine TO.nil ?_;refine T.seq ?_;refine T.text rfl ?_;refine TO.val rfl rfl rfl (Val.makeFunc rfl rfl) ?_;refine TO.eff0 rfl rfl (Eff.store_row (p := 0) (cv := [_]) (cells' := [.func 115 [] [.ptr bl 0 1, .ptr bo 0 1, .ptr bb 0 1, .ptr br 0 1, .ptr bq 0 1, .ptr bn 0 1]]) rfl rfl rfl rfl rfl rfl rfl rfl rfl (by decide) rfl) ?_;rintro _ rfl;refine TO.things (hs' := .row bn 1 [.func 115 [] [.ptr bl 0 1, .ptr bo 0 1, .ptr bb 0 1, .ptr br 0 1, .ptr bq 0 1, .ptr bn 0 1]] :: .row bo 1 [vown] :: ownL false vown encI (List.replicate reqs.length 0) :: .row bl 1 [iv (-1)] :: .row bb 1 [nilS] :: .row bq 1 [vreq] :: .row br 1 [.ptr bx 0 53] :: ownL zr vreq encI reqs :: C) rfl ?_;refine TO.nil ?_;refine T.seq ?_;refine T.text rfl ?_;refine TO.val rfl rfl rfl (Val.load_row (p := 0) rfl ⟨_, rfl, rfl⟩ rfl rfl rfl) ?_
  let g0 : GiveS reqs.length gs.l.length (-1) := ⟨-1, nilS, true, [], List.replicate reqs.length 0, by simp, by omega, .inl⟩
  have hpk : Pk (giveH bl bb vown false (giveD bl bb bo br bq bn bx vown vreq zr reqs C) g0) (.row bn 1 [.func 115 [] [.ptr bl 0 1, .ptr bo 0 1, .ptr bb 0 1, .ptr br 0 1, .ptr bq 0 1, .ptr bn 0 1]] :: .row bo 1 [vown] :: ownL false vown encI (List.replicate reqs.length 0) :: .row bl 1 [iv (-1)] :: .row bb 1 [nilS] :: .row bq 1 [vreq] :: .row br 1 [.ptr bx 0 53] :: ownL zr vreq encI reqs :: C) :=
   .pick (p := 3) rfl (.pick (p := 3) rfl (.pick (p := 2) rfl (.own0 (u := 1) (.pick (p := 1) rfl (.pick (p := 2) rfl (.pick (p := 1) rfl (.pick (p := 0) rfl .refl)))))))
  have hcall := tf_give1 (k := k) R (bl := bl) (bb := bb) (bo := bo) (br := br) (bq := bq) (bn := bn) (vown := vown) (vreq := vreq) (zo := false) (zr := zr) hr hm8 (reqs.length + 1) 0 0 0 (-1) g0 (by omega) (by omega) (Nat.pow_pos (by decide)) rfl (by omega) (by omega);refine TO.callV rfl rfl rfl rfl rfl rfl (orcN rfl) (RepF.conv (hcall.less hpk.less)) ?_;rintro _ _ ⟨h, rfl, rfl⟩;refine TO.nil ?_;refine T.seq ?_;refine T.drawE (l1 := [0, 1]) (l2 := [2, 3]) (by kernel_rfl) (by kernel_rfl) ?_;refine TD1.fact (own_cellS (p := 3) rfl) (fun hcb => ?_);refine TD1.read rfl rfl rfl rfl (Val.load_row (p := 1) rfl ⟨_, rfl, rfl⟩ rfl rfl rfl) ?_;refine TD1.read rfl rfl rfl rfl (Val.load_row (p := 0) rfl ⟨_, rfl, rfl⟩ rfl rfl rfl) ?_;refine TD1.over (fun v => sameC_refl v) (all_cons ⟨_, rfl, Val.load_row (p := 0) rfl ⟨_, rfl, rfl⟩ rfl rfl rfl⟩ (all_cons ⟨_, rfl, Val.load_row (p := 1) rfl ⟨_, rfl, rfl⟩ rfl rfl rfl⟩ all_nil)) ?_;refine TD2.heavy (fun v => sameC_refl v) rfl (by decide) rfl rfl (OpS.eff (Eff.store_row (p := 1) (cv := [h.vb]) (cells' := [h.vb]) rfl rfl rfl rfl rfl hcb.1 rfl rfl (by simp [hcb.2]) (by decide) rfl)) ?_;rintro _ _ rfl;refine ⟨all_cons (.inr ⟨_, rfl, Val.load_row (p := 0) rfl ⟨_, rfl, rfl⟩ rfl rfl rfl⟩) (all_cons (.inl (by kernel_rfl)) all_nil), all_nil, ?_⟩;refine TD2.heavy (fun v => sameC_refl v) rfl (by decide) rfl rfl (OpS.eff (Eff.store_row (p := 0) (cv := [_]) (cells' := [iv h.light]) rfl rfl rfl rfl rfl rfl rfl rfl rfl (by decide) rfl)) ?_;rintro _ _ rfl;refine ⟨all_cons (.inl (by kernel_rfl)) (all_cons (.inl (by kernel_rfl)) all_nil), all_nil, ?_⟩;refine TD2.things (hs' := giveH bl bb vown false (giveD bl bb bo br bq bn bx vown vreq zr reqs C) h) rfl ?_;refine TD2.nil ?_;refine T.ret ?_;exact ⟨rfl, _, rfl, [_, _], ⟨⟨_, rfl, LoadR.row (p := 1) rfl ⟨_, rfl, rfl⟩ rfl rfl⟩, ⟨_, rfl, LoadR.row (p := 0) rfl ⟨_, rfl, rfl⟩ rfl rfl⟩, trivial⟩, ⟨(⟨h.light, fun h0 => ⟨hap rfl, (h.why h0).resolve_left (by show ¬ (0 : Int) ≤ -1; omega)⟩⟩, h.vb), rfl, .drop (.drop (.drop (.drop (.drop (.drop (.drop (.drop .refl)))))))⟩⟩
theorem tf_can {vreq : AV} {zr : Bool} {reqs : List Int} (hr : ∀ r ∈ reqs, 0 ≤ r ∧ r < gq.l.length) (hm8 : reqs.length ≤ 8) :
  TF (EL k) 44 [.ptr bx 0 53, vreq] (ownL zr vreq encI reqs :: C) (RepF (fun b : { b : Bool // b = true → GrantOk gq.l gs.l.length reqs } => bv b.1) fun _ => ownL zr vreq encI reqs :: C) := by
 refine TF.enter (fn := Go.Proofs.Tryz.f44) rfl rfl rfl rfl rfl ?_;refine T.seq ?_;refine T.text rfl ?_;refine TO.val rfl rfl rfl (Val.assign rfl) ?_;refine TO.nil ?_;refine T.seq ?_;refine T.text rfl ?_;refine TO.val rfl rfl rfl (Val.move rfl) ?_;refine TO.val rfl rfl rfl (Val.move rfl) ?_;refine TO.callV rfl rfl rfl rfl rfl rfl (orcN rfl) (RepF.conv (tf_give R hr hm8)) ?_;rintro _ _ ⟨⟨⟨x, hx⟩, vb⟩, rfl, rfl⟩;refine TO.val rfl rfl rfl (Val.move rfl) ?_;refine TO.val rfl rfl rfl (Val.extract rfl rfl) ?_;refine TO.val rfl rfl rfl (Val.extract rfl rfl) ?_;refine TO.val rfl rfl rfl (Val.assign rfl) ?_;refine TO.val rfl rfl rfl (Val.assign rfl) ?_;refine TO.nil ?_;refine T.seq ?_;refine T.text rfl ?_;refine TO.val rfl rfl rfl (Val.move rfl) ?_;obtain ⟨c, hc⟩ : ∃ c : Bool, c = decide (x ≥ 0) := ⟨_, rfl⟩;refine TO.val rfl rfl rfl (Val.geq hc rfl rfl) ?_;refine TO.val rfl rfl rfl (Val.assign rfl) ?_;refine TO.nil ?_;refine T.ret ?_;exact ⟨rfl, _, rfl, ⟨⟨c, fun h => hx (of_decide_eq_true (hc.symm.trans h))⟩, rfl, .refl⟩⟩
end Go.Am.YtgbbhdoobhdadaaGreatDoor
end
section
namespace Go.Am.YtgbbhdoobhdadaaGreatDoor
open Go.Am Go.RowKit
set_option linter.unusedVariables false
set_option maxRecDepth 100000
variable {k : Nat} {gb : GS qJ} {gr : GS qR} {gs : GS qQ} {gq : GS qK} {C : List Thing}
theorem roomC_set {L : List Int} {vr : AV} (hL : L.length = 48) {m : Nat} (hm : m < 48) (x : Int) : spliceL (roomC gb gr gs gq L vr) (4 + m) [iv x] = roomC gb gr gs gq (L.set m x) vr := by
 rw [splice_at (by rw [roomC_len hL]; omega), show 4 + m = m + 1 + 1 + 1 + 1 by omega];simp only [roomC, List.set_cons_succ];rw [List.set_append_left _ _ (by simpa [hL] using hm), List.map_set]
theorem roomC_rules {L : List Int} {vr v' : AV} (hL : L.length = 48) : spliceL (roomC gb gr gs gq L vr) 52 [v'] = roomC gb gr gs gq L v' := by
 rw [splice_at (by rw [roomC_len hL]; omega)];simp only [roomC, List.set_cons_succ];rw [List.set_append_right _ _ (by simp [hL])];simp [hL]
structure RoomIn (gb : GS qJ) (gr : GS qR) (gs : GS qQ) (gq : GS qK) : Prop where
 req : ReqOk gb gr gq
 hours : ∀ q ∈ gq.l, 1 ≤ q.hours ∧ q.hours ≤ 12
 light : ∀ s ∈ gs.l, 0 ≤ s.light ∧ s.light ≤ 100
 q8 : gq.l.length ≤ 8
 s6 : gs.l.length ≤ 6
structure RoomW where
 bx : Nat
 b1 : Nat
 b8 : Nat
 b3 : Nat
 vr : AV
 L : List Int
 L48 : L.length = 48
 Lok : ∀ x ∈ L, 0 ≤ x ∧ x ≤ 1200
def RoomW.things (gb : GS qJ) (gr : GS qR) (gs : GS qQ) (gq : GS qK) (w : RoomW) (C : List Thing) : List Thing :=
 .own false w.vr 2 3 (ruleC w.b1 w.b8 w.b3) :: .row w.b8 1 [.func 119 [] [.ptr w.b1 0 4]] :: .row w.b3 1 [.ptr w.bx 0 53] :: .row w.bx 6 (roomC gb gr gs gq w.L w.vr) :: .row w.b1 4 [gb.v, gr.v, gs.v, gq.v] :: C
theorem RoomW.room (hI : RoomIn gb gr gs gq) (w : RoomW) : Room (w.things gb gr gs gq C) gb gr gs gq w.bx w.b1 w.b8 w.b3 w.vr w.L :=
 ⟨by simp [RoomW.things], by simp [RoomW.things], by simp [RoomW.things], by simp [RoomW.things], by simp [RoomW.things], w.L48, w.Lok, hI.req, hI.q8, hI.s6⟩
theorem tf_look (hI : RoomIn gb gr gs gq) : TF (EL k) 90 [.agg [gb.v, gr.v, gs.v, gq.v]] C (RepF (fun w : RoomW => .ptr w.bx 0 53) fun w => w.things gb gr gs gq C) := by
 have hq8 := hI.q8
 have hs6 := hI.s6;refine TF.enter (fn := Go.Proofs.Tryz.f90) rfl rfl rfl rfl rfl ?_;refine T.seq ?_;refine T.text rfl ?_;refine TO.box (k := 4) (cells := [_, _, _, _]) rfl rfl rfl rfl rfl rfl rfl (fun b1 => ?_);refine TO.val rfl rfl rfl (Val.assign rfl) ?_;refine TO.nil ?_;refine T.seq ?_;refine T.text rfl ?_;refine TO.val rfl rfl rfl (Val.load_rows (p := 0) (c := [gb.v, gr.v, gs.v, gq.v]) rfl ⟨⟨_, rfl, rfl⟩, rfl, by decide⟩ rfl rfl rfl rfl) ?_;refine TO.val rfl rfl rfl (Val.buildC (cs := roomC gb gr gs gq (List.replicate 48 0) nilS) (vs := [(0, .agg [gb.v, gr.v, gs.v, gq.v])]) (ws := [(0, [gb.v, gr.v, gs.v, gq.v])]) rfl rfl (CellsL.cons rfl CellsL.nil) rfl) ?_;refine TO.box (k := 53) (cells := roomC gb gr gs gq (List.replicate 48 0) nilS) rfl rfl rfl rfl rfl rfl rfl (fun bx => ?_);refine TO.alloc (k := 1) (cells := [_]) rfl rfl rfl rfl rfl rfl rfl (fun b3 => ?_);refine TO.eff0 rfl rfl (Eff.store_row (p := 0) (cv := [_]) (cells' := [.ptr bx 0 53]) rfl rfl rfl rfl rfl rfl rfl rfl rfl (by decide) rfl) ?_;rintro _ rfl
 let base : List Int → List Thing := fun L => .row b3 1 [.ptr bx 0 53] :: .row bx 6 (roomC gb gr gs gq L nilS) :: .row b1 4 [gb.v, gr.v, gs.v, gq.v] :: C
 refine TO.things (hs' := base (List.replicate 48 0)) rfl ?_;refine TO.nil ?_;refine T.seq ?_;refine T.seq ?_;refine T.text rfl ?_;refine TO.val rfl rfl rfl (Val.faddr_ptr (fo := 3) rfl rfl rfl) ?_;refine TO.val rfl rfl rfl (Val.load_row (p := 2) rfl ⟨_, rfl, rfl⟩ rfl rfl rfl) ?_;refine TO.val rfl rfl rfl (Val.len_gs (gs := gq) rfl rfl) ?_;refine TO.val rfl rfl rfl (Val.move rfl) ?_;refine TO.nil ?_;refine T.block ?_
 let st : Nat → List Int → Sy := fun n L => ⟨[], [(1, .ptr b1 0 4), (3, .ptr b3 0 1), (13, gq.v), (14, iv gq.l.length), (15, iv n)], base L⟩
 refine T.loop (fun μ s => ∃ (n : Nat) (L : List Int), μ = gq.l.length - n ∧ n ≤ gq.l.length ∧ (L.length = 48 ∧ ∀ x ∈ L, 0 ≤ x ∧ x ≤ 1200) ∧ s = st n L) (k := gq.l.length) (s' := st 0 (List.replicate 48 0)) ⟨0, _, rfl, Nat.zero_le _, ⟨by simp, by simp⟩, rfl⟩ ⟨rfl, (keep_cons rfl (keep_cons rfl (keep_cons rfl (keep_cons rfl (keep_cons rfl keep_nil))))), .refl _⟩ ?_;rintro μ _ ⟨n, L, rfl, hn, ⟨hL, hLok⟩, rfl⟩;refine T.seq ?_;refine T.text rfl ?_;obtain ⟨c16, hc16⟩ : ∃ c : Bool, c = decide ((n : Int) < (gq.l.length : Int)) := ⟨_, rfl⟩;refine TO.val rfl rfl rfl (Val.lss hc16 rfl rfl) ?_;refine TO.nil ?_;refine T.seq ?_;cases c16 with
 | false =>
  refine T.condF (fun a ha => ha.ev (.tmp 16) _ rfl) ?_;refine T.exit ?_;refine T.seq ?_;refine T.text rfl ?_;refine TO.val rfl rfl rfl (Val.makeFunc rfl rfl) ?_;refine TO.alloc (k := 1) (cells := [_]) rfl rfl rfl rfl rfl rfl rfl (fun b8 => ?_);refine TO.eff0 rfl rfl (Eff.store_row (p := 0) (cv := [_]) (cells' := [.func 119 [] [.ptr b1 0 4]]) rfl rfl rfl rfl rfl rfl rfl rfl rfl (by decide) rfl) ?_;rintro _ rfl;refine TO.things (hs' := .row b8 1 [.func 119 [] [.ptr b1 0 4]] :: base L) rfl ?_;refine TO.nil ?_;refine T.seq ?_;refine T.text rfl ?_;refine TO.val rfl rfl rfl (Val.load_row (p := 1) rfl ⟨_, rfl, rfl⟩ rfl rfl rfl) ?_;refine TO.val rfl rfl rfl (Val.makeFunc rfl rfl) ?_;refine TO.val rfl rfl rfl (Val.buildC (cs := [iv 1, .func 120 [] [.ptr b8 0 1, .ptr b1 0 4]]) (vs := [(_, _), (_, _)]) (ws := [(_, [_]), (_, [_])]) rfl rfl (CellsL.cons rfl (CellsL.cons rfl CellsL.nil)) rfl) ?_;refine TO.val rfl rfl rfl (Val.makeFunc rfl rfl) ?_;refine TO.val rfl rfl rfl (Val.buildC (cs := [iv 2, .func 121 [] [.ptr b8 0 1, .ptr b1 0 4]]) (vs := [(_, _), (_, _)]) (ws := [(_, [_]), (_, [_])]) rfl rfl (CellsL.cons rfl (CellsL.cons rfl CellsL.nil)) rfl) ?_;refine TO.val rfl rfl rfl (Val.makeFunc rfl rfl) ?_;refine TO.val rfl rfl rfl (Val.buildC (cs := [iv 3, .func 122 [] [.ptr b3 0 1, .ptr b8 0 1]]) (vs := [(_, _), (_, _)]) (ws := [(_, [_]), (_, [_])]) rfl rfl (CellsL.cons rfl (CellsL.cons rfl CellsL.nil)) rfl) ?_;refine TO.buildSlice (u := 2) (cells := ruleC b1 b8 b3) (vs := [(0, .agg [iv 1, .func 120 [] [.ptr b8 0 1, .ptr b1 0 4]]), (1, .agg [iv 2, .func 121 [] [.ptr b8 0 1, .ptr b1 0 4]]), (2, .agg [iv 3, .func 122 [] [.ptr b3 0 1, .ptr b8 0 1]])]) rfl rfl rfl ⟨rfl, rfl⟩ rfl rfl rfl rfl rfl rfl (fun vr => ?_);refine TO.fact (own_cellS (p := 0) rfl) (fun hcv => ?_);refine TO.val rfl rfl rfl (Val.nil_ptr rfl) ?_;refine TO.val rfl rfl rfl (Val.faddr_ptr (fo := 52) rfl rfl rfl) ?_;refine TO.eff0 rfl rfl (Eff.store_row (p := 3) (cv := [vr]) (cells' := roomC gb gr gs gq L vr) rfl rfl rfl (roomC_len hL) rfl hcv.1 rfl rfl (by simp [hcv.2]) (by decide) (roomC_rules hL)) ?_;rintro _ rfl;refine TO.things (hs' := .own false vr 2 3 (ruleC b1 b8 b3) :: .row b8 1 [.func 119 [] [.ptr b1 0 4]] :: .row b3 1 [.ptr bx 0 53] :: .row bx 6 (roomC gb gr gs gq L vr) :: .row b1 4 [gb.v, gr.v, gs.v, gq.v] :: C) rfl ?_;refine TO.nil ?_;refine T.seq ?_;refine T.text rfl ?_;refine TO.val rfl rfl rfl (Val.load_row (p := 2) rfl ⟨_, rfl, rfl⟩ rfl rfl rfl) ?_;refine TO.val rfl rfl rfl (Val.assign rfl) ?_;refine TO.nil ?_;refine T.ret ?_;exact ⟨rfl, _, rfl, ⟨⟨bx, b1, b8, b3, vr, L, hL, hLok⟩, rfl, .refl⟩⟩
 | true =>
  replace hc16 := of_decide_eq_true hc16.symm;refine T.condT (fun a ha => ha.ev (.tmp 16) _ rfl) ?_;refine T.skip ?_;refine T.seq ?_;refine T.block ?_;refine T.seq ?_;refine T.text rfl ?_;refine TO.val rfl rfl rfl (Val.move rfl) ?_;refine TO.index_gs (gs := gq) rfl rfl rfl ⟨rfl, rfl⟩ rfl rfl (by omega) fun q rest hqi => ?_
  have hqh := hI.hours q (List.mem_of_getElem? hqi);refine TO.val rfl rfl rfl (Val.load_trees (k := 4) (c := qK.f q) ⟨⟨_, rfl, rfl⟩, rfl, by decide⟩ rfl rfl) ?_;refine TO.alloc (k := 4) (cells := [_, _, _, _]) rfl rfl rfl rfl rfl rfl rfl (fun b5 => ?_);refine TO.val rfl rfl rfl (Val.assign rfl) ?_;refine TO.eff0 rfl rfl (Eff.store_row (p := 0) (cv := qK.f q) (cells' := qK.f q) rfl rfl rfl rfl rfl rfl rfl rfl rfl (by decide) rfl) ?_;rintro _ rfl;refine TO.things (hs' := .row b5 4 (qK.f q) :: base L) rfl ?_;refine TO.nil ?_;refine T.seq ?_;refine T.text rfl ?_;refine TO.val rfl rfl rfl (Val.faddr_ptr (fo := 2) rfl rfl rfl) ?_;refine TO.val rfl rfl rfl (Val.load_row (p := 3) rfl ⟨_, rfl, rfl⟩ rfl rfl rfl) ?_;refine TO.val rfl rfl rfl (Val.len_gs (gs := gs) rfl rfl) ?_;refine TO.val rfl rfl rfl (Val.move rfl) ?_;refine TO.nil ?_;refine T.block ?_
  let st2 : Nat → List Int → Sy := fun j L => ⟨[], [(1, .ptr b1 0 4), (3, .ptr b3 0 1), (4, iv n), (5, .ptr b5 0 4), (13, gq.v), (14, iv gq.l.length), (15, iv n), (21, gs.v), (22, iv gs.l.length), (23, iv j)], .row b5 4 (qK.f q) :: base L⟩
  refine T.loop (fun μ s => ∃ (j : Nat) (L : List Int), μ = gs.l.length - j ∧ j ≤ gs.l.length ∧ (L.length = 48 ∧ ∀ x ∈ L, 0 ≤ x ∧ x ≤ 1200) ∧ s = st2 j L) (k := gs.l.length) (s' := st2 0 L) ⟨0, L, rfl, Nat.zero_le _, ⟨hL, hLok⟩, rfl⟩ ⟨rfl, (keep_cons rfl (keep_cons rfl (keep_cons rfl (keep_cons rfl (keep_cons rfl (keep_cons rfl (keep_cons rfl (keep_cons rfl (keep_cons rfl (keep_cons rfl keep_nil)))))))))), .refl _⟩ ?_
  clear hL hLok L
  rintro μ _ ⟨j, L, rfl, hj, ⟨hL, hLok⟩, rfl⟩;refine T.seq ?_;refine T.text rfl ?_;obtain ⟨c24, hc24⟩ : ∃ c : Bool, c = decide ((j : Int) < (gs.l.length : Int)) := ⟨_, rfl⟩;refine TO.val rfl rfl rfl (Val.lss hc24 rfl rfl) ?_;refine TO.nil ?_;refine T.seq ?_;cases c24 with
  | false =>
   refine T.condF (fun a ha => ha.ev (.tmp 24) _ rfl) ?_;refine T.exit ?_;refine T.text rfl ?_;refine TO.val rfl rfl rfl (Val.add rfl rfl (by omega)) ?_;refine TO.val rfl rfl rfl (Val.move rfl) ?_;refine TO.nil ?_;exact ⟨gq.l.length - (n + 1), st (n + 1) L, by omega, ⟨n + 1, L, rfl, by omega, ⟨hL, hLok⟩, rfl⟩, ⟨rfl, (keep_cons rfl (keep_cons rfl (keep_cons rfl (keep_cons rfl (keep_cons rfl keep_nil))))), List.sublist_cons_self _ _⟩⟩
  | true =>
   replace hc24 := of_decide_eq_true hc24.symm;refine T.condT (fun a ha => ha.ev (.tmp 24) _ rfl) ?_;refine T.skip ?_;refine T.seq ?_;refine T.block ?_;refine T.seq ?_;refine T.text rfl ?_;refine TO.val rfl rfl rfl (Val.move rfl) ?_;refine TO.index_gs (gs := gs) rfl rfl rfl ⟨rfl, rfl⟩ rfl rfl (by omega) fun a rest2 hsi => ?_
   have hsl := hI.light a (List.mem_of_getElem? hsi);refine TO.val rfl rfl rfl (Val.load_trees (k := 2) (c := qQ.f a) ⟨⟨_, rfl, rfl⟩, rfl, by decide⟩ rfl rfl) ?_;refine TO.alloc (k := 2) (cells := [_, _]) rfl rfl rfl rfl rfl rfl rfl (fun b7 => ?_);refine TO.val rfl rfl rfl (Val.assign rfl) ?_;refine TO.eff0 rfl rfl (Eff.store_row (p := 0) (cv := qQ.f a) (cells' := qQ.f a) rfl rfl rfl rfl rfl rfl rfl rfl rfl (by decide) rfl) ?_;rintro _ rfl;refine TO.things (hs' := .row b7 2 (qQ.f a) :: .row b5 4 (qK.f q) :: base L) rfl ?_;refine TO.nil ?_
   have h0 : 0 ≤ q.hours * a.light := Int.mul_nonneg (by omega) hsl.1
   have h1 : q.hours * a.light ≤ 1200 := Int.le_trans (Int.mul_le_mul hqh.2 hsl.2 hsl.1 (by decide)) (by decide);refine T.drawE (l1 := [0, 1, 2, 3, 4, 5, 6, 7, 8, 9, 10, 11]) (l2 := [12]) (by kernel_rfl) (by kernel_rfl) ?_;refine TD1.read rfl rfl rfl rfl (Val.load_row (p := 2) rfl ⟨_, rfl, rfl⟩ rfl rfl rfl) ?_;refine TD1.light rfl rfl rfl rfl (Val.move rfl) ?_;refine TD1.light rfl rfl rfl rfl (Val.move rfl) ?_;refine TD1.light rfl rfl rfl rfl (Val.faddr_ptr (fo := 2) rfl rfl rfl) ?_;refine TD1.read rfl rfl rfl rfl (Val.load_row (p := 1) rfl ⟨_, rfl, rfl⟩ rfl rfl rfl) ?_;refine TD1.light rfl rfl rfl rfl (Val.faddr_ptr (fo := 0) rfl rfl rfl) ?_;refine TD1.read rfl rfl rfl rfl (Val.load_row (p := 0) rfl ⟨_, rfl, rfl⟩ rfl rfl rfl) ?_;refine TD1.light rfl rfl rfl rfl (Val.mul rfl rfl (by omega)) ?_;refine TD1.light rfl rfl rfl rfl (Val.nil_ptr rfl) ?_;refine TD1.light rfl rfl rfl rfl (Val.faddr_ptr (fo := 4) rfl rfl rfl) ?_;refine TD1.light rfl rfl rfl rfl (Val.iaddr_array (m := 8) (u := 6) rfl rfl rfl rfl (by omega)) ?_;refine TD1.light rfl rfl rfl rfl (Val.iaddr_array (m := 6) (u := 1) rfl rfl rfl rfl (by omega)) ?_;refine TD1.over (fun v => sameC_refl v) (all_cons (⟨_, rfl, Val.load_row (p := 0) rfl ⟨_, rfl, rfl⟩ rfl rfl rfl⟩) (all_cons (⟨_, rfl, Val.load_row (p := 1) rfl ⟨_, rfl, rfl⟩ rfl rfl rfl⟩) (all_cons (⟨_, rfl, Val.load_row (p := 2) rfl ⟨_, rfl, rfl⟩ rfl rfl rfl⟩) all_nil))) ?_
   have hset : spliceL (roomC gb gr gs gq L nilS) (4 + (n : Int).toNat * 6 + (j : Int).toNat * 1) [iv (q.hours * a.light)] = roomC gb gr gs gq (L.set ((n : Int).toNat * 6 + (j : Int).toNat) (q.hours * a.light)) nilS := by
    rw [show 4 + (n : Int).toNat * 6 + (j : Int).toNat * 1 = 4 + ((n : Int).toNat * 6 + (j : Int).toNat) by omega];exact roomC_set hL (by omega) _
   refine TD2.heavy (fun v => sameC_refl v) rfl (by decide) rfl rfl (OpS.eff (Eff.store_row (p := 3) (m := 1) (cv := [_]) rfl rfl rfl (roomC_len hL) rfl rfl rfl rfl rfl (by omega) hset)) ?_;rintro _ _ rfl;refine ⟨(all_cons (.inl (by kernel_rfl)) (all_cons (.inl (by kernel_rfl)) (all_cons (.inl (by kernel_rfl)) all_nil))), all_nil, ?_⟩;refine TD2.things (hs' := .row b7 2 (qQ.f a) :: .row b5 4 (qK.f q) :: base (L.set ((n : Int).toNat * 6 + (j : Int).toNat) (q.hours * a.light))) rfl ?_;refine TD2.nil ?_;refine T.text rfl ?_;refine TO.val rfl rfl rfl (Val.add rfl rfl (by omega)) ?_;refine TO.val rfl rfl rfl (Val.move rfl) ?_;refine TO.nil ?_;refine ⟨gs.l.length - (j + 1), st2 (j + 1) (L.set ((n : Int).toNat * 6 + (j : Int).toNat) (q.hours * a.light)), by omega, ⟨j + 1, _, rfl, by omega, ⟨by rw [List.length_set]; exact hL, fun x hx => ?_⟩, rfl⟩, ⟨rfl, (keep_cons rfl (keep_cons rfl (keep_cons rfl (keep_cons rfl (keep_cons rfl (keep_cons rfl (keep_cons rfl (keep_cons rfl (keep_cons rfl (keep_cons rfl keep_nil)))))))))), List.sublist_cons_self _ _⟩⟩
   rcases List.mem_or_eq_of_mem_set hx with h | h
   ·exact hLok x h
   ·omega
end Go.Am.YtgbbhdoobhdadaaGreatDoor
end
section
namespace Go.Am
open Go.RowKit
def clipOf : AV → AV
 | .slice id off k _ l _ => bif Nat.beq l 0 then .empty else .slice id off k true l l
 | v => v
section
variable {α : Type} {en : En α} {l l2 : List α} {E : Env} {σ : Sl} {hs : List Thing} {p q : Nat} {z z2 : Bool} {v w : AV} {st e b : Nat} {x y y2 : Operand} {ts : Array TypeId}
theorem Val.clip (hp : hs[p]? = some (ownL z v en l)) (ht : SliceT E st e en.u) (hx : evs σ x = some v) (hy : evs σ y = some (iv l.length)) (hy2 : evs σ y2 = some (iv l.length)) :
  Val E σ hs (.slice st x none (some y) (some y2)) (clipOf v) := fun ev S he hS o ho => by
 have h1 := he _ _ hx
 have h2 := he _ _ hy
 have h3 := he _ _ hy2
 rcases hS.own hp with ⟨g0, g1, g2, g3⟩ | ⟨id, ex, g1, g2, g3, fl, g4, g5⟩
 ·subst g1
  have hl0 : l.length = 0 := g2;unfold aop; rw [ho];simp only [h1, h2, h3, hl0, Option.map_some, Option.map_none, nilS, aslice, ht.1, ht.2, ofOpt, Except.bind, isLitInt, valOf, clipOf];rfl
 ·subst g1
  have er : rowOf S id = .ok (l.flatMap en.f, en.u, fl) := by unfold rowOf; rw [g5]
  unfold aop; rw [ho]
  by_cases hl0 : l.length = 0
  ·simp only [h1, h2, h3, hl0, Option.map_some, Option.map_none, aslice, ht.1, ht.2, ofOpt, Except.bind, isLitInt, valOf, clipOf];rfl
  ·have e0 : decide ((l.length : Int) = 0) = false := decide_eq_false (by omega)
   have e1 : Nat.beq l.length 0 = false := beq_false.2 hl0
   have e2 : decide ((0 : Int) ≤ (l.length : Int)) = true := decide_eq_true (by omega)
   have e3 : decide ((l.length : Int) ≤ (l.length : Int)) = true := decide_eq_true (by omega)
   have e4 : Nat.beq en.u en.u = true := Nat.beq_refl _;simp only [h1, h2, h3, Option.map_some, Option.map_none, aslice, ht.1, ht.2, ofOpt, Except.bind, isLitInt, valOf, clipOf, e0, e1, Bool.false_and, cond_false, aclip, boundOf, intOf?, e2, e3, Bool.and_self, cond_true, Int.toNat_natCast, er, e4, Option.isNone_none];rfl
theorem Eff.append_clip (ht : AppT E st e en.u b) (hts : ts[0]? = some st) (hni : notInt E ts[1]? = .ok ()) (hp : hs[p]? = some (ownL z v en l)) (hq : hs[q]? = some (ownL z2 w en l2)) (h0 : l2.length ≠ 0)
  (hx : evs σ x = some (clipOf v)) (hy : evs σ y = some w) (hone : (l2.flatMap en.f).all oneCell = true) (hb : b ≤ 128) (hbig : l.length + l2.length < 1000000000) :
  Eff E σ hs (.call { callee := .builtin .append, args := #[x, y], argTypes := ts }) fun v' hs' => hs' = ownL false v' en (l ++ l2) :: hs := fun ev S he hS o ho => by
 obtain ⟨t1, t2, t3, ⟨zz, t4, t5⟩, t6, t7⟩ := ht;obtain ⟨s1, s2, s3, s4⟩ := src_own hS hq hone
 have hbb : (2 * (l.length + l2.length) + 1000) * b ≤ (2 * 1000000000 + 1000) * 128 := Nat.mul_le_mul (by omega) hb
 have hbb2 : (2 * l2.length + 1000) * b ≤ (2 * 1000000000 + 1000) * 128 := Nat.mul_le_mul (by omega) hb
 have b0 : Nat.beq l2.length 0 = false := beq_false.2 h0
 have b1 : Nat.beq b 0 = false := beq_false.2 t7
 have b2 : Nat.beq en.u 0 = false := beq_false.2 t6
 have b3 : Nat.beq (l2.flatMap en.f).length (l2.length * en.u) = true := by rw [s3]; exact Nat.beq_refl _
 have b4 : Nat.beq (zeroCells zz).length en.u = true := by rw [t5]; exact Nat.beq_refl _
 have b5 : Nat.blt ((2 * l2.length + 1000) * b) (2 ^ 48) = true := blt_true.2 (by omega)
 have hnil : ∀ (m : Nat), m = 0 → l.length = m → ∃ v' S' hs', aappend E S ts [.empty, w] = .ok (v', S') ∧ aappend E S ts [nilS, w] = .ok (v', S') ∧ HasS S' hs' ∧ hs' = ownL false v' en (l ++ l2) :: hs := by
  intro m hm hl
  have hl' : l = [] := List.eq_nil_of_length_eq_zero (by omega);subst hl';refine ⟨.slice S.next 0 (l2.flatMap en.f).length false l2.length l2.length, S.new (.row (l2.flatMap en.f) en.u 0), _, ?_, ?_, ?_, rfl⟩
  ·unfold aappend;simp only [hts, t1, t2, t3, hni, s1, ofOpt, Except.bind, b0, cond_false, s2 h0, t4, b1, b2, b3, b4, Bool.not_true, Bool.or_self, b5, cond_true, newSliceA]
  ·unfold aappend;simp only [nilS, hts, t1, t2, t3, hni, s1, ofOpt, Except.bind, b0, cond_false, s2 h0, t4, b1, b2, b3, b4, Bool.not_true, Bool.or_self, b5, cond_true, newSliceA]
  ·exact hS.new _ (x := ownL false (.slice S.next 0 (l2.flatMap en.f).length false l2.length l2.length) en l2) (Or.inr ⟨S.next, false, rfl, s3, fun _ => h0, 0, Nat.zero_le _, by rw [St.new_get, if_pos rfl]⟩) fun i hi => by cases hi; rfl
 have hfin : ∀ v' S' hs', aappend E S ts [clipOf v, w] = .ok (v', S') → HasS S' hs' → hs' = ownL false v' en (l ++ l2) :: hs → ∃ v' S' hs', aop E S ev o = .ok (.val v', S') ∧ HasS S' hs' ∧ hs' = ownL false v' en (l ++ l2) :: hs := by
  intro v' S' hs' h1 h2 h3;refine ⟨v', S', hs', ?_, h2, h3⟩;unfold aop; rw [ho];simp only [acall, abuiltin, List.map_cons, List.map_nil, he _ _ hx, he _ _ hy, h1, Except.bind]
 rcases hS.own hp with ⟨g0, g1, g2, g3⟩ | ⟨id, ex, g1, g2, g3, fl, g4, g5⟩
 ·subst g1;obtain ⟨v', S', hs', k1, k2, k3, k4⟩ := hnil 0 rfl g2;exact hfin v' S' hs' k2 k3 k4
 ·subst g1
  by_cases hl0 : l.length = 0
  ·obtain ⟨v', S', hs', k1, k2, k3, k4⟩ := hnil 0 rfl hl0;refine hfin v' S' hs' ?_ k3 k4
   have : clipOf (.slice id 0 (l.flatMap en.f).length ex l.length l.length) = .empty := by simp [clipOf, hl0]
   rw [this]; exact k1
  ·have e1 : Nat.beq l.length 0 = false := beq_false.2 hl0
   have er : rowOf S id = .ok (l.flatMap en.f, en.u, fl) := by unfold rowOf; rw [g5]
   have el : loadN S id 0 (l.flatMap en.f).length (l.length * en.u) = .ok (l.flatMap en.f) := by
    have := (hS.loadAll (id := id) (u := en.u) (cells := l.flatMap en.f) ⟨fl, g4, g5⟩).2 0 (l.length * en.u) (by rw [flat_len]; omega);rw [List.drop_zero, List.take_of_length_le (by rw [flat_len]; omega)] at this;exact this
   have b6 : Nat.blt ((2 * (l.length + l2.length) + 1000) * b) (2 ^ 48) = true := blt_true.2 (by omega)
   have b7 : Nat.ble (l.length + l2.length) l.length = false := by
    cases hb : Nat.ble (l.length + l2.length) l.length with
    | false => rfl
    | true => have := Nat.le_of_ble_eq_true hb; omega
   refine hfin (.slice S.next 0 ((l ++ l2).flatMap en.f).length false (l ++ l2).length (l ++ l2).length) (S.new (.row ((l ++ l2).flatMap en.f) en.u 0)) _ ?_ (hS.new _ (x := ownL false (.slice S.next 0 ((l ++ l2).flatMap en.f).length false (l ++ l2).length (l ++ l2).length) en (l ++ l2)) (Or.inr ⟨S.next, false, rfl, flat_len en _, fun h => (by cases h), 0, Nat.zero_le _, by rw [St.new_get, if_pos rfl]⟩) fun i hi => by cases hi; rfl) rfl;unfold aappend;simp only [clipOf, e1, cond_false, hts, t1, t2, t3, hni, s1, ofOpt, Except.bind, b0, s2 h0, t4, b1, b2, b3, b4, Bool.not_true, Bool.or_self, er, Nat.beq_refl, b6, b7, cond_true, el, newSliceA, List.flatMap_append, List.length_append]
end
end Go.Am
end
section
namespace Go.Am.YtgbbhdoobhdadaaGreatDoor
open Go.Am Go.RowKit
set_option linter.unusedVariables false
set_option maxRecDepth 100000
variable {k : Nat} {gb : GS qJ} {gr : GS qR} {gs : GS qQ} {gq : GS qK} {C : List Thing}
theorem outside_nil (lo hi : Int) : P_rd_outside lo hi [] = some false := by
 have h : iter (P_rd_outside_L1 lo hi []) 0 = some (Ex.nx ()) := iter_eq.2 (.inr (by unfold P_rd_outside_L1; rw [if_neg (by simp)]));unfold P_rd_outside;rw [h];rfl
theorem tf_enter (hk : 1 ≤ k) (hI : RoomIn gb gr gs gq) {a b : Int} (hck : P_rd_Check gb.l gr.l gs.l gq.l = some (a, b, 0)) :
  TF (EL k) 42 [.agg [gb.v, gr.v, gs.v, gq.v], nilS] C (RepF (fun w : RoomW => .tuple [.ptr w.bx 0 53, iv 0]) fun w => w.things gb gr gs gq C) := by
 have hq8 := hI.q8;refine TF.enter (fn := Go.Proofs.Tryz.f42) rfl rfl rfl rfl rfl ?_;refine T.seq ?_;refine T.text rfl ?_;refine TO.box (k := 4) (cells := [_, _, _, _]) rfl rfl rfl rfl rfl rfl rfl (fun b2 => ?_);refine TO.val rfl rfl rfl (Val.assign rfl) ?_;refine TO.val rfl rfl rfl (Val.assign rfl) ?_;refine TO.nil ?_;refine T.seq ?_;refine T.seq ?_;refine T.text rfl ?_;refine TO.val rfl rfl rfl (Val.load_rows (p := 0) (c := [gb.v, gr.v, gs.v, gq.v]) rfl ⟨⟨_, rfl, rfl⟩, rfl, by decide⟩ rfl rfl rfl rfl) ?_;refine TO.call rfl rfl rfl rfl rfl (orcL rfl (by omega)) (.cons (.agg (.cons .gs (.cons .gs (.cons .gs (.cons .gs .nil))))) .nil) (sem_of (w_rd_Check gb gr gs gq _ hck)) ?_;refine TO.val rfl rfl rfl (Val.move rfl) ?_;refine TO.val rfl rfl rfl (Val.extract rfl rfl) ?_;refine TO.val rfl rfl rfl (Val.extract rfl rfl) ?_;refine TO.val rfl rfl rfl (Val.extract rfl rfl) ?_;refine TO.val rfl rfl rfl (Val.assign rfl) ?_;refine TO.val rfl rfl rfl (Val.assign rfl) ?_;refine TO.val rfl rfl rfl (Val.assign rfl) ?_;refine TO.nil ?_;refine T.seq ?_;refine T.text rfl ?_;refine TO.val rfl rfl rfl (Val.move rfl) ?_;refine TO.val rfl rfl rfl (Val.neq (c := false) rfl rfl rfl) ?_;refine TO.nil ?_;refine T.condF (fun a ha => ha.ev (.tmp 17) _ rfl) ?_;refine T.skip ?_;refine T.seq ?_;refine T.seq ?_;refine T.text rfl ?_;refine TO.val rfl rfl rfl (Val.faddr_ptr (fo := 3) rfl rfl rfl) ?_;refine TO.val rfl rfl rfl (Val.load_row (p := 0) rfl ⟨_, rfl, rfl⟩ rfl rfl rfl) ?_;refine TO.val rfl rfl rfl (Val.len_gs (gs := gq) rfl rfl) ?_;refine TO.val rfl rfl rfl (Val.sub rfl rfl (by omega)) ?_;refine TO.val rfl rfl rfl (Val.move rfl) ?_;refine TO.callV rfl rfl rfl rfl rfl rfl (orcN rfl) (RepF.conv (tf_rd_outside (by omega) Rdl.nil (outside_nil _ _))) ?_;rintro _ _ ⟨_, rfl, rfl⟩;refine TO.nil ?_;refine T.condF (fun a ha => ha.ev (.tmp 24) _ rfl) ?_;refine T.skip ?_;refine T.seq ?_;refine T.seq ?_;refine T.text rfl ?_;refine TO.val rfl rfl rfl (Val.assign rfl) ?_;refine TO.nil ?_;refine T.block ?_;refine T.loop (fun μ s => s = ⟨[], [(1, nilS), (2, .ptr b2 0 4), (9, iv 1)], .row b2 4 [gb.v, gr.v, gs.v, gq.v] :: C⟩) (k := 0) rfl ⟨rfl, (keep_cons rfl (keep_cons rfl (keep_cons rfl keep_nil))), .refl _⟩ ?_;rintro μ _ rfl;refine T.seq ?_;refine T.seq ?_;refine T.text rfl ?_;refine TO.val rfl rfl rfl (Val.move rfl) ?_;refine TO.val rfl rfl rfl (Val.move rfl) ?_;refine TO.val rfl rfl rfl (Val.len_gso (z := true) (e := encI) (l := []) rfl rfl) ?_;refine TO.val rfl rfl rfl (Val.lss (c := false) rfl rfl rfl) ?_;refine TO.nil ?_;refine T.condF (fun a ha => ha.ev (.tmp 28) _ rfl) ?_;refine T.exit ?_;refine T.seq ?_;refine T.text rfl ?_;refine TO.val rfl rfl rfl (Val.load_rows (p := 0) (c := [gb.v, gr.v, gs.v, gq.v]) rfl ⟨⟨_, rfl, rfl⟩, rfl, by decide⟩ rfl rfl rfl rfl) ?_;refine TO.callV rfl rfl rfl rfl rfl rfl (orcN rfl) (RepF.conv ((tf_look hI).less (Pk.less (.drop .refl)))) ?_;rintro _ _ ⟨w, rfl, rfl⟩;refine TO.val rfl rfl rfl (Val.assign rfl) ?_;refine TO.val rfl rfl rfl (Val.assign rfl) ?_
 refine TO.nil ?_;refine T.ret ?_;exact ⟨rfl, _, rfl, ⟨w, rfl, .refl⟩⟩
theorem tf_clip {p : Nat} {z : Bool} {v : AV} {l : List Int} {hs : List Thing} (hp : hs[p]? = some (ownL z v encI l)) : TF (EL k) 43 [v] hs (RepF (fun _ : Unit => clipOf v) fun _ => hs) := by
 refine TF.enter (fn := Go.Proofs.Tryz.f43) rfl rfl rfl rfl rfl ?_;refine T.seq ?_;refine T.text rfl ?_;refine TO.val rfl rfl rfl (Val.assign rfl) ?_;refine TO.nil ?_;refine T.seq ?_;refine T.text rfl ?_;refine TO.val rfl rfl rfl (Val.move rfl) ?_;refine TO.val rfl rfl rfl (Val.move rfl) ?_;refine TO.val rfl rfl rfl (Val.len_own (p := p) hp rfl rfl) ?_;refine TO.val rfl rfl rfl (Val.move rfl) ?_;refine TO.val rfl rfl rfl (Val.len_own (p := p) hp rfl rfl) ?_;refine TO.val rfl rfl rfl (Val.clip (p := p) hp ⟨rfl, rfl⟩ rfl rfl rfl) ?_;refine TO.val rfl rfl rfl (Val.assign rfl) ?_;refine TO.nil ?_;refine T.ret ?_;exact ⟨rfl, _, rfl, ⟨(), rfl, .refl⟩⟩
structure TurnW (l : List qY) (nS : Nat) where
 z : Bool
 v : AV
 g : List Int
 ok : GrantOk l nS g
 at_ : ∀ r ∈ g, 0 ≤ r ∧ r < l.length
theorem Room.up {gb : GS qJ} {gr : GS qR} {gs : GS qQ} {gq : GS qK} {bx b1 b8 b3 : Nat} {vr : AV} {L : List Int} {C C' : List Thing} (R : Room C gb gr gs gq bx b1 b8 b3 vr L) (h : ∀ x ∈ C, x ∈ C') : Room C' gb gr gs gq bx b1 b8 b3 vr L :=
 ⟨h _ R.row1, h _ R.row8, h _ R.row3, h _ R.rowx, h _ R.rules, R.L48, R.Lok, R.req, R.q8, R.s6⟩
theorem tf_Turn (hk : 1 ≤ k) (hI : RoomIn gb gr gs gq) {a b : Int} (hck : P_rd_Check gb.l gr.l gs.l gq.l = some (a, b, 0)) :
  TF (EL k) 8 [.agg [gb.v, gr.v, gs.v, gq.v]] [] (RepF (fun w : TurnW gq.l gs.l.length => .tuple [w.v, iv 0]) fun w => [ownL w.z w.v encI w.g]) := by
 have hq8 := hI.q8;refine TF.enter (fn := Go.Proofs.Tryz.f8) rfl rfl rfl rfl rfl ?_;refine T.seq ?_;refine T.text rfl ?_;refine TO.box (k := 4) (cells := [_, _, _, _]) rfl rfl rfl rfl rfl rfl rfl (fun b0 => ?_);refine TO.val rfl rfl rfl (Val.assign rfl) ?_;refine TO.val rfl rfl rfl (Val.assign rfl) ?_;refine TO.nil ?_;refine T.seq ?_;refine T.text rfl ?_;refine TO.val rfl rfl rfl (Val.load_rows (p := 0) (c := [gb.v, gr.v, gs.v, gq.v]) rfl ⟨⟨_, rfl, rfl⟩, rfl, by decide⟩ rfl rfl rfl rfl) ?_;refine TO.callV rfl rfl rfl rfl rfl rfl (orcN rfl) (RepF.conv (tf_enter hk hI hck)) ?_;rintro _ _ ⟨w, rfl, rfl⟩;refine TO.things (hs' := w.things gb gr gs gq [.row b0 4 [gb.v, gr.v, gs.v, gq.v]]) rfl ?_
 have hroom := w.room (C := [.row b0 4 [gb.v, gr.v, gs.v, gq.v]]) hI;generalize hB : w.things gb gr gs gq [.row b0 4 [gb.v, gr.v, gs.v, gq.v]] = B at hroom
 have hb0 : B[5]? = some (.row b0 4 [gb.v, gr.v, gs.v, gq.v]) := by rw [← hB]; rfl
 clear hB
 refine TO.val rfl rfl rfl (Val.move rfl) ?_;refine TO.val rfl rfl rfl (Val.extract rfl rfl) ?_;refine TO.val rfl rfl rfl (Val.extract rfl rfl) ?_;refine TO.val rfl rfl rfl (Val.assign rfl) ?_;refine TO.val rfl rfl rfl (Val.assign rfl) ?_;refine TO.nil ?_;refine T.seq ?_;refine T.seq ?_;refine T.text rfl ?_;refine TO.val rfl rfl rfl (Val.move rfl) ?_;refine TO.val rfl rfl rfl (Val.neq (c := false) rfl rfl rfl) ?_;refine TO.nil ?_;refine T.condF (fun a ha => ha.ev (.tmp 13) _ rfl) ?_;refine T.skip ?_;refine T.seq ?_;refine T.seq ?_;refine T.text rfl ?_;refine TO.val rfl rfl rfl (Val.faddr_ptr (fo := 3) rfl rfl rfl) ?_;refine TO.val rfl rfl rfl (Val.load_row (p := 5) hb0 ⟨_, rfl, rfl⟩ rfl rfl rfl) ?_;refine TO.val rfl rfl rfl (Val.len_gs (gs := gq) rfl rfl) ?_;refine TO.val rfl rfl rfl (Val.move rfl) ?_;refine TO.nilown (u := 1) ?_;refine TO.nil ?_;refine T.block ?_
 let st : Nat → TurnW gq.l gs.l.length → Sy := fun n t => ⟨[], [(1, .ptr b0 0 4), (2, t.v), (4, .ptr w.bx 0 53), (17, iv gq.l.length), (18, iv n)], ownL t.z t.v encI t.g :: B⟩
 let t0 : TurnW gq.l gs.l.length := ⟨true, nilS, [], ⟨by simp [Apart], by simp⟩, by simp⟩
 refine T.loop (fun μ s => ∃ (n : Nat) (t : TurnW gq.l gs.l.length), μ = gq.l.length - n ∧ n ≤ gq.l.length ∧ t.g.length ≤ n ∧ s = st n t) (k := gq.l.length) (s' := st 0 t0) ⟨0, t0, rfl, Nat.zero_le _, Nat.le_refl _, rfl⟩ ⟨rfl, (keep_cons rfl (keep_cons rfl (keep_cons rfl (keep_cons rfl (keep_cons rfl keep_nil))))), .refl _⟩ ?_;rintro μ _ ⟨n, t, rfl, hn, htn, rfl⟩;refine T.seq ?_;refine T.text rfl ?_;obtain ⟨c19, hc19⟩ : ∃ c : Bool, c = decide ((n : Int) < (gq.l.length : Int)) := ⟨_, rfl⟩;refine TO.val rfl rfl rfl (Val.lss hc19 rfl rfl) ?_;refine TO.nil ?_;refine T.seq ?_;cases c19 with
 | false =>
  refine T.condF (fun a ha => ha.ev (.tmp 19) _ rfl) ?_;refine T.exit ?_;refine T.seq ?_;refine T.text rfl ?_;refine TO.val rfl rfl rfl (Val.move rfl) ?_;refine TO.val rfl rfl rfl (Val.assign rfl) ?_;refine TO.val rfl rfl rfl (Val.assign rfl) ?_;refine TO.nil ?_;refine T.ret ?_;exact ⟨rfl, _, rfl, ⟨t, rfl, .pick (p := 0) rfl .nil⟩⟩
 | true =>
  replace hc19 := of_decide_eq_true hc19.symm;refine T.condT (fun a ha => ha.ev (.tmp 19) _ rfl) ?_;refine T.skip ?_;refine T.seq ?_;refine T.block ?_;refine T.seq ?_;refine T.text rfl ?_;refine TO.val rfl rfl rfl (Val.move rfl) ?_;refine TO.val rfl rfl rfl (Val.assign rfl) ?_;refine TO.nil ?_;refine T.seq ?_;refine T.text rfl ?_;refine TO.val rfl rfl rfl (Val.move rfl) ?_;refine TO.callV rfl rfl rfl rfl rfl rfl (orcN rfl) (RepF.conv (tf_clip (p := 0) rfl)) ?_;rintro _ _ ⟨_, rfl, rfl⟩;refine TO.val rfl rfl rfl (Val.move rfl) ?_;refine TO.buildSlice (u := 1) (cells := [iv n]) (vs := [(0, iv n)]) rfl rfl rfl ⟨rfl, rfl⟩ rfl rfl rfl rfl rfl rfl (fun v1 => ?_);refine TO.eff rfl rfl rfl (Eff.append_clip (en := encI) (l := t.g) (l2 := [(n : Int)]) (p := 1) (q := 0) (b := 8) ⟨rfl, rfl, rfl, ⟨_, rfl, rfl⟩, by decide, by decide⟩ rfl rfl rfl rfl (by simp) rfl rfl rfl (by decide) (by simp; omega)) ?_;rintro vm _ rfl;refine TO.val rfl rfl rfl (Val.assign rfl) ?_;refine TO.nil ?_
  have hmore : ∀ r ∈ t.g ++ [(n : Int)], 0 ≤ r ∧ r < gq.l.length := by
   intro r hr
   rcases List.mem_append.1 hr with h | h
   ·exact t.at_ r h
   ·simp at h; omega
  refine T.seq ?_;refine T.text rfl ?_;refine TO.val rfl rfl rfl (Val.move rfl) ?_;refine TO.val rfl rfl rfl (Val.move rfl) ?_;refine TO.callV rfl rfl rfl rfl rfl rfl (orcN rfl) (RepF.conv (tf_can (hroom.up (memS (memS mem0))) hmore (by simp; omega))) ?_;rintro _ _ ⟨⟨c28, hgr⟩, rfl, rfl⟩;refine TO.nil ?_;cases c28 with
  | true =>
   refine T.condT (fun a ha => ha.ev (.tmp 28) _ rfl) ?_;refine T.text rfl ?_;refine TO.val rfl rfl rfl (Val.move rfl) ?_;refine TO.val rfl rfl rfl (Val.assign rfl) ?_;refine TO.nil ?_;refine T.text rfl ?_;refine TO.val rfl rfl rfl (Val.add rfl rfl (by omega)) ?_;refine TO.val rfl rfl rfl (Val.move rfl) ?_;refine TO.nil ?_;exact ⟨gq.l.length - (n + 1), st (n + 1) ⟨false, vm, t.g ++ [(n : Int)], hgr rfl, hmore⟩, by omega, ⟨n + 1, _, rfl, by omega, by simp; omega, rfl⟩, ⟨rfl, (keep_cons rfl (keep_cons rfl (keep_cons rfl (keep_cons rfl (keep_cons rfl keep_nil))))), .cons_cons _ (.cons _ (.cons _ (.refl _)))⟩⟩
  | false =>
   refine T.condF (fun a ha => ha.ev (.tmp 28) _ rfl) ?_;refine T.skip ?_;refine T.text rfl ?_;refine TO.val rfl rfl rfl (Val.add rfl rfl (by omega)) ?_;refine TO.val rfl rfl rfl (Val.move rfl) ?_;refine TO.nil ?_;exact ⟨gq.l.length - (n + 1), st (n + 1) t, by omega, ⟨n + 1, t, rfl, by omega, by omega, rfl⟩, ⟨rfl, (keep_cons rfl (keep_cons rfl (keep_cons rfl (keep_cons rfl (keep_cons rfl keep_nil))))), .cons _ (.cons _ (.refl _))⟩⟩
end Go.Am.YtgbbhdoobhdadaaGreatDoor
end
section
namespace Go.Am
set_option linter.unusedVariables false
noncomputable def P_top_Fetched_L1 (s_Shelves : List qD) (s_Books : List qA) (r_Requests : List qY) (carry : UInt8) (y47 : List Int) (y47_2 : Bool) : (Int × Bool × Int × (List Int)) → Option (Stp (Int × Bool × Int × (List Int)) (Ex (Int × Bool × (List Int)) Bool)) := fun (alone, heavy, i, books) =>
  if i < (((GSo y47_2 encI y47).l).length : Int) then
    seqx (
      seqx (
        andx (
          el ((GSo y47_2 encI y47).l) i fun a72 =>
          if a72 < 0 then
            some true
          else
            el ((GSo y47_2 encI y47).l) i fun a78 =>
            some (decide (a78 ≥ (r_Requests.length : Int)))) fun x84 =>
          if x84 = true then
            some (Ex.rt (Ex.rt (Stp.dn (Ex.rt false))))
          else
            some (Ex.nx ())) fun _ =>
        el ((GSo y47_2 encI y47).l) i fun a89 =>
        el r_Requests a89 fun a91 =>
        if a91.book ≥ (s_Books.length : Int) then
          some (Ex.nx (alone, heavy, books))
        else
          el s_Books a91.book fun a104 =>
          el s_Shelves a104.shelf fun a107 =>
          chk (I64 (2 * a107.away)) (
            chk (I64 (alone + (2 * a107.away))) (
              chk (I64 (2 * a107.climb)) (
                chk (I64 ((alone + (2 * a107.away)) + (2 * a107.climb))) (
                  chk (books.length + [a91.book].length < 1000000000) (
                    if heavy = true then
                      some (Ex.nx (((alone + (2 * a107.away)) + (2 * a107.climb)), true, books ++ [a91.book]))
                    else
                      el s_Books a91.book fun a127 =>
                      some (Ex.nx (((alone + (2 * a107.away)) + (2 * a107.climb)), decide (a127.heavy > (1 + (Int.tmod (carry.toNat : Int) 100))), books ++ [a91.book])))))))) fun (alone_2, heavy_2, books_2) =>
      chk (I64 (i + 1)) (
        some (Stp.ag (alone_2, heavy_2, (i + 1), books_2)))
  else
    some (Stp.dn (Ex.nx (alone, heavy, books)))
noncomputable def P_top_Fetched (X_ : Option (List Int × Bool × Int)) (s_Classes : List Str) (s_Shelves : List qD) (s_Books : List qA) (qC : List qX) (r_Readers : List qAa) (r_Seats : List qAe) (r_Requests : List qY) (carry : UInt8) : Option Bool :=
  andx (P_r9_Check s_Classes s_Shelves s_Books) fun (y25, y25_2, y25_3) =>
    andx (P_r10_Check qC r_Readers r_Seats r_Requests) fun (y31, y31_2, y31_3) =>
      seqx (
        andx (
          if ¬ y25_3 = 0 then
            some true
          else
            some (decide (¬ y31_3 = 0))) fun x40 =>
          if x40 = true then
            andx (
              some ()) fun _ =>
              some (Ex.rt true)
          else
            some (Ex.nx ())) fun _ =>
        andx X_ fun (y47, y47_2, y47_3) =>
          seqx (
            andx (
              if ¬ y47_3 = 0 then
                some true
              else
                some (decide ((((GSo y47_2 encI y47).l).length : Int) > (r_Seats.length : Int)))) fun x59 =>
              if x59 = true then
                some (Ex.rt false)
              else
                some (Ex.nx ())) fun _ =>
            chk (-9223372036854775808 ≤ (carry.toNat : Int) ∧ (carry.toNat : Int) < 9223372036854775808) (
              chk ((0 : Int) < 100) (
                chk (I64 (1 + (Int.tmod (carry.toNat : Int) 100))) (
                  seqx (
                    iter (P_top_Fetched_L1 s_Shelves s_Books r_Requests carry y47 y47_2) (0, false, 0, [])) fun (alone, heavy, books) =>
                    andx (P_s9_Walk s_Classes s_Shelves s_Books books (1 + (Int.tmod (carry.toNat : Int) 100))) fun (y137, y137_2, y137_3, y137_4) =>
                      if heavy = true then
                        andx (
                          if y137_4 = 9 then
                            some true
                          else
                            some false) fun x6 =>
                          some x6
                      else
                        andx (
                          if y137_4 = 0 then
                            if (((GSo y137_2 encI y137).l).length : Int) = (books.length : Int) then
                              if y137_3 ≤ alone then
                                some true
                              else
                                some false
                            else
                              some false
                          else
                            some false) fun x6 =>
                          some x6)))
end Go.Am
end
section
namespace Go.Am.YtgbbhdoobhdadaaGreatDoor
open Go.Am Go.RowKit
set_option linter.unusedVariables false
set_option linter.unusedSimpArgs false
set_option maxRecDepth 10000 in
theorem reifT {α : Type} {en : En α} {v : AV} {l : List α} {hs : List Thing} (h : RdT en v l) : ∃ g : GS en, g.l = l ∧ (∀ k, Reif (k + 1) hs v g.v) ∧ g.v = v := by
 obtain ⟨g, rfl, rfl⟩ := h;exact ⟨g, rfl, fun _ => .gs, rfl⟩
set_option maxRecDepth 10000 in
theorem tf_top_Fetched {k : Nat} (hk : 2 ≤ k) {C : List Thing} {X_ : Option (List Int × Bool × Int)} {v_s_Classes : AV} {s_Classes : List Str} {v_s_Shelves : AV} {s_Shelves : List qD} {v_s_Books : AV} {s_Books : List qA} {qB : AV} {qC : List qX} {v_r_Readers : AV} {r_Readers : List qAa} {v_r_Seats : AV} {r_Seats : List qAe} {v_r_Requests : AV} {r_Requests : List qY} {carry : UInt8} (ht_s_Classes : RdT encStr v_s_Classes s_Classes) (ht_s_Shelves : RdT qZ v_s_Shelves s_Shelves) (ht_s_Books : RdT qS v_s_Books s_Books) (qAf : RdT qJ qB qC) (ht_r_Readers : RdT qR v_r_Readers r_Readers) (ht_r_Seats : RdT qQ v_r_Seats r_Seats) (ht_r_Requests : RdT qK v_r_Requests r_Requests) {r : Bool} (w_X : ∀ (g1 : GS qJ) (g2 : GS qR) (g3 : GS qQ) (g4 : GS qK) (r : List Int × Bool × Int), g1.v = qB → g2.v = v_r_Readers → g3.v = v_r_Seats → g4.v = v_r_Requests → X_ = some r → Comes (EL 1) 8 [.agg [g1.v, g2.v, g3.v, g4.v]] (.tuple [(GSo r.2.1 encI r.1).v, iv r.2.2])) (h : P_top_Fetched X_ s_Classes s_Shelves s_Books qC r_Readers r_Seats r_Requests carry = some r) :
  TF (EL k) 3 [.agg [v_s_Classes, v_s_Shelves, v_s_Books], .agg [qB, v_r_Readers, v_r_Seats, v_r_Requests], ivk .u8 ((carry.toNat : Int))] C (RepF (fun (w : Unit) => bv r) (fun (w : Unit) => C)) := by
 unfold P_top_Fetched at h
 have h_s_Classes : Rdl C encStr v_s_Classes s_Classes := RdT.rdl ht_s_Classes
 have h_s_Shelves : Rdl C qZ v_s_Shelves s_Shelves := RdT.rdl ht_s_Shelves
 have h_s_Books : Rdl C qS v_s_Books s_Books := RdT.rdl ht_s_Books
 have qI : Rdl C qJ qB qC := RdT.rdl qAf
 have h_r_Readers : Rdl C qR v_r_Readers r_Readers := RdT.rdl ht_r_Readers
 have h_r_Seats : Rdl C qQ v_r_Seats r_Seats := RdT.rdl ht_r_Seats
 have h_r_Requests : Rdl C qK v_r_Requests r_Requests := RdT.rdl ht_r_Requests;refine TF.enter (fn := Go.Proofs.Tryz.f3) rfl rfl rfl rfl rfl (zU rfl (zQ 3 [_,_,_] R7 (fun b3=>zQ 4 [_,_,_,_] R7 (fun b4=>zA R4 (zN (zU rfl (zV R3 (vW 1 [_,_,_] R5 R4) ?_)))))));obtain ⟨⟨y25, y25_2, y25_3⟩, hr25, h⟩ := andx_some h;dsimp only at h;obtain ⟨g, hgg, hrg⟩ := Rdl.reif (hs := .row b4 4 [qB, v_r_Readers, v_r_Seats, v_r_Requests] :: .row b3 3 [v_s_Classes, v_s_Shelves, v_s_Books] :: C) h_s_Classes M2 (ReifL.flat encStr_tr);obtain ⟨g_2, hgg_2, hrg_2⟩ := Rdl.reif (hs := .row b4 4 [qB, v_r_Readers, v_r_Seats, v_r_Requests] :: .row b3 3 [v_s_Classes, v_s_Shelves, v_s_Books] :: C) h_s_Shelves M2 (ReifL.flat qBe);obtain ⟨g_3, hgg_3, hrg_3⟩ := Rdl.reif (hs := .row b4 4 [qB, v_r_Readers, v_r_Seats, v_r_Requests] :: .row b3 3 [v_s_Classes, v_s_Shelves, v_s_Books] :: C) h_s_Books M2 (ReifL.flat qBd);refine TO.call rfl rfl rfl rfl rfl (orcL rfl aD) (.cons (.agg (.cons (hrg _) (.cons (hrg_2 _) (.cons (hrg_3 _) .nil)))) .nil) (sem_of (w_r9_Check g g_2 g_3 _ (by try rw [hgg]; try rw [hgg_2]; try rw [hgg_3]; exact hr25))) (zM R4 (zX R5 (zX R5 (zX R5 (zA R4 (zA R4 (zA R4 (zN (zU rfl (zV R3 (vW 0 [_,_,_,_] R5 R4) ?_))))))))));obtain ⟨⟨y31, y31_2, y31_3⟩, hr31, h⟩ := andx_some h;dsimp only at h;obtain ⟨g_4, hgg_4, hrg_4⟩ := Rdl.reif (hs := .row b4 4 [qB, v_r_Readers, v_r_Seats, v_r_Requests] :: .row b3 3 [v_s_Classes, v_s_Shelves, v_s_Books] :: C) qI M2 (ReifL.flat qBf);obtain ⟨g_5, hgg_5, hrg_5⟩ := Rdl.reif (hs := .row b4 4 [qB, v_r_Readers, v_r_Seats, v_r_Requests] :: .row b3 3 [v_s_Classes, v_s_Shelves, v_s_Books] :: C) h_r_Readers M2 (ReifL.flat qBg);obtain ⟨g_6, hgg_6, hrg_6⟩ := Rdl.reif (hs := .row b4 4 [qB, v_r_Readers, v_r_Seats, v_r_Requests] :: .row b3 3 [v_s_Classes, v_s_Shelves, v_s_Books] :: C) h_r_Seats M2 (ReifL.flat qCa);obtain ⟨g_7, hgg_7, hrg_7⟩ := Rdl.reif (hs := .row b4 4 [qB, v_r_Readers, v_r_Seats, v_r_Requests] :: .row b3 3 [v_s_Classes, v_s_Shelves, v_s_Books] :: C) h_r_Requests M2 (ReifL.flat qBh);refine TO.call rfl rfl rfl rfl rfl (orcL rfl aD) (.cons (.agg (.cons (hrg_4 _) (.cons (hrg_5 _) (.cons (hrg_6 _) (.cons (hrg_7 _) .nil))))) .nil) (sem_of (w_r10_Check g_4 g_5 g_6 g_7 _ (by try rw [hgg_4]; try rw [hgg_5]; try rw [hgg_6]; try rw [hgg_7]; exact hr31))) (zM R4 (zX R5 (zX R5 (zX R5 (zA R4 (zA R4 (zA R4 (zN ?_))))))))
 show T _ _ _ _ _ _;apply T.join (r := r) (W := Unit) (fun j w => ⟨[], [(2, ivk .u8 ((carry.toNat : Int))), (3, .ptr b3 0 3), (4, .ptr b4 0 4)], .row b4 4 [qB, v_r_Readers, v_r_Seats, v_r_Requests] :: .row b3 3 [v_s_Classes, v_s_Shelves, v_s_Books] :: C⟩) h
 ·intro j h
  show T _ _ _ _ _ _;apply T.joinA (r := j) (W := Unit) (fun j w => ⟨[], [(2, ivk .u8 ((carry.toNat : Int))), (3, .ptr b3 0 3), (4, .ptr b4 0 4), (40, bv j)], .row b4 4 [qB, v_r_Readers, v_r_Seats, v_r_Requests] :: .row b3 3 [v_s_Classes, v_s_Shelves, v_s_Books] :: C⟩) h
  ·intro j h;refine zT rfl (zM R4 ?_);obtain ⟨c36, hc36⟩ := zY (¬ y25_3 = 0);refine zV R3 (Val.neq hc36 rfl rfl) (zM R4 ?_);obtain ⟨rfl, hc36, h⟩ | ⟨rfl, hc36, h⟩ := zI hc36 h
   ·refine zO R3 (zO R3 (zP R6 (zN ?_)));cases h;exact ⟨rfl, (), (sb .refl)⟩
   refine zM R4 ?_;obtain ⟨c39, hc39⟩ := zY (¬ y31_3 = 0);refine zV R3 (Val.neq hc39 rfl rfl) (zP R6 (zN ?_));subst hc39;cases h;exact ⟨rfl, (), (sb .refl)⟩
  ·rintro x40 _ h;replace h := zZ h;obtain ⟨rfl, h⟩ | ⟨rfl, h⟩ := h
   ·refine zC rfl ?_
    show T _ _ _ _ _ _;apply T.joinA (r := j) (W := Unit) (fun j w => ⟨[], [(6, bv true)], .row b4 4 [qB, v_r_Readers, v_r_Seats, v_r_Requests] :: .row b3 3 [v_s_Classes, v_s_Shelves, v_s_Books] :: C⟩) h
    ·intro j h;refine zT rfl (TO.call rfl rfl rfl rfl rfl orcA .nil rfl (zM R4 (TO.call rfl rfl rfl rfl rfl orcA7 .nil rfl (zP R6 (zA R4 (zN ?_))))));cases h;exact ⟨rfl, (), (sb .refl)⟩
    ·rintro _ _ h;refine zR ?_;cases h;exact ⟨ret_ne, ⟨rfl, _, rfl, ⟨(), rfl, (pk [98,98] rfl)⟩⟩⟩
   refine zD rfl (zK ?_);cases h;exact ⟨rfl, (), (sb .refl)⟩
 ·rintro _ _ h;refine zU rfl (zV R3 (vW 0 [_,_,_,_] R5 R4) ?_);obtain ⟨⟨y47, y47_2, y47_3⟩, hr47, h⟩ := andx_some h;dsimp only at h;obtain ⟨g_8, hgg_8, hrg_8, hgv_8⟩ := reifT (hs := .row b4 4 [qB, v_r_Readers, v_r_Seats, v_r_Requests] :: .row b3 3 [v_s_Classes, v_s_Shelves, v_s_Books] :: C) qAf;obtain ⟨g_9, hgg_9, hrg_9, hgv_9⟩ := reifT (hs := .row b4 4 [qB, v_r_Readers, v_r_Seats, v_r_Requests] :: .row b3 3 [v_s_Classes, v_s_Shelves, v_s_Books] :: C) ht_r_Readers;obtain ⟨g_10, hgg_10, hrg_10, hgv_10⟩ := reifT (hs := .row b4 4 [qB, v_r_Readers, v_r_Seats, v_r_Requests] :: .row b3 3 [v_s_Classes, v_s_Shelves, v_s_Books] :: C) ht_r_Seats;obtain ⟨g_11, hgg_11, hrg_11, hgv_11⟩ := reifT (hs := .row b4 4 [qB, v_r_Readers, v_r_Seats, v_r_Requests] :: .row b3 3 [v_s_Classes, v_s_Shelves, v_s_Books] :: C) ht_r_Requests;refine TO.call rfl rfl rfl rfl rfl (orcL rfl aD) (.cons (.agg (.cons (hrg_8 _) (.cons (hrg_9 _) (.cons (hrg_10 _) (.cons (hrg_11 _) .nil))))) .nil) (sem_of (w_X g_8 g_9 g_10 g_11 _ hgv_8 hgv_9 hgv_10 hgv_11 hr47)) (zM R4 (zX R5 (zX R5 (zA R4 (zA R4 (zN ?_))))))
  show T _ _ _ _ _ _;apply T.join (r := r) (W := Unit) (fun j w => ⟨[], [(2, ivk .u8 ((carry.toNat : Int))), (3, .ptr b3 0 3), (4, .ptr b4 0 4), (13, (GSo y47_2 encI y47).v)], .row b4 4 [qB, v_r_Readers, v_r_Seats, v_r_Requests] :: .row b3 3 [v_s_Classes, v_s_Shelves, v_s_Books] :: C⟩) h
  ·intro j h
   show T _ _ _ _ _ _;apply T.joinA (r := j) (W := Unit) (fun j w => ⟨[], [(2, ivk .u8 ((carry.toNat : Int))), (3, .ptr b3 0 3), (4, .ptr b4 0 4), (13, (GSo y47_2 encI y47).v), (59, bv j)], .row b4 4 [qB, v_r_Readers, v_r_Seats, v_r_Requests] :: .row b3 3 [v_s_Classes, v_s_Shelves, v_s_Books] :: C⟩) h
   ·intro j h;refine zT rfl (zM R4 ?_);obtain ⟨c51, hc51⟩ := zY (¬ y47_3 = 0);refine zV R3 (Val.neq hc51 rfl rfl) (zM R4 ?_);obtain ⟨rfl, hc51, h⟩ | ⟨rfl, hc51, h⟩ := zI hc51 h
    ·refine zO R3 (zO R3 (zO R3 (zO R3 (zO R3 (zO R3 (zP R6 (zN ?_)))))));cases h;exact ⟨rfl, (), (sb .refl)⟩
    refine zM R4 (zV R3 (Val.len_gs rfl rfl) (zF 2 R6 (zL 0 R3 R6 (zV R3 (Val.len_l h_r_Seats M2 rfl rfl) ?_))));obtain ⟨c58, hc58⟩ := zY ((((GSo y47_2 encI y47).l).length : Int) > (r_Seats.length : Int));refine zV R3 (Val.gtr hc58 rfl rfl) (zP R6 (zN ?_));subst hc58;cases h;exact ⟨rfl, (), (sb .refl)⟩
   ·rintro x59 _ h;replace h := zZ h;obtain ⟨rfl, h⟩ | ⟨rfl, h⟩ := h
    ·refine zC rfl (zU rfl (zA R4 (zN (zR ?_))));cases h;exact ⟨ret_ne, ⟨rfl, _, rfl, ⟨(), rfl, (pk [98,98] rfl)⟩⟩⟩
    refine zD rfl (zK ?_);cases h;exact ⟨rfl, (), (sb .refl)⟩
  ·rintro _ _ h;refine zU rfl (zA R4 (zN (zU rfl (zM R4 ?_))));obtain ⟨hk61, h⟩ := chk_some h;refine zV R3 (Val.conv (cv_ty5_3 hk61) rfl) ?_;obtain ⟨hk62, h⟩ := chk_some h;refine zV R3 (Val.rem rfl rfl hk62) ?_;obtain ⟨hk63, h⟩ := chk_some h;refine zV R3 (Val.add rfl rfl hk63) (zA R4 (zA R4 (zA R4 (zN ?_))))
   show T _ _ _ _ _ _;apply T.join (r := r) (W := AV) (fun j w => ⟨[], [(3, .ptr b3 0 3), (14, w), (15, iv ((1 + (Int.tmod (carry.toNat : Int) 100)))), (16, iv (j.1)), (17, bv j.2.1)], ownL true w encI j.2.2 :: .row b4 4 [qB, v_r_Readers, v_r_Seats, v_r_Requests] :: .row b3 3 [v_s_Classes, v_s_Shelves, v_s_Books] :: C⟩) h
   ·intro j h;refine zU rfl (zA R4 (zN (zB (T.nilown (u := encI.u) ?_))))
    show T _ _ _ _ _ _;apply T.iter (r := j) (W := AV) (fun j w => ⟨[], [(3, .ptr b3 0 3), (4, .ptr b4 0 4), (13, (GSo y47_2 encI y47).v), (14, w), (15, iv ((1 + (Int.tmod (carry.toNat : Int) 100)))), (16, iv (j.1)), (17, bv j.2.1), (18, iv (j.2.2.1))], ownL true w encI j.2.2.2 :: .row b4 4 [qB, v_r_Readers, v_r_Seats, v_r_Requests] :: .row b3 3 [v_s_Classes, v_s_Shelves, v_s_Books] :: C⟩) (w0 := nilS) h
    ·exact (sb .refl)
    rintro ⟨alone, heavy, i, books⟩ v3 a h;unfold P_top_Fetched_L1 at h;dsimp only at h;dsimp only;refine zS (zU rfl (zM R4 (zM R4 (zV R3 (Val.len_gs rfl rfl) ?_))));obtain ⟨c67, hc67⟩ := zY (i < (((GSo y47_2 encI y47).l).length : Int));refine zV R3 (Val.lss hc67 rfl rfl) (zN ?_);obtain ⟨rfl, hc67, h⟩ | ⟨rfl, hc67, h⟩ := zI hc67 h
    ·refine zC rfl (zK ?_)
     show T _ _ _ _ _ _;apply T.join (r := a) (W := AV) (fun j w => ⟨[], [(3, .ptr b3 0 3), (4, .ptr b4 0 4), (13, (GSo y47_2 encI y47).v), (14, w), (15, iv ((1 + (Int.tmod (carry.toNat : Int) 100)))), (16, iv (j.1)), (17, bv j.2.1), (18, iv (i))], ownL true w encI j.2.2 :: .row b4 4 [qB, v_r_Readers, v_r_Seats, v_r_Requests] :: .row b3 3 [v_s_Classes, v_s_Shelves, v_s_Books] :: C⟩) h
     ·intro j h;refine zB ?_
      show T _ _ _ _ _ _;apply T.join (r := j) (W := Unit) (fun j w => ⟨[], [(3, .ptr b3 0 3), (4, .ptr b4 0 4), (13, (GSo y47_2 encI y47).v), (14, v3), (15, iv ((1 + (Int.tmod (carry.toNat : Int) 100)))), (16, iv (alone)), (17, bv heavy), (18, iv (i))], ownL true v3 encI books :: .row b4 4 [qB, v_r_Readers, v_r_Seats, v_r_Requests] :: .row b3 3 [v_s_Classes, v_s_Shelves, v_s_Books] :: C⟩) h
      ·intro j h
       show T _ _ _ _ _ _;apply T.joinA (r := j) (W := Unit) (fun j w => ⟨[], [(3, .ptr b3 0 3), (4, .ptr b4 0 4), (13, (GSo y47_2 encI y47).v), (14, v3), (15, iv ((1 + (Int.tmod (carry.toNat : Int) 100)))), (16, iv (alone)), (17, bv heavy), (18, iv (i)), (84, bv j)], ownL true v3 encI books :: .row b4 4 [qB, v_r_Readers, v_r_Seats, v_r_Requests] :: .row b3 3 [v_s_Classes, v_s_Shelves, v_s_Books] :: C⟩) h
       ·intro j h;refine T.draw (fun v => sameC_refl v) (l1 := [0, 1, 2, 3, 4, 5, 6, 7, 8, 9, 10, 11, 12, 13, 14]) (l2 := []) (by kernel_rfl) (by kernel_rfl) (zM R4 (zM R4 ?_));obtain ⟨a72, hia72, ea72, h⟩ := el_some h;refine TO.fact (rdl_at (Rdl.gs (C := C) (GSo y47_2 encI y47)) M3 hia72 ea72) (fun hp=>?_);obtain ⟨pa72, hpa72, hva72⟩ := hp;refine zV R3 (hva72 ⟨rfl, rfl⟩ rfl rfl) (zV R3 (Val.load_e hpa72 M3 ⟨_, rfl, rfl⟩ rfl rfl) ?_);obtain ⟨c74, hc74⟩ := zY (a72 < 0);refine zV R3 (Val.lss hc74 rfl rfl) (zM R4 ?_);obtain ⟨rfl, hc74, h⟩ | ⟨rfl, hc74, h⟩ := zI hc74 h
        ·refine zO R3 (zO R3 (zO R3 (zO R3 (zO R3 (zO R3 (zO R3 (zO R3 (zP R6 (zN ?_)))))))));cases h;exact ⟨rfl, (), (sb .refl)⟩
        refine zM R4 (zM R4 ?_);obtain ⟨a78, hia78, ea78, h⟩ := el_some h;refine TO.fact (rdl_at (Rdl.gs (C := C) (GSo y47_2 encI y47)) M3 hia78 ea78) (fun hp=>?_);obtain ⟨pa78, hpa78, hva78⟩ := hp;refine zV R3 (hva78 ⟨rfl, rfl⟩ rfl rfl) (zV R3 (Val.load_e hpa78 M3 ⟨_, rfl, rfl⟩ rfl rfl) (zF 3 R6 (zL 1 R3 R6 (zV R3 (Val.len_l h_r_Requests M3 rfl rfl) ?_))));obtain ⟨c83, hc83⟩ := zY (a78 ≥ (r_Requests.length : Int));refine zV R3 (Val.geq hc83 rfl rfl) (zP R6 (zN ?_));subst hc83;cases h;exact ⟨rfl, (), (sb .refl)⟩
       ·rintro x84 _ h;replace h := zZ h;obtain ⟨rfl, h⟩ | ⟨rfl, h⟩ := h
        ·refine zC rfl (zU rfl (zA R4 (zN (zR ?_))));cases h;exact ⟨ret_ne, ⟨ret_ne, ⟨ret_ne, ⟨ret_ne, ⟨rfl, _, rfl, ⟨(), rfl, (pk [98,98,98] rfl)⟩⟩⟩⟩⟩⟩
        refine zD rfl (zK ?_);cases h;exact ⟨rfl, (), (sb .refl)⟩
      ·rintro _ _ h;refine zS (T.draw (fun v => sameC_refl v) (l1 := [0, 1, 2, 3, 4, 5, 6, 7, 8, 9]) (l2 := []) (by kernel_rfl) (by kernel_rfl) (zF 3 R6 (zL 1 R3 R6 (zM R4 (zM R4 ?_)))));obtain ⟨a89, hia89, ea89, h⟩ := el_some h;refine TO.fact (rdl_at (Rdl.gs (C := C) (GSo y47_2 encI y47)) M3 hia89 ea89) (fun hp=>?_);obtain ⟨pa89, hpa89, hva89⟩ := hp;refine zV R3 (hva89 ⟨rfl, rfl⟩ rfl rfl) (zV R3 (Val.load_e hpa89 M3 ⟨_, rfl, rfl⟩ rfl rfl) ?_);obtain ⟨a91, hia91, ea91, h⟩ := el_some h;refine TO.fact (rdl_at h_r_Requests M3 hia91 ea91) (fun hp=>?_);obtain ⟨pa91, hpa91, hva91⟩ := hp;refine zV R3 (hva91 ⟨rfl, rfl⟩ rfl rfl) (zV R3 (Val.faddr_e (fo := 1) hpa91 rfl rfl rfl) (zV R3 (Val.load_e (PtE.add hpa91 (by decide)) M3 ⟨_, rfl, rfl⟩ rfl rfl) (zA R4 (zN (zS (zU rfl (zM R4 (zF 2 R6 (zL 2 R3 R6 (zV R3 (Val.len_l h_s_Books M3 rfl rfl) ?_))))))))));obtain ⟨c98, hc98⟩ := zY (a91.book ≥ (s_Books.length : Int));refine zV R3 (Val.geq hc98 rfl rfl) (zN ?_);obtain ⟨rfl, hc98, h⟩ | ⟨rfl, hc98, h⟩ := zI hc98 h
       ·refine zC rfl (zE ?_);cases h;exact ⟨rfl, v3, (sb .refl)⟩
       refine zD rfl (zK (zS (T.drawE (l1 := [0, 1, 2, 3, 4, 5, 6, 7, 8, 9, 10]) (l2 := [11]) (by kernel_rfl) (by kernel_rfl) (yL R4 (Val.faddr_ptr (fo := 1) rfl rfl rfl) (yR R4 (vR (p := 2) R6) (yL R4 (Val.faddr_ptr (fo := 2) rfl rfl rfl) (yR R4 (vR (p := 2) R6) (yL R4 (Val.move rfl) ?_))))))));obtain ⟨a104, hia104, ea104, h⟩ := el_some h;refine TD1.fact (rdl_at h_s_Books M3 hia104 ea104) (fun hp=>?_);obtain ⟨pa104, hpa104, hva104⟩ := hp;refine yL R4 (hva104 ⟨rfl, rfl⟩ rfl rfl) (yL R4 (Val.faddr_e (fo := 6) hpa104 rfl rfl rfl) (yR R4 (Val.load_e (PtE.add hpa104 (by decide)) M3 ⟨_, rfl, rfl⟩ rfl rfl) ?_));obtain ⟨a107, hia107, ea107, h⟩ := el_some h;refine TD1.fact (rdl_at h_s_Shelves M3 hia107 ea107) (fun hp=>?_);obtain ⟨pa107, hpa107, hva107⟩ := hp;refine yL R4 (hva107 ⟨rfl, rfl⟩ rfl rfl) (yR R4 (Val.load_es (c := [_, _, _, _]) hpa107 M3 ⟨⟨_, rfl, rfl⟩, rfl, by decide⟩ rfl rfl rfl) (TD1.floatN rfl rfl rfl rfl (New.alloc (k := 4) (cells := [_, _, _, _]) rfl rfl rfl rfl) (fun b20=>TD1.over (fun v => sameC_refl v) (all_cons (⟨_, rfl, (Val.load_es (c := [_, _, _, _]) hpa107 M4 ⟨⟨_, rfl, rfl⟩, rfl, by decide⟩ rfl rfl rfl)⟩) (all_cons (⟨_, rfl, (Val.load_e (PtE.add hpa104 (by decide)) M4 ⟨_, rfl, rfl⟩ rfl rfl)⟩) (all_cons (⟨_, rfl, (vR (p := 3) R6)⟩) (all_cons (⟨_, rfl, (vR (p := 3) R6)⟩) all_nil)))) (TD2.less (Less.floatRow (p := 0) rfl) (yG (_::_::_::_::C) rfl (TD2.heavy (fun v => sameC_refl v) rfl (by decide) rfl rfl (OpS.eff (Eff.store_row (p := 0) (cv := [_, _, _, _]) (cells' := [_, _, _, _]) rfl rfl rfl rfl rfl rfl rfl rfl aG (by decide) rfl)) ?_))))));rintro _ _ rfl;refine ⟨(all_cons (.inl (by kernel_rfl)) (all_cons (.inl (by kernel_rfl)) (all_cons (.inl (by kernel_rfl)) (all_cons (.inl (by kernel_rfl)) all_nil)))), (all_cons (.inl (by kernel_rfl)) all_nil), ?_⟩;refine yG (_::_::_::_::C) rfl (TD2.nil (zS (T.drawE (l1 := [0, 1, 2, 4, 5, 6, 7, 8, 9, 10, 11, 12]) (l2 := [3, 13, 14]) (by kernel_rfl) (by kernel_rfl) (yL R4 (Val.move rfl) (yL R4 (Val.move rfl) (TD1.floatN rfl rfl rfl rfl (New.buildSlice (en := encI) (l := [a91.book]) (vs := [(_, _)]) (ws := [(_, [_])]) ⟨rfl, rfl⟩ rfl rfl rfl rfl (CellsL.cons rfl CellsL.nil) rfl rfl) (fun v111=>yL R4 (Val.move rfl) (yL R4 (Val.faddr_ptr (fo := 0) rfl rfl rfl) (yR R4 (vR (p := 1) R6) ?_)))))))));obtain ⟨hk116, h⟩ := chk_some h;refine yL R4 (Val.mul rfl rfl hk116) ?_;obtain ⟨hk117, h⟩ := chk_some h;refine yL R4 (Val.add rfl rfl hk117) (yL R4 (Val.faddr_ptr (fo := 1) rfl rfl rfl) (yR R4 (vR (p := 1) R6) ?_));obtain ⟨hk120, h⟩ := chk_some h;refine yL R4 (Val.mul rfl rfl hk120) ?_;obtain ⟨hk121, h⟩ := chk_some h;refine yL R4 (Val.add rfl rfl hk121) (TD1.over (fun v => sameC_refl v) (all_cons (⟨_, rfl, (vR (p := 1) R6)⟩) (all_cons (⟨_, rfl, (vR (p := 1) R6)⟩) all_nil)) (TD2.less (Less.floatOwn (en := encI) (l := [a91.book]) (p := 0) rfl) (yG (_::_::_::_::_::C) rfl ?_)));obtain ⟨hk112, h⟩ := chk_some h;refine TD2.heavy (fun v => sameC_refl v) rfl (by decide) rfl rfl (OpS.eff (Eff.append_own (b := 8) (en := encI) (l := books) (l2 := [a91.book]) (p := 2) (q := 0) ⟨rfl, rfl, rfl, ⟨_, rfl, rfl⟩, by decide, by decide⟩ rfl rfl rfl rfl rfl rfl (flat_ones _) (by decide) hk112)) ?_
       rintro v112 _ rfl;refine ⟨(all_cons (.inr ⟨_, rfl, (vR (p := 1) R6)⟩) (all_cons (.inr ⟨_, rfl, (vR (p := 1) R6)⟩) all_nil)), (all_cons (.inl (by kernel_rfl)) all_nil), ?_⟩;refine yG (_::_::_::_::_::C) rfl (yM R4 (Val.assign rfl) (yM R4 (Val.assign rfl) (TD2.nil (zT rfl (zM R4 (zM R4 ?_))))));obtain ⟨rfl, h⟩ | ⟨rfl, h⟩ := zZ h
       ·refine zO R3 (zO R3 (zO R3 (zO R3 (zO R3 (zO R3 (zO R3 (zO R3 (zP R6 (zA R4 (zN ?_))))))))));cases h;exact ⟨rfl, v112, (sb (pk [2,2,2,98,98] rfl))⟩
       refine zF 2 R6 (zL 4 R3 R6 (zM R4 ?_));obtain ⟨a127, hia127, ea127, h⟩ := el_some h;refine TO.fact (rdl_at h_s_Books M5 hia127 ea127) (fun hp=>?_);obtain ⟨pa127, hpa127, hva127⟩ := hp;refine zV R3 (hva127 ⟨rfl, rfl⟩ rfl rfl) (zV R3 (Val.faddr_e (fo := 5) hpa127 rfl rfl rfl) (zV R3 (Val.load_e (PtE.add hpa127 (by decide)) M5 ⟨_, rfl, rfl⟩ rfl rfl) (zM R4 ?_)));obtain ⟨c131, hc131⟩ := zY (a127.heavy > (1 + (Int.tmod (carry.toNat : Int) 100)));refine zV R3 (Val.gtr hc131 rfl rfl) (zP R6 (zA R4 (zN ?_)));subst hc131;cases h;exact ⟨rfl, v112, (sb (pk [2,2,2,98,98] rfl))⟩
     ·rintro ⟨alone_2, heavy_2, books_2⟩ v3_2 h;dsimp only at h;dsimp only;refine zT rfl (zM R4 ?_);obtain ⟨hk69, h⟩ := chk_some h;refine zV R3 (Val.add rfl rfl hk69) (zA R4 (zN ?_));cases h;exact ⟨rfl, v3_2, (sb .refl)⟩
    refine zD rfl (zE ?_);cases h;exact ⟨ex_ne, ⟨rfl, v3, (sb .refl)⟩⟩
   ·rintro ⟨alone, heavy, books⟩ v3 h;dsimp only at h;dsimp only;refine zU rfl (zV R3 (vW 2 [_,_,_] R5 R4) (zM R4 (zM R4 ?_)));obtain ⟨⟨y137, y137_2, y137_3, y137_4⟩, hr137, h⟩ := andx_some h;dsimp only at h;obtain ⟨g_12, hgg_12, hrg_12⟩ := Rdl.reif (hs := ownL true v3 encI books :: .row b4 4 [qB, v_r_Readers, v_r_Seats, v_r_Requests] :: .row b3 3 [v_s_Classes, v_s_Shelves, v_s_Books] :: C) h_s_Classes M3 (ReifL.flat encStr_tr);obtain ⟨g_13, hgg_13, hrg_13⟩ := Rdl.reif (hs := ownL true v3 encI books :: .row b4 4 [qB, v_r_Readers, v_r_Seats, v_r_Requests] :: .row b3 3 [v_s_Classes, v_s_Shelves, v_s_Books] :: C) h_s_Shelves M3 (ReifL.flat qBe);obtain ⟨g_14, hgg_14, hrg_14⟩ := Rdl.reif (hs := ownL true v3 encI books :: .row b4 4 [qB, v_r_Readers, v_r_Seats, v_r_Requests] :: .row b3 3 [v_s_Classes, v_s_Shelves, v_s_Books] :: C) h_s_Books M3 (ReifL.flat qBd);refine TO.call rfl rfl rfl rfl rfl (orcL rfl aD) (.cons (.agg (.cons (hrg_12 _) (.cons (hrg_13 _) (.cons (hrg_14 _) .nil)))) (.cons (.ownL (p := 0) rfl ((ReifL.flat encI_tr) _ _)) (.cons .lit .nil))) (sem_of (w_s9_Walk g_12 g_13 g_14 (GSo true encI books) (1 + (Int.tmod (carry.toNat : Int) 100)) _ (by try rw [hgg_12]; try rw [hgg_13]; try rw [hgg_14]; exact hr137))) (zM R4 (zX R5 (zX R5 (zX R5 (zA R4 (zA R4 (zA R4 (zN (zS (zU rfl (zM R4 (zN ?_))))))))))));obtain ⟨rfl, h⟩ | ⟨rfl, h⟩ := zZ h
    ·refine zC rfl ?_
     show T _ _ _ _ _ _;apply T.joinA (r := r) (W := Unit) (fun j w => ⟨[], [(6, bv j)], ownL true v3 encI books :: .row b4 4 [qB, v_r_Readers, v_r_Seats, v_r_Requests] :: .row b3 3 [v_s_Classes, v_s_Shelves, v_s_Books] :: C⟩) h
     ·intro j h;refine zT rfl (zM R4 ?_);obtain ⟨c143, hc143⟩ := zY (y137_4 = 9);refine zV R3 (Val.eql hc143 rfl rfl) (zM R4 ?_);obtain ⟨rfl, hc143, h⟩ | ⟨rfl, hc143, h⟩ := zI hc143 h
      ·refine TO.call rfl rfl rfl rfl rfl orcA .nil rfl (zP R6 (zM R4 (TO.call rfl rfl rfl rfl rfl orcA7 .nil rfl (zP R6 (zA R4 (zN ?_))))));cases h;exact ⟨rfl, (), (sb .refl)⟩
      refine zO R3 (zP R6 (zM R4 (zO R3 (zP R6 (zA R4 (zN ?_))))));cases h;exact ⟨rfl, (), (sb .refl)⟩
     ·rintro x6 _ h;refine zR ?_;cases h;exact ⟨rfl, _, rfl, ⟨(), rfl, (pk [98,98,98] rfl)⟩⟩
    refine zD rfl (zK ?_)
    show T _ _ _ _ _ _;apply T.joinA (r := r) (W := Unit) (fun j w => ⟨[], [(6, bv j)], ownL true v3 encI books :: .row b4 4 [qB, v_r_Readers, v_r_Seats, v_r_Requests] :: .row b3 3 [v_s_Classes, v_s_Shelves, v_s_Books] :: C⟩) h
    ·intro j h;refine zT rfl (zM R4 ?_);obtain ⟨c151, hc151⟩ := zY (y137_4 = 0);refine zV R3 (Val.eql hc151 rfl rfl) (zM R4 ?_);obtain ⟨rfl, hc151, h⟩ | ⟨rfl, hc151, h⟩ := zI hc151 h
     ·refine zM R4 (zV R3 (Val.len_gs rfl rfl) (zM R4 (zV R3 (Val.len_own (p := 0) rfl rfl rfl) ?_)));obtain ⟨c157, hc157⟩ := zY ((((GSo y137_2 encI y137).l).length : Int) = (books.length : Int));refine zV R3 (Val.eql hc157 rfl rfl) (zP R6 (zM R4 ?_));obtain ⟨rfl, hc157, h⟩ | ⟨rfl, hc157, h⟩ := zI hc157 h
      ·refine zM R4 (zM R4 ?_);obtain ⟨c162, hc162⟩ := zY (y137_3 ≤ alone);refine zV R3 (Val.leq hc162 rfl rfl) (zP R6 (zM R4 ?_));obtain ⟨rfl, hc162, h⟩ | ⟨rfl, hc162, h⟩ := zI hc162 h
       ·refine TO.call rfl rfl rfl rfl rfl orcA .nil rfl (zP R6 (zM R4 (TO.call rfl rfl rfl rfl rfl orcA7 .nil rfl (zP R6 (zA R4 (zN ?_))))));cases h;exact ⟨rfl, (), (sb .refl)⟩
       refine zO R3 (zP R6 (zM R4 (zO R3 (zP R6 (zA R4 (zN ?_))))));cases h;exact ⟨rfl, (), (sb .refl)⟩
      refine zO R3 (zO R3 (zO R3 (zP R6 (zM R4 (zO R3 (zP R6 (zM R4 (zO R3 (zP R6 (zA R4 (zN ?_)))))))))));cases h;exact ⟨rfl, (), (sb .refl)⟩
     refine zO R3 (zO R3 (zO R3 (zO R3 (zO R3 (zP R6 (zM R4 (zO R3 (zO R3 (zO R3 (zP R6 (zM R4 (zO R3 (zP R6 (zM R4 (zO R3 (zP R6 (zA R4 (zN ?_))))))))))))))))));cases h;exact ⟨rfl, (), (sb .refl)⟩
    ·rintro x6 _ h;refine zR ?_;cases h;exact ⟨rfl, _, rfl, ⟨(), rfl, (pk [98,98,98] rfl)⟩⟩
theorem w_top_Fetched {X_ : Option (List Int × Bool × Int)} (s_Classes : GS encStr) (s_Shelves : GS qZ) (s_Books : GS qS) (qC : GS qJ) (r_Readers : GS qR) (r_Seats : GS qQ) (r_Requests : GS qK) (carry : UInt8) (r : Bool) (w_X : ∀ (g1 : GS qJ) (g2 : GS qR) (g3 : GS qQ) (g4 : GS qK) (r : List Int × Bool × Int), g1.v = qC.v → g2.v = r_Readers.v → g3.v = r_Seats.v → g4.v = r_Requests.v → X_ = some r → Comes (EL 1) 8 [.agg [g1.v, g2.v, g3.v, g4.v]] (.tuple [(GSo r.2.1 encI r.1).v, iv r.2.2])) (h : P_top_Fetched X_ s_Classes.l s_Shelves.l s_Books.l qC.l r_Readers.l r_Seats.l r_Requests.l carry = some r) : Comes (EL 2) 3 [.agg [s_Classes.v, s_Shelves.v, s_Books.v], .agg [qC.v, r_Readers.v, r_Seats.v, r_Requests.v], ivk .u8 ((carry.toNat : Int))] (bv r) :=
 TF.run (tf_top_Fetched (Nat.le_refl _) (RdT.gs s_Classes) (RdT.gs s_Shelves) (RdT.gs s_Books) (RdT.gs qC) (RdT.gs r_Readers) (RdT.gs r_Seats) (RdT.gs r_Requests) w_X h) fun w => .lit
end Go.Am.YtgbbhdoobhdadaaGreatDoor
end
section
namespace Go.Am
set_option linter.unusedVariables false
set_option linter.unusedSimpArgs false
def upto (lo hi : Int) : List Int := (List.range (hi - lo).toNat).map fun i : Nat => lo + (i : Int)
theorem upto_succ {lo hi : Int} (h : lo ≤ hi) : upto lo (hi + 1) = upto lo hi ++ [hi] := by
 unfold upto;rw [show (hi + 1 - lo).toNat = (hi - lo).toNat + 1 by omega, List.range_succ, List.map_append]
 show _ ++ [lo + ((hi - lo).toNat : Int)] = _;rw [show lo + ((hi - lo).toNat : Int) = hi by omega]
theorem mem_upto {lo hi x : Int} : x ∈ upto lo hi ↔ lo ≤ x ∧ x < hi := by
 unfold upto;simp only [List.mem_map, List.mem_range];exact ⟨fun ⟨i, h1, h2⟩ => by omega, fun h => ⟨(x - lo).toNat, by omega, by omega⟩⟩
theorem upto_len {lo hi : Int} : (upto lo hi).length = (hi - lo).toNat := by simp [upto]
theorem flat_le {α β : Type} {f : β → List α} {n : Nat} : ∀ {l : List β}, (∀ x ∈ l, (f x).length ≤ n) → (l.flatMap f).length ≤ l.length * n
 | [], _ => by simp
 | a :: r, h => by
  have h1 := h a (by simp)
  have h2 := flat_le (l := r) fun x hx => h x (by simp [hx])
  rw [List.flatMap_cons, List.length_append, List.length_cons, Nat.add_mul];omega
theorem lexB_append : ∀ (b x y : List Int), lexB (b ++ x) (b ++ y) = lexB x y
 | [], _, _ => rfl
 | a :: b, x, y => by
  show lexB (a :: (b ++ x)) (a :: (b ++ y)) = _;rw [lexB, if_pos rfl, lexB_append b x y]
end Go.Am
end
section
namespace Go.Am
set_option linter.unusedVariables false
set_option linter.unusedSimpArgs false
def FirstMin (all : List (List Int)) (m : List Int → Option Int) (k : Nat) (best : Nat) (least : Int) (found : Bool) : Prop :=
 (found = false ∧ ∀ j l, j < k → all[j]? = some l → m l = none) ∨
 (found = true ∧ best < k ∧ ∃ l, all[best]? = some l ∧ m l = some least ∧ ∀ j l' n', j < k → all[j]? = some l' → m l' = some n' → least ≤ n' ∧ (j < best → least < n'))
section
variable {all : List (List Int)} {m : List Int → Option Int} {k best : Nat} {least n : Int} {found : Bool} {l : List Int}
theorem FirstMin.zero : FirstMin all m 0 best least false := .inl ⟨rfl, fun j l h => by omega⟩
theorem FirstMin.none (h : FirstMin all m k best least found) (hl : all[k]? = some l) (hm : m l = none) : FirstMin all m (k + 1) best least found := by
 rcases h with ⟨h1, h2⟩ | ⟨h1, h2, l0, h3, h4, h5⟩
 ·refine .inl ⟨h1, fun j l' hj hl' => ?_⟩
  by_cases e : j = k
  ·subst e; rw [hl] at hl'; cases hl'; exact hm
  ·exact h2 j l' (by omega) hl'
 ·refine .inr ⟨h1, by omega, l0, h3, h4, fun j l' n' hj hl' hn' => ?_⟩
  by_cases e : j = k
  ·subst e; rw [hl] at hl'; cases hl'; rw [hm] at hn'; cases hn'
  ·exact h5 j l' n' (by omega) hl' hn'
theorem lexB_irr : ∀ l : List Int, lexB l l = false
 | [] => rfl
 | a :: r => by rw [lexB, if_pos rfl]; exact lexB_irr r
theorem lexB_asym : ∀ l l' : List Int, lexB l l' = true → lexB l' l = false
 | [], [], h => by cases h
 | [], b :: s, _ => rfl
 | a :: r, [], h => by cases h
 | a :: r, b :: s, h => by
  rw [lexB] at h ⊢
  by_cases e : a = b
  ·rw [if_pos e] at h; rw [if_pos e.symm]; exact lexB_asym r s h
  ·rw [if_neg e] at h; rw [if_neg fun h => e h.symm]
   have := of_decide_eq_true h;exact decide_eq_false (by omega)
theorem lexB_tot : ∀ l l' : List Int, l.length = l'.length → lexB l l' = false → lexB l' l = false → l = l'
 | [], [], _, _, _ => rfl
 | [], b :: s, h, _, _ => by simp at h
 | a :: r, [], h, _, _ => by simp at h
 | a :: r, b :: s, h, h1, h2 => by
  rw [lexB] at h1 h2
  by_cases e : a = b
  ·rw [if_pos e] at h1; rw [if_pos e.symm] at h2;rw [e, lexB_tot r s (by simpa using h) h1 h2]
  ·rw [if_neg e] at h1; rw [if_neg fun h => e h.symm] at h2
   have := of_decide_eq_false h1
   have := of_decide_eq_false h2;omega
theorem FirstMin.fin (h : FirstMin all m all.length best least found) (ho : all.Pairwise fun x y => lexB x y = true) :
  (found = false ∧ ∀ l ∈ all, m l = Option.none) ∨ (found = true ∧ nelL all best ∈ all ∧ m (nelL all best) = some least ∧ ∀ l' n', l' ∈ all → m l' = some n' → least ≤ n' ∧ (n' = least → lexB l' (nelL all best) = false)) := by
 rcases h with ⟨h1, h2⟩ | ⟨h1, h2, l0, h3, h4, h5⟩
 ·refine .inl ⟨h1, fun l hl => ?_⟩;obtain ⟨j, hj⟩ := List.getElem?_of_mem hl;exact h2 j l (List.getElem?_eq_some_iff.1 hj).1 hj
 ·refine .inr ⟨h1, ?_⟩;rw [nelL_of h3];refine ⟨List.mem_of_getElem? h3, h4, fun l' n' hl' hn' => ?_⟩;obtain ⟨j, hj⟩ := List.getElem?_of_mem hl'
  have hjl := (List.getElem?_eq_some_iff.1 hj).1;obtain ⟨g1, g2⟩ := h5 j l' n' hjl hj hn';refine ⟨g1, fun e => ?_⟩
  rcases Nat.lt_trichotomy j best with hlt | heq | hgt
  ·have := g2 hlt; omega
  ·subst heq;rw [h3] at hj; cases hj;exact lexB_irr _
  ·have h2' : best < all.length := (List.getElem?_eq_some_iff.1 h3).1
   have := List.pairwise_iff_getElem.1 ho best j h2' hjl hgt
   have e1 : all[best] = l0 := Option.some.inj ((List.getElem?_eq_getElem h2').symm.trans h3)
   have e2 : all[j] = l' := Option.some.inj ((List.getElem?_eq_getElem hjl).symm.trans hj);rw [e1, e2] at this;exact lexB_asym _ _ this
end
section
variable {cl : List Str} {sh : List qD} {bs books : List qA} {but clear : Int}
def RiseIn (n m : Nat) (l : List Int) : Prop := l.length = n ∧ l.Pairwise (· ≤ ·) ∧ ∀ x ∈ l, 0 ≤ x ∧ x < (m : Int)
noncomputable def costF (sh : List qD) (books : List qA) (but clear : Int) (l : List Int) : Option Int :=
 open Classical in if ¬ clear ∈ l ∧ Arr sh books l then some (movedN books l 0 but) else none
structure FewB (sh : List qD) (books : List qA) (but clear : Int) (l : List Int) (n : Int) : Prop where
 rise : RiseIn books.length sh.length l
 ok : costF sh books but clear l = some n
 least : ∀ l' n', RiseIn books.length sh.length l' → costF sh books but clear l' = some n' → n ≤ n' ∧ (n' = n → lexB l' l = false)
theorem FewB.unique {l l' : List Int} {n n' : Int} (h : FewB sh books but clear l n) (h' : FewB sh books but clear l' n') : l = l' ∧ n = n' := by
 have h1 := h.least l' n' h'.rise h'.ok
 have h2 := h'.least l n h.rise h.ok
 have e : n = n' := by omega
 exact ⟨lexB_tot l l' (by rw [h.rise.1, h'.rise.1]) (h2.2 e) (h1.2 e.symm), e⟩
end
end Go.Am
end
section
namespace Go.Am
set_option linter.unusedVariables false
set_option linter.unusedSimpArgs false
section
variable {sh : List qD} {mv mv' : Int → Int → Int} {books : List qA} {a0 : qD} {but clear : Int}
end
end Go.Am
end
section
namespace Go.Am
set_option linter.unusedVariables false
set_option linter.unusedSimpArgs false
section
variable {cl : List Str} {sh : List qD} {bs books : List qA} {but clear : Int}
end
section
variable {cl : List Str} {sh : List qD} {bs books : List qA} {b : qA}
open Classical in
theorem furE_zero (h : furE cl sh bs b = 0) : Fine cl sh bs ∧ (1 ≤ b.wide ∧ b.wide ≤ 2000) ∧ (1 ≤ b.high ∧ b.high ≤ 2000) ∧ mkErr cl.length b.qL b.qM b.qN = 0 ∧ Rises bs ∧ ¬ twice bs b.qL b.qM b.qN := by
 unfold furE at h
 by_cases h0 : roomN cl sh bs = 0
 ·rw [if_pos h0] at h
  by_cases h1 : bkErr1 cl.length b.qL b.qM b.qN b.wide b.high b.heavy bs = 0
  ·rw [if_pos h1] at h
   by_cases h2 : Rises bs
   ·refine ⟨roomN_zero.1 h0, ?_⟩;unfold bkErr1 at h1
    by_cases g : mkErr cl.length b.qL b.qM b.qN = 0
    ·rw [if_pos g] at h1
     by_cases g2 : bkRange b.wide b.high b.heavy
     ·rw [if_pos g2] at h1
      by_cases g3 : twice bs b.qL b.qM b.qN
      ·rw [if_pos g3] at h1; cases h1
      ·exact ⟨g2.1, g2.2.1, g, h2, g3⟩
     ·rw [if_neg g2] at h1; cases h1
    ·rw [if_neg g] at h1; exact absurd h1 g
   ·rw [if_neg h2] at h; cases h
  ·rw [if_neg h1] at h; exact absurd h h1
 ·rw [if_neg h0] at h; exact absurd h h0
theorem inserted_len : (insertedB bs b).length = bs.length + 1 := by
 have := place_le bs b;unfold insertedB;simp only [List.length_append, List.length_take, List.length_cons, List.length_drop];omega
def PutIs (cl : List Str) (sh : List qD) (bs : List qA) (b : qA) (r : Int × Int × List Int × Int) : Prop :=
 (furE cl sh bs b ≠ 0 ∧ r = (0, 0, [], furE cl sh bs b)) ∨ (furE cl sh bs b = 0 ∧ bs.length = 10 ∧ r = (0, 0, [], 3)) ∨
 (furE cl sh bs b = 0 ∧ bs.length ≠ 10 ∧ (∀ l, RiseIn (bs.length + 1) sh.length l → costF sh (insertedB bs b) (place bs b) (-1) l = none) ∧ r = (0, 0, [], 9)) ∨
 (furE cl sh bs b = 0 ∧ bs.length ≠ 10 ∧ ∃ l n, FewB sh (insertedB bs b) (place bs b) (-1) l n ∧ r = ((place bs b : Int), n, l, 0))
theorem few_none {but clear : Int} {l : List Int} {n : Int} (h : FewB sh books but clear l n) (h' : ∀ l, RiseIn books.length sh.length l → costF sh books but clear l = none) : False := by
 have := h' l h.rise;rw [h.ok] at this;cases this
theorem PutIs.unique {r r' : Int × Int × List Int × Int} (h : PutIs cl sh bs b r) (h' : PutIs cl sh bs b r') : r = r' := by
  have hl := inserted_len (bs := bs) (b := b)
  rcases h with ⟨a1, a2⟩ | ⟨a1, a2, a3⟩ | ⟨a1, a2, a3, a4⟩ | ⟨a1, a2, l, n, a3, a4⟩ <;> rcases h' with ⟨b1, b2⟩ | ⟨b1, b2, b3⟩ | ⟨b1, b2, b3, b4⟩ | ⟨b1, b2, l', n', b3, b4⟩ <;>
    first
    | (exfalso; omega)
    | (rw [a2, b2]; done)
    | (rw [a3, b3]; done)
    | (rw [a4, b4]; done)
    | skip
  · exact (few_none b3 (by rw [hl]; exact a3)).elim
  · exact (few_none a3 (by rw [hl]; exact b3)).elim
  · obtain ⟨e1, e2⟩ := a3.unique b3
    rw [a4, b4, e1, e2]
end
end Go.Am
end
