/- Soundness: code, and runs of whatever length. -/
import Derived.Test.YthckcbfijdambaaAmF
namespace Go.Am
open Go.RowKit

theorem roundsIn_mono {F : Fence} {n : Nat} {P : Program} {c : Code} {Q Q' : Exit → Act → World → Prop} (hq : ∀ e a w, Q e a w → Q' e a w) : ∀ (m : Nat) (a : Act) (w : World),
    Code.roundsIn F n P c Q m a w → Code.roundsIn F n P c Q' m a w := by
  intro m
  induction m with
  | zero => intro a w h; exact h
  | succ m ih =>
    intro a w h
    refine wpIn_mono h fun e a1 w1 h1 => ?_
    cases e with
    | normal => exact ih _ _ h1
    | _ => exact hq _ _ _ h1

section
variable {E : Env} (hG : EnvGood E) {rec : Task → St → RR} (hR : Sound E rec) {r : Ren} {S : St} {w : World}

/-- What a run of code says of the given program. -/
def Says (_E : Env) (r : Ren) (S : St) (w : World) (e : Exit) (a' : AAct) (S' : St) : Exit → Act → World → Prop := fun ex ac w1 => ex = e ∧ ∃ r', Ext r S w r' S' w1 ∧ RelA r' a' ac

theorem Says.of {e : Exit} {a' : AAct} {S' : St} {r1 : Ren} {S1 : St} {w1 : World} (x : Ext r S w r1 S1 w1) {ex : Exit} {ac : Act} {w2 : World} (h : Says E r1 S1 w1 e a' S' ex ac w2) : Says E r S w e a' S' ex ac w2 :=
  ⟨h.1, h.2.choose, x.trans h.2.choose_spec.1, h.2.choose_spec.2⟩

/-- What the run of a code is to show. -/
def Shows (E : Env) (c : Code) (a : AAct) (S : St) (e : Exit) (a' : AAct) (S' : St) : Prop :=
  a'.rnd = a.rnd ∧ a'.n = a.n ∧ ∀ r w act ro, RelW r S w → RelA r a act → RelR r a.rnd ro → c.wpIn (fence ro) 0 E.P (Says E r S w e a' S') act w

theorem Sound.shows (hR : Sound E rec) {c : Code} {a : AAct} {S : St} {e : Exit} {a' : AAct} {S' : St} (h : rec (.code c a) S = .ok (.exit e a', S')) (hc : codeOk c = true) : Shows E c a S e a' S' :=
  hR.code c a S e a' S' h hc

include hR

theorem runSeq_shows {x y : Code} {a a' : AAct} {e : Exit} {S' : St} (h : runSeq rec x y a S = .ok (.exit e a', S')) (hx : codeOk x = true) (hy : codeOk y = true) : Shows E (.seq x y) a S e a' S' := by
  obtain ⟨⟨res, S1⟩, h1, h2⟩ := bind_ok h
  cases res with
  | ret v => exact (hR.noRet _ _ _ _ _ h1).elim
  | exit e1 a1 =>
    have s1 := hR.shows h1 hx
    by_cases he : e1 = .normal
    · subst he
      have s2 := hR.shows h2 hy
      refine ⟨s2.1.trans s1.1, s2.2.1.trans s1.2.1, fun r w act ro hw ha hro => wpIn_seq (wpIn_mono (s1.2.2 r w act ro hw ha hro) fun ex ac w1 q => ?_)⟩
      obtain ⟨rfl, r1, x1, ha1⟩ := q
      refine wpIn_mono (s2.2.2 r1 w1 ac ro x1.rel ha1 (by rw [s1.1]; exact hro.mono x1.sub)) fun ex ac w2 q => q.of x1
    · have : Except.ok (Res.exit e1 a1, S1) = (.ok (.exit e a', S') : RR) := by
        rw [← h2]
        cases e1 <;> first | rfl | exact absurd rfl he
      cases this
      refine ⟨s1.1, s1.2.1, fun r w act ro hw ha hro => wpIn_seq (wpIn_mono (s1.2.2 r w act ro hw ha hro) fun ex ac w1 q => ?_)⟩
      obtain ⟨rfl, q⟩ := q
      cases ex with
      | normal => exact absurd rfl he
      | _ => exact ⟨rfl, q⟩

/-- One more round. -/
theorem runLoop_rounds {m : Nat} (hm : ∀ c a S e a' S', rec (.code (.loop c) a) S = .ok (.exit e a', S') → codeOk c = true → ∀ r w act ro, RelW r S w → RelA r a act → RelR r a.rnd ro →
      Code.roundsIn (fence ro) 0 E.P c (Says E r S w e a' S') m act w) {c : Code} {a a' : AAct} {e : Exit} {S' : St} (h : runSeq rec c (.loop c) a S = .ok (.exit e a', S')) (hc : codeOk c = true) :
    ∀ r w act ro, RelW r S w → RelA r a act → RelR r a.rnd ro → Code.roundsIn (fence ro) 0 E.P c (Says E r S w e a' S') (m + 1) act w := by
  intro r w act ro hw ha hro
  rw [roundsIn_succ]
  obtain ⟨⟨res, S1⟩, h1, h2⟩ := bind_ok h
  cases res with
  | ret v => exact (hR.noRet _ _ _ _ _ h1).elim
  | exit e1 a1 =>
    have s1 := hR.shows h1 hc
    refine wpIn_mono (s1.2.2 r w act ro hw ha hro) fun ex ac w1 q => ?_
    obtain ⟨rfl, r1, x1, ha1⟩ := q
    by_cases he : ex = .normal
    · subst he
      exact roundsIn_mono (fun e a w q => q.of x1) _ _ _ (hm _ _ _ _ _ _ h2 hc r1 w1 ac ro x1.rel ha1 (by rw [s1.1]; exact hro.mono x1.sub))
    · have : Except.ok (Res.exit ex a1, S1) = (.ok (.exit e a', S') : RR) := by
        rw [← h2]
        cases ex <;> first | rfl | exact absurd rfl he
      cases this
      cases e with
      | normal => exact absurd rfl he
      | _ => exact ⟨rfl, r1, x1, ha1⟩

theorem runLoop_act {c : Code} {a a' : AAct} {e : Exit} {S' : St} (h : runSeq rec c (.loop c) a S = .ok (.exit e a', S')) (hc : codeOk c = true) : a'.rnd = a.rnd ∧ a'.n = a.n := by
  have := runSeq_shows hR h hc (by unfold codeOk; exact hc)
  exact ⟨this.1, this.2.1⟩

theorem runBlock_shows {id : Nat} {c : Code} {a a' : AAct} {e : Exit} {S' : St} (h : runBlock rec id c a S = .ok (.exit e a', S')) (hc : codeOk c = true) : Shows E (.block id c) a S e a' S' := by
  obtain ⟨⟨res, S1⟩, h1, h2⟩ := bind_ok h
  cases res with
  | ret v => exact (hR.noRet _ _ _ _ _ h1).elim
  | exit e1 a1 =>
    have s1 := hR.shows h1 hc
    have key : ∃ e0, (∀ Q : Exit → Act → World → Prop, ∀ ac w, Q e0 ac w → Exit.inBlock id Q e1 ac w) ∧ (Except.ok (Res.exit e0 a1, S1) : RR) = .ok (.exit e a', S') := by
      cases e1 with
      | exit id' =>
        simp only at h2
        refine ⟨_, fun Q ac w q => ?_, h2⟩
        by_cases hid : id' = id
        · subst hid
          simpa [Exit.inBlock] using q
        · have : Nat.beq id' id = false := by
            cases hb : Nat.beq id' id with
            | false => rfl
            | true => exact absurd (Nat.eq_of_beq_eq_true hb) hid
          simpa [Exit.inBlock, hid, this] using q
      | normal => exact ⟨_, fun Q ac w q => q, h2⟩
      | goto l => exact ⟨_, fun Q ac w q => q, h2⟩
      | ret => exact ⟨_, fun Q ac w q => q, h2⟩
      | panic ch => exact ⟨_, fun Q ac w q => q, h2⟩
      | outgrown => exact ⟨_, fun Q ac w q => q, h2⟩
    obtain ⟨e0, k1, k2⟩ := key
    cases k2
    refine ⟨s1.1, s1.2.1, fun r w act ro hw ha hro => wpIn_block (wpIn_mono (s1.2.2 r w act ro hw ha hro) fun ex ac w1 q => ?_)⟩
    obtain ⟨rfl, q⟩ := q
    exact k1 _ _ _ ⟨rfl, q⟩

theorem runScope_shows {c : Code} {a a' : AAct} {e : Exit} {S' : St} (h : runScope rec c a S = .ok (.exit e a', S')) (hc : codeOk c = true) : Shows E (.scope c) a S e a' S' := by
  obtain ⟨⟨res, S1⟩, h1, h2⟩ := bind_ok h
  cases res with
  | ret v => exact (hR.noRet _ _ _ _ _ h1).elim
  | exit e1 a1 =>
    have s1 := hR.shows h1 hc
    have key : (∀ Q : Exit → Act → World → Prop, ∀ ac w, Q e1 ac w → noGoto Q e1 ac w) ∧ (Except.ok (Res.exit e1 a1, S1) : RR) = .ok (.exit e a', S') := by
      cases e1 with
      | goto l => cases h2
      | _ => exact ⟨fun Q ac w q => q, h2⟩
    obtain ⟨k1, k2⟩ := key
    cases k2
    refine ⟨s1.1, s1.2.1, fun r w act ro hw ha hro => wpIn_scope_straight (wpIn_mono (s1.2.2 r w act ro hw ha hro) fun ex ac w1 q => ?_)⟩
    obtain ⟨rfl, q⟩ := q
    exact k1 _ _ _ ⟨rfl, q⟩

theorem runCond_shows {g : Operand} {x y : Code} {a a' : AAct} {e : Exit} {S' : St} (h : runCond rec (a.ev g) x y a S = .ok (.exit e a', S')) (hx : codeOk x = true) (hy : codeOk y = true) :
    Shows E (.cond g x y) a S e a' S' := by
  unfold runCond at h
  split at h
  · rename_i b hb
    have hc : codeOk (bif b then x else y) = true := by cases b <;> assumption
    have s1 := hR.shows h hc
    refine ⟨s1.1, s1.2.1, fun r w act ro hw ha hro => ?_⟩
    have hv := ha.ev g
    rw [hb] at hv
    refine wpIn_cond (t := b) hv.lit_inv ?_
    have := s1.2.2 r w act ro hw ha hro
    cases b <;> exact this
  · cases h

include hG

theorem runRegion_shows {id : Nat} {ops : Array Oper} {draw : Bool} {a a' : AAct} {e : Exit} {S' : St} (h : runRegion rec E ops draw a S = .ok (.exit e a', S')) (hok : codeOk (.region id ops draw) = true) :
    Shows E (.region id ops draw) a S e a' S' := by
  obtain ⟨⟨a1, S1⟩, h1, h2⟩ := bind_ok h
  cases h2
  cases draw with
  | false =>
    simp only [cond_false] at h1
    have := opSteps_act _ h1
    refine ⟨this.1, this.2, fun r w act ro hw ha hro => wpIn_region ?_⟩
    exact opSteps_sim hG hR _ hw ha h1 fun r1 act1 w1 x1 ha1 => ⟨rfl, r1, x1, ha1⟩
  | true =>
    simp only [cond_true, forceL_eq] at h1
    have := drawRun_act h1
    refine ⟨this.1, this.2, fun r w act ro hw ha hro => wpIn_region_any hG.mixed ?_⟩
    have x0 := hw.drawn (w.drawn + 1)
    have hok' : regionOk ops = true := by simpa [codeOk] using hok
    exact drawRun_sim hG hR hok' x0.rel ha h1 fun r1 act1 w1 x1 ha1 => ⟨rfl, r1, x0.trans x1, ha1⟩

theorem runCode_shows {m : Nat} (hm : ∀ c a S e a' S', rec (.code (.loop c) a) S = .ok (.exit e a', S') → codeOk c = true → ∀ r w act ro, RelW r S w → RelA r a act → RelR r a.rnd ro →
      Code.roundsIn (fence ro) 0 E.P c (Says E r S w e a' S') m act w) {c : Code} {a a' : AAct} {e : Exit} {S' : St} (h : runCode rec E c a S = .ok (.exit e a', S')) (hc : codeOk c = true) : Shows E c a S e a' S' := by
  unfold runCode at h
  cases c with
  | skip => cases h; exact ⟨rfl, rfl, fun r w act ro hw ha hro => wpIn_skip ⟨rfl, r, .refl hw, ha⟩⟩
  | label l => cases h; exact ⟨rfl, rfl, fun r w act ro hw ha hro => wpIn_label ⟨rfl, r, .refl hw, ha⟩⟩
  | exit id => cases h; exact ⟨rfl, rfl, fun r w act ro hw ha hro => wpIn_exit ⟨rfl, r, .refl hw, ha⟩⟩
  | goto l => cases h; exact ⟨rfl, rfl, fun r w act ro hw ha hro => wpIn_goto ⟨rfl, r, .refl hw, ha⟩⟩
  | ret => cases h; exact ⟨rfl, rfl, fun r w act ro hw ha hro => wpIn_ret ⟨rfl, r, .refl hw, ha⟩⟩
  | seq x y =>
    simp only [codeOk, Bool.and_eq_true] at hc
    exact runSeq_shows hR h hc.1 hc.2
  | cond g x y =>
    simp only [codeOk, Bool.and_eq_true] at hc
    exact runCond_shows hR h hc.1 hc.2
  | block id c => exact runBlock_shows hR h (by simpa [codeOk] using hc)
  | scope c => exact runScope_shows hR h (by simpa [codeOk] using hc)
  | loop c =>
    have hc' : codeOk c = true := by simpa [codeOk] using hc
    have := runLoop_act hR h hc'
    exact ⟨this.1, this.2, fun r w act ro hw ha hro => wpIn_loop_rounds (m + 1) (runLoop_rounds hR hm h hc' r w act ro hw ha hro)⟩
  | region id ops draw => exact runRegion_shows hG hR h hc
  | rangeFunc g ps x y =>
    simp only [codeOk, Bool.and_eq_true] at hc
    have := aRange_act h
    exact ⟨this.1, this.2, fun r w act ro hw ha hro => aRange_sim hG hR hw ha hro h hc.1 hc.2⟩
  | refuse s => cases h

theorem runCall_sim {f : FuncId} {args : List AV} {v : AV} {S' : St} (h : runCall rec E f args S = .ok (.ret v, S')) (xs : List Value) (hw : RelW r S w) (ha : RelL r args xs) :
    CallsIn Fence.wide 0 E.P f xs.toArray w (fun e w1 => ∃ x r', e = .returned x ∧ Ext r S w r' S' w1 ∧ RelV r' v x) := by
  obtain ⟨fn, h1, h2⟩ := bind_ok h
  obtain ⟨c, h3, h4⟩ := bind_ok h2
  obtain ⟨⟨res, S1⟩, h5, h6⟩ := bind_ok h4
  cases res with
  | ret v => cases h6
  | exit e a =>
    obtain ⟨_, h7, h8⟩ := bind_ok h6
    obtain ⟨S2, h9, h10⟩ := bind_ok h8
    obtain ⟨vs, h11, h12⟩ := bind_ok h10
    cases h12
    have hfn := ofOpt_ok h1
    have hb := ofOpt_ok h3
    have s1 := hR.shows h5 (hG.body _ _ _ hfn hb)
    refine callsIn_of_wp_marks (hG.ok.fn _ _ hfn).1 hb trivial ?_
    refine wpIn_mono (s1.2.2 r w _ none hw (enter_rel ha) trivial) fun ex ac w1 q => ?_
    obtain ⟨rfl, r1, x1, ha1⟩ := q
    have key : LeavesInM (fence none) 0 E.P fn ac.tmps (fun e w1 => ∃ x r', e = .returned x ∧ Ext r S w r' S' w1 ∧ RelV r' (oneOrTuple vs) x) ac.defers .returning w1 := by
      refine leave_sim a.marks ac.defers x1.rel ha1.marks.1 ha1.marks.2 h9 fun w2 x2 => ?_
      have ha2 : RelA r1 a { tmps := ac.tmps, defers := ac.defers } := ha1
      obtain ⟨x, k1, k2⟩ := finals_rel hG x2.rel ha1 h11
      exact ⟨x, k1, x, r1, rfl, x1.trans x2, k2⟩
    have := mustBe_ok h7
    cases ex with
    | normal => exact key
    | ret => exact key
    | _ => cases this

end

theorem runCall_noExit {rec : Task → St → RR} {E : Env} {f : FuncId} {args : List AV} {S : St} {e : Exit} {a : AAct} {S' : St} (h : runCall rec E f args S = .ok (.exit e a, S')) : False := by
  obtain ⟨fn, h1, h2⟩ := bind_ok h
  obtain ⟨c, h3, h4⟩ := bind_ok h2
  obtain ⟨⟨res, S1⟩, h5, h6⟩ := bind_ok h4
  cases res with
  | ret v => cases h6
  | exit e a =>
    obtain ⟨_, h7, h8⟩ := bind_ok h6
    obtain ⟨S2, h9, h10⟩ := bind_ok h8
    obtain ⟨vs, h11, h12⟩ := bind_ok h10
    cases h12

theorem runSeq_noRet {rec : Task → St → RR} (hR : ∀ c a S v S', rec (.code c a) S ≠ .ok (.ret v, S')) {x y : Code} {a : AAct} {S : St} {v : AV} {S' : St} (h : runSeq rec x y a S = .ok (.ret v, S')) : False := by
  obtain ⟨⟨res, S1⟩, h1, h2⟩ := bind_ok h
  cases res with
  | ret v => exact hR _ _ _ _ _ h1
  | exit e1 a1 => cases e1 <;> first | exact hR _ _ _ _ _ h2 | cases h2

theorem runCode_noRet {rec : Task → St → RR} (hR : ∀ c a S v S', rec (.code c a) S ≠ .ok (.ret v, S')) {E : Env} {c : Code} {a : AAct} {S : St} {v : AV} {S' : St} (h : runCode rec E c a S = .ok (.ret v, S')) : False := by
  unfold runCode at h
  cases c with
  | skip => cases h
  | label l => cases h
  | exit id => cases h
  | goto l => cases h
  | ret => cases h
  | seq x y => exact runSeq_noRet hR h
  | loop c => exact runSeq_noRet hR h
  | cond g x y =>
    simp only [runCond] at h
    split at h
    · exact hR _ _ _ _ _ h
    · cases h
  | block id c =>
    obtain ⟨⟨res, S1⟩, h1, h2⟩ := bind_ok h
    cases res with
    | ret v => exact hR _ _ _ _ _ h1
    | exit e1 a1 => cases e1 <;> cases h2
  | scope c =>
    obtain ⟨⟨res, S1⟩, h1, h2⟩ := bind_ok h
    cases res with
    | ret v => exact hR _ _ _ _ _ h1
    | exit e1 a1 => cases e1 <;> cases h2
  | region id ops draw =>
    obtain ⟨⟨a1, S1⟩, h1, h2⟩ := bind_ok h
    cases h2
  | rangeFunc g ps x y =>
    obtain ⟨⟨d, mark, S1⟩, h1, h2⟩ := bind_ok h
    simp only at h2
    split at h2
    rotate_left
    · cases h2
    obtain ⟨fd, hfd, h3⟩ := bind_ok h2
    obtain ⟨⟨res, S3⟩, h4, h5⟩ := bind_ok h3
    split at h5
    rotate_left
    · cases h5
    obtain ⟨st, k1, h6⟩ := bind_ok h5
    obtain ⟨_, k2, h7⟩ := bind_ok h6
    obtain ⟨pending, k3, h8⟩ := bind_ok h7
    obtain ⟨S4, k4, h9⟩ := bind_ok h8
    cases pending with
    | none => cases h9
    | some c => obtain ⟨e', k5, k6⟩ := bind_ok h9; cases k6
  | refuse s => cases h

/-- RUNS ARE SOUND. -/
theorem run_sound {E : Env} (hG : EnvGood E) : ∀ n, Sound E (run E n) := by
  intro n
  induction n with
  | zero =>
    refine ⟨fun c a S e a' S' h => ?_, fun f args S v S' h => ?_, ⟨0, fun c a S e a' S' h => ?_⟩, fun c a S v S' h => ?_, fun f args S e a S' h => ?_⟩ <;> cases h
  | succ n ih =>
    obtain ⟨m, hm⟩ := ih.loop
    refine ⟨fun c a S e a' S' h hc => ?_, fun f args S v S' h r w xs hw ha => ?_, ⟨m + 1, fun c a S e a' S' h hc => ?_⟩, fun c a S v S' h => ?_, fun f args S e a S' h => ?_⟩
    · exact runCode_shows hG ih hm h hc
    · exact runCall_sim hG ih h xs hw ha
    · exact runLoop_rounds ih hm h hc
    · exact runCode_noRet ih.noRet h
    · exact runCall_noExit h

end Go.Am
