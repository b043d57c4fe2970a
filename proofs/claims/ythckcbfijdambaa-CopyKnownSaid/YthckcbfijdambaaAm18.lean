/- Soundness: one operation of a region; operations in their order. -/
import Derived.Test.YthckcbfijdambaaAm17
import Derived.OrdersIn
namespace Go.Am
open Go.RowKit

section
variable {E : Env} (hG : EnvGood E) {rec : Task → St → RR} (hR : Sound E rec) {r : Ren} {S : St} {w : World}
include hG hR

theorem opVal_sim {ops : Array Oper} {i : Nat} {a : AAct} {act : Act} {v : AV} {S1 : St} {ro : Option Nat} (hw : RelW r S w) (ha : RelA r a act)
    (h : opVal rec E ops i a S = .ok (v, S1)) (Q : Exit → Act → World → Prop) (K : Act → World → Prop)
    (hK : ∀ x r1 w1, Ext r S w r1 S1 w1 → RelV r1 v x → K (act.put (dstAt ops i) x) w1) : wpOpIn (fence ro) 0 E.P ops Q i K act w := by
  unfold opVal at h
  cases ho : ops[i]? with
  | none => rw [ho] at h; cases h
  | some o =>
  rw [ho] at h
  have hdst : dstAt ops i = o.dst := by simp [dstAt, ho]
  rw [hdst] at hK
  simp only at h
  unfold wpOpIn
  simp only [ho]
  rw [← yielded_rel ha ops]
  by_cases hwant : Region.wanted o (yieldedA ops a) = true
  · rw [hwant] at h
    simp only [cond_true] at h
    rw [if_pos hwant]
    refine ⟨fun _ _ => trivial, ?_⟩
    have hnd : ∀ c, o.op ≠ .defer c := by
      intro c hc
      simp only [aop, hc] at h
      cases h
    rw [Oper.semAt_eq _ _ _ hnd]
    cases hop : aop E S a.ev o with
    | error m => rw [hop] at h; cases h
    | ok x =>
      obtain ⟨nx, S2⟩ := x
      rw [hop] at h
      have hout := aop_rel hG.ok hw (fun x => ha.ev x) hop
      cases nx with
      | val v' =>
        cases h
        obtain ⟨x, w', r', hrun, hx, hv⟩ := hout
        rcases hrun with hrun | ⟨hrun, rfl⟩
        · rw [hrun]
          exact hK _ _ _ hx hv
        · rw [hrun]
          exact hK _ _ _ hx hv
      | enter f args =>
        obtain ⟨rfl, xs, hrun, hxs⟩ := hout
        rw [hrun]
        refine ⟨fun hc => (by cases hc), ?_⟩
        refine (callsIn_fence (callA_sim hG hR hw hxs h) ro).mono ?_
        rintro e w' ⟨x, r', rfl, hx, hv⟩
        exact hK _ _ _ hx hv
      | round l args =>
        obtain ⟨rfl, b, n, u, xs, hr, hrun, hxs⟩ := hout
        obtain ⟨lp, hl, hlen, hround⟩ := aRound_sim hR hw hr hxs h ro
        rw [hrun, run_yield hl (by simpa using hlen)]
        refine ⟨fun hc => (by cases hc), ?_⟩
        refine hround _ fun x r' w' hx hv => ?_
        exact hK _ _ _ hx hv
  · rw [Bool.not_eq_true] at hwant
    rw [hwant] at h
    cases h
    rw [if_neg (by rw [hwant]; exact Bool.false_ne_true)]
    exact ⟨fun _ _ => trivial, hK _ _ _ (.refl hw) (undef_rel r)⟩

omit hG hR in
theorem opSteps_act {ops : Array Oper} : ∀ (l : List Nat) {a a1 : AAct} {S S1 : St}, opSteps rec E ops l a S = .ok (a1, S1) → a1.rnd = a.rnd ∧ a1.n = a.n := by
  intro l
  induction l with
  | nil => intro a a1 S S1 h; cases h; exact ⟨rfl, rfl⟩
  | cons i l ih =>
    intro a a1 S S1 h
    obtain ⟨⟨a2, S2⟩, h1, h2⟩ := bind_ok h
    obtain ⟨⟨v, S3⟩, h3, h4⟩ := bind_ok h1
    obtain ⟨a3, h5, h6⟩ := bind_ok h4
    cases h6
    obtain ⟨p1, p2, p3, p4, p5⟩ := put_ok h5
    have := ih h2
    exact ⟨this.1.trans p3, this.2.trans p1⟩

theorem opSteps_sim {ops : Array Oper} {ro : Option Nat} {Q : Exit → Act → World → Prop} : ∀ (l : List Nat) {r : Ren} {a a1 : AAct} {S S1 : St} {act : Act} {w : World},
    RelW r S w → RelA r a act → opSteps rec E ops l a S = .ok (a1, S1) →
      (∀ r1 act1 w1, Ext r S w r1 S1 w1 → RelA r1 a1 act1 → Q .normal act1 w1) → wpOpsIn (fence ro) 0 E.P ops Q l act w := by
  intro l
  induction l with
  | nil =>
    intro r a a1 S S1 act w hw ha h hQ
    cases h
    exact hQ _ _ _ (.refl hw) ha
  | cons i l ih =>
    intro r a a1 S S1 act w hw ha h hQ
    obtain ⟨⟨a2, S2⟩, h1, h2⟩ := bind_ok h
    obtain ⟨⟨v, S3⟩, h3, h4⟩ := bind_ok h1
    obtain ⟨a3, h5, h6⟩ := bind_ok h4
    cases h6
    rw [wpOpsIn_cons]
    refine opVal_sim hG hR hw ha h3 Q _ fun x r1 w1 hx hv => ?_
    exact ih hx.rel ((ha.mono hx.sub).put h5 hv) h2 fun r2 act1 w2 hx2 ha2 => hQ _ _ _ (hx.trans hx2) ha2
end

end Go.Am
