/- Slicing, indexing, parts, lengths, abstractly and in the model. -/
import Derived.Test.YthckcbfijdambaaAm8
namespace Go.Am
open Go.RowKit

section
variable {E : Env} (hE : EnvOk E) {r : Ren} {S : St} {w : World}
include hE

omit hE in
theorem litInt_rel {o : Option AV} {x : Option Value} {n : Int} (h : isLitInt o n = true) (hr : RelOpt r o x) : ∃ k, x = some (.int k n) := by
  unfold isLitInt at h
  split at h
  · rename_i k m
    have e := of_decide_eq_true h
    subst e
    cases x with
    | none => cases hr
    | some y => exact ⟨k, congrArg some (RelV.lit_inv hr)⟩
  · cases h

omit hE in
theorem bounds_zero {P : Program} {hi' mx' : Option Value} {j k : IntKind} (h1 : hi' = some (.int j 0)) (h2 : mx' = some (.int k 0)) (b : Bool) (len cap : Nat) :
    (Instr.sliceBounds b len cap none hi' mx').run P w = .ok (0, 0, 0) w := by
  subst h1
  subst h2
  unfold Instr.sliceBounds
  have z : ∀ (kk : IntKind) (y : Nat) (code : BoundsCode), (Instr.sliceBound (.int kk 0) y code).run P w = .ok 0 w := fun kk y code => by
    unfold Instr.sliceBound
    rw [run_bind_ok (a := (kk, (0 : Int))) (w1 := w) rfl]
    simp only []
    rw [if_pos (by omega)]
    rfl
  rw [run_bind_ok (z k _ _)]
  simp only []
  rw [run_bind_ok (z j _ _)]
  rfl

omit hE in
theorem none_rel {o : Option AV} {x : Option Value} (h : o.isNone = true) (hr : RelOpt r o x) : x = none := by
  cases o with
  | some _ => cases h
  | none =>
    cases x with
    | none => rfl
    | some _ => cases hr

omit hE in
theorem none_rel' {x : Option Value} (hr : RelOpt r none x) : x = none := none_rel (r := r) rfl hr

theorem slice_rel (hw : RelW r S w) {t : TypeId} {x v : AV} {a : Value} {lo hi mx : Option AV} {lo' hi' mx' : Option Value} (hx : RelV r x a) (hlo : RelOpt r lo lo') (hhi : RelOpt r hi hi')
    (hmx : RelOpt r mx mx') (h : aslice E S t x lo hi mx = .ok v) : Gives E.P r w v (Instr.sliceAt t a lo' hi' mx') := by
  obtain ⟨d, h1, h2⟩ := bind_ok h
  have hd := ofOpt_ok h1
  unfold Gives Instr.sliceAt
  rw [run_bind_ok (run_und hE hd w)]
  split at h2
  · rename_i s
    have e := hx.lit_inv
    subst e
    split at h2
    · cases h2
    · obtain ⟨⟨l, hh, m⟩, h3, h4⟩ := bind_ok h2
      cases h4
      have hm := none_rel' hmx
      subst hm
      have := (bounds_rel (P := E.P) (w := w) (isSlice := false) hlo hhi (Nat.le_refl _) h3) s.size (Nat.le_refl _)
      refine ⟨.string (s.extract l hh), ?_, .lit _⟩
      simp only []
      unfold Instr.slice
      rw [run_bind_ok (run_und hE hd w)]
      simp only []
      simp only [Option.isSome_none, Bool.false_eq_true, if_false]
      rw [run_bind_ok this.1]
      rfl
  · rename_i e id off ver ex len cap
    cases hx with
    | slice hr hn hl hc he =>
    rename_i b n u cap'
    have hreal : ∀ (l hh m sz : Nat), (Instr.sliceBounds true len cap' lo' hi' mx').run E.P w = .ok (l, hh, m) w → (sizeOf e).run E.P w = .ok sz w →
        (Instr.slice t (.slice (some ⟨b, off, none⟩) len cap') lo' hi' mx').run E.P w = .ok (.slice (some (if m = l then ⟨b, off, none⟩ else ⟨b, off + l * sz, none⟩)) (hh - l) (m - l)) w := by
      intro l hh m sz g1 g2
      unfold Instr.slice
      rw [run_bind_ok (run_und hE hd w)]
      simp only []
      rw [run_bind_ok g1]
      simp only []
      rw [run_bind_ok g2]
      by_cases hml : m = l
      · simp [hml, Sem.run_pure]
      · simp [hml, Sem.run_pure, addr_add]
    simp only []
    cases hz : isLitInt mx 0 && isLitInt hi 0 && lo.isNone with
    | true =>
      rw [hz, cond_true] at h2
      obtain ⟨sz, h3, h4⟩ := bind_ok h2
      cases h4
      obtain ⟨hz, hz3⟩ := and_true hz
      obtain ⟨hz1, hz2⟩ := and_true hz
      obtain ⟨k1, e1⟩ := litInt_rel hz1 hmx
      obtain ⟨k2, e2⟩ := litInt_rel hz2 hhi
      have e3 := none_rel hz3 hlo
      subst e3
      exact ⟨_, hreal 0 0 0 sz (bounds_zero e2 e1 _ _ _) (run_siz hE (ofOpt_ok h3) w), .empty⟩
    | false =>
      rw [hz, cond_false] at h2
      split at h2
      · cases h2
      · obtain ⟨⟨l, hh, m⟩, h3, h4⟩ := bind_ok h2
        obtain ⟨sz, h5, h6⟩ := bind_ok h4
        obtain ⟨⟨cs, u0, fl⟩, h7, h8⟩ := bind_ok h6
        obtain ⟨h9, h10⟩ := bif_ok h8
        cases h10
        obtain ⟨hu, hcond⟩ := and_true h9
        have hu := beq_true hu
        have hm := none_rel' hmx
        subst hm
        obtain ⟨g1, g2, g3, g4⟩ := (bounds_rel (P := E.P) (w := w) (isSlice := true) hlo hhi hl h3) cap' hc
        have hg : S.heap.get id = some (.row cs u0 fl) := rowOf_ok h7
        obtain ⟨e1, _, _⟩ := hw.obj _ _ hg _ _ _ _ hr
        have hu' : u0 = sz := hu
        simp only [] at g2 g3 g4
        subst g2
        refine ⟨_, hreal l hh cap' sz g1 (run_siz hE (ofOpt_ok h5) w), ?_⟩
        have hsz : sz = u := by omega
        subst hsz
        cases hbb : Nat.beq m l with
        | true =>
          have hml := beq_true hbb
          subst hml
          simp only [cond_true]
          simp only [hbb, Bool.not_true, Bool.false_or, Bool.or_eq_true] at hcond
          rcases hcond with hex | hl0
          · have hce := he hex
            subst hce
            rw [if_pos rfl]
            exact .slice hr (by simp; omega) (by omega) (by omega) (fun _ => rfl)
          · have hl0 := beq_true hl0
            subst hl0
            have : (if cap' = 0 then (⟨b, off, none⟩ : Addr) else ⟨b, off + 0 * sz, none⟩) = ⟨b, off, none⟩ := by simp
            rw [this]
            exact .slice hr (by simpa using hn) (by omega) (by omega) (fun hex => by simpa using he hex)
        | false =>
          have hml := beq_false.1 hbb
          simp only [cond_false]
          rw [if_neg (by omega)]
          have hmul : (cap' - l) * sz + l * sz = cap' * sz := by rw [← Nat.add_mul]; congr 1; omega
          exact .slice hr (by omega) (by omega) (by omega) (fun h => by rw [he h])
  · rename_i e u len cs
    cases hx with
    | tree hl hcp himm hv =>
    rename_i b off cap' c
    have hreal : ∀ (l hh m sz : Nat), (Instr.sliceBounds true len cap' lo' hi' mx').run E.P w = .ok (l, hh, m) w → (sizeOf e).run E.P w = .ok sz w →
        (Instr.slice t (.slice (some ⟨b, off, none⟩) len cap') lo' hi' mx').run E.P w = .ok (.slice (some (if m = l then ⟨b, off, none⟩ else ⟨b, off + l * sz, none⟩)) (hh - l) (m - l)) w := by
      intro l hh m sz g1 g2
      unfold Instr.slice
      rw [run_bind_ok (run_und hE hd w)]
      simp only []
      rw [run_bind_ok g1]
      simp only []
      rw [run_bind_ok g2]
      by_cases hml : m = l
      · simp [hml, Sem.run_pure]
      · simp [hml, Sem.run_pure, addr_add]
    simp only []
    cases hz : isLitInt mx 0 && isLitInt hi 0 && lo.isNone with
    | true =>
      rw [hz, cond_true] at h2
      obtain ⟨sz, h3, h4⟩ := bind_ok h2
      cases h4
      obtain ⟨hz, hz3⟩ := and_true hz
      obtain ⟨hz1, hz2⟩ := and_true hz
      obtain ⟨k1, e1⟩ := litInt_rel hz1 hmx
      obtain ⟨k2, e2⟩ := litInt_rel hz2 hhi
      have e3 := none_rel hz3 hlo
      subst e3
      exact ⟨_, hreal 0 0 0 sz (bounds_zero e2 e1 _ _ _) (run_siz hE (ofOpt_ok h3) w), .empty⟩
    | false =>
      rw [hz, cond_false] at h2
      split at h2
      · cases h2
      · obtain ⟨⟨l, hh, m⟩, h3, h4⟩ := bind_ok h2
        obtain ⟨sz, h5, h6⟩ := bind_ok h4
        obtain ⟨h9, h10⟩ := bif_ok h6
        cases h10
        have hu := beq_true h9
        subst hu
        have hm := none_rel' hmx
        subst hm
        obtain ⟨g1, g2, g3, g4⟩ := (bounds_rel (P := E.P) (w := w) (isSlice := true) hlo hhi (Nat.le_refl _) h3) cap' hcp
        simp only [] at g2 g3 g4
        refine ⟨_, hreal l hh cap' u g1 (run_siz hE (ofOpt_ok h5) w), ?_⟩
        have hmul : (hh - l) * u + l * u = hh * u := by rw [← Nat.add_mul]; congr 1; omega
        have hmul2 : hh * u ≤ len * u := Nat.mul_le_mul_right _ g4
        have hlen : ((cs.drop (l * u)).take ((hh - l) * u)).length = (hh - l) * u := by simp; omega
        have hrel : ∀ (i : Nat) (v : AV) (x : Value), ((cs.drop (l * u)).take ((hh - l) * u))[i]? = some v → c[off + l * u + i]? = some x → RelV r.bare v x := by
          intro i v x k1 k2
          rw [List.getElem?_take] at k1
          split at k1
          · rw [List.getElem?_drop] at k1
            exact hv _ v x k1 (by rw [← Nat.add_assoc]; exact k2)
          · cases k1
        by_cases hcl : cap' = l
        · rw [if_pos hcl]
          have hh0 : hh - l = 0 := by omega
          refine .tree (c := c) hlen (by omega) (.inl ?_) fun i v x k1 k2 => ?_
          · rw [hh0]; simp
          · rw [hh0] at k1; simp at k1
        · rw [if_neg hcl]
          refine .tree (c := c) hlen (by omega) ?_ hrel
          rcases himm with rfl | ⟨himm, hs⟩
          · exact .inl (by simp)
          · exact .inr ⟨himm, by rw [hlen]; omega⟩
  · rename_i e
    have e0 := hx.lit_inv
    subst e0
    have hreal : ∀ (l hh m sz : Nat), (Instr.sliceBounds true 0 0 lo' hi' mx').run E.P w = .ok (l, hh, m) w → (sizeOf e).run E.P w = .ok sz w →
        (Instr.slice t (.slice none 0 0) lo' hi' mx').run E.P w = .ok (.slice none (hh - l) (m - l)) w := by
      intro l hh m sz g1 g2
      unfold Instr.slice
      rw [run_bind_ok (run_und hE hd w)]
      simp only []
      rw [run_bind_ok g1]
      simp only []
      rw [run_bind_ok g2]
      by_cases hml : m = l
      · simp [hml, Sem.run_pure]
      · simp [hml, Sem.run_pure]
    simp only []
    cases hz : isLitInt mx 0 && isLitInt hi 0 && lo.isNone with
    | true =>
      rw [hz, cond_true] at h2
      obtain ⟨sz, h3, h4⟩ := bind_ok h2
      cases h4
      obtain ⟨hz, hz3⟩ := and_true hz
      obtain ⟨hz1, hz2⟩ := and_true hz
      obtain ⟨k1, e1⟩ := litInt_rel hz1 hmx
      obtain ⟨k2, e2⟩ := litInt_rel hz2 hhi
      have e3 := none_rel hz3 hlo
      subst e3
      exact ⟨_, hreal 0 0 0 sz (bounds_zero e2 e1 _ _ _) (run_siz hE (ofOpt_ok h3) w), .lit _⟩
    | false =>
      rw [hz, cond_false] at h2
      split at h2
      · cases h2
      · obtain ⟨⟨l, hh, m⟩, h3, h4⟩ := bind_ok h2
        obtain ⟨sz, h5, h6⟩ := bind_ok h4
        cases h6
        have hm := none_rel' hmx
        subst hm
        obtain ⟨g1, g2, g3, g4⟩ := (bounds_rel (P := E.P) (w := w) (isSlice := true) hlo hhi (Nat.le_refl _) h3) 0 (Nat.le_refl _)
        simp only [] at g2 g3 g4
        have := hreal l hh 0 sz g1 (run_siz hE (ofOpt_ok h5) w)
        have e1 : hh - l = 0 := by omega
        have e2 : 0 - l = 0 := by omega
        rw [e1, e2] at this
        exact ⟨_, this, .lit _⟩
  · rename_i n e id off ver
    split at h2
    · cases h2
    · obtain ⟨⟨l, hh, m⟩, h3, h4⟩ := bind_ok h2
      obtain ⟨sz, h5, h6⟩ := bind_ok h4
      obtain ⟨⟨cs, u0, fl⟩, h7, h8⟩ := bind_ok h6
      obtain ⟨h9, h10⟩ := bif_ok h8
      cases h10
      obtain ⟨h9, h14⟩ := and_true h9
      obtain ⟨h9, h13⟩ := and_true h9
      obtain ⟨h9, h11⟩ := and_true h9
      obtain ⟨h9, h12⟩ := and_true h9
      have hu : u0 = sz := beq_true h9
      have hoff : off = 0 := beq_true h12
      have hlen : cs.length = n * sz := beq_true h11
      have hver : ver = cs.length := beq_true h13
      have hfl : fl ≤ ver := ble_true h14
      have hm := none_rel' hmx
      subst hm
      subst hoff
      subst hu
      cases hx with
      | ptr hr =>
      rename_i b n0 u1
      obtain ⟨g1, g2, g3, g4⟩ := (bounds_rel (P := E.P) (w := w) (isSlice := false) hlo hhi (Nat.le_refl _) h3) n (Nat.le_refl _)
      have hg : S.heap.get id = some (.row cs u0 fl) := rowOf_ok h7
      obtain ⟨e1, e2, e3⟩ := hw.obj _ _ hg _ _ _ _ hr
      obtain ⟨c, ee, k1, k2, k3, k4⟩ := e3 hfl
      subst e1
      simp only [] at g2 g3 g4
      subst g2
      refine ⟨.slice (some (if m = l then ⟨b, 0, none⟩ else ⟨b, 0 + l * u1, none⟩)) (hh - l) (m - l), ?_, ?_⟩
      · simp only []
        rw [run_bind_ok (a := (⟨b, 0, none⟩ : Addr)) (w1 := w) rfl, run_bind_ok g1, run_bind_ok (run_siz hE (ofOpt_ok h5) w)]
        by_cases hml : m = l
        · simp [hml, Sem.run_pure]
        · simp [hml, Sem.run_pure, addr_add]
      · have hmul : (m - l) * u1 + l * u1 = m * u1 := by rw [← Nat.add_mul]; congr 1; omega
        by_cases hml : m = l
        · subst hml
          have hb : Nat.beq m m = true := by simp
          simp only [hb, cond_true, if_true]
          exact .slice hr (by simp) (by omega) (by omega) (fun _ => rfl)
        · have hb : Nat.beq m l = false := beq_false.2 hml
          simp only [hb, cond_false, if_neg hml]
          exact .slice hr (by omega) (by omega) (by omega) (fun _ => rfl)
  · cases h2
end
end Go.Am
