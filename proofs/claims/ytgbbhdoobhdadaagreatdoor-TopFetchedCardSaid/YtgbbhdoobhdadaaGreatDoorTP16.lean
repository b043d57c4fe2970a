/- Part 16. -/
import Derived.Test.YtgbbhdoobhdadaaGreatDoorTP14
import Derived.Test.YtgbbhdoobhdadaaGreatDoorTP15
section
namespace Go.Am.YtgbbhdoobhdadaaGreatDoor
open Go.Am Go.RowKit
def roomIds (S : St) (x : Nat) : Option (List Nat) :=
  match S.heap.get x with
  | some (AObj.row cs _ _) => (match (cs[52]? : Option AV) with
    | some (.slice ir _ _ _ _ _) => (match S.heap.get ir with
      | some (AObj.row [_, .func _ _ [.ptr b8 _ _, .ptr b1 _ _], _, _, _, .func _ _ [.ptr b3 _ _, _]] _ _) => some [x, b1, b8, b3, ir]
      | _ => none)
    | _ => none)
  | _ => none
def nodupB : List Nat → Bool
 | [] => true
 | x :: l => !(l.any (Nat.beq x)) && nodupB l
theorem nodupB_eq : ∀ {l : List Nat}, nodupB l = true → l.Nodup
 | [], _ => by simp
 | x :: l, h => by
  unfold nodupB at h;rw [Bool.and_eq_true] at h;rw [List.nodup_cons];refine ⟨fun hm => ?_, nodupB_eq h.2⟩
  have : l.any (Nat.beq x) = true := List.any_eq_true.2 ⟨x, hm, Nat.beq_refl _⟩;rw [this] at h;cases h.1
def sameRows : List CRow → List CRow → Bool
 | [], [] => true
 | x :: l, y :: k => (allSame (sameA 20) x.1 y.1 && (Nat.beq x.2.1 y.2.1 && Nat.beq x.2.2 y.2.2)) && sameRows l k
 | _, _ => false
theorem sameRows_eq : ∀ {l k : List CRow}, sameRows l k = true → l = k
  | [], [], _ => rfl
  | [], _ :: _, h => by cases h
  | _ :: _, [], h => by cases h
  | (a, b, c) :: l, (d, e, f) :: k, h => by
    unfold sameRows at h
    simp only [Bool.and_eq_true] at h
    obtain ⟨⟨h1, h2, h3⟩, h4⟩ := h
    rw [allSame_eq (fun a b => sameA_eq 20 a b) _ _ h1, Nat.eq_of_beq_eq_true h2, Nat.eq_of_beq_eq_true h3, sameRows_eq h4]
def findRows : List (List CRow × List AV × AV) → List CRow → List AV → Option AV
  | [], _, _ => none
  | (rows, av, t) :: l, rs, xs => bif sameRows rs rows && allSame (sameA 20) xs av then some t else findRows l rs xs
theorem findRows_mem : ∀ {l : List (List CRow × List AV × AV)} {rs : List CRow} {xs : List AV} {t : AV}, findRows l rs xs = some t → (rs, xs, t) ∈ l
  | [], _, _, _, h => by cases h
  | (rows, av, t0) :: l, rs, xs, t, h => by
    unfold findRows at h
    cases hs : sameRows rs rows && allSame (sameA 20) xs av with
    | true =>
      rw [hs] at h
      rw [Bool.and_eq_true] at hs
      cases h
      rw [sameRows_eq hs.1, allSame_eq (fun a b => sameA_eq 20 a b) _ _ hs.2]
      simp
    | false =>
      rw [hs] at h
      exact List.mem_cons_of_mem _ (findRows_mem h)
def roomDeed (tab : List (List CRow × List AV × AV)) : List AV → St → Option (AV × St) := fun args S =>
  match args with
  | [.ptr x off ver] => (match roomIds S x with
    | some ids => bif nodupB ids then (match rowsR S ids ids, mapR (canonV S ids 4) [.ptr x off ver] with
      | .ok rows, .ok av => (findRows tab rows av).map fun t => (t, S)
      | _, _ => none) else none
    | none => none)
  | _ => none
theorem roomDeed_effs {E : Env} (hG : EnvGood E) {f : FuncId} {tab : List (List CRow × List AV × AV)} (h : ∀ x ∈ tab, RunsAnew E f x.2.1 x.1 x.2.2) : Effs E.P f (roomDeed tab) := by
 intro r S w args xs v S' hw hx hg;unfold roomDeed at hg;split at hg
 ·split at hg
  ·rename_i ids _
   obtain ⟨hnd, hg⟩ : nodupB ids = true ∧ _ := by
    cases hb : nodupB ids with
    | true => rw [hb] at hg; exact ⟨rfl, hg⟩
    | false => rw [hb] at hg; cases hg
   simp only [cond_true] at hg;split at hg
   ·rename_i rows av hr ha
    obtain ⟨t, ht, e⟩ := Option.map_eq_some_iff.1 hg;cases e;exact anew_calls hG hw (nodupB_eq hnd) hr ha hx (h _ (findRows_mem ht))
   ·cases hg
  ·cases hg
 ·cases hg
noncomputable def anewB (E : Env) (n : Nat) (f : FuncId) (x : List CRow × List AV × AV) : Bool :=
 match run E n (.call f x.2.1) (canonSt x.1) with
 | .ok (.ret v, S') => Nat.ble x.1.length S'.low && (match reifyHi x.1.length 12 S' v with | .ok t => sameA 20 t x.2.2 | .error _ => false)
 | _ => false
theorem RunsAnew.of {E : Env} {n : Nat} {f : FuncId} {x : List CRow × List AV × AV} (h : anewB E n f x = true) : RunsAnew E f x.2.1 x.1 x.2.2 := by
 unfold anewB at h;split at h
 ·rename_i v S' hr
  rw [Bool.and_eq_true] at h;obtain ⟨h1, h2⟩ := h;split at h2
  ·rename_i t ht
   exact ⟨n, v, S', hr, Nat.le_of_ble_eq_true h1, by rw [ht, sameA_eq _ _ _ h2]⟩
  ·cases h2
 ·cases h
end Go.Am.YtgbbhdoobhdadaaGreatDoor
end
