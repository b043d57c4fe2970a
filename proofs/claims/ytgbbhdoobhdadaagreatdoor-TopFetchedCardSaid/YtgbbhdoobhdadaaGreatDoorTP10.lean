/- Part 10. -/
import Derived.Test.YtgbbhdoobhdadaaGreatDoorTP1
section
namespace Go.Am.YtgbbhdoobhdadaaGreatDoor.R10
open Go.Am Go.RowKit
def i (n : Int) : AV := .lit (.int .i64 n)
def st (l : List UInt8) : AV := .lit (.string ⟨l.toArray⟩)
def bo (b : Bool) : AV := .lit (.bool b)
def roomV (seats : List AV) : AV := .agg [
  .tree 5 3 [st [97, 116, 108, 97, 115], i 2, i 40, i 60, bo true, st [112, 115, 97, 108, 116, 101, 114], i 4, i 10, i 10, bo false, st [110, 111, 118, 101, 108], i 1, i 200, i 200, bo false],
  .tree 2 2 [st [97, 100, 97], i 2, st [98, 111], i 5], .tree 2 (seats.length / 2) seats,
  .tree 4 5 [i 0, i 0, i 6, i 20, i 1, i 1, i 2, i 30, i 0, i 2, i 8, i 10, i 0, i 1, i 1, i 50, i 1, i 0, i 4, i 15]]
def room3 : AV := roomV [i 10, bo false, i 4, bo true, i 5, bo false]
def room1 : AV := roomV [i 10, bo false]
def roomT : List (List AV × AV) := [([i 3], room3), ([i 1], room1)]
noncomputable abbrev E0 : Env := envJ noOrc
noncomputable abbrev R0 : Task → St → RR := run E0 40
noncomputable def c32 : Code := (Go.Proofs.Tryz.f32.body).getD .skip
noncomputable def ops32 : Array Oper := opsOf (seqL (seqR c32))
noncomputable def x32 : Code := seqL c32
theorem body32 : Go.Proofs.Tryz.f32.body = some (.seq x32 (.seq (.region 1 ops32 true) .ret)) := by kernel_rfl
noncomputable def in32 (k : Int) : RR := R0 (.code x32 (enterAct Go.Proofs.Tryz.f32 [i k])) (S0 E0 32)
noncomputable def p32 (k : Int) : AAct × St := exitOf (in32 k) (enterAct Go.Proofs.Tryz.f32 [i k]) (S0 E0 32)
noncomputable def f32 (k : Int) : AAct := fillR R0 E0 32 ops32 (p32 k).2 (List.range 23) (p32 k).1
noncomputable def last32 (k : Int) : R (AV × St) := opVal R0 E0 ops32 23 (f32 k) (p32 k).2
noncomputable def out32 (k : Int) : St := stOf (last32 k) (p32 k).2
theorem cd32 : codeOk x32 = true := by kernel_rfl
theorem res32 : Go.Proofs.Tryz.f32.results.toList = [.cell 2 32] := by kernel_rfl
theorem fn32 : E0.fn 32 = some Go.Proofs.Tryz.f32 := by kernel_rfl
noncomputable def runs32 (k : Int) (t : AV) : Bool :=
 isNormal (in32 k) && (isOk (last32 k) && (treesB R0 E0 32 ops32 (p32 k).1 (f32 k) (p32 k).2 (out32 k) 23 && (sameA 20 ((p32 k).1.get 2) ((f32 k).get 2) && resB E0 Go.Proofs.Tryz.f32 (out32 k) (f32 k) t)))
theorem room_runs3 : runs32 3 room3 = true := by kernel_rfl
theorem room_runs1 : runs32 1 room1 = true := by kernel_rfl
theorem room_calls {k : Int} {t : AV} (h : runs32 k t = true) (w : World) :
  Calls Go.Proofs.Tryz.prog 32 #[.int .i64 k] w fun e w' => ∃ x, e = .returned x ∧ Reads w' w.heap.size t x ∧ Below w.heap.size w w' ∧ w.drawn ≤ w'.drawn := by
 unfold runs32 at h;simp only [Bool.and_eq_true] at h;obtain ⟨h1, h2, h3, h4, h5⟩ := h;obtain ⟨v, hv, ht⟩ := resB_eq h5;exact treesCall good0 40 (f := 32) (args := [i k]) rfl fn32 body32 cd32 (isNormal_eq h1) (Trees.of h2 h3) res32 (sameA_eq _ _ _ h4) hv ht w [.int .i64 k]
  fun r => .cons (.lit _) (.nil r)
theorem room_meets : Meets Go.Proofs.Tryz.prog 32 (table roomT) := fun w _ args xs t hl hr hg => by
 have hm := table_get hg
 have key : ∀ k, args = [i k] → xs = [.int .i64 k] := by
  intro k e;subst e
  match xs, hl with
  | [x], _ => rw [(hr 0 (i k) x rfl rfl).lit_inv]
 simp only [roomT, List.mem_cons, List.not_mem_nil, or_false, Prod.mk.injEq] at hm
 rcases hm with ⟨e, rfl⟩ | ⟨e, rfl⟩
 ·rw [key _ e]; exact room_calls room_runs3 w
 ·rw [key _ e]; exact room_calls room_runs1 w
end Go.Am.YtgbbhdoobhdadaaGreatDoor.R10
end
