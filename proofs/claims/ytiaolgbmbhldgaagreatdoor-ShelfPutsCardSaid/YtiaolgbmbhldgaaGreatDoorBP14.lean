/- Part 14. -/
import Derived.Test.YtiaolgbmbhldgaaGreatDoorBP13
import Derived.Test.YtiaolgbmbhldgaaGreatDoorBP12
section
namespace Go.Am
set_option linter.unusedVariables false
set_option linter.unusedSimpArgs false
section
variable {sh : List qH} {mv : Int → Int → Int}
theorem withS_cons {b : qA} {r : List qA} {s : Int} {ls : List Int} : withS (b :: r) (s :: ls) = { b with shelf := s } :: withS r ls := rfl
theorem wideOn_cons {i : Int} {b : qA} {r : List qA} : wideOn i (b :: r) = (if b.shelf = i then b.wide else 0) + wideOn i r := rfl
theorem withS_shelf {r : List qA} {l : List Nat} {b : qA} (h : b ∈ withS r (intsOf l)) : ∃ n ∈ l, b.shelf = (n : Int) := by
 obtain ⟨k, hk⟩ := List.getElem?_of_mem h;unfold withS at hk;rw [List.getElem?_zipWith] at hk;cases hx : r[k]? with
 | none => rw [hx] at hk; cases hk
 | some x =>
  cases hy : (intsOf l)[k]? with
  | none => rw [hx, hy] at hk; cases hk
  | some y =>
   rw [hx, hy] at hk;cases hk;unfold intsOf at hy;rw [List.getElem?_map] at hy;cases hz : l[k]? with
   | none => rw [hz] at hy; cases hy
   | some n =>
    rw [hz] at hy;cases hy;exact ⟨n, List.mem_of_getElem? hz, rfl⟩
theorem wideOn_none {i : Int} : ∀ {l : List qA}, (∀ b ∈ l, b.shelf ≠ i) → wideOn i l = 0
 | [], _ => rfl
 | b :: r, h => by
  rw [wideOn_cons, if_neg (h b (by simp)), wideOn_none fun c hc => h c (by simp [hc])]; rfl
structure Stand (sh : List qH) (mv : Int → Int → Int) (bs : List qA) (i shelf : Nat) (left : Int) (ls : List Nat) : Prop where
 len : ls.length = bs.length
 from_ : ∀ n ∈ ls, shelf ≤ n ∧ n < sh.length
 up : ls.Pairwise (· ≤ ·)
 room : ∀ (n : Nat) (a : qH), sh[n]? = some a → shelf ≤ n → wideOn n (withS bs (intsOf ls)) ≤ capAt a n shelf left ∧ lowOn n a.high (withS bs (intsOf ls))
 may : ∀ (j n : Nat), ls[j]? = some n → mv ((i + j : Nat) : Int) n ≠ 1000
theorem feas_stand (hsh : ∀ (n : Nat) (a : qH), sh[n]? = some a → 0 ≤ a.wide) : ∀ (bs : List qA) (i shelf : Nat) (left : Int) (ls : List Nat), Wides bs → 0 ≤ left → (feas sh mv bs i shelf left ls ↔ Stand sh mv bs i shelf left ls)
 | [], i, shelf, left, ls, hw, hl => by
  refine ⟨fun h => ?_, fun h => ?_⟩
  ·have := feas_nil h;subst this;refine ⟨rfl, fun n hn => by simp at hn, .nil, fun n a ha hn => ⟨?_, fun b hb => by simp [withS, intsOf] at hb⟩, fun j n hn => by simp at hn⟩
   show (0 : Int) ≤ capAt a n shelf left
   have := hsh n a ha;unfold capAt;split <;> omega
  ·have := h.len;rw [List.eq_nil_of_length_eq_zero this]
   trivial
 | b :: r, i, shelf, left, ls, hw, hl => by
  have hwr : Wides r := fun c hc => hw c (by simp [hc])
  have hwb := hw b (by simp);refine ⟨fun h => ?_, fun h => ?_⟩
  ·obtain ⟨n, l, a, rfl, ha, hcan, hrest⟩ := feas_cons h;obtain ⟨c1, c2, c3, c4⟩ := hcan
   have st := (feas_stand hsh r (i + 1) n (capAt a n shelf left - b.wide) l hwr (by omega)).1 hrest
   have hn : n < sh.length := (List.getElem?_eq_some_iff.1 ha).1;refine ⟨by simp [st.len], fun m hm => ?_, List.pairwise_cons.2 ⟨fun m hm => (st.from_ m hm).1, st.up⟩, fun m a' ha' hm => ?_, fun j m hj => ?_⟩
   ·rcases List.mem_cons.1 hm with rfl | hm
    ·exact ⟨c1, hn⟩
    ·have := st.from_ m hm; omega
   ·show wideOn m (withS (b :: r) ((n : Int) :: intsOf l)) ≤ _ ∧ lowOn m a'.high (withS (b :: r) ((n : Int) :: intsOf l));rw [withS_cons, wideOn_cons];simp only
    by_cases e1 : m < n
    ·have hno : ∀ c ∈ withS r (intsOf l), c.shelf ≠ (m : Int) := fun c hc => by
      obtain ⟨k, hk, he⟩ := withS_shelf hc
      have := (st.from_ k hk).1;omega
     rw [if_neg (by omega), wideOn_none hno];refine ⟨?_, fun c hc hs => ?_⟩
     ·have := hsh m a' ha';unfold capAt;split <;> omega
     ·rcases List.mem_cons.1 hc with rfl | hc
      ·simp only at hs; omega
      ·exact absurd hs (hno c hc)
    ·obtain ⟨r1, r2⟩ := st.room m a' ha' (by omega)
     by_cases e2 : n = m
     ·subst e2;rw [ha] at ha';cases ha';rw [if_pos rfl]
      have : capAt a n n (capAt a n shelf left - b.wide) = capAt a n shelf left - b.wide := by unfold capAt; rw [if_pos rfl]
      rw [this] at r1;refine ⟨by omega, fun c hc hs => ?_⟩
      rcases List.mem_cons.1 hc with rfl | hc
      ·exact c3
      ·exact r2 c hc hs
     ·rw [if_neg (by omega)]
      have e3 : capAt a' m n (capAt a n shelf left - b.wide) = a'.wide := by unfold capAt; rw [if_neg (by omega)]
      have e4 : capAt a' m shelf left = a'.wide := by unfold capAt; rw [if_neg (by omega)]
      rw [e3] at r1;rw [e4];refine ⟨by omega, fun c hc hs => ?_⟩
      rcases List.mem_cons.1 hc with rfl | hc
      ·simp only at hs; omega
      ·exact r2 c hc hs
   ·cases j with
    | zero =>
     simp at hj;subst hj;exact c4
    | succ j =>
     have := st.may j m (by simpa using hj);rw [show i + (j + 1) = i + 1 + j by omega];exact this
  ·cases ls with
   | nil => have := h.len; simp at this
   | cons n l =>
    obtain ⟨f1, f2⟩ := h.from_ n (by simp);obtain ⟨a, ha⟩ := get_some f2;obtain ⟨u1, u2⟩ := List.pairwise_cons.1 h.up;obtain ⟨r1, r2⟩ := h.room n a ha f1
    change wideOn n (withS (b :: r) ((n : Int) :: intsOf l)) ≤ _ at r1
    rw [withS_cons, wideOn_cons, if_pos rfl] at r1;simp only at r1
    have hnn := (wideOn_nonneg (i := n) (withS_wides (ls := intsOf l) hwr)).1
    have c2 : b.wide ≤ capAt a n shelf left := by omega
    refine ⟨a, ha, ⟨f1, c2, r2 { b with shelf := (n : Int) } (by show _ ∈ withS (b :: r) ((n : Int) :: intsOf l); rw [withS_cons]; simp) rfl, ?_⟩, ?_⟩
    ·have := h.may 0 n rfl
     simpa using this
    ·refine (feas_stand hsh r (i + 1) n (capAt a n shelf left - b.wide) l hwr (by omega)).2 ⟨by have := h.len; simpa using this, fun m hm => ⟨u1 m hm, (h.from_ m (by simp [hm])).2⟩, u2, fun m a' ha' hm => ?_, fun j m hj => ?_⟩
     ·obtain ⟨q1, q2⟩ := h.room m a' ha' (by omega)
      change wideOn m (withS (b :: r) ((n : Int) :: intsOf l)) ≤ _ at q1
      rw [withS_cons, wideOn_cons] at q1;simp only at q1;refine ⟨?_, fun c hc hs => q2 c (by show c ∈ withS (b :: r) ((n : Int) :: intsOf l); rw [withS_cons]; simp [hc]) hs⟩
      by_cases e : m = n
      ·subst e;rw [ha] at ha';cases ha';rw [if_pos rfl] at q1;unfold capAt at q1 ⊢;rw [if_pos rfl];omega
      ·rw [if_neg (by omega)] at q1
       have e4 : capAt a' m shelf left = a'.wide := by unfold capAt; rw [if_neg (by omega)]
       rw [e4] at q1;unfold capAt;rw [if_neg e];omega
     ·have := h.may (j + 1) m (by simpa using hj);rw [show i + (j + 1) = i + 1 + j by omega] at this;exact this
end
end Go.Am
end
section
namespace Go.Am
set_option linter.unusedVariables false
set_option linter.unusedSimpArgs false
theorem up_iff : ∀ ls : List Nat, (∀ k, upAt (intsOf ls) k) ↔ ls.Pairwise (· ≤ ·)
 | [] => ⟨fun _ => .nil, fun _ k x y hx => by simp [intsOf] at hx⟩
 | [n] => ⟨fun _ => by simp, fun _ k x y hx hy => by simp [intsOf] at hy⟩
 | n :: m :: r => by
  have ih := up_iff (m :: r);refine ⟨fun h => ?_, fun h => ?_⟩
  ·have h1 : n ≤ m := by
    have := h 0 n m rfl rfl;omega
   have h2 := ih.1 fun k x y hx hy => h (k + 1) x y hx hy
   refine List.pairwise_cons.2 ⟨fun q hq => ?_, h2⟩
   rcases List.mem_cons.1 hq with rfl | hq
   ·exact h1
   ·have := (List.pairwise_cons.1 h2).1 q hq;omega
  ·obtain ⟨h1, h2⟩ := List.pairwise_cons.1 h;intro k x y hx hy;cases k with
   | zero =>
    have e1 : (n : Int) = x := Option.some.inj hx
    have e2 : (m : Int) = y := Option.some.inj hy
    have := h1 m (by simp);omega
   | succ k => exact ih.2 h2 k x y hx hy
theorem intsOf_len (ls : List Nat) : (intsOf ls).length = ls.length := by simp [intsOf]
section
variable {sh : List qH} {mv : Int → Int → Int} {books : List qA} {a0 : qH}
def ownMv (books : List qA) (but : Int) (i n : Int) : Int := if i = but then 0 else match books[i.toNat]? with | some b => if b.shelf = n then 0 else 1 | none => 0
theorem ownMv_rng (but i n : Int) : 0 ≤ ownMv books but i n ∧ ownMv books but i n ≤ 1 := by
 unfold ownMv;split
 ·omega
 ·split
  ·split <;> omega
  ·omega
theorem cost_moved {but : Int} : ∀ (k : Nat) (ls : List Nat), ls.length + k = books.length → cost (ownMv books but) k ls = movedN (books.drop k) (intsOf ls) k but
 | k, [], h => by
  have : books.drop k = [] := List.drop_of_length_le (by simp at h; omega);rw [this];rfl
 | k, n :: ls, h => by
  simp only [List.length_cons] at h
  have ih := cost_moved (but := but) (k + 1) ls (by omega)
  have hk : k < books.length := by omega
  obtain ⟨b, hb⟩ := get_some hk
  have ea : books.drop k = b :: books.drop (k + 1) := by rw [← List.getElem_cons_drop hk]; congr 1; exact Option.some.inj ((List.getElem?_eq_getElem hk).symm.trans hb)
  rw [ea]
  show ownMv books but k n + cost (ownMv books but) (k + 1) ls = movedN (b :: books.drop (k + 1)) ((n : Int) :: intsOf ls) k but;rw [movedN_cons, ih]
  congr 1
  unfold ownMv;simp only [Int.toNat_natCast, hb]
  by_cases e : (k : Int) = but
  ·rw [if_pos e, if_neg fun h => h.1 e]
  ·rw [if_neg e]
   by_cases e2 : b.shelf = (n : Int)
   ·rw [if_pos e2, if_neg fun h => h.2 e2.symm]
   ·rw [if_neg e2, if_pos ⟨e, fun h => e2 h.symm⟩]
end
end Go.Am
end
section
namespace Go.Am
open Go.RowKit
set_option linter.unusedVariables false
set_option linter.unusedSimpArgs false
abbrev vecC (l : List Int) : List AV := l.map fun x => iv x
theorem pure_eqArr {P : Program} {t len elem : Nat} {xs ys : List Int} (hu : pureVal P (underlying t) = some (.array len elem)) (hsz : pureVal P (sizeOf elem) = some 1)
    (hpart : ∀ (l : List Int) (i : Nat) (x : Int), l[i]? = some x → pureVal P (part elem (l.map (Value.int .i64)).toArray (i * 1)) = some (.int .i64 x))
    (heq : ∀ a b : Int, pureVal P (Op.equalIn 9999 elem (.int .i64 a) (.int .i64 b)) = some (a == b)) (lx : xs.length = len) (ly : ys.length = len) :
    pureVal P (Op.equal t (.agg (xs.map (Value.int .i64)).toArray) (.agg (ys.map (Value.int .i64)).toArray)) = some (decide (xs = ys)) := by
  unfold Op.equal
  have e : Op.maxDepth = 9998 + 1 + 1 := rfl
  rw [e, Op.equalIn, pv_bind, hu]
  simp only [Option.bind_some, pv_bind, hsz, Std.Legacy.Range.forIn_eq_forIn_range', Std.Legacy.Range.size, Nat.sub_zero, Nat.add_sub_cancel, Nat.div_one]
  have key : ∀ (c s : Nat), s + c = len → pureVal P (forIn (List.range' s c 1) ((none : Option Bool), ()) fun i __s => do
            let __do_lift ← part elem (List.map (Value.int IntKind.i64) xs).toArray (i * 1)
            let __do_lift_1 ← part elem (List.map (Value.int IntKind.i64) ys).toArray (i * 1)
            let __do_lift ← Op.equalIn (9998 + 1) elem __do_lift __do_lift_1
            if (!__do_lift) = true then pure (ForInStep.done (some false, ()))
              else pure (ForInStep.yield (none, ()))) = some (if xs.drop s = ys.drop s then (none, ()) else (some false, ())) := by
    intro c
    induction c with
    | zero =>
      intro s hs
      rw [List.drop_of_length_le (by omega), List.drop_of_length_le (by omega), if_pos rfl]
      rfl
    | succ c ih =>
      intro s hs
      have hx : s < xs.length := by omega
      have hy : s < ys.length := by omega
      rw [List.range'_succ, List.forIn_cons]
      simp only [pv_bind, hpart xs s xs[s] (List.getElem?_eq_getElem hx), hpart ys s ys[s] (List.getElem?_eq_getElem hy), Option.bind_some, heq]
      rw [List.drop_eq_getElem_cons hx, List.drop_eq_getElem_cons hy]
      by_cases h : xs[s] = ys[s]
      · have hb : (xs[s] == ys[s]) = true := by simp [h]
        simp only [hb, Bool.not_true, Bool.false_eq_true, if_false, pv_pure, Option.bind_some]
        rw [ih (s + 1) (by omega)]
        simp only [h, List.cons.injEq, true_and]
      · have hb : (xs[s] == ys[s]) = false := by simp [h]
        simp only [hb, Bool.not_false, if_true, pv_pure, Option.bind_some, h, List.cons.injEq, false_and, if_false]
  rw [key len 0 (by omega)]
  by_cases h : xs = ys
  · subst h
    simp [pv_pure]
  · simp [h, pv_pure]
theorem vec_mapR (l : List Int) : mapR (toV 3) (vecC l) = .ok (l.map (Value.int .i64)) := by
 induction l with
 | nil => rfl
 | cons a l ih =>
  have h : toV 3 (iv a) = .ok (.int .i64 a) := rfl;simp only [vecC, List.map_cons, mapR, h] at ih ⊢;rw [ih];rfl
theorem vec_toV (l : List Int) : toV 4 (AV.agg (vecC l)) = .ok (Value.agg (l.map (Value.int .i64)).toArray) := by
 rw [toV, vec_mapR];rfl
section
variable {E : Env} {d : Bool} {n : Nat} {rnd : Option Nat} {ops : Array Oper} {i : Nat} {ns : List Nat} {ms : List Dfr} {σ : Sl} {hs hs' : List Thing} {Q : Sy → Prop} {t : Tmp} {op : Op} {ty : TypeId} {pos : String} {af : Array Edge} {g : Option (Nat × Bool)}
structure VecT (P : Program) (xt : TypeId) (k : Nat) : Prop where
 eq : ∀ l l' : List Int, l.length = k → l'.length = k → pureVal P (Op.equal xt (.agg (l.map (Value.int .i64)).toArray) (.agg (l'.map (Value.int .i64)).toArray)) = some (decide (l = l'))
 guard : P.eqGuardType P.depth xt = false
theorem VecT.of {P : Program} {t len elem : Nat} {k' : IntKind} (hu : pureVal P (underlying t) = some (.array len elem)) (he : pureVal P (underlying elem) = some (.int k')) (hsz : pureVal P (sizeOf elem) = some 1) (ha : pureVal P (isAgg elem) = some false)
  (hg : P.eqGuardType P.depth t = false) : VecT P t len := by
 refine ⟨fun l l' h h' => pure_eqArr hu hsz (fun l i x hx => ?_) (fun a b => pure_eqInt he) h h', hg⟩;unfold part;rw [pv_bind, ha]
 have : (l.map (Value.int .i64)).toArray[i * 1]? = some (.int .i64 x) := by simp [hx]
 simp only [Option.bind_some, Bool.false_eq_true, if_false, this];rfl
theorem Val.eql_vec {xt ty' : TypeId} {x y : Operand} {l l' : List Int} {k : Nat} {c : Bool} (hc : c = decide (l = l')) (hT : VecT E.P xt k) (hl : l.length = k) (hl' : l'.length = k) (hx : evs σ x = some (.agg (vecC l))) (hy : evs σ y = some (.agg (vecC l'))) :
  Val E σ hs (.binOp .eql xt x y ty') (bv c) := by
 subst hc;refine Val.bin hx hy (abin_agg (.inl rfl) (vec_toV l) (vec_toV l') ?_ (bin_eql (hT.eq l l' hl hl')));unfold eqGuard;rw [if_neg (by decide)];simp only [pv_bind, pv_program, Option.bind_some, hT.guard];rfl
theorem Val.nil_eqS {xt ty' e : TypeId} {x y : Operand} {id off ver len cap : Nat} {ex : Bool} (ht : E.und xt = some (.slice e)) (hx : evs σ x = some (.slice id off ver ex len cap)) (hy : evs σ y = some nilS) : Val E σ hs (.binOp .eql xt x y ty') (bv false) := fun ev S he _ o ho => by
 unfold aop; rw [ho];simp only [he _ _ hx, he _ _ hy, abin, abinPure, toV, Except.bind, ht, nilEq];rfl
theorem Val.slice_arr {st e p id off k m : Nat} {x y : Operand} {cells : List AV} {h : Int} (hp : hs[p]? = some (.row id 1 cells)) (hk : cells.length = k) (ht : E.und st = some (.array m e)) (hsz : E.siz e = some 1) (hm : Nat.beq m 0 = false) (hoff : Nat.ble (off + m * 1) k = true)
  (hx : evs σ x = some (.ptr id off k)) (hy : evs σ y = some (iv h)) (hh : 0 ≤ h ∧ h ≤ m) : Val E σ hs (.slice st x none (some y) none) (.slice id off k true h.toNat m) := fun ev S he hS o ho => by
 subst hk;obtain ⟨fl, hfl, hg⟩ := hS.row hp
 have er : rowOf S id = .ok (cells, 1, fl) := by unfold rowOf; rw [hg]
 have e1 : decide (0 ≤ h) = true := decide_eq_true hh.1
 have e2 : decide (h ≤ (m : Int)) = true := decide_eq_true hh.2
 have e3 : Nat.ble cells.length cells.length = true := Nat.ble_eq_true_of_le (Nat.le_refl _)
 have e4 : Nat.ble fl cells.length = true := Nat.ble_eq_true_of_le hfl
 have e5 : Nat.beq 1 1 = true := rfl;unfold aop; rw [ho];simp only [he _ _ hx, Option.map_some, Option.map_none, he _ _ hy, aslice, ht, ofOpt, Except.bind, boundsOf, boundOf, intOf?, e1, e2, Bool.and_self, cond_true, hsz, er, hoff, e3, e4, e5, hm, cond_false, Nat.zero_mul, Nat.add_zero, Nat.sub_zero, valOf];rfl
theorem src_row {S : St} (hS : HasS S hs) {p id off k m cap : Nat} {cells : List AV} {l : List Int} (hp : hs[p]? = some (.row id 1 cells)) (hk : cells.length = k) (hl : (cells.drop off).take m = vecC l) (hm : off + m ≤ k) : Src S (.slice id off k true m cap) 1 m (vecC l) := by
 subst hk
 have hlen : (vecC l).length = m := by rw [← hl, List.length_take, List.length_drop]; omega
 refine ⟨rfl, fun _ => ?_, by rw [hlen, Nat.mul_one], by simp [vecC]⟩;obtain ⟨_, hld⟩ := hS.loadAll (hS.row hp);simp only [firstN];rw [hld off (m * 1) (by omega), Nat.mul_one, hl]
theorem Val.load_vec {bt : TypeId} {x : Operand} {p id k : Nat} {l : List Int} (hp : hs[p]? = some (arrL id encI l)) (hl : l.length = k) (ht : Aggr E bt k) (hx : evs σ x = some (.ptr id 0 k)) : Val E σ hs (.load bt x) (.agg (vecC l)) := by
 have hf : l.flatMap encI.f = vecC l := flat_ints l
 have hp' : hs[p]? = some (.row id 1 (vecC l)) := by rw [hp, ← hf]; rfl
 exact Val.load_rows hp' ht hx (by simp [vecC, hl]) (by rw [List.drop_zero, List.take_of_length_le (by simp [vecC, hl])]) (Nat.ble_eq_true_of_le (by omega))
theorem Eff.append_row {st e b p q id off k m cap : Nat} {z : Bool} {v : AV} {l l2 : List Int} {cells : List AV} {ts : Array TypeId} {x y : Operand} (ht : AppT E st e 1 b) (hts : ts[0]? = some st) (hni : notInt E ts[1]? = .ok ()) (hp : hs[p]? = some (ownL z v encI l)) (hq : hs[q]? = some (.row id 1 cells)) (hk : cells.length = k)
  (hl : (cells.drop off).take m = vecC l2) (hm : off + m ≤ k) (hx : evs σ x = some v) (hy : evs σ y = some (.slice id off k true m cap)) (hb : b ≤ 128) (hbig : l.length + l2.length < 1000000000) :
  Eff E σ hs (.call { callee := .builtin .append, args := #[x, y], argTypes := ts }) fun v' hs' => hs' = hs.set p (ownL z v' encI (l ++ l2)) := by
 refine Eff.append (en := encI) ht hts hni hp hx hy (fun S hS => ?_) hb hbig
 have h := src_row hS hq hk hl hm (cap := cap)
 have hlen : l2.length = m := by
  have := congrArg List.length hl;simp only [List.length_take, List.length_drop, vecC, List.length_map] at this;omega
 rw [hlen, flat_ints];exact h
end
end Go.Am
end
section
namespace Go.Am
set_option linter.unusedVariables false
set_option linter.unusedSimpArgs false
def arrW (book : Nat) (w : Way) : List Int := if w.1 < 1000 then List.replicate book 0 ++ (w.2 ++ List.replicate (11 - book - w.2.length) 0) else List.replicate 11 0
theorem arrW_len' {book : Nat} {w : Way} (h : w.1 < 1000 → book + w.2.length ≤ 11) : (arrW book w).length = 11 := by
 unfold arrW
 by_cases hw : w.1 < 1000
 ·rw [if_pos hw]
  have := h hw;simp only [List.length_append, List.length_replicate];omega
 ·rw [if_neg hw]; simp
theorem feas_len {sh : List qH} {mv : Int → Int → Int} : ∀ (bs : List qA) (i shelf : Nat) (left : Int) (ls : List Nat), feas sh mv bs i shelf left ls → ls.length = bs.length
 | [], i, shelf, left, ls, h => by rw [feas_nil h]; rfl
 | b :: r, i, shelf, left, ls, h => by
  obtain ⟨n, l, a, rfl, _, _, h3⟩ := feas_cons h
  have := feas_len r _ _ _ _ h3;simp [this]
theorem bestW_len {sh : List qH} {mv : Int → Int → Int} (hmv : ∀ i n, 0 ≤ mv i n) (bs : List qA) (i shelf : Nat) (left : Int) (h : (bestW sh mv bs i shelf left).1 < 1000) : (bestW sh mv bs i shelf left).2.length = bs.length := by
 obtain ⟨ls, h1, h2, _⟩ := (bestW_spec hmv bs i shelf left).found h;rw [h1, intsOf_len, feas_len _ _ _ _ _ h2]
def mvOf (F : Int → Int → Option Int) (i n : Int) : Int := match F i n with | some v => if 0 ≤ v ∧ v ≤ 1000 then v else 0 | none => 0
theorem mvOf_rng (F : Int → Int → Option Int) (i n : Int) : 0 ≤ mvOf F i n ∧ mvOf F i n ≤ 1000 := by
 unfold mvOf;split
 ·split <;> omega
 ·omega
theorem mvOf_of {F : Int → Int → Option Int} {i n v : Int} (h : F i n = some v) (hv : 0 ≤ v ∧ v ≤ 1000) : mvOf F i n = v := by
 unfold mvOf;rw [h];exact if_pos hv
def ArrOk (sh : List qH) (books : List qA) (F : Int → Int → Option Int) : Prop :=
 (books.length ≤ 11 ∧ sh.length ≤ 1000) ∧ (∀ b ∈ books, 0 ≤ b.wide ∧ b.wide ≤ 1000000) ∧ (∀ a ∈ sh, 0 ≤ a.wide ∧ a.wide ≤ 1000000) ∧ ∀ (i n : Nat), i < books.length → n < sh.length → F i n = some (mvOf F i n)
def wayOf (sh : List qH) (books : List qA) (F : Int → Int → Option Int) (a0 : qH) : Way := bestW sh (mvOf F) books 0 0 a0.wide
noncomputable def P_s9_arrange (sh : List qH) (books : List qA) (F : Int → Int → Option Int) : Option (Int × List Int) :=
 el sh 0 fun a0 => chk (ArrOk sh books F) (some ((wayOf sh books F a0).1, arrW 0 (wayOf sh books F a0)))
theorem arrange_some {sh : List qH} {books : List qA} {F : Int → Int → Option Int} {r : Int × List Int} (h : P_s9_arrange sh books F = some r) : ∃ a0, sh[0]? = some a0 ∧ ArrOk sh books F ∧ r = ((wayOf sh books F a0).1, arrW 0 (wayOf sh books F a0)) ∧ r.2.length = 11 := by
 obtain ⟨a0, h1, h2, h3⟩ := el_some h;obtain ⟨h4, h5⟩ := chk_some h3;cases h5;refine ⟨a0, h2, h4, rfl, arrW_len' fun h => ?_⟩
 have := bestW_len (fun i n => (mvOf_rng F i n).1) books 0 0 a0.wide h;unfold wayOf
 have := h4.1.1;omega
theorem arrange_len {sh : List qH} {books : List qA} {F : Int → Int → Option Int} {m : Int} {l : List Int} (h : P_s9_arrange sh books F = some (m, l)) : l.length = 11 := let ⟨_, _, _, _, h⟩ := arrange_some h; h
end Go.Am
end
section
namespace Go.Am
open Go.RowKit
set_option linter.unusedVariables false
variable {E : Env}
end Go.Am
end
section
namespace Go.Am
set_option linter.unusedVariables false
noncomputable def P_s9_own (r_SfRoom_Classes : List Str) (r_SfRoom_Shelves : List qH) (r_SfRoom_Books : List qA) (i : Int) (shelf : Int) : Option Int :=
 el r_SfRoom_Books i fun a11 =>
 if a11.shelf = shelf then
  some 0
 else
  some 1
noncomputable def P_s9_Fits1 (i : Int) (shelf : Int) (p2_x : Int) (p3_x : Int) (p4_SfRoom_Classes : List Str) (p4_SfRoom_Shelves : List qH) (p4_SfRoom_Books : List qA) : Option Int :=
  seqx (
    andx (
      if i = p2_x then
        if shelf = p3_x then
          some true
        else
          if ¬ i = p2_x then
            andx (P_s9_own p4_SfRoom_Classes p4_SfRoom_Shelves p4_SfRoom_Books i shelf) fun y24 =>
              some (decide (y24 = 0))
          else
            some false
      else
        if ¬ i = p2_x then
          andx (P_s9_own p4_SfRoom_Classes p4_SfRoom_Shelves p4_SfRoom_Books i shelf) fun y24 =>
            some (decide (y24 = 0))
        else
          some false) fun x27 =>
      if x27 = true then
        some (Ex.rt 0)
      else
        some (Ex.nx ())) fun _ =>
    some 1000
noncomputable def P_s9_Put1 (i : Int) (shelf : Int) (p2_x : Int) (p3_SfRoom_Classes : List Str) (p3_SfRoom_Shelves : List qH) (p3_SfRoom_Books : List qA) : Option Int :=
 if i = p2_x then
  some 0
 else
  andx (P_s9_own p3_SfRoom_Classes p3_SfRoom_Shelves p3_SfRoom_Books i shelf) fun y13 =>
   some y13
noncomputable def P_s9_Fits_L2 (qB : List qA) : (Int × (List Int)) → Option (Stp (Int × (List Int)) (List Int)) := fun (x37, own) =>
  if x37 < (qB.length : Int) then
    el qB x37 fun a40 =>
    chk ((own.length : Int) * 1 = 11) (
      el own x37 fun a45 =>
      chk (I64 (x37 + 1)) (
        some (Stp.ag ((x37 + 1), List.set own x37.toNat a40.shelf))))
  else
    some (Stp.dn own)
noncomputable def P_s9_Fits_L1 (qG : List Str) (qC : List qH) (qB : List qA) (y16_2 : Int) : (Int × (List Int)) → Option (Stp (Int × (List Int)) (List Int)) := fun (x27, l) =>
  if x27 < (qC.length : Int) then
    andx (
      andx (P_s9_arrange qC qB (fun i_ n_ => P_s9_Fits1 i_ n_ y16_2 x27 qG qC qB)) fun (m32, l32) =>
        andx (
          iter (P_s9_Fits_L2 qB) (0, List.replicate 11 (0 : Int))) fun own =>
          chk ((own.length : Int) * 1 = 11) (
            el own y16_2 fun a49 =>
            andx (
              if m32 = 0 then
                chk ((List.set own y16_2.toNat x27).length = 11) (
                  some (decide (l32 = (List.set own y16_2.toNat x27))))
              else
                some false) fun x58 =>
              if x58 = true then
                chk (l.length + [x27].length < 1000000000) (
                  some (l ++ [x27]))
              else
                some l)) fun l_2 =>
      chk (I64 (x27 + 1)) (
        some (Stp.ag ((x27 + 1), l_2)))
  else
    some (Stp.dn l)
noncomputable def P_s9_Fits_L4 (y16_2 : List qA) : (Int × (List Int)) → Option (Stp (Int × (List Int)) (List Int)) := fun (x37, own) =>
  if x37 < (y16_2.length : Int) then
    el y16_2 x37 fun a40 =>
    chk ((own.length : Int) * 1 = 11) (
      el own x37 fun a45 =>
      chk (I64 (x37 + 1)) (
        some (Stp.ag ((x37 + 1), List.set own x37.toNat a40.shelf))))
  else
    some (Stp.dn own)
noncomputable def P_s9_Fits_L3 (qG : List Str) (qC : List qH) (y16_2 : List qA) (y16_3 : Int) : (Int × (List Int)) → Option (Stp (Int × (List Int)) (List Int)) := fun (x27, l) =>
  if x27 < (qC.length : Int) then
    andx (
      andx (P_s9_arrange qC y16_2 (fun i_ n_ => P_s9_Fits1 i_ n_ y16_3 x27 qG qC y16_2)) fun (m32, l32) =>
        andx (
          iter (P_s9_Fits_L4 y16_2) (0, List.replicate 11 (0 : Int))) fun own =>
          chk ((own.length : Int) * 1 = 11) (
            el own y16_3 fun a49 =>
            andx (
              if m32 = 0 then
                chk ((List.set own y16_3.toNat x27).length = 11) (
                  some (decide (l32 = (List.set own y16_3.toNat x27))))
              else
                some false) fun x58 =>
              if x58 = true then
                chk (l.length + [x27].length < 1000000000) (
                  some (l ++ [x27]))
              else
                some l)) fun l_2 =>
      chk (I64 (x27 + 1)) (
        some (Stp.ag ((x27 + 1), l_2)))
  else
    some (Stp.dn l)
noncomputable def P_s9_Fits (qG : List Str) (qC : List qH) (qB : List qA) (qK : Int) (qL : Int) (qM : Str) (qJ : Int) (qI : Int) (qN : Int) (qO : Int) : Option ((List Int) × Int) :=
  andx (P_s9_enter qG qC qB (⟨qK, qL, qM, qJ, qI, qN, qO⟩ : qA)) fun y =>
    match y with
    | .inl (y16_2, y16_3) =>
      if ¬ y16_3 = 0 then
        some ([], y16_3)
      else
        andx (
          iter (P_s9_Fits_L1 qG qC qB y16_2) (0, [])) fun l =>
          some (l, 0)
    | .inr (y16_2, y16_3, y16_4) =>
      if ¬ y16_4 = 0 then
        some ([], y16_4)
      else
        andx (
          iter (P_s9_Fits_L3 qG qC y16_2 y16_3) (0, [])) fun l =>
          some (l, 0)
noncomputable def P_s9_Put (qG : List Str) (qC : List qH) (qB : List qA) (qK : Int) (qL : Int) (qM : Str) (qJ : Int) (qI : Int) (qN : Int) (qO : Int) : Option (Int × Int × (List Int) × Bool × Int) :=
  andx (P_s9_enter qG qC qB (⟨qK, qL, qM, qJ, qI, qN, qO⟩ : qA)) fun y =>
    match y with
    | .inl (y13_2, y13_3) =>
      if ¬ y13_3 = 0 then
        some (0, 0, [], true, y13_3)
      else
        if (qB.length : Int) = 10 then
          some (0, 0, [], true, 3)
        else
          andx (P_s9_arrange qC qB (fun i_ n_ => P_s9_Put1 i_ n_ y13_2 qG qC qB)) fun (m28, l28) =>
            if m28 ≥ 1000 then
              some (0, 0, [], true, 9)
            else
              chk (0 ≤ (qB.length : Int) ∧ (qB.length : Int) ≤ 11) (
                some (y13_2, m28, List.take ((qB.length : Int)).toNat (l28), false, 0))
    | .inr (y13_2, y13_3, y13_4) =>
      if ¬ y13_4 = 0 then
        some (0, 0, [], true, y13_4)
      else
        if (qB.length : Int) = 10 then
          some (0, 0, [], true, 3)
        else
          andx (P_s9_arrange qC y13_2 (fun i_ n_ => P_s9_Put1 i_ n_ y13_3 qG qC y13_2)) fun (m28, l28) =>
            if m28 ≥ 1000 then
              some (0, 0, [], true, 9)
            else
              chk (0 ≤ (y13_2.length : Int) ∧ (y13_2.length : Int) ≤ 11) (
                some (y13_3, m28, List.take ((y13_2.length : Int)).toNat (l28), false, 0))
end Go.Am
end
section
namespace Go.Am.YtiaolgbmbhldgaaGreatDoor
open Go.Am Go.RowKit
set_option linter.unusedVariables false
set_option maxRecDepth 100000
structure Finds (hs C : List Thing) (pr pk pv pf pm idr idk idv idf idm : Nat) (vC vS vB : AV) (c : FuncId) (first caps : List AV) (m : List (K3 × AV)) : Prop where
 r : hs[pr]? = some (.row idr 3 [vC, vS, vB])
 k : hs[pk]? = some (.row idk 1 [.map idm])
 v : hs[pv]? = some (.row idv 1 [.func c first caps])
 f : hs[pf]? = some (.row idf 1 [.func 132 [] [.ptr idr 0 3, .ptr idk 0 1, .ptr idv 0 1, .ptr idf 0 1]])
 m : hs[pm]? = some (memT idm m)
 subp : ∀ x ∈ C, ∃ p, p ≠ pm ∧ hs[p]? = some x
theorem Finds.sub {hs C : List Thing} {pr pk pv pf pm idr idk idv idf idm : Nat} {vC vS vB : AV} {c : FuncId} {first caps : List AV} {m : List (K3 × AV)} (F : Finds hs C pr pk pv pf pm idr idk idv idf idm vC vS vB c first caps m) : ∀ x ∈ C, x ∈ hs := fun x hx => let ⟨_, _, h⟩ := F.subp x hx; List.mem_of_getElem? h
theorem Finds.set {hs C : List Thing} {pr pk pv pf pm idr idk idv idf idm : Nat} {vC vS vB : AV} {c : FuncId} {first caps : List AV} {m : List (K3 × AV)} (F : Finds hs C pr pk pv pf pm idr idk idv idf idm vC vS vB c first caps m) (m' : List (K3 × AV)) : Finds (hs.set pm (memT idm m')) C pr pk pv pf pm idr idk idv idf idm vC vS vB c first caps m' := by
 have go : ∀ {p : Nat} {id u : Nat} {cs : List AV}, hs[p]? = some (.row id u cs) → (hs.set pm (memT idm m'))[p]? = some (.row id u cs) := fun {p} {id u cs} h => by
  rw [List.getElem?_set_ne, h];intro e;rw [← e, F.m] at h;cases h
 refine ⟨go F.r, go F.k, go F.v, go F.f, ?_, fun x hx => ?_⟩
 ·rw [List.getElem?_set_self (List.getElem?_eq_some_iff.1 F.m).1]
 ·obtain ⟨p, h1, h2⟩ := F.subp x hx;exact ⟨p, h1, by rw [List.getElem?_set_ne (Ne.symm h1)]; exact h2⟩
def outV (book : Nat) (w : Way) : AV := .agg (restC w.1 (arrW book w))
def wayAt (sh : List qH) (mv : Int → Int → Int) (books : List qA) (book shelf : Nat) (left : Int) : Way := bestW sh mv (books.drop book) book shelf left
def MemoOk (sh : List qH) (mv : Int → Int → Int) (books : List qA) (m : List (K3 × AV)) : Prop :=
 ∀ (q : K3) (v : AV), mget m q = some v → ∃ (b s : Nat) (l : Int), q = ((b : Int), (s : Int), l) ∧ b < books.length ∧ v = outV b (wayAt sh mv books b s l)
theorem arrW_len {sh : List qH} {mv : Int → Int → Int} {books : List qA} {b s : Nat} {l : Int} (hmv : ∀ i n, 0 ≤ mv i n) (h11 : books.length ≤ 11) (hb : b < books.length) : (arrW b (wayAt sh mv books b s l)).length = 11 := by
 unfold arrW
 by_cases h : (wayAt sh mv books b s l).1 < 1000
 ·rw [if_pos h]
  have := bestW_len hmv _ _ _ _ h;unfold wayAt;simp only [List.length_append, List.length_replicate, this, List.length_drop];omega
 ·rw [if_neg h]; simp
theorem Finds.push {hs C : List Thing} {pr pk pv pf pm idr idk idv idf idm : Nat} {vC vS vB : AV} {c : FuncId} {first caps : List AV} {m : List (K3 × AV)} (F : Finds hs C pr pk pv pf pm idr idk idv idf idm vC vS vB c first caps m) (x : Thing) : Finds (x :: hs) C (pr + 1) (pk + 1) (pv + 1) (pf + 1) (pm + 1) idr idk idv idf idm vC vS vB c first caps m :=
 ⟨F.r, F.k, F.v, F.f, F.m, fun y hy => let ⟨p, h1, h2⟩ := F.subp y hy; ⟨p + 1, by omega, h2⟩⟩
theorem vec11 {l : List Int} (h : l.length = 11) : ∃ a0 a1 a2 a3 a4 a5 a6 a7 a8 a9 a10, l = [a0, a1, a2, a3, a4, a5, a6, a7, a8, a9, a10] := by
 rcases l with _ | ⟨a0, l⟩ <;> simp only [List.length_cons, List.length_nil] at h
 ·omega
 rcases l with _ | ⟨a1, l⟩ <;> simp only [List.length_cons, List.length_nil] at h
 ·omega
 rcases l with _ | ⟨a2, l⟩ <;> simp only [List.length_cons, List.length_nil] at h
 ·omega
 rcases l with _ | ⟨a3, l⟩ <;> simp only [List.length_cons, List.length_nil] at h
 ·omega
 rcases l with _ | ⟨a4, l⟩ <;> simp only [List.length_cons, List.length_nil] at h
 ·omega
 rcases l with _ | ⟨a5, l⟩ <;> simp only [List.length_cons, List.length_nil] at h
 ·omega
 rcases l with _ | ⟨a6, l⟩ <;> simp only [List.length_cons, List.length_nil] at h
 ·omega
 rcases l with _ | ⟨a7, l⟩ <;> simp only [List.length_cons, List.length_nil] at h
 ·omega
 rcases l with _ | ⟨a8, l⟩ <;> simp only [List.length_cons, List.length_nil] at h
 ·omega
 rcases l with _ | ⟨a9, l⟩ <;> simp only [List.length_cons, List.length_nil] at h
 ·omega
 rcases l with _ | ⟨a10, l⟩ <;> simp only [List.length_cons, List.length_nil] at h
 ·omega
 have : l = [] := List.eq_nil_of_length_eq_zero (by omega);subst this;exact ⟨a0, a1, a2, a3, a4, a5, a6, a7, a8, a9, a10, rfl⟩
theorem build_rest {k : Nat} {a : Int} {l : List Int} (h : l.length = 11) : abuildC (EL k) 138 [(0, [iv a]), (1, vecC l)] = .ok (.agg (restC a l)) := by
 obtain ⟨a0, a1, a2, a3, a4, a5, a6, a7, a8, a9, a10, rfl⟩ := vec11 h;rfl
theorem wayAt_le {sh : List qH} {mv : Int → Int → Int} (hmv : ∀ i n, 0 ≤ mv i n) (bs : List qA) (i shelf : Nat) (left : Int) : 0 ≤ (bestW sh mv bs i shelf left).1 ∧ (bestW sh mv bs i shelf left).1 ≤ 1000 := by
 have hB := bestW_spec (sh := sh) hmv bs i shelf left;refine ⟨hB.low, ?_⟩
 by_cases h : (bestW sh mv bs i shelf left).1 < 1000
 ·omega
 ·rw [hB.none h]; exact Int.le_refl _
theorem arrW_set {book n : Nat} {w : Way} {c : Int} (hw : w.1 < 1000) (hc : c < 1000) (hl : book + 1 + w.2.length ≤ 11) : (arrW (book + 1) w).set book (n : Int) = arrW book (c, (n : Int) :: w.2) := by
 unfold arrW;rw [if_pos hw, if_pos hc, List.replicate_succ', List.append_assoc, List.set_append_right _ _ (by simp)];simp only [List.length_replicate, Nat.sub_self, List.cons_append, List.nil_append, List.set_cons_zero, List.length_cons];rw [show 11 - (book + 1) - w.2.length = 11 - book - (w.2.length + 1) by omega]
theorem tf_find {k : Nat} {C : List Thing} {idr idk idv idf idm : Nat} {vC vS vB : AV} {c : FuncId} {first caps : List AV} {sh : List qH} {books : List qA} {mv : Int → Int → Int}
    (hS : Rdl C qW vS sh) (hB : Rdl C qP vB books) (hK : KeyG (EL k).P 167 KTrip) (h11 : books.length ≤ 11) (hs4 : sh.length ≤ 1000) (hmv : ∀ i n, 0 ≤ mv i n) (hmu : ∀ i n, mv i n ≤ 1000) {fnc : Func} (hcf : (EL k).fn c = some fnc) (hco : (EL k).orc c = none)
    (hbw : ∀ b ∈ books, 0 ≤ b.wide ∧ b.wide ≤ 1000000) (hsw : ∀ a ∈ sh, 0 ≤ a.wide ∧ a.wide ≤ 1000000)
    (hmvC : ∀ (hs' : List Thing) (i n : Nat), (∀ x ∈ C, x ∈ hs') → i < books.length → n < sh.length → TF (EL k) c (first ++ [iv i, iv n] ++ caps) hs' (RepF (fun _ : Unit => iv (mv i n)) fun _ => hs')) :
    ∀ (j : Nat) {hs : List Thing} {pr pk pv pf pm : Nat} {m : List (K3 × AV)} (F : Finds hs C pr pk pv pf pm idr idk idv idf idm vC vS vB c first caps m) (hM : MemoOk sh mv books m) (book shelf : Nat) (left : Int) (hbk : book ≤ books.length) (hj : books.length - book < j) (hleft : 0 ≤ left ∧ left ≤ 1000000),
    TF (EL k) 132 [.agg [iv book, iv shelf, iv left], .ptr idr 0 3, .ptr idk 0 1, .ptr idv 0 1, .ptr idf 0 1] hs (RepF (fun _ : { m // MemoOk sh mv books m } => outV book (wayAt sh mv books book shelf left)) fun m' => hs.set pm (memT idm m'.1)) := by
  intro j
  induction j with
  | zero =>
    intro hs pr pk pv pf pm m F hM book shelf left hbk hj hleft
    exact absurd hj (by omega)
  | succ j ih =>
  intro hs pr pk pv pf pm m F hM book shelf left hbk hj hleft
  have hset : hs.set pm (memT idm m) = hs := by
    refine List.ext_getElem? fun i => ?_
    rw [List.getElem?_set]
    by_cases e : pm = i
    · subst e
      rw [if_pos rfl, if_pos (List.getElem?_eq_some_iff.1 F.m).1, F.m]
    · rw [if_neg e]
  refine TF.enterG (fn := Go.Proofs.Tryz.f132) rfl rfl rfl rfl rfl ?_
  refine T.seq ?_
  refine T.text rfl ?_
  refine TO.box (k := 3) (cells := [_, _, _]) rfl rfl rfl rfl rfl rfl rfl (fun b5 => ?_)
  refine TO.alloc (k := 12) (cells := restC 0 (List.replicate 11 0)) rfl rfl rfl rfl rfl rfl rfl (fun b6 => ?_)
  refine TO.nil ?_
  refine T.scope ?_
  refine T.seq ?_
  refine T.seq ?_
  refine T.text rfl ?_
  refine TO.val rfl rfl rfl (Val.faddr_ptr (fo := 0) rfl rfl rfl) ?_
  refine TO.val rfl rfl rfl (Val.load_row (p := 1) rfl ⟨_, rfl, rfl⟩ rfl rfl rfl) ?_
  refine TO.val rfl rfl rfl (Val.faddr_ptr (fo := 0) rfl rfl rfl) ?_
  refine TO.val rfl rfl rfl (Val.faddr_ptr (fo := 2) rfl rfl rfl) ?_
  refine TO.val rfl rfl rfl (Val.load_row (p := pr + 2) F.r ⟨_, rfl, rfl⟩ rfl rfl rfl) ?_
  refine TO.val rfl rfl rfl (Val.len_l hB (memS (memS F.sub)) rfl rfl) ?_
  obtain ⟨c20, hc20⟩ : ∃ c : Bool, c = decide ((book : Int) = (books.length : Int)) := ⟨_, rfl⟩
  refine TO.val rfl rfl rfl (Val.eql hc20 rfl rfl) ?_
  refine TO.nil ?_
  cases c20 with
  | true =>
    replace hc20 := of_decide_eq_true hc20.symm
    refine T.condT (fun a ha => ha.ev (.tmp 20) _ rfl) ?_
    refine T.seq ?_
    refine T.text rfl ?_
    refine TO.val rfl rfl rfl (Val.buildC (cs := restC 0 (List.replicate 11 0)) (vs := []) (ws := []) rfl rfl CellsL.nil rfl) ?_
    refine TO.eff0 rfl rfl (Eff.store_rest (p := 0) (k := 11) (l' := List.replicate 11 0) (n' := 0) rfl rfl rfl rfl rfl rfl) ?_
    rintro _ rfl
    refine TO.things (hs' := .row b6 1 (restC 0 (List.replicate 11 0)) :: .row b5 3 [iv book, iv shelf, iv left] :: hs) rfl ?_
    refine TO.nil ?_
    refine T.ret ?_
    have e : outV book (wayAt sh mv books book shelf left) = .agg (restC 0 (List.replicate 11 0)) := by
      have hb : book = books.length := by omega
      have hw : wayAt sh mv books book shelf left = (0, []) := by
        unfold wayAt
        rw [List.drop_of_length_le (by omega)]
        rfl
      unfold outV
      rw [hw]
      unfold arrW
      rw [if_pos (show (0 : Int) < 1000 by decide)]
      simp only [List.nil_append, List.length_nil, Nat.sub_zero, List.replicate_append_replicate]
      rw [show book + (11 - book) = 11 by omega]
    exact ⟨rfl, _, rfl, [_], ⟨⟨_, rfl, LoadR.rows (p := 0) (c := restC 0 (List.replicate 11 0)) rfl ⟨⟨_, rfl, rfl⟩, rfl, by decide⟩ rfl rfl rfl⟩, trivial⟩, ⟨⟨m, hM⟩, e.symm, by show Pk (hs.set pm (memT idm m)) _; rw [hset]; exact .drop (.drop .refl)⟩⟩
  | false =>
    replace hc20 := of_decide_eq_false hc20.symm
    refine T.condF (fun a ha => ha.ev (.tmp 20) _ rfl) ?_
    refine T.skip ?_
    refine T.seq ?_
    refine T.text rfl ?_
    refine TO.val rfl rfl rfl (Val.load_row (p := pk + 2) F.k ⟨_, rfl, rfl⟩ rfl rfl rfl) ?_
    refine TO.val rfl rfl rfl (Val.load_rows (p := 1) (c := [_, _, _]) rfl ⟨⟨_, rfl, rfl⟩, rfl, by decide⟩ rfl rfl rfl rfl) ?_
    obtain ⟨w, c25, hw⟩ : ∃ w c, (mget m (book, shelf, left) = some w ∧ c = true) ∨ (mget m (book, shelf, left) = none ∧ w = .agg (restC 0 (List.replicate 11 0)) ∧ c = false) := by
      cases hg : mget m (book, shelf, left) with
      | none => exact ⟨_, _, .inr ⟨rfl, rfl, rfl⟩⟩
      | some w => exact ⟨w, true, .inl ⟨rfl, rfl⟩⟩
    refine TO.val rfl rfl rfl (Val.lookup3 (p := pm + 2) (k := (book, shelf, left)) F.m rfl hK rfl rfl rfl hw) ?_
    refine TO.val rfl rfl rfl (Val.move rfl) ?_
    refine TO.val rfl rfl rfl (Val.extract rfl rfl) ?_
    refine TO.val rfl rfl rfl (Val.extract rfl rfl) ?_
    refine TO.alloc (k := 12) (cells := restC 0 (List.replicate 11 0)) rfl rfl rfl rfl rfl rfl rfl (fun b7 => ?_)
    obtain ⟨n7, l7, hl7, rfl⟩ : ∃ n l, l.length = 11 ∧ w = .agg (restC n l) := by
      rcases hw with ⟨h1, _⟩ | ⟨_, h1, _⟩
      · obtain ⟨b', s', l', _, hb', hv'⟩ := hM _ _ h1
        exact ⟨_, _, arrW_len hmv h11 hb', hv'⟩
      · exact ⟨0, List.replicate 11 0, rfl, h1⟩
    refine TO.eff0 rfl rfl (Eff.store_rest (p := 0) (k := 11) (l' := l7) (n' := n7) rfl rfl hl7 rfl rfl rfl) ?_
    rintro _ rfl
    refine TO.things (hs' := .row b7 1 (restC n7 l7) :: .row b6 1 (restC 0 (List.replicate 11 0)) :: .row b5 3 [iv book, iv shelf, iv left] :: hs) rfl ?_
    refine TO.val rfl rfl rfl (Val.assign rfl) ?_
    refine TO.nil ?_
    refine T.seq ?_
    refine T.seq ?_
    refine T.text rfl ?_
    refine TO.val rfl rfl rfl (Val.move rfl) ?_
    refine TO.nil ?_
    cases c25 with
    | true =>
      refine T.condT (fun a ha => ha.ev (.tmp 28) _ rfl) ?_
      refine T.seq ?_
      refine T.text rfl ?_
      refine TO.val rfl rfl rfl (Val.load_rest (p := 0) (k := 11) rfl hl7 ⟨⟨_, rfl, rfl⟩, rfl, by decide⟩ rfl) ?_
      refine TO.eff0 rfl rfl (Eff.store_rest (p := 1) (k := 11) (l' := l7) (n' := n7) rfl rfl hl7 rfl rfl rfl) ?_
      rintro _ rfl
      refine TO.things (hs' := .row b7 1 (restC n7 l7) :: .row b6 1 (restC n7 l7) :: .row b5 3 [iv book, iv shelf, iv left] :: hs) rfl ?_
      refine TO.nil ?_
      refine T.ret ?_
      have e : outV book (wayAt sh mv books book shelf left) = .agg (restC n7 l7) := by
        rcases hw with ⟨h1, _⟩ | ⟨_, _, h1⟩
        · obtain ⟨b', s', l', hq, hb', hv'⟩ := hM _ _ h1
          simp only [Prod.mk.injEq] at hq
          obtain ⟨q1, q2, q3⟩ := hq
          have e1 : book = b' := by omega
          have e2 : shelf = s' := by omega
          subst e1; subst e2; subst q3
          exact hv'.symm
        · cases h1
      exact ⟨rfl, _, rfl, [_], ⟨⟨_, rfl, LoadR.rows (p := 1) (c := restC n7 l7) rfl ⟨⟨_, rfl, rfl⟩, rfl, by decide⟩ (restC_len hl7) (by rw [List.drop_zero, List.take_of_length_le (by rw [restC_len hl7]; exact Nat.le_refl _)]) rfl⟩, trivial⟩, ⟨⟨m, hM⟩, e.symm, by show Pk (hs.set pm (memT idm m)) _; rw [hset]; exact .drop (.drop (.drop .refl))⟩⟩
    | false =>
      refine T.condF (fun a ha => ha.ev (.tmp 28) _ rfl) ?_
      refine T.skip ?_
      refine T.seq ?_
      refine T.text rfl ?_
      refine TO.val rfl rfl rfl (Val.faddr_ptr (fo := 0) rfl rfl rfl) ?_
      refine TO.eff0 rfl rfl (Eff.store_rest0 (p := 0) (k := 11) (l := l7) (n' := 1000) rfl hl7 rfl rfl rfl) ?_
      rintro _ rfl
      refine TO.things (hs' := .row b7 1 (restC 1000 l7) :: .row b6 1 (restC 0 (List.replicate 11 0)) :: .row b5 3 [iv book, iv shelf, iv left] :: hs) rfl ?_
      refine TO.nil ?_
      refine T.seq ?_
      refine T.text rfl ?_
      refine TO.val rfl rfl rfl (Val.faddr_ptr (fo := 0) rfl rfl rfl) ?_
      refine TO.val rfl rfl rfl (Val.faddr_ptr (fo := 2) rfl rfl rfl) ?_
      refine TO.val rfl rfl rfl (Val.load_row (p := pr + 3) F.r ⟨_, rfl, rfl⟩ rfl rfl rfl) ?_
      refine TO.val rfl rfl rfl (Val.faddr_ptr (fo := 0) rfl rfl rfl) ?_
      refine TO.val rfl rfl rfl (Val.load_row (p := 2) rfl ⟨_, rfl, rfl⟩ rfl rfl rfl) ?_
      have hblt : book < books.length := by omega
      obtain ⟨b, hb⟩ := get_some hblt
      refine TO.fact (rdl_at (k := (book : Int)) (a := b) hB (memS (memS (memS F.sub))) (by omega) (by simpa using hb)) (fun hp => ?_)
      obtain ⟨pb, hpb, hvb⟩ := hp
      refine TO.val rfl rfl rfl (hvb ⟨rfl, rfl⟩ rfl rfl) ?_
      refine TO.val rfl rfl rfl (Val.load_es (c := [_, _, _, _, _, _, _]) hpb (memS (memS (memS F.sub))) ⟨⟨_, rfl, rfl⟩, rfl, by decide⟩ rfl rfl rfl) ?_
      refine TO.alloc (k := 7) (cells := [_, _, _, _, _, _, _]) rfl rfl rfl rfl rfl rfl rfl (fun b9 => ?_)
      refine TO.eff0 rfl rfl (Eff.store_row (p := 0) (cv := [_, _, _, _, _, _, _]) (cells' := [_, _, _, _, _, _, _]) rfl rfl rfl rfl rfl rfl rfl rfl (by first | rfl | (simp [GS.one]; done)) (by decide) rfl) ?_
      rintro _ rfl
      refine TO.things (hs' := .row b9 7 [iv (b.qR), iv (b.qS), sv b.qQ, iv (b.wide), iv (b.high), iv (b.heavy), iv (b.shelf)] :: .row b7 1 (restC 1000 l7) :: .row b6 1 (restC 0 (List.replicate 11 0)) :: .row b5 3 [iv book, iv shelf, iv left] :: hs) rfl ?_
      refine TO.nil ?_
      refine T.seq ?_
      refine T.label ?_
      refine T.seq ?_
      refine T.seq ?_
      refine T.text rfl ?_
      refine TO.val rfl rfl rfl (Val.faddr_ptr (fo := 0) rfl rfl rfl) ?_
      refine TO.val rfl rfl rfl (Val.faddr_ptr (fo := 1) rfl rfl rfl) ?_
      refine TO.val rfl rfl rfl (Val.load_row (p := pr + 4) F.r ⟨_, rfl, rfl⟩ rfl rfl rfl) ?_
      refine TO.val rfl rfl rfl (Val.len_l hS (memS (memS (memS (memS F.sub)))) rfl rfl) ?_
      refine TO.val rfl rfl rfl (Val.move rfl) ?_
      refine TO.nil ?_
      refine T.block ?_
      have hl7z : l7 = List.replicate 11 0 := by
        rcases hw with ⟨_, h1⟩ | ⟨_, h1, _⟩
        · cases h1
        · have h2 := congrArg (fun v => match v with | .agg cs => cs | _ => []) h1
          simp only [restC, List.cons.injEq] at h2
          exact ivs_inj h2.2
      subst hl7z
      let q : Nat → Way := fun n => pick (1000, List.replicate ((books.drop (book + 1)).length + 1) 0) (candW sh mv b book shelf left fun n l => bestW sh mv (books.drop (book + 1)) (book + 1) n l) n
      let st : Nat → { m // MemoOk sh mv books m } → Sy := fun n m' => ⟨[], [(1, .ptr idr 0 3), (2, .ptr idk 0 1), (3, .ptr idv 0 1), (4, .ptr idf 0 1), (5, .ptr b5 0 3), (6, .ptr b6 0 12), (7, .ptr b7 0 12), (9, .ptr b9 0 7), (41, iv sh.length), (42, iv n)],
        .row b9 7 [iv (b.qR), iv (b.qS), sv b.qQ, iv (b.wide), iv (b.high), iv (b.heavy), iv (b.shelf)] :: .row b7 1 (restC (q n).1 (arrW book (q n))) :: .row b6 1 (restC 0 (List.replicate 11 0)) :: .row b5 3 [iv book, iv shelf, iv left] :: hs.set pm (memT idm m'.1)⟩
      refine T.loop (fun μ s => ∃ (n : Nat) (m' : { m // MemoOk sh mv books m }), μ = sh.length - n ∧ n ≤ sh.length ∧ s = st n m') (k := sh.length) (s' := st 0 ⟨m, hM⟩) ⟨0, ⟨m, hM⟩, rfl, Nat.zero_le _, rfl⟩ ⟨rfl, keep_cons rfl (keep_cons rfl (keep_cons rfl (keep_cons rfl (keep_cons rfl (keep_cons rfl (keep_cons rfl (keep_cons rfl (keep_cons rfl (keep_cons rfl keep_nil))))))))), ?_⟩ ?_
      · show List.Sublist (_ :: _ :: _ :: _ :: hs.set pm (memT idm m)) _
        rw [hset]
        exact List.Sublist.refl _
      rintro μ _ ⟨n, m', rfl, hn, rfl⟩
      have F' := F.set m'.1
      refine T.seq ?_
      refine T.text rfl ?_
      obtain ⟨c43, hc43⟩ : ∃ c : Bool, c = decide ((n : Int) < (sh.length : Int)) := ⟨_, rfl⟩
      refine TO.val rfl rfl rfl (Val.lss hc43 rfl rfl) ?_
      refine TO.nil ?_
      refine T.seq ?_
      cases c43 with
      | false =>
        replace hc43 := of_decide_eq_false hc43.symm
        refine T.condF (fun a ha => ha.ev (.tmp 43) _ rfl) ?_
        refine T.exit ?_
        have hnq : n = sh.length := by omega
        have hdrop : books.drop book = b :: books.drop (book + 1) := by rw [← List.getElem_cons_drop hblt]; congr 1; exact Option.some.inj ((List.getElem?_eq_getElem hblt).symm.trans hb)
        have hway : wayAt sh mv books book shelf left = q n := by
          unfold wayAt
          rw [hdrop, hnq]
          rfl
        have hl11 : (arrW book (q n)).length = 11 := by rw [← hway]; exact arrW_len hmv h11 hblt
        refine T.seq ?_
        refine T.text rfl ?_
        refine TO.val rfl rfl rfl (Val.load_row (p := pk + 4) F'.k ⟨_, rfl, rfl⟩ rfl rfl rfl) ?_
        refine TO.val rfl rfl rfl (Val.load_rows (p := 3) (c := [_, _, _]) rfl ⟨⟨_, rfl, rfl⟩, rfl, by decide⟩ rfl rfl rfl rfl) ?_
        refine TO.val rfl rfl rfl (Val.load_rest (p := 1) (k := 11) rfl hl11 ⟨⟨_, rfl, rfl⟩, rfl, by decide⟩ rfl) ?_
        refine TO.eff0 rfl rfl (Eff.update3 (p := pm + 4) (k := (book, shelf, left)) F'.m rfl hK rfl rfl rfl) ?_
        rintro _ rfl
        refine TO.things (hs' := .row b9 7 [iv (b.qR), iv (b.qS), sv b.qQ, iv (b.wide), iv (b.high), iv (b.heavy), iv (b.shelf)] :: .row b7 1 (restC (q n).1 (arrW book (q n))) :: .row b6 1 (restC 0 (List.replicate 11 0)) :: .row b5 3 [iv book, iv shelf, iv left] :: hs.set pm (memT idm (mput m'.1 (book, shelf, left) (.agg (restC (q n).1 (arrW book (q n))))))) (by show _ :: _ :: _ :: _ :: (hs.set pm _).set pm _ = _; rw [List.set_set]) ?_
        refine TO.nil ?_
        refine T.seq ?_
        refine T.text rfl ?_
        refine TO.val rfl rfl rfl (Val.load_rest (p := 1) (k := 11) rfl hl11 ⟨⟨_, rfl, rfl⟩, rfl, by decide⟩ rfl) ?_
        refine TO.eff0 rfl rfl (Eff.store_rest (p := 2) (k := 11) (l' := arrW book (q n)) (n' := (q n).1) rfl rfl hl11 rfl rfl rfl) ?_
        rintro _ rfl
        refine TO.things (hs' := .row b9 7 [iv (b.qR), iv (b.qS), sv b.qQ, iv (b.wide), iv (b.high), iv (b.heavy), iv (b.shelf)] :: .row b7 1 (restC (q n).1 (arrW book (q n))) :: .row b6 1 (restC (q n).1 (arrW book (q n))) :: .row b5 3 [iv book, iv shelf, iv left] :: hs.set pm (memT idm (mput m'.1 (book, shelf, left) (.agg (restC (q n).1 (arrW book (q n))))))) rfl ?_
        refine TO.nil ?_
        refine T.ret ?_
        have hM' : MemoOk sh mv books (mput m'.1 (book, shelf, left) (.agg (restC (q n).1 (arrW book (q n))))) := by
          intro x v hx
          rw [mget_mput] at hx
          by_cases e : x = ((book : Int), (shelf : Int), left)
          · rw [if_pos e] at hx
            cases hx
            exact ⟨book, shelf, left, e, hblt, by rw [hway]; rfl⟩
          · rw [if_neg e] at hx
            exact m'.2 x v hx
        exact ⟨rfl, _, rfl, [_], ⟨⟨_, rfl, LoadR.rows (p := 2) (c := restC (q n).1 (arrW book (q n))) rfl ⟨⟨_, rfl, rfl⟩, rfl, by decide⟩ (restC_len hl11) (by rw [List.drop_zero, List.take_of_length_le (by rw [restC_len hl11]; exact Nat.le_refl _)]) rfl⟩, trivial⟩, ⟨⟨_, hM'⟩, by rw [hway]; rfl, .drop (.drop (.drop (.drop .refl)))⟩⟩
      | true =>
        replace hc43 := of_decide_eq_true hc43.symm
        refine T.condT (fun a ha => ha.ev (.tmp 43) _ rfl) ?_
        refine T.skip ?_
        refine T.seq ?_
        refine T.block ?_
        refine T.seq ?_
        refine T.text rfl ?_
        refine TO.val rfl rfl rfl (Val.move rfl) ?_
        refine TO.val rfl rfl rfl (Val.assign rfl) ?_
        refine TO.nil ?_
        refine T.seq ?_
        refine T.text rfl ?_
        refine TO.val rfl rfl rfl (Val.faddr_ptr (fo := 0) rfl rfl rfl) ?_
        refine TO.val rfl rfl rfl (Val.faddr_ptr (fo := 1) rfl rfl rfl) ?_
        refine TO.val rfl rfl rfl (Val.load_row (p := pr + 4) F'.r ⟨_, rfl, rfl⟩ rfl rfl rfl) ?_
        refine TO.val rfl rfl rfl (Val.move rfl) ?_
        have hnlt : n < sh.length := by omega
        obtain ⟨a, ha⟩ := get_some hnlt
        refine TO.fact (rdl_at (k := (n : Int)) (a := a) hS (memS (memS (memS (memS F'.sub)))) (by omega) (by simpa using ha)) (fun hp => ?_)
        obtain ⟨pa, hpa, hva⟩ := hp
        refine TO.val rfl rfl rfl (hva ⟨rfl, rfl⟩ rfl rfl) ?_
        refine TO.val rfl rfl rfl (Val.faddr_e (fo := 2) hpa rfl rfl rfl) ?_
        refine TO.val rfl rfl rfl (Val.load_e (PtE.add hpa (by decide)) (memS (memS (memS (memS F'.sub)))) ⟨_, rfl, rfl⟩ rfl rfl) ?_
        refine TO.val rfl rfl rfl (Val.assign rfl) ?_
        refine TO.nil ?_
        refine T.seqJoin (s1 := ⟨[], (10, iv n) :: (11, iv (capAt a n shelf left)) :: (st n m').sl, (st n m').hs⟩) ?_ ?_
        · refine T.seq ?_
          refine T.text rfl ?_
          refine TO.val rfl rfl rfl (Val.move rfl) ?_
          refine TO.val rfl rfl rfl (Val.faddr_ptr (fo := 1) rfl rfl rfl) ?_
          refine TO.val rfl rfl rfl (Val.load_row (p := 3) rfl ⟨_, rfl, rfl⟩ rfl rfl rfl) ?_
          obtain ⟨c55, hc55⟩ : ∃ c : Bool, c = decide ((n : Int) = (shelf : Int)) := ⟨_, rfl⟩
          refine TO.val rfl rfl rfl (Val.eql hc55 rfl rfl) ?_
          refine TO.nil ?_
          cases c55 with
          | true =>
            replace hc55 := of_decide_eq_true hc55.symm
            refine T.condT (fun a ha => ha.ev (.tmp 55) _ rfl) ?_
            refine T.text rfl ?_
            refine TO.val rfl rfl rfl (Val.faddr_ptr (fo := 2) rfl rfl rfl) ?_
            refine TO.val rfl rfl rfl (Val.load_row (p := 3) rfl ⟨_, rfl, rfl⟩ rfl rfl rfl) ?_
            refine TO.val rfl rfl rfl (Val.assign rfl) ?_
            refine TO.nil ?_
            have e : capAt a n shelf left = left := by unfold capAt; rw [if_pos (by omega)]
            rw [e]
            exact ⟨rfl, rfl, keep_cons rfl (keep_cons rfl (keep_cons rfl (keep_cons rfl (keep_cons rfl (keep_cons rfl (keep_cons rfl (keep_cons rfl (keep_cons rfl (keep_cons rfl (keep_cons rfl (keep_cons rfl keep_nil))))))))))), List.Sublist.refl _⟩
          | false =>
            replace hc55 := of_decide_eq_false hc55.symm
            refine T.condF (fun a ha => ha.ev (.tmp 55) _ rfl) ?_
            refine T.skip ?_
            have e : capAt a n shelf left = a.wide := by unfold capAt; rw [if_neg (by omega)]
            rw [e]
            exact ⟨rfl, rfl, keep_cons rfl (keep_cons rfl (keep_cons rfl (keep_cons rfl (keep_cons rfl (keep_cons rfl (keep_cons rfl (keep_cons rfl (keep_cons rfl (keep_cons rfl (keep_cons rfl (keep_cons rfl keep_nil))))))))))), List.Sublist.refl _⟩
        refine T.seq ?_
        refine T.text rfl ?_
        refine TO.val rfl rfl rfl (Val.load_row (p := pv + 4) F'.v ⟨_, rfl, rfl⟩ rfl rfl rfl) ?_
        refine TO.val rfl rfl rfl (Val.faddr_ptr (fo := 0) rfl rfl rfl) ?_
        refine TO.val rfl rfl rfl (Val.load_row (p := 3) rfl ⟨_, rfl, rfl⟩ rfl rfl rfl) ?_
        refine TO.val rfl rfl rfl (Val.move rfl) ?_
        refine TO.callT (first := first) (cap := caps) (vs := [iv book, iv n]) rfl rfl rfl rfl rfl hcf hco (hmvC _ book n (memS (memS (memS (memS F'.sub)))) hblt hnlt) ?_
        rintro _
        refine TO.val rfl rfl rfl (Val.assign rfl) ?_
        refine TO.nil ?_
        obtain ⟨cc, hcc⟩ : ∃ c : Bool, c = !decide (canAt mv b book shelf left n a) := ⟨_, rfl⟩
        refine T.seq ?_
        refine T.seqJoin (s1 := ⟨[], (88, bv cc) :: (10, iv n) :: (11, iv (capAt a n shelf left)) :: (12, iv (mv book n)) :: (st n m').sl, (st n m').hs⟩) ?_ ?_
        · refine T.draw (fun v => sameC_refl v) (l1 := [0, 1, 2, 3, 4, 5, 6, 7, 8, 9, 10, 11, 12, 13, 14, 15, 16, 17, 18, 19, 20, 21, 22, 23, 24, 25]) (l2 := []) (by kernel_rfl) (by kernel_rfl) ?_
          refine TO.val rfl rfl rfl (Val.move rfl) ?_
          refine TO.val rfl rfl rfl (Val.faddr_ptr (fo := 1) rfl rfl rfl) ?_
          refine TO.val rfl rfl rfl (Val.load_row (p := 3) rfl ⟨_, rfl, rfl⟩ rfl rfl rfl) ?_
          obtain ⟨c66, hc66⟩ : ∃ c : Bool, c = decide ((n : Int) < (shelf : Int)) := ⟨_, rfl⟩
          refine TO.val rfl rfl rfl (Val.lss hc66 rfl rfl) ?_
          refine TO.val rfl rfl rfl (Val.move rfl) ?_
          cases c66 with
          | true =>
            replace hc66 := of_decide_eq_true hc66.symm
            refine TO.off rfl rfl rfl ?_
            refine TO.off rfl rfl rfl ?_
            refine TO.off rfl rfl rfl ?_
            refine TO.off rfl rfl rfl ?_
            refine TO.val rfl rfl rfl (Val.pick rfl rfl rfl) ?_
            refine TO.val rfl rfl rfl (Val.move rfl) ?_
            refine TO.off rfl rfl rfl ?_
            refine TO.off rfl rfl rfl ?_
            refine TO.off rfl rfl rfl ?_
            refine TO.off rfl rfl rfl ?_
            refine TO.off rfl rfl rfl ?_
            refine TO.off rfl rfl rfl ?_
            refine TO.off rfl rfl rfl ?_
            refine TO.off rfl rfl rfl ?_
            refine TO.off rfl rfl rfl ?_
            refine TO.off rfl rfl rfl ?_
            refine TO.val rfl rfl rfl (Val.pick rfl rfl rfl) ?_
            refine TO.val rfl rfl rfl (Val.move rfl) ?_
            refine TO.off rfl rfl rfl ?_
            refine TO.off rfl rfl rfl ?_
            refine TO.val rfl rfl rfl (Val.pick rfl rfl rfl) ?_
            refine TO.nil ?_
            have e : cc = true := by rw [hcc, decide_eq_false (show ¬ canAt mv b book shelf left n a from fun h => by have := h.1; omega)]; rfl
            subst e
            exact ⟨rfl, rfl, keep_cons rfl (keep_cons rfl (keep_cons rfl (keep_cons rfl (keep_cons rfl (keep_cons rfl (keep_cons rfl (keep_cons rfl (keep_cons rfl (keep_cons rfl (keep_cons rfl (keep_cons rfl (keep_cons rfl (keep_cons rfl keep_nil))))))))))))), List.Sublist.refl _⟩
          | false =>
            replace hc66 := of_decide_eq_false hc66.symm
            refine TO.val rfl rfl rfl (Val.move rfl) ?_
            refine TO.val rfl rfl rfl (Val.faddr_ptr (fo := 3) rfl rfl rfl) ?_
            refine TO.val rfl rfl rfl (Val.load_row (p := 0) rfl ⟨_, rfl, rfl⟩ rfl rfl rfl) ?_
            obtain ⟨c71, hc71⟩ : ∃ c : Bool, c = decide (capAt a n shelf left < b.wide) := ⟨_, rfl⟩
            refine TO.val rfl rfl rfl (Val.lss hc71 rfl rfl) ?_
            refine TO.val rfl rfl rfl (Val.pick rfl rfl rfl) ?_
            refine TO.val rfl rfl rfl (Val.move rfl) ?_
            cases c71 with
            | true =>
              replace hc71 := of_decide_eq_true hc71.symm
              refine TO.off rfl rfl rfl ?_
              refine TO.off rfl rfl rfl ?_
              refine TO.off rfl rfl rfl ?_
              refine TO.off rfl rfl rfl ?_
              refine TO.off rfl rfl rfl ?_
              refine TO.off rfl rfl rfl ?_
              refine TO.off rfl rfl rfl ?_
              refine TO.off rfl rfl rfl ?_
              refine TO.off rfl rfl rfl ?_
              refine TO.off rfl rfl rfl ?_
              refine TO.val rfl rfl rfl (Val.pick rfl rfl rfl) ?_
              refine TO.val rfl rfl rfl (Val.move rfl) ?_
              refine TO.off rfl rfl rfl ?_
              refine TO.off rfl rfl rfl ?_
              refine TO.val rfl rfl rfl (Val.pick rfl rfl rfl) ?_
              refine TO.nil ?_
              have e : cc = true := by rw [hcc, decide_eq_false (show ¬ canAt mv b book shelf left n a from fun h => by have := h.2.1; omega)]; rfl
              subst e
              exact ⟨rfl, rfl, keep_cons rfl (keep_cons rfl (keep_cons rfl (keep_cons rfl (keep_cons rfl (keep_cons rfl (keep_cons rfl (keep_cons rfl (keep_cons rfl (keep_cons rfl (keep_cons rfl (keep_cons rfl (keep_cons rfl (keep_cons rfl keep_nil))))))))))))), List.Sublist.refl _⟩
            | false =>
              replace hc71 := of_decide_eq_false hc71.symm
              refine TO.val rfl rfl rfl (Val.faddr_ptr (fo := 0) rfl rfl rfl) ?_
              refine TO.val rfl rfl rfl (Val.faddr_ptr (fo := 1) rfl rfl rfl) ?_
              refine TO.val rfl rfl rfl (Val.load_row (p := pr + 4) F'.r ⟨_, rfl, rfl⟩ rfl rfl rfl) ?_
              refine TO.val rfl rfl rfl (Val.move rfl) ?_
              refine TO.fact (rdl_at (k := (n : Int)) (a := a) hS (memS (memS (memS (memS F'.sub)))) (by omega) (by simpa using ha)) (fun hp => ?_)
              obtain ⟨pa2, hpa2, hva2⟩ := hp
              refine TO.val rfl rfl rfl (hva2 ⟨rfl, rfl⟩ rfl rfl) ?_
              refine TO.val rfl rfl rfl (Val.faddr_e (fo := 3) hpa2 rfl rfl rfl) ?_
              refine TO.val rfl rfl rfl (Val.load_e (PtE.add hpa2 (by decide)) (memS (memS (memS (memS F'.sub)))) ⟨_, rfl, rfl⟩ rfl rfl) ?_
              refine TO.val rfl rfl rfl (Val.faddr_ptr (fo := 4) rfl rfl rfl) ?_
              refine TO.val rfl rfl rfl (Val.load_row (p := 0) rfl ⟨_, rfl, rfl⟩ rfl rfl rfl) ?_
              obtain ⟨c83, hc83⟩ : ∃ c : Bool, c = decide (a.high < b.high) := ⟨_, rfl⟩
              refine TO.val rfl rfl rfl (Val.lss hc83 rfl rfl) ?_
              refine TO.val rfl rfl rfl (Val.pick rfl rfl rfl) ?_
              refine TO.val rfl rfl rfl (Val.move rfl) ?_
              cases c83 with
              | true =>
                replace hc83 := of_decide_eq_true hc83.symm
                refine TO.off rfl rfl rfl ?_
                refine TO.off rfl rfl rfl ?_
                refine TO.val rfl rfl rfl (Val.pick rfl rfl rfl) ?_
                refine TO.nil ?_
                have e : cc = true := by rw [hcc, decide_eq_false (show ¬ canAt mv b book shelf left n a from fun h => by have := h.2.2.1; omega)]; rfl
                subst e
                exact ⟨rfl, rfl, keep_cons rfl (keep_cons rfl (keep_cons rfl (keep_cons rfl (keep_cons rfl (keep_cons rfl (keep_cons rfl (keep_cons rfl (keep_cons rfl (keep_cons rfl (keep_cons rfl (keep_cons rfl (keep_cons rfl (keep_cons rfl keep_nil))))))))))))), List.Sublist.refl _⟩
              | false =>
                replace hc83 := of_decide_eq_false hc83.symm
                refine TO.val rfl rfl rfl (Val.move rfl) ?_
                obtain ⟨c87, hc87⟩ : ∃ c : Bool, c = decide (mv book n = 1000) := ⟨_, rfl⟩
                refine TO.val rfl rfl rfl (Val.eql hc87 rfl rfl) ?_
                refine TO.val rfl rfl rfl (Val.pick rfl rfl rfl) ?_
                refine TO.nil ?_
                have e : cc = c87 := by
                  rw [hcc, hc87]
                  by_cases h1 : mv book n = 1000
                  · rw [decide_eq_true h1, decide_eq_false (show ¬ canAt mv b book shelf left n a from fun h => h.2.2.2 h1)]; rfl
                  · rw [decide_eq_false h1, decide_eq_true (show canAt mv b book shelf left n a from ⟨by omega, by omega, by omega, h1⟩)]; rfl
                subst e
                exact ⟨rfl, rfl, keep_cons rfl (keep_cons rfl (keep_cons rfl (keep_cons rfl (keep_cons rfl (keep_cons rfl (keep_cons rfl (keep_cons rfl (keep_cons rfl (keep_cons rfl (keep_cons rfl (keep_cons rfl (keep_cons rfl (keep_cons rfl keep_nil))))))))))))), List.Sublist.refl _⟩
        cases cc with
        | true =>
          have hno : ¬ canAt mv b book shelf left n a := fun h => by rw [decide_eq_true h] at hcc; cases hcc
          refine T.condT (fun a ha => ha.ev (.tmp 88) _ rfl) ?_
          refine T.exit ?_
          refine T.text rfl ?_
          refine TO.val rfl rfl rfl (Val.add rfl rfl ⟨by omega, by omega⟩) ?_
          refine TO.val rfl rfl rfl (Val.move rfl) ?_
          refine TO.nil ?_
          have hq : q (n + 1) = q n := by
            show pick _ _ (n + 1) = pick _ _ n
            have hc : candW sh mv b book shelf left (fun n l => bestW sh mv (books.drop (book + 1)) (book + 1) n l) n = none := by
              unfold candW
              simp only [ha, if_neg hno]
            rw [pick, hc]
          have hst : st (n + 1) m' = ⟨[], [(1, .ptr idr 0 3), (2, .ptr idk 0 1), (3, .ptr idv 0 1), (4, .ptr idf 0 1), (5, .ptr b5 0 3), (6, .ptr b6 0 12), (7, .ptr b7 0 12), (9, .ptr b9 0 7), (41, iv sh.length), (42, iv ((n : Int) + 1))], (st n m').hs⟩ := by
            show Sy.mk _ _ _ = Sy.mk _ _ _
            rw [hq]; rfl
          refine ⟨sh.length - (n + 1), st (n + 1) m', by omega, ⟨n + 1, m', rfl, by omega, rfl⟩, ?_⟩
          rw [hst]
          exact ⟨rfl, keep_cons rfl (keep_cons rfl (keep_cons rfl (keep_cons rfl (keep_cons rfl (keep_cons rfl (keep_cons rfl (keep_cons rfl (keep_cons rfl (keep_cons rfl keep_nil))))))))), List.Sublist.refl _⟩
        | false =>
          refine T.condF (fun a ha => ha.ev (.tmp 88) _ rfl) ?_
          refine T.skip ?_
          have hcan : canAt mv b book shelf left n a := by
            by_cases h : canAt mv b book shelf left n a
            · exact h
            · rw [decide_eq_false h] at hcc; cases hcc
          have hcap : 0 ≤ capAt a n shelf left ∧ capAt a n shelf left ≤ 1000000 := by
            have := hsw a (List.mem_of_getElem? ha)
            unfold capAt
            split <;> omega
          have hbb := hbw b (List.mem_of_getElem? hb)
          have hc2 := hcan.2.1
          obtain ⟨w2, hw2⟩ : ∃ w2, w2 = bestW sh mv (books.drop (book + 1)) (book + 1) n (capAt a n shelf left - b.wide) := ⟨_, rfl⟩
          have hw2' : wayAt sh mv books (book + 1) n (capAt a n shelf left - b.wide) = w2 := hw2.symm
          have hw2r := wayAt_le (sh := sh) hmv (books.drop (book + 1)) (book + 1) n (capAt a n shelf left - b.wide)
          rw [← hw2] at hw2r
          have hw2l : w2.1 < 1000 → book + 1 + w2.2.length ≤ 11 := fun h => by
            have := bestW_len (sh := sh) hmv (books.drop (book + 1)) (book + 1) n (capAt a n shelf left - b.wide) (by rw [← hw2]; exact h)
            rw [← hw2, List.length_drop] at this
            omega
          have hl2 : (arrW (book + 1) w2).length = 11 := arrW_len' hw2l
          have hm0 := hmv (book : Int) (n : Int)
          have hm1 := hmu (book : Int) (n : Int)
          have hqn : (q n).1 ≤ 1000 := pick_top n
          refine T.seq ?_
          refine T.text rfl ?_
          refine TO.val rfl rfl rfl (Val.load_row (p := pf + 4) F'.f ⟨_, rfl, rfl⟩ rfl rfl rfl) ?_
          refine TO.val rfl rfl rfl (Val.faddr_ptr (fo := 0) rfl rfl rfl) ?_
          refine TO.val rfl rfl rfl (Val.load_row (p := 3) rfl ⟨_, rfl, rfl⟩ rfl rfl rfl) ?_
          refine TO.val rfl rfl rfl (Val.add rfl rfl ⟨by omega, by omega⟩) ?_
          refine TO.val rfl rfl rfl (Val.move rfl) ?_
          refine TO.val rfl rfl rfl (Val.move rfl) ?_
          refine TO.val rfl rfl rfl (Val.faddr_ptr (fo := 3) rfl rfl rfl) ?_
          refine TO.val rfl rfl rfl (Val.load_row (p := 0) rfl ⟨_, rfl, rfl⟩ rfl rfl rfl) ?_
          refine TO.val rfl rfl rfl (Val.sub rfl rfl ⟨by omega, by omega⟩) ?_
          refine TO.val rfl rfl rfl (Val.buildC (cs := [iv ((book : Int) + 1), iv n, iv (capAt a n shelf left - b.wide)]) (vs := [(_, _), (_, _), (_, _)]) (ws := [(_, [_]), (_, [_]), (_, [_])]) rfl rfl (CellsL.cons rfl (CellsL.cons rfl (CellsL.cons rfl CellsL.nil))) rfl) ?_
          have F4 := ((((F'.push (.row b5 3 [iv book, iv shelf, iv left])).push (.row b6 1 (restC 0 (List.replicate 11 0)))).push (.row b7 1 (restC (q n).1 (arrW book (q n))))).push (.row b9 7 [iv (b.qR), iv (b.qS), sv b.qQ, iv (b.wide), iv (b.high), iv (b.heavy), iv (b.shelf)]))
          have hrec := ih F4 m'.2 (book + 1) n (capAt a n shelf left - b.wide) (by omega) (by omega) (by omega)
          rw [hw2', show ((book + 1 : Nat) : Int) = (book : Int) + 1 by omega] at hrec
          refine TO.callT (first := []) (cap := [.ptr idr 0 3, .ptr idk 0 1, .ptr idv 0 1, .ptr idf 0 1]) (vs := [.agg [iv ((book : Int) + 1), iv n, iv (capAt a n shelf left - b.wide)]]) rfl rfl rfl rfl rfl rfl (orcN rfl) hrec ?_
          rintro m''
          refine TO.things (hs' := .row b9 7 [iv (b.qR), iv (b.qS), sv b.qQ, iv (b.wide), iv (b.high), iv (b.heavy), iv (b.shelf)] :: .row b7 1 (restC (q n).1 (arrW book (q n))) :: .row b6 1 (restC 0 (List.replicate 11 0)) :: .row b5 3 [iv book, iv shelf, iv left] :: hs.set pm (memT idm m''.1)) (by show _ :: _ :: _ :: _ :: (hs.set pm _).set pm _ = _; rw [List.set_set]) ?_
          refine TO.alloc (k := 12) (cells := restC 0 (List.replicate 11 0)) rfl rfl rfl rfl rfl rfl rfl (fun b13 => ?_)
          refine TO.eff0 rfl rfl (Eff.store_rest (p := 0) (k := 11) (l' := arrW (book + 1) w2) (n' := w2.1) rfl rfl hl2 rfl rfl rfl) ?_
          rintro _ rfl
          refine TO.things (hs' := .row b13 1 (restC w2.1 (arrW (book + 1) w2)) :: .row b9 7 [iv (b.qR), iv (b.qS), sv b.qQ, iv (b.wide), iv (b.high), iv (b.heavy), iv (b.shelf)] :: .row b7 1 (restC (q n).1 (arrW book (q n))) :: .row b6 1 (restC 0 (List.replicate 11 0)) :: .row b5 3 [iv book, iv shelf, iv left] :: hs.set pm (memT idm m''.1)) rfl ?_
          refine TO.nil ?_
          have hl7 : (arrW book (q n)).length = 11 := arrW_len' fun h => by
            rcases pick_cases (z := (1000, List.replicate ((books.drop (book + 1)).length + 1) 0)) (f := candW sh mv b book shelf left fun n l => bestW sh mv (books.drop (book + 1)) (book + 1) n l) n with h1 | ⟨_, n0, _, h1, _⟩
            · have : (q n).1 = 1000 := congrArg Prod.fst h1
              omega
            · have h2 : candW sh mv b book shelf left (fun n l => bestW sh mv (books.drop (book + 1)) (book + 1) n l) n0 = some (q n) := h1
              unfold candW at h2
              simp only at h2
              cases ha0 : sh[n0]? with
              | none => rw [ha0] at h2; cases h2
              | some a0 =>
                rw [ha0] at h2
                simp only at h2
                split at h2
                · split at h2
                  · rename_i hlt
                    have h3 := bestW_len (sh := sh) hmv (books.drop (book + 1)) (book + 1) n0 (capAt a0 n0 shelf left - b.wide) hlt
                    have h4 := congrArg (fun x : Way => x.2.length) (Option.some.inj h2)
                    simp only [List.length_cons] at h4
                    rw [← h4, h3, List.length_drop]
                    omega
                  · cases h2
                · cases h2
          refine T.seq ?_
          refine T.text rfl ?_
          refine TO.val rfl rfl rfl (Val.move rfl) ?_
          refine TO.val rfl rfl rfl (Val.faddr_ptr (fo := 0) rfl rfl rfl) ?_
          refine TO.val rfl rfl rfl (Val.load_rest0 (p := 0) (k := 11) rfl hl2 ⟨_, rfl, rfl⟩ rfl) ?_
          refine TO.val rfl rfl rfl (Val.add rfl rfl ⟨by omega, by omega⟩) ?_
          refine TO.val rfl rfl rfl (Val.faddr_ptr (fo := 0) rfl rfl rfl) ?_
          refine TO.val rfl rfl rfl (Val.load_rest0 (p := 2) (k := 11) rfl hl7 ⟨_, rfl, rfl⟩ rfl) ?_
          obtain ⟨c106, hc106⟩ : ∃ c : Bool, c = decide (mv book n + w2.1 < (q n).1) := ⟨_, rfl⟩
          refine TO.val rfl rfl rfl (Val.lss hc106 rfl rfl) ?_
          refine TO.nil ?_
          have hcand : candW sh mv b book shelf left (fun n l => bestW sh mv (books.drop (book + 1)) (book + 1) n l) n = if w2.1 < 1000 then some (mv book n + w2.1, (n : Int) :: w2.2) else none := by
            unfold candW
            simp only [ha, if_pos hcan, ← hw2]
          cases c106 with
          | true =>
            replace hc106 := of_decide_eq_true hc106.symm
            refine T.condT (fun a ha => ha.ev (.tmp 106) _ rfl) ?_
            have hw2lt : w2.1 < 1000 := by omega
            have hq : q (n + 1) = (mv book n + w2.1, (n : Int) :: w2.2) := by
              show pick _ _ (n + 1) = _
              rw [pick, hcand, if_pos hw2lt]
              exact if_pos hc106
            have harr : (arrW (book + 1) w2).set book (n : Int) = arrW book (q (n + 1)) := by
              rw [hq]
              exact arrW_set hw2lt (by omega) (hw2l hw2lt)
            refine T.seq ?_
            refine T.text rfl ?_
            refine TO.val rfl rfl rfl (Val.move rfl) ?_
            refine TO.val rfl rfl rfl (Val.faddr_ptr (fo := 0) rfl rfl rfl) ?_
            refine TO.val rfl rfl rfl (Val.load_rest0 (p := 0) (k := 11) rfl hl2 ⟨_, rfl, rfl⟩ rfl) ?_
            refine TO.val rfl rfl rfl (Val.add rfl rfl ⟨by omega, by omega⟩) ?_
            refine TO.val rfl rfl rfl (Val.faddr_ptr (fo := 1) rfl rfl rfl) ?_
            refine TO.val rfl rfl rfl (Val.load_restA (p := 0) (k := 11) rfl hl2 ⟨⟨_, rfl, rfl⟩, rfl, by decide⟩ rfl) ?_
            refine TO.val rfl rfl rfl (Val.buildC (cs := restC (mv book n + w2.1) (arrW (book + 1) w2)) (vs := [(_, _), (_, _)]) (ws := [(_, [_]), (_, vecC (arrW (book + 1) w2))]) rfl rfl (CellsL.cons rfl (CellsL.cons rfl CellsL.nil)) (build_rest hl2)) ?_
            refine TO.eff0 rfl rfl (Eff.store_rest (p := 2) (k := 11) (l' := arrW (book + 1) w2) (n' := mv book n + w2.1) rfl (restC_len hl7) hl2 rfl rfl rfl) ?_
            rintro _ rfl
            refine TO.things (hs' := .row b13 1 (restC w2.1 (arrW (book + 1) w2)) :: .row b9 7 [iv (b.qR), iv (b.qS), sv b.qQ, iv (b.wide), iv (b.high), iv (b.heavy), iv (b.shelf)] :: .row b7 1 (restC (mv book n + w2.1) (arrW (book + 1) w2)) :: .row b6 1 (restC 0 (List.replicate 11 0)) :: .row b5 3 [iv book, iv shelf, iv left] :: hs.set pm (memT idm m''.1)) rfl ?_
            refine TO.nil ?_
            refine T.text rfl ?_
            refine TO.val rfl rfl rfl (Val.faddr_ptr (fo := 0) rfl rfl rfl) ?_
            refine TO.val rfl rfl rfl (Val.load_row (p := 4) rfl ⟨_, rfl, rfl⟩ rfl rfl rfl) ?_
            refine TO.val rfl rfl rfl (Val.move rfl) ?_
            refine TO.val rfl rfl rfl (Val.faddr_ptr (fo := 1) rfl rfl rfl) ?_
            refine TO.val rfl rfl rfl (Val.iaddr_array (m := 11) rfl rfl rfl rfl ⟨by omega, by omega⟩) ?_
            refine TO.eff0 rfl rfl (Eff.store_restAt (p := 2) (k := 11) (i := (book : Int)) rfl hl2 ⟨by omega, by omega⟩ rfl rfl rfl) ?_
            rintro _ rfl
            refine TO.things (hs' := .row b13 1 (restC w2.1 (arrW (book + 1) w2)) :: .row b9 7 [iv (b.qR), iv (b.qS), sv b.qQ, iv (b.wide), iv (b.high), iv (b.heavy), iv (b.shelf)] :: .row b7 1 (restC (q (n + 1)).1 (arrW book (q (n + 1)))) :: .row b6 1 (restC 0 (List.replicate 11 0)) :: .row b5 3 [iv book, iv shelf, iv left] :: hs.set pm (memT idm m''.1)) (by
              show _ :: _ :: Thing.row b7 1 (restC (mv book n + w2.1) ((arrW (book + 1) w2).set ((book : Int)).toNat (n : Int))) :: _ = _
              rw [show ((book : Int)).toNat = book by omega, harr, hq]) ?_
            refine TO.nil ?_
            refine T.text rfl ?_
            refine TO.val rfl rfl rfl (Val.add rfl rfl ⟨by omega, by omega⟩) ?_
            refine TO.val rfl rfl rfl (Val.move rfl) ?_
            refine TO.nil ?_
            have hst : st (n + 1) m'' = ⟨[], [(1, .ptr idr 0 3), (2, .ptr idk 0 1), (3, .ptr idv 0 1), (4, .ptr idf 0 1), (5, .ptr b5 0 3), (6, .ptr b6 0 12), (7, .ptr b7 0 12), (9, .ptr b9 0 7), (41, iv sh.length), (42, iv ((n : Int) + 1))],
                .row b9 7 [iv (b.qR), iv (b.qS), sv b.qQ, iv (b.wide), iv (b.high), iv (b.heavy), iv (b.shelf)] :: .row b7 1 (restC (q (n + 1)).1 (arrW book (q (n + 1)))) :: .row b6 1 (restC 0 (List.replicate 11 0)) :: .row b5 3 [iv book, iv shelf, iv left] :: hs.set pm (memT idm m''.1)⟩ := by
              show Sy.mk _ _ _ = Sy.mk _ _ _
              rfl
            refine ⟨sh.length - (n + 1), st (n + 1) m'', by omega, ⟨n + 1, m'', rfl, by omega, rfl⟩, ?_⟩
            rw [hst]
            exact ⟨rfl, keep_cons rfl (keep_cons rfl (keep_cons rfl (keep_cons rfl (keep_cons rfl (keep_cons rfl (keep_cons rfl (keep_cons rfl (keep_cons rfl (keep_cons rfl (keep_nil)))))))))), List.sublist_cons_self _ _⟩
          | false =>
            replace hc106 := of_decide_eq_false hc106.symm
            refine T.condF (fun a ha => ha.ev (.tmp 106) _ rfl) ?_
            refine T.skip ?_
            have hq : q (n + 1) = q n := by
              show pick _ _ (n + 1) = pick _ _ n
              rw [pick, hcand]
              by_cases h : w2.1 < 1000
              · rw [if_pos h]
                exact if_neg hc106
              · rw [if_neg h]
            refine T.text rfl ?_
            refine TO.val rfl rfl rfl (Val.add rfl rfl ⟨by omega, by omega⟩) ?_
            refine TO.val rfl rfl rfl (Val.move rfl) ?_
            refine TO.nil ?_
            have hst : st (n + 1) m'' = ⟨[], [(1, .ptr idr 0 3), (2, .ptr idk 0 1), (3, .ptr idv 0 1), (4, .ptr idf 0 1), (5, .ptr b5 0 3), (6, .ptr b6 0 12), (7, .ptr b7 0 12), (9, .ptr b9 0 7), (41, iv sh.length), (42, iv ((n : Int) + 1))],
                .row b9 7 [iv (b.qR), iv (b.qS), sv b.qQ, iv (b.wide), iv (b.high), iv (b.heavy), iv (b.shelf)] :: .row b7 1 (restC (q n).1 (arrW book (q n))) :: .row b6 1 (restC 0 (List.replicate 11 0)) :: .row b5 3 [iv book, iv shelf, iv left] :: hs.set pm (memT idm m''.1)⟩ := by
              show Sy.mk _ _ _ = Sy.mk _ _ _
              rw [hq]; rfl
            refine ⟨sh.length - (n + 1), st (n + 1) m'', by omega, ⟨n + 1, m'', rfl, by omega, rfl⟩, ?_⟩
            rw [hst]
            exact ⟨rfl, keep_cons rfl (keep_cons rfl (keep_cons rfl (keep_cons rfl (keep_cons rfl (keep_cons rfl (keep_cons rfl (keep_cons rfl (keep_cons rfl (keep_cons rfl (keep_nil)))))))))), List.sublist_cons_self _ _⟩
end Go.Am.YtiaolgbmbhldgaaGreatDoor
end
section
namespace Go.Am.YtiaolgbmbhldgaaGreatDoor
open Go.Am Go.RowKit
set_option linter.unusedVariables false
set_option maxRecDepth 100000
theorem hu_ty167 : pureVal Go.Proofs.Tryz.prog (underlying 167) = some Go.Proofs.Tryz.t166.desc := by kernel_rfl
theorem eq_ty167 (k q : K3) : pureVal Go.Proofs.Tryz.prog (Op.equal 167 (keyV k) (keyV q)) = some (decide (k = q)) := by
 obtain ⟨a, b, c⟩ := k;obtain ⟨a', b', c'⟩ := q
 have h := pure_eq3 (P := Go.Proofs.Tryz.prog) (t := 167) (xs := #[.int .i64 a, .int .i64 b, .int .i64 c]) (ys := #[.int .i64 a', .int .i64 b', .int .i64 c']) (a0 := a) (b0 := a') (a1 := b) (b1 := b') (a2 := c) (b2 := c') hu_ty167 (by kernel_rfl)
  ⟨by decide, ⟨.i64, by kernel_rfl⟩, by kernel_rfl⟩ ⟨by decide, ⟨.i64, by kernel_rfl⟩, by kernel_rfl⟩ ⟨by decide, ⟨.i64, by kernel_rfl⟩, by kernel_rfl⟩ ⟨by decide, ⟨.i64, by kernel_rfl⟩, by kernel_rfl⟩ ⟨by decide, ⟨.i64, by kernel_rfl⟩, by kernel_rfl⟩ ⟨by decide, ⟨.i64, by kernel_rfl⟩, by kernel_rfl⟩
 refine h.trans ?_
 congr 1
 by_cases h1 : a = a' <;> by_cases h2 : b = b' <;> by_cases h3 : c = c' <;> simp [h1, h2, h3]
theorem key_ty167 {k : Nat} : KeyG (EL k).P 167 KTrip := keyTrip (P := Go.Proofs.Tryz.prog) hu_ty167 (fun q e => by kernel_rfl) eq_ty167
theorem vec_ty136 {k : Nat} : VecT (EL k).P 136 11 := VecT.of (P := Go.Proofs.Tryz.prog) (t := 136) (len := 11) (elem := 3) (k' := .i64) (by kernel_rfl) (by kernel_rfl) (by kernel_rfl) (by kernel_rfl) (by kernel_rfl)
theorem tf_arrange {k : Nat} {C : List Thing} {vC vS vB : AV} {c : FuncId} {first caps : List AV} {sh : List qH} {books : List qA} {F : Int → Int → Option Int} {r : Int × List Int}
    (hS : Rdl C qW vS sh) (hB : Rdl C qP vB books) {fnc : Func} (hcf : (EL k).fn c = some fnc) (hco : (EL k).orc c = none)
    (hF : ∀ (hs' : List Thing) (i n v : Int), (∀ x ∈ C, x ∈ hs') → F i n = some v → TF (EL k) c (first ++ [iv i, iv n] ++ caps) hs' (RepF (fun _ : Unit => iv v) fun _ => hs')) (h : P_s9_arrange sh books F = some r) :
    TF (EL k) 97 [.agg [vC, vS, vB], .func c first caps] C (RepF (fun _ : Unit => .agg (restC r.1 r.2)) fun _ => C) := by
  obtain ⟨a0, ha0, hok, hr, hlen⟩ := arrange_some h
  obtain ⟨⟨h11, hs4⟩, hbw, hsw, hall⟩ := hok
  refine TF.enterG (fn := Go.Proofs.Tryz.f97) rfl rfl rfl rfl rfl ?_
  refine T.seq ?_
  refine T.text rfl ?_
  refine TO.box (k := 3) (cells := [_, _, _]) rfl rfl rfl rfl rfl rfl rfl (fun idr => ?_)
  refine TO.box (k := 1) (cells := [_]) rfl rfl rfl rfl rfl rfl rfl (fun idv => ?_)
  refine TO.alloc (k := 12) (cells := restC 0 (List.replicate 11 0)) rfl rfl rfl rfl rfl rfl rfl (fun b4 => ?_)
  refine TO.nil ?_
  refine T.seq ?_
  refine T.text rfl ?_
  refine TO.makeMap3 rfl rfl rfl (fun idm => ?_)
  refine TO.alloc (k := 1) (cells := [_]) rfl rfl rfl rfl rfl rfl rfl (fun idk => ?_)
  refine TO.eff0 rfl rfl (Eff.store_row (p := 0) (cv := [_]) (cells' := [_]) rfl rfl rfl rfl rfl rfl rfl rfl rfl (by decide) rfl) ?_
  rintro _ rfl
  refine TO.things (hs' := .row idk 1 [.map idm] :: memT idm [] :: .row b4 1 (restC 0 (List.replicate 11 0)) :: .row idv 1 [.func c first caps] :: .row idr 3 [vC, vS, vB] :: C) rfl ?_
  refine TO.nil ?_
  refine T.seq ?_
  refine T.text rfl ?_
  refine TO.alloc (k := 1) (cells := [_]) rfl rfl rfl rfl rfl rfl rfl (fun idf => ?_)
  refine TO.nil ?_
  refine T.seq ?_
  refine T.text rfl ?_
  refine TO.val rfl rfl rfl (Val.makeFunc rfl rfl) ?_
  refine TO.eff0 rfl rfl (Eff.store_row (p := 0) (cv := [_]) (cells' := [_]) rfl rfl rfl rfl rfl rfl rfl rfl rfl (by decide) rfl) ?_
  rintro _ rfl
  refine TO.things (hs' := .row idf 1 [.func 132 [] [.ptr idr 0 3, .ptr idk 0 1, .ptr idv 0 1, .ptr idf 0 1]] :: .row idk 1 [.map idm] :: memT idm [] :: .row b4 1 (restC 0 (List.replicate 11 0)) :: .row idv 1 [.func c first caps] :: .row idr 3 [vC, vS, vB] :: C) rfl ?_
  refine TO.nil ?_
  have F0 : Finds (.row idf 1 [.func 132 [] [.ptr idr 0 3, .ptr idk 0 1, .ptr idv 0 1, .ptr idf 0 1]] :: .row idk 1 [.map idm] :: memT idm [] :: .row b4 1 (restC 0 (List.replicate 11 0)) :: .row idv 1 [.func c first caps] :: .row idr 3 [vC, vS, vB] :: C) C 5 1 4 0 2 idr idk idv idf idm vC vS vB c first caps [] :=
    ⟨rfl, rfl, rfl, rfl, rfl, fun x hx => by
      obtain ⟨i, hi⟩ := List.getElem?_of_mem hx
      exact ⟨i + 6, by omega, hi⟩⟩
  refine T.seq ?_
  refine T.drawE (l1 := [0, 1, 2, 3, 4, 5, 6, 7]) (l2 := [8, 9]) (by kernel_rfl) (by kernel_rfl) ?_
  refine TD1.read rfl rfl rfl rfl (Val.load_row (p := 0) rfl ⟨_, rfl, rfl⟩ rfl rfl rfl) ?_
  refine TD1.light rfl rfl rfl rfl (Val.faddr_ptr (fo := 0) rfl rfl rfl) ?_
  refine TD1.light rfl rfl rfl rfl (Val.faddr_ptr (fo := 1) rfl rfl rfl) ?_
  refine TD1.read rfl rfl rfl rfl (Val.load_row (p := 5) rfl ⟨_, rfl, rfl⟩ rfl rfl rfl) ?_
  have h0lt := (List.getElem?_eq_some_iff.1 ha0).1
  refine TD1.fact (rdl_at (k := (0 : Int)) (a := a0) hS (memS (memS (memS (memS (memS (memS mem0)))))) ⟨by omega, by omega⟩ ha0) (fun hp => ?_)
  obtain ⟨pa, hpa, hva⟩ := hp
  refine TD1.light rfl rfl rfl rfl (hva ⟨rfl, rfl⟩ rfl rfl) ?_
  refine TD1.light rfl rfl rfl rfl (Val.faddr_e (fo := 2) hpa rfl rfl rfl) ?_
  refine TD1.read rfl rfl rfl rfl (Val.load_e (PtE.add hpa (by decide)) (memS (memS (memS (memS (memS (memS mem0)))))) ⟨_, rfl, rfl⟩ rfl rfl) ?_
  refine TD1.light rfl rfl rfl rfl (Val.buildC (cs := [iv 0, iv 0, iv a0.wide]) (vs := [(_, _), (_, _), (_, _)]) (ws := [(_, [_]), (_, [_]), (_, [_])]) rfl rfl (CellsL.cons rfl (CellsL.cons rfl (CellsL.cons rfl CellsL.nil))) rfl) ?_
  refine TD1.over (fun v => sameC_refl v) (all_cons (⟨_, rfl, (Val.load_e (PtE.add hpa (by decide)) (memS (memS (memS (memS (memS (memS mem0)))))) ⟨_, rfl, rfl⟩ rfl rfl)⟩) (all_cons (⟨_, rfl, (Val.load_row (p := 5) rfl ⟨_, rfl, rfl⟩ rfl rfl rfl)⟩) (all_cons (⟨_, rfl, (Val.load_row (p := 0) rfl ⟨_, rfl, rfl⟩ rfl rfl rfl)⟩) all_nil))) ?_
  have hfind := tf_find hS hB key_ty167 h11 hs4 (fun i n => (mvOf_rng F i n).1) (fun i n => (mvOf_rng F i n).2) hcf hco hbw hsw (fun hs' i n hC hi hn => hF hs' i n _ hC (hall i n hi hn)) 12 F0 (fun q v hq => by cases hq) 0 0 a0.wide (Nat.zero_le _) (by omega) (hsw a0 (List.mem_of_getElem? ha0))
  refine TD2.heavy (fun v => sameC_refl v) rfl (by decide) rfl rfl (OpS.callV rfl rfl rfl rfl (orcN rfl) (RepF.conv hfind)) ?_
  rintro _ hs_ ⟨m', rfl, he_⟩
  subst hs_
  refine ⟨(all_cons (.inl (by kernel_rfl)) (all_cons (.inl (by kernel_rfl)) (all_cons (.inl (by kernel_rfl)) all_nil))), all_nil, ?_⟩
  have hw : r = ((wayAt sh (mvOf F) books 0 0 a0.wide).1, arrW 0 (wayAt sh (mvOf F) books 0 0 a0.wide)) := hr
  have hout : outV 0 (wayAt sh (mvOf F) books 0 0 a0.wide) = .agg (restC r.1 r.2) := by rw [hw]; rfl
  rw [hout]
  refine TD2.things (hs' := .row idf 1 [.func 132 [] [.ptr idr 0 3, .ptr idk 0 1, .ptr idv 0 1, .ptr idf 0 1]] :: .row idk 1 [.map idm] :: memT idm m'.1 :: .row b4 1 (restC 0 (List.replicate 11 0)) :: .row idv 1 [.func c first caps] :: .row idr 3 [vC, vS, vB] :: C) rfl ?_
  refine TD2.heavy (fun v => sameC_refl v) rfl (by decide) rfl rfl (OpS.eff (Eff.store_rest (p := 3) (k := 11) (l' := r.2) (n' := r.1) rfl rfl hlen rfl rfl rfl)) ?_
  rintro _ _ rfl
  refine ⟨(all_cons (.inl (by kernel_rfl)) (all_cons (.inl (by kernel_rfl)) (all_cons (.inl (by kernel_rfl)) all_nil))), all_nil, ?_⟩
  refine TD2.things (hs' := .row idf 1 [.func 132 [] [.ptr idr 0 3, .ptr idk 0 1, .ptr idv 0 1, .ptr idf 0 1]] :: .row idk 1 [.map idm] :: memT idm m'.1 :: .row b4 1 (restC r.1 r.2) :: .row idv 1 [.func c first caps] :: .row idr 3 [vC, vS, vB] :: C) rfl ?_
  refine TD2.nil ?_
  refine T.ret ?_
  exact ⟨rfl, _, rfl, [_], ⟨⟨_, rfl, LoadR.rows (p := 3) (c := restC r.1 r.2) rfl ⟨⟨_, rfl, rfl⟩, rfl, by decide⟩ (restC_len hlen) (by rw [List.drop_zero, List.take_of_length_le (by rw [restC_len hlen]; exact Nat.le_refl _)]) rfl⟩, trivial⟩, ⟨(), rfl, .drop (.drop (.drop (.drop (.drop (.drop .refl)))))⟩⟩
theorem tf_cloneA {k p id cap : Nat} {hs : List Thing} {m : Int} {l : List Int} {n : Int} (hp : hs[p]? = some (.row id 1 (restC m l))) (hl : l.length = 11) (hn : 0 ≤ n ∧ n ≤ 11) :
    TF (EL k) 101 [.slice id 1 12 true n.toNat cap] hs (RepF (fun v : AV => v) fun v => ownL false v encI (l.take n.toNat) :: hs) := by
  refine TF.enter (fn := Go.Proofs.Tryz.f101) rfl rfl rfl rfl rfl ?_
  refine T.seq ?_
  refine T.text rfl ?_
  refine TO.val rfl rfl rfl (Val.assign rfl) ?_
  refine TO.nil ?_
  refine T.seq ?_
  refine T.seq ?_
  refine T.text rfl ?_
  refine TO.val rfl rfl rfl (Val.move rfl) ?_
  refine TO.val rfl rfl rfl (Val.nil_eqS rfl rfl rfl) ?_
  refine TO.nil ?_
  refine T.condF (fun a ha => ha.ev (.tmp 4) _ rfl) ?_
  refine T.skip ?_
  refine T.seq ?_
  refine T.text rfl ?_
  refine TO.build0 (en := encI) rfl rfl rfl ⟨rfl, rfl⟩ (fun v => ?_)
  refine TO.val rfl rfl rfl (Val.move rfl) ?_
  refine TO.eff rfl rfl rfl (Eff.append_row (b := 8) (l := []) (l2 := l.take n.toNat) (p := 0) (q := p + 1) ⟨rfl, rfl, rfl, ⟨_, rfl, rfl⟩, by decide, by decide⟩ rfl rfl rfl hp (restC_len hl) (by
    show (vecC l).take n.toNat = vecC (l.take n.toNat)
    rw [vecC, vecC, List.map_take]) (by omega) rfl rfl (by decide) (by simp; omega)) ?_
  rintro v7 _ rfl
  refine TO.things (hs' := ownL false v7 encI (l.take n.toNat) :: hs) rfl ?_
  refine TO.val rfl rfl rfl (Val.assign rfl) ?_
  refine TO.nil ?_
  refine T.ret ?_
  exact ⟨rfl, _, rfl, ⟨v7, rfl, .refl⟩⟩
end Go.Am.YtiaolgbmbhldgaaGreatDoor
end
section
namespace Go.Am.YtiaolgbmbhldgaaGreatDoor
open Go.Am Go.RowKit
set_option linter.unusedVariables false
set_option linter.unusedSimpArgs false
set_option maxRecDepth 10000 in
theorem tf_s9_own {k : Nat} (hk : 0 ≤ k) {C : List Thing} {v_r_SfRoom_Classes : AV} {r_SfRoom_Classes : List Str} {v_r_SfRoom_Shelves : AV} {r_SfRoom_Shelves : List qH} {v_r_SfRoom_Books : AV} {r_SfRoom_Books : List qA} {i : Int} {shelf : Int} (h_r_SfRoom_Classes : Rdl C encStr v_r_SfRoom_Classes r_SfRoom_Classes) (h_r_SfRoom_Shelves : Rdl C qW v_r_SfRoom_Shelves r_SfRoom_Shelves) (h_r_SfRoom_Books : Rdl C qP v_r_SfRoom_Books r_SfRoom_Books) {r : Int} (h : P_s9_own r_SfRoom_Classes r_SfRoom_Shelves r_SfRoom_Books i shelf = some r) :
  TF (EL k) 99 [.agg [v_r_SfRoom_Classes, v_r_SfRoom_Shelves, v_r_SfRoom_Books], iv (i), iv (shelf)] C (RepF (fun (w : Unit) => iv r) (fun (w : Unit) => C)) := by
 unfold P_s9_own at h;refine TF.enter (fn := Go.Proofs.Tryz.f99) rfl rfl rfl rfl rfl (zU rfl (zQ 3 [_,_,_] R7 (fun b3=>zA R4 (zN (zS (zU rfl (zF 0 R6 (zF 2 R6 (zL 0 R3 R6 (zM R4 ?_))))))))));obtain ⟨a11, hia11, ea11, h⟩ := el_some h;refine TO.fact (rdl_at h_r_SfRoom_Books M1 hia11 ea11) (fun hp=>?_);obtain ⟨pa11, hpa11, hva11⟩ := hp;refine zV R3 (hva11 ⟨rfl, rfl⟩ rfl rfl) (zV R3 (Val.faddr_e (fo := 6) hpa11 rfl rfl rfl) (zV R3 (Val.load_e (PtE.add hpa11 (by decide)) M1 ⟨_, rfl, rfl⟩ rfl rfl) (zM R4 ?_)));obtain ⟨c15, hc15⟩ := zY (a11.shelf = shelf);refine zV R3 (Val.eql hc15 rfl rfl) (zN ?_);obtain ⟨rfl, hc15, h⟩ | ⟨rfl, hc15, h⟩ := zI hc15 h
 ·refine zC rfl (zU rfl (zA R4 (zN (zR ?_))));cases h;exact ⟨rfl, _, rfl, ⟨(), rfl, (pk [98] rfl)⟩⟩
 refine zD rfl (zK (zU rfl (zA R4 (zN (zR ?_)))));cases h;exact ⟨rfl, _, rfl, ⟨(), rfl, (pk [98] rfl)⟩⟩
set_option maxRecDepth 10000 in
theorem tf_s9_Fits1 {k : Nat} (hk : 0 ≤ k) {C : List Thing} {i : Int} {shelf : Int} {id_p2 : Nat} {p2_x : Int} {id_p3 : Nat} {p3_x : Int} {id_p4 : Nat} {v_p4_SfRoom_Classes : AV} {p4_SfRoom_Classes : List Str} {v_p4_SfRoom_Shelves : AV} {p4_SfRoom_Shelves : List qH} {v_p4_SfRoom_Books : AV} {p4_SfRoom_Books : List qA} (h_p2 : Thing.row id_p2 1 [iv (p2_x)] ∈ C) (h_p3 : Thing.row id_p3 1 [iv (p3_x)] ∈ C) (h_p4_SfRoom_Classes : Rdl C encStr v_p4_SfRoom_Classes p4_SfRoom_Classes) (h_p4_SfRoom_Shelves : Rdl C qW v_p4_SfRoom_Shelves p4_SfRoom_Shelves) (h_p4_SfRoom_Books : Rdl C qP v_p4_SfRoom_Books p4_SfRoom_Books) (h_p4 : Thing.row id_p4 3 [v_p4_SfRoom_Classes, v_p4_SfRoom_Shelves, v_p4_SfRoom_Books] ∈ C) {r : Int} (h : P_s9_Fits1 i shelf p2_x p3_x p4_SfRoom_Classes p4_SfRoom_Shelves p4_SfRoom_Books = some r) :
  TF (EL k) 98 [iv (i), iv (shelf), .ptr id_p2 0 1, .ptr id_p3 0 1, .ptr id_p4 0 3] C (RepF (fun (w : Unit) => iv r) (fun (w : Unit) => C)) := by
 unfold P_s9_Fits1 at h;refine TF.enter (fn := Go.Proofs.Tryz.f98) rfl rfl rfl rfl rfl (zU rfl (zA R4 (zN ?_)))
 show T _ _ _ _ _ _;apply T.join (r := r) (W := Unit) (fun j w => ⟨[], [], C⟩) h
 ·intro j h
  show T _ _ _ _ _ _;apply T.joinA (r := j) (W := Unit) (fun j w => ⟨[], [(27, bv j)], C⟩) h
  ·intro j h;refine zT rfl (zM R4 (zV R3 (Val.load_rowM h_p2 mem0 ⟨_, rfl, rfl⟩ rfl rfl rfl) ?_));obtain ⟨c10, hc10⟩ := zY (i = p2_x);refine zV R3 (Val.eql hc10 rfl rfl) (zM R4 ?_);obtain ⟨rfl, hc10, h⟩ | ⟨rfl, hc10, h⟩ := zI hc10 h
   ·refine zM R4 (zV R3 (Val.load_rowM h_p3 mem0 ⟨_, rfl, rfl⟩ rfl rfl rfl) ?_);obtain ⟨c14, hc14⟩ := zY (shelf = p3_x);refine zV R3 (Val.eql hc14 rfl rfl) (zP R6 (zM R4 ?_));obtain ⟨rfl, hc14, h⟩ | ⟨rfl, hc14, h⟩ := zI hc14 h
    ·refine zO R3 (zO R3 (zO R3 (zO R3 (zO R3 (zO R3 (zO R3 (zO R3 (zO R3 (zO R3 (zP R6 (zN ?_)))))))))));cases h;exact ⟨rfl, (), (sb .refl)⟩
    refine zM R4 (zV R3 (Val.load_rowM h_p2 mem0 ⟨_, rfl, rfl⟩ rfl rfl rfl) ?_);obtain ⟨c19, hc19⟩ := zY (¬ i = p2_x);refine zV R3 (Val.neq hc19 rfl rfl) (zM R4 ?_);obtain ⟨rfl, hc19, h⟩ | ⟨rfl, hc19, h⟩ := zI hc19 h
    ·refine zV R3 (Val.load_rowsM (c := [_, _, _]) h_p4 mem0 ⟨⟨_, rfl, rfl⟩, rfl, by decide⟩ rfl rfl rfl rfl) (zM R4 (zM R4 ?_));obtain ⟨y24, hr24, h⟩ := andx_some h;refine TO.callT (first := []) (cap := []) (vs := [.agg [v_p4_SfRoom_Classes, v_p4_SfRoom_Shelves, v_p4_SfRoom_Books], iv (i), iv (shelf)]) rfl rfl rfl rfl rfl rfl (orcN rfl) (tf_s9_own aD (Rdl.mono h_p4_SfRoom_Classes mem0) (Rdl.mono h_p4_SfRoom_Shelves mem0) (Rdl.mono h_p4_SfRoom_Books mem0) hr24) ?_;rintro _;refine zG (C) rfl ?_;obtain ⟨c25, hc25⟩ := zY (y24 = 0);refine zV R3 (Val.eql hc25 rfl rfl) (zP R6 (zP R6 (zN ?_)));subst hc25;cases h;exact ⟨rfl, (), (sb .refl)⟩
    refine zO R3 (zO R3 (zO R3 (zO R3 (zO R3 (zP R6 (zP R6 (zN ?_)))))));cases h;exact ⟨rfl, (), (sb .refl)⟩
   refine zO R3 (zO R3 (zO R3 (zP R6 (zM R4 (zM R4 (zV R3 (Val.load_rowM h_p2 mem0 ⟨_, rfl, rfl⟩ rfl rfl rfl) ?_))))));obtain ⟨c19, hc19⟩ := zY (¬ i = p2_x);refine zV R3 (Val.neq hc19 rfl rfl) (zM R4 ?_);obtain ⟨rfl, hc19, h⟩ | ⟨rfl, hc19, h⟩ := zI hc19 h
   ·refine zV R3 (Val.load_rowsM (c := [_, _, _]) h_p4 mem0 ⟨⟨_, rfl, rfl⟩, rfl, by decide⟩ rfl rfl rfl rfl) (zM R4 (zM R4 ?_));obtain ⟨y24, hr24, h⟩ := andx_some h;refine TO.callT (first := []) (cap := []) (vs := [.agg [v_p4_SfRoom_Classes, v_p4_SfRoom_Shelves, v_p4_SfRoom_Books], iv (i), iv (shelf)]) rfl rfl rfl rfl rfl rfl (orcN rfl) (tf_s9_own aD (Rdl.mono h_p4_SfRoom_Classes mem0) (Rdl.mono h_p4_SfRoom_Shelves mem0) (Rdl.mono h_p4_SfRoom_Books mem0) hr24) ?_;rintro _;refine zG (C) rfl ?_;obtain ⟨c25, hc25⟩ := zY (y24 = 0);refine zV R3 (Val.eql hc25 rfl rfl) (zP R6 (zP R6 (zN ?_)));subst hc25;cases h;exact ⟨rfl, (), (sb .refl)⟩
   refine zO R3 (zO R3 (zO R3 (zO R3 (zO R3 (zP R6 (zP R6 (zN ?_)))))));cases h;exact ⟨rfl, (), (sb .refl)⟩
  ·rintro x27 _ h;obtain ⟨rfl, h⟩ | ⟨rfl, h⟩ := zZ h
   ·refine zC rfl (zU rfl (zA R4 (zN (zR ?_))));cases h;exact ⟨ret_ne, ⟨rfl, _, rfl, ⟨(), rfl, .refl⟩⟩⟩
   refine zD rfl (zK ?_);cases h;exact ⟨rfl, (), (sb .refl)⟩
 ·rintro _ _ h;refine zU rfl (zA R4 (zN (zR ?_)));cases h;exact ⟨rfl, _, rfl, ⟨(), rfl, .refl⟩⟩
set_option maxRecDepth 10000 in
theorem tf_s9_Put1 {k : Nat} (hk : 0 ≤ k) {C : List Thing} {i : Int} {shelf : Int} {id_p2 : Nat} {p2_x : Int} {id_p3 : Nat} {v_p3_SfRoom_Classes : AV} {p3_SfRoom_Classes : List Str} {v_p3_SfRoom_Shelves : AV} {p3_SfRoom_Shelves : List qH} {v_p3_SfRoom_Books : AV} {p3_SfRoom_Books : List qA} (h_p2 : Thing.row id_p2 1 [iv (p2_x)] ∈ C) (h_p3_SfRoom_Classes : Rdl C encStr v_p3_SfRoom_Classes p3_SfRoom_Classes) (h_p3_SfRoom_Shelves : Rdl C qW v_p3_SfRoom_Shelves p3_SfRoom_Shelves) (h_p3_SfRoom_Books : Rdl C qP v_p3_SfRoom_Books p3_SfRoom_Books) (h_p3 : Thing.row id_p3 3 [v_p3_SfRoom_Classes, v_p3_SfRoom_Shelves, v_p3_SfRoom_Books] ∈ C) {r : Int} (h : P_s9_Put1 i shelf p2_x p3_SfRoom_Classes p3_SfRoom_Shelves p3_SfRoom_Books = some r) :
  TF (EL k) 100 [iv (i), iv (shelf), .ptr id_p2 0 1, .ptr id_p3 0 3] C (RepF (fun (w : Unit) => iv r) (fun (w : Unit) => C)) := by
 unfold P_s9_Put1 at h;refine TF.enter (fn := Go.Proofs.Tryz.f100) rfl rfl rfl rfl rfl (zU rfl (zA R4 (zN (zS (zU rfl (zM R4 (zV R3 (Val.load_rowM h_p2 mem0 ⟨_, rfl, rfl⟩ rfl rfl rfl) ?_)))))));obtain ⟨c9, hc9⟩ := zY (i = p2_x);refine zV R3 (Val.eql hc9 rfl rfl) (zN ?_);obtain ⟨rfl, hc9, h⟩ | ⟨rfl, hc9, h⟩ := zI hc9 h
 ·refine zC rfl (zU rfl (zA R4 (zN (zR ?_))));cases h;exact ⟨rfl, _, rfl, ⟨(), rfl, .refl⟩⟩
 refine zD rfl (zK (zU rfl (zV R3 (Val.load_rowsM (c := [_, _, _]) h_p3 mem0 ⟨⟨_, rfl, rfl⟩, rfl, by decide⟩ rfl rfl rfl rfl) (zM R4 (zM R4 ?_)))));obtain ⟨y13, hr13, h⟩ := andx_some h;refine TO.callT (first := []) (cap := []) (vs := [.agg [v_p3_SfRoom_Classes, v_p3_SfRoom_Shelves, v_p3_SfRoom_Books], iv (i), iv (shelf)]) rfl rfl rfl rfl rfl rfl (orcN rfl) (tf_s9_own aD (Rdl.mono h_p3_SfRoom_Classes mem0) (Rdl.mono h_p3_SfRoom_Shelves mem0) (Rdl.mono h_p3_SfRoom_Books mem0) hr13) ?_;rintro _;refine zG (C) rfl (zA R4 (zN (zR ?_)));cases h;exact ⟨rfl, _, rfl, ⟨(), rfl, .refl⟩⟩
set_option maxRecDepth 10000 in
theorem tf_s9_Fits {k : Nat} (hk : 1 ≤ k) {C : List Thing} {qF : AV} {qG : List Str} {qD : AV} {qC : List qH} {qE : AV} {qB : List qA} {qK : Int} {qL : Int} {qM : Str} {qJ : Int} {qI : Int} {qN : Int} {qO : Int} (qAa : RdT encStr qF qG) (qAb : RdT qW qD qC) (qZ : RdT qP qE qB) {r : (List Int) × Int} (h : P_s9_Fits qG qC qB qK qL qM qJ qI qN qO = some r) :
  TF (EL k) 30 [.agg [qF, qD, qE], .agg [iv (qK), iv (qL), sv qM, iv (qJ), iv (qI), iv (qN), iv (qO)]] C (RepF (fun (w : AV) => .tuple [w, iv r.2]) (fun (w : AV) => ownL true w encI r.1 :: C)) := by
 unfold P_s9_Fits at h
 have qV : Rdl C encStr qF qG := RdT.rdl qAa
 have qU : Rdl C qW qD qC := RdT.rdl qAb
 have qT : Rdl C qP qE qB := RdT.rdl qZ;refine TF.enter (fn := Go.Proofs.Tryz.f30) rfl rfl rfl rfl rfl (zU rfl (zQ 3 [_,_,_] R7 (fun b2=>zQ 7 [_,_,_,_,_,_,_] R7 (fun b3=>zA R4 (zA R4 (zN (zU rfl (zV R3 (vW 1 [_,_,_] R5 R4) (zV R3 (vW 0 [_,_,_,_,_,_,_] R5 R4) ?_)))))))));obtain ⟨y16, hr16, h⟩ := andx_some h;cases y16 with
 | inl y16 =>
  obtain ⟨y16_2, y16_3⟩ := y16;dsimp only at h;refine TO.callT (first := []) (cap := []) (vs := [.agg [qF, qD, qE], .agg [iv (qK), iv (qL), sv qM, iv (qJ), iv (qI), iv (qN), iv (qO)]]) rfl rfl rfl rfl rfl rfl (orcN rfl) (tf_s9_enter aD qAa qAb qZ hr16) ?_;rintro _;refine zG (_::_::C) rfl (zM R4 (zX R5 (zX R5 (zX R5 (zJ 3 [_,_,_] R7 (fun b6=>zJ 1 [_] R7 (fun b7=>TO.fact (rdl_cellS qV M4) (fun qX=>TO.fact (rdl_cellS qU M4) (fun qY=>TO.fact (rdl_cellS qT M4) (fun qAc=>TO.eff0 rfl rfl (Eff.store_row (p := 1) (cv := [_, _, _]) (cells' := [_, _, _]) rfl rfl rfl rfl rfl rfl rfl rfl (by first | rfl | (simp [GS.one, qX.2, qY.2, qAc.2]; done) | (simp [GS.one, qX.2, qY.2, qAc.2]; (repeat' apply And.intro) <;> rfl)) (by decide) rfl) ?_))))))))));rintro _ rfl;refine zG (_::_::_::_::C) rfl (TO.eff0 rfl rfl (Eff.store_row (p := 0) (cv := [_]) (cells' := [_]) rfl rfl rfl rfl rfl rfl rfl rfl aG (by decide) rfl) ?_);rintro _ rfl;refine zG (_::_::_::_::C) rfl (zA R4 (zN (zS (zU rfl (zM R4 ?_)))));obtain ⟨c21, hc21⟩ := zY (¬ y16_3 = 0);refine zV R3 (Val.neq hc21 rfl rfl) (zN ?_);obtain ⟨rfl, hc21, h⟩ | ⟨rfl, hc21, h⟩ := zI hc21 h
  ·refine zC rfl (zU rfl (zM R4 (zA R4 (zA R4 (zN (T.nilown (u := encI.u) (zR ?_)))))));cases h;exact ⟨rfl, _, rfl, ⟨nilS, rfl, (pk [0,98,98,98,98] rfl)⟩⟩
  refine zD rfl (zK ?_)
  show T _ _ _ _ _ _;apply T.joinA (r := r) (W := AV) (fun j w => ⟨[], [(4, w)], ownL true w encI j :: .row b7 1 [iv (y16_2)] :: .row b6 3 [qF, qD, qE] :: C⟩) h
  ·intro j h;refine zU rfl (zF 0 R6 (zF 1 R6 (zL 1 R3 R6 (zV R3 (Val.len_l qU M4 rfl rfl) (zM R4 (zN (zB (T.nilown (u := encI.u) ?_))))))))
   show T _ _ _ _ _ _;apply T.iter (r := j) (W := AV) (fun j w => ⟨[], [(4, w), (6, .ptr b6 0 3), (7, .ptr b7 0 1), (26, iv ((qC.length : Int))), (27, iv (j.1))], ownL true w encI j.2 :: .row b7 1 [iv (y16_2)] :: .row b6 3 [qF, qD, qE] :: C⟩) (w0 := nilS) h
   ·exact (sb (pk [0,0,0,98,98] rfl))
   rintro ⟨x27, l⟩ v6 a h;unfold P_s9_Fits_L1 at h;dsimp only at h;dsimp only;refine zU rfl ?_;obtain ⟨c28, hc28⟩ := zY (x27 < (qC.length : Int));refine zV R3 (Val.lss hc28 rfl rfl) (zN (zS ?_));obtain ⟨rfl, hc28, h⟩ | ⟨rfl, hc28, h⟩ := zI hc28 h
   ·refine zC rfl (zK ?_)
    show T _ _ _ _ _ _;apply T.joinA (r := a) (W := AV) (fun j w => ⟨[], [(4, w), (6, .ptr b6 0 3), (7, .ptr b7 0 1), (26, iv ((qC.length : Int))), (27, iv (x27))], ownL true w encI j :: .row b7 1 [iv (y16_2)] :: .row b6 3 [qF, qD, qE] :: C⟩) h
    ·intro j h;refine zB (zU rfl (zM R4 (zJ 1 [_] R7 (fun b8=>TO.eff0 rfl rfl (Eff.store_row (p := 0) (cv := [_]) (cells' := [_]) rfl rfl rfl rfl rfl rfl rfl rfl aG (by decide) rfl) ?_))));rintro _ rfl;refine zG (_::_::_::_::C) rfl (zN (zU rfl (zV R3 (vW 3 [_,_,_] R5 R4) (zV R3 (Val.makeFunc rfl rfl) ?_))));obtain ⟨⟨m32, l32⟩, hr32, h⟩ := andx_some h;dsimp only at h
     have hl32 := arrange_len hr32;refine TO.callT (first := []) (cap := []) (vs := [.agg [qF, qD, qE], .func 98 [] [.ptr b7 0 1, .ptr b8 0 1, .ptr b6 0 3]]) rfl rfl rfl rfl rfl rfl (orcN rfl) (tf_arrange (F := (fun i_ n_ => P_s9_Fits1 i_ n_ y16_2 x27 qG qC qB)) (r := (m32, l32)) (Rdl.mono qU M4) (Rdl.mono qT M4) rfl (orcN rfl) (fun hs_ i_ n_ r_ hC_ hr_ => tf_s9_Fits1 (C := hs_) aD (hC_ _ (List.mem_of_getElem? (i := 2) rfl)) (hC_ _ (List.mem_of_getElem? (i := 0) rfl)) (Rdl.mono (Rdl.mono qV M4) hC_) (Rdl.mono (Rdl.mono qU M4) hC_) (Rdl.mono (Rdl.mono qT M4) hC_) (hC_ _ (List.mem_of_getElem? (i := 3) rfl)) hr_) hr32) ?_;rintro _;refine zG (_::_::_::_::C) rfl (TO.alloc (k := 12) (cells := restC 0 (List.replicate 11 0)) rfl rfl rfl rfl rfl rfl rfl (fun b9=>TO.eff0 rfl rfl (Eff.store_rest (p := 0) (k := 11) (l' := l32) (n' := m32) rfl (restC_len List.length_replicate) hl32 rfl rfl rfl) ?_));rintro _ rfl;refine zG (_::_::_::_::_::C) rfl (zN (zU rfl (TO.allocA (en := encI) 0 11 rfl rfl rfl rfl (by kernel_rfl) rfl rfl (fun b10=>zN ?_))))
     show T _ _ _ _ _ _;apply T.joinA (r := j) (W := Unit) (fun j w => ⟨[], [(4, v6), (6, .ptr b6 0 3), (7, .ptr b7 0 1), (8, .ptr b8 0 1), (9, .ptr b9 0 12), (10, .ptr b10 0 11), (26, iv ((qC.length : Int))), (27, iv (x27))], arrL b10 encI j :: .row b9 1 (restC m32 l32) :: .row b8 1 [iv (x27)] :: ownL true v6 encI l :: .row b7 1 [iv (y16_2)] :: .row b6 3 [qF, qD, qE] :: C⟩) h
     ·intro j h;refine zU rfl (zF 0 R6 (zF 2 R6 (zL 5 R3 R6 (zV R3 (Val.len_l qT M6 rfl rfl) (zM R4 (zN (zB ?_)))))))
      show T _ _ _ _ _ _;apply T.iter (r := j) (W := Unit) (fun j w => ⟨[], [(4, v6), (6, .ptr b6 0 3), (7, .ptr b7 0 1), (8, .ptr b8 0 1), (9, .ptr b9 0 12), (10, .ptr b10 0 11), (26, iv ((qC.length : Int))), (27, iv (x27)), (35, qE), (36, iv ((qB.length : Int))), (37, iv (j.1))], arrL b10 encI j.2 :: .row b9 1 (restC m32 l32) :: .row b8 1 [iv (x27)] :: ownL true v6 encI l :: .row b7 1 [iv (y16_2)] :: .row b6 3 [qF, qD, qE] :: C⟩) (w0 := ()) h
      ·exact (sb .refl)
      rintro ⟨x37, own⟩ _ a h;unfold P_s9_Fits_L2 at h;dsimp only at h;dsimp only;refine zU rfl ?_;obtain ⟨c38, hc38⟩ := zY (x37 < (qB.length : Int));refine zV R3 (Val.lss hc38 rfl rfl) (zN (zS ?_));obtain ⟨rfl, hc38, h⟩ | ⟨rfl, hc38, h⟩ := zI hc38 h
      ·refine zC rfl (zK (zS (zB (zU rfl (zM R4 ?_)))));obtain ⟨a40, hia40, ea40, h⟩ := el_some h;refine TO.fact (rdl_at qT M6 hia40 ea40) (fun hp=>?_);obtain ⟨pa40, hpa40, hva40⟩ := hp;refine zV R3 (hva40 ⟨rfl, rfl⟩ rfl rfl) (zV R3 (Val.load_es (c := [_, _, _, _, _, _, _]) hpa40 M6 ⟨⟨_, rfl, rfl⟩, rfl, by decide⟩ rfl rfl rfl) (zJ 7 [_,_,_,_,_,_,_] R7 (fun b12=>zA R4 (TO.eff0 rfl rfl (Eff.store_row (p := 0) (cv := [_, _, _, _, _, _, _]) (cells' := [_, _, _, _, _, _, _]) rfl rfl rfl rfl rfl rfl rfl rfl aG (by decide) rfl) ?_))));rintro _ rfl;refine zG (_::_::_::_::_::_::_::C) rfl (zN (zT rfl (zM R4 (zF 6 R6 (zL 0 R3 R6 ?_)))));obtain ⟨hk45, h⟩ := chk_some h;obtain ⟨a45, hia45, ea45, h⟩ := el_some h;refine zV R3 (Val.iaddr_array (m := 11) rfl rfl rfl rfl aO) (TO.eff0 rfl rfl (Eff.store_arr (en := encI) (p := 1) (a := a45) (a' := a40.shelf) (j := 0) (cv := [_]) rfl hk45 ea45 rfl rfl (by decide) rfl rfl rfl rfl aG rfl) ?_);rintro _ rfl;refine zG (_::_::_::_::_::_::_::C) rfl (zN (zT rfl ?_));obtain ⟨hk46, h⟩ := chk_some h;refine zV R3 (Val.add rfl rfl hk46) (zM R4 (zN ?_));cases h;exact ⟨rfl, (), (sb (pk [1,1,1,1,1,1,98] rfl))⟩
      refine zD rfl (zE ?_);cases h;exact ⟨ex_ne, ⟨rfl, (), (sb .refl)⟩⟩
     ·rintro own _ h;refine zU rfl (zL 4 R3 R6 (zL 2 R3 R6 ?_));obtain ⟨hk49, h⟩ := chk_some h;obtain ⟨a49, hia49, ea49, h⟩ := el_some h;refine zV R3 (Val.iaddr_array (m := 11) rfl rfl rfl rfl aO) (TO.eff0 rfl rfl (Eff.store_arr (en := encI) (p := 0) (a := a49) (a' := x27) (j := 0) (cv := [_]) rfl hk49 ea49 rfl rfl (by decide) rfl rfl rfl rfl aG rfl) ?_);rintro _ rfl;refine zG (_::_::_::_::_::_::C) rfl (zN ?_)
      show T _ _ _ _ _ _;apply T.joinA (r := j) (W := Unit) (fun j w => ⟨[], [(4, v6), (6, .ptr b6 0 3), (7, .ptr b7 0 1), (8, .ptr b8 0 1), (26, iv ((qC.length : Int))), (27, iv (x27)), (58, bv j)], arrL b10 encI (List.set own y16_2.toNat x27) :: .row b9 1 (restC m32 l32) :: .row b8 1 [iv (x27)] :: ownL true v6 encI l :: .row b7 1 [iv (y16_2)] :: .row b6 3 [qF, qD, qE] :: C⟩) h
      ·intro j h;refine zT rfl (zF 0 R6 (zV R3 (Val.load_rest0 (p := 1) (k := 11) rfl hl32 ⟨_, rfl, rfl⟩ rfl) ?_));obtain ⟨c52, hc52⟩ := zY (m32 = 0);refine zV R3 (Val.eql hc52 rfl rfl) (zM R4 ?_);obtain ⟨rfl, hc52, h⟩ | ⟨rfl, hc52, h⟩ := zI hc52 h
       ·refine zF 1 R6 (zV R3 (Val.load_restA (p := 1) (k := 11) rfl hl32 ⟨⟨_, rfl, rfl⟩, rfl, by decide⟩ rfl) ?_);obtain ⟨hk56, h⟩ := chk_some h;refine zV R3 (Val.load_vec (p := 0) (k := 11) rfl hk56 ⟨⟨_, rfl, rfl⟩, rfl, by decide⟩ rfl) ?_;obtain ⟨c57, hc57⟩ := zY (l32 = (List.set own y16_2.toNat x27));refine zV R3 (Val.eql_vec hc57 vec_ty136 hl32 hk56 rfl rfl) (zP R6 (zN ?_));subst hc57;cases h;exact ⟨rfl, (), (sb .refl)⟩
       refine zO R3 (zO R3 (zO R3 (zO R3 (zP R6 (zN ?_)))));cases h;exact ⟨rfl, (), (sb .refl)⟩
      ·rintro x58 _ h;obtain ⟨rfl, h⟩ | ⟨rfl, h⟩ := zZ h
       ·refine zC rfl (zT rfl (zM R4 (zL 2 R3 R6 (TO.build1 (en := encI) (a := x27) rfl rfl rfl ⟨rfl, rfl⟩ ⟨_, rfl, rfl⟩ (by decide) (by decide) rfl rfl (fun v61=>?_)))));obtain ⟨hk62, h⟩ := chk_some h;refine TO.eff rfl rfl rfl (Eff.append_own (b := 8) (en := encI) (l := l) (l2 := [x27]) (p := 4) (q := 0) ⟨rfl, rfl, rfl, ⟨_, rfl, rfl⟩, by decide, by decide⟩ rfl rfl rfl rfl rfl rfl (flat_ones _) (by decide) hk62) ?_;rintro v62 _ rfl;refine zG (_::_::_::_::_::_::_::C) rfl (zA R4 (zN ?_));cases h;exact ⟨rfl, v62, (sb (pk [4,4,4,98,98,98,98] rfl))⟩
       refine zD rfl (zK ?_);cases h;exact ⟨rfl, v6, (sb (pk [3,3,3,98,98,98] rfl))⟩
    ·rintro l_2 v6_2 h;refine zT rfl ?_;obtain ⟨hk63, h⟩ := chk_some h;refine zV R3 (Val.add rfl rfl hk63) (zM R4 (zN ?_));cases h;exact ⟨rfl, v6_2, (sb .refl)⟩
   refine zD rfl (zE ?_);cases h;exact ⟨ex_ne, ⟨rfl, v6, (sb .refl)⟩⟩
  ·rintro l v6 h;refine zU rfl (zM R4 (zA R4 (zA R4 (zN (zR ?_)))));cases h;exact ⟨rfl, _, rfl, ⟨v6, rfl, (pk [0,98,98] rfl)⟩⟩
 | inr y16 =>
  obtain ⟨y16_2, y16_3, y16_4⟩ := y16;dsimp only at h;refine TO.callT (first := []) (cap := []) (vs := [.agg [qF, qD, qE], .agg [iv (qK), iv (qL), sv qM, iv (qJ), iv (qI), iv (qN), iv (qO)]]) rfl rfl rfl rfl rfl rfl (orcN rfl) (tf_s9_enter aD qAa qAb qZ hr16) ?_;rintro w16;refine zG (_::_::_::C) rfl (zM R4 (zX R5 (zX R5 (zX R5 (zJ 3 [_,_,_] R7 (fun b6=>zJ 1 [_] R7 (fun b7=>TO.fact (rdl_cellS qV M5) (fun qX=>TO.fact (rdl_cellS qU M5) (fun qY=>TO.fact (own_cellS (p := 2) rfl) (fun hot12=>TO.eff0 rfl rfl (Eff.store_row (p := 1) (cv := [_, _, _]) (cells' := [_, _, _]) rfl rfl rfl rfl rfl rfl rfl rfl (by first | rfl | (simp [GS.one, qX.2, qY.2, hot12.2]; done) | (simp [GS.one, qX.2, qY.2, hot12.2]; (repeat' apply And.intro) <;> rfl)) (by decide) rfl) ?_))))))))));rintro _ rfl;refine zG (_::_::_::_::_::C) rfl (TO.eff0 rfl rfl (Eff.store_row (p := 0) (cv := [_]) (cells' := [_]) rfl rfl rfl rfl rfl rfl rfl rfl aG (by decide) rfl) ?_);rintro _ rfl;refine zG (_::_::_::_::_::C) rfl (zA R4 (zN (zS (zU rfl (zM R4 ?_)))));obtain ⟨c21, hc21⟩ := zY (¬ y16_4 = 0);refine zV R3 (Val.neq hc21 rfl rfl) (zN ?_);obtain ⟨rfl, hc21, h⟩ | ⟨rfl, hc21, h⟩ := zI hc21 h
  ·refine zC rfl (zU rfl (zM R4 (zA R4 (zA R4 (zN (T.nilown (u := encI.u) (zR ?_)))))));cases h;exact ⟨rfl, _, rfl, ⟨nilS, rfl, (pk [0,98,98,98,98,98] rfl)⟩⟩
  refine zD rfl (zK ?_)
  show T _ _ _ _ _ _;apply T.joinA (r := r) (W := AV) (fun j w => ⟨[], [(4, w)], ownL true w encI j :: .row b7 1 [iv (y16_3)] :: .row b6 3 [qF, qD, w16] :: ownL false w16 qP y16_2 :: C⟩) h
  ·intro j h;refine zU rfl (zF 0 R6 (zF 1 R6 (zL 1 R3 R6 (zV R3 (Val.len_l qU M5 rfl rfl) (zM R4 (zN (zB (T.nilown (u := encI.u) ?_))))))))
   show T _ _ _ _ _ _;apply T.iter (r := j) (W := AV) (fun j w => ⟨[], [(4, w), (6, .ptr b6 0 3), (7, .ptr b7 0 1), (26, iv ((qC.length : Int))), (27, iv (j.1))], ownL true w encI j.2 :: .row b7 1 [iv (y16_3)] :: .row b6 3 [qF, qD, w16] :: ownL false w16 qP y16_2 :: C⟩) (w0 := nilS) h
   ·exact (sb (pk [0,0,0,0,98,98] rfl))
   rintro ⟨x27, l⟩ v16 a h;unfold P_s9_Fits_L3 at h;dsimp only at h;dsimp only;refine zU rfl ?_;obtain ⟨c28, hc28⟩ := zY (x27 < (qC.length : Int));refine zV R3 (Val.lss hc28 rfl rfl) (zN (zS ?_));obtain ⟨rfl, hc28, h⟩ | ⟨rfl, hc28, h⟩ := zI hc28 h
   ·refine zC rfl (zK ?_)
    show T _ _ _ _ _ _;apply T.joinA (r := a) (W := AV) (fun j w => ⟨[], [(4, w), (6, .ptr b6 0 3), (7, .ptr b7 0 1), (26, iv ((qC.length : Int))), (27, iv (x27))], ownL true w encI j :: .row b7 1 [iv (y16_3)] :: .row b6 3 [qF, qD, w16] :: ownL false w16 qP y16_2 :: C⟩) h
    ·intro j h;refine zB (zU rfl (zM R4 (zJ 1 [_] R7 (fun b8=>TO.eff0 rfl rfl (Eff.store_row (p := 0) (cv := [_]) (cells' := [_]) rfl rfl rfl rfl rfl rfl rfl rfl aG (by decide) rfl) ?_))));rintro _ rfl;refine zG (_::_::_::_::_::C) rfl (zN (zU rfl (zV R3 (vW 3 [_,_,_] R5 R4) (zV R3 (Val.makeFunc rfl rfl) ?_))));obtain ⟨⟨m32, l32⟩, hr32, h⟩ := andx_some h;dsimp only at h
     have hl32 := arrange_len hr32;refine TO.callT (first := []) (cap := []) (vs := [.agg [qF, qD, w16], .func 98 [] [.ptr b7 0 1, .ptr b8 0 1, .ptr b6 0 3]]) rfl rfl rfl rfl rfl rfl (orcN rfl) (tf_arrange (F := (fun i_ n_ => P_s9_Fits1 i_ n_ y16_3 x27 qG qC y16_2)) (r := (m32, l32)) (Rdl.mono qU M5) (Rdl.mono (Rdl.own (C := .row b8 1 [iv (x27)] :: ownL true v16 encI l :: .row b7 1 [iv (y16_3)] :: .row b6 3 [qF, qD, w16] :: ownL false w16 qP y16_2 :: C) (p := 4) rfl) mem0) rfl (orcN rfl) (fun hs_ i_ n_ r_ hC_ hr_ => tf_s9_Fits1 (C := hs_) aD (hC_ _ (List.mem_of_getElem? (i := 2) rfl)) (hC_ _ (List.mem_of_getElem? (i := 0) rfl)) (Rdl.mono (Rdl.mono qV M5) hC_) (Rdl.mono (Rdl.mono qU M5) hC_) (Rdl.mono (Rdl.mono (Rdl.own (C := .row b8 1 [iv (x27)] :: ownL true v16 encI l :: .row b7 1 [iv (y16_3)] :: .row b6 3 [qF, qD, w16] :: ownL false w16 qP y16_2 :: C) (p := 4) rfl) mem0) hC_) (hC_ _ (List.mem_of_getElem? (i := 3) rfl)) hr_) hr32) ?_;rintro _;refine zG (_::_::_::_::_::C) rfl (TO.alloc (k := 12) (cells := restC 0 (List.replicate 11 0)) rfl rfl rfl rfl rfl rfl rfl (fun b9=>TO.eff0 rfl rfl (Eff.store_rest (p := 0) (k := 11) (l' := l32) (n' := m32) rfl (restC_len List.length_replicate) hl32 rfl rfl rfl) ?_));rintro _ rfl;refine zG (_::_::_::_::_::_::C) rfl (zN (zU rfl (TO.allocA (en := encI) 0 11 rfl rfl rfl rfl (by kernel_rfl) rfl rfl (fun b10=>zN ?_))))
     show T _ _ _ _ _ _;apply T.joinA (r := j) (W := Unit) (fun j w => ⟨[], [(4, v16), (6, .ptr b6 0 3), (7, .ptr b7 0 1), (8, .ptr b8 0 1), (9, .ptr b9 0 12), (10, .ptr b10 0 11), (26, iv ((qC.length : Int))), (27, iv (x27))], arrL b10 encI j :: .row b9 1 (restC m32 l32) :: .row b8 1 [iv (x27)] :: ownL true v16 encI l :: .row b7 1 [iv (y16_3)] :: .row b6 3 [qF, qD, w16] :: ownL false w16 qP y16_2 :: C⟩) h
     ·intro j h;refine zU rfl (zF 0 R6 (zF 2 R6 (zL 5 R3 R6 (zV R3 (Val.len_own (p := 6) rfl rfl rfl) (zM R4 (zN (zB ?_)))))))
      show T _ _ _ _ _ _;apply T.iter (r := j) (W := Unit) (fun j w => ⟨[], [(4, v16), (6, .ptr b6 0 3), (7, .ptr b7 0 1), (8, .ptr b8 0 1), (9, .ptr b9 0 12), (10, .ptr b10 0 11), (26, iv ((qC.length : Int))), (27, iv (x27)), (35, w16), (36, iv ((y16_2.length : Int))), (37, iv (j.1))], arrL b10 encI j.2 :: .row b9 1 (restC m32 l32) :: .row b8 1 [iv (x27)] :: ownL true v16 encI l :: .row b7 1 [iv (y16_3)] :: .row b6 3 [qF, qD, w16] :: ownL false w16 qP y16_2 :: C⟩) (w0 := ()) h
      ·exact (sb .refl)
      rintro ⟨x37, own⟩ _ a h;unfold P_s9_Fits_L4 at h;dsimp only at h;dsimp only;refine zU rfl ?_;obtain ⟨c38, hc38⟩ := zY (x37 < (y16_2.length : Int));refine zV R3 (Val.lss hc38 rfl rfl) (zN (zS ?_));obtain ⟨rfl, hc38, h⟩ | ⟨rfl, hc38, h⟩ := zI hc38 h
      ·refine zC rfl (zK (zS (zB (zU rfl (zM R4 ?_)))));obtain ⟨a40, hia40, ea40, h⟩ := el_some h;refine TO.fact (own_at (en := qP) (p := 6) rfl hia40) (fun hp=>?_);obtain ⟨ida40, ata40⟩ := hp;refine zV R3 (Val.iaddr_at (en := qP) ata40 ⟨rfl, rfl⟩ rfl rfl hia40) (zV R3 (Val.load_ownP (en := qP) (p := 6) (j := 0) (c := [_, _, _, _, _, _, _]) rfl ata40 ⟨⟨_, rfl, rfl⟩, rfl, by decide⟩ rfl ea40 rfl rfl) (zJ 7 [_,_,_,_,_,_,_] R7 (fun b12=>zA R4 (TO.eff0 rfl rfl (Eff.store_row (p := 0) (cv := [_, _, _, _, _, _, _]) (cells' := [_, _, _, _, _, _, _]) rfl rfl rfl rfl rfl rfl rfl rfl aG (by decide) rfl) ?_))));rintro _ rfl;refine zG (_::_::_::_::_::_::_::_::C) rfl (zN (zT rfl (zM R4 (zF 6 R6 (zL 0 R3 R6 ?_)))));obtain ⟨hk45, h⟩ := chk_some h;obtain ⟨a45, hia45, ea45, h⟩ := el_some h;refine zV R3 (Val.iaddr_array (m := 11) rfl rfl rfl rfl aO) (TO.eff0 rfl rfl (Eff.store_arr (en := encI) (p := 1) (a := a45) (a' := a40.shelf) (j := 0) (cv := [_]) rfl hk45 ea45 rfl rfl (by decide) rfl rfl rfl rfl aG rfl) ?_);rintro _ rfl;refine zG (_::_::_::_::_::_::_::_::C) rfl (zN (zT rfl ?_));obtain ⟨hk46, h⟩ := chk_some h;refine zV R3 (Val.add rfl rfl hk46) (zM R4 (zN ?_));cases h;exact ⟨rfl, (), (sb (pk [1,1,1,1,1,1,1,98] rfl))⟩
      refine zD rfl (zE ?_);cases h;exact ⟨ex_ne, ⟨rfl, (), (sb .refl)⟩⟩
     ·rintro own _ h;refine zU rfl (zL 4 R3 R6 (zL 2 R3 R6 ?_));obtain ⟨hk49, h⟩ := chk_some h;obtain ⟨a49, hia49, ea49, h⟩ := el_some h;refine zV R3 (Val.iaddr_array (m := 11) rfl rfl rfl rfl aO) (TO.eff0 rfl rfl (Eff.store_arr (en := encI) (p := 0) (a := a49) (a' := x27) (j := 0) (cv := [_]) rfl hk49 ea49 rfl rfl (by decide) rfl rfl rfl rfl aG rfl) ?_);rintro _ rfl;refine zG (_::_::_::_::_::_::_::C) rfl (zN ?_)
      show T _ _ _ _ _ _;apply T.joinA (r := j) (W := Unit) (fun j w => ⟨[], [(4, v16), (6, .ptr b6 0 3), (7, .ptr b7 0 1), (8, .ptr b8 0 1), (26, iv ((qC.length : Int))), (27, iv (x27)), (58, bv j)], arrL b10 encI (List.set own y16_3.toNat x27) :: .row b9 1 (restC m32 l32) :: .row b8 1 [iv (x27)] :: ownL true v16 encI l :: .row b7 1 [iv (y16_3)] :: .row b6 3 [qF, qD, w16] :: ownL false w16 qP y16_2 :: C⟩) h
      ·intro j h;refine zT rfl (zF 0 R6 (zV R3 (Val.load_rest0 (p := 1) (k := 11) rfl hl32 ⟨_, rfl, rfl⟩ rfl) ?_));obtain ⟨c52, hc52⟩ := zY (m32 = 0);refine zV R3 (Val.eql hc52 rfl rfl) (zM R4 ?_);obtain ⟨rfl, hc52, h⟩ | ⟨rfl, hc52, h⟩ := zI hc52 h
       ·refine zF 1 R6 (zV R3 (Val.load_restA (p := 1) (k := 11) rfl hl32 ⟨⟨_, rfl, rfl⟩, rfl, by decide⟩ rfl) ?_);obtain ⟨hk56, h⟩ := chk_some h;refine zV R3 (Val.load_vec (p := 0) (k := 11) rfl hk56 ⟨⟨_, rfl, rfl⟩, rfl, by decide⟩ rfl) ?_;obtain ⟨c57, hc57⟩ := zY (l32 = (List.set own y16_3.toNat x27));refine zV R3 (Val.eql_vec hc57 vec_ty136 hl32 hk56 rfl rfl) (zP R6 (zN ?_));subst hc57;cases h;exact ⟨rfl, (), (sb .refl)⟩
       refine zO R3 (zO R3 (zO R3 (zO R3 (zP R6 (zN ?_)))));cases h;exact ⟨rfl, (), (sb .refl)⟩
      ·rintro x58 _ h;obtain ⟨rfl, h⟩ | ⟨rfl, h⟩ := zZ h
       ·refine zC rfl (zT rfl (zM R4 (zL 2 R3 R6 (TO.build1 (en := encI) (a := x27) rfl rfl rfl ⟨rfl, rfl⟩ ⟨_, rfl, rfl⟩ (by decide) (by decide) rfl rfl (fun v61=>?_)))));obtain ⟨hk62, h⟩ := chk_some h;refine TO.eff rfl rfl rfl (Eff.append_own (b := 8) (en := encI) (l := l) (l2 := [x27]) (p := 4) (q := 0) ⟨rfl, rfl, rfl, ⟨_, rfl, rfl⟩, by decide, by decide⟩ rfl rfl rfl rfl rfl rfl (flat_ones _) (by decide) hk62) ?_;rintro v62 _ rfl;refine zG (_::_::_::_::_::_::_::_::C) rfl (zA R4 (zN ?_));cases h;exact ⟨rfl, v62, (sb (pk [4,4,4,4,98,98,98,98] rfl))⟩
       refine zD rfl (zK ?_);cases h;exact ⟨rfl, v16, (sb (pk [3,3,3,3,98,98,98] rfl))⟩
    ·rintro l_2 v16_2 h;refine zT rfl ?_;obtain ⟨hk63, h⟩ := chk_some h;refine zV R3 (Val.add rfl rfl hk63) (zM R4 (zN ?_));cases h;exact ⟨rfl, v16_2, (sb .refl)⟩
   refine zD rfl (zE ?_);cases h;exact ⟨ex_ne, ⟨rfl, v16, (sb .refl)⟩⟩
  ·rintro l v16 h;refine zU rfl (zM R4 (zA R4 (zA R4 (zN (zR ?_)))));cases h;exact ⟨rfl, _, rfl, ⟨v16, rfl, (pk [0,98,98,98] rfl)⟩⟩
theorem w_s9_Fits (qG : GS encStr) (qC : GS qW) (qB : GS qP) (qK : Int) (qL : Int) (qM : Str) (qJ : Int) (qI : Int) (qN : Int) (qO : Int) (r : (List Int) × Int) (h : P_s9_Fits qG.l qC.l qB.l qK qL qM qJ qI qN qO = some r) : Comes (EL 1) 30 [.agg [qG.v, qC.v, qB.v], .agg [iv (qK), iv (qL), sv qM, iv (qJ), iv (qI), iv (qN), iv (qO)]] (.tuple [(GSo true encI r.1).v, iv r.2]) :=
 TF.run (tf_s9_Fits (Nat.le_refl _) (RdT.gs qG) (RdT.gs qC) (RdT.gs qB) h) fun w => (.tuple (.cons (.ownL (en := encI) (p := 0) rfl (.lits encI_lits)) (.cons .lit .nil)))
set_option maxRecDepth 10000 in
theorem tf_s9_Put {k : Nat} (hk : 1 ≤ k) {C : List Thing} {qF : AV} {qG : List Str} {qD : AV} {qC : List qH} {qE : AV} {qB : List qA} {qK : Int} {qL : Int} {qM : Str} {qJ : Int} {qI : Int} {qN : Int} {qO : Int} (qAa : RdT encStr qF qG) (qAb : RdT qW qD qC) (qZ : RdT qP qE qB) {r : Int × Int × (List Int) × Bool × Int} (h : P_s9_Put qG qC qB qK qL qM qJ qI qN qO = some r) :
  TF (EL k) 32 [.agg [qF, qD, qE], .agg [iv (qK), iv (qL), sv qM, iv (qJ), iv (qI), iv (qN), iv (qO)]] C (RepF (fun (w : AV) => .tuple [iv r.1, iv r.2.1, w, iv r.2.2.2.2]) (fun (w : AV) => ownL r.2.2.2.1 w encI r.2.2.1 :: C)) := by
 unfold P_s9_Put at h
 have qV : Rdl C encStr qF qG := RdT.rdl qAa
 have qU : Rdl C qW qD qC := RdT.rdl qAb
 have qT : Rdl C qP qE qB := RdT.rdl qZ;refine TF.enterG (fn := Go.Proofs.Tryz.f32) rfl rfl rfl rfl rfl (zU rfl (zQ 3 [_,_,_] R7 (fun b2=>zQ 7 [_,_,_,_,_,_,_] R7 (fun b3=>zJ 1 [_] R7 (fun b4=>zA R4 (zA R4 (zA R4 (zN (zU rfl (zV R3 (vW 2 [_,_,_] R5 R4) (zV R3 (vW 1 [_,_,_,_,_,_,_] R5 R4) ?_)))))))))));obtain ⟨y13, hr13, h⟩ := andx_some h;cases y13 with
 | inl y13 =>
  obtain ⟨y13_2, y13_3⟩ := y13;dsimp only at h;refine TO.callT (first := []) (cap := []) (vs := [.agg [qF, qD, qE], .agg [iv (qK), iv (qL), sv qM, iv (qJ), iv (qI), iv (qN), iv (qO)]]) rfl rfl rfl rfl rfl rfl (orcN rfl) (tf_s9_enter aD qAa qAb qZ hr13) ?_;rintro _;refine zG (_::_::_::C) rfl (zM R4 (zX R5 (zX R5 (zX R5 (zJ 3 [_,_,_] R7 (fun b8=>TO.fact (rdl_cellS qV M4) (fun qX=>TO.fact (rdl_cellS qU M4) (fun qY=>TO.fact (rdl_cellS qT M4) (fun qAc=>TO.eff0 rfl rfl (Eff.store_row (p := 0) (cv := [_, _, _]) (cells' := [_, _, _]) rfl rfl rfl rfl rfl rfl rfl rfl (by first | rfl | (simp [GS.one, qX.2, qY.2, qAc.2]; done) | (simp [GS.one, qX.2, qY.2, qAc.2]; (repeat' apply And.intro) <;> rfl)) (by decide) rfl) ?_)))))))));rintro _ rfl;refine zG (_::_::_::_::C) rfl (TO.eff0 rfl rfl (Eff.store_row (p := 1) (cv := [_]) (cells' := [_]) rfl rfl rfl rfl rfl rfl rfl rfl aG (by decide) rfl) ?_);rintro _ rfl;refine zG (_::_::_::_::C) rfl (zA R4 (zN (zS (zB (zU rfl (zM R4 ?_))))));obtain ⟨c19, hc19⟩ := zY (¬ y13_3 = 0);refine zV R3 (Val.neq hc19 rfl rfl) (zA R4 (zN ?_));obtain ⟨rfl, hc19, h⟩ | ⟨rfl, hc19, h⟩ := zI hc19 h
  ·refine zC rfl (zU rfl (zM R4 (TO.eff0 rfl rfl (Eff.store_row (p := 1) (cv := [_]) (cells' := [_]) rfl rfl rfl rfl rfl rfl rfl rfl aG (by decide) rfl) ?_)));rintro _ rfl;refine zG (_::_::_::_::C) rfl (zA R4 (zA R4 (zA R4 (zN (T.nilown (u := encI.u) (zR ?_))))));cases h;exact ⟨rfl, _, rfl, [_, _, _, _], ⟨⟨_, rfl, LoadR.row (p := 2) rfl ⟨_, rfl, rfl⟩ rfl rfl⟩, ⟨rfl, ⟨rfl, ⟨rfl, trivial⟩⟩⟩⟩, ⟨nilS, rfl, (pk [0,98,98,98,98] rfl)⟩⟩
  refine zD rfl (zU rfl (zF 2 R6 (zL 3 R3 R6 (zV R3 (Val.len_l qT M4 rfl rfl) ?_))));obtain ⟨c25, hc25⟩ := zY ((qB.length : Int) = 10);refine zV R3 (Val.eql hc25 rfl rfl) (zA R4 (zN ?_));obtain ⟨rfl, hc25, h⟩ | ⟨rfl, hc25, h⟩ := zI hc25 h
  ·refine zC rfl (zU rfl (TO.eff0 rfl rfl (Eff.store_row (p := 1) (cv := [_]) (cells' := [_]) rfl rfl rfl rfl rfl rfl rfl rfl aG (by decide) rfl) ?_));rintro _ rfl;refine zG (_::_::_::_::C) rfl (zA R4 (zA R4 (zA R4 (zN (T.nilown (u := encI.u) (zR ?_))))));cases h;exact ⟨rfl, _, rfl, [_, _, _, _], ⟨⟨_, rfl, LoadR.row (p := 2) rfl ⟨_, rfl, rfl⟩ rfl rfl⟩, ⟨rfl, ⟨rfl, ⟨rfl, trivial⟩⟩⟩⟩, ⟨nilS, rfl, (pk [0,98,98,98,98] rfl)⟩⟩
  refine zD rfl (zK (zU rfl (zV R3 (vW 0 [_,_,_] R5 R4) (zV R3 (Val.makeFunc rfl rfl) ?_))));obtain ⟨⟨m28, l28⟩, hr28, h⟩ := andx_some h;dsimp only at h
  have hl28 := arrange_len hr28;refine TO.callT (first := []) (cap := []) (vs := [.agg [qF, qD, qE], .func 100 [] [.ptr b4 0 1, .ptr b8 0 3]]) rfl rfl rfl rfl rfl rfl (orcN rfl) (tf_arrange (F := (fun i_ n_ => P_s9_Put1 i_ n_ y13_2 qG qC qB)) (r := (m28, l28)) (Rdl.mono qU M4) (Rdl.mono qT M4) rfl (orcN rfl) (fun hs_ i_ n_ r_ hC_ hr_ => tf_s9_Put1 (C := hs_) aD (hC_ _ (List.mem_of_getElem? (i := 1) rfl)) (Rdl.mono (Rdl.mono qV M4) hC_) (Rdl.mono (Rdl.mono qU M4) hC_) (Rdl.mono (Rdl.mono qT M4) hC_) (hC_ _ (List.mem_of_getElem? (i := 0) rfl)) hr_) hr28) ?_;rintro _;refine zG (_::_::_::_::C) rfl (TO.alloc (k := 12) (cells := restC 0 (List.replicate 11 0)) rfl rfl rfl rfl rfl rfl rfl (fun b9=>TO.eff0 rfl rfl (Eff.store_rest (p := 0) (k := 11) (l' := l28) (n' := m28) rfl (restC_len List.length_replicate) hl28 rfl rfl rfl) ?_));rintro _ rfl;refine zG (_::_::_::_::_::C) rfl (zN (zS (zU rfl (zF 0 R6 (zV R3 (Val.load_rest0 (p := 0) (k := 11) rfl hl28 ⟨_, rfl, rfl⟩ rfl) ?_)))));obtain ⟨c31, hc31⟩ := zY (m28 ≥ 1000);refine zV R3 (Val.geq hc31 rfl rfl) (zN ?_);obtain ⟨rfl, hc31, h⟩ | ⟨rfl, hc31, h⟩ := zI hc31 h
  ·refine zC rfl (zU rfl (TO.eff0 rfl rfl (Eff.store_row (p := 2) (cv := [_]) (cells' := [_]) rfl rfl rfl rfl rfl rfl rfl rfl aG (by decide) rfl) ?_));rintro _ rfl;refine zG (_::_::_::_::_::C) rfl (zA R4 (zA R4 (zA R4 (zN (T.nilown (u := encI.u) (zR ?_))))));cases h;exact ⟨rfl, _, rfl, [_, _, _, _], ⟨⟨_, rfl, LoadR.row (p := 3) rfl ⟨_, rfl, rfl⟩ rfl rfl⟩, ⟨rfl, ⟨rfl, ⟨rfl, trivial⟩⟩⟩⟩, ⟨nilS, rfl, (pk [0,98,98,98,98,98] rfl)⟩⟩
  refine zD rfl (zK (zS (T.drawE (l1 := [0, 1, 2, 3, 4, 5, 6, 7, 8]) (l2 := [9, 10, 11, 12, 13]) (by kernel_rfl) (by kernel_rfl) (yR R4 (vR (p := 2) R6) (yL R4 (Val.faddr_ptr (fo := 0) rfl rfl rfl) (yR R4 (Val.load_rest0 (p := 0) (k := 11) rfl hl28 ⟨_, rfl, rfl⟩ rfl) (yL R4 (Val.faddr_ptr (fo := 1) rfl rfl rfl) (yL R4 (Val.faddr_ptr (fo := 0) rfl rfl rfl) (yL R4 (Val.faddr_ptr (fo := 2) rfl rfl rfl) (yR R4 (vR (p := 1) R6) (yR R4 (Val.len_l qT M5 rfl rfl) ?_)))))))))));obtain ⟨hk40, h⟩ := chk_some h;refine yR R4 (Val.slice_arr (p := 0) (k := 12) (m := 11) rfl (restC_len hl28) rfl rfl rfl rfl rfl rfl hk40) (TD1.over (fun v => sameC_refl v) (all_cons (⟨_, rfl, (Val.slice_arr (p := 0) (k := 12) (m := 11) rfl (restC_len hl28) rfl rfl rfl rfl rfl rfl hk40)⟩) (all_cons (⟨_, rfl, (Val.len_l qT M5 rfl rfl)⟩) (all_cons (⟨_, rfl, (vR (p := 1) R6)⟩) (all_cons (⟨_, rfl, (Val.load_rest0 (p := 0) (k := 11) rfl hl28 ⟨_, rfl, rfl⟩ rfl)⟩) (all_cons (⟨_, rfl, (vR (p := 2) R6)⟩) all_nil))))) (TD2.heavy (fun v => sameC_refl v) rfl (by decide) rfl rfl (OpS.callV rfl rfl rfl rfl (orcN rfl) (RepF.conv (tf_cloneA (p := 0) rfl hl28 hk40))) ?_));rintro v41 hs_ ⟨v41, rfl, he_⟩;subst hs_;refine ⟨(all_cons (.inl (by kernel_rfl)) (all_cons (.inl (by kernel_rfl)) (all_cons (.inl (by kernel_rfl)) (all_cons (.inr ⟨_, rfl, (Val.load_rest0 (p := 1) (k := 11) rfl hl28 ⟨_, rfl, rfl⟩ rfl)⟩) (all_cons (.inr ⟨_, rfl, (vR (p := 3) R6)⟩) all_nil))))), all_nil, ?_⟩;refine yG (_::_::_::_::_::_::C) rfl (TD2.heavy (fun v => sameC_refl v) rfl (by decide) rfl rfl (OpS.eff (Eff.store_row (p := 3) (cv := [_]) (cells' := [_]) rfl rfl rfl rfl rfl rfl rfl rfl aG (by decide) rfl)) ?_);rintro _ _ rfl;refine ⟨(all_cons (.inl (by kernel_rfl)) (all_cons (.inl (by kernel_rfl)) (all_cons (.inl (by kernel_rfl)) (all_cons (.inr ⟨_, rfl, (Val.load_rest0 (p := 1) (k := 11) rfl hl28 ⟨_, rfl, rfl⟩ rfl)⟩) (all_cons (.inl (by kernel_rfl)) all_nil))))), all_nil, ?_⟩;refine yG (_::_::_::_::_::_::C) rfl (yM R4 (Val.assign rfl) (yM R4 (Val.assign rfl) (yM R4 (Val.assign rfl) (TD2.nil (zR ?_)))));cases h;exact ⟨rfl, _, rfl, [_, _, _, _], ⟨⟨_, rfl, LoadR.row (p := 3) rfl ⟨_, rfl, rfl⟩ rfl rfl⟩, ⟨rfl, ⟨rfl, ⟨rfl, trivial⟩⟩⟩⟩, ⟨v41, rfl, (pk [0,98,98,98,98,98] rfl)⟩⟩
 | inr y13 =>
  obtain ⟨y13_2, y13_3, y13_4⟩ := y13;dsimp only at h;refine TO.callT (first := []) (cap := []) (vs := [.agg [qF, qD, qE], .agg [iv (qK), iv (qL), sv qM, iv (qJ), iv (qI), iv (qN), iv (qO)]]) rfl rfl rfl rfl rfl rfl (orcN rfl) (tf_s9_enter aD qAa qAb qZ hr13) ?_;rintro w13;refine zG (_::_::_::_::C) rfl (zM R4 (zX R5 (zX R5 (zX R5 (zJ 3 [_,_,_] R7 (fun b8=>TO.fact (rdl_cellS qV M5) (fun qX=>TO.fact (rdl_cellS qU M5) (fun qY=>TO.fact (own_cellS (p := 1) rfl) (fun hot10=>TO.eff0 rfl rfl (Eff.store_row (p := 0) (cv := [_, _, _]) (cells' := [_, _, _]) rfl rfl rfl rfl rfl rfl rfl rfl (by first | rfl | (simp [GS.one, qX.2, qY.2, hot10.2]; done) | (simp [GS.one, qX.2, qY.2, hot10.2]; (repeat' apply And.intro) <;> rfl)) (by decide) rfl) ?_)))))))));rintro _ rfl;refine zG (_::_::_::_::_::C) rfl (TO.eff0 rfl rfl (Eff.store_row (p := 2) (cv := [_]) (cells' := [_]) rfl rfl rfl rfl rfl rfl rfl rfl aG (by decide) rfl) ?_);rintro _ rfl;refine zG (_::_::_::_::_::C) rfl (zA R4 (zN (zS (zB (zU rfl (zM R4 ?_))))));obtain ⟨c19, hc19⟩ := zY (¬ y13_4 = 0);refine zV R3 (Val.neq hc19 rfl rfl) (zA R4 (zN ?_));obtain ⟨rfl, hc19, h⟩ | ⟨rfl, hc19, h⟩ := zI hc19 h
  ·refine zC rfl (zU rfl (zM R4 (TO.eff0 rfl rfl (Eff.store_row (p := 2) (cv := [_]) (cells' := [_]) rfl rfl rfl rfl rfl rfl rfl rfl aG (by decide) rfl) ?_)));rintro _ rfl;refine zG (_::_::_::_::_::C) rfl (zA R4 (zA R4 (zA R4 (zN (T.nilown (u := encI.u) (zR ?_))))));cases h;exact ⟨rfl, _, rfl, [_, _, _, _], ⟨⟨_, rfl, LoadR.row (p := 3) rfl ⟨_, rfl, rfl⟩ rfl rfl⟩, ⟨rfl, ⟨rfl, ⟨rfl, trivial⟩⟩⟩⟩, ⟨nilS, rfl, (pk [0,98,98,98,98,98] rfl)⟩⟩
  refine zD rfl (zU rfl (zF 2 R6 (zL 4 R3 R6 (zV R3 (Val.len_l qT M5 rfl rfl) ?_))));obtain ⟨c25, hc25⟩ := zY ((qB.length : Int) = 10);refine zV R3 (Val.eql hc25 rfl rfl) (zA R4 (zN ?_));obtain ⟨rfl, hc25, h⟩ | ⟨rfl, hc25, h⟩ := zI hc25 h
  ·refine zC rfl (zU rfl (TO.eff0 rfl rfl (Eff.store_row (p := 2) (cv := [_]) (cells' := [_]) rfl rfl rfl rfl rfl rfl rfl rfl aG (by decide) rfl) ?_));rintro _ rfl;refine zG (_::_::_::_::_::C) rfl (zA R4 (zA R4 (zA R4 (zN (T.nilown (u := encI.u) (zR ?_))))));cases h;exact ⟨rfl, _, rfl, [_, _, _, _], ⟨⟨_, rfl, LoadR.row (p := 3) rfl ⟨_, rfl, rfl⟩ rfl rfl⟩, ⟨rfl, ⟨rfl, ⟨rfl, trivial⟩⟩⟩⟩, ⟨nilS, rfl, (pk [0,98,98,98,98,98] rfl)⟩⟩
  refine zD rfl (zK (zU rfl (zV R3 (vW 0 [_,_,_] R5 R4) (zV R3 (Val.makeFunc rfl rfl) ?_))));obtain ⟨⟨m28, l28⟩, hr28, h⟩ := andx_some h;dsimp only at h
  have hl28 := arrange_len hr28;refine TO.callT (first := []) (cap := []) (vs := [.agg [qF, qD, w13], .func 100 [] [.ptr b4 0 1, .ptr b8 0 3]]) rfl rfl rfl rfl rfl rfl (orcN rfl) (tf_arrange (F := (fun i_ n_ => P_s9_Put1 i_ n_ y13_3 qG qC y13_2)) (r := (m28, l28)) (Rdl.mono qU M5) (Rdl.mono (Rdl.own (C := .row b8 3 [qF, qD, w13] :: ownL false w13 qP y13_2 :: .row b4 1 [iv (y13_3)] :: .row b3 7 [iv (qK), iv (qL), sv qM, iv (qJ), iv (qI), iv (qN), iv (qO)] :: .row b2 3 [qF, qD, qE] :: C) (p := 1) rfl) mem0) rfl (orcN rfl) (fun hs_ i_ n_ r_ hC_ hr_ => tf_s9_Put1 (C := hs_) aD (hC_ _ (List.mem_of_getElem? (i := 2) rfl)) (Rdl.mono (Rdl.mono qV M5) hC_) (Rdl.mono (Rdl.mono qU M5) hC_) (Rdl.mono (Rdl.mono (Rdl.own (C := .row b8 3 [qF, qD, w13] :: ownL false w13 qP y13_2 :: .row b4 1 [iv (y13_3)] :: .row b3 7 [iv (qK), iv (qL), sv qM, iv (qJ), iv (qI), iv (qN), iv (qO)] :: .row b2 3 [qF, qD, qE] :: C) (p := 1) rfl) mem0) hC_) (hC_ _ (List.mem_of_getElem? (i := 0) rfl)) hr_) hr28) ?_;rintro _;refine zG (_::_::_::_::_::C) rfl (TO.alloc (k := 12) (cells := restC 0 (List.replicate 11 0)) rfl rfl rfl rfl rfl rfl rfl (fun b9=>TO.eff0 rfl rfl (Eff.store_rest (p := 0) (k := 11) (l' := l28) (n' := m28) rfl (restC_len List.length_replicate) hl28 rfl rfl rfl) ?_));rintro _ rfl;refine zG (_::_::_::_::_::_::C) rfl (zN (zS (zU rfl (zF 0 R6 (zV R3 (Val.load_rest0 (p := 0) (k := 11) rfl hl28 ⟨_, rfl, rfl⟩ rfl) ?_)))));obtain ⟨c31, hc31⟩ := zY (m28 ≥ 1000);refine zV R3 (Val.geq hc31 rfl rfl) (zN ?_);obtain ⟨rfl, hc31, h⟩ | ⟨rfl, hc31, h⟩ := zI hc31 h
  ·refine zC rfl (zU rfl (TO.eff0 rfl rfl (Eff.store_row (p := 3) (cv := [_]) (cells' := [_]) rfl rfl rfl rfl rfl rfl rfl rfl aG (by decide) rfl) ?_));rintro _ rfl;refine zG (_::_::_::_::_::_::C) rfl (zA R4 (zA R4 (zA R4 (zN (T.nilown (u := encI.u) (zR ?_))))));cases h;exact ⟨rfl, _, rfl, [_, _, _, _], ⟨⟨_, rfl, LoadR.row (p := 4) rfl ⟨_, rfl, rfl⟩ rfl rfl⟩, ⟨rfl, ⟨rfl, ⟨rfl, trivial⟩⟩⟩⟩, ⟨nilS, rfl, (pk [0,98,98,98,98,98,98] rfl)⟩⟩
  refine zD rfl (zK (zS (T.drawE (l1 := [0, 1, 2, 3, 4, 5, 6, 7, 8]) (l2 := [9, 10, 11, 12, 13]) (by kernel_rfl) (by kernel_rfl) (yR R4 (vR (p := 3) R6) (yL R4 (Val.faddr_ptr (fo := 0) rfl rfl rfl) (yR R4 (Val.load_rest0 (p := 0) (k := 11) rfl hl28 ⟨_, rfl, rfl⟩ rfl) (yL R4 (Val.faddr_ptr (fo := 1) rfl rfl rfl) (yL R4 (Val.faddr_ptr (fo := 0) rfl rfl rfl) (yL R4 (Val.faddr_ptr (fo := 2) rfl rfl rfl) (yR R4 (vR (p := 1) R6) (yR R4 (Val.len_own (p := 2) rfl rfl rfl) ?_)))))))))));obtain ⟨hk40, h⟩ := chk_some h;refine yR R4 (Val.slice_arr (p := 0) (k := 12) (m := 11) rfl (restC_len hl28) rfl rfl rfl rfl rfl rfl hk40) (TD1.over (fun v => sameC_refl v) (all_cons (⟨_, rfl, (Val.slice_arr (p := 0) (k := 12) (m := 11) rfl (restC_len hl28) rfl rfl rfl rfl rfl rfl hk40)⟩) (all_cons (⟨_, rfl, (Val.len_own (p := 2) rfl rfl rfl)⟩) (all_cons (⟨_, rfl, (vR (p := 1) R6)⟩) (all_cons (⟨_, rfl, (Val.load_rest0 (p := 0) (k := 11) rfl hl28 ⟨_, rfl, rfl⟩ rfl)⟩) (all_cons (⟨_, rfl, (vR (p := 3) R6)⟩) all_nil))))) (TD2.heavy (fun v => sameC_refl v) rfl (by decide) rfl rfl (OpS.callV rfl rfl rfl rfl (orcN rfl) (RepF.conv (tf_cloneA (p := 0) rfl hl28 hk40))) ?_));rintro v41 hs_ ⟨v41, rfl, he_⟩;subst hs_;refine ⟨(all_cons (.inl (by kernel_rfl)) (all_cons (.inl (by kernel_rfl)) (all_cons (.inl (by kernel_rfl)) (all_cons (.inr ⟨_, rfl, (Val.load_rest0 (p := 1) (k := 11) rfl hl28 ⟨_, rfl, rfl⟩ rfl)⟩) (all_cons (.inr ⟨_, rfl, (vR (p := 4) R6)⟩) all_nil))))), all_nil, ?_⟩;refine yG (_::_::_::_::_::_::_::C) rfl (TD2.heavy (fun v => sameC_refl v) rfl (by decide) rfl rfl (OpS.eff (Eff.store_row (p := 4) (cv := [_]) (cells' := [_]) rfl rfl rfl rfl rfl rfl rfl rfl aG (by decide) rfl)) ?_);rintro _ _ rfl;refine ⟨(all_cons (.inl (by kernel_rfl)) (all_cons (.inl (by kernel_rfl)) (all_cons (.inl (by kernel_rfl)) (all_cons (.inr ⟨_, rfl, (Val.load_rest0 (p := 1) (k := 11) rfl hl28 ⟨_, rfl, rfl⟩ rfl)⟩) (all_cons (.inl (by kernel_rfl)) all_nil))))), all_nil, ?_⟩;refine yG (_::_::_::_::_::_::_::C) rfl (yM R4 (Val.assign rfl) (yM R4 (Val.assign rfl) (yM R4 (Val.assign rfl) (TD2.nil (zR ?_)))));cases h;exact ⟨rfl, _, rfl, [_, _, _, _], ⟨⟨_, rfl, LoadR.row (p := 4) rfl ⟨_, rfl, rfl⟩ rfl rfl⟩, ⟨rfl, ⟨rfl, ⟨rfl, trivial⟩⟩⟩⟩, ⟨v41, rfl, (pk [0,98,98,98,98,98,98] rfl)⟩⟩
theorem w_s9_Put (qG : GS encStr) (qC : GS qW) (qB : GS qP) (qK : Int) (qL : Int) (qM : Str) (qJ : Int) (qI : Int) (qN : Int) (qO : Int) (r : Int × Int × (List Int) × Bool × Int) (h : P_s9_Put qG.l qC.l qB.l qK qL qM qJ qI qN qO = some r) : Comes (EL 1) 32 [.agg [qG.v, qC.v, qB.v], .agg [iv (qK), iv (qL), sv qM, iv (qJ), iv (qI), iv (qN), iv (qO)]] (.tuple [iv r.1, iv r.2.1, (GSo r.2.2.2.1 encI r.2.2.1).v, iv r.2.2.2.2]) :=
 TF.run (tf_s9_Put (Nat.le_refl _) (RdT.gs qG) (RdT.gs qC) (RdT.gs qB) h) fun w => (.tuple (.cons .lit (.cons .lit (.cons (.ownL (en := encI) (p := 0) rfl (.lits encI_lits)) (.cons .lit .nil)))))
end Go.Am.YtiaolgbmbhldgaaGreatDoor
end
section
namespace Go.Am
set_option linter.unusedVariables false
noncomputable def P_law_ShelfPuts (qG : List Str) (qC : List qH) (qB : List qA) (qK : Int) (qL : Int) (qM : Str) (qJ : Int) (qI : Int) (qN : Int) (qO : Int) : Option Bool :=
  andx (P_s9_Astray qG qC qB) fun (y15, y15_2) =>
    andx (P_r9_Astray qG qC qB) fun (y20, y20_2) =>
      seqx (
        andx (
          andx (P_w1_Ints y15 y20) fun y25 =>
            if y25 = true then
              some (decide (¬ y15_2 = y20_2))
            else
              some true) fun x31 =>
          if x31 = true then
            some (Ex.rt false)
          else
            some (Ex.nx ())) fun _ =>
        andx (P_s9_Spare qG qC qB) fun (y34, y34_2) =>
          andx (P_r9_Spare qG qC qB) fun (y39, y39_2) =>
            seqx (
              andx (
                andx (P_w1_Ints y34 y39) fun y44 =>
                  if y44 = true then
                    some (decide (¬ y34_2 = y39_2))
                  else
                    some true) fun x50 =>
                if x50 = true then
                  some (Ex.rt false)
                else
                  some (Ex.nx ())) fun _ =>
              andx (P_s9_Fits qG qC qB qK qL qM qJ qI qN qO) fun (y54, y54_2) =>
                andx (P_r9_Fits qG qC qB qK qL qM qJ qI qN qO) fun (y60, y60_2) =>
                  seqx (
                    andx (
                      andx (P_w1_Ints y54 y60) fun y65 =>
                        if y65 = true then
                          some (decide (¬ y54_2 = y60_2))
                        else
                          some true) fun x71 =>
                      if x71 = true then
                        some (Ex.rt false)
                      else
                        some (Ex.nx ())) fun _ =>
                    andx (P_s9_Put qG qC qB qK qL qM qJ qI qN qO) fun (y75, y75_2, y75_3, y75_4, y75_5) =>
                      andx (P_r9_Put qG qC qB qK qL qM qJ qI qN qO) fun (y83, y83_2, y83_3, y83_4) =>
                        andx (
                          if y75 = y83 then
                            if y75_2 = y83_2 then
                              andx (P_w1_Ints ((GSo y75_4 encI y75_3).l) y83_3) fun y99 =>
                                if y99 = true then
                                  if y75_5 = y83_4 then
                                    some true
                                  else
                                    some false
                                else
                                  some false
                            else
                              some false
                          else
                            some false) fun x4 =>
                          some x4
end Go.Am
end
section
namespace Go.Am.YtiaolgbmbhldgaaGreatDoor
open Go.Am Go.RowKit
set_option linter.unusedVariables false
set_option linter.unusedSimpArgs false
set_option maxRecDepth 10000 in
theorem tf_law_ShelfPuts {k : Nat} (hk : 3 ≤ k) {C : List Thing} {qF : AV} {qG : List Str} {qD : AV} {qC : List qH} {qE : AV} {qB : List qA} {qK : Int} {qL : Int} {qM : Str} {qJ : Int} {qI : Int} {qN : Int} {qO : Int} (qAa : RdT encStr qF qG) (qAb : RdT qW qD qC) (qZ : RdT qP qE qB) {r : Bool} (h : P_law_ShelfPuts qG qC qB qK qL qM qJ qI qN qO = some r) :
  TF (EL k) 4 [.agg [qF, qD, qE], .agg [iv (qK), iv (qL), sv qM, iv (qJ), iv (qI), iv (qN), iv (qO)]] C (RepF (fun (w : Unit) => bv r) (fun (w : Unit) => C)) := by
 unfold P_law_ShelfPuts at h
 have qV : Rdl C encStr qF qG := RdT.rdl qAa
 have qU : Rdl C qW qD qC := RdT.rdl qAb
 have qT : Rdl C qP qE qB := RdT.rdl qZ;refine TF.enter (fn := Go.Proofs.Tryz.f4) rfl rfl rfl rfl rfl (zU rfl (zQ 3 [_,_,_] R7 (fun b2=>zQ 7 [_,_,_,_,_,_,_] R7 (fun b3=>zA R4 (zN (zU rfl (zV R3 (vW 1 [_,_,_] R5 R4) ?_)))))));obtain ⟨⟨y15, y15_2⟩, hr15, h⟩ := andx_some h;dsimp only at h;obtain ⟨g, hgg, hrg⟩ := Rdl.reif (hs := .row b3 7 [iv (qK), iv (qL), sv qM, iv (qJ), iv (qI), iv (qN), iv (qO)] :: .row b2 3 [qF, qD, qE] :: C) qV M2 (ReifL.flat encStr_tr);obtain ⟨g_2, hgg_2, hrg_2⟩ := Rdl.reif (hs := .row b3 7 [iv (qK), iv (qL), sv qM, iv (qJ), iv (qI), iv (qN), iv (qO)] :: .row b2 3 [qF, qD, qE] :: C) qU M2 (ReifL.flat qAe);obtain ⟨g_3, hgg_3, hrg_3⟩ := Rdl.reif (hs := .row b3 7 [iv (qK), iv (qL), sv qM, iv (qJ), iv (qI), iv (qN), iv (qO)] :: .row b2 3 [qF, qD, qE] :: C) qT M2 (ReifL.flat qAd);refine TO.call rfl rfl rfl rfl rfl (orcL rfl aD) (.cons (.agg (.cons (hrg _) (.cons (hrg_2 _) (.cons (hrg_3 _) .nil)))) .nil) (sem_of (w_s9_Astray g g_2 g_3 _ (by try rw [hgg]; try rw [hgg_2]; try rw [hgg_3]; exact hr15))) (zM R4 (zX R5 (zX R5 (zA R4 (zA R4 (zN (zU rfl (zV R3 (vW 1 [_,_,_] R5 R4) ?_))))))));obtain ⟨⟨y20, y20_2⟩, hr20, h⟩ := andx_some h;dsimp only at h;obtain ⟨g_4, hgg_4, hrg_4⟩ := Rdl.reif (hs := .row b3 7 [iv (qK), iv (qL), sv qM, iv (qJ), iv (qI), iv (qN), iv (qO)] :: .row b2 3 [qF, qD, qE] :: C) qV M2 (ReifL.flat encStr_tr);obtain ⟨g_5, hgg_5, hrg_5⟩ := Rdl.reif (hs := .row b3 7 [iv (qK), iv (qL), sv qM, iv (qJ), iv (qI), iv (qN), iv (qO)] :: .row b2 3 [qF, qD, qE] :: C) qU M2 (ReifL.flat qAe);obtain ⟨g_6, hgg_6, hrg_6⟩ := Rdl.reif (hs := .row b3 7 [iv (qK), iv (qL), sv qM, iv (qJ), iv (qI), iv (qN), iv (qO)] :: .row b2 3 [qF, qD, qE] :: C) qT M2 (ReifL.flat qAd);refine TO.call rfl rfl rfl rfl rfl (orcL rfl aD) (.cons (.agg (.cons (hrg_4 _) (.cons (hrg_5 _) (.cons (hrg_6 _) .nil)))) .nil) (sem_of (w_r9_Astray g_4 g_5 g_6 _ (by try rw [hgg_4]; try rw [hgg_5]; try rw [hgg_6]; exact hr20))) (zM R4 (zX R5 (zX R5 (zA R4 (zA R4 (zN ?_))))))
 show T _ _ _ _ _ _;apply T.join (r := r) (W := Unit) (fun j w => ⟨[], [(2, .ptr b2 0 3), (3, .ptr b3 0 7)], .row b3 7 [iv (qK), iv (qL), sv qM, iv (qJ), iv (qI), iv (qN), iv (qO)] :: .row b2 3 [qF, qD, qE] :: C⟩) h
 ·intro j h
  show T _ _ _ _ _ _;apply T.joinA (r := j) (W := Unit) (fun j w => ⟨[], [(2, .ptr b2 0 3), (3, .ptr b3 0 7), (31, bv j)], .row b3 7 [iv (qK), iv (qL), sv qM, iv (qJ), iv (qI), iv (qN), iv (qO)] :: .row b2 3 [qF, qD, qE] :: C⟩) h
  ·intro j h;refine zT rfl (zM R4 (zM R4 ?_));obtain ⟨y25, hr25, h⟩ := andx_some h;refine TO.callT (first := []) (cap := []) (vs := [(GSo true encI y15).v, (GSo true encI y20).v]) rfl rfl rfl rfl rfl rfl (orcN rfl) (tf_w1_Ints aD (Rdl.mono (Rdl.gs (C := C) (GSo true encI y15)) M2) (Rdl.mono (Rdl.gs (C := C) (GSo true encI y20)) M2) hr25) ?_;rintro _;refine zG (_::_::C) rfl (zV R3 (Val.not rfl) (zM R4 ?_));obtain ⟨rfl, h⟩ | ⟨rfl, h⟩ := zZ h
   ·refine zM R4 (zM R4 ?_);obtain ⟨c30, hc30⟩ := zY (¬ y15_2 = y20_2);refine zV R3 (Val.neq hc30 rfl rfl) (zP R6 (zN ?_));subst hc30;cases h;exact ⟨rfl, (), (sb .refl)⟩
   refine zO R3 (zO R3 (zO R3 (zP R6 (zN ?_))));cases h;exact ⟨rfl, (), (sb .refl)⟩
  ·rintro x31 _ h;obtain ⟨rfl, h⟩ | ⟨rfl, h⟩ := zZ h
   ·refine zC rfl (zU rfl (zA R4 (zN (zR ?_))));cases h;exact ⟨ret_ne, ⟨rfl, _, rfl, ⟨(), rfl, (pk [98,98] rfl)⟩⟩⟩
   refine zD rfl (zK ?_);cases h;exact ⟨rfl, (), (sb .refl)⟩
 ·rintro _ _ h;refine zU rfl (zV R3 (vW 1 [_,_,_] R5 R4) ?_);obtain ⟨⟨y34, y34_2⟩, hr34, h⟩ := andx_some h;dsimp only at h;obtain ⟨g_7, hgg_7, hrg_7⟩ := Rdl.reif (hs := .row b3 7 [iv (qK), iv (qL), sv qM, iv (qJ), iv (qI), iv (qN), iv (qO)] :: .row b2 3 [qF, qD, qE] :: C) qV M2 (ReifL.flat encStr_tr);obtain ⟨g_8, hgg_8, hrg_8⟩ := Rdl.reif (hs := .row b3 7 [iv (qK), iv (qL), sv qM, iv (qJ), iv (qI), iv (qN), iv (qO)] :: .row b2 3 [qF, qD, qE] :: C) qU M2 (ReifL.flat qAe);obtain ⟨g_9, hgg_9, hrg_9⟩ := Rdl.reif (hs := .row b3 7 [iv (qK), iv (qL), sv qM, iv (qJ), iv (qI), iv (qN), iv (qO)] :: .row b2 3 [qF, qD, qE] :: C) qT M2 (ReifL.flat qAd);refine TO.call rfl rfl rfl rfl rfl (orcL rfl aD) (.cons (.agg (.cons (hrg_7 _) (.cons (hrg_8 _) (.cons (hrg_9 _) .nil)))) .nil) (sem_of (w_s9_Spare g_7 g_8 g_9 _ (by try rw [hgg_7]; try rw [hgg_8]; try rw [hgg_9]; exact hr34))) (zM R4 (zX R5 (zX R5 (zA R4 (zA R4 (zN (zU rfl (zV R3 (vW 1 [_,_,_] R5 R4) ?_))))))));obtain ⟨⟨y39, y39_2⟩, hr39, h⟩ := andx_some h;dsimp only at h;obtain ⟨g_10, hgg_10, hrg_10⟩ := Rdl.reif (hs := .row b3 7 [iv (qK), iv (qL), sv qM, iv (qJ), iv (qI), iv (qN), iv (qO)] :: .row b2 3 [qF, qD, qE] :: C) qV M2 (ReifL.flat encStr_tr);obtain ⟨g_11, hgg_11, hrg_11⟩ := Rdl.reif (hs := .row b3 7 [iv (qK), iv (qL), sv qM, iv (qJ), iv (qI), iv (qN), iv (qO)] :: .row b2 3 [qF, qD, qE] :: C) qU M2 (ReifL.flat qAe);obtain ⟨g_12, hgg_12, hrg_12⟩ := Rdl.reif (hs := .row b3 7 [iv (qK), iv (qL), sv qM, iv (qJ), iv (qI), iv (qN), iv (qO)] :: .row b2 3 [qF, qD, qE] :: C) qT M2 (ReifL.flat qAd);refine TO.call rfl rfl rfl rfl rfl (orcL rfl aD) (.cons (.agg (.cons (hrg_10 _) (.cons (hrg_11 _) (.cons (hrg_12 _) .nil)))) .nil) (sem_of (w_r9_Spare g_10 g_11 g_12 _ (by try rw [hgg_10]; try rw [hgg_11]; try rw [hgg_12]; exact hr39))) (zM R4 (zX R5 (zX R5 (zA R4 (zA R4 (zN ?_))))))
  show T _ _ _ _ _ _;apply T.join (r := r) (W := Unit) (fun j w => ⟨[], [(2, .ptr b2 0 3), (3, .ptr b3 0 7)], .row b3 7 [iv (qK), iv (qL), sv qM, iv (qJ), iv (qI), iv (qN), iv (qO)] :: .row b2 3 [qF, qD, qE] :: C⟩) h
  ·intro j h
   show T _ _ _ _ _ _;apply T.joinA (r := j) (W := Unit) (fun j w => ⟨[], [(2, .ptr b2 0 3), (3, .ptr b3 0 7), (50, bv j)], .row b3 7 [iv (qK), iv (qL), sv qM, iv (qJ), iv (qI), iv (qN), iv (qO)] :: .row b2 3 [qF, qD, qE] :: C⟩) h
   ·intro j h;refine zT rfl (zM R4 (zM R4 ?_));obtain ⟨y44, hr44, h⟩ := andx_some h;refine TO.callT (first := []) (cap := []) (vs := [(GSo true encI y34).v, (GSo true encI y39).v]) rfl rfl rfl rfl rfl rfl (orcN rfl) (tf_w1_Ints aD (Rdl.mono (Rdl.gs (C := C) (GSo true encI y34)) M2) (Rdl.mono (Rdl.gs (C := C) (GSo true encI y39)) M2) hr44) ?_;rintro _;refine zG (_::_::C) rfl (zV R3 (Val.not rfl) (zM R4 ?_));obtain ⟨rfl, h⟩ | ⟨rfl, h⟩ := zZ h
    ·refine zM R4 (zM R4 ?_);obtain ⟨c49, hc49⟩ := zY (¬ y34_2 = y39_2);refine zV R3 (Val.neq hc49 rfl rfl) (zP R6 (zN ?_));subst hc49;cases h;exact ⟨rfl, (), (sb .refl)⟩
    refine zO R3 (zO R3 (zO R3 (zP R6 (zN ?_))));cases h;exact ⟨rfl, (), (sb .refl)⟩
   ·rintro x50 _ h;obtain ⟨rfl, h⟩ | ⟨rfl, h⟩ := zZ h
    ·refine zC rfl (zU rfl (zA R4 (zN (zR ?_))));cases h;exact ⟨ret_ne, ⟨rfl, _, rfl, ⟨(), rfl, (pk [98,98] rfl)⟩⟩⟩
    refine zD rfl (zK ?_);cases h;exact ⟨rfl, (), (sb .refl)⟩
  ·rintro _ _ h;refine zU rfl (zV R3 (vW 1 [_,_,_] R5 R4) (zV R3 (vW 0 [_,_,_,_,_,_,_] R5 R4) ?_));obtain ⟨⟨y54, y54_2⟩, hr54, h⟩ := andx_some h;dsimp only at h;obtain ⟨g_13, hgg_13, hrg_13⟩ := Rdl.reif (hs := .row b3 7 [iv (qK), iv (qL), sv qM, iv (qJ), iv (qI), iv (qN), iv (qO)] :: .row b2 3 [qF, qD, qE] :: C) qV M2 (ReifL.flat encStr_tr);obtain ⟨g_14, hgg_14, hrg_14⟩ := Rdl.reif (hs := .row b3 7 [iv (qK), iv (qL), sv qM, iv (qJ), iv (qI), iv (qN), iv (qO)] :: .row b2 3 [qF, qD, qE] :: C) qU M2 (ReifL.flat qAe);obtain ⟨g_15, hgg_15, hrg_15⟩ := Rdl.reif (hs := .row b3 7 [iv (qK), iv (qL), sv qM, iv (qJ), iv (qI), iv (qN), iv (qO)] :: .row b2 3 [qF, qD, qE] :: C) qT M2 (ReifL.flat qAd);refine TO.call rfl rfl rfl rfl rfl (orcL rfl aD) (.cons (.agg (.cons (hrg_13 _) (.cons (hrg_14 _) (.cons (hrg_15 _) .nil)))) (.cons (.agg (.cons .lit (.cons .lit (.cons .lit (.cons .lit (.cons .lit (.cons .lit (.cons .lit .nil)))))))) .nil)) (sem_of (w_s9_Fits g_13 g_14 g_15 qK qL qM qJ qI qN qO _ (by try rw [hgg_13]; try rw [hgg_14]; try rw [hgg_15]; exact hr54))) (zM R4 (zX R5 (zX R5 (zA R4 (zA R4 (zN (zU rfl (zV R3 (vW 1 [_,_,_] R5 R4) (zV R3 (vW 0 [_,_,_,_,_,_,_] R5 R4) ?_)))))))));obtain ⟨⟨y60, y60_2⟩, hr60, h⟩ := andx_some h;dsimp only at h;obtain ⟨g_16, hgg_16, hrg_16⟩ := Rdl.reif (hs := .row b3 7 [iv (qK), iv (qL), sv qM, iv (qJ), iv (qI), iv (qN), iv (qO)] :: .row b2 3 [qF, qD, qE] :: C) qV M2 (ReifL.flat encStr_tr);obtain ⟨g_17, hgg_17, hrg_17⟩ := Rdl.reif (hs := .row b3 7 [iv (qK), iv (qL), sv qM, iv (qJ), iv (qI), iv (qN), iv (qO)] :: .row b2 3 [qF, qD, qE] :: C) qU M2 (ReifL.flat qAe);obtain ⟨g_18, hgg_18, hrg_18⟩ := Rdl.reif (hs := .row b3 7 [iv (qK), iv (qL), sv qM, iv (qJ), iv (qI), iv (qN), iv (qO)] :: .row b2 3 [qF, qD, qE] :: C) qT M2 (ReifL.flat qAd);refine TO.call rfl rfl rfl rfl rfl (orcL rfl aD) (.cons (.agg (.cons (hrg_16 _) (.cons (hrg_17 _) (.cons (hrg_18 _) .nil)))) (.cons (.agg (.cons .lit (.cons .lit (.cons .lit (.cons .lit (.cons .lit (.cons .lit (.cons .lit .nil)))))))) .nil)) (sem_of (w_r9_Fits g_16 g_17 g_18 qK qL qM qJ qI qN qO _ (by try rw [hgg_16]; try rw [hgg_17]; try rw [hgg_18]; exact hr60))) (zM R4 (zX R5 (zX R5 (zA R4 (zA R4 (zN ?_))))))
   show T _ _ _ _ _ _;apply T.join (r := r) (W := Unit) (fun j w => ⟨[], [(2, .ptr b2 0 3), (3, .ptr b3 0 7)], .row b3 7 [iv (qK), iv (qL), sv qM, iv (qJ), iv (qI), iv (qN), iv (qO)] :: .row b2 3 [qF, qD, qE] :: C⟩) h
   ·intro j h
    show T _ _ _ _ _ _;apply T.joinA (r := j) (W := Unit) (fun j w => ⟨[], [(2, .ptr b2 0 3), (3, .ptr b3 0 7), (71, bv j)], .row b3 7 [iv (qK), iv (qL), sv qM, iv (qJ), iv (qI), iv (qN), iv (qO)] :: .row b2 3 [qF, qD, qE] :: C⟩) h
    ·intro j h;refine zT rfl (zM R4 (zM R4 ?_));obtain ⟨y65, hr65, h⟩ := andx_some h;refine TO.callT (first := []) (cap := []) (vs := [(GSo true encI y54).v, (GSo true encI y60).v]) rfl rfl rfl rfl rfl rfl (orcN rfl) (tf_w1_Ints aD (Rdl.mono (Rdl.gs (C := C) (GSo true encI y54)) M2) (Rdl.mono (Rdl.gs (C := C) (GSo true encI y60)) M2) hr65) ?_;rintro _;refine zG (_::_::C) rfl (zV R3 (Val.not rfl) (zM R4 ?_));obtain ⟨rfl, h⟩ | ⟨rfl, h⟩ := zZ h
     ·refine zM R4 (zM R4 ?_);obtain ⟨c70, hc70⟩ := zY (¬ y54_2 = y60_2);refine zV R3 (Val.neq hc70 rfl rfl) (zP R6 (zN ?_));subst hc70;cases h;exact ⟨rfl, (), (sb .refl)⟩
     refine zO R3 (zO R3 (zO R3 (zP R6 (zN ?_))));cases h;exact ⟨rfl, (), (sb .refl)⟩
    ·rintro x71 _ h;obtain ⟨rfl, h⟩ | ⟨rfl, h⟩ := zZ h
     ·refine zC rfl (zU rfl (zA R4 (zN (zR ?_))));cases h;exact ⟨ret_ne, ⟨rfl, _, rfl, ⟨(), rfl, (pk [98,98] rfl)⟩⟩⟩
     refine zD rfl (zK ?_);cases h;exact ⟨rfl, (), (sb .refl)⟩
   ·rintro _ _ h;refine zU rfl (zV R3 (vW 1 [_,_,_] R5 R4) (zV R3 (vW 0 [_,_,_,_,_,_,_] R5 R4) ?_));obtain ⟨⟨y75, y75_2, y75_3, y75_4, y75_5⟩, hr75, h⟩ := andx_some h;dsimp only at h;obtain ⟨g_19, hgg_19, hrg_19⟩ := Rdl.reif (hs := .row b3 7 [iv (qK), iv (qL), sv qM, iv (qJ), iv (qI), iv (qN), iv (qO)] :: .row b2 3 [qF, qD, qE] :: C) qV M2 (ReifL.flat encStr_tr);obtain ⟨g_20, hgg_20, hrg_20⟩ := Rdl.reif (hs := .row b3 7 [iv (qK), iv (qL), sv qM, iv (qJ), iv (qI), iv (qN), iv (qO)] :: .row b2 3 [qF, qD, qE] :: C) qU M2 (ReifL.flat qAe);obtain ⟨g_21, hgg_21, hrg_21⟩ := Rdl.reif (hs := .row b3 7 [iv (qK), iv (qL), sv qM, iv (qJ), iv (qI), iv (qN), iv (qO)] :: .row b2 3 [qF, qD, qE] :: C) qT M2 (ReifL.flat qAd);refine TO.call rfl rfl rfl rfl rfl (orcL rfl aD) (.cons (.agg (.cons (hrg_19 _) (.cons (hrg_20 _) (.cons (hrg_21 _) .nil)))) (.cons (.agg (.cons .lit (.cons .lit (.cons .lit (.cons .lit (.cons .lit (.cons .lit (.cons .lit .nil)))))))) .nil)) (sem_of (w_s9_Put g_19 g_20 g_21 qK qL qM qJ qI qN qO _ (by try rw [hgg_19]; try rw [hgg_20]; try rw [hgg_21]; exact hr75))) (zM R4 (zX R5 (zX R5 (zX R5 (zX R5 (zA R4 (zA R4 (zA R4 (zA R4 (zN (zU rfl (zV R3 (vW 1 [_,_,_] R5 R4) (zV R3 (vW 0 [_,_,_,_,_,_,_] R5 R4) ?_)))))))))))));obtain ⟨⟨y83, y83_2, y83_3, y83_4⟩, hr83, h⟩ := andx_some h;dsimp only at h;obtain ⟨g_22, hgg_22, hrg_22⟩ := Rdl.reif (hs := .row b3 7 [iv (qK), iv (qL), sv qM, iv (qJ), iv (qI), iv (qN), iv (qO)] :: .row b2 3 [qF, qD, qE] :: C) qV M2 (ReifL.flat encStr_tr);obtain ⟨g_23, hgg_23, hrg_23⟩ := Rdl.reif (hs := .row b3 7 [iv (qK), iv (qL), sv qM, iv (qJ), iv (qI), iv (qN), iv (qO)] :: .row b2 3 [qF, qD, qE] :: C) qU M2 (ReifL.flat qAe);obtain ⟨g_24, hgg_24, hrg_24⟩ := Rdl.reif (hs := .row b3 7 [iv (qK), iv (qL), sv qM, iv (qJ), iv (qI), iv (qN), iv (qO)] :: .row b2 3 [qF, qD, qE] :: C) qT M2 (ReifL.flat qAd);refine TO.call rfl rfl rfl rfl rfl (orcL rfl aD) (.cons (.agg (.cons (hrg_22 _) (.cons (hrg_23 _) (.cons (hrg_24 _) .nil)))) (.cons (.agg (.cons .lit (.cons .lit (.cons .lit (.cons .lit (.cons .lit (.cons .lit (.cons .lit .nil)))))))) .nil)) (sem_of (w_r9_Put g_22 g_23 g_24 qK qL qM qJ qI qN qO _ (by try rw [hgg_22]; try rw [hgg_23]; try rw [hgg_24]; exact hr83))) (zM R4 (zX R5 (zX R5 (zX R5 (zX R5 (zA R4 (zA R4 (zA R4 (zA R4 (zN ?_))))))))))
    show T _ _ _ _ _ _;apply T.joinA (r := r) (W := Unit) (fun j w => ⟨[], [(4, bv j)], .row b3 7 [iv (qK), iv (qL), sv qM, iv (qJ), iv (qI), iv (qN), iv (qO)] :: .row b2 3 [qF, qD, qE] :: C⟩) h
    ·intro j h;refine zT rfl (zM R4 (zM R4 ?_));obtain ⟨c90, hc90⟩ := zY (y75 = y83);refine zV R3 (Val.eql hc90 rfl rfl) (zM R4 ?_);obtain ⟨rfl, hc90, h⟩ | ⟨rfl, hc90, h⟩ := zI hc90 h
     ·refine zM R4 (zM R4 ?_);obtain ⟨c94, hc94⟩ := zY (y75_2 = y83_2);refine zV R3 (Val.eql hc94 rfl rfl) (zP R6 (zM R4 ?_));obtain ⟨rfl, hc94, h⟩ | ⟨rfl, hc94, h⟩ := zI hc94 h
      ·refine zM R4 (zM R4 ?_);obtain ⟨y99, hr99, h⟩ := andx_some h;refine TO.callT (first := []) (cap := []) (vs := [(GSo y75_4 encI y75_3).v, (GSo true encI y83_3).v]) rfl rfl rfl rfl rfl rfl (orcN rfl) (tf_w1_Ints aD (Rdl.mono (Rdl.gs (C := C) (GSo y75_4 encI y75_3)) M2) (Rdl.mono (Rdl.gs (C := C) (GSo true encI y83_3)) M2) hr99) ?_;rintro _;refine zG (_::_::C) rfl (zP R6 (zM R4 ?_));obtain ⟨rfl, h⟩ | ⟨rfl, h⟩ := zZ h
       ·refine zM R4 (zM R4 ?_);obtain ⟨c104, hc104⟩ := zY (y75_5 = y83_4);refine zV R3 (Val.eql hc104 rfl rfl) (zP R6 (zM R4 ?_));obtain ⟨rfl, hc104, h⟩ | ⟨rfl, hc104, h⟩ := zI hc104 h
        ·refine TO.call rfl rfl rfl rfl rfl orcA .nil rfl (zP R6 (zA R4 (zN ?_)));cases h;exact ⟨rfl, (), (sb .refl)⟩
        refine zO R3 (zP R6 (zA R4 (zN ?_)));cases h;exact ⟨rfl, (), (sb .refl)⟩
       refine zO R3 (zO R3 (zO R3 (zP R6 (zM R4 (zO R3 (zP R6 (zA R4 (zN ?_))))))));cases h;exact ⟨rfl, (), (sb .refl)⟩
      refine zO R3 (zO R3 (zO R3 (zP R6 (zM R4 (zO R3 (zO R3 (zO R3 (zP R6 (zM R4 (zO R3 (zP R6 (zA R4 (zN ?_)))))))))))));cases h;exact ⟨rfl, (), (sb .refl)⟩
     refine zO R3 (zO R3 (zO R3 (zP R6 (zM R4 (zO R3 (zO R3 (zO R3 (zP R6 (zM R4 (zO R3 (zO R3 (zO R3 (zP R6 (zM R4 (zO R3 (zP R6 (zA R4 (zN ?_))))))))))))))))));cases h;exact ⟨rfl, (), (sb .refl)⟩
    ·rintro x4 _ h;refine zR ?_;cases h;exact ⟨rfl, _, rfl, ⟨(), rfl, (pk [98,98] rfl)⟩⟩
theorem w_law_ShelfPuts (qG : GS encStr) (qC : GS qW) (qB : GS qP) (qK : Int) (qL : Int) (qM : Str) (qJ : Int) (qI : Int) (qN : Int) (qO : Int) (r : Bool) (h : P_law_ShelfPuts qG.l qC.l qB.l qK qL qM qJ qI qN qO = some r) : Comes (EL 3) 4 [.agg [qG.v, qC.v, qB.v], .agg [iv (qK), iv (qL), sv qM, iv (qJ), iv (qI), iv (qN), iv (qO)]] (bv r) :=
 TF.run (tf_law_ShelfPuts (Nat.le_refl _) (RdT.gs qG) (RdT.gs qC) (RdT.gs qB) h) fun w => .lit
end Go.Am.YtiaolgbmbhldgaaGreatDoor
end
