/- Part 2. -/
import Derived.Test.YthckcbfijdambaaCopyWholeP1
import Derived.Shelf.SlSortCmp.Whole1
import Derived.Shelf.SlSortCmp.NoneTotal
import Derived.Shelf.Lay
import Derived.Shelf.SlGeneric
import Derived.Ground.SlsfProg
import Derived.Test.YthckcbfijdambaaCopyWholeP0
section
namespace Go.Am
open Go.RowKit
set_option linter.unusedVariables false
set_option linter.unusedSimpArgs false
noncomputable def findIx (k : Value) : List MapEntry → Nat → Option (Nat × Value)
 | [], _ => none
 | e :: es, i => @ite _ (e.key = k) (Classical.propDecidable _) (some (i, e.val)) (findIx k es (i + 1))
def KeyG (P : Program) (kt : TypeId) (KP : Value → Prop) : Prop := ∀ k, KP k → (∀ e, pureVal P (Instr.checkKey e 10000 kt k) = some ()) ∧ Instr.sameBits 10000 k k = true ∧
 ∀ es : List MapEntry, (∀ e ∈ es, KP e.key) → pureVal P (Instr.findKey kt k es) = some (findIx k es 0)
def KInt (k : Value) : Prop := ∃ n : Int, k = .int .i64 n
def KPair (k : Value) : Prop := ∃ a b : Int, k = .agg #[.int .i64 a, .int .i64 b]
theorem findNow_int {kk : IntKind} {n : Int} : ∀ (es : List MapEntry) (i : Nat), (∀ e ∈ es, KInt e.key) → Instr.findNow (.int kk) (.int .i64 n) es i = some (findIx (.int .i64 n) es i) := by
 intro es
 induction es with
 | nil => intro i _; rfl
 | cons e es ih =>
  intro i h;obtain ⟨m, hm⟩ := h e (by simp)
  have ih' := ih (i + 1) fun e he => h e (by simp [he])
  unfold Instr.findNow findIx;rw [hm]
  by_cases hnm : n = m
  ·subst hnm;simp [Instr.sameNow]
  ·have h1 : ¬ m = n := fun e => hnm e.symm
   have h2 : (n == m) = false := by simp [hnm]
   simp [Instr.sameNow, h2, h1, ih']
theorem keyInt {P : Program} {kt : TypeId} {kk : IntKind} (hu : pureVal P (underlying kt) = some (.int kk)) : KeyG P kt KInt := by
 rintro _ ⟨n, rfl⟩;refine ⟨fun e => ?_, by rw [show (10000 : Nat) = 9999 + 1 from rfl]; simp [Instr.sameBits], fun es hes => ?_⟩
 ·rw [show (10000 : Nat) = 9999 + 1 from rfl];unfold Instr.checkKey;rw [pv_bind, hu];rfl
 ·unfold Instr.findKey;rw [pv_bind, hu, Option.bind_some, findNow_int es 0 hes];rfl
theorem findAsking_pair {P : Program} {kt : TypeId} {a b : Int} (heq : ∀ c d : Int, pureVal P (Op.equal kt (.agg #[.int .i64 a, .int .i64 b]) (.agg #[.int .i64 c, .int .i64 d])) = some (a == c && b == d)) : ∀ (es : List MapEntry) (i : Nat), (∀ e ∈ es, KPair e.key) →
  pureVal P (Instr.findAsking kt (.agg #[.int .i64 a, .int .i64 b]) es i) = some (findIx (.agg #[.int .i64 a, .int .i64 b]) es i) := by
 intro es
 induction es with
 | nil => intro i _; rfl
 | cons e es ih =>
  intro i h;obtain ⟨c, d, hm⟩ := h e (by simp)
  have ih' := ih (i + 1) fun e he => h e (by simp [he])
  unfold Instr.findAsking findIx;rw [hm, pv_bind, heq c d, Option.bind_some]
  by_cases hcd : a = c ∧ b = d
  ·obtain ⟨rfl, rfl⟩ := hcd;simp [pureVal, pv_pure]
  ·have h1 : (a == c && b == d) = false := by
    cases hb : (a == c && b == d) with
    | false => rfl
    | true => simp at hb; exact absurd hb hcd
   have h2 : ¬ (Value.agg #[.int .i64 c, .int .i64 d] = Value.agg #[.int .i64 a, .int .i64 b]) := fun e => by
    simp at e;exact hcd ⟨e.1.symm, e.2.symm⟩
   rw [h1, if_neg h2];exact ih'
theorem keyPair {P : Program} {kt : TypeId} {fs : Array Field} (hu : pureVal P (underlying kt) = some (.struct fs)) (hc : ∀ (a b : Int) e, pureVal P (Instr.checkKey e 10000 kt (.agg #[.int .i64 a, .int .i64 b])) = some ())
  (heq : ∀ a b c d : Int, pureVal P (Op.equal kt (.agg #[.int .i64 a, .int .i64 b]) (.agg #[.int .i64 c, .int .i64 d])) = some (a == c && b == d)) : KeyG P kt KPair := by
 rintro _ ⟨a, b, rfl⟩;refine ⟨fun e => hc a b e, by rw [show (10000 : Nat) = 9999 + 1 from rfl]; simp [Instr.sameBits], fun es hes => ?_⟩;unfold Instr.findKey;rw [pv_bind, hu, Option.bind_some];cases es with
 | nil => rfl
 | cons e es =>
  obtain ⟨c, d, hm⟩ := hes e (by simp)
  have h1 : Instr.findNow (.struct fs) (.agg #[.int .i64 a, .int .i64 b]) (e :: es) 0 = none := by
   unfold Instr.findNow;rw [hm];rfl
  rw [h1];exact findAsking_pair (heq a b) _ 0 hes
abbrev ents (l : List (Value × Int × Nat)) : List (Value × AV × Nat) := l.map fun e => (e.1, .lit (.int .i64 e.2.1), e.2.2)
theorem findIx_spec {k : Value} : ∀ (l : List (Value × Int × Nat)) (i : Nat), (l.map (·.1)).Nodup → (∃ j e, findIx k (keysOf (ents l)) i = some (i + j, undef) ∧ l[j]? = some e ∧ e.1 = k ∧ lkp l k = e.2.1) ∨ (findIx k (keysOf (ents l)) i = none ∧ (∀ e ∈ l, e.1 ≠ k) ∧ lkp l k = 0) := by
  intro l
  induction l with
  | nil => intro i _; exact .inr ⟨rfl, by simp, rfl⟩
  | cons e l ih =>
    intro i hn
    rw [List.map_cons] at hn
    have hn' := List.nodup_cons.1 hn
    simp only [ents, keysOf, List.map_cons, findIx, lkp]
    by_cases he : e.1 = k
    · refine .inl ⟨0, e, ?_, rfl, he, ?_⟩
      · rw [if_pos he]; rfl
      · rw [if_pos he]
    · rw [if_neg he, if_neg he]
      rcases ih (i + 1) hn'.2 with ⟨j, e', h1, h2, h3, h4⟩ | ⟨h1, h2, h3⟩
      · exact .inl ⟨j + 1, e', by rw [show i + (j + 1) = i + 1 + j by omega]; exact h1, by simpa using h2, h3, h4⟩
      · exact .inr ⟨h1, fun x hx => by
          rcases List.mem_cons.1 hx with rfl | hx
          · exact he
          · exact h2 x hx, h3⟩
theorem findAt_spec {E : Env} {kt : TypeId} {KP : Value → Prop} (hK : KeyG E.P kt KP) {k : Value} (hk : KP k) {l : List (Value × Int × Nat)} (hl : ∀ e ∈ l, KP e.1) (hn : (l.map (·.1)).Nodup) (em : Bool) :
    (∃ j e, findAt E kt k (ents l) em = .ok (some j) ∧ l[j]? = some e ∧ e.1 = k ∧ lkp l k = e.2.1) ∨ (findAt E kt k (ents l) em = .ok none ∧ (∀ e ∈ l, e.1 ≠ k) ∧ lkp l k = 0) := by
  obtain ⟨h1, h2, h3⟩ := hK k hk
  have h4 := h3 (keysOf (ents l)) (by
    intro e he
    simp only [keysOf, ents, List.map_map, List.mem_map] at he
    obtain ⟨x, hx, rfl⟩ := he
    exact hl x hx)
  unfold findAt
  rw [h1 em]
  simp only [ofOpt, Except.bind, h4]
  rcases findIx_spec l 0 hn with ⟨j, e, k1, k2, k3, k4⟩ | ⟨k1, k2, k3⟩
  · exact .inl ⟨j, e, by rw [k1]; simp, k2, k3, k4⟩
  · exact .inr ⟨by rw [k1]; rfl, k2, k3⟩
section
variable {E : Env} {d : Bool} {n : Nat} {rnd : Option Nat} {ops : Array Oper} {i : Nat} {ns : List Nat} {ms : List Nat} {σ : Sl} {hs hs' : List Thing} {Q : Sy → Prop} {t : Tmp} {op : Op} {ty : TypeId} {pos : String} {af : Array Edge} {g : Option (Nat × Bool)}
variable {KP : Value → Prop} {f : Value → Int} {mk : List (Value × Nat)}
theorem Val.lookup {mt kt et p id : Nat} {x y : Operand} {kv : AV} {key : Value} (hp : hs[p]? = some (.cnt id KP f mk)) (ht : E.und mt = some (.map kt et)) (hK : KeyG E.P kt KP) (hz : E.zro et = some (.int .i64 0)) (hx : evs σ x = some (.map id)) (hy : evs σ y = some kv)
  (hkv : toV 4 kv = .ok key) (hk : KP key) : Val E σ hs (.lookup mt x y false) (iv (f key)) := fun ev S he hS o ho => by
 obtain ⟨l, c, h1, h2, h3, h4, h5, h6⟩ : IsCnt S id KP f mk := hS.ok _ (List.mem_of_getElem? hp);unfold aop; rw [ho];simp only [he _ _ hx, he _ _ hy, alookup, ht, ofOpt, Except.bind, entriesOf, mapOf, h1, hkv]
 rcases findAt_spec hK hk (fun e he => (h2 e he).1) h3 (ents l).isEmpty with ⟨j, e, k1, k2, k3, k4⟩ | ⟨k1, k2, k3⟩
 ·simp only [k1, List.getElem?_map, k2, Option.map_some, cond_false, h5, k4];rfl
 ·simp only [k1, hz, cond_false, h5, k3];rfl
theorem setAt_ents (l : List (Value × Int × Nat)) (j : Nat) (e : Value × Int × Nat) : setAt (ents l) j (e.1, .lit (.int .i64 e.2.1), e.2.2) = ents (setAt l j e) := by
 induction l generalizing j with
 | nil => rfl
 | cons a l ih =>
  cases j with
  | zero => rfl
  | succ j => exact congrArg (List.cons _) (ih j)
theorem setAt_map {α β : Type} (g : α → β) : ∀ (l : List α) (j : Nat) (e e' : α), l[j]? = some e → g e' = g e → (setAt l j e').map g = l.map g := by
 intro l
 induction l with
 | nil => intro j e e' h; simp at h
 | cons a l ih =>
  intro j e e' h hg;cases j with
  | zero => simp at h; subst h; simp [setAt, hg]
  | succ j => simp at h; simp [setAt, ih j e e' h hg]
theorem setAt_mem {α : Type} : ∀ {l : List α} {j : Nat} {e x : α}, x ∈ setAt l j e → x = e ∨ x ∈ l := by
 intro l
 induction l with
 | nil => intro j e x h; simp [setAt] at h
 | cons a l ih =>
  intro j e x h;cases j with
  | zero => simp [setAt] at h; rcases h with h | h; exact .inl h; exact .inr (by simp [h])
  | succ j =>
   simp [setAt] at h
   rcases h with h | h
   ·exact .inr (by simp [h])
   ·exact (ih h).imp id fun h => by simp [h]
theorem setAt_memOf {α : Type} : ∀ {l : List α} {j : Nat} {e e' : α}, l[j]? = some e → e' ∈ setAt l j e' := by
 intro l
 induction l with
 | nil => intro j e e' h; simp at h
 | cons a l ih =>
  intro j e e' h;cases j with
  | zero => simp [setAt]
  | succ j => simp at h; simp [setAt, ih h]
theorem lkp_setAt {k : Value} {m : Int} : ∀ {l : List (Value × Int × Nat)} {j : Nat} {e : Value × Int × Nat}, l[j]? = some e → e.1 = k → (l.map (·.1)).Nodup → ∀ k', lkp (setAt l j (k, m, e.2.2)) k' = @ite _ (k' = k) (Classical.propDecidable _) m (lkp l k') := by
 intro l
 induction l with
 | nil => intro j e h; simp at h
 | cons a l ih =>
  intro j e h hek hn k';rw [List.map_cons] at hn
  have hn' := List.nodup_cons.1 hn;cases j with
  | zero =>
   simp at h;subst h;simp only [setAt, lkp]
   by_cases hk' : k' = k
   ·subst hk'; rw [if_pos rfl, if_pos rfl]
   ·have h1 : ¬ k = k' := fun e => hk' e.symm
    have h2 : ¬ a.1 = k' := fun e => hk' (by rw [← e, hek])
    rw [if_neg h1, if_neg hk', if_neg h2]
  | succ j =>
   simp at h;simp only [setAt, lkp]
   have hne : ¬ a.1 = k := fun e0 => hn'.1 (by rw [e0, ← hek]; exact List.mem_map_of_mem (List.mem_of_getElem? h))
   rw [ih h hek hn'.2 k']
   by_cases ha : a.1 = k'
   ·have : ¬ k' = k := fun e => hne (ha.trans e)
    rw [if_pos ha, if_neg this, if_pos ha]
   ·rw [if_neg ha, if_neg ha]
theorem lkp_append {k : Value} {m : Int} {c : Nat} : ∀ {l : List (Value × Int × Nat)}, (∀ e ∈ l, e.1 ≠ k) → ∀ k', lkp (l ++ [(k, m, c)]) k' = @ite _ (k' = k) (Classical.propDecidable _) m (lkp l k') := by
 intro l
 induction l with
 | nil =>
  intro _ k';simp only [List.nil_append, lkp]
  by_cases h : k' = k
  ·subst h; simp
  ·have : ¬ k = k' := fun e => h e.symm
   simp [this, h]
 | cons a l ih =>
  intro h k'
  have ha := h a (by simp);simp only [List.cons_append, lkp];rw [ih (fun e he => h e (by simp [he])) k']
  by_cases h1 : a.1 = k'
  ·have : ¬ k' = k := fun e => ha (h1.trans e)
   rw [if_pos h1, if_neg this, if_pos h1]
  ·rw [if_neg h1, if_neg h1]
noncomputable def cput (f : Value → Int) (k : Value) (m : Int) : Value → Int := fun k' => @ite _ (k' = k) (Classical.propDecidable _) m (f k')
theorem isCnt_set {S : St} {id : Nat} {l : List (Value × Int × Nat)} {c j : Nat} {e : Value × Int × Nat} {k : Value} {m : Int} (h2 : ∀ e ∈ l, KP e.1 ∧ e.2.2 < c) (h3 : (l.map (·.1)).Nodup) (h4 : (l.map (·.2.2)).Nodup) (h5 : ∀ k, f k = lkp l k)
  (hj : l[j]? = some e) (he : e.1 = k) : IsCnt (S.write id (.map (ents (setAt l j (k, m, e.2.2))) c)) id KP (cput f k m) [] := by
 refine ⟨setAt l j (k, m, e.2.2), c, by rw [write_get, if_pos rfl], fun x hx => ?_, ?_, ?_, fun k' => ?_, fun p hp => by simp at hp⟩
 ·rcases setAt_mem hx with rfl | hx
  ·have := h2 e (List.mem_of_getElem? hj);rw [he] at this;exact this
  ·exact h2 x hx
 ·rw [setAt_map (·.1) l j e _ hj he.symm]; exact h3
 ·rw [setAt_map (·.2.2) l j e (k, m, e.2.2) hj rfl]; exact h4
 ·rw [lkp_setAt hj he h3]; simp only [cput, h5]
theorem isCnt_append {S : St} {id : Nat} {l : List (Value × Int × Nat)} {c : Nat} {k : Value} {m : Int} (hk : KP k) (h2 : ∀ e ∈ l, KP e.1 ∧ e.2.2 < c) (h3 : (l.map (·.1)).Nodup) (h4 : (l.map (·.2.2)).Nodup) (h5 : ∀ k, f k = lkp l k)
  (hne : ∀ e ∈ l, e.1 ≠ k) : IsCnt (S.write id (.map (ents (l ++ [(k, m, c)])) (c + 1))) id KP (cput f k m) [(k, c)] := by
 refine ⟨l ++ [(k, m, c)], c + 1, by rw [write_get, if_pos rfl], fun x hx => ?_, ?_, ?_, fun k' => ?_, fun p hp => ?_⟩
 ·rcases List.mem_append.1 hx with hx | hx
  ·exact ⟨(h2 x hx).1, by have := (h2 x hx).2; omega⟩
  ·simp at hx; subst hx; exact ⟨hk, Nat.lt_succ_self c⟩
 ·rw [List.map_append, List.nodup_append];refine ⟨h3, by simp, fun a ha b hb => ?_⟩;obtain ⟨x, hx, rfl⟩ := List.mem_map.1 ha;simp at hb;subst hb;exact hne x hx
 ·rw [List.map_append, List.nodup_append];refine ⟨h4, by simp, fun a ha b hb => ?_⟩;obtain ⟨x, hx, rfl⟩ := List.mem_map.1 ha;simp at hb;subst hb
  have := (h2 x hx).2;omega
 ·rw [lkp_append hne]; simp only [cput, h5]
 ·simp at hp; subst hp; exact ⟨m, by simp⟩
theorem IsCnt.less {S : St} {id : Nat} (h : IsCnt S id KP f mk) : IsCnt S id KP f [] := by
 obtain ⟨l, c, h1, h2, h3, h4, h5, h6⟩ := h;exact ⟨l, c, h1, h2, h3, h4, h5, fun p hp => by simp at hp⟩
theorem ents_append (l : List (Value × Int × Nat)) (k : Value) (m : Int) (c : Nat) : ents l ++ [(k, .lit (.int .i64 m), c)] = ents (l ++ [(k, m, c)]) := by simp [ents]
theorem Eff.mapUpdate {mt kt et p id : Nat} {x y z : Operand} {kv : AV} {key : Value} {m : Int} (hp : hs[p]? = some (.cnt id KP f mk)) (ht : E.und mt = some (.map kt et)) (hK : KeyG E.P kt KP) (hx : evs σ x = some (.map id)) (hy : evs σ y = some kv)
  (hkv : toV 4 kv = .ok key) (hk : KP key) (hv : evs σ z = some (iv m)) : Eff E σ hs (.mapUpdate mt x y z) fun _ hs' => hs' = hs.set p (.cnt id KP (cput f key m) []) := fun ev S he hS o ho => by
 obtain ⟨l, c, h1, h2, h3, h4, h5, h6⟩ : IsCnt S id KP f mk := hS.ok _ (List.mem_of_getElem? hp)
 have hb := (hK key hk).2.1
 rcases findAt_spec hK hk (fun e he => (h2 e he).1) h3 false with ⟨j, e, k1, k2, k3, k4⟩ | ⟨k1, k2, k3⟩
 ·refine ⟨undefA, S.write id (.map (ents (setAt l j (key, m, e.2.2))) c), _, ?_, hS.writeAt hp (y := .cnt id KP (cput f key m) []) (i := id) rfl rfl (isCnt_set h2 h3 h4 h5 k2 k3), rfl⟩;unfold aop; rw [ho];simp only [he _ _ hx, he _ _ hy, he _ _ hv, aupdate, ht, ofOpt, Except.bind, mapOf, h1, hkv, k1, List.getElem?_map, k2, Option.map_some, k3, hb, cond_true];rw [← setAt_ents l j (key, m, e.2.2)];rfl
 ·refine ⟨undefA, S.write id (.map (ents (l ++ [(key, m, c)])) (c + 1)), _, ?_, hS.writeAt hp (y := .cnt id KP (cput f key m) []) (i := id) rfl rfl (isCnt_append hk h2 h3 h4 h5 k2).less, rfl⟩;unfold aop; rw [ho];simp only [he _ _ hx, he _ _ hy, he _ _ hv, aupdate, ht, ofOpt, Except.bind, mapOf, h1, hkv, k1];rw [← ents_append];rfl
theorem findBorn_spec {k : Value} {n : Int} {b : Nat} : ∀ (l : List (Value × Int × Nat)) (i : Nat), (l.map (·.2.2)).Nodup → (k, n, b) ∈ l → ∃ j, findBorn (b : Int) (ents l) i = some (i + j) ∧ l[j]? = some (k, n, b) := by
 intro l
 induction l with
 | nil => intro i _ h; simp at h
 | cons e l ih =>
  intro i hn h;rw [List.map_cons] at hn
  have hn' := List.nodup_cons.1 hn;simp only [ents, List.map_cons, findBorn]
  rcases List.mem_cons.1 h with rfl | h
  ·refine ⟨0, ?_, rfl⟩;simp
  ·have hne : ¬ e.2.2 = b := fun e0 => hn'.1 (by rw [e0]; exact List.mem_map.2 ⟨_, h, rfl⟩)
   have h1 : (((e.2.2 : Nat) : Int) == (b : Int)) = false := by simp; omega
   obtain ⟨j, h2, h3⟩ := ih (i + 1) hn'.2 h;refine ⟨j + 1, ?_, by simpa using h3⟩;rw [h1];rw [show i + (j + 1) = i + 1 + j by omega];exact h2
theorem Eff.mapEntry {mt kt et p id : Nat} {x y : Operand} {kv : AV} {key : Value} (hp : hs[p]? = some (.cnt id KP f mk)) (ht : E.und mt = some (.map kt et)) (hK : KeyG E.P kt KP) (hz : E.zro et = some (.int .i64 0)) (hx : evs σ x = some (.map id)) (hy : evs σ y = some kv)
  (hkv : toV 4 kv = .ok key) (hk : KP key) : Eff E σ hs (.mapEntry mt x y) fun v hs' => ∃ b : Nat, v = .tuple [iv (f key), iv b] ∧ hs' = hs.set p (.cnt id KP f [(key, b)]) := fun ev S he hS o ho => by
 obtain ⟨l, c, h1, h2, h3, h4, h5, h6⟩ : IsCnt S id KP f mk := hS.ok _ (List.mem_of_getElem? hp)
 have hb := (hK key hk).2.1
 rcases findAt_spec hK hk (fun e he => (h2 e he).1) h3 false with ⟨j, e, k1, k2, k3, k4⟩ | ⟨k1, k2, k3⟩
 ·have hcp : cput f key e.2.1 = f := by
   funext k'
   by_cases hk' : k' = key
   ·simp only [cput]; rw [if_pos hk', hk', h5, k4]
   ·simp only [cput]; rw [if_neg hk']
  obtain ⟨l', c', q1, q2, q3, q4, q5, q6⟩ := isCnt_set (S := S) (id := id) (f := f) (m := e.2.1) h2 h3 h4 h5 k2 k3;refine ⟨_, S.write id (.map (ents (setAt l j (key, e.2.1, e.2.2))) c), _, ?_, hS.writeAt hp (y := .cnt id KP f [(key, e.2.2)]) (i := id) rfl rfl ⟨setAt l j (key, e.2.1, e.2.2), c, by rw [write_get, if_pos rfl], ?_, ?_, ?_, ?_, ?_⟩, e.2.2, rfl, rfl⟩
  ·unfold aop; rw [ho];simp only [he _ _ hx, he _ _ hy, aentry, ht, ofOpt, Except.bind, mapOf, h1, hkv, k1, List.getElem?_map, k2, Option.map_some, k3, hb, cond_true];rw [← setAt_ents l j (key, e.2.1, e.2.2), h5, k4];rfl
  ·intro x hx
   rcases setAt_mem hx with rfl | hx
   ·have := h2 e (List.mem_of_getElem? k2);rw [k3] at this;exact this
   ·exact h2 x hx
  ·rw [setAt_map (·.1) l j e _ k2 k3.symm]; exact h3
  ·rw [setAt_map (·.2.2) l j e (key, e.2.1, e.2.2) k2 rfl]; exact h4
  ·intro k';rw [lkp_setAt k2 k3 h3, ← hcp];simp only [cput, h5]
  ·intro q hq;simp at hq;subst hq;exact ⟨e.2.1, setAt_memOf k2⟩
 ·have hcp : cput f key 0 = f := by
   funext k'
   by_cases hk' : k' = key
   ·simp only [cput]; rw [if_pos hk', hk', h5, k3]
   ·simp only [cput]; rw [if_neg hk']
  refine ⟨_, S.write id (.map (ents (l ++ [(key, 0, c)])) (c + 1)), _, ?_, hS.writeAt hp (y := .cnt id KP f [(key, c)]) (i := id) rfl rfl (by rw [← hcp]; exact isCnt_append hk h2 h3 h4 h5 k2), c, rfl, rfl⟩;unfold aop; rw [ho];simp only [he _ _ hx, he _ _ hy, aentry, ht, ofOpt, Except.bind, mapOf, h1, hkv, k1, hz];rw [← ents_append, h5, k3];rfl
theorem Eff.entryStore {mt p id b : Nat} {x y z : Operand} {key : Value} {m : Int} (hp : hs[p]? = some (.cnt id KP f mk)) (hm : (key, b) ∈ mk) (hx : evs σ x = some (.map id)) (hy : evs σ y = some (iv b))
  (hv : evs σ z = some (iv m)) : Eff E σ hs (.entryStore mt x y z) fun _ hs' => hs' = hs.set p (.cnt id KP (cput f key m) []) := fun ev S he hS o ho => by
 obtain ⟨l, c, h1, h2, h3, h4, h5, h6⟩ : IsCnt S id KP f mk := hS.ok _ (List.mem_of_getElem? hp);obtain ⟨n0, hn0⟩ := h6 _ hm;obtain ⟨j, k1, k2⟩ := findBorn_spec l 0 h4 hn0;rw [Nat.zero_add] at k1;refine ⟨undefA, S.write id (.map (ents (setAt l j (key, m, b))) c), _, ?_, hS.writeAt hp (y := .cnt id KP (cput f key m) []) (i := id) rfl rfl (isCnt_set (e := (key, n0, b)) h2 h3 h4 h5 k2 rfl), rfl⟩;unfold aop; rw [ho];simp only [he _ _ hx, he _ _ hy, he _ _ hv, aentryStore, ofOpt, Except.bind, mapOf, h1, intOf?, k1, List.getElem?_map, k2, Option.map_some];rw [← setAt_ents l j (key, m, b)];rfl
theorem TO.makeMap {mt : Nat} (KP : Value → Prop) (ho : ops[i]? = some ⟨some t, .makeMap mt none, ty, pos, af, g⟩) (hd : Nat.blt t n = true) (hw : wantS ops σ g = some true)
  (c : ∀ id, TO E false n rnd ops ns ⟨ms, (t, .map id) :: σ, .cnt id KP (fun _ => 0) [] :: hs⟩ Q) : TO E false n rnd ops (i :: ns) ⟨ms, σ, hs⟩ Q := by
 refine TO.eff (K := fun v hs' => ∃ id, v = .map id ∧ hs' = .cnt id KP (fun _ => 0) [] :: hs) ho hd hw (fun ev S he hS o ho => ?_) (fun v hs' ⟨id, h1, h2⟩ => by subst h1; subst h2; exact c id);refine ⟨_, S.new (.map [] 0), _, ?_, hS.new _ (x := .cnt S.next KP (fun _ => 0) []) ⟨[], 0, by rw [St.new_get, if_pos rfl]; rfl, by simp, by simp, by simp, fun k => rfl, by simp⟩ (fun i hi => by cases hi; rfl), S.next, rfl, rfl⟩;unfold aop; rw [ho];rfl
end
end Go.Am
end
section
namespace Go.Am
open Go.RowKit
set_option linter.unusedVariables false
set_option linter.unusedSimpArgs false
theorem all_nil {α : Type} {p : α → Prop} : ∀ x ∈ ([] : List α), p x := fun _ h => absurd h (by simp)
theorem all_cons {α : Type} {p : α → Prop} {a : α} {l : List α} (h : p a) (hl : ∀ x ∈ l, p x) : ∀ x ∈ a :: l, p x := fun x hx => by
 rcases List.mem_cons.1 hx with rfl | hx
 ·exact h
 ·exact hl x hx
section
variable {E : Env} {d : Bool} {n : Nat} {rnd : Option Nat} {ops : Array Oper} {i : Nat} {l l1 l2 : List Nat} {ms : List Nat} {σ : Sl} {hs hs' : List Thing} {Q : Sy → Prop} {t : Tmp} {op : Op} {ty : TypeId} {pos : String} {af : Array Edge} {g : Option (Nat × Bool)}
variable {past : List (Nat × List Thing)} {seen : List Rd} {fl : List Fl}
theorem TD2.things (he : hs = hs') (h : TD2 E n rnd ops l ⟨ms, σ, hs'⟩ past seen fl Q) : TD2 E n rnd ops l ⟨ms, σ, hs⟩ past seen fl Q := he ▸ h
theorem TD1.things (he : hs = hs') (h : TD1 E n rnd ops l1 l2 ⟨ms, σ, hs'⟩ seen fl Q) : TD1 E n rnd ops l1 l2 ⟨ms, σ, hs⟩ seen fl Q := he ▸ h
def isIfaceT : TypeDesc → Bool | .interface _ => true | _ => false
theorem Val.makeIface {it : TypeId} {x : Operand} {v : AV} {dd : TypeDesc} (hx : evs σ x = some v) (hd : E.und it = some dd) (hn : isIfaceT dd = false) : Val E σ hs (.makeInterface it x) (.iface it v) := fun ev S he hS o ho => by
 unfold aop; rw [ho];simp only [he _ _ hx, amakeIface, hd, ofOpt, Except.bind, valOf];cases dd <;> first | rfl | simp [isIfaceT] at hn
theorem Val.assert_yes {x : Operand} {it at_ k : TypeId} {v : AV} {dd : TypeDesc} (hx : evs σ x = some (.iface k v)) (hd : E.und at_ = some dd) (hn : isIfaceT dd = false) (hk : Nat.beq k at_ = true) : Val E σ hs (.typeAssert x it at_ true) (pairOf v true) := fun ev S he hS o ho => by
 unfold aop; rw [ho];simp only [he _ _ hx, aassert, hd, ofOpt, Except.bind, valOf];cases dd <;> first | (simp [isIfaceT] at hn; done) | (simp only [hk]; rfl)
theorem Val.assert_no {x : Operand} {it at_ k : TypeId} {v : AV} {z : Value} {dd : TypeDesc} (hx : evs σ x = some (.iface k v)) (hd : E.und at_ = some dd) (hn : isIfaceT dd = false) (hk : Nat.beq k at_ = false) (hz : E.zro at_ = some z) : Val E σ hs (.typeAssert x it at_ true) (pairOf (ofV 4 z) false) := fun ev S he hS o ho => by
 unfold aop; rw [ho];simp only [he _ _ hx, aassert, hd, hz, ofOpt, Except.bind, valOf];cases dd <;> first | (simp [isIfaceT] at hn; done) | (simp only [hk]; rfl)
theorem Val.index_gs {α : Type} {enc : En α} {gs : GS enc} {st e : TypeId} {x y : Operand} {k : Int} (ht : SliceT E st e enc.u) (hx : evs σ x = some gs.v) (hy : evs σ y = some (iv k)) (hk : 0 ≤ k ∧ k < gs.l.length) :
  ∃ a rest, gs.l[k.toNat]? = some a ∧ Val E σ hs (.indexAddr st x y) (.tptr (enc.f a ++ rest)) := by
 have hlt : k.toNat < gs.l.length := by omega
 have hr := flat_drop (enc := enc) gs.l k.toNat gs.l[k.toNat] (List.getElem?_eq_getElem hlt);refine ⟨gs.l[k.toNat], (gs.l.drop (k.toNat + 1)).flatMap enc.f, List.getElem?_eq_getElem hlt, fun ev S he _ o ho => ?_⟩
 rcases gs.ok with ⟨h1, h2, h3⟩ | ⟨h1, h2⟩
 ·omega
 ·unfold aop; rw [ho]
  have e1 : decide (0 ≤ k) = true := decide_eq_true hk.1
  have e2 : decide (k < (gs.l.length : Int)) = true := decide_eq_true hk.2;simp only [he _ _ hx, he _ _ hy, h1, aindexAddr, intOf?, ht.1, ht.2, ofOpt, Except.bind, e1, e2, Bool.and_self, cond_true, valOf, hr];rfl
theorem TD1.index_gs {α : Type} {enc : En α} {gs : GS enc} {st e : TypeId} {x y : Operand} {k : Int} (ho : ops[i]? = some ⟨some t, .indexAddr st x y, ty, pos, af, g⟩) (hd : Nat.blt t n = true) (hw : wantS ops σ g = some true)
  (ht : SliceT E st e enc.u) (hx : evs σ x = some gs.v) (hy : evs σ y = some (iv k)) (hk : 0 ≤ k ∧ k < gs.l.length)
  (c : ∀ a rest, gs.l[k.toNat]? = some a → TD1 E n rnd ops l1 l2 ⟨ms, (t, .tptr (enc.f a ++ rest)) :: σ, hs⟩ seen fl Q) : TD1 E n rnd ops (i :: l1) l2 ⟨ms, σ, hs⟩ seen fl Q := by
 obtain ⟨a, rest, h1, h2⟩ := Val.index_gs (hs := hs) ht hx hy hk;exact TD1.light ho rfl hd hw h2 (c a rest h1)
theorem TD2.index_gs {α : Type} {enc : En α} {gs : GS enc} {st e : TypeId} {x y : Operand} {k : Int} (ho : ops[i]? = some ⟨some t, .indexAddr st x y, ty, pos, af, g⟩) (hd : Nat.blt t n = true) (hw : wantS ops σ g = some true)
  (ht : SliceT E st e enc.u) (hx : evs σ x = some gs.v) (hy : evs σ y = some (iv k)) (hk : 0 ≤ k ∧ k < gs.l.length)
  (c : ∀ a rest, gs.l[k.toNat]? = some a → TD2 E n rnd ops l ⟨ms, (t, .tptr (enc.f a ++ rest)) :: σ, hs⟩ past seen fl Q) : TD2 E n rnd ops (i :: l) ⟨ms, σ, hs⟩ past seen fl Q := by
 obtain ⟨a, rest, h1, h2⟩ := Val.index_gs (hs := hs) ht hx hy hk;exact TD2.light ho rfl hd hw h2 (c a rest h1)
theorem Eff.store_row {bt : TypeId} {x y : Operand} {p id u off k m : Nat} {cells cv cells' : List AV} {v : AV} (hp : hs[p]? = some (.row id u cells)) (ht : E.siz bt = some m) (hx : evs σ x = some (.ptr id off k)) (hk : cells.length = k) (hy : evs σ y = some v)
  (hcv : cellsOf v = cv) (hl : Nat.beq cv.length m = true) (hm : Nat.beq m 0 = false) (ho1 : cv.all oneCell = true) (hoff : off + m ≤ k) (hc : spliceL cells off cv = cells') : Eff E σ hs (.store bt x y) fun _ hs' => hs' = hs.set p (.row id u cells') := fun ev S he hS o ho => by
 subst hk;obtain ⟨fl, h1, h2⟩ := hS.row hp
 have hl' := Nat.eq_of_beq_eq_true hl
 have hlen : cells'.length = cells.length := by
  rw [← hc]; simp only [spliceL, List.length_append, List.length_take, List.length_drop]; omega
 refine ⟨undefA, S.write id (.row cells' u cells.length), _, ?_, hS.writeAt hp rfl (y := .row id u cells') rfl ⟨cells.length, by omega, by rw [write_get, if_pos rfl]⟩, rfl⟩;unfold aop; rw [ho]
 have e1 : Nat.beq cells.length cells.length = true := Nat.beq_refl _
 have e2 : Nat.ble fl cells.length = true := Nat.ble_eq_true_of_le h1
 have e3 : Nat.ble (off + cv.length) cells.length = true := Nat.ble_eq_true_of_le (by omega)
 have er : rowOf S id = .ok (cells, u, fl) := by unfold rowOf; rw [h2]
 simp only [he _ _ hx, he _ _ hy, storeVarA, ht, hcv, ofOpt, Except.bind, hl, hm, Bool.not_false, Bool.and_self, cond_true, storeN, er, e1, e2, e3, ho1, hc];rfl
end
end Go.Am
end
section
namespace Go.Am
open Go.RowKit
set_option linter.unusedVariables false
structure Sg where
 round : Int
 letter : Int
deriving DecidableEq
structure Chg where
 kind : Int
 at_ : Int
 many : Int
deriving DecidableEq
structure Leaf where
 g : Int
 num : Int
 plus : Int
 kind : Int
deriving DecidableEq
def encS : En Sg := ⟨2, fun s => [iv s.round, iv s.letter], fun _ => rfl⟩
def encC : En Chg := ⟨3, fun c => [iv c.kind, iv c.at_, iv c.many], fun _ => rfl⟩
def encL : En Leaf := ⟨4, fun x => [iv x.g, iv x.num, iv x.plus, iv x.kind], fun _ => rfl⟩
theorem encL_lits : encL.Lits := fun x => ⟨[.int .i64 x.g, .int .i64 x.num, .int .i64 x.plus, .int .i64 x.kind], rfl⟩
theorem encL_ones : encL.Ones := fun x => rfl
structure Gat where
 round : Int
 letter : Int
 leaves : Int
 ch : GS encC
def Gat.sig (g : Gat) : Sg := ⟨g.round, g.letter⟩
def encG : En Gat := ⟨4, fun g => [iv g.round, iv g.letter, iv g.leaves, g.ch.v], fun _ => rfl⟩
structure Book where
 signed : Int
 gs : GS encG
def encB : En Book := ⟨2, fun b => [iv b.signed, b.gs.v], fun _ => rfl⟩
structure Item where
 could : GS encI
def encIt : En Item := ⟨1, fun x => [x.could.v], fun _ => rfl⟩
structure Cas where
 book : Book
 items : GS encIt
def encCa : En Cas := ⟨3, fun c => [iv c.book.signed, c.book.gs.v, c.items.v], fun _ => rfl⟩
def inR (n lo hi : Int) : Prop := lo ≤ n ∧ n ≤ hi
instance (n lo hi : Int) : Decidable (inR n lo hi) := by unfold inR; infer_instance
def sigOk (s : Sg) : Prop := inR s.round 1 3 ∧ inR s.letter 0 24
instance (s : Sg) : Decidable (sigOk s) := by unfold sigOk; infer_instance
def rank (s : Sg) : Int := if s.letter ≥ 23 then -1 else (s.round - 1) * 23 + s.letter
def chgErr (leaves : Int) (c : Chg) (prev : Option Chg) : Int :=
 if ¬ inR c.kind 1 3 then 6
 else if ¬ inR c.at_ (if c.kind = 3 then 0 else 1) leaves ∨ ¬ (if c.kind = 3 then inR c.many 1 4 else c.many = 0) then 7
 else match prev with
  | none => 0
  | some p => if c.at_ < p.at_ ∨ c.at_ = p.at_ ∧ (c.kind ≠ 3 ∨ p.kind = 3) then 2 else 0
def chgsErr (leaves : Int) : Option Chg → List Chg → Int
 | _, [] => 0
 | p, c :: l => if chgErr leaves c p ≠ 0 then chgErr leaves c p else chgsErr leaves (some c) l
def lastRank (l : List Gat) : Int := l.foldl (fun m g => max m (rank g.sig)) (-1)
theorem take_snoc {α : Type} {l : List α} {k : Nat} {a : α} (h : l[k]? = some a) : l.take (k + 1) = l.take k ++ [a] := by
 rw [List.take_add_one, h]; rfl
theorem drop_cons {α : Type} {l : List α} {k : Nat} {a : α} (h : l[k]? = some a) : l.drop k = a :: l.drop (k + 1) := by
 obtain ⟨h1, rfl⟩ := List.getElem?_eq_some_iff.1 h;exact List.drop_eq_getElem_cons h1
theorem mem_take {α : Type} {l : List α} {k i : Nat} {a : α} (h : l[k]? = some a) (hk : k < i) : a ∈ l.take i := by
 refine List.mem_of_getElem? (i := k) ?_;rw [List.getElem?_take, if_pos hk];exact h
theorem sig_eq {a g : Gat} (h : a.round = g.round ∧ a.letter = g.letter) : a.sig = g.sig := by
 unfold Gat.sig; rw [h.1, h.2]
theorem sig_ne {a g : Gat} (h : ¬ (a.round = g.round ∧ a.letter = g.letter)) : a.sig ≠ g.sig := fun e => by
 unfold Gat.sig at e
 injection e with e1 e2
 exact h ⟨e1, e2⟩
theorem lastRank_snoc (l : List Gat) (g : Gat) : lastRank (l ++ [g]) = max (lastRank l) (rank g.sig) := by
 unfold lastRank;rw [List.foldl_append];rfl
theorem rank_le {s : Sg} (h : sigOk s) : -1 ≤ rank s ∧ rank s ≤ 100 := by
 obtain ⟨⟨h1, h2⟩, ⟨h3, h4⟩⟩ := h;unfold rank;split <;> omega
def gathErr (before : List Gat) (g : Gat) : Int :=
 if ¬ sigOk g.sig then 7
 else if ∃ x ∈ before, x.sig = g.sig then 5
 else if rank g.sig ≥ 0 ∧ rank g.sig < lastRank before then 2
 else if g.leaves ≠ 1 ∧ (¬ inR g.leaves 2 12 ∨ g.leaves.tmod 2 = 1) then 7
 else if g.ch.l.length > 4 then 3
 else chgsErr g.leaves none g.ch.l
def gathsErr : List Gat → List Gat → Nat → Option (Nat × Int)
 | _, [], _ => none
 | before, g :: l, i => if gathErr before g ≠ 0 then some (i, gathErr before g) else gathsErr (before ++ [g]) l (i + 1)
def bookErr (b : Book) : Int × Int × Int :=
 if ¬ inR b.signed 0 12 then (1, 0, 7)
 else if ¬ inR b.gs.l.length 1 30 then (1, 0, 3)
 else match gathsErr [] b.gs.l 0 with
  | some (i, e) => (2, i, e)
  | none => (0, 0, 0)
theorem gath_sig {l : List Gat} {g : Gat} (h : gathErr l g = 0) : sigOk g.sig := by
 unfold gathErr at h;split at h
 ·cases h
 ·rename_i h1; exact Classical.not_not.1 h1
def plusOf (ch : List Chg) (n : Int) : Int × Int :=
 ch.foldl (fun r c => (if c.at_ = n ∧ c.kind = 3 then c.many else r.1, if c.at_ = n ∧ c.kind ≠ 3 then c.kind else r.2)) (0, 0)
theorem plusOf_snoc (l : List Chg) (c : Chg) (n : Int) : plusOf (l ++ [c]) n = (if c.at_ = n ∧ c.kind = 3 then c.many else (plusOf l n).1, if c.at_ = n ∧ c.kind ≠ 3 then c.kind else (plusOf l n).2) := by
 unfold plusOf;rw [List.foldl_append];rfl
def ownLeaf (i n : Int) (g : Gat) : List Leaf := if n > 0 ∧ (plusOf g.ch.l n).2 ≠ 1 then [⟨i, n, 0, if (plusOf g.ch.l n).2 = 2 then 1 else 0⟩] else []
def newLeaves (i n : Int) (k : Nat) : List Leaf := (List.range k).map fun j : Nat => ⟨i, n, (j : Int) + 1, 2⟩
def numLeaves (i : Int) (g : Gat) (n : Nat) : List Leaf := ownLeaf i n g ++ newLeaves i n (plusOf g.ch.l n).1.toNat
def gatLeaves (i : Int) (g : Gat) : List Leaf := (List.range (g.leaves + 1).toNat).flatMap (numLeaves i g)
def leavesFrom : Nat → List Gat → List Leaf
 | _, [] => []
 | i, g :: l => gatLeaves i g ++ leavesFrom (i + 1) l
def leavesOf (b : Book) : List Leaf := leavesFrom 0 b.gs.l
theorem newLeaves_succ (i n : Int) (k : Nat) : newLeaves i n (k + 1) = newLeaves i n k ++ [⟨i, n, (k : Int) + 1, 2⟩] := by
 simp [newLeaves, List.range_succ]
theorem range_flat_succ {α : Type} (f : Nat → List α) (n : Nat) : (List.range (n + 1)).flatMap f = (List.range n).flatMap f ++ f n := by
 simp [List.range_succ, List.flatMap_append]
theorem leavesFrom_snoc (g : Gat) : ∀ (l : List Gat) (i : Nat), leavesFrom i (l ++ [g]) = leavesFrom i l ++ gatLeaves ((i + l.length : Nat) : Int) g := by
 intro l
 induction l with
 | nil => intro i; simp [leavesFrom]
 | cons a l ih =>
  intro i;simp only [List.cons_append, leavesFrom, ih, List.length_cons, List.append_assoc]
  have : i + 1 + l.length = i + (l.length + 1) := by omega
  rw [this]
structure Fits (b : Book) : Prop where
 gs : b.gs.l.length ≤ 30
 leaves : ∀ g ∈ b.gs.l, g.leaves ≤ 12 ∧ g.ch.l.length ≤ 4 ∧ ∀ n, (plusOf g.ch.l n).1 ≤ 4
theorem mem_newLeaves {i n : Int} {k : Nat} {x : Leaf} (h : x ∈ newLeaves i n k) : x.g = i ∧ x.num = n ∧ x.kind = 2 := by
 unfold newLeaves at h;obtain ⟨j, _, rfl⟩ := List.mem_map.1 h;exact ⟨rfl, rfl, rfl⟩
theorem mem_ownLeaf {i n : Int} {g : Gat} {x : Leaf} (h : x ∈ ownLeaf i n g) : x.g = i ∧ x.num = n ∧ 0 < n := by
 unfold ownLeaf at h;split at h
 ·rename_i hc
  simp at h;subst h;exact ⟨rfl, rfl, hc.1⟩
 ·simp at h
theorem mem_gatLeaves {i : Int} {g : Gat} {x : Leaf} (h : x ∈ gatLeaves i g) : x.g = i ∧ 0 ≤ x.num ∧ x.num ≤ g.leaves := by
 unfold gatLeaves at h;obtain ⟨n, hn, hx⟩ := List.mem_flatMap.1 h
 have hn' := List.mem_range.1 hn;unfold numLeaves at hx
 rcases List.mem_append.1 hx with hx | hx
 ·obtain ⟨h1, h2, _⟩ := mem_ownLeaf hx; exact ⟨h1, by omega, by omega⟩
 ·obtain ⟨h1, h2, _⟩ := mem_newLeaves hx; exact ⟨h1, by omega, by omega⟩
theorem mem_leavesFrom : ∀ {l : List Gat} {i : Nat} {x : Leaf}, x ∈ leavesFrom i l → ∃ k g, l[k]? = some g ∧ x.g = ((i + k : Nat) : Int) ∧ 0 ≤ x.num ∧ x.num ≤ g.leaves := by
 intro l
 induction l with
 | nil => intro i x h; simp [leavesFrom] at h
 | cons g l ih =>
  intro i x h;unfold leavesFrom at h
  rcases List.mem_append.1 h with h | h
  ·obtain ⟨h1, h2, h3⟩ := mem_gatLeaves h;exact ⟨0, g, rfl, by simpa using h1, h2, h3⟩
  ·obtain ⟨k, g', h1, h2, h3, h4⟩ := ih h;exact ⟨k + 1, g', by simpa using h1, by rw [h2]; congr 1; omega, h3, h4⟩
theorem mem_leaves {b : Book} {x : Leaf} (h : x ∈ leavesOf b) : ∃ g, b.gs.l[x.g.toNat]? = some g ∧ 0 ≤ x.g ∧ x.g < b.gs.l.length ∧ 0 ≤ x.num ∧ x.num ≤ g.leaves := by
 obtain ⟨k, g, h1, h2, h3, h4⟩ := mem_leavesFrom h;rw [Nat.zero_add] at h2
 have := (List.getElem?_eq_some_iff.1 h1).1;exact ⟨g, by rw [h2]; simpa using h1, by omega, by omega, h3, h4⟩
theorem gatLeaves_len {i : Int} {g : Gat} (h1 : g.leaves ≤ 12) (h2 : ∀ n, (plusOf g.ch.l n).1 ≤ 4) : (gatLeaves i g).length ≤ 65 := by
 have key : ∀ n : Nat, ((List.range n).flatMap (numLeaves i g)).length ≤ 5 * n := by
  intro n
  induction n with
  | zero => simp
  | succ n ih =>
   rw [range_flat_succ, List.length_append]
   have e1 : (ownLeaf i n g).length ≤ 1 := by unfold ownLeaf; split <;> simp
   have e2 : (newLeaves i n (plusOf g.ch.l n).1.toNat).length ≤ 4 := by have := h2 n; simp [newLeaves]; omega
   have e3 : (numLeaves i g n).length ≤ 5 := by unfold numLeaves; rw [List.length_append]; omega
   omega
 have := key (g.leaves + 1).toNat;unfold gatLeaves;omega
theorem leaves_len {b : Book} (hf : Fits b) : (leavesOf b).length ≤ 1950 := by
 have key : ∀ (l : List Gat) (i : Nat), (∀ g ∈ l, g.leaves ≤ 12 ∧ g.ch.l.length ≤ 4 ∧ ∀ n, (plusOf g.ch.l n).1 ≤ 4) → (leavesFrom i l).length ≤ 65 * l.length := by
  intro l
  induction l with
  | nil => intro i _; simp [leavesFrom]
  | cons g l ih =>
   intro i h
   have h1 := gatLeaves_len (i := (i : Int)) (h g (by simp)).1 (h g (by simp)).2.2
   have h2 := ih (i + 1) fun x hx => h x (by simp [hx])
   simp only [leavesFrom, List.length_append, List.length_cons];omega
 have h1 := key b.gs.l 0 hf.leaves
 have h2 := hf.gs;unfold leavesOf;omega
def pairFrom (lv : Int) (x : Leaf) (n : Nat) : Nat → List Leaf → Int
 | _, [] => -1
 | i, y :: l => if i ≠ n ∧ y.g = x.g ∧ y.kind = 0 ∧ y.num + x.num = lv + 1 then i else pairFrom lv x n (i + 1) l
def pairNo (b : Book) (n : Nat) : Int :=
 match (leavesOf b)[n]? with
 | none => -1
 | some x => if x.kind ≠ 0 then -1 else match b.gs.l[x.g.toNat]? with
  | none => -1
  | some g => pairFrom g.leaves x n 0 (leavesOf b)
end Go.Am
end
section
namespace Go.Am
open Go.RowKit
set_option linter.unusedVariables false
def chs (x : Item) : List Int := if x.could.l = [] then [-1] else x.could.l
def comps : List Int → List Item → List (List Int)
 | p, [] => [p]
 | p, x :: l => (chs x).flatMap fun c => comps (p ++ [c]) l
def truthsOf (l : List Item) : List (List Int) := comps [] l
theorem comps_nil {p : List Int} {l : List Item} (h : l = []) : comps p l = [p] := by subst h; rfl
theorem comps_cons {p : List Int} {l : List Item} {i : Nat} {x : Item} (h : l[i]? = some x) : comps p (l.drop i) = (chs x).flatMap fun c => comps (p ++ [c]) (l.drop (i + 1)) := by
 rw [drop_cons h]; rfl
theorem set_take {l : List Int} {i : Nat} {a : Int} (h : i < l.length) : (l.set i a).take (i + 1) = l.take i ++ [a] := by
 rw [List.take_add_one, List.getElem?_set_self h, List.take_set_of_le (Nat.le_refl _)];rfl
theorem comps_one {p : List Int} {l : List Item} {i : Nat} {x : Item} (h : l[i]? = some x) (h0 : (x.could.l.length : Int) = 0) : comps p (l.drop i) = comps (p ++ [-1]) (l.drop (i + 1)) := by
 have : x.could.l = [] := List.eq_nil_of_length_eq_zero (by omega);rw [comps_cons h];simp [chs, this]
theorem comps_all {p : List Int} {l : List Item} {i : Nat} {x : Item} (h : l[i]? = some x) (h0 : ¬ (x.could.l.length : Int) = 0) : comps p (l.drop i) = x.could.l.flatMap fun c => comps (p ++ [c]) (l.drop (i + 1)) := by
 have : x.could.l ≠ [] := fun e => h0 (by rw [e]; rfl)
 rw [comps_cons h];simp [chs, this]
theorem comps_cut {p : List Int} {l : List Item} {i c : Nat} {x : Item} {a : Int} {q r : List (List Int)} (h : l[i]? = some x) (hc : x.could.l[c]? = some a) (h0 : ¬ (x.could.l.length : Int) = 0) (hq : comps (p ++ [a]) (l.drop (i + 1)) = q ++ r) :
  comps p (l.drop i) = ((x.could.l.take c).flatMap (fun c => comps (p ++ [c]) (l.drop (i + 1))) ++ q) ++ (r ++ (x.could.l.drop (c + 1)).flatMap fun c => comps (p ++ [c]) (l.drop (i + 1))) := by
 rw [comps_all h h0]
 have e : x.could.l = x.could.l.take c ++ a :: x.could.l.drop (c + 1) := by rw [← drop_cons hc, List.take_append_drop]
 conv => lhs; rw [e]
 rw [List.flatMap_append, List.flatMap_cons, hq];simp only [List.append_assoc]
theorem tr_keep {tr tr1 : List Int} {i : Nat} {a : Int} (h : tr1.take (i + 1) = (tr.set i a).take (i + 1)) : tr1.take i = tr.take i := by
 have := congrArg (List.take i) h;rw [List.take_take, List.take_take, Nat.min_eq_left (Nat.le_succ i)] at this;rw [this, List.take_set_of_le (Nat.le_refl _)]
theorem set_takeL {l : List Int} {i : Nat} {a : Int} : (l.set i a).take i = l.take i := List.take_set_of_le (Nat.le_refl _)
end Go.Am
end
section
namespace Go.Am
open Go.RowKit
set_option linter.unusedVariables false
theorem out1 {c : Bool} {z : Bool} {a lo hi : Int} (h : c = true ↔ ∃ n ∈ (GSo z encI [a]).l, n < lo ∨ hi < n) : c = true ↔ (a < lo ∨ hi < a) := by
 rw [h];exact ⟨fun ⟨n, h1, h2⟩ => by rw [List.mem_singleton.1 h1] at h2; exact h2, fun h => ⟨a, List.mem_singleton.2 rfl, h⟩⟩
theorem out1_small {z : Bool} {a : Int} : (GSo z encI [a]).l.length < 4611686018427387904 := by
 show 1 < _;decide
def keyS (s : Sg) : Value := .agg #[.int .i64 s.round, .int .i64 s.letter]
theorem keyS_inj {s t : Sg} : keyS s = keyS t ↔ s = t := by
 refine ⟨fun h => ?_, fun h => by rw [h]⟩;unfold keyS at h;simp at h;cases s; cases t; simp_all
def MetOk (before : List Gat) (f : Value → Int) : Prop := ∀ s : Sg, f (keyS s) = (before.countP (fun g => decide (g.sig = s)) : Nat)
theorem MetOk.nil : MetOk [] fun _ => 0 := fun s => rfl
theorem MetOk.snoc {before : List Gat} {f : Value → Int} (h : MetOk before f) (g : Gat) : MetOk (before ++ [g]) (cput f (keyS g.sig) (f (keyS g.sig) + 1)) := fun s => by
 unfold cput;rw [List.countP_append, List.countP_cons, List.countP_nil]
 by_cases hs : s = g.sig
 ·subst hs; rw [if_pos rfl, h]; simp
 ·rw [if_neg (fun e => hs (keyS_inj.1 e)), h]
  have : ¬ g.sig = s := fun e => hs e.symm
  simp [this]
theorem MetOk.pos {before : List Gat} {f : Value → Int} (h : MetOk before f) (g : Gat) : 0 < f (keyS g.sig) ↔ ∃ x ∈ before, x.sig = g.sig := by
 rw [h g.sig]
 constructor
 ·intro h0
  have : 0 < before.countP (fun x => decide (x.sig = g.sig)) := by omega
  obtain ⟨x, h1, h2⟩ := List.countP_pos_iff.1 this;exact ⟨x, h1, of_decide_eq_true h2⟩
 ·rintro ⟨x, h1, h2⟩
  have : 0 < before.countP (fun x => decide (x.sig = g.sig)) := List.countP_pos_iff.2 ⟨x, h1, decide_eq_true h2⟩;omega
theorem MetOk.le {before : List Gat} {f : Value → Int} (h : MetOk before f) (s : Sg) : 0 ≤ f (keyS s) ∧ f (keyS s) ≤ before.length := by
 rw [h s]
 have := List.countP_le_length (p := fun g : Gat => decide (g.sig = s)) (l := before);omega
def LastOk (before : List Gat) (last : Sg) : Prop := (last = ⟨0, 0⟩ ∧ lastRank before = -1) ∨ (sigOk last ∧ last.letter < 23 ∧ rank last = lastRank before)
theorem LastOk.nil : LastOk [] ⟨0, 0⟩ := .inl ⟨rfl, rfl⟩
theorem LastOk.before {before : List Gat} {last s : Sg} (h : LastOk before last) (hs : sigOk s) (hl : s.letter < 23) : (s.round < last.round ∨ s.round = last.round ∧ s.letter < last.letter) ↔ (rank s ≥ 0 ∧ rank s < lastRank before) := by
 obtain ⟨⟨h1, h2⟩, ⟨h3, h4⟩⟩ := hs
 rcases h with ⟨rfl, h5⟩ | ⟨⟨⟨k1, k2⟩, ⟨k3, k4⟩⟩, h5, h6⟩
 ·rw [h5];unfold rank;rw [if_neg (by omega)];simp only;omega
 ·rw [← h6];unfold rank;rw [if_neg (by omega), if_neg (by omega)];omega
theorem LastOk.snoc {before : List Gat} {last : Sg} {g : Gat} (h : LastOk before last) (hs : sigOk g.sig) (hl : g.sig.letter < 23) (hb : ¬ (rank g.sig ≥ 0 ∧ rank g.sig < lastRank before)) : LastOk (before ++ [g]) g.sig := by
 refine .inr ⟨hs, hl, ?_⟩;rw [lastRank_snoc]
 have h0 : 0 ≤ rank g.sig := by
  obtain ⟨⟨h1, h2⟩, ⟨h3, h4⟩⟩ := hs;unfold rank;rw [if_neg (by omega)];omega
 omega
theorem LastOk.same {before : List Gat} {last : Sg} {g : Gat} (h : LastOk before last) (hl : ¬ g.sig.letter < 23) : LastOk (before ++ [g]) last := by
 have hr : rank g.sig = -1 := by unfold rank; rw [if_pos (by omega)]
 have hm : ∀ l : List Gat, ∀ m : Int, -1 ≤ m → -1 ≤ l.foldl (fun m g => max m (rank g.sig)) m := by
  intro l
  induction l with
  | nil => intro m h; exact h
  | cons a l ih => intro m h; exact ih _ (by show -1 ≤ max m _; omega)
 have h1 : -1 ≤ lastRank before := hm _ _ (by omega)
 have h2 : lastRank (before ++ [g]) = lastRank before := by rw [lastRank_snoc, hr]; omega
 unfold LastOk;rw [h2];exact h
theorem MetOk.twice {before : List Gat} {f : Value → Int} (h : MetOk before f) (g : Gat) : 1 < cput f (keyS g.sig) (f (keyS g.sig) + 1) (keyS g.sig) ↔ ∃ x ∈ before, x.sig = g.sig := by
 rw [← h.pos g];unfold cput;rw [if_pos rfl];omega
theorem rank_neg {s : Sg} (h : ¬ s.letter < 23) : rank s = -1 := by unfold rank; rw [if_pos (by omega)]
end Go.Am
end
section
namespace Go.Am
open Go.RowKit
set_option linter.unusedVariables false
set_option linter.unusedSimpArgs false
def ViewOf (v : AV) (u n t : Nat) (w : AV) : Prop := ∃ id k off, v = .slice id 0 k true n n ∧ w = .slice id off k true (n - t) (n - t) ∧ (t < n → off = t * u) ∧ t ≤ n
section
variable {E : Env} {d : Bool} {n : Nat} {rnd : Option Nat} {ops : Array Oper} {i : Nat} {ns : List Nat} {ms : List Nat} {σ : Sl} {hs hs' : List Thing} {Q : Sy → Prop} {t : Tmp} {op : Op} {ty : TypeId} {pos : String} {af : Array Edge} {g : Option (Nat × Bool)}
theorem TO.makeEn {α : Type} {en : En α} (a0 : α) {st et : Nat} {x y : Operand} {m : Nat} {b : Nat} {z : Value} (ho : ops[i]? = some ⟨some t, .makeSlice st x y, ty, pos, af, g⟩) (hd : Nat.blt t n = true) (hw : wantS ops σ g = some true)
  (ht : SliceT E st et en.u) (hb : E.byt et = some b) (hz : E.zro et = some z) (hzc : zeroCells z = en.f a0) (hx : evs σ x = some (iv m)) (hy : evs σ y = some (iv m)) (hm : m < 4611686018427387904) (hbm : (b : Int) * m ≤ 281474976710656)
  (c : ∀ v', ViewOf v' en.u m 0 v' → TO E false n rnd ops ns ⟨ms, (t, v') :: σ, ownL false v' en (List.replicate m a0) :: hs⟩ Q) : TO E false n rnd ops (i :: ns) ⟨ms, σ, hs⟩ Q := by
 have key : ∀ m : Nat, repeatL (zeroCells z) m = (List.replicate m a0).flatMap en.f := by
  intro m
  induction m with
  | zero => rfl
  | succ m ih => rw [repeatL, ih, List.replicate_succ, List.flatMap_cons, hzc]
 have hzs : zerosOf E et en.u m = .ok ((List.replicate m a0).flatMap en.f) := by
  unfold zerosOf
  by_cases h0 : m * en.u = 0
  ·rw [h0]
   have : (List.replicate m a0).flatMap en.f = [] := List.eq_nil_of_length_eq_zero (by rw [flat_len, List.length_replicate, h0]);rw [this]; rfl
  ·have e : Nat.beq (m * en.u) 0 = false := beq_false.2 h0
   have e2 : Nat.beq (zeroCells z).length en.u = true := by rw [hzc, en.len]; exact Nat.beq_refl _
   rw [e];simp only [cond_false, hz, ofOpt, Except.bind, e2, cond_true, key]
 refine TO.cons_of (K := fun v' hs' => ViewOf v' en.u m 0 v' ∧ hs' = ownL false v' en (List.replicate m a0) :: hs) ho hd (fun a ha => ha.wanted hw) (fun a S hi => ?_) (fun v' hs' e => by obtain ⟨e1, e2⟩ := e; subst e2; exact c v' e1)
 have b1 : decide ((0 : Int) ≤ (m : Int)) = true := decide_eq_true (by omega)
 have b2 : decide ((m : Int) ≤ (m : Int)) = true := decide_eq_true (by omega)
 have p62 : (2 : Int) ^ 62 = 4611686018427387904 := by decide
 have p48 : (2 : Int) ^ 48 = 281474976710656 := by decide
 have b3 : decide ((m : Int) < 2 ^ 62) = true := decide_eq_true (by omega)
 have b4 : decide ((b : Int) * (m : Int) ≤ 2 ^ 48) = true := decide_eq_true (by rw [p48]; exact hbm)
 have e : aop E S a.ev ⟨some t, .makeSlice st x y, ty, pos, af, g⟩ = .ok (.val (.slice S.next 0 ((List.replicate m a0).flatMap en.f).length true m m), S.new (.row ((List.replicate m a0).flatMap en.f) en.u 0)) := by
  simp only [aop, hi.act.ev _ _ hx, hi.act.ev _ _ hy, amakeSlice, ht.1, ht.2, hb, ofOpt, Except.bind, b1, b2, b3, b4, Bool.and_self, cond_true, Int.toNat_natCast, hzs, newSliceA, newOf]
 rw [e];refine .ok ⟨_, hi.mem.new _ (x := ownL false (.slice S.next 0 ((List.replicate m a0).flatMap en.f).length true m m) en (List.replicate m a0)) (.inr ⟨S.next, true, ?_, ?_, (fun h => by cases h), 0, Nat.zero_le _, ?_⟩) (fun i hi => by cases hi; rfl), ⟨_, _, 0, rfl, rfl, fun _ => by simp, Nat.zero_le _⟩, rfl⟩
 ·rw [List.length_replicate]
 ·rw [flat_len]
 ·rw [St.new_get, if_pos rfl]
theorem Eff.copy {st e u p m : Nat} {z : Bool} {v w : AV} {cells new : List AV} {ts : Array TypeId} {x y : Operand} (ht : SliceT E st e u) (hu : u ≠ 0) (hts : ts[0]? = some st) (hp : hs[p]? = some (.own z v u m cells)) (hx : evs σ x = some v) (hy : evs σ y = some w)
  (hsrc : ∀ S, HasS S hs → Src S w u m new) : Eff E σ hs (.call { callee := .builtin .copy, args := #[x, y], argTypes := ts }) fun r hs' => r = iv m ∧ hs' = hs.set p (.own z v u m new) := fun ev S he hS o ho => by
 obtain ⟨s1, s2, s3, s4⟩ := hsrc S hS
 have hown := hS.own hp;obtain ⟨o1, o2, o3⟩ := own_len hown
 have hmin : Nat.min m m = m := Nat.min_self m;unfold aop; rw [ho];simp only [acall, abuiltin, List.map_cons, List.map_nil, he _ _ hx, he _ _ hy, acopy, hts, ht.1, ht.2, ofOpt, Except.bind, s1, o1, hmin]
 by_cases h0 : m = 0
 ·subst h0
  have e1 : new = [] := List.eq_nil_of_length_eq_zero (by rw [s3]; simp)
  have e2 : cells = [] := List.eq_nil_of_length_eq_zero (by rw [o3]; simp);refine ⟨_, S, hs.set p (.own z v u 0 new), by simp [o2], ?_, rfl, rfl⟩;rw [e1];rw [e2] at hp hown;exact hS.swap hp hown (.inl rfl)
 ·have b0 : Nat.beq m 0 = false := beq_false.2 h0
  have b1 : Nat.beq u 0 = false := beq_false.2 hu
  have b2 : Nat.beq new.length (m * u) = true := by rw [s3]; exact Nat.beq_refl _
  simp only [b0, cond_false, b1, s2 h0, b2, cond_true]
  rcases hown with ⟨h1, h2, h3, h4⟩ | ⟨id, ex, h1, h2, h3, fl, h4, h5⟩
  ·exact absurd h3 h0
  ·subst h1
   have er : rowOf S id = .ok (cells, u, fl) := by unfold rowOf; rw [h5]
   have c1 : Nat.beq cells.length cells.length = true := Nat.beq_refl _
   have c2 : Nat.ble fl cells.length = true := Nat.ble_eq_true_of_le h4
   have c3 : Nat.ble (0 + new.length) cells.length = true := Nat.ble_eq_true_of_le (by rw [s3, h2]; omega)
   have hsp : spliceL cells 0 new = new := by
    unfold spliceL;rw [List.take_zero, List.nil_append, Nat.zero_add, List.drop_eq_nil_of_le (by rw [s3, h2]; exact Nat.le_refl _), List.append_nil]
   simp only [storeN, er, Except.bind, c1, c2, c3, s4, Bool.and_self, cond_true, hsp]
   have hl : new.length = cells.length := by rw [s3, h2]
   refine ⟨_, _, _, rfl, hS.writeAt hp rfl (y := .own z (.slice id 0 cells.length ex m m) u m new) rfl (.inr ⟨id, ex, by rw [hl], by rw [s3], h3, cells.length, by omega, by rw [write_get, if_pos rfl]⟩), rfl, rfl⟩
theorem Eff.copy_gs {α : Type} {en : En α} {l : List α} {gs : GS en} {st e p : Nat} {z : Bool} {v : AV} {ts : Array TypeId} {x y : Operand} (ht : SliceT E st e en.u) (hu : en.u ≠ 0) (hts : ts[0]? = some st) (hp : hs[p]? = some (ownL z v en l)) (hx : evs σ x = some v) (hy : evs σ y = some gs.v)
  (hone : (gs.l.flatMap en.f).all oneCell = true) (hl : l.length = gs.l.length) : Eff E σ hs (.call { callee := .builtin .copy, args := #[x, y], argTypes := ts }) fun r hs' => r = iv l.length ∧ hs' = hs.set p (ownL z v en gs.l) := by
 have h := Eff.copy (E := E) (σ := σ) (x := x) (y := y) ht hu hts hp hx hy (fun S hS => by rw [hl]; exact src_gs gs hone)
 have : ownL z v en gs.l = .own z v en.u l.length (gs.l.flatMap en.f) := by unfold ownL; rw [hl]
 rw [this];exact h
theorem Eff.copy_own {α : Type} {en : En α} {l l2 : List α} {st e p q : Nat} {z z2 : Bool} {v w : AV} {ts : Array TypeId} {x y : Operand} (ht : SliceT E st e en.u) (hu : en.u ≠ 0) (hts : ts[0]? = some st) (hp : hs[p]? = some (ownL z v en l)) (hq : hs[q]? = some (ownL z2 w en l2)) (hx : evs σ x = some v) (hy : evs σ y = some w)
  (hone : (l2.flatMap en.f).all oneCell = true) (hl : l.length = l2.length) : Eff E σ hs (.call { callee := .builtin .copy, args := #[x, y], argTypes := ts }) fun r hs' => r = iv l.length ∧ hs' = hs.set p (ownL z v en l2) := by
 have h := Eff.copy (E := E) (σ := σ) (x := x) (y := y) ht hu hts hp hx hy (fun S hS => by rw [hl]; exact src_own hS hq hone)
 have : ownL z v en l2 = .own z v en.u l.length (l2.flatMap en.f) := by unfold ownL; rw [hl]
 rw [this];exact h
theorem Val.len_view {x : Operand} {v w : AV} {st e u m k : Nat} (hv : ViewOf v u m k w) (ht : E.und st = some (.slice e)) (hx : evs σ x = some w) : Val E σ hs (.call { callee := .builtin .len, args := #[x], argTypes := #[st] }) (iv ((m - k : Nat) : Int)) := fun ev S he hS o ho => by
 obtain ⟨id, q, off, h1, h2, h3, h4⟩ := hv;unfold aop; rw [ho];simp only [acall, abuiltin, alen, List.map_cons, List.map_nil, he _ _ hx, List.getElem?_toArray, List.getElem?_cons_zero, ht, ofOpt, Except.bind, h2, isSlice, lenOf?, cond_true];rfl
theorem TO.iaddr_view {α : Type} {en : En α} {l : List α} {st et p k : Nat} {z : Bool} {v w : AV} {x y : Operand} {j : Int} (ho : ops[i]? = some ⟨some t, .indexAddr st x y, ty, pos, af, g⟩) (hd : Nat.blt t n = true) (hw : wantS ops σ g = some true)
  (ht : SliceT E st et en.u) (hp : hs[p]? = some (ownL z v en l)) (hv : ViewOf v en.u l.length k w) (hx : evs σ x = some w) (hy : evs σ y = some (iv j)) (hj : 0 ≤ j ∧ k + j.toNat < l.length)
  (c : ∀ id a, IsAt v en l id → l[k + j.toNat]? = some a → TO E d n rnd ops ns ⟨ms, (t, .ptr id ((k + j.toNat) * en.u) (l.flatMap en.f).length) :: σ, hs⟩ Q) : TO E d n rnd ops (i :: ns) ⟨ms, σ, hs⟩ Q := fun a S hi => by
 obtain ⟨id, q, off, h1, h2, h3, h4⟩ := hv
 have hoff := h3 (by omega)
 have hq : q = (l.flatMap en.f).length := by
  rcases hi.mem.own hp with ⟨k0, k1, k2, k3⟩ | ⟨id', ex, k1, k2, k3, k4⟩
  ·rw [h1] at k1; cases k1
  ·rw [h1] at k1; cases k1; rfl
 have := Val.iaddr_slice (E := E) (hs := hs) ht (hx.trans (congrArg some h2)) hy (by omega)
 have e : off + j.toNat * en.u = (k + j.toNat) * en.u := by rw [hoff, Nat.add_mul]
 rw [e, hq] at this;exact TO.val ho hd hw this (c id _ ⟨true, by rw [h1, hq]⟩ (List.getElem?_eq_getElem (by omega))) a S hi
theorem TO.slice_view {α : Type} {en : En α} {l : List α} {st et p k : Nat} {z : Bool} {v w : AV} {x lo : Operand} {j : Nat} (ho : ops[i]? = some ⟨some t, .slice st x (some lo) none none, ty, pos, af, g⟩) (hd : Nat.blt t n = true) (hw : wantS ops σ g = some true)
  (ht : SliceT E st et en.u) (hp : hs[p]? = some (ownL z v en l)) (hv : ViewOf v en.u l.length k w) (hx : evs σ x = some w) (hlo : evs σ lo = some (iv (j : Int))) (hj : k + j ≤ l.length)
  (c : ∀ w', ViewOf v en.u l.length (k + j) w' → TO E d n rnd ops ns ⟨ms, (t, w') :: σ, hs⟩ Q) : TO E d n rnd ops (i :: ns) ⟨ms, σ, hs⟩ Q := fun a S hi => by
 obtain ⟨id, q, off, h1, h2, h3, h4⟩ := hv
 let w' : AV := .slice id (bif Nat.beq (l.length - k) j then off else off + j * en.u) q true (l.length - k - j) (l.length - k - j)
 have hv' : Val E σ hs (.slice st x (some lo) none none) w' := fun ev S he hS o ho => by
  have hq : ∃ fl, rowOf S id = .ok (l.flatMap en.f, en.u, fl) := by
   rcases hS.own hp with ⟨k0, k1, k2, k3⟩ | ⟨id', ex, k1, k2, k3, fl, k4, k5⟩
   ·rw [h1] at k1; cases k1
   ·rw [h1] at k1; cases k1; exact ⟨fl, by unfold rowOf; rw [k5]⟩
  obtain ⟨fl, er⟩ := hq
  have b1 : decide ((0 : Int) ≤ (j : Int)) = true := decide_eq_true (by omega)
  have b2 : decide ((j : Int) ≤ ((l.length - k : Nat) : Int)) = true := decide_eq_true (by omega)
  have b3 : Nat.beq en.u en.u = true := Nat.beq_refl _;unfold aop; rw [ho];simp only [Option.map_some, Option.map_none, he _ _ hx, he _ _ hlo, h2, aslice, ht.1, ht.2, ofOpt, Except.bind, isLitInt, Bool.false_and, cond_false, boundsOf, boundOf, intOf?, b1, b2, Bool.and_self, cond_true, er, b3, Bool.true_and, Bool.or_true, Bool.true_or, Int.toNat_natCast, valOf];rfl
 refine TO.val ho hd hw hv' (c w' ⟨id, q, _, h1, by rw [← Nat.sub_sub], fun hlt => ?_, hj⟩) a S hi
 have e : Nat.beq (l.length - k) j = false := beq_false.2 (by omega);rw [e, cond_false, h3 (by omega), Nat.add_mul]
end
end Go.Am
end
section
namespace Go.Am
open Go.RowKit
set_option linter.unusedVariables false
theorem encC_ones : encC.Ones := fun x => rfl
def ChR (c c' : Chg) : Prop := c.at_ ≤ c'.at_ ∧ (c'.kind ≠ 3 → c.at_ < c'.at_)
structure ChOk (lv : Int) (l : List Chg) : Prop where
 each : ∀ c ∈ l, 1 ≤ c.kind ∧ c.kind ≤ 3 ∧ 0 ≤ c.at_ ∧ c.at_ ≤ lv ∧ c.many ≤ 4
 order : l.Pairwise ChR
theorem chgErr_ok {lv : Int} {c : Chg} {p : Option Chg} (h : chgErr lv c p = 0) : (1 ≤ c.kind ∧ c.kind ≤ 3 ∧ 0 ≤ c.at_ ∧ c.at_ ≤ lv ∧ c.many ≤ 4) ∧ ∀ q, p = some q → ChR q c := by
 unfold chgErr at h
 by_cases h1 : ¬ inR c.kind 1 3
 ·rw [if_pos h1] at h; cases h
 rw [if_neg h1] at h
 by_cases h2 : ¬ inR c.at_ (if c.kind = 3 then 0 else 1) lv ∨ ¬ (if c.kind = 3 then inR c.many 1 4 else c.many = 0)
 ·rw [if_pos h2] at h; cases h
 rw [if_neg h2] at h;simp only [inR, Classical.not_not] at h1 h2
 have h3 : (if c.kind = 3 then (0 : Int) else 1) ≤ c.at_ ∧ c.at_ ≤ lv := Classical.byContradiction fun e => h2 (.inl e)
 have h4 : if c.kind = 3 then 1 ≤ c.many ∧ c.many ≤ 4 else c.many = 0 := Classical.byContradiction fun e => h2 (.inr e)
 refine ⟨⟨by omega, by omega, ?_, h3.2, ?_⟩, fun q hq => ?_⟩
 ·have := h3.1; split at this <;> omega
 ·split at h4 <;> omega
 ·subst hq;simp only at h;split at h
  ·cases h
  ·rename_i h5
   unfold ChR;omega
theorem chgs_ok {lv : Int} : ∀ (l : List Chg) (p : Option Chg), chgsErr lv p l = 0 → ChOk lv l ∧ ∀ q, p = some q → ∀ c ∈ l, ChR q c := by
 intro l
 induction l with
 | nil => intro p _; exact ⟨⟨by simp, List.Pairwise.nil⟩, by simp⟩
 | cons c l ih =>
  intro p h;unfold chgsErr at h;split at h
  ·rename_i h1; exact absurd h h1
  ·rename_i h1
   obtain ⟨h2, h3⟩ := chgErr_ok (Classical.not_not.1 h1);obtain ⟨h4, h5⟩ := ih _ h;refine ⟨⟨fun x hx => ?_, List.pairwise_cons.2 ⟨h5 c rfl, h4.order⟩⟩, fun q hq x hx => ?_⟩
   ·rcases List.mem_cons.1 hx with rfl | hx
    ·exact h2
    ·exact h4.each x hx
   ·have hqc := h3 q hq
    rcases List.mem_cons.1 hx with rfl | hx
    ·exact hqc
    ·have := h5 c rfl x hx;unfold ChR at *;omega
structure Good (b : Book) : Prop where
 signed : 0 ≤ b.signed ∧ b.signed ≤ 12
 gs : 1 ≤ b.gs.l.length ∧ b.gs.l.length ≤ 30
 each : ∀ g ∈ b.gs.l, sigOk g.sig ∧ 1 ≤ g.leaves ∧ g.leaves ≤ 12 ∧ g.ch.l.length ≤ 4 ∧ ChOk g.leaves g.ch.l
theorem gath_ok {before : List Gat} {g : Gat} (h : gathErr before g = 0) : sigOk g.sig ∧ 1 ≤ g.leaves ∧ g.leaves ≤ 12 ∧ g.ch.l.length ≤ 4 ∧ ChOk g.leaves g.ch.l := by
 refine ⟨gath_sig h, ?_⟩;unfold gathErr at h;split at h
 ·cases h
 split at h
 ·cases h
 split at h
 ·cases h
 split at h
 ·cases h
 split at h
 ·cases h
 rename_i h1 h2 h3 h4 h5
 refine ⟨?_, ?_, by omega, (chgs_ok _ _ h).1⟩
 ·rw [Classical.not_and_iff_not_or_not] at h4;simp only [inR] at h4;omega
 ·rw [Classical.not_and_iff_not_or_not] at h4;simp only [inR] at h4;omega
theorem gaths_ok : ∀ (l before : List Gat) (i : Nat), gathsErr before l i = none → ∀ g ∈ l, sigOk g.sig ∧ 1 ≤ g.leaves ∧ g.leaves ≤ 12 ∧ g.ch.l.length ≤ 4 ∧ ChOk g.leaves g.ch.l := by
 intro l
 induction l with
 | nil => intro before i _ g hg; simp at hg
 | cons a l ih =>
  intro before i h g hg;unfold gathsErr at h;split at h
  ·cases h
  ·rename_i h1
   rcases List.mem_cons.1 hg with rfl | hg
   ·exact gath_ok (Classical.not_not.1 h1)
   ·exact ih _ _ h g hg
theorem book_good {b : Book} (h : (bookErr b).2.2 = 0) : Good b := by
 unfold bookErr at h;split at h
 ·cases h
 ·rename_i h1
  split at h
  ·cases h
  ·rename_i h2
   simp only [inR, Classical.not_not] at h1 h2;cases hg : gathsErr [] b.gs.l 0 with
   | none => exact ⟨h1, by omega, gaths_ok _ _ _ hg⟩
   | some p =>
    rw [hg] at h
    exfalso
    obtain ⟨i, e⟩ := p;simp only at h
    have : ∀ (l before : List Gat) (i : Nat) (p : Nat × Int), gathsErr before l i = some p → p.2 ≠ 0 := by
     intro l
     induction l with
     | nil => intro before i p h; cases h
     | cons a l ih =>
      intro before i p h;unfold gathsErr at h;split at h
      ·rename_i h1; cases h; exact h1
      ·exact ih _ _ _ h
    exact this _ _ _ _ hg h
theorem plusOf_off {l1 l2 : List Chg} {n : Int} (h : ∀ c ∈ l2, c.at_ ≠ n) : plusOf (l1 ++ l2) n = plusOf l1 n := by
 induction l2 generalizing l1 with
 | nil => rw [List.append_nil]
 | cons c l2 ih =>
  have e : l1 ++ c :: l2 = (l1 ++ [c]) ++ l2 := by simp
  have hc := h c (by simp);rw [e, ih fun x hx => h x (by simp [hx]), plusOf_snoc, if_neg (fun e => hc e.1), if_neg (fun e => hc e.1)]
theorem plusOf_zero {l : List Chg} {n : Int} (h : ∀ c ∈ l, c.at_ ≠ n) : plusOf l n = (0, 0) := by
 have := plusOf_off (l1 := []) h;rw [List.nil_append] at this;exact this
theorem plusOf_le {l : List Chg} {n : Int} (h : ∀ c ∈ l, c.many ≤ 4) : (plusOf l n).1 ≤ 4 := by
 have key : ∀ (l : List Chg) (r : Int × Int), r.1 ≤ 4 → (∀ c ∈ l, c.many ≤ 4) → (l.foldl (fun r c => (if c.at_ = n ∧ c.kind = 3 then c.many else r.1, if c.at_ = n ∧ c.kind ≠ 3 then c.kind else r.2)) r).1 ≤ 4 := by
  intro l
  induction l with
  | nil => intro r hr _; exact hr
  | cons c l ih =>
   intro r hr h;refine ih _ ?_ fun x hx => h x (by simp [hx])
   have := h c (by simp)
   show (if c.at_ = n ∧ c.kind = 3 then c.many else r.1) ≤ 4;split <;> omega
 exact key l _ (by decide) h
theorem Good.fits {b : Book} (h : Good b) : Fits b := ⟨h.gs.2, fun g hg => ⟨(h.each g hg).2.2.1, (h.each g hg).2.2.2.1, fun n => plusOf_le fun c hc => ((h.each g hg).2.2.2.2.each c hc).2.2.2.2⟩⟩
theorem book_fits {b : Book} (h : (bookErr b).2.2 = 0) : Fits b := (book_good h).fits
def AtN (ch : List Chg) (n : Int) (s : Nat) : Prop := (∀ c ∈ ch.take s, c.at_ ≤ n) ∧ ∀ c ∈ ch.drop s, n ≤ c.at_
theorem AtN.one {ch : List Chg} {n : Int} {s : Nat} {c : Chg} (h : AtN ch n s) (hc : ch[s]? = some c) (he : c.at_ = n) : AtN ch n (s + 1) := by
 refine ⟨fun x hx => ?_, fun x hx => h.2 x (by rw [drop_cons hc]; exact List.mem_cons_of_mem _ hx)⟩;rw [take_snoc hc] at hx
 rcases List.mem_append.1 hx with hx | hx
 ·exact h.1 x hx
 ·rw [List.mem_singleton.1 hx]; omega
theorem take_rel {ch : List Chg} {s : Nat} {c : Chg} (ho : ch.Pairwise ChR) (hc : ch[s]? = some c) : ∀ x ∈ ch.take s, ChR x c := by
 have e : ch = ch.take s ++ c :: ch.drop (s + 1) := by rw [← drop_cons hc, List.take_append_drop]
 rw [e] at ho;exact fun x hx => (List.pairwise_append.1 ho).2.2 x hx c (by simp)
theorem plusOf_first {ch : List Chg} {n : Int} {s : Nat} {c : Chg} (ho : ch.Pairwise ChR) (hc : ch[s]? = some c) (he : c.at_ = n) (hk : c.kind ≠ 3) : plusOf (ch.take s) n = (0, 0) :=
 plusOf_zero fun x hx => by
  have := (take_rel ho hc x hx).2 hk;omega
theorem step_less {ch : List Chg} {n : Int} {s : Nat} {c : Chg} (ho : ch.Pairwise ChR) (hc : ch[s]? = some c) (he : c.at_ = n) (hk : c.kind = 1) : plusOf (ch.take (s + 1)) n = (0, 1) := by
 rw [take_snoc hc, plusOf_snoc, plusOf_first ho hc he (by omega), if_neg (by omega), if_pos ⟨he, by omega⟩, hk]
theorem step_swap {ch : List Chg} {n : Int} {s : Nat} {c : Chg} (ho : ch.Pairwise ChR) (hc : ch[s]? = some c) (he : c.at_ = n) (hk : c.kind = 2) : plusOf (ch.take (s + 1)) n = (0, 2) := by
 rw [take_snoc hc, plusOf_snoc, plusOf_first ho hc he (by omega), if_neg (by omega), if_pos ⟨he, by omega⟩, hk]
theorem step_plus {ch : List Chg} {n : Int} {s : Nat} {c : Chg} (hc : ch[s]? = some c) (he : c.at_ = n) (hk : c.kind = 3) : plusOf (ch.take (s + 1)) n = (c.many, (plusOf (ch.take s) n).2) := by
 rw [take_snoc hc, plusOf_snoc, if_pos ⟨he, hk⟩, if_neg (fun e => e.2 hk)]
theorem AtN.over {ch : List Chg} {n : Int} {s : Nat} (ho : ch.Pairwise ChR) (h : AtN ch n s) (hs : ch.length ≤ s ∨ ∃ c, ch[s]? = some c ∧ c.at_ ≠ n) : plusOf ch n = plusOf (ch.take s) n ∧ (∀ c ∈ ch.take s, c.at_ < n + 1) ∧ ∀ c ∈ ch.drop s, n + 1 ≤ c.at_ := by
 have hd : ∀ c ∈ ch.drop s, n + 1 ≤ c.at_ := by
  rcases hs with hs | ⟨c, hc, hne⟩
  ·rw [List.drop_eq_nil_of_le hs]; simp
  ·have hcn : n + 1 ≤ c.at_ := by
    have := h.2 c (by rw [drop_cons hc]; simp);omega
   intro x hx;rw [drop_cons hc] at hx
   rcases List.mem_cons.1 hx with rfl | hx
   ·exact hcn
   ·have e : ch = ch.take s ++ c :: ch.drop (s + 1) := by rw [← drop_cons hc, List.take_append_drop]
    rw [e] at ho
    have := (List.pairwise_cons.1 (List.pairwise_append.1 ho).2.1).1 x hx;unfold ChR at this;omega
 refine ⟨?_, fun c hc => by have := h.1 c hc; omega, hd⟩
 conv => lhs; rw [← List.take_append_drop s ch]
 exact plusOf_off fun c hc => by have := hd c hc; omega
theorem AtN.start {ch : List Chg} {n : Int} {s : Nat} (h1 : ∀ c ∈ ch.take s, c.at_ < n) (h2 : ∀ c ∈ ch.drop s, n ≤ c.at_) : AtN ch n s ∧ plusOf (ch.take s) n = (0, 0) :=
 ⟨⟨fun c hc => by have := h1 c hc; omega, h2⟩, plusOf_zero fun c hc => by have := h1 c hc; omega⟩
theorem leavesFrom_append : ∀ (l1 l2 : List Gat) (i : Nat), leavesFrom i (l1 ++ l2) = leavesFrom i l1 ++ leavesFrom (i + l1.length) l2 := by
 intro l1
 induction l1 with
 | nil => intro l2 i; simp [leavesFrom]
 | cons g l1 ih =>
  intro l2 i;simp only [List.cons_append, leavesFrom, ih, List.length_cons, List.append_assoc];rw [show i + 1 + l1.length = i + (l1.length + 1) by omega]
theorem range_pre {α : Type} (f : Nat → List α) {n m : Nat} (h : n < m) : (List.range n).flatMap f ++ f n <+: (List.range m).flatMap f := by
 obtain ⟨k, rfl⟩ : ∃ k, m = n + 1 + k := ⟨m - (n + 1), by omega⟩
 clear h
 rw [← range_flat_succ]
 induction k with
 | zero => exact List.prefix_refl _
 | succ k ih => rw [← Nat.add_assoc, range_flat_succ f (n + 1 + k)]; exact ih.trans (List.prefix_append _ _)
theorem new_pre {i n : Int} {j m : Nat} (h : j ≤ m) : newLeaves i n j <+: newLeaves i n m := by
 obtain ⟨k, rfl⟩ : ∃ k, m = j + k := ⟨m - j, by omega⟩
 clear h
 induction k with
 | zero => exact List.prefix_refl _
 | succ k ih => rw [← Nat.add_assoc, newLeaves_succ]; exact ih.trans (List.prefix_append _ _)
theorem gat_pre {b : Book} {i : Nat} {g : Gat} (h : b.gs.l[i]? = some g) : leavesFrom 0 (b.gs.l.take i) ++ gatLeaves (i : Int) g <+: leavesOf b := by
 have e : b.gs.l = b.gs.l.take i ++ g :: b.gs.l.drop (i + 1) := by rw [← drop_cons h, List.take_append_drop]
 have hl : (b.gs.l.take i).length = i := by rw [List.length_take]; have := (List.getElem?_eq_some_iff.1 h).1; omega
 unfold leavesOf
 conv => rhs; rw [e]
 rw [leavesFrom_append, leavesFrom, hl, Nat.zero_add, ← List.append_assoc];exact List.prefix_append _ _
theorem pre_app {α : Type} {a b c : List α} (h : b <+: c) : a ++ b <+: a ++ c := by
 obtain ⟨r, rfl⟩ := h;rw [← List.append_assoc];exact List.prefix_append _ _
theorem new_first {b : Book} {i n j : Nat} {g : Gat} (h : b.gs.l[i]? = some g) (hn : (n : Int) < g.leaves + 1) (hj : j ≤ (plusOf g.ch.l n).1.toNat) :
  leavesFrom 0 (b.gs.l.take i) ++ (List.range n).flatMap (numLeaves (i : Int) g) ++ ownLeaf (i : Int) (n : Int) g ++ newLeaves (i : Int) (n : Int) j <+: leavesOf b := by
 refine List.IsPrefix.trans ?_ (gat_pre h);rw [List.append_assoc, List.append_assoc];refine pre_app (List.IsPrefix.trans ?_ (range_pre _ (show n < (g.leaves + 1).toNat by omega)));exact pre_app (pre_app (new_pre hj))
theorem own_first {b : Book} {i n : Nat} {g : Gat} (h : b.gs.l[i]? = some g) (hn : (n : Int) < g.leaves + 1) : leavesFrom 0 (b.gs.l.take i) ++ (List.range n).flatMap (numLeaves (i : Int) g) ++ ownLeaf (i : Int) (n : Int) g <+: leavesOf b := by
 have := new_first (j := 0) h hn (Nat.zero_le _)
 rwa [show newLeaves (i : Int) (n : Int) 0 = [] from rfl, List.append_nil] at this
end Go.Am
end
section
namespace Go.Am
open Go.RowKit
set_option linter.unusedVariables false
def idxFrom (x : Leaf) : Nat → List Leaf → Int
 | _, [] => -1
 | i, y :: l => if x = y then i else idxFrom x (i + 1) l
def idxOf (x : Leaf) (l : List Leaf) : Int := idxFrom x 0 l
theorem leaf_ext {x y : Leaf} : (x.g = y.g ∧ x.num = y.num ∧ x.plus = y.plus ∧ x.kind = y.kind) ↔ x = y := by
 cases x; cases y; simp
def mirror (b : Book) (x : Leaf) : Leaf := ⟨x.g, (match b.gs.l[x.g.toNat]? with | some g => g.leaves | none => 0) + 1 - x.num, x.plus, x.kind⟩
def mateOf (b : Book) (n : Int) : Int × Int :=
 if (bookErr b).2.2 ≠ 0 then (0, (bookErr b).2.2)
 else match (if 0 ≤ n then (leavesOf b)[n.toNat]? else none) with
  | none => (0, 4)
  | some x => if x.kind = 0 ∧ 0 ≤ idxOf (mirror b x) (leavesOf b) ∧ idxOf (mirror b x) (leavesOf b) ≠ n then (idxOf (mirror b x) (leavesOf b), 0) else (0, 4)
theorem idxFrom_range {x : Leaf} : ∀ (l : List Leaf) (i : Nat), -1 ≤ idxFrom x i l ∧ idxFrom x i l < i + l.length := by
 intro l
 induction l with
 | nil => intro i; simp [idxFrom]; omega
 | cons y l ih =>
  intro i;unfold idxFrom
  have := ih (i + 1);split
  ·simp only [List.length_cons]; omega
  ·simp only [List.length_cons]; omega
def LfR (x y : Leaf) : Prop := x.g < y.g ∨ x.g = y.g ∧ (x.num < y.num ∨ x.num = y.num ∧ x.plus < y.plus)
theorem own_plus {i n : Int} {g : Gat} {x : Leaf} (h : x ∈ ownLeaf i n g) : x.g = i ∧ x.num = n ∧ x.plus = 0 ∧ x.kind ≠ 2 := by
 unfold ownLeaf at h;split at h
 ·simp at h; subst h;refine ⟨rfl, rfl, rfl, ?_⟩
  show (if _ then (1 : Int) else 0) ≠ 2;split <;> decide
 ·simp at h
theorem new_plus {i n : Int} {k : Nat} {x : Leaf} (h : x ∈ newLeaves i n k) : x.g = i ∧ x.num = n ∧ 1 ≤ x.plus ∧ x.kind = 2 := by
 unfold newLeaves at h;obtain ⟨j, _, rfl⟩ := List.mem_map.1 h;exact ⟨rfl, rfl, by show 1 ≤ (j : Int) + 1; omega, rfl⟩
theorem new_order {i n : Int} : ∀ k : Nat, (newLeaves i n k).Pairwise LfR ∧ ∀ x ∈ newLeaves i n k, x.plus ≤ k := by
 intro k
 induction k with
 | zero => exact ⟨List.Pairwise.nil, by intro x hx; cases hx⟩
 | succ k ih =>
  rw [newLeaves_succ];refine ⟨List.pairwise_append.2 ⟨ih.1, List.pairwise_singleton _ _, fun x hx y hy => ?_⟩, fun x hx => ?_⟩
  ·rw [List.mem_singleton.1 hy]
   have h1 := new_plus hx
   have h2 := ih.2 x hx;exact .inr ⟨h1.1, .inr ⟨h1.2.1, by show x.plus < (k : Int) + 1; omega⟩⟩
  ·rcases List.mem_append.1 hx with hx | hx
   ·have := ih.2 x hx; push_cast; omega
   ·rw [List.mem_singleton.1 hx]; push_cast; exact Int.le_refl _
theorem num_order {i : Int} {g : Gat} {n : Nat} : (numLeaves i g n).Pairwise LfR ∧ ∀ x ∈ numLeaves i g n, x.g = i ∧ x.num = n := by
 unfold numLeaves;refine ⟨List.pairwise_append.2 ⟨?_, (new_order _).1, fun x hx y hy => ?_⟩, fun x hx => ?_⟩
 ·unfold ownLeaf; split
  ·exact List.pairwise_singleton _ _
  ·exact List.Pairwise.nil
 ·have h1 := own_plus hx
  have h2 := new_plus hy;exact .inr ⟨by omega, .inr ⟨by omega, by omega⟩⟩
 ·rcases List.mem_append.1 hx with hx | hx
  ·exact ⟨(own_plus hx).1, (own_plus hx).2.1⟩
  ·exact ⟨(new_plus hx).1, (new_plus hx).2.1⟩
theorem range_order {i : Int} {g : Gat} : ∀ m : Nat, ((List.range m).flatMap (numLeaves i g)).Pairwise LfR ∧ ∀ x ∈ (List.range m).flatMap (numLeaves i g), x.g = i ∧ x.num < m := by
 intro m
 induction m with
 | zero => exact ⟨List.Pairwise.nil, by intro x hx; cases hx⟩
 | succ m ih =>
  rw [range_flat_succ];refine ⟨List.pairwise_append.2 ⟨ih.1, num_order.1, fun x hx y hy => ?_⟩, fun x hx => ?_⟩
  ·have h1 := ih.2 x hx
   have h2 := num_order.2 y hy;exact .inr ⟨by omega, .inl (by omega)⟩
  ·rcases List.mem_append.1 hx with hx | hx
   ·have := ih.2 x hx; exact ⟨this.1, by push_cast; omega⟩
   ·have := num_order.2 x hx; exact ⟨this.1, by push_cast; omega⟩
theorem from_order : ∀ (l : List Gat) (i : Nat), (leavesFrom i l).Pairwise LfR ∧ ∀ x ∈ leavesFrom i l, (i : Int) ≤ x.g := by
 intro l
 induction l with
 | nil => intro i; exact ⟨List.Pairwise.nil, by intro x hx; cases hx⟩
 | cons g l ih =>
  intro i;unfold leavesFrom gatLeaves
  have h0 := range_order (i := (i : Int)) (g := g) (g.leaves + 1).toNat;refine ⟨List.pairwise_append.2 ⟨h0.1, (ih (i + 1)).1, fun x hx y hy => ?_⟩, fun x hx => ?_⟩
  ·have h1 := h0.2 x hx
   have h2 := (ih (i + 1)).2 y hy
   push_cast at h2
   exact .inl (by omega)
  ·rcases List.mem_append.1 hx with hx | hx
   ·have := h0.2 x hx; omega
   ·have := (ih (i + 1)).2 x hx; push_cast at this; omega
theorem leaves_order (b : Book) : (leavesOf b).Pairwise LfR := (from_order _ _).1
theorem leaves_nodup (b : Book) : (leavesOf b).Nodup := (leaves_order b).imp fun {x y} h e => by
 subst e;unfold LfR at h;omega
theorem leaf_plus {b : Book} {x : Leaf} (h : x ∈ leavesOf b) (hk : x.kind = 0) : x.plus = 0 := by
 have key : ∀ (l : List Gat) (i : Nat), x ∈ leavesFrom i l → x.plus = 0 := by
  intro l
  induction l with
  | nil => intro i h; cases h
  | cons g l ih =>
   intro i h;unfold leavesFrom gatLeaves at h
   rcases List.mem_append.1 h with h | h
   ·obtain ⟨n, _, h⟩ := List.mem_flatMap.1 h;unfold numLeaves at h
    rcases List.mem_append.1 h with h | h
    ·exact (own_plus h).2.2.1
    ·have := (new_plus h).2.2.2; omega
   ·exact ih _ h
 exact key _ _ h
theorem idx_some {x : Leaf} : ∀ (l : List Leaf) (i k : Nat), l[k]? = some x → l.Nodup → idxFrom x i l = i + k := by
 intro l
 induction l with
 | nil => intro i k h; simp at h
 | cons y l ih =>
  intro i k h hn
  have hn' := List.nodup_cons.1 hn;unfold idxFrom;cases k with
  | zero => simp at h; subst h; rw [if_pos rfl]; rfl
  | succ k =>
   simp at h
   have hne : x ≠ y := fun e => hn'.1 (e ▸ List.mem_of_getElem? h)
   rw [if_neg hne, ih (i + 1) k h hn'.2]
   push_cast
   omega
theorem idx_none {x : Leaf} : ∀ (l : List Leaf) (i : Nat), x ∉ l → idxFrom x i l = -1 := by
 intro l
 induction l with
 | nil => intro i _; rfl
 | cons y l ih =>
  intro i h;unfold idxFrom;rw [if_neg (fun e => h (by rw [e]; exact List.mem_cons_self)), ih (i + 1) fun e => h (List.mem_cons_of_mem _ e)]
theorem pairFrom_eq {lv : Int} {x : Leaf} {n : Nat} : ∀ (l : List Leaf) (i : Nat), (∀ y ∈ l, y.kind = 0 → y.plus = 0) → l.Nodup → (∀ k, l[k]? = some ⟨x.g, lv + 1 - x.num, 0, 0⟩ → (i + k ≠ n)) →
  pairFrom lv x n i l = idxFrom ⟨x.g, lv + 1 - x.num, 0, 0⟩ i l := by
 intro l
 induction l with
 | nil => intro i _ _ _; rfl
 | cons y l ih =>
  intro i h1 h2 h3;unfold pairFrom idxFrom
  by_cases hy : (⟨x.g, lv + 1 - x.num, 0, 0⟩ : Leaf) = y
  ·rw [if_pos hy]
   have h0 := h3 0 (by rw [hy]; rfl);rw [if_pos ⟨by omega, by rw [← hy], by rw [← hy], by rw [← hy]; show lv + 1 - x.num + x.num = _; omega⟩]
  ·rw [if_neg hy]
   have : ¬ (i ≠ n ∧ y.g = x.g ∧ y.kind = 0 ∧ y.num + x.num = lv + 1) := fun ⟨_, e1, e2, e3⟩ => hy (leaf_ext.1 ⟨e1.symm, by show lv + 1 - x.num = y.num; omega, (h1 y (by simp) e2).symm, e2.symm⟩)
   rw [if_neg this];refine ih (i + 1) (fun z hz => h1 z (by simp [hz])) (List.nodup_cons.1 h2).2 fun k hk => ?_
   have := h3 (k + 1) (by simpa using hk);omega
theorem pairFrom_self {lv : Int} {x : Leaf} {n : Nat} : ∀ (l : List Leaf) (i : Nat), (∀ y ∈ l, y.kind = 0 → y.plus = 0) → (∀ k y, l[k]? = some y → i + k ≠ n → y ≠ ⟨x.g, lv + 1 - x.num, 0, 0⟩) → pairFrom lv x n i l = -1 := by
 intro l
 induction l with
 | nil => intro i _ _; rfl
 | cons y l ih =>
  intro i h1 h2;unfold pairFrom
  have : ¬ (i ≠ n ∧ y.g = x.g ∧ y.kind = 0 ∧ y.num + x.num = lv + 1) := fun ⟨e0, e1, e2, e3⟩ => h2 0 y rfl (by omega) (leaf_ext.1 ⟨e1, by show y.num = lv + 1 - x.num; omega, h1 y (by simp) e2, e2⟩)
  rw [if_neg this];refine ih (i + 1) (fun z hz => h1 z (by simp [hz])) fun k z hz hk => ?_
  exact h2 (k + 1) z (by simpa using hz) (by omega)
theorem mate_cases {b : Book} {n : Nat} (hb : (bookErr b).2.2 = 0) (hn : n < (leavesOf b).length) : (mateOf b n = (pairNo b n, 0)) ∨ (mateOf b n = (0, 4) ∧ pairNo b n = -1) := by
 obtain ⟨x, hx⟩ : ∃ x, (leavesOf b)[n]? = some x := ⟨_, List.getElem?_eq_getElem hn⟩
 have hxm := List.mem_of_getElem? hx;obtain ⟨g, hg, _⟩ := mem_leaves hxm
 have hm : mateOf b n = if x.kind = 0 ∧ 0 ≤ idxOf (mirror b x) (leavesOf b) ∧ idxOf (mirror b x) (leavesOf b) ≠ n then (idxOf (mirror b x) (leavesOf b), 0) else (0, 4) := by
  unfold mateOf;rw [if_neg (by omega), if_pos (by omega), Int.toNat_natCast, hx]
 have hp : pairNo b n = if x.kind ≠ 0 then -1 else pairFrom g.leaves x n 0 (leavesOf b) := by
  unfold pairNo;rw [hx];simp only [hg]
 by_cases hk : x.kind = 0
 ·have hx0 := leaf_plus hxm hk
  have hmi : mirror b x = ⟨x.g, g.leaves + 1 - x.num, 0, 0⟩ := by unfold mirror; rw [hg, hx0, hk]
  rw [if_neg (fun e => e hk)] at hp;rw [hmi] at hm
  have hnd := leaves_nodup b
  have hpl : ∀ y ∈ leavesOf b, y.kind = 0 → y.plus = 0 := fun y hy => leaf_plus hy
  generalize hy : (⟨x.g, g.leaves + 1 - x.num, 0, 0⟩ : Leaf) = y at hm
  by_cases hin : y ∈ leavesOf b
  ·obtain ⟨k, hlt, hk1⟩ := List.getElem_of_mem hin
   have hk2 : (leavesOf b)[k]? = some y := by rw [List.getElem?_eq_getElem hlt, hk1]
   have hidx : idxOf y (leavesOf b) = k := by
    have := idx_some _ 0 k hk2 hnd;unfold idxOf;rw [this]
    push_cast
    omega
   rw [hidx] at hm
   have huq : ∀ j, (leavesOf b)[j]? = some y → j = k := fun j hj => by
    have h1 := idx_some _ 0 j hj hnd
    have h2 := idx_some _ 0 k hk2 hnd;rw [h1] at h2
    push_cast at h2
    omega
   by_cases hkn : k = n
   ·rw [if_neg (by omega)] at hm;refine .inr ⟨hm, ?_⟩;rw [hp];refine pairFrom_self _ _ hpl fun j z hz hj e => ?_
    rw [hy] at e;subst e
    have := huq j hz;omega
   ·rw [if_pos ⟨hk, by omega, by omega⟩] at hm;refine .inl ?_;rw [hm, hp, pairFrom_eq _ _ hpl hnd fun j hj => ?_]
    ·rw [hy]; exact congrArg (·, (0 : Int)) hidx.symm
    ·rw [hy] at hj
     have := huq j hj;omega
  ·have hidx : idxOf y (leavesOf b) = -1 := idx_none _ _ hin;rw [hidx, if_neg (by omega)] at hm;refine .inr ⟨hm, ?_⟩;rw [hp, pairFrom_eq _ _ hpl hnd fun j hj => ?_]
   ·rw [hy]; exact hidx
   ·rw [hy] at hj;exact absurd (List.mem_of_getElem? hj) hin
 ·rw [if_neg (fun e => hk e.1)] at hm;rw [if_pos hk] at hp;exact .inr ⟨hm, hp⟩
end Go.Am
end
section
namespace Go.Am
open Go.RowKit
set_option linter.unusedVariables false
set_option linter.unusedSimpArgs false
def IsLoop (x : Thing) (l d : Nat) : Prop := ∃ n tm ps a b st pd, x = loopT l n tm ps a b st pd d
section
variable {E : Env} {n : Nat} {ms : List Nat} {σ : Sl} {hs : List Thing}
theorem TR.conv {l : Nat} {args : List AV} {hs1 hs2 : List Thing} {K K' : AV → List Thing → Prop} (h : TR E l args hs1 K) (hp : hs1.Perm hs2) (hk : ∀ v h1, K v h1 → ∃ h2, h1.Perm h2 ∧ K' v h2) : TR E l args hs2 K' := fun S hS =>
 (h S (hS.perm hp)).mono fun r ⟨h1, k1, k2⟩ => by
  obtain ⟨h2, k3, k4⟩ := hk _ _ k2;exact ⟨h2, k1.perm k3.symm, k4⟩
def VisitG {β : Type} (E : Env) (l : Nat) (Arg : β → List AV → List Thing → Prop) (P : List β → Prop) (Y Z : List β → List Thing → Prop) : Prop :=
 ∀ vis a vs G C B, P (vis ++ [a]) → Arg a vs G → Y vis C → TR E l vs (C ++ (G ++ B)) (fun v hs' => (v = bv true ∧ ∃ C', hs' = C' ++ (G ++ B) ∧ Y (vis ++ [a]) C') ∨ (v = bv false ∧ ∃ C', hs' = C' ++ (G ++ B) ∧ Z (vis ++ [a]) C'))
def BodyQ {β : Type} (Y : List β → List Thing → Prop) (Z : Exit → List β → List Thing → Prop) (vis : List β) (a : β) (LB : Thing) (F : List Thing) : Exit → Sy → Prop := fun e s =>
 ∃ A', (LB :: (A' ++ F)).Sublist s.hs ∧ ((e = .normal ∧ Y (vis ++ [a]) A') ∨ (∃ c, jumpOf e = .ok (some c) ∧ jumpExit c = .ok e ∧ Z e (vis ++ [a]) A'))
def AssignQ (E : Env) (n l : Nat) (body : Code) (LR LB : Thing) (P : Exit → Sy → Prop) : Exit → Sy → Prop := fun e s =>
 e = .normal ∧ ∃ p, s.hs[p]? = some LR ∧ T E n (some l) body ⟨s.ms, s.sl, s.hs.set p LB⟩ P
theorem T.monoS {rnd : Option Nat} {c : Code} {s : Sy} {Q Q' : Exit → Sy → Prop} (h : T E n rnd c s Q) (hq : ∀ e s, Q e s → ∃ s2, (∀ a S, Is n rnd a S s → Is n rnd a S s2) ∧ Q' e s2) : T E n rnd c s Q' :=
 fun a S hi => (h a S hi).mono fun r ⟨e, a', S', s', h1, h2, h3⟩ => by
  obtain ⟨s2, h4, h5⟩ := hq _ _ h3;exact ⟨e, a', S', s2, h1, h4 _ _ h2, h5⟩
theorem round_of {β : Type} {Y : List β → List Thing → Prop} {Z : Exit → List β → List Thing → Prop} {l d : Nat} {tm : Trie AV} {ps : List Tmp} {assign body : Code} {vs : List AV} {σ' : Sl} {vis : List β} {a : β} {A F : List Thing} (ht : HasT tm σ)
  (hps : parS ps vs σ = some σ') (hn : ps.all (fun p => Nat.blt p n) = true)
  (hb : ∀ LR LB, IsLoop LB l d → T E n (some l) assign ⟨[], σ', LR :: (A ++ F)⟩ (AssignQ E n l body LR LB (BodyQ Y Z vis a LB F))) :
  TR E l vs (loopT l n tm ps assign body .ready none d :: (A ++ F)) fun v hs' => (v = bv true ∧ ∃ A', hs' = loopT l n tm ps assign body .ready none d :: (A' ++ F) ∧ Y (vis ++ [a]) A') ∨
   (v = bv false ∧ ∃ A' c e, hs' = loopT l n tm ps assign body .done (some c) d :: (A' ++ F) ∧ jumpExit c = .ok e ∧ Z e (vis ++ [a]) A') := by
 refine TR.round (p := 0) (pd := none) rfl ht hps hn ((hb (loopT l n tm ps assign body .ready none d) (loopT l n tm ps assign body .busy none d) ⟨_, _, _, _, _, _, _, rfl⟩).monoS ?_);rintro e ⟨ms1, σ1, hs0⟩ ⟨rfl, p, h1, h2⟩;simp only at h1 h2;obtain ⟨q1, q2⟩ := pick_perm (loopT l n tm ps assign body .busy none d) h1;refine ⟨⟨ms1, σ1, loopT l n tm ps assign body .ready none d :: hs0.eraseIdx p⟩, fun a S hi => ⟨hi.act, hi.mem.perm q1.symm⟩, rfl, none, rfl, ?_⟩
 show T E n (some l) body ⟨ms1, σ1, loopT l n tm ps assign body .busy none d :: hs0.eraseIdx p⟩ _;refine T.monoS (T.perm q2 h2) ?_;rintro e ⟨ms2, σ2, hs2⟩ ⟨A', h3, h4⟩;refine ⟨⟨ms2, σ2, loopT l n tm ps assign body .busy none d :: (A' ++ F)⟩, fun a S hi => ⟨hi.act, hi.mem.sub h3⟩, ⟨none, rfl⟩, ?_⟩
 rcases h4 with ⟨rfl, h5⟩ | ⟨c, h5, h6, h7⟩
 ·exact ⟨none, rfl, .inl ⟨rfl, A', rfl, h5⟩⟩
 ·exact ⟨some c, h5, .inr ⟨rfl, A', c, e, rfl, h6, h7⟩⟩
theorem perm_mid {α : Type} (x : α) (A G B : List α) : (A ++ (G ++ x :: B)).Perm (x :: (A ++ (G ++ B))) := by
 have h1 : (G ++ x :: B).Perm (x :: (G ++ B)) := List.perm_middle;exact (List.Perm.append_left A h1).trans List.perm_middle
theorem T.range0 {β : Type} {x : Operand} {f : FuncId} {fn : Func} {first cap : List AV} {ps : Array Tmp} {assign body : Code} {Q : Exit → Sy → Prop} (Arg : β → List AV → List Thing → Prop) (P : List β → Prop) (all : List β) (Y : List β → List Thing → Prop) (Z : Exit → List β → List Thing → Prop) (base A0 : List Thing)
  (hx : evs σ x = some (.func f first cap)) (hf : E.fn f = some fn) (hn : ps.toList.all (fun p => Nat.blt p n) = true) (hhs : hs.Perm (base ++ A0)) (hY0 : Y [] A0)
  (hiter : ∀ l YY ZZ, VisitG E l Arg P YY ZZ → ∀ C, YY [] C → TF E f (first ++ [AV.yield l] ++ cap) (base ++ C) fun v hs' => ∃ C', hs' = base ++ C' ∧ (YY all C' ∨ ∃ q r, all = q ++ r ∧ ZZ q C'))
  (hbody : ∀ l d vis a vs G A B, P (vis ++ [a]) → Arg a vs G → Y vis A → ∃ σ', parS ps.toList vs σ = some σ' ∧ ∀ LR LB, IsLoop LB l d → T E n (some l) assign ⟨[], σ', LR :: (A ++ (G ++ B))⟩ (AssignQ E n l body LR LB (BodyQ Y Z vis a LB (G ++ B))))
  (hN : ∀ d A', Y all A' → Q .normal ⟨d :: ms, σ, base ++ .obj d (.dfr true) :: A'⟩) (hZ : ∀ d e q r A', all = q ++ r → Z e q A' → Q e ⟨d :: ms, σ, base ++ .obj d (.dfr true) :: A'⟩) :
  T E n none (.rangeFunc x ps assign body) ⟨ms, σ, hs⟩ Q := by
 refine T.rangeFunc hx hf fun l d tm htm => ?_
 have hit := hiter l (fun vis C => ∃ A, C = loopT l n tm ps.toList assign body .ready none d :: .obj d (.dfr true) :: A ∧ Y vis A)
  (fun vis C => ∃ A c e, C = loopT l n tm ps.toList assign body .done (some c) d :: .obj d (.dfr true) :: A ∧ jumpExit c = .ok e ∧ Z e vis A) ?_ _ ⟨A0, rfl, hY0⟩
 ·refine TF.perm (hit.mono ?_) ?_
  ·rintro v hs' ⟨C', rfl, (⟨A, rfl, hA⟩ | ⟨q, r, hq, A, c, e, rfl, hc, hA⟩)⟩
   ·refine ⟨base.length, .ready, none, by simp, by decide, ?_⟩
    have e1 : (base ++ loopT l n tm ps.toList assign body .ready none d :: .obj d (.dfr true) :: A).eraseIdx base.length = base ++ .obj d (.dfr true) :: A := by
     rw [List.eraseIdx_append_of_length_le (Nat.le_refl _)]; simp
    rw [e1];exact hN d A hA
   ·refine ⟨base.length, .done, some c, by simp, by decide, e, hc, ?_⟩
    have e1 : (base ++ loopT l n tm ps.toList assign body .done (some c) d :: .obj d (.dfr true) :: A).eraseIdx base.length = base ++ .obj d (.dfr true) :: A := by
     rw [List.eraseIdx_append_of_length_le (Nat.le_refl _)]; simp
    rw [e1];exact hZ d e q r A hq hA
  ·refine List.perm_middle.trans (List.Perm.cons _ (List.perm_middle.trans (List.Perm.cons _ hhs.symm)))
 ·rintro vis a vs G _ B hP ha ⟨A, rfl, hA⟩;obtain ⟨σ', h1, h2⟩ := hbody l d vis a vs G A (.obj d (.dfr true) :: B) hP ha hA;refine (round_of (F := G ++ .obj d (.dfr true) :: B) htm h1 hn h2).conv (List.Perm.cons _ (perm_mid _ _ _ _)) ?_;rintro v h1 (⟨rfl, A', rfl, hY⟩ | ⟨rfl, A', c, e, rfl, hc, hZ'⟩)
  ·exact ⟨_, List.Perm.cons _ (perm_mid _ _ _ _), .inl ⟨rfl, _, rfl, A', rfl, hY⟩⟩
  ·exact ⟨_, List.Perm.cons _ (perm_mid _ _ _ _), .inr ⟨rfl, _, rfl, A', c, e, rfl, hc, hZ'⟩⟩
end
end Go.Am
end
section
namespace Go.Am
open Go.RowKit
set_option linter.unusedVariables false
set_option linter.unusedSimpArgs false
inductive Ex (J A : Type) where
 | nx (j : J)
 | rt (a : A)
inductive Stp (σ ε : Type) where
 | ag (s : σ)
 | dn (e : ε)
section
variable {α β J A σ ε : Type}
open Classical in
noncomputable def chk (p : Prop) (k : Option α) : Option α := if p then k else none
theorem chk_some {p : Prop} {k : Option α} {r : α} (h : chk p k = some r) : p ∧ k = some r := by
 unfold chk at h;split at h
 ·exact ⟨by assumption, h⟩
 ·cases h
theorem chk_pos {p : Prop} {k : Option α} (h : p) : chk p k = k := by unfold chk; rw [if_pos h]
def el (l : List α) (i : Int) (k : α → Option β) : Option β := if 0 ≤ i then (match l[i.toNat]? with | some a => k a | none => none) else none
theorem el_some {l : List α} {i : Int} {k : α → Option β} {r : β} (h : el l i k = some r) : ∃ a, (0 ≤ i ∧ i < l.length) ∧ l[i.toNat]? = some a ∧ k a = some r := by
 unfold el at h;split at h
 ·rename_i h0
  split at h
  ·rename_i a ha
   exact ⟨a, ⟨h0, by have := (List.getElem?_eq_some_iff.1 ha).1; omega⟩, ha, h⟩
  ·cases h
 ·cases h
def seqx (x : Option (Ex J A)) (k : J → Option A) : Option A :=
 match x with
 | some (.nx j) => k j
 | some (.rt a) => some a
 | none => none
def andx (x : Option J) (k : J → Option A) : Option A :=
 match x with
 | some j => k j
 | none => none
theorem andx_some {x : Option J} {k : J → Option A} {r : A} (h : andx x k = some r) : ∃ j, x = some j ∧ k j = some r := by
 cases x with
 | none => cases h
 | some j => exact ⟨j, rfl, h⟩
def iterN (body : σ → Option (Stp σ ε)) : Nat → σ → Option ε
 | 0, _ => none
 | n + 1, s => match body s with
  | some (.ag s') => iterN body n s'
  | some (.dn e) => some e
  | none => none
open Classical in
noncomputable def iter (body : σ → Option (Stp σ ε)) (s : σ) : Option ε := if h : ∃ n e, iterN body n s = some e then iterN body h.choose s else none
theorem iter_some {body : σ → Option (Stp σ ε)} {s : σ} {e : ε} (h : iter body s = some e) : ∃ n, iterN body n s = some e := by
 unfold iter at h;split at h
 ·exact ⟨_, h⟩
 ·cases h
theorem iterN_mono {body : σ → Option (Stp σ ε)} : ∀ {n m : Nat} {s : σ} {e : ε}, iterN body n s = some e → n ≤ m → iterN body m s = some e := by
 intro n
 induction n with
 | zero => intro m s e h; cases h
 | succ n ih =>
  intro m s e h hm;cases m with
  | zero => omega
  | succ m =>
   unfold iterN at h ⊢;cases hb : body s with
   | none => rw [hb] at h; cases h
   | some x =>
    rw [hb] at h;cases x with
    | ag s' => exact ih h (by omega)
    | dn e' => exact h
theorem iter_of {body : σ → Option (Stp σ ε)} {n : Nat} {s : σ} {e : ε} (h : iterN body n s = some e) : iter body s = some e := by
 have h' : ∃ n e, iterN body n s = some e := ⟨n, e, h⟩;unfold iter;rw [dif_pos h'];obtain ⟨e', he'⟩ := h'.choose_spec
 have h1 := iterN_mono he' (Nat.le_max_left h'.choose n)
 have h2 := iterN_mono h (Nat.le_max_right h'.choose n);rw [h1] at h2;cases h2;exact he'
theorem iter_eq {body : σ → Option (Stp σ ε)} {s : σ} {e : ε} : iter body s = some e ↔ (∃ s', body s = some (.ag s') ∧ iter body s' = some e) ∨ body s = some (.dn e) := by
 constructor
 ·intro h;obtain ⟨n, h⟩ := iter_some h;cases n with
  | zero => cases h
  | succ n =>
   unfold iterN at h;cases hb : body s with
   | none => rw [hb] at h; cases h
   | some x =>
    rw [hb] at h;cases x with
    | ag s' => exact .inl ⟨s', rfl, iter_of h⟩
    | dn e' => cases h; exact .inr rfl
 ·rintro (⟨s', hb, h⟩ | hb)
  ·obtain ⟨n, h⟩ := iter_some h;exact iter_of (n := n + 1) (by unfold iterN; rw [hb]; exact h)
  ·exact iter_of (n := 1) (by unfold iterN; rw [hb])
def Ok (x : Option α) (Q : α → Prop) : Prop := ∃ a, x = some a ∧ Q a
variable {Q : β → Prop}
theorem Ok.get {x : Option α} {a : α} (h : Ok x fun r => r = a) : x = some a := let ⟨_, h1, h2⟩ := h; h2 ▸ h1
theorem Ok.of {x : Option α} {a : α} (h : x = some a) : Ok x fun r => r = a := ⟨a, h, rfl⟩
theorem Ok.some {a : β} (h : Q a) : Ok (some a) Q := ⟨a, rfl, h⟩
theorem Ok.mono {x : Option β} {Q' : β → Prop} (h : Ok x Q) (hq : ∀ a, Q a → Q' a) : Ok x Q' := let ⟨a, h1, h2⟩ := h; ⟨a, h1, hq a h2⟩
theorem Ok.chk {p : Prop} {k : Option β} (h : p) (hk : Ok k Q) : Ok (Am.chk p k) Q := by rw [chk_pos h]; exact hk
theorem Ok.el {l : List α} {i : Int} {k : α → Option β} (hi : 0 ≤ i ∧ i < l.length) (hk : ∀ a, l[i.toNat]? = .some a → Ok (k a) Q) : Ok (Am.el l i k) Q := by
 have hlt : i.toNat < l.length := by omega
 have e := List.getElem?_eq_getElem hlt;unfold Am.el;rw [if_pos hi.1, e];exact hk _ e
theorem Ok.andx {x : Option J} {k : J → Option β} {P : J → Prop} (h : Ok x P) (hk : ∀ j, P j → Ok (k j) Q) : Ok (Am.andx x k) Q := by
 obtain ⟨j, rfl, hj⟩ := h;exact hk j hj
def OkX (k : J → Option A) (Q : A → Prop) : Ex J A → Prop
 | .nx j => Ok (k j) Q
 | .rt a => Q a
theorem Ok.seqx {x : Option (Ex J A)} {k : J → Option A} {Q : A → Prop} (h : Ok x (OkX k Q)) : Ok (Am.seqx x k) Q := by
 obtain ⟨j, rfl, hj⟩ := h;cases j with
 | nx j => exact hj
 | rt a => exact .some hj
theorem Ok.ite {p : Prop} [Decidable p] {x y : Option β} (h1 : p → Ok x Q) (h2 : ¬ p → Ok y Q) : Ok (if p then x else y) Q := by
 by_cases h : p
 ·rw [if_pos h]; exact h1 h
 ·rw [if_neg h]; exact h2 h
def OkS (I : σ → Prop) (m : σ → Nat) (s : σ) (Q : ε → Prop) : Stp σ ε → Prop
 | .ag s' => I s' ∧ m s' < m s
 | .dn e => Q e
theorem Ok.iter (I : σ → Prop) (m : σ → Nat) {body : σ → Option (Stp σ ε)} {s : σ} {Q : ε → Prop} (h0 : I s) (step : ∀ s, I s → Ok (body s) (OkS I m s Q)) : Ok (Am.iter body s) Q := by
 generalize hk : m s = k
 induction k using Nat.strongRecOn generalizing s with
 | _ k ih =>
  obtain ⟨x, hb, hx⟩ := step s h0;cases x with
  | ag s' =>
   obtain ⟨e, he, hq⟩ := ih (m s') (by have := hx.2; omega) hx.1 rfl;exact ⟨e, iter_eq.2 (.inl ⟨s', hb, he⟩), hq⟩
  | dn e => exact ⟨e, iter_eq.2 (.inr hb), hx⟩
end
def Less (a b : List Thing) : Prop := ∀ S, HasS S b → HasS S a
theorem Less.refl {a : List Thing} : Less a a := fun S h => h
theorem Less.nil {b : List Thing} : Less [] b := fun S h => h.sub (List.nil_sublist _)
theorem Less.drop {a b : List Thing} {x : Thing} (h : Less a b) : Less a (x :: b) := fun S k => h S (k.sub (List.sublist_cons_self _ _))
theorem Less.trans {a b c : List Thing} (h : Less a b) (k : Less b c) : Less a c := fun S x => h S (k S x)
theorem Less.cons {a b : List Thing} {x : Thing} (h : ∀ y ∈ a, y ∈ b ∨ y.id = none) (h' : Less a b) : Less (x :: a) (x :: b) := fun S k => by
 have hb := h' S (k.sub (List.sublist_cons_self _ _));refine ⟨k.wf, fun y hy => ?_, ?_⟩
 ·rcases List.mem_cons.1 hy with rfl | hy
  ·exact k.ok _ (by simp)
  ·exact hb.ok y hy
 ·refine List.pairwise_cons.2 ⟨fun y hy => ?_, hb.apart⟩
  rcases h y hy with h | h
  ·exact (List.pairwise_cons.1 k.apart).1 y h
  ·intro i hi e; rw [h] at e; cases e
inductive Pk : List Thing → List Thing → Prop
 | nil {b : List Thing} : Pk [] b
 | refl {b : List Thing} : Pk b b
 | drop {a b : List Thing} {x : Thing} (h : Pk a b) : Pk a (x :: b)
 | pick {a b : List Thing} {p : Nat} {x : Thing} (hp : b[p]? = some x) (h : Pk a (b.eraseIdx p)) : Pk (x :: a) b
 | own0 {a b : List Thing} {u : Nat} (h : Pk a b) : Pk (.own true nilS u 0 [] :: a) b
theorem Pk.mem {a b : List Thing} (h : Pk a b) : ∀ y ∈ a, y ∈ b ∨ y.id = none := by
 induction h with
 | nil => intro y hy; simp at hy
 | refl => intro y hy; exact .inl hy
 | drop h ih => intro y hy; exact (ih y hy).imp (List.mem_cons_of_mem _) id
 | pick hp h ih =>
  intro y hy
  rcases List.mem_cons.1 hy with rfl | hy
  ·exact .inl (List.mem_of_getElem? hp)
  ·exact (ih y hy).imp List.mem_of_mem_eraseIdx id
 | own0 h ih =>
  intro y hy
  rcases List.mem_cons.1 hy with rfl | hy
  ·exact .inr rfl
  ·exact ih y hy
theorem Pk.less {a b : List Thing} (h : Pk a b) : Less a b := by
  induction h with
  | nil => exact .nil
  | refl => exact .refl
  | drop h ih => exact .drop ih
  | @pick a b p x hp h ih => exact fun S k => (Less.cons (h.mem) ih) S (HasS.perm k ((pick_perm (p := p) x hp).1.symm))
  | own0 h ih => exact fun S k => ⟨k.wf, fun x hx => by
      rcases List.mem_cons.1 hx with rfl | hx
      · exact .inl ⟨rfl, rfl, rfl, rfl⟩
      · exact (ih S k).ok x hx, List.pairwise_cons.2 ⟨fun x hx i hi => (by cases hi), (ih S k).apart⟩⟩
structure Sub2 (s s' : Sy) : Prop where
 ms : s.ms = s'.ms
 sl : ∀ t v, lk s.sl t = some v → lk s'.sl t = some v
 hs : Pk s.hs s'.hs
theorem Is.sub2 {n : Nat} {rnd : Option Nat} {a : AAct} {S : St} {s s' : Sy} (h : Is n rnd a S s') (k : Sub2 s s') : Is n rnd a S s :=
 ⟨⟨h.act.n, h.act.rnd, h.act.marks.trans k.ms.symm, fun t v x => h.act.get t v (k.sl t v x)⟩, k.hs.less S h.mem⟩
section
variable {E : Env} {n : Nat} {rnd : Option Nat} {s : Sy} {J A σ ε W : Type}
theorem T.keep2 {c : Code} {s' : Sy} {Q : Exit → Sy → Prop} (k : Sub2 s' s) (h : T E n rnd c s' Q) : T E n rnd c s Q := fun a S hi => h a S (hi.sub2 k)
theorem T.at {c : Code} {s' : Sy} {Q : Exit → Sy → Prop} (e : s' = s) (h : T E n rnd c s' Q) : T E n rnd c s Q := e ▸ h
def RepJ (mid : J → W → Sy) (Rep : A → Exit → Sy → Prop) : Ex J A → Exit → Sy → Prop
 | .nx j, e, s => e = .normal ∧ ∃ w, Sub2 (mid j w) s
 | .rt a, e, s => e ≠ .normal ∧ Rep a e s
theorem T.join (mid : J → W → Sy) {x y : Code} {Rep : A → Exit → Sy → Prop} {X : Option (Ex J A)} {B : J → Option A} {r : A} (h : seqx X B = some r)
  (hx : ∀ a, X = some a → T E n rnd x s (RepJ mid Rep a)) (hy : ∀ j w, B j = some r → T E n rnd y (mid j w) (Rep r)) : T E n rnd (.seq x y) s (Rep r) := by
 refine T.seq ?_;cases X with
 | none => cases h
 | some a =>
  refine (hx a rfl).mono fun e s' hr => ?_
  cases a with
  | nx j =>
   obtain ⟨rfl, w, hs⟩ := hr;exact T.keep2 hs (hy j w h)
  | rt b =>
   obtain ⟨he, hr⟩ := hr;cases h;cases e <;> first | exact absurd rfl he | exact hr
def RepA (mid : J → W → Sy) (j : J) : Exit → Sy → Prop := fun e s => e = .normal ∧ ∃ w, Sub2 (mid j w) s
theorem T.joinA (mid : J → W → Sy) {x y : Code} {Rep : A → Exit → Sy → Prop} {X : Option J} {B : J → Option A} {r : A} (h : andx X B = some r)
  (hx : ∀ a, X = some a → T E n rnd x s (RepA mid a)) (hy : ∀ j w, B j = some r → T E n rnd y (mid j w) (Rep r)) : T E n rnd (.seq x y) s (Rep r) := by
 obtain ⟨j, hX, hB⟩ := andx_some h;refine T.seq ((hx j hX).mono fun e s' hr => ?_);obtain ⟨rfl, w, hs⟩ := hr;exact T.keep2 hs (hy j w hB)
def RepL (st : σ → W → Sy) (Rep : ε → Exit → Sy → Prop) : Stp σ ε → Exit → Sy → Prop
 | .ag s, e, sy => e = .normal ∧ ∃ w, Sub2 (st s w) sy
 | .dn x, e, sy => e ≠ .normal ∧ Rep x e sy
theorem T.iter (st : σ → W → Sy) {c : Code} {Rep : ε → Exit → Sy → Prop} {body : σ → Option (Stp σ ε)} {s0 : σ} {w0 : W} {r : ε} (h : iter body s0 = some r) (hs : Sub2 (st s0 w0) s)
  (step : ∀ s w a, body s = some a → T E n rnd c (st s w) (RepL st Rep a)) : T E n rnd (.loop c) s (Rep r) := by
 obtain ⟨k, h'⟩ := iter_some h;refine T.keep2 hs ?_
 clear hs h
 have h := h'
 clear h'
 induction k generalizing s0 w0 with
 | zero => cases h
 | succ m ih =>
  unfold iterN at h;cases hb : body s0 with
  | none => rw [hb] at h; cases h
  | some x =>
   rw [hb] at h;refine .of_step fun a S hi => ?_
   refine Evt.bind ((step s0 w0 x hb a S hi).mono fun rr ⟨e, a', S', s1, h1, h2, h3⟩ => ?_);subst h1;cases x with
   | ag s2 =>
    obtain ⟨rfl, w1, hs1⟩ := h3;exact ih h a' S' (h2.sub2 hs1)
   | dn x =>
    obtain ⟨he, hr⟩ := h3;cases h;refine Evt.pure (x := (.exit e a', S')) (fun rec => ?_) ⟨_, _, _, _, rfl, h2, hr⟩;cases e <;> first | exact absurd rfl he | rfl
theorem ex_ne {i : Nat} : Exit.exit i ≠ .normal := fun h => by cases h
theorem ret_ne : Exit.ret ≠ .normal := fun h => by cases h
end
section
variable {E : Env} {d : Bool} {n : Nat} {rnd : Option Nat} {ops : Array Oper} {i : Nat} {l : List Nat} {ms : List Nat} {σ : Sl} {hs hs' : List Thing} {Q : Sy → Prop} {t : Tmp} {op : Op} {ty : TypeId} {pos : String} {af : Array Edge} {g : Option (Nat × Bool)}
def RepF {W : Type} (vw : W → AV) (hw : W → List Thing) : AV → List Thing → Prop := fun v hs' => ∃ w, v = vw w ∧ Pk (hw w) hs'
theorem RepF.conv {W : Type} {vw : W → AV} {hw : W → List Thing} {f : FuncId} {vs : List AV} (h : TF E f vs hs (RepF vw hw)) : TF E f vs hs fun v hs' => ∃ w, v = vw w ∧ hs' = hw w := fun S hS =>
 (h S hS).mono fun r ⟨v, S', hs', h1, h2, w, h3, h4⟩ => ⟨v, S', _, h1, h4.less S' h2, w, h3, rfl⟩
theorem TO.callT {W : Type} {vw : W → AV} {hw : W → List Thing} {f : FuncId} {fn : Func} {x : Operand} {xs : Array Operand} {ts : Array TypeId} {vs first cap : List AV}
  (ho : ops[i]? = some ⟨some t, .call { callee := .value x, args := xs, argTypes := ts }, ty, pos, af, g⟩) (hd : Nat.blt t n = true) (hwt : wantS ops σ g = some true) (hx : evs σ x = some (.func f first cap)) (hxs : evsL σ xs.toList = some vs) (hf : E.fn f = some fn) (hG : E.orc f = none)
  (hc : TF E f (first ++ vs ++ cap) hs (RepF vw hw)) (k : ∀ w, TO E false n rnd ops l ⟨ms, (t, vw w) :: σ, hw w⟩ Q) : TO E false n rnd ops (i :: l) ⟨ms, σ, hs⟩ Q := by
 refine TO.callV ho hd hwt hx hxs hf hG (RepF.conv hc) ?_;rintro v hs' ⟨w, rfl, rfl⟩;exact k w
theorem TF.run {W : Type} {vw : W → AV} {hw : W → List Thing} {f : FuncId} {vs : List AV} {t : AV} (h : TF E f vs [] (RepF vw hw)) (hr : ∀ w, RefN 12 (hw w) (vw w) t) : Comes E f vs t :=
 .of ((RepF.conv h).mono fun v hs' ⟨w, h1, h2⟩ => by subst h1; subst h2; exact hr w)
end
end Go.Am
end
section
namespace Go.Am
open Go.RowKit
set_option linter.unusedVariables false
set_option linter.unusedSimpArgs false
@[simp] theorem oneCell_nil : oneCell nilS = true := rfl
abbrev I64 (x : Int) : Prop := -9223372036854775808 ≤ x ∧ x < 9223372036854775808
section
variable {E : Env} {d : Bool} {n : Nat} {rnd : Option Nat} {ops : Array Oper} {i : Nat} {l l1 l2 : List Nat} {ms : List Nat} {σ : Sl} {hs hs' C : List Thing} {Q : Sy → Prop} {t : Tmp} {op : Op} {ty : TypeId} {pos : String} {af : Array Edge} {g : Option (Nat × Bool)}
variable {past : List (Nat × List Thing)} {seen : List Rd} {fl : List Fl}
theorem T.fact {c : Code} {Q : Exit → Sy → Prop} {P : Prop} (hf : ∀ S, HasS S hs → P) (h : P → T E n rnd c ⟨ms, σ, hs⟩ Q) : T E n rnd c ⟨ms, σ, hs⟩ Q := fun a S hi => h (hf S hi.mem) a S hi
theorem TO.fact {P : Prop} (hf : ∀ S, HasS S hs → P) (h : P → TO E d n rnd ops l ⟨ms, σ, hs⟩ Q) : TO E d n rnd ops l ⟨ms, σ, hs⟩ Q := fun a S hi => h (hf S hi.mem) a S hi
theorem TD1.fact {P : Prop} (hf : ∀ S, HasS S hs → P) (h : P → TD1 E n rnd ops l1 l2 ⟨ms, σ, hs⟩ seen fl Q) : TD1 E n rnd ops l1 l2 ⟨ms, σ, hs⟩ seen fl Q := fun a S xs fs hi hx hf' => h (hf S hi.mem) a S xs fs hi hx hf'
theorem TD2.fact {P : Prop} (hf : ∀ S, HasS S hs → P) (h : P → TD2 E n rnd ops l ⟨ms, σ, hs⟩ past seen fl Q) : TD2 E n rnd ops l ⟨ms, σ, hs⟩ past seen fl Q := fun a S ps xs fs hi hp hx hf' => h (hf S hi.mem) a S ps xs fs hi hp hx hf'
theorem HasS.nilown {S : St} {u : Nat} (h : HasS S hs) : HasS S (.own true nilS u 0 [] :: hs) := ⟨h.wf, fun x hx => by
    rcases List.mem_cons.1 hx with rfl | hx
    · exact .inl ⟨rfl, rfl, rfl, rfl⟩
    · exact h.ok x hx, List.pairwise_cons.2 ⟨fun x hx i hi => (by cases hi), h.apart⟩⟩
theorem TD1.nilown {u : Nat} (h : TD1 E n rnd ops l1 l2 ⟨ms, σ, .own true nilS u 0 [] :: hs⟩ seen fl Q) : TD1 E n rnd ops l1 l2 ⟨ms, σ, hs⟩ seen fl Q := fun a S xs fs hi hx hf' => h a S xs fs ⟨hi.act, hi.mem.nilown⟩ hx hf'
theorem TD2.nilown {u : Nat} (h : TD2 E n rnd ops l ⟨ms, σ, .own true nilS u 0 [] :: hs⟩ past seen fl Q) : TD2 E n rnd ops l ⟨ms, σ, hs⟩ past seen fl Q := fun a S ps xs fs hi hp hx hf' => h a S ps xs fs ⟨hi.act, hi.mem.nilown⟩ hp hx hf'
theorem own_cellS {p u m : Nat} {z : Bool} {v : AV} {cells : List AV} (hp : hs[p]? = some (.own z v u m cells)) : ∀ S, HasS S hs → cellsOf v = [v] ∧ oneCell v = true := fun S h => own_cell (h.own hp)
section
variable {xt ty' : TypeId} {x y : Operand} {a b : Int} {c : Bool}
theorem Val.lss (hc : c = decide (a < b)) (hx : evs σ x = some (iv a)) (hy : evs σ y = some (iv b)) : Val E σ hs (.binOp .lss xt x y ty') (bv c) := by subst hc; exact Val.cmp hx hy rfl
theorem Val.gtr (hc : c = decide (a > b)) (hx : evs σ x = some (iv a)) (hy : evs σ y = some (iv b)) : Val E σ hs (.binOp .gtr xt x y ty') (bv c) := by subst hc; exact Val.cmp hx hy rfl
theorem Val.leq (hc : c = decide (a ≤ b)) (hx : evs σ x = some (iv a)) (hy : evs σ y = some (iv b)) : Val E σ hs (.binOp .leq xt x y ty') (bv c) := by subst hc; exact Val.cmp hx hy rfl
theorem Val.geq (hc : c = decide (a ≥ b)) (hx : evs σ x = some (iv a)) (hy : evs σ y = some (iv b)) : Val E σ hs (.binOp .geq xt x y ty') (bv c) := by subst hc; exact Val.cmp hx hy rfl
theorem Val.eql (hc : c = decide (a = b)) (hx : evs σ x = some (iv a)) (hy : evs σ y = some (iv b)) : Val E σ hs (.binOp .eql xt x y ty') (bv c) := by subst hc; exact Val.cmp hx hy rfl
theorem Val.neq (hc : c = decide (¬ a = b)) (hx : evs σ x = some (iv a)) (hy : evs σ y = some (iv b)) : Val E σ hs (.binOp .neq xt x y ty') (bv c) := by subst hc; exact Val.cmp hx hy rfl
end
theorem Val.binD {op : BinOp} {xt ty : TypeId} {x y : Operand} {v w : AV} {b c : Bool} {p : Prop} {dp : Decidable p} (hc : c = @decide p dp) (hx : evs σ x = some v) (hy : evs σ y = some w) (hp : abin E op xt x y v w = .ok (bv b) ∧ (b = true ↔ p)) : Val E σ hs (.binOp op xt x y ty) (bv c) := by
 have : c = b := by
  subst hc;cases b with
  | true => exact decide_eq_true (hp.2.1 rfl)
  | false => exact decide_eq_false fun k => Bool.noConfusion (hp.2.2 k)
 subst this;exact Val.bin hx hy hp.1
theorem Val.bmax {x y : Operand} {ts : Array TypeId} {a b : Int} (hx : evs σ x = some (iv a)) (hy : evs σ y = some (iv b)) : Val E σ hs (.call { callee := .builtin .max, args := #[x, y], argTypes := ts }) (iv (max a b)) := fun ev S he _ o ho => by
 have e : pureVal E.P (Builtin.max_ ts o.type #[.int .i64 a, .int .i64 b]) = some (.int .i64 (if b > a then b else a)) := rfl
 have e2 : (if b > a then b else a) = max a b := by split <;> omega
 unfold aop; rw [ho];simp only [acall, abuiltin, List.map_cons, List.map_nil, he _ _ hx, he _ _ hy, pureBuiltin, mapR, toV, Except.bind, e, e2, ofOpt];rfl
theorem Val.bmin {x y : Operand} {ts : Array TypeId} {a b : Int} (hx : evs σ x = some (iv a)) (hy : evs σ y = some (iv b)) : Val E σ hs (.call { callee := .builtin .min, args := #[x, y], argTypes := ts }) (iv (min a b)) := fun ev S he _ o ho => by
 have e : pureVal E.P (Builtin.min_ ts o.type #[.int .i64 a, .int .i64 b]) = some (.int .i64 (if b < a then b else a)) := rfl
 have e2 : (if b < a then b else a) = min a b := by split <;> omega
 unfold aop; rw [ho];simp only [acall, abuiltin, List.map_cons, List.map_nil, he _ _ hx, he _ _ hy, pureBuiltin, mapR, toV, Except.bind, e, e2, ofOpt];rfl
theorem Eff.val {op : Op} {v : AV} (h : Val E σ hs op v) : Eff E σ hs op fun v' hs' => v' = v ∧ hs' = hs := fun ev S he hS o ho => ⟨v, S, hs, h ev S he hS o ho, hS, rfl, rfl⟩
def cntI (f : Int → Int) : Value → Int := fun v => match v with | .int .i64 n => f n | _ => 0
open Classical in
noncomputable def putI (f : Int → Int) (k m : Int) : Int → Int := fun x => if x = k then m else f x
theorem putI_same {f : Int → Int} {k m : Int} : putI f k m k = m := by simp [putI]
theorem putI_ne {f : Int → Int} {k m x : Int} (h : x ≠ k) : putI f k m x = f x := by simp [putI, h]
theorem cput_int {f : Int → Int} {k m : Int} : cput (cntI f) (.int .i64 k) m = cntI (putI f k m) := by
 funext v
 unfold cput cntI putI;cases v with
 | int kk x =>
  cases kk with
  | i64 =>
   by_cases h : x = k
   ·subst h; simp
   ·simp [h]
  | _ => simp
 | _ => simp
theorem cnt_zero : (fun _ : Value => (0 : Int)) = cntI fun _ => 0 := by
 funext v
 unfold cntI;split <;> rfl
theorem Val.lookupI {mt kt et p id : Nat} {x y : Operand} {k : Int} {f : Int → Int} {mk : List (Value × Nat)} (hp : hs[p]? = some (.cnt id KInt (cntI f) mk)) (ht : E.und mt = some (.map kt et)) (hK : KeyG E.P kt KInt) (hz : E.zro et = some (.int .i64 0)) (hx : evs σ x = some (.map id)) (hy : evs σ y = some (iv k)) :
  Val E σ hs (.lookup mt x y false) (iv (f k)) := Val.lookup (key := .int .i64 k) hp ht hK hz hx hy rfl ⟨_, rfl⟩
theorem TO.makeMapI {mt : Nat} (ho : ops[i]? = some ⟨some t, .makeMap mt none, ty, pos, af, g⟩) (hd : Nat.blt t n = true) (hw : wantS ops σ g = some true)
  (c : ∀ id, TO E false n rnd ops l ⟨ms, (t, .map id) :: σ, .cnt id KInt (cntI fun _ => 0) [] :: hs⟩ Q) : TO E false n rnd ops (i :: l) ⟨ms, σ, hs⟩ Q := by
 refine TO.makeMap KInt ho hd hw fun id => ?_
 rw [cnt_zero];exact c id
theorem Eff.mapUpdateI {mt kt et p id : Nat} {x y z : Operand} {k m : Int} {f : Int → Int} {mk : List (Value × Nat)} (hp : hs[p]? = some (.cnt id KInt (cntI f) mk)) (ht : E.und mt = some (.map kt et)) (hK : KeyG E.P kt KInt) (hx : evs σ x = some (.map id)) (hy : evs σ y = some (iv k)) (hv : evs σ z = some (iv m)) :
  Eff E σ hs (.mapUpdate mt x y z) fun _ hs' => hs' = hs.set p (.cnt id KInt (cntI (putI f k m)) []) := by
 have := Eff.mapUpdate (E := E) (key := .int .i64 k) hp ht hK hx hy rfl ⟨_, rfl⟩ hv;rw [cput_int] at this;exact this
def Rdl {α : Type} (C : List Thing) (en : En α) (v : AV) (l : List α) : Prop := (∃ gs : GS en, gs.v = v ∧ gs.l = l) ∨ ∃ z, ownL z v en l ∈ C
theorem Rdl.gs {α : Type} {en : En α} (x : GS en) : Rdl C en x.v x.l := .inl ⟨x, rfl, rfl⟩
theorem Rdl.own {α : Type} {en : En α} {z : Bool} {v : AV} {l : List α} {p : Nat} (h : C[p]? = some (ownL z v en l)) : Rdl C en v l := .inr ⟨z, List.mem_of_getElem? h⟩
theorem Rdl.nil {α : Type} {en : En α} : Rdl C en nilS [] := .inl ⟨GSo true en [], rfl, rfl⟩
theorem Rdl.mono {α : Type} {en : En α} {v : AV} {l : List α} {C' : List Thing} (h : Rdl C en v l) (hC : ∀ x ∈ C, x ∈ C') : Rdl C' en v l := h.imp (fun x => x) fun ⟨z, hz⟩ => ⟨z, hC _ hz⟩
inductive PtE {α : Type} (C : List Thing) (en : En α) (a : α) (j : Nat) : AV → Prop
 | tree (rest : List AV) (hj : j ≤ en.u) : PtE C en a j (.tptr ((en.f a).drop j ++ rest))
 | own {z : Bool} {v : AV} {l : List α} {id k i : Nat} {ex : Bool} (hm : ownL z v en l ∈ C) (hv : v = .slice id 0 k ex l.length l.length) (ha : l[i]? = some a) : PtE C en a j (.ptr id (i * en.u + j) k)
def padd : AV → Nat → AV
 | .tptr cs, n => .tptr (cs.drop n)
 | .ptr id o k, n => .ptr id (o + n) k
 | v, _ => v
theorem PtE.add {α : Type} {en : En α} {a : α} {j k : Nat} {p : AV} (h : PtE C en a j p) (hk : j + k ≤ en.u) : PtE C en a (j + k) (padd p k) := by
 cases h with
 | tree rest hj =>
  have e : ((en.f a).drop j ++ rest).drop k = (en.f a).drop (j + k) ++ rest := by
   rw [List.drop_append, List.drop_drop]
   have : (List.drop j (en.f a)).length = en.u - j := by rw [List.length_drop, en.len]
   rw [this, Nat.sub_eq_zero_of_le (by omega : k ≤ en.u - j)];rfl
  show PtE C en a (j + k) (.tptr (((en.f a).drop j ++ rest).drop k));rw [e];exact .tree _ hk
 | own hm hv ha =>
  show PtE C en a (j + k) (.ptr _ _ _)
  have := PtE.own (j := j + k) hm hv ha;rw [← Nat.add_assoc] at this;exact this
theorem rdl_at {α : Type} {en : En α} {v : AV} {l : List α} {k : Int} {a : α} (h : Rdl C en v l) (hC : ∀ x ∈ C, x ∈ hs) (hk : 0 ≤ k ∧ k < l.length) (ha : l[k.toNat]? = some a) :
  ∀ S, HasS S hs → ∃ p, PtE C en a 0 p ∧ ∀ {E : Env} {σ : Sl} {hs : List Thing} {st e : TypeId} {x y : Operand}, SliceT E st e en.u → evs σ x = some v → evs σ y = some (iv k) → Val E σ hs (.indexAddr st x y) p := fun S hS => by
 rcases h with ⟨gs, rfl, rfl⟩ | ⟨z, hz⟩
 ·rcases gs.ok with ⟨h1, h2, h3⟩ | ⟨h1, h2⟩
  ·omega
  ·refine ⟨.tptr (en.f a ++ (gs.l.drop (k.toNat + 1)).flatMap en.f), .tree (j := 0) _ (Nat.zero_le _), fun {E σ hs st e x y} ht hx hy => ?_⟩;obtain ⟨a', rest, e1, hv⟩ := Val.index_gs (E := E) (σ := σ) (hs := hs) ht hx hy hk;intro ev S he hS o ho
   have hr := flat_drop (enc := en) gs.l k.toNat a ha;unfold aop; rw [ho]
   have e1 : decide (0 ≤ k) = true := decide_eq_true hk.1
   have e2 : decide (k < (gs.l.length : Int)) = true := decide_eq_true hk.2;simp only [he _ _ hx, he _ _ hy, h1, aindexAddr, intOf?, ht.1, ht.2, ofOpt, Except.bind, e1, e2, Bool.and_self, cond_true, valOf, hr];rfl
 ·rcases hS.ok _ (hC _ hz) with ⟨h0, h1, h2, h3⟩ | ⟨id, ex, h1, h2, h3, h4⟩
  ·omega
  ·refine ⟨.ptr id (k.toNat * en.u) (l.flatMap en.f).length, PtE.own (j := 0) hz h1 ha, fun {E σ hs st e x y} ht hx hy => ?_⟩
   have := Val.iaddr_slice (E := E) (hs := hs) ht (hx.trans (congrArg some h1)) hy hk
   rwa [Nat.zero_add] at this
theorem Val.faddr_e {α : Type} {en : En α} {a : α} {j : Nat} {p : AV} {s f fo m : Nat} {x : Operand} {fd : Field} (h : PtE C en a j p) (hf : fieldOf E s f = .ok (fd, m)) (hx : evs σ x = some p) (ho' : Nat.beq fd.offset fo = true) : Val E σ hs (.fieldAddr s x f) (padd p fo) := by
 have e := Nat.eq_of_beq_eq_true ho';cases h with
 | tree rest hj => exact Val.faddr_tree hf hx ho' rfl
 | own hm hv ha => exact Val.faddr_ptr hf hx (by rw [e]; exact Nat.beq_refl _)
theorem Val.load_e {α : Type} {en : En α} {a : α} {j : Nat} {p w : AV} {bt : TypeId} {x : Operand} (h : PtE C en a j p) (hC : ∀ x ∈ C, x ∈ hs) (ht : Scalar E bt) (hx : evs σ x = some p) (hw : (en.f a)[j]? = some w) : Val E σ hs (.load bt x) w := by
 have hj : j < (en.f a).length := (List.getElem?_eq_some_iff.1 hw).1;cases h with
 | tree rest hj' =>
  have e : (en.f a).drop j = w :: (en.f a).drop (j + 1) := by rw [List.drop_eq_getElem_cons hj, (List.getElem?_eq_some_iff.1 hw).2]
  rw [e] at hx;exact Val.load_tree ht hx
 | own hm hv ha =>
  obtain ⟨p, hp⟩ := List.mem_iff_getElem?.1 (hC _ hm);refine Val.load_own hp hv ht hx ?_;rw [flat_get ha (by rw [← en.len a]; exact hj)];exact hw
theorem Val.load_es {α : Type} {en : En α} {a : α} {j m : Nat} {p : AV} {c : List AV} {bt : TypeId} {x : Operand} (h : PtE C en a j p) (hC : ∀ x ∈ C, x ∈ hs) (ht : Aggr E bt m) (hx : evs σ x = some p) (hc : ((en.f a).drop j).take m = c) (hm : Nat.beq c.length m = true) : Val E σ hs (.load bt x) (.agg c) := by
 have hl := Nat.eq_of_beq_eq_true hm
 have hle : m ≤ (en.f a).length - j := by have := congrArg List.length hc; rw [List.length_take, List.length_drop] at this; omega
 cases h with
 | tree rest hj' =>
  have e : (en.f a).drop j ++ rest = c ++ (((en.f a).drop j).drop m ++ rest) := by rw [← hc, ← List.append_assoc, List.take_append_drop]
  rw [e] at hx;exact Val.load_trees ht hx hl
 | own hm hv ha =>
  obtain ⟨p, hp⟩ := List.mem_iff_getElem?.1 (hC _ hm)
  rename_i z v l id k i ex
  refine Val.load_owns hp hv ht hx ?_ hl
  have hd := flat_drop (enc := en) l i a ha;rw [← List.drop_drop, hd, List.drop_append_of_le_length (by have := en.len a; have := ht.2.2; omega), List.take_append_of_le_length (by rw [List.length_drop]; omega), hc]
theorem Val.len_l {α : Type} {en : En α} {v : AV} {l : List α} {x : Operand} {st e : TypeId} (h : Rdl C en v l) (hC : ∀ x ∈ C, x ∈ hs) (ht : E.und st = some (.slice e)) (hx : evs σ x = some v) :
  Val E σ hs (.call { callee := .builtin .len, args := #[x], argTypes := #[st] }) (iv l.length) := by
 rcases h with ⟨gs, rfl, rfl⟩ | ⟨z, hz⟩
 ·exact Val.len_gs ht hx
 ·obtain ⟨p, hp⟩ := List.mem_iff_getElem?.1 (hC _ hz);exact Val.len_own hp ht hx
theorem Rdl.reif {α : Type} {en : En α} {v : AV} {l : List α} (h : Rdl C en v l) (hC : ∀ x ∈ C, x ∈ hs) (ht : ∀ k hs, ReifL (k + 1) hs (l.flatMap en.f) (l.flatMap en.f)) : ∃ gs : GS en, gs.l = l ∧ ∀ k, Reif (k + 2) hs v gs.v := by
 rcases h with ⟨gs, rfl, rfl⟩ | ⟨z, hz⟩
 ·exact ⟨gs, rfl, fun k => .gs⟩
 ·exact ⟨GSo z en l, rfl, fun k => Reif.own (hC _ hz) (ht k hs)⟩
theorem Val.load_rowM {bt : TypeId} {x : Operand} {id u off k : Nat} {cells : List AV} {v : AV} (hp : Thing.row id u cells ∈ C) (hC : ∀ x ∈ C, x ∈ hs) (ht : Scalar E bt) (hx : evs σ x = some (.ptr id off k)) (hk : cells.length = k) (hv : cells[off]? = some v) : Val E σ hs (.load bt x) v := by
 obtain ⟨p, hp⟩ := List.mem_iff_getElem?.1 (hC _ hp);exact Val.load_row hp ht hx hk hv
theorem own_at {α : Type} {en : En α} {l : List α} {p : Nat} {z : Bool} {v : AV} {k : Int} (hp : hs[p]? = some (ownL z v en l)) (hk : 0 ≤ k ∧ k < l.length) : ∀ S, HasS S hs → ∃ id, IsAt v en l id := fun S hS => by
 rcases hS.own hp with ⟨h0, h1, h2, h3⟩ | ⟨id, ex, h1, h2, h3, h4⟩
 ·omega
 ·exact ⟨id, ex, h1⟩
theorem Val.iaddr_at {α : Type} {en : En α} {l : List α} {v : AV} {id : Nat} {st et : TypeId} {x y : Operand} {k : Int} (hat : IsAt v en l id) (ht : SliceT E st et en.u) (hx : evs σ x = some v) (hy : evs σ y = some (iv k)) (hk : 0 ≤ k ∧ k < l.length) :
  Val E σ hs (.indexAddr st x y) (.ptr id (k.toNat * en.u) (l.flatMap en.f).length) := by
 obtain ⟨ex, hat⟩ := hat
 have := Val.iaddr_slice (E := E) (hs := hs) ht (hx.trans (congrArg some hat)) hy hk
 rwa [Nat.zero_add] at this
theorem splice_mid {xs ys ws : List AV} {off j : Nat} {cv : List AV} (h1 : xs.length = off) (h2 : j + cv.length ≤ ys.length) : spliceL (xs ++ (ys ++ ws)) (off + j) cv = xs ++ (spliceL ys j cv ++ ws) := by
 subst h1;unfold spliceL;rw [List.take_append, List.drop_append, List.take_of_length_le (by omega), List.drop_eq_nil_of_le (by omega), Nat.add_sub_cancel_left, List.nil_append];rw [List.take_append_of_le_length (by omega)]
 have e : xs.length + j + cv.length - xs.length = j + cv.length := by omega
 rw [e, List.drop_append_of_le_length h2];simp [List.append_assoc]
theorem flat_splice {α : Type} {en : En α} {l : List α} {k j : Nat} {a a' : α} {cv : List AV} (ha : l[k]? = some a) (h2 : j + cv.length ≤ en.u) (hc : spliceL (en.f a) j cv = en.f a') : spliceL (l.flatMap en.f) (k * en.u + j) cv = (l.set k a').flatMap en.f := by
 have hk : k < l.length := (List.getElem?_eq_some_iff.1 ha).1
 have e1 : l = l.take k ++ a :: l.drop (k + 1) := by rw [← (show l.drop k = a :: l.drop (k + 1) by rw [List.drop_eq_getElem_cons hk, (List.getElem?_eq_some_iff.1 ha).2]), List.take_append_drop]
 have hlk : (l.take k).length = k := by rw [List.length_take]; omega
 have e2 : l.set k a' = l.take k ++ a' :: l.drop (k + 1) := by
  rw [List.set_eq_take_append_cons_drop, if_pos hk]
 rw [e2]
 conv => lhs; rw [e1]
 rw [List.flatMap_append, List.flatMap_cons, splice_mid (by rw [flat_len, hlk]) (by rw [en.len]; exact h2), hc, List.flatMap_append, List.flatMap_cons]
theorem Eff.store_ownE {α : Type} {en : En α} {l : List α} {bt : TypeId} {x y : Operand} {p id k j m : Nat} {z : Bool} {v w : AV} {a a' : α} {cv : List AV} (hp : hs[p]? = some (ownL z v en l)) (hv : IsAt v en l id) (ha : l[k]? = some a) (ht : E.siz bt = some m) (hm : Nat.beq m 0 = false) (hu : j + m ≤ en.u)
  (hx : evs σ x = some (.ptr id (k * en.u + j) (l.flatMap en.f).length)) (hy : evs σ y = some w) (hcv : cellsOf w = cv) (hl : Nat.beq cv.length m = true) (ho1 : cv.all oneCell = true) (hc : spliceL (en.f a) j cv = en.f a') :
  Eff E σ hs (.store bt x y) fun _ hs' => hs' = hs.set p (ownL z v en (l.set k a')) := fun ev S he hS o ho => by
 obtain ⟨ex, hv⟩ := hv
 have hl' := Nat.eq_of_beq_eq_true hl
 have hk : k < l.length := (List.getElem?_eq_some_iff.1 ha).1
 have hle : (k + 1) * en.u ≤ l.length * en.u := Nat.mul_le_mul_right _ hk;rw [Nat.succ_mul] at hle
 have hfl := flat_len en l
 have hsp := flat_splice (en := en) ha (by omega : j + cv.length ≤ en.u) hc
 rcases hS.own hp with ⟨h0, h1, h2, h3⟩ | ⟨id', ex', h1, h2, h3, h4⟩
 ·rw [hv] at h1; cases h1
 ·have h1' := h1;rw [hv] at h1;cases h1
  have hsw := hS.swap hp (y := .row id en.u (l.flatMap en.f)) h4 (.inl (by rw [hv]; rfl))
  have hget : (hs.set p (.row id en.u (l.flatMap en.f)))[p]? = some (.row id en.u (l.flatMap en.f)) := by
   rw [List.getElem?_set]; simp [(List.getElem?_eq_some_iff.1 hp).1]
  obtain ⟨v2, S2, hs2, k1, k2, rfl⟩ := Eff.store_row (E := E) (bt := bt) hget ht hx rfl hy hcv hl hm ho1 (by omega) hsp ev S he hsw o ho;refine ⟨v2, S2, _, k1, ?_, rfl⟩
  have hget2 : ((hs.set p (.row id en.u (l.flatMap en.f))).set p (.row id en.u ((l.set k a').flatMap en.f)))[p]? = some (.row id en.u ((l.set k a').flatMap en.f)) := by
   rw [List.set_set, List.getElem?_set]; simp [(List.getElem?_eq_some_iff.1 hp).1]
  have hfl2 := flat_len en (l.set k a');rw [List.length_set] at hfl2
  have := k2.swap hget2 (y := ownL z v en (l.set k a')) (.inr ⟨id, ex, by rw [hv, List.length_set, hfl, hfl2], by rw [hfl2, List.length_set], fun hz => by rw [List.length_set]; exact h3 hz, k2.row hget2⟩) (.inl (by rw [hv]; rfl))
  rwa [List.set_set, List.set_set] at this
theorem Eff.append {α : Type} {st e b p : Nat} {z : Bool} {v w : AV} {en : En α} {l l2 : List α} {ts : Array TypeId} {x y : Operand} (ht : AppT E st e en.u b) (hts : ts[0]? = some st) (hni : notInt E ts[1]? = .ok ()) (hp : hs[p]? = some (ownL z v en l))
  (hx : evs σ x = some v) (hy : evs σ y = some w) (hsrc : ∀ S, HasS S hs → Src S w en.u l2.length (l2.flatMap en.f)) (hb : b ≤ 128) (hbig : l.length + l2.length < 1000000000) :
  Eff E σ hs (.call { callee := .builtin .append, args := #[x, y], argTypes := ts }) fun v' hs' => hs' = hs.set p (ownL z v' en (l ++ l2)) := fun ev S he hS o ho => by
 have hbb : (2 * (l.length + l2.length) + 1000) * b ≤ (2 * 1000000000 + 1000) * 128 := Nat.mul_le_mul (by omega) hb;obtain ⟨v', S', h1, h2⟩ := append_own hS ht hts hni hp (hsrc S hS) (by omega);rw [ownL_append] at h2;refine ⟨v', S', _, ?_, h2, rfl⟩;unfold aop; rw [ho];simp only [acall, abuiltin, List.map_cons, List.map_nil, he _ _ hx, he _ _ hy, h1, Except.bind]
theorem Eff.append_own {α : Type} {st e b p q : Nat} {z z2 : Bool} {v w : AV} {en : En α} {l l2 : List α} {ts : Array TypeId} {x y : Operand} (ht : AppT E st e en.u b) (hts : ts[0]? = some st) (hni : notInt E ts[1]? = .ok ()) (hp : hs[p]? = some (ownL z v en l)) (hq : hs[q]? = some (ownL z2 w en l2))
  (hx : evs σ x = some v) (hy : evs σ y = some w) (hone : (l2.flatMap en.f).all oneCell = true) (hb : b ≤ 128) (hbig : l.length + l2.length < 1000000000) :
  Eff E σ hs (.call { callee := .builtin .append, args := #[x, y], argTypes := ts }) fun v' hs' => hs' = hs.set p (ownL z v' en (l ++ l2)) := .append ht hts hni hp hx hy (fun S hS => src_own hS hq hone) hb hbig
theorem Eff.append_l {α : Type} {st e b p : Nat} {z : Bool} {v w : AV} {en : En α} {l l2 : List α} {ts : Array TypeId} {x y : Operand} (ht : AppT E st e en.u b) (hts : ts[0]? = some st) (hni : notInt E ts[1]? = .ok ()) (hp : hs[p]? = some (ownL z v en l)) (hq : Rdl C en w l2) (hC : ∀ x ∈ C, x ∈ hs)
    (hx : evs σ x = some v) (hy : evs σ y = some w) (hone : (l2.flatMap en.f).all oneCell = true) (hb : b ≤ 128) (hbig : l.length + l2.length < 1000000000) :
    Eff E σ hs (.call { callee := .builtin .append, args := #[x, y], argTypes := ts }) fun v' hs' => hs' = hs.set p (ownL z v' en (l ++ l2)) := .append ht hts hni hp hx hy (fun S hS => by
      rcases hq with ⟨gs, rfl, rfl⟩ | ⟨z2, hz⟩
      · exact src_gs gs hone
      · obtain ⟨q, hq⟩ := List.mem_iff_getElem?.1 (hC _ hz)
        exact src_own hS hq hone) hb hbig
theorem Eff.copy_l {α : Type} {en : En α} {l l2 : List α} {st e p : Nat} {z : Bool} {v w : AV} {ts : Array TypeId} {x y : Operand} (ht : SliceT E st e en.u) (hu : en.u ≠ 0) (hts : ts[0]? = some st) (hp : hs[p]? = some (ownL z v en l)) (hq : Rdl C en w l2) (hC : ∀ x ∈ C, x ∈ hs) (hx : evs σ x = some v) (hy : evs σ y = some w)
  (hone : (l2.flatMap en.f).all oneCell = true) (hl : l.length = l2.length) : Eff E σ hs (.call { callee := .builtin .copy, args := #[x, y], argTypes := ts }) fun r hs' => r = iv l.length ∧ hs' = hs.set p (ownL z v en l2) := by
 rcases hq with ⟨gs, rfl, rfl⟩ | ⟨z2, hz⟩
 ·exact Eff.copy_gs ht hu hts hp hx hy hone hl
 ·obtain ⟨q, hq⟩ := List.mem_iff_getElem?.1 (hC _ hz);exact Eff.copy_own ht hu hts hp hq hx hy hone hl
theorem TO.makeE {α : Type} {en : En α} (a0 : α) {st et : Nat} {x y : Operand} {m : Int} {b : Nat} {z : Value} (ho : ops[i]? = some ⟨some t, .makeSlice st x y, ty, pos, af, g⟩) (hd : Nat.blt t n = true) (hw : wantS ops σ g = some true)
  (ht : SliceT E st et en.u) (hb : E.byt et = some b) (hz : E.zro et = some z) (hzc : zeroCells z = en.f a0) (hx : evs σ x = some (iv m)) (hy : evs σ y = some (iv m)) (hm : 0 ≤ m ∧ m ≤ 1000000000) (hbb : b ≤ 256)
  (c : ∀ v', TO E false n rnd ops l ⟨ms, (t, v') :: σ, ownL false v' en (List.replicate m.toNat a0) :: hs⟩ Q) : TO E false n rnd ops (i :: l) ⟨ms, σ, hs⟩ Q := by
 have e : ((m.toNat : Nat) : Int) = m := by omega
 have h2 : (b : Int) * (m.toNat : Nat) ≤ 256 * 1000000000 := by
  have : b * m.toNat ≤ 256 * 1000000000 := Nat.mul_le_mul hbb (by omega);exact Int.ofNat_le.2 this
 exact TO.makeEn a0 ho hd hw ht hb hz hzc (by rw [e]; exact hx) (by rw [e]; exact hy) (by omega) (by omega) fun v' _ => c v'
end
theorem mem0 {C : List Thing} : ∀ x ∈ C, x ∈ C := fun x h => h
theorem memS {C hs : List Thing} {y : Thing} (h : ∀ x ∈ C, x ∈ hs) : ∀ x ∈ C, x ∈ y :: hs := fun x hx => List.mem_cons_of_mem _ (h x hx)
theorem rdl_cellS {α : Type} {en : En α} {v : AV} {l : List α} {C hs : List Thing} (h : Rdl C en v l) (hC : ∀ x ∈ C, x ∈ hs) : ∀ S, HasS S hs → cellsOf v = [v] ∧ oneCell v = true := fun S hS => by
 rcases h with ⟨gs, rfl, rfl⟩ | ⟨z, hz⟩
 ·exact gs.cells
 ·exact own_cell (hS.ok _ (hC _ hz))
def En.Tr {α : Type} (e : En α) : Prop := ∀ a k hs, ReifL (k + 1) hs (e.f a) (e.f a)
theorem mapR_app {f : AV → R AV} : ∀ {a b c d : List AV}, mapR f a = .ok b → mapR f c = .ok d → mapR f (a ++ c) = .ok (b ++ d) := by
 intro a
 induction a with
 | nil => intro b c d h1 h2; cases h1; exact h2
 | cons x a ih =>
  intro b c d h1 h2;simp only [mapR] at h1;obtain ⟨y, h3, h4⟩ := bind_ok h1;obtain ⟨r, h5, h6⟩ := bind_ok h4;cases h6;simp only [List.cons_append, mapR, h3, ih h5 h2, Except.bind]
theorem ReifL.app {k : Nat} {hs : List Thing} {a b c d : List AV} (h1 : ReifL k hs a b) (h2 : ReifL k hs c d) : ReifL k hs (a ++ c) (b ++ d) := fun S hS => mapR_app (h1 S hS) (h2 S hS)
theorem ReifL.flat {α : Type} {e : En α} (h : e.Tr) {l : List α} : ∀ k hs, ReifL (k + 1) hs (l.flatMap e.f) (l.flatMap e.f) := by
 intro k hs
 induction l with
 | nil => exact .nil
 | cons a l ih => rw [List.flatMap_cons]; exact (h a k hs).app ih
theorem encI_tr : encI.Tr := fun _ _ _ => .cons .lit .nil
def encSl {α : Type} (e : En α) : En (GS e) := ⟨1, fun g => [g.v], fun _ => rfl⟩
theorem encI_lits : encI.Lits := fun n => ⟨[.int .i64 n], rfl⟩
abbrev arrL {α : Type} (id : Nat) (en : En α) (l : List α) : Thing := .row id en.u (l.flatMap en.f)
section
variable {E : Env} {n : Nat} {rnd : Option Nat} {ops : Array Oper} {i : Nat} {l : List Nat} {ms : List Nat} {σ : Sl} {hs hs' C : List Thing} {Q : Sy → Prop} {t : Tmp} {op : Op} {ty : TypeId} {pos : String} {af : Array Edge} {g : Option (Nat × Bool)}
theorem TO.allocA {α : Type} {en : En α} (a0 : α) (m : Nat) {bt : TypeId} {z : Value} {k : Nat} (ho : ops[i]? = some ⟨some t, .alloc bt, ty, pos, af, g⟩) (hd : Nat.blt t n = true) (hw : wantS ops σ g = some true)
  (hz : E.zro bt = some z) (hc : cellsOf (ofV 4 z) = (List.replicate m a0).flatMap en.f) (hk : m * en.u = k) (hu : unitOf E bt = .ok en.u) (c : ∀ id, TO E false n rnd ops l ⟨ms, (t, .ptr id 0 k) :: σ, arrL id en (List.replicate m a0) :: hs⟩ Q) : TO E false n rnd ops (i :: l) ⟨ms, σ, hs⟩ Q :=
 TO.alloc ho hd hw hz hc (by rw [flat_len, List.length_replicate]; exact hk) hu c
theorem Val.load_arr {α : Type} {en : En α} {l : List α} {bt : TypeId} {x : Operand} {p id k j m : Nat} {w : AV} {a : α} (hp : hs[p]? = some (arrL id en l)) (hl : (l.length : Int) * en.u = m) (ht : Scalar E bt) (hx : evs σ x = some (.ptr id (0 + k * en.u + j) m)) (ha : l[k]? = some a) (hw : (en.f a)[j]? = some w) : Val E σ hs (.load bt x) w := by
 have hj : j < en.u := by rw [← en.len a]; exact (List.getElem?_eq_some_iff.1 hw).1
 rw [Nat.zero_add] at hx;refine Val.load_row hp ht hx (by rw [flat_len]; exact_mod_cast hl) ?_;rw [flat_get ha hj];exact hw
theorem Eff.store_arr {α : Type} {en : En α} {l : List α} {bt : TypeId} {x y : Operand} {p id k j m q : Nat} {w : AV} {a a' : α} {cv : List AV} (hp : hs[p]? = some (arrL id en l)) (hl : (l.length : Int) * en.u = m) (ha : l[k]? = some a) (ht : E.siz bt = some q) (hm : Nat.beq q 0 = false) (hu : j + q ≤ en.u)
  (hx : evs σ x = some (.ptr id (0 + k * en.u + j) m)) (hy : evs σ y = some w) (hcv : cellsOf w = cv) (hlc : Nat.beq cv.length q = true) (ho1 : cv.all oneCell = true) (hc : spliceL (en.f a) j cv = en.f a') :
  Eff E σ hs (.store bt x y) fun _ hs' => hs' = hs.set p (arrL id en (l.set k a')) := by
 have hl' := Nat.eq_of_beq_eq_true hlc
 have hk : k < l.length := (List.getElem?_eq_some_iff.1 ha).1
 have hle : (k + 1) * en.u ≤ l.length * en.u := Nat.mul_le_mul_right _ hk;rw [Nat.succ_mul] at hle
 have hl2 : l.length * en.u = m := by exact_mod_cast hl
 rw [Nat.zero_add] at hx;exact Eff.store_row hp ht hx (by rw [flat_len]; exact hl2) hy hcv hlc hm ho1 (by omega) (flat_splice ha (by omega) hc)
end
end Go.Am
end
section
namespace Go.Am
open Go.RowKit
abbrev bk (signed : Int) (gs : List Gat) : Book := ⟨signed, GSo true encG gs⟩
noncomputable def P_r1_Check (signed : Int) (gs : List Gat) : Option (Int × Int × Int) := some (bookErr (bk signed gs))
noncomputable def P_r1_All (signed : Int) (gs : List Gat) : Option (List Leaf) := chk (Fits (bk signed gs)) (some (leavesOf (bk signed gs)))
noncomputable def P_r1_Pair (signed : Int) (gs : List Gat) (n : Int) : Option Int := chk (Fits (bk signed gs) ∧ 0 ≤ n ∧ n.toNat < (leavesOf (bk signed gs)).length) (some (pairNo (bk signed gs) n.toNat))
noncomputable def P_q_Check (signed : Int) (gs : List Gat) : Option (Int × Int × Int) := some (bookErr (bk signed gs))
noncomputable def P_q_Leaves (signed : Int) (gs : List Gat) : Option (List Leaf × Int) := some (if (bookErr (bk signed gs)).2.2 = 0 then leavesOf (bk signed gs) else [], (bookErr (bk signed gs)).2.2)
noncomputable def P_q_Mate (signed : Int) (gs : List Gat) (n : Int) : Option (Int × Int) := some (mateOf (bk signed gs) n)
noncomputable def P_c_outside (lo hi : Int) (x : List Int) : Option Bool := chk (x.length < 4611686018427387904) (some (decide (∃ n ∈ x, n < lo ∨ hi < n)))
theorem encG_tr : encG.Tr := fun _ _ _ => .cons .lit (.cons .lit (.cons .lit (.cons .gs .nil)))
theorem encIt_tr : encIt.Tr := fun _ _ _ => .cons .gs .nil
theorem encIt_ones : encIt.Ones := fun x => by simp [encIt, GS.one]
end Go.Am
end
section
namespace Go.Am
open Go.RowKit
set_option linter.unusedVariables false
set_option linter.unusedSimpArgs false
section
variable {α β σ A : Type}
def foldx (body : σ → β → Option (Stp σ A)) : List β → σ → Option (Ex σ A)
 | [], s => some (.nx s)
 | a :: l, s => match body s a with
  | some (.ag s') => foldx body l s'
  | some (.dn r) => some (.rt r)
  | none => none
theorem Ok.foldx {body : σ → β → Option (Stp σ A)} (I : List β → σ → Prop) {Q : Ex σ A → Prop} : ∀ {l vis : List β} {s : σ}, I vis s → (∀ vis' a s, a ∈ l → I vis' s → vis' ++ [a] <+: vis ++ l → Ok (body s a) fun x => match x with | .ag s' => I (vis' ++ [a]) s' | .dn r => Q (.rt r)) →
  (∀ s, I (vis ++ l) s → Q (.nx s)) → Ok (Am.foldx body l s) Q := by
 intro l
 induction l with
 | nil => intro vis s h0 _ hq; exact .some (hq s (by rw [List.append_nil]; exact h0))
 | cons a l ih =>
  intro vis s h0 hs hq;obtain ⟨x, hx, hx'⟩ := hs vis a s (by simp) h0 ⟨l, by simp⟩;unfold Am.foldx;rw [hx];cases x with
  | ag s' => exact ih hx' (fun vis' b s hb hi hp => hs vis' b s (by simp [hb]) hi (by simpa using hp)) (fun s hi => hq s (by simpa using hi))
  | dn r => exact ⟨_, rfl, hx'⟩
end
section
variable {E : Env} {n : Nat} {ms : List Nat} {σ : Sl} {hs : List Thing}
def VisitH {β : Type} (E : Env) (l : Nat) (Arg : β → List AV → List Thing → Prop) (D : List Thing) (all : List β) (Y Z : List β → List Thing → Prop) : Prop :=
 ∀ vis a vs G C B, vis ++ [a] <+: all → Arg a vs G → Y vis C → TR E l vs (C ++ (G ++ (D ++ B))) (fun v hs' => (v = bv true ∧ ∃ C', hs' = C' ++ (G ++ (D ++ B)) ∧ Y (vis ++ [a]) C') ∨ (v = bv false ∧ ∃ C', hs' = C' ++ (G ++ (D ++ B)) ∧ Z (vis ++ [a]) C'))
def Yields {β : Type} (E : Env) (f : FuncId) (first cap : List AV) (Arg : β → List AV → List Thing → Prop) (D : List Thing) (all : List β) : Prop :=
 ∀ l YY ZZ, VisitH E l Arg D all YY ZZ → ∀ C, YY [] C → TF E f (first ++ [AV.yield l] ++ cap) (D ++ C) fun v hs' => ∃ C', hs' = D ++ C' ∧ (YY all C' ∨ ∃ q r, all = q ++ r ∧ ZZ q C')
theorem TF.conv {f : FuncId} {args : List AV} {K K' : AV → List Thing → Prop} (h : TF E f args hs K) (hk : ∀ v h1, K v h1 → ∃ h2, h1.Perm h2 ∧ K' v h2) : TF E f args hs K' := fun S hS =>
 (h S hS).mono fun r ⟨v, S', h1, k0, k1, k2⟩ => by
  obtain ⟨h2, k3, k4⟩ := hk _ _ k2;exact ⟨v, S', h2, k0, k1.perm k3.symm, k4⟩
theorem TF.less {f : FuncId} {args : List AV} {K : AV → List Thing → Prop} {hs' : List Thing} (h : TF E f args hs' K) (hk : Less hs' hs) : TF E f args hs K := fun S hS => h S (hk S hS)
section
variable {J W A β : Type} {ps : Array Tmp}
def RepR (ms : Nat → List Nat) (post : Nat → List Thing → List Thing) (σ : Sl) (st : J → W → List Thing) (Rep : A → Exit → Sy → Prop) (LB : Thing) (F : List Thing) : Stp J A → Exit → Sy → Prop
 | .ag s2, e, s' => e = .normal ∧ ∃ w2, Pk (LB :: (st s2 w2 ++ F)) s'.hs
 | .dn x, e, s' => ∃ c A', jumpOf e = .ok (some c) ∧ jumpExit c = .ok e ∧ Pk (LB :: (A' ++ F)) s'.hs ∧ ∀ d, Rep x e ⟨ms d, σ, post d A'⟩
theorem round_rep {mf : Nat → List Nat} {post : Nat → List Thing → List Thing} {st : J → W → List Thing} {Rep : A → Exit → Sy → Prop} {l d : Nat} {tm : Trie AV} {ps : List Tmp} {assign body : Code} {vs : List AV} {σ' : Sl} {σ0 : Sl} {A0 F : List Thing} {ans : Stp J A} (ht : HasT tm σ)
  (hps : parS ps vs σ = some σ') (hn : ps.all (fun p => Nat.blt p n) = true)
  (hb : ∀ LR LB, IsLoop LB l d → T E n (some l) assign ⟨[], σ', LR :: (A0 ++ F)⟩ (AssignQ E n l body LR LB (RepR mf post σ0 st Rep LB F ans))) :
  TR E l vs (loopT l n tm ps assign body .ready none d :: (A0 ++ F)) fun v hs' => (v = bv true ∧ ∃ s w, ans = .ag s ∧ hs' = loopT l n tm ps assign body .ready none d :: (st s w ++ F)) ∨
   (v = bv false ∧ ∃ A' c e x, ans = .dn x ∧ hs' = loopT l n tm ps assign body .done (some c) d :: (A' ++ F) ∧ jumpExit c = .ok e ∧ ∀ d, Rep x e ⟨mf d, σ0, post d A'⟩) := by
 refine TR.round (p := 0) (pd := none) rfl ht hps hn ((hb (loopT l n tm ps assign body .ready none d) (loopT l n tm ps assign body .busy none d) ⟨_, _, _, _, _, _, _, rfl⟩).monoS ?_);rintro e ⟨ms1, σ1, hs0⟩ ⟨rfl, p, h1, h2⟩;simp only at h1 h2;obtain ⟨q1, q2⟩ := pick_perm (loopT l n tm ps assign body .busy none d) h1;refine ⟨⟨ms1, σ1, loopT l n tm ps assign body .ready none d :: hs0.eraseIdx p⟩, fun a S hi => ⟨hi.act, hi.mem.perm q1.symm⟩, rfl, none, rfl, ?_⟩
 show T E n (some l) body ⟨ms1, σ1, loopT l n tm ps assign body .busy none d :: hs0.eraseIdx p⟩ _;refine T.monoS (T.perm q2 h2) ?_;rintro e ⟨ms2, σ2, hs2⟩ h3;cases ans with
 | ag s =>
  obtain ⟨rfl, w, h4⟩ := h3;exact ⟨⟨ms2, σ2, loopT l n tm ps assign body .busy none d :: (st s w ++ F)⟩, fun a S hi => ⟨hi.act, h4.less S hi.mem⟩, ⟨none, rfl⟩, none, rfl, .inl ⟨rfl, s, w, rfl, rfl⟩⟩
 | dn x =>
  obtain ⟨c, A', h5, h6, h4, h7⟩ := h3;exact ⟨⟨ms2, σ2, loopT l n tm ps assign body .busy none d :: (A' ++ F)⟩, fun a S hi => ⟨hi.act, h4.less S hi.mem⟩, ⟨none, rfl⟩, some c, h5, .inr ⟨rfl, A', c, e, x, rfl, rfl, h6, h7⟩⟩
theorem perm_in (x : Thing) (C G D B : List Thing) : (C ++ (G ++ (D ++ (x :: B)))).Perm (x :: (C ++ (G ++ (D ++ B)))) := by
 have h1 : (C ++ (G ++ (D ++ (x :: B)))) = (C ++ (G ++ D)) ++ x :: B := by simp [List.append_assoc]
 have h2 : (C ++ (G ++ (D ++ B))) = (C ++ (G ++ D)) ++ B := by simp [List.append_assoc]
 rw [h1, h2];exact List.perm_middle
theorem foldx_cons {body : J → β → Option (Stp J A)} {a : β} {l : List β} {s : J} {B : J → Option A} {r : A} (h : seqx (foldx body (a :: l) s) B = some r) : ∃ ans, body s a = some ans ∧ match ans with | .ag s' => seqx (foldx body l s') B = some r | .dn x => x = r := by
 unfold foldx at h;cases hb : body s a with
 | none => rw [hb] at h; cases h
 | some ans =>
  rw [hb] at h;cases ans with
  | ag s' => exact ⟨_, rfl, h⟩
  | dn x => cases h; exact ⟨_, rfl, rfl⟩
theorem T.rangeP (Arg : β → List AV → List Thing → Prop) (st : J → W → List Thing) (D : List Thing) {all : List β} {body : J → β → Option (Stp J A)} {s0 : J} {w0 : W} {B : J → Option A} {r : A} {Rep : A → Exit → Sy → Prop} {x : Operand} {f : FuncId} {fn : Func} {first cap : List AV} {assign bodyc : Code}
    (h : seqx (foldx body all s0) B = some r) (hx : evs σ x = some (.func f first cap)) (hf : E.fn f = some fn) (hn : ps.toList.all (fun p => Nat.blt p n) = true) (hhs : Pk (st s0 w0 ++ D) hs) (hy : Yields E f first cap Arg D all)
    (hbody : ∀ l d s w a vs G F ans, a ∈ all → Arg a vs G → (∀ x ∈ D, x ∈ F) → (∀ x ∈ G, x ∈ F) → body s a = some ans → ∃ σ1, parS ps.toList vs σ = some σ1 ∧
      ∀ LR LB, IsLoop LB l d → T E n (some l) assign ⟨[], σ1, LR :: (st s w ++ F)⟩ (AssignQ E n l bodyc LR LB (RepR (fun d => d :: ms) (fun d A' => .obj d (.dfr true) :: (A' ++ D)) σ st Rep LB F ans)))
    (hN : ∀ d s w, B s = some r → Rep r .normal ⟨d :: ms, σ, .obj d (.dfr true) :: (st s w ++ D)⟩) : T E n none (.rangeFunc x ps assign bodyc) ⟨ms, σ, hs⟩ (Rep r) := by
  refine fun a S hi => ?_
  have hi' : Is n none a S ⟨ms, σ, st s0 w0 ++ D⟩ := ⟨hi.act, hhs.less S hi.mem⟩
  refine T.rangeFunc (ms := ms) (hs := st s0 w0 ++ D) hx hf (fun l d tm htm => ?_) a S hi'
  have hit := hy l (fun vis C => ∃ s w, C = loopT l n tm ps.toList assign bodyc .ready none d :: .obj d (.dfr true) :: st s w ∧ ∃ rest, all = vis ++ rest ∧ seqx (foldx body rest s) B = some r)
    (fun vis C => ∃ A c e, C = loopT l n tm ps.toList assign bodyc .done (some c) d :: .obj d (.dfr true) :: A ∧ jumpExit c = .ok e ∧ ∀ d, Rep r e ⟨d :: ms, σ, .obj d (.dfr true) :: (A ++ D)⟩) ?_ _ ⟨s0, w0, rfl, all, rfl, h⟩
  · have pm : ∀ (L : Thing) (A : List Thing), (D ++ L :: .obj d (.dfr true) :: A).Perm (L :: .obj d (.dfr true) :: (A ++ D)) := fun L A =>
      List.perm_middle.trans (List.Perm.cons _ (List.perm_middle.trans (List.Perm.cons _ List.perm_append_comm)))
    refine TF.perm (TF.conv hit ?_) (pm _ _)
    rintro v hs' ⟨C', rfl, (⟨s, w, rfl, rest, h1, h2⟩ | ⟨q, r', hq, A, c, e, rfl, hc, hA⟩)⟩
    · have : rest = [] := by simpa using h1
      subst this
      exact ⟨_, pm _ _, 0, .ready, none, rfl, by decide, hN d s w h2⟩
    · exact ⟨_, pm _ _, 0, .done, some c, rfl, by decide, e, hc, hA d⟩
  · rintro vis a vs G _ B' hP ha ⟨s, w, rfl, rest, h1, h2⟩
    obtain ⟨t2, ht2⟩ := hP
    have h3 : rest = a :: t2 := by
      rw [h1, List.append_assoc] at ht2
      exact (List.append_cancel_left ht2).symm
    subst h3
    obtain ⟨ans, hb, hr⟩ := foldx_cons h2
    obtain ⟨σ1, k1, k2⟩ := hbody l d s w a vs G (G ++ (D ++ .obj d (.dfr true) :: B')) ans (by rw [h1]; simp) ha (fun x hx => by simp [hx]) (fun x hx => by simp [hx]) hb
    refine (round_rep (mf := fun d => d :: ms) (post := fun d A' => .obj d (.dfr true) :: (A' ++ D)) (F := G ++ (D ++ .obj d (.dfr true) :: B')) htm k1 hn k2).conv (List.Perm.cons _ (perm_in _ _ _ _ _)) ?_
    rintro v h1' (⟨rfl, s', w', rfl, rfl⟩ | ⟨rfl, A', c, e, x, rfl, rfl, hc, hR⟩)
    · exact ⟨_, List.Perm.cons _ (perm_in _ _ _ _ _), .inl ⟨rfl, _, rfl, s', w', rfl, t2, by rw [h1]; simp, hr⟩⟩
    · cases hr
      exact ⟨_, List.Perm.cons _ (perm_in _ _ _ _ _), .inr ⟨rfl, _, rfl, A', c, e, rfl, hc, hR⟩⟩
end
end
theorem memL {D C : List Thing} : ∀ x ∈ D, x ∈ D ++ C := fun x h => List.mem_append_left _ h
theorem rdl_find {α : Type} {en : En α} {v : AV} {l : List α} {k : Int} {C hs : List Thing} (h : Rdl C en v l) (hC : ∀ x ∈ C, x ∈ hs) (hk : 0 ≤ k ∧ k < l.length) : ∀ S, HasS S hs → ∃ a, l[k.toNat]? = some a ∧ ∃ p, PtE C en a 0 p ∧
  ∀ {E : Env} {σ : Sl} {hs : List Thing} {st e : TypeId} {x y : Operand}, SliceT E st e en.u → evs σ x = some v → evs σ y = some (iv k) → Val E σ hs (.indexAddr st x y) p := fun S hS => by
 have hlt : k.toNat < l.length := by omega
 have e := List.getElem?_eq_getElem hlt;obtain ⟨p, h1, h2⟩ := rdl_at h hC hk e S hS;exact ⟨_, e, p, h1, h2⟩
theorem two_perm {α : Type} {D : List α} {x y : α} (hx : x ∈ D) (hy : y ∈ D) (hn : x ≠ y) : ∃ D', D.Perm (x :: y :: D') := by
 obtain ⟨s, t, rfl⟩ := List.append_of_mem hx
 have h2 : y ∈ s ++ t := by
  rcases List.mem_append.1 hy with h | h
  ·exact List.mem_append_left _ h
  ·rcases List.mem_cons.1 h with h | h
   ·exact absurd h.symm hn
   ·exact List.mem_append_right _ h
 obtain ⟨s', t', e⟩ := List.append_of_mem h2;exact ⟨s' ++ t', List.perm_middle.trans (List.Perm.cons _ (by rw [e]; exact List.perm_middle))⟩
open Classical in
theorem perm_six {α : Type} (a b c d e f : α) (D : List α) : ([a] ++ ((b :: c :: D) ++ [d, e, f])).Perm ([d, e, b, f, c, a] ++ D) := by
 rw [List.perm_iff_count];intro x;simp [List.count_cons, List.count_append];omega
theorem Rdl.perm2 {α : Type} {en : En α} {v : AV} {l : List α} {D D' : List Thing} {x y : Thing} (h : Rdl D en v l) (hD : D.Perm (x :: y :: D')) (hx : ∀ z, ownL z v en l ≠ x) (hy : ∀ z, ownL z v en l ≠ y) : Rdl D' en v l := by
 rcases h with h | ⟨z, hz⟩
 ·exact .inl h
 ·have := hD.mem_iff.1 hz
  rcases List.mem_cons.1 this with h | h
  ·exact absurd h (hx z)
  ·rcases List.mem_cons.1 h with h | h
   ·exact absurd h (hy z)
   ·exact .inr ⟨z, h⟩
def ArgT (a : List Int) (vs : List AV) (G : List Thing) : Prop := ∃ v, vs = [v] ∧ G = [ownL false v encI a]
end Go.Am
end
section
namespace Go.Am
open Go.RowKit
set_option linter.unusedVariables false
set_option linter.unusedSimpArgs false
def RepS {A B : Type} (F : A → AV → List Thing → Prop) (G : B → AV → List Thing → Prop) : Sum A B → AV → List Thing → Prop
 | .inl a => F a
 | .inr b => G b
inductive CellsL : List (Nat × AV) → List (Nat × List AV) → Prop
 | nil : CellsL [] []
 | cons {i : Nat} {v : AV} {c : List AV} {vs : List (Nat × AV)} {ws : List (Nat × List AV)} (h : cellsOf v = c) (hl : CellsL vs ws) : CellsL ((i, v) :: vs) ((i, c) :: ws)
def fillC (place : Nat → Option (Nat × Nat)) : List AV → List (Nat × List AV) → R (List AV)
 | cells, [] => .ok cells
 | cells, (i, c) :: rest =>
  match place i with
  | none => .error "fill no such place"
  | some (off, size) =>
   bif Nat.beq c.length size && Nat.ble (off + c.length) cells.length then fillC place (spliceL cells off c) rest
   else .error "fill size"
theorem fillA_C {place : Nat → Option (Nat × Nat)} {vs : List (Nat × AV)} {ws : List (Nat × List AV)} (h : CellsL vs ws) : ∀ cells, fillA place cells vs = fillC place cells ws := by
 induction h with
 | nil => intro cells; rfl
 | cons h hl ih =>
  intro cells
  rename_i i v c vs ws
  simp only [fillA, fillC, h];cases hp : place i with
  | none => rfl
  | some x => simp only [ih]
def abuildC (E : Env) (t : TypeId) (parts : List (Nat × List AV)) : R AV :=
 (ofOpt (E.zro t) "zero").bind fun z =>
 (ofOpt (E.und t) "type").bind fun d =>
 match d with
 | .struct fields => (placesOf E fields.toList).bind fun ps => (fillC (fun i => ps[i]?) (zeroCells z) parts).bind fun cs => .ok (.agg cs)
 | .array _ e => (ofOpt (E.siz e) "size").bind fun sz => (fillC (fun i => some (i * sz, sz)) (zeroCells z) parts).bind fun cs => .ok (.agg cs)
 | _ => .error "build"
theorem abuild_C {E : Env} {t : TypeId} {vs : List (Nat × AV)} {ws : List (Nat × List AV)} (h : CellsL vs ws) : abuild E t vs = abuildC E t ws := by
 unfold abuild abuildC
 congr 1
 funext z
 congr 1
 funext d
 cases d <;> simp only [fillA_C h]
section
variable {E : Env} {n : Nat} {rnd : Option Nat} {ops : Array Oper} {i : Nat} {l : List Nat} {ms : List Nat} {σ : Sl} {hs hs' C : List Thing} {Q : Sy → Prop} {t : Tmp} {op : Op} {ty : TypeId} {pos : String} {af : Array Edge} {g : Option (Nat × Bool)}
theorem Val.buildC {bt : TypeId} {parts : Array (Nat × Operand)} {vs : List (Nat × AV)} {ws : List (Nat × List AV)} {cs : List AV} (hx : evsL σ (parts.toList.map (·.2)) = some (vs.map (·.2))) (hi : parts.toList.map (·.1) = vs.map (·.1)) (hc : CellsL vs ws) (hb : abuildC E bt ws = .ok (.agg cs)) :
  Val E σ hs (.build bt parts) (.agg cs) := Val.build hx hi (by rw [abuild_C hc]; exact hb)
end
section
variable {E : Env} {n : Nat} {rnd : Option Nat} {ops : Array Oper} {i : Nat} {l : List Nat} {ms : List Nat} {σ : Sl} {hs : List Thing} {Q : Sy → Prop} {t : Tmp} {ty : TypeId} {pos : String} {af : Array Edge} {g : Option (Nat × Bool)}
variable {past : List (Nat × List Thing)} {seen : List Rd} {fl : List Fl}
end
end Go.Am
end
section
namespace Go.Am
open Go.RowKit
set_option linter.unusedVariables false
set_option linter.unusedSimpArgs false
def seg {α : Type} (en : En α) (ws : List AV) (ls : List (List α)) : List Thing := List.zipWith (fun w l => ownL true w en l) ws ls
abbrev nestH {α : Type} (z : Bool) (v : AV) (ls : List (List α)) (ws : List AV) : Thing := .own z v 1 ls.length ws
theorem seg_append {α : Type} {en : En α} {ws ws2 : List AV} {ls ls2 : List (List α)} (h : ws.length = ls.length) : seg en (ws ++ ws2) (ls ++ ls2) = seg en ws ls ++ seg en ws2 ls2 := by
 unfold seg; rw [List.zipWith_append h]
theorem nest_len {α : Type} {hs : List Thing} {p : Nat} {z : Bool} {v : AV} {ls : List (List α)} {ws : List AV} (hp : hs[p]? = some (nestH z v ls ws)) : ∀ S, HasS S hs → ws.length = ls.length := fun S hS => by
 have := (own_len (hS.own hp)).2.2;omega
theorem Less.perm {a b : List Thing} (h : b.Perm a) : Less a b := fun S k => k.perm h.symm
theorem perm_cat {α : Type} {A X Y C : List α} : (A ++ (X ++ (Y ++ C))).Perm (A ++ ((Y ++ X) ++ C)) := by
 refine List.Perm.append_left A ?_;rw [← List.append_assoc];exact List.Perm.append_right C List.perm_append_comm
theorem Less.cat {α : Type} {en : En α} {ws ws2 : List AV} {ls ls2 : List (List α)} (A : List Thing) {C : List Thing} (h : ws.length = ls.length) : Less (A ++ (seg en (ws ++ ws2) (ls ++ ls2) ++ C)) (A ++ (seg en ws2 ls2 ++ (seg en ws ls ++ C))) := by
 rw [seg_append h];exact .perm perm_cat
theorem Less.cat2 {α : Type} {en : En α} {ws ws2 : List AV} {ls ls2 : List (List α)} (A : List Thing) {B C : List Thing} (h : ws.length = ls.length) : Less (A ++ (B ++ (seg en (ws ++ ws2) (ls ++ ls2) ++ C))) (A ++ (seg en ws2 ls2 ++ (B ++ (seg en ws ls ++ C)))) := by
 rw [seg_append h];refine .perm (List.Perm.append_left A ?_)
 have h1 : (seg en ws2 ls2 ++ (B ++ (seg en ws ls ++ C))).Perm (B ++ (seg en ws2 ls2 ++ (seg en ws ls ++ C))) := by
  rw [← List.append_assoc, ← List.append_assoc B];exact List.Perm.append_right _ List.perm_append_comm
 exact h1.trans perm_cat
theorem own_true {α : Type} {S : St} {z : Bool} {w : AV} {en : En α} {l : List α} (h : (ownL z w en l).ok S) (hz : z = true ∨ l ≠ []) : (ownL true w en l).ok S := by
 rcases h with ⟨h0, h1, h2, h3⟩ | ⟨id, ex, h1, h2, h3, h4⟩
 ·exact .inl ⟨rfl, h1, h2, h3⟩
 ·refine .inr ⟨id, ex, h1, h2, fun _ => ?_, h4⟩
  rcases hz with rfl | hz
  ·exact h3 rfl
  ·exact fun e => hz (List.eq_nil_of_length_eq_zero e)
theorem Less.ownTrue {α : Type} {z : Bool} {w : AV} {en : En α} {l : List α} {p : Nat} {b : List Thing} (hp : b[p]? = some (ownL z w en l)) (hz : z = true ∨ l ≠ []) : Less (b.set p (ownL true w en l)) b := fun S k => by
 refine k.swap hp (own_true (k.ok _ (List.mem_of_getElem? hp)) hz) (.inl ?_);cases w <;> rfl
section
variable {E : Env} {d : Bool} {n : Nat} {rnd : Option Nat} {ops : Array Oper} {i : Nat} {l l1 l2 : List Nat} {ms : List Nat} {σ : Sl} {hs hs' C : List Thing} {Q : Sy → Prop} {t : Tmp} {op : Op} {ty : TypeId} {pos : String} {af : Array Edge} {g : Option (Nat × Bool)}
variable {past : List (Nat × List Thing)} {seen : List Rd} {fl : List Fl}
theorem T.less {c : Code} {Q : Exit → Sy → Prop} (hk : Less hs' hs) (h : T E n rnd c ⟨ms, σ, hs'⟩ Q) : T E n rnd c ⟨ms, σ, hs⟩ Q := fun a S hi => h a S ⟨hi.act, hk S hi.mem⟩
theorem TO.less (hk : Less hs' hs) (h : TO E d n rnd ops l ⟨ms, σ, hs'⟩ Q) : TO E d n rnd ops l ⟨ms, σ, hs⟩ Q := fun a S hi => h a S ⟨hi.act, hk S hi.mem⟩
theorem TD1.less (hk : Less hs' hs) (h : TD1 E n rnd ops l1 l2 ⟨ms, σ, hs'⟩ seen fl Q) : TD1 E n rnd ops l1 l2 ⟨ms, σ, hs⟩ seen fl Q := fun a S xs fs hi hx hf => h a S xs fs ⟨hi.act, hk S hi.mem⟩ hx hf
theorem TD2.less (hk : Less hs' hs) (h : TD2 E n rnd ops l ⟨ms, σ, hs'⟩ past seen fl Q) : TD2 E n rnd ops l ⟨ms, σ, hs⟩ past seen fl Q := fun a S ps xs fs hi hp hx hf => h a S ps xs fs ⟨hi.act, hk S hi.mem⟩ hp hx hf
theorem Val.len_nest {α : Type} {st e p : Nat} {z : Bool} {v : AV} {ls : List (List α)} {ws : List AV} {x : Operand} (hp : hs[p]? = some (nestH z v ls ws)) (ht : E.und st = some (.slice e)) (hx : evs σ x = some v) :
  Val E σ hs (.call { callee := .builtin .len, args := #[x], argTypes := #[st] }) (iv ls.length) := Val.len_own hp ht hx
theorem Eff.append_nest {α : Type} {st e b p q : Nat} {z z2 : Bool} {v w : AV} {ls ls2 : List (List α)} {ws ws2 : List AV} {ts : Array TypeId} {x y : Operand} (ht : AppT E st e 1 b) (hts : ts[0]? = some st) (hni : notInt E ts[1]? = .ok ()) (hp : hs[p]? = some (nestH z v ls ws)) (hq : hs[q]? = some (nestH z2 w ls2 ws2))
  (hx : evs σ x = some v) (hy : evs σ y = some w) (hone : ∀ S, HasS S hs → ws2.all oneCell = true) (hb : b ≤ 128) (hbig : ls.length + ls2.length < 1000000000) :
  Eff E σ hs (.call { callee := .builtin .append, args := #[x, y], argTypes := ts }) fun v' hs' => hs' = hs.set p (nestH z v' (ls ++ ls2) (ws ++ ws2)) := fun ev S he hS o ho => by
 have hbb : (2 * (ls.length + ls2.length) + 1000) * b ≤ (2 * 1000000000 + 1000) * 128 := Nat.mul_le_mul (by omega) hb;obtain ⟨v', S', h1, h2⟩ := Am.append_own hS ht hts hni hp (src_own hS hq (hone S hS)) (by omega);refine ⟨v', S', _, ?_, h2, ?_⟩
 ·unfold aop; rw [ho];simp only [acall, abuiltin, List.map_cons, List.map_nil, he _ _ hx, he _ _ hy, h1, Except.bind]
 ·show _ = hs.set p (.own z v' 1 (ls ++ ls2).length (ws ++ ws2));rw [List.length_append]
end
theorem Reif.ownT {α : Type} {en : En α} {k : Nat} {hs : List Thing} {w : AV} {l : List α} (hm : Am.ownL true w en l ∈ hs) (ht : ∀ k hs, ReifL (k + 1) hs (l.flatMap en.f) (l.flatMap en.f)) : Reif (k + 2) hs w (GSo true en l).v := Reif.own hm (ht k hs)
theorem reif_seg {α : Type} {en : En α} {k : Nat} {hs : List Thing} (ht : en.Tr) : ∀ {ws : List AV} {ls : List (List α)}, ws.length = ls.length → (∀ x ∈ seg en ws ls, x ∈ hs) → ReifL (k + 2) hs ws ((ls.map (GSo true en)).flatMap (encSl en).f) := by
 intro ws
 induction ws with
 | nil => intro ls h _; cases ls with | nil => exact .nil | cons => cases h
 | cons w ws ih =>
  intro ls h hm;cases ls with
  | nil => cases h
  | cons l ls =>
   refine ReifL.cons (Reif.ownT (hm (ownL true w en l) ?_) (ReifL.flat ht)) (ih (by simpa using h) fun x hx => hm _ ?_)
   ·exact List.mem_cons_self
   ·exact List.mem_cons_of_mem _ hx
theorem Reif.nest {α : Type} {en : En α} {k p : Nat} {hs : List Thing} {z : Bool} {v : AV} {ls : List (List α)} {ws : List AV} (ht : en.Tr) (hp : hs[p]? = some (nestH z v ls ws)) (hm : ∀ x ∈ seg en ws ls, x ∈ hs) : Reif (k + 3) hs v (GSo z (encSl en) (ls.map (GSo true en))).v := fun S hS => by
 have hl := nest_len hp S hS
 have := Reif.own (k := k + 2) (List.mem_of_getElem? hp) (reif_seg (k := k) ht hl hm) S hS;rw [this]
 show _ = Except.ok (slv z 1 (ls.map (GSo true en)).length _);rw [List.length_map]
theorem refn_seg {α : Type} {en : En α} {k : Nat} {hs : List Thing} (ht : en.Lits) : ∀ {ws : List AV} {ls : List (List α)}, ws.length = ls.length → (∀ x ∈ seg en ws ls, x ∈ hs) → RefNL (k + 2) hs ws ((ls.map (GSo true en)).flatMap (encSl en).f) := by
 intro ws
 induction ws with
 | nil => intro ls h _; cases ls with | nil => exact .nil | cons => cases h
 | cons w ws ih =>
  intro ls h hm;cases ls with
  | nil => cases h
  | cons l ls =>
   refine RefNL.cons (RefN.own (hm (ownL true w en l) ?_) (RefNL.lits ht)) (ih (by simpa using h) fun x hx => hm _ ?_)
   ·exact List.mem_cons_self
   ·exact List.mem_cons_of_mem _ hx
theorem RefN.nest {α : Type} {en : En α} {k p : Nat} {hs : List Thing} {z : Bool} {v : AV} {ls : List (List α)} {ws : List AV} (ht : en.Lits) (hp : hs[p]? = some (nestH z v ls ws)) (hm : ∀ x ∈ seg en ws ls, x ∈ hs) : RefN (k + 3) hs v (GSo z (encSl en) (ls.map (GSo true en))).v := fun S hS => by
 have hl := nest_len hp S hS
 have := RefN.own (k := k + 2) (List.mem_of_getElem? hp) (refn_seg (k := k) ht hl hm) S hS;rw [this]
 show _ = Except.ok (slv z 1 (ls.map (GSo true en)).length _);rw [List.length_map]
theorem seg_ones {α : Type} {en : En α} {hs : List Thing} : ∀ {ws : List AV} {ls : List (List α)}, ws.length = ls.length → (∀ x ∈ seg en ws ls, x ∈ hs) → ∀ S, HasS S hs → ws.all oneCell = true := by
 intro ws
 induction ws with
 | nil => intro ls _ _ S _; rfl
 | cons w ws ih =>
  intro ls h hm S hS;cases ls with
  | nil => cases h
  | cons l ls =>
   rw [List.all_cons, ih (ls := ls) (by simpa using h) (fun x hx => hm _ (List.mem_cons_of_mem _ hx)) S hS, Bool.and_true];exact (own_cell (hS.ok _ (hm (ownL true w en l) List.mem_cons_self))).2
theorem memG {C hs T : List Thing} (h : ∀ x ∈ C, x ∈ hs) : ∀ x ∈ C, x ∈ T ++ hs := fun x hx => List.mem_append_right _ (h x hx)
end Go.Am
end
section
namespace Go.Am
open Go.RowKit
set_option linter.unusedVariables false
set_option linter.unusedSimpArgs false
def New (E : Env) (σ : Sl) (hs : List Thing) (op : Op) (K : Nat → AV) (cells : List AV) (u : Nat) : Prop :=
 ∀ (ev : Operand → AV) (S : St), (∀ x v, evs σ x = some v → ev x = v) → HasS S hs → ∀ o : Oper, o.op = op → aop E S ev o = .ok (.val (K S.next), S.new (.row cells u 0))
section
variable {E : Env} {σ : Sl} {hs : List Thing}
theorem Eff.new {op : Op} {K : Nat → AV} {cells : List AV} {u : Nat} (h : New E σ hs op K cells u) : Eff E σ hs op fun v hs' => ∃ id, v = K id ∧ hs' = .row id u cells :: hs := fun ev S he hS o ho =>
 ⟨_, _, _, h ev S he hS o ho, hS.new _ (x := .row S.next u cells) ⟨0, Nat.zero_le _, by rw [St.new_get, if_pos rfl]⟩ (fun i hi => by cases hi; rfl), S.next, rfl, rfl⟩
theorem New.box {bt : TypeId} {x : Operand} {v : AV} {u k : Nat} {cells : List AV} (hx : evs σ x = some v) (hc : cellsOf v = cells) (hk : cells.length = k) (hu : unitOf E bt = .ok u) : New E σ hs (.box bt x) (fun id => .ptr id 0 k) cells u := fun ev S he hS o ho => by
 subst hk;unfold aop; rw [ho];simp only [he _ _ hx, newVarA, hu, hc, Except.bind, newOf]
theorem New.alloc {bt : TypeId} {z : Value} {u k : Nat} {cells : List AV} (hz : E.zro bt = some z) (hc : cellsOf (ofV 4 z) = cells) (hk : cells.length = k) (hu : unitOf E bt = .ok u) : New E σ hs (.alloc bt) (fun id => .ptr id 0 k) cells u := fun ev S he hS o ho => by
 subst hk;unfold aop; rw [ho];simp only [aalloc, hz, ofOpt, newVarA, hu, hc, Except.bind, newOf]
theorem New.buildSlice {α : Type} {en : En α} {l : List α} {st e len : Nat} {parts : Array (Nat × Operand)} {zs : List AV} {vs : List (Nat × AV)} {ws : List (Nat × List AV)} (ht : SliceT E st e en.u) (hsm : Nat.blt (2 ^ 24) (len * en.u) = false) (hz : zerosOf E e en.u len = .ok zs)
  (hx : evsL σ (parts.toList.map (·.2)) = some (vs.map (·.2))) (hi : parts.toList.map (·.1) = vs.map (·.1)) (hc : CellsL vs ws) (hf : fillC (fun i => some (i * en.u, en.u)) zs ws = .ok (l.flatMap en.f)) (hl : Nat.beq len l.length = true) :
  New E σ hs (.buildSlice st len parts) (fun id => .slice id 0 (l.flatMap en.f).length true l.length l.length) (l.flatMap en.f) en.u := fun ev S he hS o ho => by
 have hl' := Nat.eq_of_beq_eq_true hl;subst hl'
 have h1 : ∀ (xs : List Operand) (vs : List AV), evsL σ xs = some vs → xs.map ev = vs := by
  intro xs
  induction xs with
  | nil => intro vs hv; cases hv; rfl
  | cons x xs ih =>
   intro vs hv;simp only [evsL] at hv;split at hv
   ·rename_i v r h1 h2
    cases hv;rw [List.map_cons, ih _ h2, he _ _ h1]
   ·cases hv
 have hps : partsOf ev parts = vs := by
  have h1 := h1 _ _ hx;unfold partsOf
  have : ∀ (ps : List (Nat × Operand)) (vs : List (Nat × AV)), (ps.map (·.2)).map ev = vs.map (·.2) → ps.map (·.1) = vs.map (·.1) → ps.map (fun x => (x.1, ev x.2)) = vs := by
   intro ps
   induction ps with
   | nil => intro vs h1 h2; cases vs with | nil => rfl | cons => cases h2
   | cons p ps ih =>
    intro vs h1 h2;cases vs with
    | nil => cases h2
    | cons v vs =>
     simp only [List.map_cons, List.cons.injEq] at h1 h2 ⊢;exact ⟨by rw [h1.1, h2.1], ih vs h1.2 h2.2⟩
  exact this _ _ h1 hi
 unfold aop; rw [ho];simp only [abuildSlice, ht.1, ht.2, ofOpt, Except.bind, hsm, cond_false, hz, hps, fillA_C hc, hf, newSliceA, newOf]
end
theorem IsRow.of_new {S : St} {id u : Nat} {cells : List AV} (h : S.heap.get id = some (.row cells u 0)) : IsRow S id u cells := ⟨0, Nat.zero_le _, h⟩
theorem Less.floatRow {b : List Thing} {p id u : Nat} {cells : List AV} (hp : b[p]? = some (.obj id (.row cells u 0))) : Less (b.set p (.row id u cells)) b := fun S k =>
 k.swap hp (IsRow.of_new (k.ok _ (List.mem_of_getElem? hp))) (.inl rfl)
theorem own_of_row {α : Type} {S : St} {en : En α} {l : List α} {id : Nat} (h : IsRow S id en.u (l.flatMap en.f)) : (ownL false (.slice id 0 (l.flatMap en.f).length true l.length l.length) en l).ok S :=
 .inr ⟨id, true, rfl, flat_len en l, (fun h => by cases h), h⟩
theorem Less.floatOwn {α : Type} {b : List Thing} {p id : Nat} {en : En α} {l : List α} (hp : b[p]? = some (.obj id (.row (l.flatMap en.f) en.u 0))) : Less (b.set p (ownL false (.slice id 0 (l.flatMap en.f).length true l.length l.length) en l)) b := fun S k =>
 k.swap hp (own_of_row (IsRow.of_new (k.ok _ (List.mem_of_getElem? hp)))) (.inl rfl)
theorem Less.rowOwn {α : Type} {b : List Thing} {p id : Nat} {en : En α} {l : List α} (hp : b[p]? = some (.row id en.u (l.flatMap en.f))) : Less (b.set p (ownL false (.slice id 0 (l.flatMap en.f).length true l.length l.length) en l)) b := fun S k =>
 k.swap hp (own_of_row (k.ok _ (List.mem_of_getElem? hp))) (.inl rfl)
def encAV : En AV := ⟨1, fun v => [v], fun _ => rfl⟩
end Go.Am
end
section
namespace Go.Am
open Go.RowKit
set_option linter.unusedVariables false
section
variable {E : Env} {n : Nat} {rnd : Option Nat} {ops : Array Oper} {i : Nat} {l1 l2 : List Nat} {ms : List Nat} {σ : Sl} {hs : List Thing} {Q : Sy → Prop} {t : Tmp} {op : Op} {ty : TypeId} {pos : String} {af : Array Edge} {g : Option (Nat × Bool)}
variable {seen : List Rd} {fl : List Fl}
theorem TD1.floatN {u : Nat} {cells : List AV} {K : Nat → AV} (ho : ops[i]? = some ⟨some t, op, ty, pos, af, g⟩) (hk : kindOf ⟨some t, op, ty, pos, af, g⟩ = 3) (hd : Nat.blt t n = true) (hw : wantS ops σ g = some true) (h : New E σ hs op K cells u)
  (k : ∀ id, TD1 E n rnd ops l1 l2 ⟨ms, (t, K id) :: σ, .obj id (.row cells u 0) :: hs⟩ seen (⟨i, id, u, cells⟩ :: fl) Q) : TD1 E n rnd ops (i :: l1) l2 ⟨ms, σ, hs⟩ seen fl Q := TD1.float ho hk hd hw h k
end
noncomputable def orsB (base : Orc') (mkE : Orc' → Env) (lev : Nat → Option Nat) : Nat → Orc'
 | 0 => base
 | k + 1 => fun f => if lev f = some k then some (sem (mkE (orsB base mkE lev k)) f) else orsB base mkE lev k f
variable {base : Orc'} {mkE : Orc' → Env} {lev : Nat → Option Nat}
theorem orsB_get {f j : Nat} (hl : lev f = some j) : ∀ {k : Nat}, j < k → orsB base mkE lev k f = some (sem (mkE (orsB base mkE lev j)) f) := by
 intro k
 induction k with
 | zero => intro h; omega
 | succ k ih =>
  intro h
  have e : orsB base mkE lev (k + 1) f = if lev f = some k then some (sem (mkE (orsB base mkE lev k)) f) else orsB base mkE lev k f := rfl;rw [e]
  by_cases hk : lev f = some k
  ·rw [if_pos hk];rw [hl] at hk;cases hk;rfl
  ·rw [if_neg hk];refine ih ?_
   have : j ≠ k := fun e => hk (e ▸ hl)
   omega
theorem orsB_base {f : Nat} (hl : lev f = none) : ∀ {k : Nat}, orsB base mkE lev k f = base f := by
 intro k
 induction k with
 | zero => rfl
 | succ k ih =>
  have e : orsB base mkE lev (k + 1) f = if lev f = some k then some (sem (mkE (orsB base mkE lev k)) f) else orsB base mkE lev k f := rfl;rw [e, hl, if_neg (by intro h; cases h)];exact ih
theorem orsB_good {P : Program} (hP : ∀ o, (mkE o).P = P) (ho : ∀ o, (mkE o).orc = o) (hb : ∀ f g, base f = some g → Meets P f g) (hE : ∀ o : Orc', (∀ f g, o f = some g → Meets P f g) → EnvGood (mkE o)) : ∀ k, EnvGood (mkE (orsB base mkE lev k)) := by
 intro k
 induction k with
 | zero => exact hE _ hb
 | succ k ih =>
  refine hE _ fun f g h => ?_
  unfold orsB at h;split at h
  ·cases h;rw [← hP (orsB base mkE lev k)];exact meets_of ih fun args t hg => (sem_comes hg).runsTo
  ·rw [← hP (orsB base mkE lev k)];exact ih.orc f g (by rw [ho]; exact h)
theorem orsLB (ho : ∀ o, (mkE o).orc = o) {f j k : Nat} (h : lev f = some j) (hk : j < k) : (mkE (orsB base mkE lev k)).orc f = some (sem (mkE (orsB base mkE lev j)) f) := by
 rw [ho]; exact orsB_get h hk
def levB (base : Orc') (lev : Nat → Option Nat) (f : Nat) : Option Nat := match lev f, base f with | none, none => none | _, _ => some 0
theorem orsNB (ho : ∀ o, (mkE o).orc = o) {f k : Nat} (h : levB base lev f = none) : (mkE (orsB base mkE lev k)).orc f = none := by
 rw [ho];unfold levB at h;split at h
 ·rename_i h1 h2
  rw [orsB_base h1, h2]
 ·cases h
end Go.Am
end
section
namespace Go.Am
open Go.RowKit
set_option linter.unusedVariables false
set_option linter.unusedSimpArgs false
abbrev ivk (k : IntKind) (n : Int) : AV := .lit (.int k n)
def encU8 : En UInt8 := ⟨1, fun b => [ivk .u8 (b.toNat : Int)], fun _ => rfl⟩
section
variable {E : Env} {d : Bool} {n : Nat} {rnd : Option Nat} {ops : Array Oper} {i : Nat} {ns : List Nat} {ms : List Nat} {σ : Sl} {hs hs' C : List Thing} {Q : Sy → Prop} {t : Tmp} {op : Op} {ty : TypeId} {pos : String} {af : Array Edge} {g : Option (Nat × Bool)}
theorem pure_conv {P : Program} {src dst : TypeId} {s : TypeDesc} {k2 kk : IntKind} {a b : Int} (h1 : pureVal P (underlying src) = some s) (h2 : pureVal P (underlying dst) = some (.int k2)) (hb : k2.wrap a = b) : pureVal P (convert src dst (.int kk a)) = some (.int k2 b) := by
 subst hb;unfold convert;rw [pv_bind, h1, Option.bind_some, pv_bind, h2, Option.bind_some];cases s <;> rfl
theorem Val.conv {src dst : TypeId} {x : Operand} {k2 kk : IntKind} {a b : Int} (hc : pureVal E.P (convert src dst (.int kk a)) = some (.int k2 b)) (hx : evs σ x = some (ivk kk a)) : Val E σ hs (.convert src dst x) (ivk k2 b) := fun ev S he _ o ho => by
 have hp : pureOp E (Go.convert src dst) (ivk kk a) = .ok (ivk k2 b) := by
  simp only [pureOp, toV, Except.bind, hc, ofOpt];rfl
 unfold aop; rw [ho]; simp only [he _ _ hx, hp]; rfl
def RdT {α : Type} (en : En α) (v : AV) (l : List α) : Prop := ∃ gs : GS en, gs.v = v ∧ gs.l = l
theorem RdT.gs {α : Type} {en : En α} (x : GS en) : RdT en x.v x.l := ⟨x, rfl, rfl⟩
theorem RdT.rdl {α : Type} {en : En α} {v : AV} {l : List α} (h : RdT en v l) : Rdl C en v l := .inl h
theorem flat_drop2 {α : Type} (en : En α) : ∀ (l : List α) (k : Nat), (l.flatMap en.f).drop (k * en.u) = (l.drop k).flatMap en.f := by
 intro l
 induction l with
 | nil => intro k; simp
 | cons a l ih =>
  intro k;cases k with
  | zero => simp
  | succ k =>
   rw [List.flatMap_cons, List.drop_append, en.len a, Nat.succ_mul, List.drop_eq_nil_of_le (by rw [en.len]; omega), List.nil_append, Nat.add_sub_cancel, List.drop_succ_cons];exact ih k
theorem flat_take2 {α : Type} (en : En α) : ∀ (l : List α) (k : Nat), (l.flatMap en.f).take (k * en.u) = (l.take k).flatMap en.f := by
 intro l
 induction l with
 | nil => intro k; simp
 | cons a l ih =>
  intro k;cases k with
  | zero => simp
  | succ k =>
   rw [List.flatMap_cons, List.take_append, en.len a, Nat.succ_mul, List.take_of_length_le (by rw [en.len]; omega), Nat.add_sub_cancel, List.take_succ_cons, List.flatMap_cons];exact congrArg _ (ih k)
theorem bounds_ok {m lo hi : Nat} {olo ohi : Option AV} (hl : lo ≤ hi) (hh : hi ≤ m) (h1 : (olo = none ∧ lo = 0) ∨ olo = some (iv (lo : Int))) (h2 : (ohi = none ∧ hi = m) ∨ ohi = some (iv (hi : Int))) : boundsOf m m olo ohi none = .ok (lo, hi, m) := by
 have b1 : decide ((0 : Int) ≤ (hi : Int)) = true := decide_eq_true (by omega)
 have b2 : decide ((hi : Int) ≤ (m : Int)) = true := decide_eq_true (by omega)
 have b3 : decide ((0 : Int) ≤ (lo : Int)) = true := decide_eq_true (by omega)
 have b4 : decide ((lo : Int) ≤ (hi : Int)) = true := decide_eq_true (by omega)
 have b5 : decide ((lo : Int) ≤ (m : Int)) = true := decide_eq_true (by omega)
 rcases h1 with ⟨rfl, rfl⟩ | rfl <;> rcases h2 with ⟨rfl, rfl⟩ | rfl
 ·rfl
 ·simp only [boundsOf, boundOf, intOf?, Except.bind, b1, b2, Bool.and_self, cond_true, Int.toNat_natCast]
 ·simp only [boundsOf, boundOf, intOf?, Except.bind, b3, b5, Bool.and_self, cond_true, Int.toNat_natCast]
 ·simp only [boundsOf, boundOf, intOf?, Except.bind, b1, b2, b3, b4, Bool.and_self, cond_true, Int.toNat_natCast]
def Bd (σ : Sl) (o : Option Operand) (dflt val : Int) : Prop := (o = none ∧ val = dflt) ∨ ∃ x, o = some x ∧ evs σ x = some (iv val)
theorem Bd.no {σ : Sl} {d : Int} : Bd σ none d d := .inl ⟨rfl, rfl⟩
theorem Bd.some {σ : Sl} {x : Operand} {d v : Int} (h : evs σ x = some (iv v)) : Bd σ (some x) d v := .inr ⟨x, rfl, h⟩
theorem slice_T {α : Type} {en : En α} {v : AV} {l : List α} (h : RdT en v l) {lo hi : Int} (hb : 0 ≤ lo ∧ lo ≤ hi ∧ hi ≤ l.length) : ∃ w, RdT en w ((l.drop lo.toNat).take (hi - lo).toNat) ∧ (lo < hi → w = (GSo true en ((l.drop lo.toNat).take (hi - lo).toNat)).v) ∧
  ∀ {E : Env} {σ : Sl} {hs : List Thing} {st e : TypeId} {x : Operand} {olo ohi : Option Operand}, SliceT E st e en.u → evs σ x = some v → Bd σ olo 0 lo → Bd σ ohi l.length hi → Val E σ hs (.slice st x olo ohi none) w := by
 obtain ⟨gs, rfl, rfl⟩ := h;obtain ⟨a, rfl⟩ : ∃ a : Nat, lo = a := ⟨lo.toNat, by omega⟩;obtain ⟨b, rfl⟩ : ∃ b : Nat, hi = b := ⟨hi.toNat, by omega⟩
 have hab : a ≤ b := by omega
 have hbl : b ≤ gs.l.length := by omega
 have e0 : ((b : Int) - (a : Int)).toNat = b - a := by omega
 rw [Int.toNat_natCast, e0]
 have hlen : ((gs.l.drop a).take (b - a)).length = b - a := by rw [List.length_take, List.length_drop]; omega
 have ops : ∀ {σ : Sl} {ev : Operand → AV} {o : Option Operand} {df : Int} {k : Nat}, (∀ x v, evs σ x = some v → ev x = v) → Bd σ o df (k : Int) → (o.map ev = none ∧ (k : Int) = df) ∨ o.map ev = some (iv (k : Int)) := fun he hB => by
  rcases hB with ⟨rfl, h⟩ | ⟨x, rfl, h⟩
  ·exact .inl ⟨rfl, h⟩
  ·exact .inr (congrArg some (he _ _ h))
 rcases gs.ok with ⟨h1, h2, h3⟩ | ⟨h1, h2⟩
 ·have hl : gs.l = [] := List.eq_nil_of_length_eq_zero h2;refine ⟨nilS, ⟨⟨nilS, _, .inl ⟨rfl, by rw [hl]; simp, by rw [hl]; simp⟩⟩, rfl, rfl⟩, fun h => by omega, fun {E σ hs st e x olo ohi} ht hx hl1 hh1 ev S he hS o ho => ?_⟩
  have hbd := bounds_ok (m := 0) (lo := a) (hi := b) (olo := olo.map ev) (ohi := ohi.map ev) hab (by omega) ((ops he hl1).imp (fun x => ⟨x.1, by omega⟩) fun x => x) ((ops he hh1).imp (fun x => ⟨x.1, by have := x.2; rw [h2] at this; omega⟩) fun x => x);unfold aop; rw [ho];simp only [he _ _ hx, h1, nilS, aslice, ht.1, ht.2, ofOpt, Except.bind, Option.map_none, isLitInt, Bool.false_and, cond_false, hbd, valOf];rfl
 ·refine ⟨.tree en.u (b - a) (((gs.l.drop a).take (b - a)).flatMap en.f), ⟨⟨_, _, .inr ⟨by rw [hlen], by rw [flat_len]⟩⟩, rfl, rfl⟩, fun h => ?_, fun {E σ hs st e x olo ohi} ht hx hl1 hh1 ev S he hS o ho => ?_⟩
  ·have e1 : (GSo true en ((gs.l.drop a).take (b - a))).v = slv true en.u ((gs.l.drop a).take (b - a)).length (((gs.l.drop a).take (b - a)).flatMap en.f) := rfl;rw [e1];unfold slv;rw [hlen]
   have : Nat.beq (b - a) 0 = false := beq_false.2 (by omega);rw [this];rfl
  ·have hbd := bounds_ok (m := gs.l.length) (lo := a) (hi := b) (olo := olo.map ev) (ohi := ohi.map ev) hab hbl ((ops he hl1).imp (fun x => ⟨x.1, by omega⟩) fun x => x) ((ops he hh1).imp (fun x => ⟨x.1, by have := x.2; omega⟩) fun x => x)
   have b3 : Nat.beq en.u en.u = true := Nat.beq_refl _
   have e1 : ((gs.l.flatMap en.f).drop (a * en.u)).take ((b - a) * en.u) = ((gs.l.drop a).take (b - a)).flatMap en.f := by rw [flat_drop2, flat_take2]
   unfold aop; rw [ho];simp only [he _ _ hx, h1, aslice, ht.1, ht.2, ofOpt, Except.bind, Option.map_none, isLitInt, Bool.false_and, cond_false, hbd, valOf, b3, cond_true, e1];rfl
end
end Go.Am
end
section
namespace Go.Am
open Go.RowKit
set_option linter.unusedVariables false
set_option linter.unusedSimpArgs false
section
variable {E : Env} {d : Bool} {n : Nat} {rnd : Option Nat} {ops : Array Oper} {i : Nat} {ns : List Nat} {ms : List Nat} {σ : Sl} {hs hs' C : List Thing} {Q : Sy → Prop} {t : Tmp} {op : Op} {ty : TypeId} {pos : String} {af : Array Edge} {g : Option (Nat × Bool)}
theorem flat_its (ls : List (List Int)) : (ls.map (GSo true encI)).flatMap (encSl encI).f = (ls.map fun x => (⟨GSo true encI x⟩ : Item)).flatMap encIt.f := by
 induction ls with
 | nil => rfl
 | cons a l ih => rw [List.map_cons, List.map_cons, List.flatMap_cons, List.flatMap_cons, ih]; rfl
theorem gso_its (z : Bool) (ls : List (List Int)) : (GSo z (encSl encI) (ls.map (GSo true encI))).v = (GSo z encIt (ls.map fun x => (⟨GSo true encI x⟩ : Item))).v := by
 show slv z 1 (ls.map (GSo true encI)).length _ = slv z 1 (ls.map fun x => (⟨GSo true encI x⟩ : Item)).length _;rw [flat_its, List.length_map, List.length_map]
theorem Reif.nestIt {k p : Nat} {z : Bool} {v : AV} {ls : List (List Int)} {ws : List AV} (hp : hs[p]? = some (nestH z v ls ws)) (hm : ∀ x ∈ seg encI ws ls, x ∈ hs) : Reif (k + 3) hs v (GSo z encIt (ls.map fun x => (⟨GSo true encI x⟩ : Item))).v := by
 rw [← gso_its]; exact Reif.nest encI_tr hp hm
theorem RefN.nestIt {k p : Nat} {z : Bool} {v : AV} {ls : List (List Int)} {ws : List AV} (hp : hs[p]? = some (nestH z v ls ws)) (hm : ∀ x ∈ seg encI ws ls, x ∈ hs) : RefN (k + 3) hs v (GSo z encIt (ls.map fun x => (⟨GSo true encI x⟩ : Item))).v := by
 rw [← gso_its]; exact RefN.nest encI_lits hp hm
theorem RdT.tree {α : Type} {en : En α} {v : AV} {l : List α} (h : RdT en v l) (hl : 0 < l.length) : ∃ cs, v = .tree en.u l.length cs := by
 obtain ⟨gs, rfl, rfl⟩ := h
 rcases gs.ok with ⟨h1, h2, h3⟩ | ⟨h1, h2⟩
 ·omega
 ·exact ⟨_, h1⟩
end
end Go.Am
end
section
namespace Go.Am
open Go.RowKit
set_option linter.unusedVariables false
theorem R2 {α β : Type} {a : α} {b : β} : a = a ∧ b = b := ⟨rfl, rfl⟩
theorem R3 {α β γ : Type} {a : α} {b : β} {c : γ} : a = a ∧ b = b ∧ c = c := ⟨rfl, R2⟩
theorem R4 {α β γ δ : Type} {a : α} {b : β} {c : γ} {d : δ} : a = a ∧ b = b ∧ c = c ∧ d = d := ⟨rfl, R3⟩
theorem R5 {α β γ δ ε : Type} {a : α} {b : β} {c : γ} {d : δ} {e : ε} : a = a ∧ b = b ∧ c = c ∧ d = d ∧ e = e := ⟨rfl, R4⟩
theorem R6 {α β γ δ ε ζ : Type} {a : α} {b : β} {c : γ} {d : δ} {e : ε} {f : ζ} : a = a ∧ b = b ∧ c = c ∧ d = d ∧ e = e ∧ f = f := ⟨rfl, R5⟩
theorem R7 {α β γ δ ε ζ η : Type} {a : α} {b : β} {c : γ} {d : δ} {e : ε} {f : ζ} {g : η} : a = a ∧ b = b ∧ c = c ∧ d = d ∧ e = e ∧ f = f ∧ g = g := ⟨rfl, R6⟩
section
variable {E : Env} {d : Bool} {n : Nat} {rnd : Option Nat} {ops : Array Oper} {i : Nat} {l : List Nat} {ms : List Nat} {σ : Sl} {hs hs' C : List Thing} {Q : Sy → Prop} {t : Tmp} {op : Op} {ty : TypeId} {pos : String} {af : Array Edge} {g : Option (Nat × Bool)} {x y : Operand} {v w : AV}
theorem zO (h : ops[i]? = some ⟨some t, op, ty, pos, af, g⟩ ∧ Nat.blt t n = true ∧ wantS ops σ g = some false) (k : TO E d n rnd ops l ⟨ms, (t, undefA) :: σ, hs⟩ Q) : TO E d n rnd ops (i :: l) ⟨ms, σ, hs⟩ Q := TO.off h.1 h.2.1 h.2.2 k
theorem zV (h : ops[i]? = some ⟨some t, op, ty, pos, af, g⟩ ∧ Nat.blt t n = true ∧ wantS ops σ g = some true) (c : Val E σ hs op v) (k : TO E d n rnd ops l ⟨ms, (t, v) :: σ, hs⟩ Q) : TO E d n rnd ops (i :: l) ⟨ms, σ, hs⟩ Q := TO.val h.1 h.2.1 h.2.2 c k
theorem zM (h : ops[i]? = some ⟨some t, .move x, ty, pos, af, g⟩ ∧ Nat.blt t n = true ∧ wantS ops σ g = some true ∧ evs σ x = some v) (k : TO E d n rnd ops l ⟨ms, (t, v) :: σ, hs⟩ Q) : TO E d n rnd ops (i :: l) ⟨ms, σ, hs⟩ Q := TO.val h.1 h.2.1 h.2.2.1 (Val.move h.2.2.2) k
theorem zA (h : ops[i]? = some ⟨some t, .assign x, ty, pos, af, g⟩ ∧ Nat.blt t n = true ∧ wantS ops σ g = some true ∧ evs σ x = some v) (k : TO E d n rnd ops l ⟨ms, (t, v) :: σ, hs⟩ Q) : TO E d n rnd ops (i :: l) ⟨ms, σ, hs⟩ Q := TO.val h.1 h.2.1 h.2.2.1 (Val.assign h.2.2.2) k
theorem zP {c : Operand} {b : Bool} (h : ops[i]? = some ⟨some t, .pick c x y, ty, pos, af, g⟩ ∧ Nat.blt t n = true ∧ wantS ops σ g = some true ∧ evs σ c = some (bv b) ∧ evs σ x = some v ∧ evs σ y = some w) (k : TO E d n rnd ops l ⟨ms, (t, bif b then v else w) :: σ, hs⟩ Q) : TO E d n rnd ops (i :: l) ⟨ms, σ, hs⟩ Q := TO.val h.1 h.2.1 h.2.2.1 (Val.pick h.2.2.2.1 h.2.2.2.2.1 h.2.2.2.2.2) k
theorem zX {j : Nat} {vs : List AV} (h : ops[i]? = some ⟨some t, .extract x j, ty, pos, af, g⟩ ∧ Nat.blt t n = true ∧ wantS ops σ g = some true ∧ evs σ x = some (.tuple vs) ∧ vs[j]? = some v) (k : TO E d n rnd ops l ⟨ms, (t, v) :: σ, hs⟩ Q) : TO E d n rnd ops (i :: l) ⟨ms, σ, hs⟩ Q := TO.val h.1 h.2.1 h.2.2.1 (Val.extract h.2.2.2.1 h.2.2.2.2) k
theorem zF (fo : Nat) {s f id off k m : Nat} {fd : Field} (h : ops[i]? = some ⟨some t, .fieldAddr s x f, ty, pos, af, g⟩ ∧ Nat.blt t n = true ∧ wantS ops σ g = some true ∧ fieldOf E s f = .ok (fd, m) ∧ evs σ x = some (.ptr id off k) ∧ Nat.beq (off + fd.offset) fo = true) (c : TO E d n rnd ops l ⟨ms, (t, .ptr id fo k) :: σ, hs⟩ Q) : TO E d n rnd ops (i :: l) ⟨ms, σ, hs⟩ Q := TO.val h.1 h.2.1 h.2.2.1 (Val.faddr_ptr h.2.2.2.1 h.2.2.2.2.1 h.2.2.2.2.2) c
theorem zL (p : Nat) {bt : TypeId} {id u off k : Nat} {cells : List AV} {b : TypeDesc} (h : ops[i]? = some ⟨some t, .load bt x, ty, pos, af, g⟩ ∧ Nat.blt t n = true ∧ wantS ops σ g = some true) (e : hs[p]? = some (.row id u cells) ∧ E.und bt = some b ∧ isAggT b = false ∧ evs σ x = some (.ptr id off k) ∧ cells.length = k ∧ cells[off]? = some v) (c : TO E d n rnd ops l ⟨ms, (t, v) :: σ, hs⟩ Q) : TO E d n rnd ops (i :: l) ⟨ms, σ, hs⟩ Q := TO.val h.1 h.2.1 h.2.2 (Val.load_row e.1 ⟨_, e.2.1, e.2.2.1⟩ e.2.2.2.1 e.2.2.2.2.1 e.2.2.2.2.2) c
theorem vR {bt : TypeId} {p id u off k : Nat} {cells : List AV} {b : TypeDesc} (e : hs[p]? = some (.row id u cells) ∧ E.und bt = some b ∧ isAggT b = false ∧ evs σ x = some (.ptr id off k) ∧ cells.length = k ∧ cells[off]? = some v) : Val E σ hs (.load bt x) v := Val.load_row e.1 ⟨_, e.2.1, e.2.2.1⟩ e.2.2.2.1 e.2.2.2.2.1 e.2.2.2.2.2
theorem vW (p : Nat) (c : List AV) {bt : TypeId} {id u off k m : Nat} {cells : List AV} {b : TypeDesc} (e : hs[p]? = some (.row id u cells) ∧ E.und bt = some b ∧ isAggT b = true ∧ E.siz bt = some m ∧ Nat.beq m 0 = false) (h : evs σ x = some (.ptr id off k) ∧ cells.length = k ∧ (cells.drop off).take m = c ∧ Nat.ble (off + m) k = true) : Val E σ hs (.load bt x) (.agg c) := Val.load_rows e.1 ⟨⟨_, e.2.1, e.2.2.1⟩, e.2.2.2.1, fun z => by subst z; cases e.2.2.2.2⟩ h.1 h.2.1 h.2.2.1 h.2.2.2
theorem zG (hs' : List Thing) (e : hs = hs') (h : TO E d n rnd ops l ⟨ms, σ, hs'⟩ Q) : TO E d n rnd ops l ⟨ms, σ, hs⟩ Q := e ▸ h
theorem zQ (k : Nat) (cells : List AV) {bt : TypeId} {u : Nat} (h : ops[i]? = some ⟨some t, .box bt x, ty, pos, af, g⟩ ∧ Nat.blt t n = true ∧ wantS ops σ g = some true ∧ evs σ x = some v ∧ cellsOf v = cells ∧ cells.length = k ∧ unitOf E bt = .ok u) (c : ∀ id, TO E false n rnd ops l ⟨ms, (t, .ptr id 0 k) :: σ, .row id u cells :: hs⟩ Q) : TO E false n rnd ops (i :: l) ⟨ms, σ, hs⟩ Q := TO.box h.1 h.2.1 h.2.2.1 h.2.2.2.1 h.2.2.2.2.1 h.2.2.2.2.2.1 h.2.2.2.2.2.2 c
theorem zJ (k : Nat) (cells : List AV) {bt : TypeId} {u : Nat} {z : Value} (h : ops[i]? = some ⟨some t, .alloc bt, ty, pos, af, g⟩ ∧ Nat.blt t n = true ∧ wantS ops σ g = some true ∧ E.zro bt = some z ∧ cellsOf (ofV 4 z) = cells ∧ cells.length = k ∧ unitOf E bt = .ok u) (c : ∀ id, TO E false n rnd ops l ⟨ms, (t, .ptr id 0 k) :: σ, .row id u cells :: hs⟩ Q) : TO E false n rnd ops (i :: l) ⟨ms, σ, hs⟩ Q := TO.alloc h.1 h.2.1 h.2.2.1 h.2.2.2.1 h.2.2.2.2.1 h.2.2.2.2.2.1 h.2.2.2.2.2.2 c
theorem zN (h : Q ⟨ms, σ, hs⟩) : TO E d n rnd ops [] ⟨ms, σ, hs⟩ Q := TO.nil h
variable {l1 l2 : List Nat} {seen : List Rd} {fl : List Fl} {past : List (Nat × List Thing)}
theorem yR (h : ops[i]? = some ⟨some t, op, ty, pos, af, g⟩ ∧ kindOf ⟨some t, op, ty, pos, af, g⟩ = 1 ∧ Nat.blt t n = true ∧ wantS ops σ g = some true) (c : Val E σ hs op v)
  (k : TD1 E n rnd ops l1 l2 ⟨ms, (t, v) :: σ, hs⟩ (⟨i, σ, v⟩ :: seen) fl Q) : TD1 E n rnd ops (i :: l1) l2 ⟨ms, σ, hs⟩ seen fl Q := TD1.read h.1 h.2.1 h.2.2.1 h.2.2.2 c k
theorem yL (h : ops[i]? = some ⟨some t, op, ty, pos, af, g⟩ ∧ kindOf ⟨some t, op, ty, pos, af, g⟩ = 0 ∧ Nat.blt t n = true ∧ wantS ops σ g = some true) (c : Val E σ hs op v)
  (k : TD1 E n rnd ops l1 l2 ⟨ms, (t, v) :: σ, hs⟩ seen fl Q) : TD1 E n rnd ops (i :: l1) l2 ⟨ms, σ, hs⟩ seen fl Q := TD1.light h.1 h.2.1 h.2.2.1 h.2.2.2 c k
theorem yM (h : ops[i]? = some ⟨some t, op, ty, pos, af, g⟩ ∧ kindOf ⟨some t, op, ty, pos, af, g⟩ = 0 ∧ Nat.blt t n = true ∧ wantS ops σ g = some true) (c : Val E σ hs op v)
  (k : TD2 E n rnd ops l ⟨ms, (t, v) :: σ, hs⟩ past seen fl Q) : TD2 E n rnd ops (i :: l) ⟨ms, σ, hs⟩ past seen fl Q := TD2.light h.1 h.2.1 h.2.2.1 h.2.2.2 c k
theorem yG (hs' : List Thing) (e : hs = hs') (h : TD2 E n rnd ops l ⟨ms, σ, hs'⟩ past seen fl Q) : TD2 E n rnd ops l ⟨ms, σ, hs⟩ past seen fl Q := e ▸ h
end
section
variable {E : Env} {n : Nat} {rnd : Option Nat} {s s' : Sy} {Q : Exit → Sy → Prop} {x y : Code} {g : Operand}
theorem zT {id : Nat} {ops : Array Oper} {l : List Nat} (hl : List.range ops.size = l) (h : TO E false n rnd ops l s (Q .normal)) : T E n rnd (.region id ops false) s Q := T.text hl h
theorem zS (h : T E n rnd x s (Then E n rnd y Q)) : T E n rnd (.seq x y) s Q := T.seq h
theorem zU {id : Nat} {ops : Array Oper} {l : List Nat} (hl : List.range ops.size = l) (h : TO E false n rnd ops l s (Then E n rnd y Q .normal)) : T E n rnd (.seq (.region id ops false) y) s Q := T.seq (T.text hl h)
theorem zK (h : Q .normal s) : T E n rnd .skip s Q := T.skip h
theorem zB {id : Nat} (h : T E n rnd x s (Blk id Q)) : T E n rnd (.block id x) s Q := T.block h
theorem zR (h : Q .ret s) : T E n rnd .ret s Q := T.ret h
theorem zE {i : Nat} (h : Q (.exit i) s) : T E n rnd (.exit i) s Q := T.exit h
theorem zC (e : evs s.sl g = some (bv true)) (h : T E n rnd x s Q) : T E n rnd (.cond g x y) s Q := T.condT (fun a ha => ha.ev _ _ e) h
theorem zD (e : evs s.sl g = some (bv false)) (h : T E n rnd y s Q) : T E n rnd (.cond g x y) s Q := T.condF (fun a ha => ha.ev _ _ e) h
end
theorem M1 {C : List Thing} {a : Thing} : ∀ x ∈ C, x ∈ a :: C := memS mem0
theorem M2 {C : List Thing} {a b : Thing} : ∀ x ∈ C, x ∈ a :: b :: C := memS M1
theorem M3 {C : List Thing} {a b c : Thing} : ∀ x ∈ C, x ∈ a :: b :: c :: C := memS M2
theorem M4 {C : List Thing} {a b c d : Thing} : ∀ x ∈ C, x ∈ a :: b :: c :: d :: C := memS M3
theorem M5 {C : List Thing} {a b c d e : Thing} : ∀ x ∈ C, x ∈ a :: b :: c :: d :: e :: C := memS M4
theorem M6 {C : List Thing} {a b c d e f : Thing} : ∀ x ∈ C, x ∈ a :: b :: c :: d :: e :: f :: C := memS M5
theorem M7 {C : List Thing} {a b c d e f g : Thing} : ∀ x ∈ C, x ∈ a :: b :: c :: d :: e :: f :: g :: C := memS M6
theorem M8 {C : List Thing} {a b c d e f g h : Thing} : ∀ x ∈ C, x ∈ a :: b :: c :: d :: e :: f :: g :: h :: C := memS M7
theorem zI {α : Type} {p : Prop} [Decidable p] {c : Bool} {a b r : α} (hc : c = decide p) (h : (if p then a else b) = r) : (c = true ∧ p ∧ a = r) ∨ (c = false ∧ ¬ p ∧ b = r) := by
 subst hc
 by_cases hp : p
 ·rw [if_pos hp] at h; exact .inl ⟨decide_eq_true hp, hp, h⟩
 ·rw [if_neg hp] at h; exact .inr ⟨decide_eq_false hp, hp, h⟩
theorem zZ {α : Type} {c : Bool} {a b r : α} (h : (if c = true then a else b) = r) : (c = true ∧ a = r) ∨ (c = false ∧ b = r) := by
 cases c
 ·exact .inr ⟨rfl, h⟩
 ·exact .inl ⟨rfl, h⟩
theorem zY (p : Prop) [Decidable p] : ∃ c : Bool, c = decide p := ⟨_, rfl⟩
def pks : List Nat → List Thing → List Thing
 | [], b => b
 | p :: ps, b => match p, b with
  | 98, _ :: b => pks ps b
  | p, b => match b[p]? with
   | some x => x :: pks ps (b.eraseIdx p)
   | none => b
theorem pk_ok : ∀ (ps : List Nat) (b : List Thing), Pk (pks ps b) b
 | [], b => .refl
 | p :: ps, b => by
  unfold pks;split
  ·exact .drop (pk_ok ps _)
  ·split
   ·exact .pick (by assumption) (pk_ok ps _)
   ·exact .refl
theorem pk {a b : List Thing} (ps : List Nat) (h : pks ps b = a) : Pk a b := h ▸ pk_ok ps b
theorem sb {a b : Sy} (p : Pk a.hs b.hs) (m : a.ms = b.ms := by exact rfl) (k : ∀ t v, lk a.sl t = some v → lk b.sl t = some v := by repeat' first | exact keep_nil | refine keep_cons rfl ?_) : Sub2 a b := ⟨m, k, p⟩
theorem sc {a b : Sy} (p : List.Sublist a.hs b.hs) (m : a.ms = b.ms := by exact rfl) (k : ∀ t v, lk a.sl t = some v → lk b.sl t = some v := by repeat' first | exact keep_nil | refine keep_cons rfl ?_) : Sub a b := ⟨m, k, p⟩
theorem aD {p : Prop} (h : p := by first | decide | omega) : p := h
theorem aO {p : Prop} (h : p := by omega) : p := h
theorem aG {p : Prop} (h : p := by first | rfl | (simp [GS.one]; done)) : p := h
end Go.Am
end
section
namespace Go.Am
open Go.RowKit Go.Sort Go.Proofs
set_option linter.unusedVariables false
def ivs (l : List Int) : List AV := l.map fun x => .lit (.int .i64 x)
def St.put (S : St) (id : Nat) (l : List Int) (ver : Nat) : St := { heap := S.heap.set id (.row (ivs l) 1 ver), next := S.next, low := S.next }
structure Ord (N : Int) (cf : Int → Int → Int) : Prop where
 irrefl : ∀ x, 0 ≤ x → x < N → ¬ cf x x < 0
 trans : ∀ x y z, 0 ≤ x → x < N → 0 ≤ y → y < N → 0 ≤ z → z < N → cf x y < 0 → cf y z < 0 → cf x z < 0
 ntrans : ∀ x y z, 0 ≤ x → x < N → 0 ≤ y → y < N → 0 ≤ z → z < N → ¬ cf x y < 0 → ¬ cf y z < 0 → ¬ cf x z < 0
def SortAt (E0 : Env) (args : List AV) (S S' : St) : Prop :=
  (∃ s f, args = [s, f] ∧ (s = .lit (.slice none 0 0) ∨ ∃ id off ver ex cap, s = .slice id off ver ex 0 cap) ∧ S' = S) ∨
  ∃ (id fl cap : Nat) (ex : Bool) (c : FuncId) (caps : List AV) (l l' : List Int) (N : Int) (cf : Int → Int → Int),
    args = [.slice id 0 l.length ex l.length cap, .func c [] caps] ∧ S.heap.get id = some (.row (ivs l) 1 fl) ∧ fl ≤ l.length ∧ l ≠ [] ∧ l.length < 4611686018427387904 ∧
    (∃ fn, E0.fn c = some fn) ∧ (∀ x ∈ l, 0 ≤ x ∧ x < N) ∧ Ord N cf ∧
    (∀ l2 : List Int, l2.length = l.length → (∀ x ∈ l2, 0 ≤ x ∧ x < N) → ∀ x y, 0 ≤ x → x < N → 0 ≤ y → y < N →
      ∃ n, ∀ m, n ≤ m → run E0 m (.call c ([.lit (.int .i64 x), .lit (.int .i64 y)] ++ caps)) (S.put id l2 l.length) = .ok (.ret (.lit (.int .i64 (cf x y))), S.put id l2 l.length)) ∧
    l'.Perm l ∧ l'.Pairwise (fun x y => cf x y < 0) ∧ S' = S.write id (.row (ivs l') 1 l.length)
open Classical in
noncomputable def sortDeed (E0 : Env) (args : List AV) (S : St) : Option (AV × St) := if h : ∃ S', SortAt E0 args S S' then some (undefA, h.choose) else none
theorem ivs_get {l : List Int} {i : Nat} {v : AV} (h : (ivs l)[i]? = some v) : ∃ x, l[i]? = some x ∧ v = .lit (.int .i64 x) := by
 unfold ivs at h;rw [List.getElem?_map, Option.map_eq_some_iff] at h;obtain ⟨x, h1, h2⟩ := h;exact ⟨x, h1, h2.symm⟩
theorem ivs_len (l : List Int) : (ivs l).length = l.length := by simp [ivs]
theorem ivs_inj {l l' : List Int} (h : ivs l = ivs l') : l = l' := by
 refine List.map_inj_right (f := fun x : Int => AV.lit (.int .i64 x)) (fun x y e => ?_) |>.1 h
 injection e with e
 injection e with _ e
theorem RelW.same {r : Ren} {S : St} {w w' : World} (h : RelW r S w) (hs : w.heap.size ≤ w'.heap.size) (hb : ∀ b, b < w.heap.size → w'.heap[b]? = w.heap[b]?) : RelW r S w' := by
 refine ⟨fun id ver x hx => ⟨(h.dom _ _ _ hx).1, Nat.lt_of_lt_of_le (h.dom _ _ _ hx).2 hs⟩, h.inj, fun b c hc => ?_, fun id o hg v b n u hx => ?_, h.low⟩
 ·obtain ⟨⟨e, fz, h1⟩, h2⟩ := h.imm b c hc;exact ⟨⟨e, fz, by rw [hb b (Array.getElem?_eq_some_iff.1 h1).1]; exact h1⟩, h2⟩
 ·exact (h.obj id o hg v b n u hx).world (hb b (h.dom _ _ _ hx).2)
theorem Ext.same {r : Ren} {S : St} {w w' : World} (h : RelW r S w) (hs : w.heap.size ≤ w'.heap.size) (hb : ∀ b, b < w.heap.size → w'.heap[b]? = w.heap[b]?) (h1 : w'.os = w.os) (h2 : w'.tape = w.tape) (h3 : w'.output = w.output) (h4 : w.drawn ≤ w'.drawn) : Ext r S w r S w' :=
 ⟨.refl r, h.same hs hb, Nat.le_refl _, Nat.le_refl _, fun _ _ _ => rfl, hs, h1, h2, h3, fun b hlt => .inl (hb b hlt), fun _ _ _ h => .inl h, fun _ _ h => .inl h, fun _ _ _ h => .inr ⟨_, _, h⟩, h4⟩
section
variable {E0 : Env} {r : Ren} {S : St} {w : World}
abbrev Low (N : Int) := { x : Int // 0 ≤ x ∧ x < N }
def encLow (N : Int) (x : Low N) : Value := .int .i64 x.1
theorem putRow_put {N : Int} [Inhabited (Low N)] {b : Nat} {c : Array Value} {e : TypeId} (hb : w.heap[b]? = some (.cells c e (0, 0))) (d : Array (Low N)) : putRow (encLow N) w b 0 d = w.putObj b (.cells (putCells (encLow N) 0 d c) e (0, 0)) := by
 have hlt : b < w.heap.size := (Array.getElem?_eq_some_iff.1 hb).1;unfold putRow mapBlock World.putObj
 congr 1
 refine Array.ext_getElem? fun k => ?_
 rw [Array.getElem?_modify, Array.getElem?_setIfInBounds]
 by_cases hk : b = k
 ·subst hk;rw [if_pos rfl, if_pos rfl, if_pos hlt, hb];rfl
 ·rw [if_neg hk, if_neg hk]
theorem put_ext {N : Int} [Inhabited (Low N)] (hw : RelW r S w) {id fl b n u : Nat} {l : List Int} (hr : r.row id l.length = some (b, n, u)) (hS : S.heap.get id = some (.row (ivs l) 1 fl)) (hfl : fl ≤ l.length) (d : Array (Low N)) (hd : d.size = l.length) :
  Ext r S w r (S.write id (.row (ivs (d.toList.map (·.1))) 1 l.length)) (putRow (encLow N) w b 0 d) := by
 obtain ⟨h1, h2, h3⟩ := hw.obj _ _ hS _ _ _ _ hr;obtain ⟨c, e, k1, k2, k3, k4⟩ := h3 hfl;rw [putRow_put k1]
 have hlt : b < w.heap.size := (hw.dom _ _ _ hr).2;refine hw.write hr _ _ fun ver b1 n1 u1 hr1 => ?_
 obtain ⟨g1, g2, g3⟩ := hw.obj _ _ hS _ _ _ _ hr1
 have hl : (ivs (d.toList.map (·.1))).length = l.length := by rw [ivs_len, List.length_map, Array.length_toList, hd]
 rw [ivs_len] at g2;refine ⟨g1, by rw [hl]; exact g2, fun hle => ?_⟩
 have : ver = l.length := by omega
 subst this;rw [hr] at hr1;cases hr1;refine ⟨putCells (encLow N) 0 d c, e, by rw [World.putObj_get hlt, if_pos rfl], by simp [putCells, k2], k3, fun i v x hi hv hx => ?_⟩;obtain ⟨y, hy, rfl⟩ := ivs_get hv;rw [List.getElem?_map, Option.map_eq_some_iff] at hy;obtain ⟨z, hz, rfl⟩ := hy;rw [putCells, Array.getElem?_mapIdx, Option.map_eq_some_iff] at hx;obtain ⟨a, ha, rfl⟩ := hx;rw [if_pos ⟨Nat.zero_le _, by omega⟩]
 have e1 : d[i - 0]! = z := by
  rw [Nat.sub_zero, getElem!_pos d i (by omega)];rw [Array.getElem?_toList, Array.getElem?_eq_getElem (by omega)] at hz;exact Option.some.inj hz
 rw [e1];exact .lit _
theorem sort_world {N : Int} [Inhabited (Low N)] (hw : RelW r S w) {id fl b n u : Nat} {l : List Int} (hr : r.row id l.length = some (b, n, u)) (hS : S.heap.get id = some (.row (ivs l) 1 fl)) (hfl : fl ≤ l.length) (d : Array (Low N)) (hd : d.size = l.length) (m : Nat) (os : Array Obj) :
  Ext r S w r (S.write id (.row (ivs (d.toList.map (·.1))) 1 l.length)) (sortWorld (encLow N) w b 0 m d os) := by
 have h1 := put_ext hw hr hS hfl d hd;refine h1.trans (Ext.same h1.rel ?_ (fun k hk => ?_) rfl rfl rfl ?_)
 ·simp [sortWorld, grow, putRow_ahead, ahead]
 ·unfold sortWorld;rw [putRow_ahead, heap_grow_old _ _ (by simpa using hk)];rfl
 ·simp [sortWorld, grow, putRow_ahead, ahead]
theorem perm_sorted {N : Int} {cf : Int → Int → Int} (hO : Ord N cf) : ∀ {l1 l2 : List Int}, l1.Perm l2 → (∀ x ∈ l1, 0 ≤ x ∧ x < N) → l1.Pairwise (fun x y => cf x y < 0) → l2.Pairwise (fun x y => ¬ cf y x < 0) → l1 = l2 := by
 intro l1
 induction l1 with
 | nil => intro l2 hp _ _ _; exact hp.nil_eq
 | cons a l1 ih =>
  intro l2 hp hr h1 h2;cases l2 with
  | nil => exact absurd hp.symm.nil_eq (by simp)
  | cons b l2 =>
   have ha := hr a List.mem_cons_self
   have hab : a = b := by
    have hm : a ∈ b :: l2 := hp.mem_iff.1 List.mem_cons_self
    have hm' : b ∈ a :: l1 := hp.mem_iff.2 List.mem_cons_self
    rcases List.mem_cons.1 hm with e | hm
    ·exact e
    ·rcases List.mem_cons.1 hm' with e | hm'
     ·exact e.symm
     ·have k1 := (List.pairwise_cons.1 h1).1 b hm'
      have k2 := (List.pairwise_cons.1 h2).1 a hm;exact absurd k1 k2
   subst hab;rw [ih (List.perm_cons a |>.1 hp) (fun x hx => hr x (List.mem_cons_of_mem _ hx)) (List.pairwise_cons.1 h1).2 (List.pairwise_cons.1 h2).2]
theorem ord_unique {N : Int} {cf : Int → Int → Int} (hO : Ord N cf) {l1 l2 : List Int} (hp : l1.Perm l2) (hr : ∀ x ∈ l1, 0 ≤ x ∧ x < N) (h1 : l1.Pairwise (fun x y => cf x y < 0)) (h2 : l2.Pairwise (fun x y => cf x y < 0)) : l1 = l2 := by
 refine perm_sorted hO hp hr h1 (List.Pairwise.imp_of_mem (fun {x y} hx hy h k => ?_) h2)
 have rx := hr x (hp.mem_iff.2 hx)
 have ry := hr y (hp.mem_iff.2 hy);exact hO.irrefl x rx.1 rx.2 (hO.trans x y x rx.1 rx.2 ry.1 ry.2 rx.1 rx.2 h k)
theorem rel_list {r : Ren} {a b : AV} {xs : List Value} (h : RelL r [a, b] xs) : ∃ x y, xs = [x, y] ∧ RelV r a x ∧ RelV r b y := by
 obtain ⟨x, xs, rfl, h1, h2⟩ := h.cons_inv;obtain ⟨y, ys, rfl, h3, h4⟩ := h2.cons_inv;rw [h4.nil_inv];exact ⟨x, y, rfl, h1, h3⟩
theorem slice_inv' {r : Ren} {id off ver len cap : Nat} {ex : Bool} {x : Value} (h : RelV r (.slice id off ver ex len cap) x) :
  ∃ b n u cap', x = .slice (some ⟨b, off, none⟩) len cap' ∧ r.row id ver = some (b, n, u) ∧ off + cap' * u ≤ n ∧ len ≤ cap ∧ cap ≤ cap' := by
 cases h with
 | slice h1 h2 h3 h4 h5 => exact ⟨_, _, _, _, rfl, h1, h2, h3, h4⟩
theorem func_inv' {r : Ren} {c : FuncId} {caps : List AV} {y : Value} (h : RelV r (.func c [] caps) y) :
  ∃ ys : List Value, y = .func (.func c) [].toArray ys.toArray ∧ caps.length = ys.length ∧ ∀ (i : Nat) (v : AV) (x : Value), caps[i]? = some v → ys[i]? = some x → RelV r v x := by
 cases h with
 | func g1 g2 gx gy =>
  rename_i zs ys
  have hzs : zs = [] := List.eq_nil_of_length_eq_zero g1.symm;subst hzs;exact ⟨ys, rfl, g2, gy⟩
theorem sort_effs {E0 : Env} (hG : EnvGood E0) {ρ : Shelf.Ren} (L : SlLaysF.n6 E0.P ρ) : Effs E0.P (ρ.f 6) (sortDeed E0) := by
  intro r S w args xs v S' hw ha hg
  unfold sortDeed at hg
  split at hg
  · rename_i hex
    obtain ⟨rfl, rfl⟩ := Prod.mk.inj (Option.some.inj hg)
    have hat := hex.choose_spec
    generalize hex.choose = S' at hat
    refine callsIn_wide.2 ?_
    rcases hat with ⟨s, f, rfl, hs, rfl⟩ | ⟨id, fl, cap, ex, c, caps, l, l', N, cf, rfl, hS, hfl, hne, hsz, ⟨fn, hfn⟩, hin, hO, hrun, hperm, hsort, rfl⟩
    · obtain ⟨x, y, rfl, hx, hy⟩ := rel_list ha
      have : ∃ p cap, x = .slice p 0 cap := by
        rcases hs with rfl | ⟨id, off, ver, ex, cap, rfl⟩
        · exact ⟨none, 0, hx.lit_inv⟩
        · cases hx with
          | slice h1 h2 h3 h4 h5 => exact ⟨_, _, rfl⟩
      obtain ⟨p, cap, rfl⟩ := this
      exact (AnyF.slices_SortFunc_none { L with } p cap y w).mono fun e w' ⟨he, hw'⟩ => ⟨_, r, he, by rw [hw']; exact .refl hw, undef_rel r⟩
    · obtain ⟨x, y, rfl, hx, hy⟩ := rel_list ha
      obtain ⟨b, n, u, cap', rfl, hr, h2, h3, h4⟩ := slice_inv' hx
      obtain ⟨ys, rfl, g2, gy⟩ := func_inv' hy
      have hx0 : ∃ x0 : Int, 0 ≤ x0 ∧ x0 < N := by
        cases l with
        | nil => exact absurd rfl hne
        | cons a l => exact ⟨a, hin a List.mem_cons_self⟩
      have : Inhabited (Low N) := ⟨⟨hx0.choose, hx0.choose_spec⟩⟩
      let d : Array (Low N) := (l.attachWith (fun x => 0 ≤ x ∧ x < N) hin).toArray
      have hdl : d.toList.map (·.1) = l := by simp [d]
      have hds : d.size = l.length := by simp [d]
      obtain ⟨w1, w2, w3⟩ := hw.obj _ _ hS _ _ _ _ hr
      obtain ⟨ce, e, k1, k2, k3, k4⟩ := w3 hfl
      have hlt := (hw.dom _ _ _ hr).2
      have hget : ∀ j, j < d.size → l[j]? = some (d[j]!).1 := fun j hj => by
        rw [← hdl, List.getElem?_map, Array.getElem?_toList, Array.getElem?_eq_getElem hj, getElem!_pos d j hj]
        rfl
      have hH : Holds (encLow N) w b 0 d := fun j hj => by
        have hjc : j < ce.size := by omega
        have hcell : w.cell? ⟨b, 0 + j, none⟩ = some ce[j] := by simp [World.cell?, k1, Array.getElem?_eq_getElem hjc]
        have hrel := k4 j (.lit (.int .i64 (d[j]!).1)) ce[j] (by omega) (by unfold ivs; rw [List.getElem?_map, hget j hj]; rfl) (Array.getElem?_eq_getElem hjc)
        refine ⟨by rw [hcell, hrel.lit_inv]; rfl, ?_⟩
        simp [World.frozen?, k1]
      have hSWO : SWO (ltOf fun x y : Low N => cf x.1 y.1) := by
        refine ⟨fun x => ?_, fun x y z h1 h2 => ?_, fun x y z h1 h2 => ?_⟩
        · simpa [ltOf] using hO.irrefl x.1 x.2.1 x.2.2
        · have := hO.trans x.1 y.1 z.1 x.2.1 x.2.2 y.2.1 y.2.2 z.2.1 z.2.2 (of_decide_eq_true h1) (of_decide_eq_true h2)
          exact decide_eq_true this
        · have := hO.ntrans x.1 y.1 z.1 x.2.1 x.2.2 y.2.1 y.2.2 z.2.1 z.2.2 (of_decide_eq_false h1) (of_decide_eq_false h2)
          exact decide_eq_false this
      have hcmp : CmpLays1 E0.P c ys.toArray (encLow N) (fun x y => cf x.1 y.1) b 0 d.size w := by
        intro m os dk hdk x y
        have hdk : dk.size = l.length := by omega
        have hx := sort_world (N := N) hw hr hS hfl dk hdk m os
        obtain ⟨nn, hrn⟩ := hrun (dk.toList.map (·.1)) (by simp [hdk]) (fun z hz => by
          obtain ⟨q, _, rfl⟩ := List.mem_map.1 hz
          exact q.2) x.1 y.1 x.2.1 x.2.2 y.2.1 y.2.2
        have hrel : RelW r (S.put id (dk.toList.map (·.1)) l.length) (sortWorld (encLow N) w b 0 m dk os) :=
          ⟨hx.rel.dom, hx.rel.inj, hx.rel.imm, hx.rel.obj, Nat.le_refl _⟩
        have hargs : RelL r ([.lit (.int .i64 x.1), .lit (.int .i64 y.1)] ++ caps) ([encLow N x, encLow N y] ++ ys) := RelL.append (.cons (.lit _) (.cons (.lit _) (.nil r))) ⟨g2, gy⟩
        have := callsIn_wide.1 ((run_sound hG nn).call c _ _ _ _ (hrn nn (Nat.le_refl _)) r _ _ hrel hargs)
        have ea : ([encLow N x, encLow N y] ++ ys).toArray = #[encLow N x, encLow N y] ++ ys.toArray := by simp
        rw [ea] at this
        refine this.mono fun e w' ⟨z, r', he, hxt, hv⟩ => ⟨by rw [he, hv.lit_inv], ?_⟩
        have hfr : ∀ k, k < (sortWorld (encLow N) w b 0 m dk os).heap.size → w'.heap[k]? = (sortWorld (encLow N) w b 0 m dk os).heap[k]? := fun k hk => by
          rcases hxt.frame k hk with h | ⟨i, ver, y, q1, q2, q3⟩
          · exact h
          · have := (hrel.dom _ _ _ q1).1
            simp only [St.put] at q3 this
            omega
        generalize sortWorld (encLow N) w b 0 m dk os = W at hxt hfr
        refine ⟨w'.drawn - W.drawn, w'.heap.extract W.heap.size w'.heap.size, ?_⟩
        obtain ⟨h', t', dr', os', ou'⟩ := w'
        obtain ⟨hW, tW, drW, osW, ouW⟩ := W
        have q1 := hxt.os; have q2 := hxt.tape; have q3 := hxt.output; have q4 := hxt.draws; have q5 := hxt.size
        simp only at q1 q2 q3 q4 q5 hfr
        subst q1 q2 q3
        simp only [grow, World.drewN, World.mk.injEq, true_and, and_true]
        refine ⟨Array.ext_getElem? fun k => ?_, (by show dr' = drW + (dr' - drW); omega), trivial⟩
        rw [Array.getElem?_append]
        by_cases hk : k < hW.size
        · rw [if_pos hk]; exact hfr k hk
        · rw [if_neg hk, Array.getElem?_extract]
          by_cases hk2 : k < h'.size
          · rw [if_pos (by simp; omega), show hW.size + (k - hW.size) = k by omega]
          · rw [if_neg (by simp; omega), Array.getElem?_eq_none (by omega)]
      have eg := (hG.ok.fn c fn hfn).2
      have hcon := Any.slices_SortFunc L (encLow N) (fun _ => rfl) (fun x y : Low N => cf x.1 y.1) hSWO c ys.toArray b 0 cap' d w eg hcmp hH hlt (by omega)
      rw [hds] at hcon
      have ea : #[Value.slice (some ⟨b, 0, none⟩) l.length cap', .func (.func c) [].toArray ys.toArray] = [Value.slice (some ⟨b, 0, none⟩) l.length cap', .func (.func c) [].toArray ys.toArray].toArray := rfl
      refine Calls.mono (R := _) (by rw [← ea]; exact hcon) ?_
      rintro e w' ⟨he, d', m, os, hp, hsd, rfl⟩
      have hd's : d'.size = l.length := by rw [hp.1, hds]
      have hpl : d'.toList.Perm d.toList := by
        have := hp.2.2
        rw [← hds] at this
        rw [Array.extract_size] at this
        rwa [show d'.extract 0 d.size = d' by rw [← hp.1]; exact Array.extract_size] at this
      have hsl : (d'.toList.map (·.1)).Pairwise (fun x y => ¬ cf y x < 0) := by
        rw [List.pairwise_map, List.pairwise_iff_getElem]
        intro i j hi hj hij
        have := hsd i j (Nat.zero_le _) hij (by simpa [hd's] using hj)
        rw [getElem!_pos d' j (by simpa using hj), getElem!_pos d' i (by simpa using hi)] at this
        simpa [ltOf] using this
      have heq : l' = d'.toList.map (·.1) := by
        refine perm_sorted hO ?_ (fun x hx => hin x (hperm.mem_iff.1 hx)) hsort hsl
        refine hperm.trans ?_
        have := (hpl.map (·.1)).symm
        rwa [hdl] at this
      subst heq
      exact ⟨_, r, he, sort_world hw hr hS hfl d' hd's m os, undef_rel r⟩
  · cases hg
end
end Go.Am
end
section
namespace Go.Am
open Go.RowKit
set_option linter.unusedVariables false
variable {E : Env} {n : Nat} {rnd : Option Nat} {s : Sy} {Q : Exit → Sy → Prop}
def CS (E : Env) (n : Nat) (rnd : Option Nat) (c : Code) (s : Sy) (Q : Exit → Sy → Prop) : Prop :=
 ∀ a S, Is n rnd a S s → ∃ e a' s', (∃ k, ∀ m, k ≤ m → run E m (.code c a) S = .ok (.exit e a', S)) ∧ Is n rnd a' S s' ∧ Q e s'
theorem CS.of_step {c : Code} (h : ∀ a S, Is n rnd a S s → ∃ e a' s', (∃ k, ∀ m, k ≤ m → runCode (run E m) E c a S = .ok (.exit e a', S)) ∧ Is n rnd a' S s' ∧ Q e s') : CS E n rnd c s Q := fun a S hi => by
 obtain ⟨e, a', s', ⟨k, hk⟩, h1, h2⟩ := h a S hi;refine ⟨e, a', s', ⟨k + 1, fun m hm => ?_⟩, h1, h2⟩;cases m with
 | zero => omega
 | succ m => exact hk m (by omega)
theorem CS.ret (h : Q .ret s) : CS E n rnd .ret s Q := .of_step fun a S hi => ⟨_, _, _, ⟨0, fun _ _ => rfl⟩, hi, h⟩
theorem CS.skip (h : Q .normal s) : CS E n rnd .skip s Q := .of_step fun a S hi => ⟨_, _, _, ⟨0, fun _ _ => rfl⟩, hi, h⟩
def ThenC (E : Env) (n : Nat) (rnd : Option Nat) (y : Code) (Q : Exit → Sy → Prop) : Exit → Sy → Prop
 | .normal, s => CS E n rnd y s Q
 | _, _ => False
theorem CS.seq {x y : Code} (h : CS E n rnd x s (ThenC E n rnd y Q)) : CS E n rnd (.seq x y) s Q := .of_step fun a S hi => by
 obtain ⟨e, a1, s1, ⟨k1, h1⟩, h2, h3⟩ := h a S hi
 have he : e = .normal := by cases e <;> first | rfl | exact h3.elim
 subst he;obtain ⟨e, a2, s2, ⟨k2, h4⟩, h5, h6⟩ := h3 a1 S h2;refine ⟨e, a2, s2, ⟨max k1 k2, fun m hm => ?_⟩, h5, h6⟩
 show runSeq _ _ _ _ _ = _;unfold runSeq;rw [h1 m (by omega)];exact h4 m (by omega)
theorem CS.text {id : Nat} {ops : Array Oper} {l : List Nat} (hl : List.range ops.size = l) (h : TO E true n rnd ops l s (Q .normal)) : CS E n rnd (.region id ops false) s Q := .of_step fun a S hi => by
 subst hl;obtain ⟨a', hc, s', h1, h2⟩ := h a S hi;refine ⟨_, a', s', ?_, h1, h2⟩
 have key : ∀ (l : List Nat) (a a' : AAct), Chain E ops S l a a' → ∃ k, ∀ m, k ≤ m → opSteps (run E m) E ops l a S = .ok (a', S) := by
  intro l
  induction l with
  | nil => intro a a' h; cases h; exact ⟨0, fun m _ => rfl⟩
  | cons i l ih =>
   intro a a' ⟨v, a1, ⟨k, hk⟩, h2, h3⟩;obtain ⟨k', hk'⟩ := ih a1 a' h3;refine ⟨max k k', fun m hm => ?_⟩;unfold opSteps opStep;rw [hk m (by omega)];simp only [Except.bind, h2];exact hk' m (by omega)
 obtain ⟨k, hk⟩ := key _ _ _ hc;refine ⟨k, fun m hm => ?_⟩
 show runRegion _ _ _ _ _ _ = _;unfold runRegion;simp only [cond_false, hk m hm, Except.bind]
theorem CS.draw (hE : ∀ v, E.same.1 v v = true) {id : Nat} {ops : Array Oper} {l1 l2 : List Nat} (h1 : firstPass ops (CheckFast.beforeL ops.toList 0 []) = l1) (h2 : secondPass ops (CheckFast.beforeL ops.toList 0 []) = l2)
  (h : TO E true n rnd ops (l1 ++ l2) s (Q .normal)) : CS E n rnd (.region id ops true) s Q := .of_step fun a S hi => by
 obtain ⟨a', hc, s', hi', hq⟩ := h a S hi;obtain ⟨a1, hc1, hc2⟩ := hc.append
 have hk : ∀ i ∈ l1, ∀ o, ops[i]? = some o → kindOf o ≠ 2 := by
  intro i hi o ho;rw [← h1] at hi;unfold firstPass at hi;rw [CheckFast.force_eq] at hi
  have := (List.mem_filter.1 hi).2;unfold isFirst at this;rw [ho] at this;simp only [Bool.and_eq_true, Bool.not_eq_true'] at this;exact beq_false.1 this.1
 obtain ⟨n1, seen, k1, k2⟩ := hc1.first hE (seen := []) hk (fun x hx => by simp at hx);obtain ⟨n2, k3⟩ := hc2.second hE (masks := CheckFast.beforeL ops.toList 0 []) (past := []) k2 (fun g hg => by simp at hg);refine ⟨_, a', s', ⟨max n1 n2, fun m hm => ?_⟩, hi', hq⟩
 show runRegion _ _ _ _ _ _ = _;unfold runRegion;simp only [cond_true, forceL_eq];unfold drawRun;rw [h1, h2, k1 m (by omega)]
 have : seen.all (agrees E ops S) = true := List.all_eq_true.2 k2;simp only [Except.bind, this, cond_true, k3 m (by omega)]
def Still (E : Env) (f : FuncId) (args : List AV) (hs : List Thing) (v : AV) : Prop := ∀ S, HasS S hs → ∃ n, ∀ m, n ≤ m → run E m (.call f args) S = .ok (.ret v, S)
theorem Still.enter {f : FuncId} {args : List AV} {hs : List Thing} {fn : Func} {c : Code} {n : Nat} {v : AV} {σ : Sl} {rs : List ResultVar} (hf : E.fn f = some fn) (hb : fn.body = some c) (hn : args.length + (fn.ntmps - args.length) = n) (hσ : zipN 0 args = σ)
  (hr : fn.results.toList = rs) (h : CS E n none c ⟨[], σ, hs⟩ (Ret rs fun u _ => u = v)) (he0 : E.eff f = none := by rfl) : Still E f args hs v := by
 intro S hS
 have ha : HasA (enterAct fn args) n none [] σ := by
  refine ⟨hn, rfl, rfl, fun t v hv => ?_⟩;rw [← hσ] at hv;simp only [enterAct, AAct.get, enter_get _ _ _ _ _ hv]
 obtain ⟨e, a', s', ⟨m0, hm⟩, hi, hq⟩ := h _ S ⟨ha, hS⟩
 have hq' : isEnd e = true ∧ s'.ms = [] ∧ ∃ vs, resS s'.sl rs = some vs ∧ oneOrTuple vs = v := by
  cases e with
  | normal => exact ⟨rfl, hq⟩
  | ret => exact ⟨rfl, hq⟩
  | _ => exact hq.elim
 obtain ⟨he, hms, vs, hv, hk⟩ := hq';refine ⟨m0 + 1, fun m hm' => ?_⟩;cases m with
 | zero => omega
 | succ m =>
  have hm := hm m (by omega)
  have hmk : a'.marks = [] := hi.act.marks.trans hms;rw [run_succ];simp only [runStep, runCall, he0, hf, hb, ofOpt, Except.bind, hm, mustBe, he, cond_true, hmk, leave, hr, resS_ok hi.act rs vs hv, hk]
theorem HasS.low {S : St} {hs : List Thing} (h : HasS S hs) (k : Nat) : HasS { heap := S.heap, next := S.next, low := k } hs :=
 ⟨h.wf, fun x hx => by have := h.ok x hx; cases x <;> exact this, h.apart⟩
theorem TF.sort {E0 : Env} {f : FuncId} (he : E.eff f = some (sortDeed E0)) {hs : List Thing} {p : Nat} {z : Bool} {v : AV} {l l' : List Int} (hp : hs[p]? = some (ownL z v encI l)) {c : FuncId} {caps : List AV} {N : Int} {cf : Int → Int → Int}
  (hsz : l.length < 1000000000) (hfn : ∃ fn, E0.fn c = some fn) (hin : ∀ x ∈ l, 0 ≤ x ∧ x < N) (hO : Ord N cf)
  (hrun : ∀ l2 : List Int, l2.length = l.length → (∀ x ∈ l2, 0 ≤ x ∧ x < N) → ∀ x y, 0 ≤ x → x < N → 0 ≤ y → y < N → Still E0 c ([iv x, iv y] ++ caps) (hs.set p (ownL z v encI l2)) (iv (cf x y)))
  (hperm : l'.Perm l) (hsort : l'.Pairwise (fun x y => cf x y < 0)) : TF E f [v, .func c [] caps] hs fun u hs' => u = undefA ∧ hs' = hs.set p (ownL z v encI l') := by
 intro S hS
 have hown := hS.own (p := p) (u := 1) hp
 have fin : ∀ S1, (∃ S', SortAt E0 [v, .func c [] caps] S S') → (∀ S', SortAt E0 [v, .func c [] caps] S S' → S' = S1) → HasS S1 (hs.set p (ownL z v encI l')) →
   Evt E (fun rec => rec (.call f [v, .func c [] caps]) S) fun r => ∃ w S' hs', r = (.ret w, S') ∧ HasS S' hs' ∧ (w = undefA ∧ hs' = hs.set p (ownL z v encI l')) := by
  intro S1 h1 h2 h3;refine Evt.task ⟨(.ret undefA, S1), ⟨0, fun m _ => ?_⟩, _, _, _, rfl, h3, rfl, rfl⟩
  have hd : sortDeed E0 [v, .func c [] caps] S = some (undefA, S1) := by
   unfold sortDeed;rw [dif_pos h1, h2 _ h1.choose_spec]
  simp only [runStep, runCall, he, hd, ofOpt, Except.bind]
 have hflat : ∀ l : List Int, l.flatMap encI.f = ivs l := fun l => flat_ints l
 by_cases hl : l = []
 ·subst hl
  have hl' : l' = [] := hperm.eq_nil;subst hl'
  have hset : hs.set p (ownL z v encI []) = hs := by
   refine List.ext_getElem? fun i => ?_
   rw [List.getElem?_set];split
   ·rename_i e; subst e
    rw [if_pos (List.getElem?_eq_some_iff.1 hp).1, hp]
   ·rfl
  have hv : v = .lit (.slice none 0 0) ∨ ∃ id off ver ex cap, v = .slice id off ver ex 0 cap := by
   rcases hown with ⟨_, h, _⟩ | ⟨id, ex, h, _⟩
   ·exact .inl h
   ·exact .inr ⟨_, _, _, _, _, h⟩
  refine fin S ⟨S, .inl ⟨_, _, rfl, hv, rfl⟩⟩ ?_ (by rw [hset]; exact hS);rintro S' (⟨s, g, e, _, rfl⟩ | ⟨id, fl, cap, ex, c', caps', l2, l2', N2, cf2, e, _, _, hne, _⟩)
  ·rfl
  ·exfalso
   injection e with e _
   rcases hv with rfl | ⟨id, off, ver, ex, cap, rfl⟩
   ·cases e
   ·injection e with _ _ _ _ e _
    exact hne (List.eq_nil_of_length_eq_zero e.symm)
 ·rcases hown with ⟨_, _, h, _⟩ | ⟨id, ex, rfl, hcl, hzn, fl, hfl, hget⟩
  ·exact absurd (List.eq_nil_of_length_eq_zero h) hl
  ·rw [hflat] at hcl hfl hget;rw [ivs_len] at hcl hfl
   have hcells : (l.flatMap encI.f).length = l.length := by rw [hflat, ivs_len]
   rw [hcells] at fin hp hrun ⊢
   have hid : ∀ l2 : List Int, Thing.id (ownL z (.slice id 0 l.length ex l.length l.length) encI l2) = some id := fun l2 => rfl
   have hok : ∀ (l2 : List Int) (k : Nat), l2.length = l.length → Thing.ok { heap := S.heap.set id (.row (ivs l2) 1 l.length), next := S.next, low := k } (ownL z (.slice id 0 l.length ex l.length l.length) encI l2) := fun l2 k h2 => by
    refine .inr ⟨id, ex, ?_, ?_, fun _ => ?_, l.length, ?_, ?_⟩
    ·rw [hflat, ivs_len, h2]
    ·rw [hflat, ivs_len, h2]; simp [encI]
    ·rw [h2]; exact fun h => hl (List.eq_nil_of_length_eq_zero h)
    ·rw [hflat, ivs_len, h2]; exact Nat.le_refl _
    ·rw [hflat]; exact Trie.get_set_same _ _ _
   have hput : ∀ l2 : List Int, l2.length = l.length → (∀ x ∈ l2, 0 ≤ x ∧ x < N) → ∀ x y, 0 ≤ x → x < N → 0 ≤ y → y < N →
     ∃ n, ∀ m, n ≤ m → Go.Am.run E0 m (.call c ([.lit (.int .i64 x), .lit (.int .i64 y)] ++ caps)) (S.put id l2 l.length) = .ok (.ret (.lit (.int .i64 (cf x y))), S.put id l2 l.length) := by
    intro l2 h2 h3 x y a1 a2 a3 a4
    have := hS.writeAt (i := id) (o := .row (ivs l2) 1 l.length) (y := ownL z (.slice id 0 l.length ex l.length l.length) encI l2) hp (hid l) (hid l2) (hok l2 _ h2);exact hrun l2 h2 h3 x y a1 a2 a3 a4 (S.put id l2 l.length) (this.low S.next)
   refine fin (S.write id (.row (ivs l') 1 l.length)) ⟨_, .inr ⟨id, fl, l.length, ex, c, caps, l, l', N, cf, rfl, hget, hfl, hl, by omega, hfn, hin, hO, hput, hperm, hsort, rfl⟩⟩ ?_ ?_
   ·rintro S' (⟨s, g, e, hs, rfl⟩ | ⟨id2, fl2, cap2, ex2, c2, caps2, l2, l2', N2, cf2, e, hget2, _, hne2, _, _, hin2, hO2, hrun2, hperm2, hsort2, rfl⟩)
    ·exfalso
     injection e with e _
     rcases hs with rfl | ⟨_, _, _, _, _, rfl⟩
     ·cases e
     ·injection e with _ _ _ _ e _
      exact hl (List.eq_nil_of_length_eq_zero e)
    ·injection e with e1 e2
     injection e2 with e2 _
     injection e1 with e1 _ _ _ _ _
     injection e2 with e2 _ e3
     subst e1 e2 e3;rw [hget] at hget2
     injection hget2 with hget2
     injection hget2 with hget2 _ _
     have := ivs_inj hget2;subst this
     have hcf : ∀ x ∈ l, ∀ y ∈ l, cf2 x y = cf x y := fun x hx y hy => by
      obtain ⟨n1, k1⟩ := hput l rfl hin x y (hin x hx).1 (hin x hx).2 (hin y hy).1 (hin y hy).2;obtain ⟨n2, k2⟩ := hrun2 l rfl hin2 x y (hin2 x hx).1 (hin2 x hx).2 (hin2 y hy).1 (hin2 y hy).2
      have a := k1 (max n1 n2) (by omega)
      have b := k2 (max n1 n2) (by omega);rw [a] at b
      injection b with b
      injection b with b _
      injection b with b
      injection b with b
      injection b with _ b
      exact b.symm
     have := ord_unique hO (hperm2.trans hperm.symm) (fun x hx => hin x (hperm2.mem_iff.1 hx)) (hsort2.imp_of_mem fun {x y} hx hy h => by rwa [hcf x (hperm2.mem_iff.1 hx) y (hperm2.mem_iff.1 hy)] at h) hsort;rw [this]
   ·exact hS.writeAt (i := id) hp (hid l) (hid l') (hok l' _ hperm.length_eq)
end Go.Am
end
section
namespace Go.Proofs
open Go.Shelf
shelf_lay_g SlLaysF.n6 Slsf 6 at Try 50 as Try.sortInt
end Go.Proofs
namespace Go.Am.Ythckcbfijdambaa
open Go.Am Go.RowKit
noncomputable def env0 : Env := envS fun _ => none
theorem good_env0 : EnvGood env0 := goodS fun f g h => by cases h
noncomputable def effE (f : Nat) : Option (List AV → St → Option (AV × St)) := bif Nat.beq f 50 then some (sortDeed env0) else none
theorem effE_ok (f : Nat) (g : List AV → St → Option (AV × St)) (h : effE f = some g) : Effs env0.P f g := by
 unfold effE at h;cases hb : Nat.beq f 50 with
 | true =>
  rw [hb] at h;cases h
  have := Nat.eq_of_beq_eq_true hb;subst this;exact sort_effs good_env0 Go.Proofs.Try.sortInt
 | false => rw [hb] at h; cases h
noncomputable def envT (orc : Orc') : Env := { envS orc with eff := effE }
theorem goodT {orc : Orc'} (h : ∀ f g, orc f = some g → Meets Go.Proofs.Try.prog f g) : EnvGood (envT orc) :=
 ⟨⟨(goodS h).ok.und, (goodS h).ok.info, (goodS h).ok.byt, (goodS h).ok.zro, (goodS h).ok.fn⟩, (goodS h).orc, (goodS h).body, (goodS h).mixed, effE_ok⟩
end Go.Am.Ythckcbfijdambaa
end
section
namespace Go.Am.Ythckcbfijdambaa.Closed
open Go.Am Go.RowKit Go.Am.Ythckcbfijdambaa
abbrev Orc := Nat → Option (List AV → Option AV)
def noOrc : Orc := fun _ => none
def bodyOk (f : Func) : Bool := match f.body with | some c => codeOk c | none => true
theorem bodies_ok : funcs.all bodyOk = true := by kernel_rfl
theorem mixed_ok : Go.Proofs.Try.prog.follows .mixedOrders = true := by kernel_rfl
theorem good {orc : Orc} (h : ∀ f g, orc f = some g → Meets Go.Proofs.Try.prog f g) : EnvGood (env orc) :=
  { ok := ok orc, orc := h, mixed := mixed_ok,
    body := fun f fn c h1 h2 => by
      have := BT.all.get bodies_ok h1
      unfold bodyOk at this
      rw [h2] at this
      exact this }
theorem good0 : EnvGood (env noOrc) := good fun f g h => by cases h
def i (n : Int) : AV := .lit (.int .i64 n)
def nilS : AV := .lit (.slice none 0 0)
def book : AV := .agg [i 0, .tree 4 2 [i 1, i 0, i 4, nilS, i 1, i 1, i 4, nilS]]
def checkT : List (List AV × AV) := [([book], .tuple [i 0, i 0, i 0])]
def leavesT : List (List AV × AV) := [([book], .tuple [.tree 4 8 [i 0, i 1, i 0, i 0, i 0, i 2, i 0, i 0, i 0, i 3, i 0, i 0, i 0, i 4, i 0, i 0, i 1, i 1, i 0, i 0, i 1, i 2, i 0, i 0, i 1, i 3, i 0, i 0, i 1, i 4, i 0, i 0], i 0])]
def mateT : List (List AV × AV) := [([book, i 0], .tuple [i 3, i 0]), ([book, i 1], .tuple [i 2, i 0]), ([book, i 2], .tuple [i 1, i 0]), ([book, i 3], .tuple [i 0, i 0]), ([book, i 4], .tuple [i 7, i 0]), ([book, i 5], .tuple [i 6, i 0]), ([book, i 6], .tuple [i 5, i 0]), ([book, i 7], .tuple [i 4, i 0])]
theorem check_run : runsB (env noOrc) 100000 56 [book] (.tuple [i 0, i 0, i 0]) = true := by kernel_rfl
def orc1 : Orc := fun f => match f with | 56 => some (table checkT) | _ => none
theorem good1 : EnvGood (env orc1) := good fun f g h => by
 unfold orc1 at h;split at h
 ·cases h;exact table_meets good0 fun x hx => by
   simp only [checkT, List.mem_singleton] at hx;subst hx;exact .of 100000 check_run
 ·cases h
theorem leaves_run : leavesT.all (fun x => runsB (env orc1) 100000 57 x.1 x.2) = true := by kernel_rfl
def orc2 : Orc := fun f => match f with | 56 => some (table checkT) | 57 => some (table leavesT) | _ => none
theorem good2 : EnvGood (env orc2) := good fun f g h => by
 unfold orc2 at h;split at h
 ·exact good1.orc 56 g h
 ·cases h;exact table_meets good1 fun x hx => .of 100000 (List.all_eq_true.1 leaves_run x hx)
 ·cases h
theorem mate_run : mateT.all (fun x => runsB (env orc2) 100000 59 x.1 x.2) = true := by kernel_rfl
def orc3 : Orc := fun f => match f with | 56 => some (table checkT) | 57 => some (table leavesT) | 59 => some (table mateT) | _ => none
theorem good3 : EnvGood (env orc3) := good fun f g h => by
 unfold orc3 at h;split at h
 ·exact good1.orc 56 g h
 ·exact good2.orc 57 g h
 ·cases h;exact table_meets good2 fun x hx => .of 100000 (List.all_eq_true.1 mate_run x hx)
 ·cases h
end Go.Am.Ythckcbfijdambaa.Closed
end
section
namespace Go.Am.Ythckcbfijdambaa.Closed
open Go.Am Go.RowKit Go.Am.Ythckcbfijdambaa
def one (l : List Int) : AV := .tree 1 l.length (l.map i)
def gs : List AV := [i 1, i 0, i 4, nilS, i 1, i 1, i 4, nilS]
def kase : AV := .agg [i 0, .tree 4 2 gs, .tree 1 8 [one [4], one [5], nilS, one [0], one [1], one [3], one [1], one [6, 7]]]
def kase2 : AV := .agg [i 0, .tree 4 2 gs, .tree 1 6 [one [0], one [3], one [4], one [5], one [6], one [7]]]
def faultsT : List (List AV × AV) := [
  ([kase], .tuple [.agg [one [4, 5, -1, 0, 1, 3, 1, 6], one [2, 7], i 2, one [2], one [6], one [3], i 5], i 0]),
  ([kase2], .tuple [.agg [one [0, 3, 4, 5, 6, 7], one [1, 2], i 1, nilS, nilS, nilS, i 1], i 0])]
theorem faults_run : faultsT.all (fun x => runsB (env orc3) 100000 19 x.1 x.2) = true := by kernel_rfl
def rangeT : List (List AV × AV) := [([kase], .tuple [.agg [i 5, i 5], i 0])]
theorem range_run : rangeT.all (fun x => runsB (env orc3) 100000 27 x.1 x.2) = true := by kernel_rfl
def lostT : List (List AV × AV) := [([kase], .tuple [one [2], one [2, 6, 7], i 0])]
theorem lost_run : lostT.all (fun x => runsB (env orc3) 100000 33 x.1 x.2) = true := by kernel_rfl
def looseT : List (List AV × AV) := [([kase], .tuple [one [1], one [1, 4, 5], i 0])]
theorem loose_run : looseT.all (fun x => runsB (env orc3) 100000 44 x.1 x.2) = true := by kernel_rfl
def kase7 : AV := .agg [i 0, .tree 4 2 gs, .tree 1 7 [one [4], one [5], nilS, one [0], one [1], one [3], one [1]]]
def askT : List (List AV × AV) := [([kase], .tuple [i 7, i 0]), ([kase7], .tuple [i 0, i 4])]
theorem ask_run : askT.all (fun x => runsB (env orc3) 100000 18 x.1 x.2) = true := by kernel_rfl
def items (l : List Int) : AV := .tree 1 l.length (l.map fun n => one [n])
def dividedT : List (List AV × AV) := [([book, items [0, 1], items [2, 3, 4]], .tuple [one [0, 1], i 0]), ([book, items [0], items [0]], .tuple [nilS, i 5]), ([book, items [0, 3], items [1, 2]], .tuple [nilS, i 0])]
theorem divided_run : dividedT.all (fun x => runsB (env orc3) 100000 11 x.1 x.2) = true := by kernel_rfl
def orc4 : Orc := fun f => match f with
 | 56 => some (table checkT) | 57 => some (table leavesT) | 59 => some (table mateT)
 | 19 => some (table faultsT) | 27 => some (table rangeT) | 33 => some (table lostT) | 44 => some (table looseT) | 18 => some (table askT) | 11 => some (table dividedT) | _ => none
theorem good4 : EnvGood (env orc4) := good fun f g h => by
 unfold orc4 at h;split at h
 ·exact good3.orc 56 g h
 ·exact good3.orc 57 g h
 ·exact good3.orc 59 g h
 ·cases h; exact table_meets good3 fun x hx => .of 100000 (List.all_eq_true.1 faults_run x hx)
 ·cases h; exact table_meets good3 fun x hx => .of 100000 (List.all_eq_true.1 range_run x hx)
 ·cases h; exact table_meets good3 fun x hx => .of 100000 (List.all_eq_true.1 lost_run x hx)
 ·cases h; exact table_meets good3 fun x hx => .of 100000 (List.all_eq_true.1 loose_run x hx)
 ·cases h; exact table_meets good3 fun x hx => .of 100000 (List.all_eq_true.1 ask_run x hx)
 ·cases h; exact table_meets good3 fun x hx => .of 100000 (List.all_eq_true.1 divided_run x hx)
 ·cases h
def boundT : List (List AV × AV) := [([kase], .tuple [one [3, 4, 5, 0, 1, 7], i 0])]
theorem bound_run : boundT.all (fun x => runsB (env orc4) 100000 30 x.1 x.2) = true := by kernel_rfl
def orc5 : Orc := fun f => match f with | 30 => some (table boundT) | f => orc4 f
theorem good5 : EnvGood (env orc5) := good fun f g h => by
 unfold orc5 at h;split at h
 ·cases h; exact table_meets good4 fun x hx => .of 100000 (List.all_eq_true.1 bound_run x hx)
 ·exact good4.orc _ g h
theorem awake_run : runsB (env orc5) 100000 14 [] (.lit (.bool true)) = true := by kernel_rfl
def orc6 : Orc := fun f => match f with | 14 => some (table [([], .lit (.bool true))]) | f => orc5 f
theorem good6 : EnvGood (env orc6) := good fun f g h => by
 unfold orc6 at h;split at h
 ·cases h; exact table_meets good5 fun x hx => by
   simp only [List.mem_singleton] at hx;subst hx;exact .of 100000 awake_run
 ·exact good5.orc _ g h
theorem awake_meets : Meets Go.Proofs.Try.prog 14 (table [([], .lit (.bool true))]) := good6.orc 14 _ rfl
end Go.Am.Ythckcbfijdambaa.Closed
end
section
namespace Go.Am.Ythckcbfijdambaa
open Go.Am Go.RowKit
def lev : Nat → Option Nat
 | 3 => some 7
 | 5 => some 7
 | 6 => some 7
 | 7 => some 7
 | 8 => some 7
 | 9 => some 8
 | 10 => some 7
 | 11 => some 5
 | 12 => some 5
 | 13 => some 0
 | 18 => some 5
 | 19 => some 5
 | 20 => some 6
 | 21 => some 2
 | 22 => some 2
 | 23 => some 2
 | 26 => some 0
 | 27 => some 5
 | 29 => some 5
 | 30 => some 6
 | 31 => some 0
 | 32 => some 1
 | 33 => some 5
 | 35 => some 7
 | 41 => some 4
 | 42 => some 0
 | 44 => some 5
 | 52 => some 0
 | 55 => some 6
 | 56 => some 2
 | 57 => some 3
 | 58 => some 0
 | 59 => some 4
 | 63 => some 3
 | 73 => some 0
 | 76 => some 1
 | 77 => some 0
 | 78 => some 0
 | 87 => some 0
 | 88 => some 0
 | 89 => some 2
 | 105 => some 1
 | 106 => some 0
 | 107 => some 1
 | _ => none
noncomputable def baseE : Orc' := fun f => match f with | 14 => some (table [([], .lit (.bool true))]) | _ => none
theorem baseE_ok : ∀ f g, baseE f = some g → Meets Go.Proofs.Try.prog f g := fun f g h => by
 unfold baseE at h;split at h
 ·cases h; exact Closed.awake_meets
 ·cases h
noncomputable def EL (k : Nat) : Env := envT (orsB baseE envT lev k)
theorem EL_good (k : Nat) : EnvGood (EL k) := orsB_good (P := Go.Proofs.Try.prog) (fun _ => rfl) (fun _ => rfl) baseE_ok (fun _ h => goodT h) k
theorem orcL {f j k : Nat} (h : lev f = some j) (hk : j < k) : (EL k).orc f = some (sem (EL j) f) := orsLB (fun _ => rfl) h hk
theorem orcN {f k : Nat} (h : levB baseE lev f = none) : (EL k).orc f = none := orsNB (fun _ => rfl) h
theorem orcA {k : Nat} : (EL k).orc 14 = some (table [([], .lit (.bool true))]) := by
 show orsB baseE envT lev k 14 = _;rw [orsB_base rfl];rfl
theorem bo_ty4 {k : Nat} : pureVal (EL k).P (underlying 4) = some .bool := show pureVal Go.Proofs.Try.prog (underlying 4) = some .bool by kernel_rfl
theorem hu_cv3 : pureVal Go.Proofs.Try.prog (underlying 3) = some Go.Proofs.Try.t3.desc := by kernel_rfl
theorem hu_cv5 : pureVal Go.Proofs.Try.prog (underlying 5) = some Go.Proofs.Try.t5.desc := by kernel_rfl
theorem hu_cv44 : pureVal Go.Proofs.Try.prog (underlying 44) = some Go.Proofs.Try.t44.desc := by kernel_rfl
theorem hu_cv129 : pureVal Go.Proofs.Try.prog (underlying 129) = some Go.Proofs.Try.t129.desc := by kernel_rfl
theorem hu_cv169 : pureVal Go.Proofs.Try.prog (underlying 169) = some Go.Proofs.Try.t169.desc := by kernel_rfl
theorem hu_cv171 : pureVal Go.Proofs.Try.prog (underlying 171) = some Go.Proofs.Try.t171.desc := by kernel_rfl
theorem hu_cv180 : pureVal Go.Proofs.Try.prog (underlying 180) = some Go.Proofs.Try.t171.desc := by kernel_rfl
theorem cv_ty5_3 {k : Nat} {a : Int} (h : -9223372036854775808 ≤ a ∧ a < 9223372036854775808) : pureVal (EL k).P (convert 5 3 (.int .u8 a)) = some (.int .i64 a) := pure_conv (P := Go.Proofs.Try.prog) hu_cv5 hu_cv3 (wrap_id h.1 h.2)
theorem cv_ty44_3 {k : Nat} {a : Int} (h : -9223372036854775808 ≤ a ∧ a < 9223372036854775808) : pureVal (EL k).P (convert 44 3 (.int .u16 a)) = some (.int .i64 a) := pure_conv (P := Go.Proofs.Try.prog) hu_cv44 hu_cv3 (wrap_id h.1 h.2)
theorem cv_ty129_3 {k : Nat} {a : Int} (h : -9223372036854775808 ≤ a ∧ a < 9223372036854775808) : pureVal (EL k).P (convert 129 3 (.int .u64 a)) = some (.int .i64 a) := pure_conv (P := Go.Proofs.Try.prog) hu_cv129 hu_cv3 (wrap_id h.1 h.2)
theorem hu_ty57 : pureVal Go.Proofs.Try.prog (underlying 57) = some Go.Proofs.Try.t56.desc := by kernel_rfl
theorem hu_ty96 : pureVal Go.Proofs.Try.prog (underlying 96) = some Go.Proofs.Try.t95.desc := by kernel_rfl
theorem hu_ty104 : pureVal Go.Proofs.Try.prog (underlying 104) = some Go.Proofs.Try.t103.desc := by kernel_rfl
theorem hu_ty124 : pureVal Go.Proofs.Try.prog (underlying 124) = some Go.Proofs.Try.t123.desc := by kernel_rfl
theorem key_ty3 {k : Nat} : KeyG (EL k).P 3 KInt := keyInt (show pureVal Go.Proofs.Try.prog (underlying 3) = some (.int .i64) by kernel_rfl)
theorem key_ty96 {k : Nat} : KeyG (EL k).P 96 KPair := by
 refine keyPair (P := Go.Proofs.Try.prog) hu_ty96 (fun a b e => by kernel_rfl) fun a b c d => pure_eq2 hu_ty96 ?_ ⟨by decide, ⟨.i64, by kernel_rfl⟩, by kernel_rfl⟩ ⟨by decide, ⟨.i64, by kernel_rfl⟩, by kernel_rfl⟩ ⟨by decide, ⟨.i64, by kernel_rfl⟩, by kernel_rfl⟩ ⟨by decide, ⟨.i64, by kernel_rfl⟩, by kernel_rfl⟩
 all_goals kernel_rfl
theorem eql_ty57 {k : Nat} (x y : Operand) (a0 a1 b0 b1 : Int) : abin (EL k) .eql 57 x y (.agg [iv a0, iv a1]) (.agg [iv b0, iv b1]) = .ok (bv (a0 == b0 && a1 == b1)) ∧ ((a0 == b0 && a1 == b1) = true ↔ a0 = b0 ∧ a1 = b1) := by
 refine ⟨abin_agg (A := .agg #[.int .i64 a0, .int .i64 a1]) (B := .agg #[.int .i64 b0, .int .i64 b1]) (by simp) rfl rfl ?_ (bin_eql (pure_eq2 (hu_ty57) ?_ ⟨by decide, ⟨.i64, by kernel_rfl⟩, by kernel_rfl⟩ ⟨by decide, ⟨.i64, by kernel_rfl⟩, by kernel_rfl⟩ ⟨by decide, ⟨.i64, by kernel_rfl⟩, by kernel_rfl⟩ ⟨by decide, ⟨.i64, by kernel_rfl⟩, by kernel_rfl⟩)), by by_cases h0 : a0 = b0 <;> by_cases h1 : a1 = b1 <;> simp [h0, h1]⟩
 all_goals kernel_rfl
theorem eql_ty96 {k : Nat} (x y : Operand) (a0 a1 b0 b1 : Int) : abin (EL k) .eql 96 x y (.agg [iv a0, iv a1]) (.agg [iv b0, iv b1]) = .ok (bv (a0 == b0 && a1 == b1)) ∧ ((a0 == b0 && a1 == b1) = true ↔ a0 = b0 ∧ a1 = b1) := by
 refine ⟨abin_agg (A := .agg #[.int .i64 a0, .int .i64 a1]) (B := .agg #[.int .i64 b0, .int .i64 b1]) (by simp) rfl rfl ?_ (bin_eql (pure_eq2 (hu_ty96) ?_ ⟨by decide, ⟨.i64, by kernel_rfl⟩, by kernel_rfl⟩ ⟨by decide, ⟨.i64, by kernel_rfl⟩, by kernel_rfl⟩ ⟨by decide, ⟨.i64, by kernel_rfl⟩, by kernel_rfl⟩ ⟨by decide, ⟨.i64, by kernel_rfl⟩, by kernel_rfl⟩)), by by_cases h0 : a0 = b0 <;> by_cases h1 : a1 = b1 <;> simp [h0, h1]⟩
 all_goals kernel_rfl
theorem eql_ty104 {k : Nat} (x y : Operand) (a0 a1 a2 a3 b0 b1 b2 b3 : Int) : abin (EL k) .eql 104 x y (.agg [iv a0, iv a1, iv a2, iv a3]) (.agg [iv b0, iv b1, iv b2, iv b3]) = .ok (bv (a0 == b0 && a1 == b1 && a2 == b2 && a3 == b3)) ∧ ((a0 == b0 && a1 == b1 && a2 == b2 && a3 == b3) = true ↔ a0 = b0 ∧ a1 = b1 ∧ a2 = b2 ∧ a3 = b3) := by
 refine ⟨abin_agg (A := .agg #[.int .i64 a0, .int .i64 a1, .int .i64 a2, .int .i64 a3]) (B := .agg #[.int .i64 b0, .int .i64 b1, .int .i64 b2, .int .i64 b3]) (by simp) rfl rfl ?_ (bin_eql (pure_eq4 (hu_ty104) ?_ ⟨by decide, ⟨.i64, by kernel_rfl⟩, by kernel_rfl⟩ ⟨by decide, ⟨.i64, by kernel_rfl⟩, by kernel_rfl⟩ ⟨by decide, ⟨.i64, by kernel_rfl⟩, by kernel_rfl⟩ ⟨by decide, ⟨.i64, by kernel_rfl⟩, by kernel_rfl⟩ ⟨by decide, ⟨.i64, by kernel_rfl⟩, by kernel_rfl⟩ ⟨by decide, ⟨.i64, by kernel_rfl⟩, by kernel_rfl⟩ ⟨by decide, ⟨.i64, by kernel_rfl⟩, by kernel_rfl⟩ ⟨by decide, ⟨.i64, by kernel_rfl⟩, by kernel_rfl⟩)), by by_cases h0 : a0 = b0 <;> by_cases h1 : a1 = b1 <;> by_cases h2 : a2 = b2 <;> by_cases h3 : a3 = b3 <;> simp [h0, h1, h2, h3]⟩
 all_goals kernel_rfl
theorem eql_ty124 {k : Nat} (x y : Operand) (a0 a1 a2 b0 b1 b2 : Int) : abin (EL k) .eql 124 x y (.agg [iv a0, iv a1, iv a2]) (.agg [iv b0, iv b1, iv b2]) = .ok (bv (a0 == b0 && a1 == b1 && a2 == b2)) ∧ ((a0 == b0 && a1 == b1 && a2 == b2) = true ↔ a0 = b0 ∧ a1 = b1 ∧ a2 = b2) := by
 refine ⟨abin_agg (A := .agg #[.int .i64 a0, .int .i64 a1, .int .i64 a2]) (B := .agg #[.int .i64 b0, .int .i64 b1, .int .i64 b2]) (by simp) rfl rfl ?_ (bin_eql (pure_eq3 (hu_ty124) ?_ ⟨by decide, ⟨.i64, by kernel_rfl⟩, by kernel_rfl⟩ ⟨by decide, ⟨.i64, by kernel_rfl⟩, by kernel_rfl⟩ ⟨by decide, ⟨.i64, by kernel_rfl⟩, by kernel_rfl⟩ ⟨by decide, ⟨.i64, by kernel_rfl⟩, by kernel_rfl⟩ ⟨by decide, ⟨.i64, by kernel_rfl⟩, by kernel_rfl⟩ ⟨by decide, ⟨.i64, by kernel_rfl⟩, by kernel_rfl⟩)), by by_cases h0 : a0 = b0 <;> by_cases h1 : a1 = b1 <;> by_cases h2 : a2 = b2 <;> simp [h0, h1, h2]⟩
 all_goals kernel_rfl
theorem neq_ty57 {k : Nat} (x y : Operand) (a0 a1 b0 b1 : Int) : abin (EL k) .neq 57 x y (.agg [iv a0, iv a1]) (.agg [iv b0, iv b1]) = .ok (bv (!(a0 == b0 && a1 == b1))) ∧ ((!(a0 == b0 && a1 == b1)) = true ↔ ¬ (a0 = b0 ∧ a1 = b1)) := by
 refine ⟨abin_agg (A := .agg #[.int .i64 a0, .int .i64 a1]) (B := .agg #[.int .i64 b0, .int .i64 b1]) (by simp) rfl rfl ?_ (bin_neq (pure_eq2 (hu_ty57) ?_ ⟨by decide, ⟨.i64, by kernel_rfl⟩, by kernel_rfl⟩ ⟨by decide, ⟨.i64, by kernel_rfl⟩, by kernel_rfl⟩ ⟨by decide, ⟨.i64, by kernel_rfl⟩, by kernel_rfl⟩ ⟨by decide, ⟨.i64, by kernel_rfl⟩, by kernel_rfl⟩)), by by_cases h0 : a0 = b0 <;> by_cases h1 : a1 = b1 <;> simp [h0, h1]⟩
 all_goals kernel_rfl
end Go.Am.Ythckcbfijdambaa
end
