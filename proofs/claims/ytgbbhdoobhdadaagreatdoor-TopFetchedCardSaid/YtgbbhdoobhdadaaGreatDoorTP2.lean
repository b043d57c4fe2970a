/- Part 2. -/
import Derived.Test.YtgbbhdoobhdadaaGreatDoorTP1
import Derived.Laws.Strings
section
namespace Go.Am
open Go.RowKit
set_option linter.unusedVariables false
set_option linter.unusedSimpArgs false
theorem Thing.ok_mono {S S' : St} (h : ∀ id o, S.heap.get id = some o → S'.heap.get id = some o) {x : Thing} (hx : x.ok S) (hgl : S'.glb = S.glb := by rfl) (hhd : S'.hid = S.hid := by rfl) (hnx : S.next ≤ S'.next := by first | exact Nat.le_refl _ | exact Nat.le_succ _) : x.ok S' := by
 have hr : ∀ {id u cells}, IsRow S id u cells → IsRow S' id u cells := fun ⟨fl, h1, h2⟩ => ⟨fl, h1, h _ _ h2⟩
 cases x with
 | row id u cells => exact hr hx
 | obj id o => exact h _ _ hx
 | cnt id KP f mk => obtain ⟨l, c, h1, h2⟩ := hx; exact ⟨l, c, h _ _ h1, h2⟩
 | glb G => exact hgl.trans hx
 | hid g n => exact ⟨(congrFun hhd g).trans hx.1, Nat.lt_of_lt_of_le hx.2 hnx⟩
 | own z v u n cells => exact hx.imp_right fun ⟨id, ex, h1, h2, h3, h4⟩ => ⟨id, ex, h1, h2, h3, hr h4⟩
theorem Thing.get {S : St} {x : Thing} (hx : x.ok S) {i : Nat} (hi : x.id = some i) : (∃ o, S.heap.get i = some o) ∨ i < S.next := by
 cases x with
 | row id u cells => cases hi; obtain ⟨fl, h1, h2⟩ := hx; exact .inl ⟨_, h2⟩
 | obj id o => cases hi; exact .inl ⟨_, hx⟩
 | cnt id KP f mk => cases hi; obtain ⟨l, c, h1, h2⟩ := hx; exact .inl ⟨_, h1⟩
 | glb G => cases hi
 | hid g n => cases hi; exact .inr hx.2
 | own z v u n cells =>
  rcases hx with ⟨h0, h1, h2, h3⟩ | ⟨id, ex, h1, h2, h3, fl, h4, h5⟩
  ·subst h1; cases hi
  ·subst h1; cases hi; exact .inl ⟨_, h5⟩
theorem HasS.lt {S : St} {hs : List Thing} (h : HasS S hs) {x : Thing} (hx : x ∈ hs) {i : Nat} (hi : x.id = some i) : i < S.next := by
 rcases Thing.get (h.ok x hx) hi with ⟨o, ho⟩ | h0
 rotate_left
 ·exact h0
 rcases Nat.lt_or_ge i S.next with h1 | h1
 ·exact h1
 ·rw [h.wf i h1] at ho; cases ho
theorem HasS.new {S : St} {hs : List Thing} (h : HasS S hs) (o : AObj) {x : Thing} (hx : x.ok (S.new o)) (hid : ∀ i, x.id = some i → i = S.next) : HasS (S.new o) (x :: hs) := by
 have hm : ∀ id o', S.heap.get id = some o' → (S.new o).heap.get id = some o' := fun id o' ho => by
  rw [St.new_get, if_neg]
  ·exact ho
  ·intro e;subst e;rw [h.wf _ (Nat.le_refl _)] at ho;cases ho
 refine ⟨fun id hl => ?_, fun y hy => ?_, List.pairwise_cons.2 ⟨fun y hy i h1 h2 => ?_, h.apart⟩⟩
 ·have : S.next + 1 ≤ id := hl;rw [St.new_get, if_neg (by omega)];exact h.wf id (by omega)
 ·rcases List.mem_cons.1 hy with rfl | hy
  ·exact hx
  ·exact Thing.ok_mono hm (h.ok y hy)
 ·have := h.lt hy h2
  have := hid i h1;omega
theorem HasS.grow {S : St} {hs : List Thing} (h : HasS S hs) (o : AObj) : HasS (S.new o) hs :=
 (h.new o (x := .obj S.next o) (by show (S.new o).heap.get S.next = some o; rw [St.new_get, if_pos rfl]) (fun i hi => by cases hi; rfl)).sub (List.sublist_cons_self _ _)
theorem write_get (S : St) (id : Nat) (o : AObj) (k : Nat) : (S.write id o).heap.get k = if id = k then some o else S.heap.get k := by
 simp only [St.write, Trie.get_set]
theorem HasS.write {S : St} {x y : Thing} {r : List Thing} (h : HasS S (x :: r)) {i : Nat} {o : AObj} (hx : x.id = some i) (hy : y.id = some i) (hyo : y.ok (S.write i o)) : HasS (S.write i o) (y :: r) := by
 have hap := List.pairwise_cons.1 h.apart
 have hlt := h.lt (List.mem_cons_self) hx;refine ⟨fun id hl => ?_, fun w hw => ?_, List.pairwise_cons.2 ⟨fun w hw j h1 h2 => ?_, hap.2⟩⟩
 ·have hl' : S.next ≤ id := hl;rw [write_get, if_neg (by omega)];exact h.wf id hl'
 ·rcases List.mem_cons.1 hw with rfl | hw
  ·exact hyo
  ·have hne := hap.1 w hw i hx
   have hwo := h.ok w (List.mem_cons_of_mem _ hw)
   have key : ∀ {id u cells}, w.id = some id → IsRow S id u cells → IsRow (S.write i o) id u cells := fun {id u cells} hid ⟨fl, h1, h2⟩ => ⟨fl, h1, by rw [write_get, if_neg (fun e : i = id => hne (by rw [e]; exact hid))]; exact h2⟩
   cases w with
   | row id u cells => exact key rfl hwo
   | obj id ob =>
    have : i ≠ id := fun e => hne (by rw [e]; rfl)
    show (S.write i o).heap.get id = some ob;rw [write_get, if_neg this];exact hwo
   | cnt id KP f mk =>
    have : i ≠ id := fun e => hne (by rw [e]; rfl)
    obtain ⟨l, c, h1, h2⟩ := hwo;exact ⟨l, c, by rw [write_get, if_neg this]; exact h1, h2⟩
   | glb G => exact hwo
   | hid g n => exact hwo
   | own z v u n cells =>
    refine hwo.imp_right fun ⟨id, ex, h1, h2, h3, h4⟩ => ⟨id, ex, h1, h2, h3, key (by rw [h1]; rfl) h4⟩
 ·rw [hy] at h1;cases h1;exact hap.1 w hw i hx h2
theorem pick_perm {α : Type} : ∀ {hs : List α} {p : Nat} {x : α} (y : α), hs[p]? = some x → hs.Perm (x :: hs.eraseIdx p) ∧ (hs.set p y).Perm (y :: hs.eraseIdx p) := by
 intro hs
 induction hs with
 | nil => intro p x y h; simp at h
 | cons a hs ih =>
  intro p x y h;cases p with
  | zero => simp at h; subst h; exact ⟨.refl _, .refl _⟩
  | succ p =>
   simp at h;obtain ⟨h1, h2⟩ := ih y h;exact ⟨(h1.cons a).trans (.swap _ _ _), (h2.cons a).trans (.swap _ _ _)⟩
theorem HasS.writeAt {S : St} {x y : Thing} {hs : List Thing} {p : Nat} (h : HasS S hs) (hp : hs[p]? = some x) {i : Nat} {o : AObj} (hx : x.id = some i) (hy : y.id = some i) (hyo : y.ok (S.write i o)) : HasS (S.write i o) (hs.set p y) := by
 obtain ⟨h1, h2⟩ := pick_perm y hp;exact ((h.perm h1.symm).write hx hy hyo).perm h2
theorem HasS.swap {S : St} {x y : Thing} {hs : List Thing} {p : Nat} (h : HasS S hs) (hp : hs[p]? = some x) (hy : y.ok S) (hid : y.id = x.id ∨ y.id = none) : HasS S (hs.set p y) := by
  obtain ⟨h1, h2⟩ := pick_perm y hp
  have h' := h.perm h1.symm
  have hap := List.pairwise_cons.1 h'.apart
  have : HasS S (y :: hs.eraseIdx p) := ⟨h'.wf, fun w hw => by
    rcases List.mem_cons.1 hw with rfl | hw
    · exact hy
    · exact h'.ok w (List.mem_cons_of_mem _ hw), List.pairwise_cons.2 ⟨fun w hw j e1 e2 => by
      rcases hid with e | e
      · exact hap.1 w hw j (e ▸ e1) e2
      · (rw [e] at e1; cases e1), hap.2⟩⟩
  exact this.perm h2
theorem HasS.newAt {S : St} {x y : Thing} {hs : List Thing} {p : Nat} (h : HasS S hs) (hp : hs[p]? = some x) {o : AObj} (hy : y.ok (S.new o)) (hid : ∀ i, y.id = some i → i = S.next) : HasS (S.new o) (hs.set p y) := by
 obtain ⟨h1, h2⟩ := pick_perm y hp;exact (((h.perm h1.symm).sub (List.sublist_cons_self _ _)).new o hy hid).perm h2
section
variable {E : Env} {d : Bool} {n : Nat} {rnd : Option Nat} {ops : Array Oper} {i : Nat} {l : List Nat} {ms : List Dfr} {σ : Sl} {hs hs' : List Thing} {Q : Sy → Prop} {t : Tmp} {op : Op} {ty : TypeId} {pos : String} {af : Array Edge} {g : Option (Nat × Bool)}
theorem T.nilown {c : Code} {u : Nat} {Q : Exit → Sy → Prop} (h : T E n rnd c ⟨ms, σ, .own true nilS u 0 [] :: hs⟩ Q) : T E n rnd c ⟨ms, σ, hs⟩ Q := fun a S hi =>
  h a S ⟨hi.act, hi.mem.wf, fun x hx => by
    rcases List.mem_cons.1 hx with rfl | hx
    · exact .inl ⟨rfl, rfl, rfl, rfl⟩
    · exact hi.mem.ok x hx, List.pairwise_cons.2 ⟨fun y hy j h1 => (by cases h1), hi.mem.apart⟩⟩
theorem TO.nilown {u : Nat} (h : TO E d n rnd ops l ⟨ms, σ, .own true nilS u 0 [] :: hs⟩ Q) : TO E d n rnd ops l ⟨ms, σ, hs⟩ Q := fun a S hi =>
  h a S ⟨hi.act, hi.mem.wf, fun x hx => by
    rcases List.mem_cons.1 hx with rfl | hx
    · exact .inl ⟨rfl, rfl, rfl, rfl⟩
    · exact hi.mem.ok x hx, List.pairwise_cons.2 ⟨fun y hy j h1 => (by cases h1), hi.mem.apart⟩⟩
theorem TO.new {u : Nat} {cells : List AV} {K : Nat → AV} (ho : ops[i]? = some ⟨some t, op, ty, pos, af, g⟩) (hd : Nat.blt t n = true) (hw : wantS ops σ g = some true)
  (h : ∀ (ev : Operand → AV) (S : St), (∀ x v, evs σ x = some v → ev x = v) → HasS S hs → ∀ o : Oper, o.op = op → aop E S ev o = .ok (.val (K S.next), S.new (.row cells u 0)))
  (k : ∀ id, TO E false n rnd ops l ⟨ms, (t, K id) :: σ, .row id u cells :: hs⟩ Q) : TO E false n rnd ops (i :: l) ⟨ms, σ, hs⟩ Q := by
 refine TO.eff (K := fun v hs' => ∃ id, v = K id ∧ hs' = .row id u cells :: hs) ho hd hw (fun ev S he hS o ho => ?_) (fun v hs' ⟨id, h1, h2⟩ => by subst h1; subst h2; exact k id);refine ⟨_, _, _, h ev S he hS o ho, hS.new _ (x := .row S.next u cells) ⟨0, Nat.zero_le _, by rw [St.new_get, if_pos rfl]⟩ (fun i hi => by cases hi; rfl), S.next, rfl, rfl⟩
theorem TO.box {bt : TypeId} {x : Operand} {v : AV} {u k : Nat} {cells : List AV} (ho : ops[i]? = some ⟨some t, .box bt x, ty, pos, af, g⟩) (hd : Nat.blt t n = true) (hw : wantS ops σ g = some true)
  (hx : evs σ x = some v) (hc : cellsOf v = cells) (hk : cells.length = k) (hu : unitOf E bt = .ok u) (c : ∀ id, TO E false n rnd ops l ⟨ms, (t, .ptr id 0 k) :: σ, .row id u cells :: hs⟩ Q) : TO E false n rnd ops (i :: l) ⟨ms, σ, hs⟩ Q := by
 subst hk;refine TO.new (K := fun id => .ptr id 0 cells.length) ho hd hw (fun ev S he hS o ho => ?_) c;unfold aop; rw [ho];simp only [he _ _ hx, newVarA, hu, hc, Except.bind, newOf]
theorem TO.alloc {bt : TypeId} {z : Value} {u k : Nat} {cells : List AV} (ho : ops[i]? = some ⟨some t, .alloc bt, ty, pos, af, g⟩) (hd : Nat.blt t n = true) (hw : wantS ops σ g = some true)
  (hz : E.zro bt = some z) (hc : cellsOf (ofV 4 z) = cells) (hk : cells.length = k) (hu : unitOf E bt = .ok u) (c : ∀ id, TO E false n rnd ops l ⟨ms, (t, .ptr id 0 k) :: σ, .row id u cells :: hs⟩ Q) : TO E false n rnd ops (i :: l) ⟨ms, σ, hs⟩ Q := by
 subst hk;refine TO.new (K := fun id => .ptr id 0 cells.length) ho hd hw (fun ev S he hS o ho => ?_) c;unfold aop; rw [ho];simp only [aalloc, hz, ofOpt, newVarA, hu, hc, Except.bind, newOf]
theorem GS.cells {α : Type} {e : En α} (x : GS e) : cellsOf x.v = [x.v] ∧ oneCell x.v = true := by
 rcases x.ok with ⟨h1, h2, h3⟩ | ⟨h1, h2⟩ <;> rw [h1] <;> exact ⟨rfl, rfl⟩
theorem HasS.row {S : St} (h : HasS S hs) {p id u : Nat} {cells : List AV} (hp : hs[p]? = some (.row id u cells)) : IsRow S id u cells := h.ok _ (List.mem_of_getElem? hp)
theorem Val.load_row {bt : TypeId} {x : Operand} {p id u off k : Nat} {cells : List AV} {v : AV} (hp : hs[p]? = some (.row id u cells)) (ht : Scalar E bt) (hx : evs σ x = some (.ptr id off k)) (hk : cells.length = k) (hv : cells[off]? = some v) :
  Val E σ hs (.load bt x) v := fun ev S he hS o ho => by
 subst hk;obtain ⟨dd, h1, h2⟩ := ht
 have hlt := (List.getElem?_eq_some_iff.1 hv).1;obtain ⟨_, hl⟩ := hS.loadAll (hS.row hp);unfold aop; rw [ho];simp only [he _ _ hx, aload, gpt, loadVarA, h1, ofOpt, Except.bind, h2, cond_false, readN, hl off 1 (by omega)];rw [List.drop_eq_getElem_cons hlt]
 have : cells[off] = v := by rw [List.getElem?_eq_getElem hlt] at hv; exact Option.some.inj hv
 simp only [List.take_succ_cons, List.take_zero, this];rfl
theorem Val.load_rows {bt : TypeId} {x : Operand} {p id u off k m : Nat} {cells c : List AV} (hp : hs[p]? = some (.row id u cells)) (ht : Aggr E bt m) (hx : evs σ x = some (.ptr id off k)) (hk : cells.length = k) (hv : (cells.drop off).take m = c) (hm : Nat.ble (off + m) k = true) :
  Val E σ hs (.load bt x) (.agg c) := fun ev S he hS o ho => by
 subst hk;obtain ⟨⟨dd, h1, h2⟩, h3, h4⟩ := ht
 have hm' := Nat.le_of_ble_eq_true hm;obtain ⟨_, hl⟩ := hS.loadAll (hS.row hp);unfold aop; rw [ho];simp only [he _ _ hx, aload, gpt, loadVarA, h1, h3, ofOpt, Except.bind, h2, cond_true, readN, hl off m hm', hv];rfl
theorem Val.faddr_ptr {s f id off k fo m : Nat} {x : Operand} {fd : Field} (hf : fieldOf E s f = .ok (fd, m)) (hx : evs σ x = some (.ptr id off k)) (ho' : Nat.beq (off + fd.offset) fo = true) : Val E σ hs (.fieldAddr s x f) (.ptr id fo k) := fun ev S he hS o ho => by
 unfold aop; rw [ho];simp only [he _ _ hx, afieldAddr, hf, Except.bind, valOf, Nat.eq_of_beq_eq_true ho'];rfl
theorem Val.faddr_tree {s f fo m : Nat} {x : Operand} {cs cs' : List AV} {fd : Field} (hf : fieldOf E s f = .ok (fd, m)) (hx : evs σ x = some (.tptr cs)) (ho' : Nat.beq fd.offset fo = true) (hc : cs.drop fo = cs') : Val E σ hs (.fieldAddr s x f) (.tptr cs') := fun ev S he hS o ho => by
 unfold aop; rw [ho];simp only [he _ _ hx, afieldAddr, hf, Except.bind, valOf, Nat.eq_of_beq_eq_true ho', hc];rfl
theorem Val.nil_ptr {x : Operand} {id off k : Nat} (hx : evs σ x = some (.ptr id off k)) : Val E σ hs (.nilCheck x) (.ptr id off k) := fun ev S he hS o ho => by
 unfold aop; rw [ho]; simp only [he _ _ hx, anilCheck, valOf]; rfl
theorem Val.iaddr_slice {st e u id off k : Nat} {ex : Bool} {len cap : Nat} {x y : Operand} {j : Int} (ht : SliceT E st e u) (hx : evs σ x = some (.slice id off k ex len cap)) (hy : evs σ y = some (iv j)) (hj : 0 ≤ j ∧ j < len) :
  Val E σ hs (.indexAddr st x y) (.ptr id (off + j.toNat * u) k) := fun ev S he hS o ho => by
 unfold aop; rw [ho]
 have e1 : decide (0 ≤ j) = true := decide_eq_true hj.1
 have e2 : decide (j < (len : Int)) = true := decide_eq_true hj.2;simp only [he _ _ hx, he _ _ hy, aindexAddr, intOf?, ht.1, ht.2, ofOpt, Except.bind, e1, e2, Bool.and_self, cond_true, valOf];rfl
theorem Val.iaddr_array {st e u id off k m : Nat} {x y : Operand} {j : Int} (ht : E.und st = some (.array m e)) (he' : E.siz e = some u) (hx : evs σ x = some (.ptr id off k)) (hy : evs σ y = some (iv j)) (hj : 0 ≤ j ∧ j < m) :
  Val E σ hs (.indexAddr st x y) (.ptr id (off + j.toNat * u) k) := fun ev S he hS o ho => by
 unfold aop; rw [ho]
 have e1 : decide (0 ≤ j) = true := decide_eq_true hj.1
 have e2 : decide (j < (m : Int)) = true := decide_eq_true hj.2;simp only [he _ _ hx, he _ _ hy, aindexAddr, intOf?, ht, he', ofOpt, Except.bind, e1, e2, Bool.and_self, cond_true, valOf];rfl
theorem HasS.own {S : St} (h : HasS S hs) {p u m : Nat} {z : Bool} {v : AV} {cells : List AV} (hp : hs[p]? = some (.own z v u m cells)) : Thing.ok S (.own z v u m cells) := h.ok _ (List.mem_of_getElem? hp)
theorem own_len {S : St} {z : Bool} {v : AV} {u m : Nat} {cells : List AV} (h : Thing.ok S (.own z v u m cells)) : lenOf? v = .ok m ∧ isSlice v = true ∧ cells.length = m * u := by
 rcases h with ⟨h0, h1, h2, h3⟩ | ⟨id, ex, h1, h2, h3, h4⟩
 ·subst h1; subst h2; subst h3; exact ⟨rfl, rfl, by simp⟩
 ·subst h1; exact ⟨rfl, rfl, h2⟩
theorem Val.len_own {st e p u m : Nat} {z : Bool} {v : AV} {cells : List AV} {x : Operand} (hp : hs[p]? = some (.own z v u m cells)) (ht : E.und st = some (.slice e)) (hx : evs σ x = some v) :
  Val E σ hs (.call { callee := .builtin .len, args := #[x], argTypes := #[st] }) (iv m) := fun ev S he hS o ho => by
 obtain ⟨h1, h2, h3⟩ := own_len (hS.own hp);unfold aop; rw [ho];simp only [acall, abuiltin, alen, List.map_cons, List.map_nil, he _ _ hx, List.getElem?_toArray, List.getElem?_cons_zero, ht, ofOpt, Except.bind, h1, h2, cond_true];rfl
theorem TO.open {p u m : Nat} {z : Bool} {v : AV} {cells : List AV} (hp : hs[p]? = some (.own z v u m cells)) (hm : z = true → m ≠ 0)
  (h : ∀ id ex, v = .slice id 0 cells.length ex m m → TO E d n rnd ops l ⟨ms, σ, hs.set p (.row id u cells)⟩ Q) : TO E d n rnd ops l ⟨ms, σ, hs⟩ Q := fun a S hi => by
 have ho := hi.mem.own hp
 rcases ho with ⟨h0, h1, h2, h3⟩ | ⟨id, ex, h1, h2, h3, h4⟩
 ·exact absurd h2 (hm h0)
 ·exact h id ex h1 a S ⟨hi.act, hi.mem.swap hp (y := .row id u cells) h4 (.inl (by subst h1; rfl))⟩
theorem TO.things (he : hs = hs') (h : TO E d n rnd ops l ⟨ms, σ, hs'⟩ Q) : TO E d n rnd ops l ⟨ms, σ, hs⟩ Q := he ▸ h
theorem T.things {c : Code} {Q : Exit → Sy → Prop} (he : hs = hs') (h : T E n rnd c ⟨ms, σ, hs'⟩ Q) : T E n rnd c ⟨ms, σ, hs⟩ Q := he ▸ h
theorem TO.store_row {bt : TypeId} {x y : Operand} {p id u off k m : Nat} {cells cv cells' : List AV} {v : AV} (ho : ops[i]? = some ⟨none, .store bt x y, ty, pos, af, g⟩) (hw : wantS ops σ g = some true)
  (hp : hs[p]? = some (.row id u cells)) (ht : E.siz bt = some m) (hx : evs σ x = some (.ptr id off k)) (hk : cells.length = k) (hy : evs σ y = some v) (hcv : cellsOf v = cv) (hl : Nat.beq cv.length m = true) (hm : Nat.beq m 0 = false)
  (ho1 : cv.all oneCell = true) (hoff : off + m ≤ k) (hc : spliceL cells off cv = cells') (h : TO E false n rnd ops l ⟨ms, σ, hs.set p (.row id u cells')⟩ Q) : TO E false n rnd ops (i :: l) ⟨ms, σ, hs⟩ Q := by
 subst hk;refine TO.eff0 (K := fun hs' => hs' = hs.set p (.row id u cells')) ho hw (fun ev S he hS o ho => ?_) (fun hs' e => by subst e; exact h);obtain ⟨fl, h1, h2⟩ := hS.row hp
 have hl' := Nat.eq_of_beq_eq_true hl
 have hlen : cells'.length = cells.length := by
  rw [← hc]; simp only [spliceL, List.length_append, List.length_take, List.length_drop]; omega
 refine ⟨undefA, S.write id (.row cells' u cells.length), _, ?_, hS.writeAt hp rfl (y := .row id u cells') rfl ⟨cells.length, by omega, by rw [write_get, if_pos rfl]⟩, rfl⟩;unfold aop; rw [ho]
 have e1 : Nat.beq cells.length cells.length = true := Nat.beq_refl _
 have e2 : Nat.ble fl cells.length = true := Nat.ble_eq_true_of_le h1
 have e3 : Nat.ble (off + cv.length) cells.length = true := Nat.ble_eq_true_of_le (by omega)
 have er : rowOf S id = .ok (cells, u, fl) := by unfold rowOf; rw [h2]
 simp only [he _ _ hx, he _ _ hy, storeVarA, ht, hcv, ofOpt, Except.bind, hl, hm, Bool.not_false, Bool.and_self, cond_true, storeN, er, e1, e2, e3, ho1, hc];rfl
end
end Go.Am
end
section
namespace Go.Am
open Go.RowKit
set_option linter.unusedVariables false
set_option linter.unusedSimpArgs false
def AppT (E : Env) (st e u b : Nat) : Prop := E.und st = some (.slice e) ∧ E.siz e = some u ∧ E.byt e = some b ∧ (∃ z, E.zro e = some z ∧ (zeroCells z).length = u) ∧ u ≠ 0 ∧ b ≠ 0
def Src (S : St) (x : AV) (u m : Nat) (new : List AV) : Prop := lenOf? x = .ok m ∧ (m ≠ 0 → firstN S u m x = .ok new) ∧ new.length = m * u ∧ new.all oneCell = true
section
variable {E : Env} {d : Bool} {n : Nat} {rnd : Option Nat} {ops : Array Oper} {i : Nat} {ns : List Nat} {ms : List Dfr} {σ : Sl} {hs hs' : List Thing} {Q : Sy → Prop} {t : Tmp} {op : Op} {ty : TypeId} {pos : String} {af : Array Edge} {g : Option (Nat × Bool)}
theorem src_own {S : St} (hS : HasS S hs) {p u m : Nat} {z : Bool} {v : AV} {cells : List AV} (hp : hs[p]? = some (.own z v u m cells)) (h1 : cells.all oneCell = true) : Src S v u m cells := by
 have ho := hS.own hp;obtain ⟨k1, k2, k3⟩ := own_len ho;refine ⟨k1, fun hm => ?_, k3, h1⟩
 rcases ho with ⟨e0, e1, e2, e3⟩ | ⟨id, ex, e1, e2, e3, e4⟩
 ·exact absurd e2 hm
 ·subst e1;obtain ⟨_, hl⟩ := hS.loadAll e4;simp only [firstN];rw [hl 0 (m * u) (by omega), List.drop_zero, ← e2, List.take_length]
theorem src_gs {α : Type} {S : St} {e : En α} (x : GS e) (h1 : (x.l.flatMap e.f).all oneCell = true) : Src S x.v e.u x.l.length (x.l.flatMap e.f) := by
 refine ⟨x.lenOf.1, fun hm => ?_, flat_len e x.l, h1⟩
 rcases x.ok with ⟨e1, e2, e3⟩ | ⟨e1, e2⟩
 ·exact absurd e2 hm
 ·rw [e1]
  have b1 : Nat.beq e.u e.u = true := Nat.beq_refl _
  have b2 : Nat.ble (x.l.length * e.u) (x.l.flatMap e.f).length = true := Nat.ble_eq_true_of_le (by omega);simp only [firstN, b1, b2, Bool.and_self, cond_true];rw [← e2, List.take_length]
theorem append_own {S : St} (hS : HasS S hs) {st e u b p m k : Nat} {z : Bool} {v x : AV} {cells new : List AV} {ts : Array TypeId} (ht : AppT E st e u b) (hts : ts[0]? = some st) (hni : notInt E ts[1]? = .ok ())
  (hp : hs[p]? = some (.own z v u m cells)) (hsrc : Src S x u k new) (hbig : (2 * (m + k) + 1000) * b < 281474976710656) :
  ∃ v' S', aappend E S ts [v, x] = .ok (v', S') ∧ HasS S' (hs.set p (.own z v' u (m + k) (cells ++ new))) := by
 obtain ⟨t1, t2, t3, ⟨zz, t4, t5⟩, t6, t7⟩ := ht;obtain ⟨s1, s2, s3, s4⟩ := hsrc
 have ho := hS.own hp;obtain ⟨o1, o2, o3⟩ := own_len ho;unfold aappend;simp only [hts, t1, t2, t3, hni, s1, ofOpt, Except.bind]
 by_cases hk : k = 0
 ·subst hk
  have : new = [] := List.eq_nil_of_length_eq_zero (by rw [s3]; simp);subst this;refine ⟨v, S, by simp [o2], ?_⟩;rw [List.append_nil, Nat.add_zero];refine hS.swap hp ?_ (.inl rfl);exact ho
 ·have b0 : Nat.beq k 0 = false := beq_false.2 hk
  have b1 : Nat.beq b 0 = false := beq_false.2 t7
  have b2 : Nat.beq u 0 = false := beq_false.2 t6
  have b3 : Nat.beq new.length (k * u) = true := by rw [s3]; exact Nat.beq_refl _
  have b4 : Nat.beq (zeroCells zz).length u = true := by rw [t5]; exact Nat.beq_refl _
  simp only [b0, cond_false, s2 hk, t4, b1, b2, b3, b4, Bool.not_true, Bool.or_self]
  rcases ho with ⟨h0, h1, h2, h3⟩ | ⟨id, ex, h1, h2, h3, fl, h4, h5⟩
  ·subst h1; subst h2; subst h3
   have b5 : Nat.blt ((2 * k + 1000) * b) (2 ^ 48) = true := blt_true.2 (by simpa using hbig);simp only [nilS, b5, cond_true, newSliceA];refine ⟨_, _, rfl, ?_⟩;rw [Nat.zero_add, List.nil_append];refine hS.newAt hp (.inr ⟨S.next, false, rfl, s3, fun _ => hk, 0, Nat.zero_le _, by rw [St.new_get, if_pos rfl]⟩) fun i hi => by cases hi; rfl
  ·subst h1
   have er : rowOf S id = .ok (cells, u, fl) := by unfold rowOf; rw [h5]
   have b5 : Nat.beq u u = true := Nat.beq_refl _
   have b6 : Nat.blt ((2 * (m + k) + 1000) * b) (2 ^ 48) = true := blt_true.2 hbig
   have b7 : Nat.ble (m + k) m = false := by
    cases hb : Nat.ble (m + k) m with
    | false => rfl
    | true => have := Nat.le_of_ble_eq_true hb; omega
   simp only [er, b5, b6, b7, Bool.not_true, cond_false];cases ex with
   | true =>
    obtain ⟨_, hl⟩ := hS.loadAll (hS.own hp |>.elim (fun h => by cases h.2.1) fun ⟨id', ex', q1, q2, q3, q4⟩ => by cases q1; exact q4);simp only [cond_true, hl 0 (m * u) (by omega), newSliceA]
    have : (cells.drop 0).take (m * u) = cells := by rw [List.drop_zero, ← h2, List.take_length]
    rw [this];refine ⟨_, _, rfl, ?_⟩;refine hS.newAt hp (.inr ⟨S.next, false, rfl, by rw [List.length_append, h2, s3, Nat.add_mul], fun _ => by omega, 0, Nat.zero_le _, by rw [St.new_get, if_pos rfl]⟩) fun i hi => by cases hi; rfl
   | false =>
    have c1 : Nat.beq 0 0 = true := rfl
    have c2 : Nat.beq (m * u) cells.length = true := by rw [h2]; exact Nat.beq_refl _
    have c3 : Nat.beq cells.length cells.length = true := Nat.beq_refl _
    have c4 : Nat.ble fl cells.length = true := Nat.ble_eq_true_of_le h4;simp only [cond_false, s4, c1, c2, c3, c4, Bool.and_self, cond_true];refine ⟨_, _, rfl, ?_⟩;refine hS.writeAt hp rfl rfl (.inr ⟨id, false, by rw [List.length_append], by rw [List.length_append, h2, s3, Nat.add_mul], fun _ => by omega, fl, by rw [List.length_append]; omega, by rw [write_get, if_pos rfl]⟩)
theorem TO.append {st e u b p m k : Nat} {z : Bool} {v w : AV} {cells new : List AV} {ts : Array TypeId} {x y : Operand} (ho : ops[i]? = some ⟨some t, .call { callee := .builtin .append, args := #[x, y], argTypes := ts }, ty, pos, af, g⟩)
  (hd : Nat.blt t n = true) (hw : wantS ops σ g = some true) (ht : AppT E st e u b) (hts : ts[0]? = some st) (hni : notInt E ts[1]? = .ok ()) (hp : hs[p]? = some (.own z v u m cells)) (hx : evs σ x = some v) (hy : evs σ y = some w)
  (hsrc : ∀ S, HasS S hs → Src S w u k new) (hbig : (2 * (m + k) + 1000) * b < 281474976710656) (c : ∀ v', TO E false n rnd ops ns ⟨ms, (t, v') :: σ, hs.set p (.own z v' u (m + k) (cells ++ new))⟩ Q) : TO E false n rnd ops (i :: ns) ⟨ms, σ, hs⟩ Q := by
 refine TO.eff (K := fun v' hs' => hs' = hs.set p (.own z v' u (m + k) (cells ++ new))) ho hd hw (fun ev S he hS o ho => ?_) (fun v' hs' e => by subst e; exact c v');obtain ⟨v', S', h1, h2⟩ := append_own hS ht hts hni hp (hsrc S hS) hbig;refine ⟨v', S', _, ?_, h2, rfl⟩;unfold aop; rw [ho];simp only [acall, abuiltin, List.map_cons, List.map_nil, he _ _ hx, he _ _ hy, h1, Except.bind]
theorem ownL_append {α : Type} {z : Bool} {v : AV} {e : En α} {l l2 : List α} : Thing.own z v e.u (l.length + l2.length) (l.flatMap e.f ++ l2.flatMap e.f) = ownL z v e (l ++ l2) := by
 simp only [ownL, List.length_append, List.flatMap_append]
theorem TO.append_own {α : Type} {st e b p q : Nat} {z z2 : Bool} {v w : AV} {en : En α} {l l2 : List α} {ts : Array TypeId} {x y : Operand} (ho : ops[i]? = some ⟨some t, .call { callee := .builtin .append, args := #[x, y], argTypes := ts }, ty, pos, af, g⟩)
  (hd : Nat.blt t n = true) (hw : wantS ops σ g = some true) (ht : AppT E st e en.u b) (hts : ts[0]? = some st) (hni : notInt E ts[1]? = .ok ()) (hp : hs[p]? = some (ownL z v en l)) (hq : hs[q]? = some (ownL z2 w en l2)) (hx : evs σ x = some v) (hy : evs σ y = some w)
  (hone : (l2.flatMap en.f).all oneCell = true) (hbig : (2 * (l.length + l2.length) + 1000) * b < 281474976710656) (c : ∀ v', TO E false n rnd ops ns ⟨ms, (t, v') :: σ, hs.set p (ownL z v' en (l ++ l2))⟩ Q) : TO E false n rnd ops (i :: ns) ⟨ms, σ, hs⟩ Q :=
 TO.append ho hd hw ht hts hni hp hx hy (fun S hS => src_own hS hq hone) hbig fun v' => by rw [ownL_append]; exact c v'
theorem TO.buildSlice {st e u len : Nat} {parts : Array (Nat × Operand)} {zs cells : List AV} {vs : List (Nat × AV)} (ho : ops[i]? = some ⟨some t, .buildSlice st len parts, ty, pos, af, g⟩) (hd : Nat.blt t n = true) (hw : wantS ops σ g = some true)
  (ht : SliceT E st e u) (hsm : Nat.blt (2 ^ 24) (len * u) = false) (hz : zerosOf E e u len = .ok zs) (hx : evsL σ (parts.toList.map (·.2)) = some (vs.map (·.2))) (hi : parts.toList.map (·.1) = vs.map (·.1))
  (hf : fillA (fun i => some (i * u, u)) zs vs = .ok cells) (hlen : cells.length = len * u) (c : ∀ v', TO E false n rnd ops ns ⟨ms, (t, v') :: σ, .own false v' u len cells :: hs⟩ Q) : TO E false n rnd ops (i :: ns) ⟨ms, σ, hs⟩ Q := by
 refine TO.cons_of (K := fun v' hs' => hs' = .own false v' u len cells :: hs) ho hd (fun a ha => ha.wanted hw) (fun a S hi' => ?_) (fun v' hs' e => by subst e; exact c v')
 have hps : partsOf a.ev parts = vs := by
  have h1 := evsL_ok hi'.act _ _ hx;unfold partsOf
  have : ∀ (ps : List (Nat × Operand)) (vs : List (Nat × AV)), (ps.map (·.2)).map a.ev = vs.map (·.2) → ps.map (·.1) = vs.map (·.1) → ps.map (fun x => (x.1, a.ev x.2)) = vs := by
   intro ps
   induction ps with
   | nil => intro vs h1 h2; cases vs with | nil => rfl | cons => cases h2
   | cons p ps ih =>
    intro vs h1 h2;cases vs with
    | nil => cases h2
    | cons v vs =>
     simp only [List.map_cons, List.cons.injEq] at h1 h2 ⊢;exact ⟨by rw [h1.1, h2.1], ih vs h1.2 h2.2⟩
  exact this _ _ h1 hi
 have e : aop E S a.ev ⟨some t, .buildSlice st len parts, ty, pos, af, g⟩ = .ok (.val (.slice S.next 0 cells.length true len len), S.new (.row cells u 0)) := by
  simp only [aop, abuildSlice, ht.1, ht.2, ofOpt, Except.bind, hsm, cond_false, hz, hps, hf, newSliceA, newOf]
 rw [e];refine .ok ⟨_, hi'.mem.new _ (x := .own false (.slice S.next 0 cells.length true len len) u len cells) (.inr ⟨S.next, true, rfl, hlen, (fun h => by cases h), 0, Nat.zero_le _, by rw [St.new_get, if_pos rfl]⟩) (fun i hi => by cases hi; rfl), rfl⟩
theorem splice_all {cs vs : List AV} (h : cs.length = vs.length) : spliceL cs 0 vs = vs := by
 unfold spliceL;rw [List.take_zero, List.nil_append, Nat.zero_add, ← h, List.drop_length, List.append_nil]
theorem TO.build1 {α : Type} {st e : Nat} {en : En α} {x : Operand} {a : α} {v : AV} (ho : ops[i]? = some ⟨some t, .buildSlice st 1 #[(0, x)], ty, pos, af, g⟩) (hd : Nat.blt t n = true) (hw : wantS ops σ g = some true)
  (ht : SliceT E st e en.u) (hz : ∃ z, E.zro e = some z ∧ (zeroCells z).length = en.u) (hu : en.u ≠ 0) (hb : en.u ≤ 16777216) (hx : evs σ x = some v) (ha : cellsOf v = en.f a) (c : ∀ v', TO E false n rnd ops ns ⟨ms, (t, v') :: σ, ownL false v' en [a] :: hs⟩ Q) :
  TO E false n rnd ops (i :: ns) ⟨ms, σ, hs⟩ Q := by
 obtain ⟨z, h1, h2⟩ := hz
 have b0 : Nat.beq (1 * en.u) 0 = false := beq_false.2 (by omega)
 have b1 : Nat.beq (zeroCells z).length en.u = true := by rw [h2]; exact Nat.beq_refl _
 refine TO.buildSlice (zs := zeroCells z) (cells := en.f a) (vs := [(0, v)]) ho hd hw ht ?_ ?_ ?_ rfl ?_ (by rw [en.len]; omega) ?_
 ·cases hb' : Nat.blt (2 ^ 24) (1 * en.u) with
  | false => rfl
  | true => have := blt_true.1 hb'; omega
 ·simp only [zerosOf, b0, cond_false, h1, ofOpt, Except.bind, b1, cond_true, repeatL, List.append_nil]
 ·simp only [List.map_cons, List.map_nil, evsL, hx]
 ·have b2 : Nat.beq (en.f a).length en.u = true := by rw [en.len]; exact Nat.beq_refl _
  have b3 : Nat.ble (0 * en.u + (en.f a).length) (zeroCells z).length = true := Nat.ble_eq_true_of_le (by rw [en.len, h2]; omega);simp only [fillA, ha, b2, b3, Bool.and_self, cond_true];rw [Nat.zero_mul, splice_all (by rw [h2, en.len])]
 ·intro v'
  have : Thing.own false v' en.u 1 (en.f a) = ownL false v' en [a] := by simp [ownL]
  rw [this];exact c v'
theorem TO.build0 {α : Type} {st e : Nat} {en : En α} (ho : ops[i]? = some ⟨some t, .buildSlice st 0 #[], ty, pos, af, g⟩) (hd : Nat.blt t n = true) (hw : wantS ops σ g = some true)
  (ht : SliceT E st e en.u) (c : ∀ v', TO E false n rnd ops ns ⟨ms, (t, v') :: σ, ownL false v' en [] :: hs⟩ Q) : TO E false n rnd ops (i :: ns) ⟨ms, σ, hs⟩ Q := by
 refine TO.buildSlice (zs := []) (cells := []) (vs := []) ho hd hw ht ?_ ?_ rfl rfl rfl (by simp) c
 ·rw [Nat.zero_mul]; rfl
 ·simp only [zerosOf, Nat.zero_mul]; rfl
theorem TO.iaddr_own {st e u p m : Nat} {z : Bool} {v : AV} {cells : List AV} {x y : Operand} {j : Int} (ho : ops[i]? = some ⟨some t, .indexAddr st x y, ty, pos, af, g⟩) (hd : Nat.blt t n = true) (hw : wantS ops σ g = some true)
  (ht : SliceT E st e u) (hp : hs[p]? = some (.own z v u m cells)) (hx : evs σ x = some v) (hy : evs σ y = some (iv j)) (hj : 0 ≤ j ∧ j < m)
  (c : ∀ id ex, v = .slice id 0 cells.length ex m m → TO E d n rnd ops ns ⟨ms, (t, .ptr id (j.toNat * u) cells.length) :: σ, hs⟩ Q) : TO E d n rnd ops (i :: ns) ⟨ms, σ, hs⟩ Q := fun a S hi => by
 rcases hi.mem.own hp with ⟨h0, h1, h2, h3⟩ | ⟨id, ex, h1, h2, h3, h4⟩
 ·omega
 ·have := Val.iaddr_slice (E := E) (hs := hs) ht (hx.trans (congrArg some h1)) hy hj;rw [Nat.zero_add] at this;exact TO.val ho hd hw this (c id ex h1) a S hi
theorem Val.load_own {bt : TypeId} {x : Operand} {p id u off m k : Nat} {ex z : Bool} {v w : AV} {cells : List AV} (hp : hs[p]? = some (.own z v u m cells)) (hv : v = .slice id 0 k ex m m) (ht : Scalar E bt) (hx : evs σ x = some (.ptr id off k)) (hw : cells[off]? = some w) :
  Val E σ hs (.load bt x) w := fun ev S he hS o ho => by
 rcases hS.own hp with ⟨h0, h1, h2, h3⟩ | ⟨id', ex', h1, h2, h3, h4⟩
 ·subst h3; simp at hw
 ·rw [hv] at h1;cases h1
  have hsw := hS.swap hp (y := .row id u cells) h4 (.inl (by rw [hv]; rfl));refine Val.load_row (p := p) (u := u) ?_ ht hx rfl hw ev S he hsw o ho;rw [List.getElem?_set];simp [(List.getElem?_eq_some_iff.1 hp).1]
theorem Val.load_owns {bt : TypeId} {x : Operand} {p id u off m k q : Nat} {ex z : Bool} {v : AV} {cells c : List AV} (hp : hs[p]? = some (.own z v u m cells)) (hv : v = .slice id 0 k ex m m) (ht : Aggr E bt q) (hx : evs σ x = some (.ptr id off k)) (hc : (cells.drop off).take q = c) (hl : c.length = q) :
  Val E σ hs (.load bt x) (.agg c) := fun ev S he hS o ho => by
 rcases hS.own hp with ⟨h0, h1, h2, h3⟩ | ⟨id', ex', h1, h2, h3, h4⟩
 ·rw [hv] at h1; cases h1
 ·rw [hv] at h1;cases h1
  have hsw := hS.swap hp (y := .row id u cells) h4 (.inl (by rw [hv]; rfl))
  have hq := ht.2.2
  have : off + q ≤ cells.length := by
   rw [← hc, List.length_take, List.length_drop] at hl;omega
  refine Val.load_rows (p := p) (u := u) ?_ ht hx rfl hc (Nat.ble_eq_true_of_le this) ev S he hsw o ho;rw [List.getElem?_set];simp [(List.getElem?_eq_some_iff.1 hp).1]
theorem TO.store_own {bt : TypeId} {x y : Operand} {p id u off m k q : Nat} {ex z : Bool} {v w : AV} {cells cv cells' : List AV} (ho : ops[i]? = some ⟨none, .store bt x y, ty, pos, af, g⟩) (hw : wantS ops σ g = some true)
  (hp : hs[p]? = some (.own z v u m cells)) (hv : v = .slice id 0 k ex m m) (ht : E.siz bt = some q) (hx : evs σ x = some (.ptr id off k)) (hy : evs σ y = some w) (hcv : cellsOf w = cv) (hl : Nat.beq cv.length q = true) (hm : Nat.beq q 0 = false)
  (ho1 : cv.all oneCell = true) (hoff : off + q ≤ cells.length) (hc : spliceL cells off cv = cells') (h : TO E false n rnd ops ns ⟨ms, σ, hs.set p (.own z v u m cells')⟩ Q) : TO E false n rnd ops (i :: ns) ⟨ms, σ, hs⟩ Q := fun a S hi => by
 have hl' := Nat.eq_of_beq_eq_true hl
 rcases hi.mem.own hp with ⟨h0, h1, h2, h3⟩ | ⟨id', ex', h1, h2, h3, h4⟩
 ·rw [hv] at h1; cases h1
 ·have hlen : cells'.length = cells.length := by
   rw [← hc]; simp only [spliceL, List.length_append, List.length_take, List.length_drop]; omega
  have h1' := h1;rw [hv] at h1;cases h1
  have hsw := hi.mem.swap hp (y := .row id u cells) h4 (.inl (by rw [hv]; rfl))
  have hget : (hs.set p (.row id u cells))[p]? = some (.row id u cells) := by
   rw [List.getElem?_set];simp [(List.getElem?_eq_some_iff.1 hp).1]
  refine TO.store_row (p := p) (u := u) (cells' := cells') ho hw hget ht hx rfl hy hcv hl hm ho1 hoff hc ?_ a S ⟨hi.act, hsw⟩;intro a2 S2 hi2;refine h a2 S2 ⟨hi2.act, ?_⟩
  have hget2 : ((hs.set p (.row id u cells)).set p (.row id u cells'))[p]? = some (.row id u cells') := by
   rw [List.set_set, List.getElem?_set];simp [(List.getElem?_eq_some_iff.1 hp).1]
  have := hi2.mem.swap hget2 (y := .own z v u m cells') (.inr ⟨id, ex, by rw [h1', hlen], by rw [hlen]; exact h2, h3, hi2.mem.row hget2⟩) (.inl (by rw [hv]; rfl))
  rwa [List.set_set, List.set_set] at this
end
theorem flat_get {α : Type} {en : En α} {l : List α} {k j : Nat} {a : α} (h : l[k]? = some a) (hj : j < en.u) : (l.flatMap en.f)[k * en.u + j]? = (en.f a)[j]? := by
 have := flat_drop (enc := en) l k a h
 have e : (l.flatMap en.f)[k * en.u + j]? = ((l.flatMap en.f).drop (k * en.u))[j]? := by rw [List.getElem?_drop]
 rw [e, this, List.getElem?_append_left (by rw [en.len]; exact hj)]
theorem flat_set {α : Type} {en : En α} : ∀ {l : List α} {k : Nat} (a : α), k < l.length → spliceL (l.flatMap en.f) (k * en.u) (en.f a) = (l.set k a).flatMap en.f := by
 intro l
 induction l with
 | nil => intro k a h; simp at h
 | cons b l ih =>
  intro k a h
  have hb : (en.f b).length = en.u := en.len b
  have ha : (en.f a).length = en.u := en.len a;cases k with
  | zero =>
   simp only [spliceL, Nat.zero_mul, List.take_zero, List.nil_append, Nat.zero_add, List.set_cons_zero, List.flatMap_cons, ha];rw [List.drop_append, List.drop_eq_nil_of_le (by omega), List.nil_append]
   have : en.u - (en.f b).length = 0 := by omega
   rw [this, List.drop_zero]
  | succ k =>
   have ih' := ih a (k := k) (by simpa using h);simp only [spliceL, ha] at ih' ⊢;rw [List.set_cons_succ, List.flatMap_cons, List.flatMap_cons, ← ih', List.take_append, List.drop_append]
   have e1 : (k + 1) * en.u = en.u + k * en.u := by rw [Nat.succ_mul]; omega
   rw [e1, hb, List.take_of_length_le (by omega), List.drop_eq_nil_of_le (by omega)]
   have e2 : en.u + k * en.u - en.u = k * en.u := by omega
   have e3 : en.u + k * en.u + en.u - en.u = k * en.u + en.u := by omega
   rw [e2, e3];simp only [List.append_assoc, List.nil_append]
theorem flat_ones (l : List Int) : (l.flatMap encI.f).all oneCell = true := by
 induction l with
 | nil => rfl
 | cons a l ih => rw [List.flatMap_cons, List.all_append, ih]; rfl
end Go.Am
end
section
namespace Go.Am
open Go.RowKit
set_option linter.unusedVariables false
set_option linter.unusedSimpArgs false
def En.Lits {α : Type} (e : En α) : Prop := ∀ a, ∃ l : List Value, e.f a = l.map .lit
def En.Ones {α : Type} (e : En α) : Prop := ∀ a, (e.f a).all oneCell = true
theorem en_ones {α : Type} {e : En α} (h : e.Ones) : ∀ l : List α, (l.flatMap e.f).all oneCell = true := by
 intro l
 induction l with
 | nil => rfl
 | cons a l ih => rw [List.flatMap_cons, List.all_append, ih, h a]; rfl
theorem flat_lits {α : Type} {e : En α} (h : e.Lits) : ∀ l : List α, ∃ vs : List Value, l.flatMap e.f = vs.map .lit := by
 intro l
 induction l with
 | nil => exact ⟨[], rfl⟩
 | cons a l ih =>
  obtain ⟨v1, h1⟩ := h a;obtain ⟨v2, h2⟩ := ih;exact ⟨v1 ++ v2, by rw [List.flatMap_cons, h1, h2, List.map_append]⟩
theorem RefNL.lits {α : Type} {e : En α} {k : Nat} {hs : List Thing} {l : List α} (h : e.Lits) : RefNL (k + 1) hs (l.flatMap e.f) (l.flatMap e.f) := fun S _ => by
 obtain ⟨vs, h1⟩ := flat_lits h l;rw [h1];exact mapR_lits (f := reifyN (k + 1) S) (fun v => rfl) vs
theorem ReifL.lits {α : Type} {e : En α} {k : Nat} {hs : List Thing} {l : List α} (h : e.Lits) : ReifL (k + 1) hs (l.flatMap e.f) (l.flatMap e.f) := fun S _ => by
 obtain ⟨vs, h1⟩ := flat_lits h l;rw [h1];exact mapR_lits (f := reify (k + 1) S) (fun v => rfl) vs
theorem btrue {p : Prop} (h : true = true ↔ p) : p := h.1 rfl
theorem bfalse {p : Prop} (h : false = true ↔ p) : ¬ p := fun k => Bool.noConfusion (h.2 k)
theorem GS.one {α : Type} {e : En α} (x : GS e) : oneCell x.v = true := x.cells.2
@[simp] theorem oneCell_int (k : IntKind) (x : Int) : oneCell (.lit (.int k x)) = true := rfl
@[simp] theorem oneCell_bool (x : Bool) : oneCell (.lit (.bool x)) = true := rfl
@[simp] theorem oneCell_str (x : ByteArray) : oneCell (.lit (.string x)) = true := rfl
@[simp] theorem oneCell_ptr (a b c : Nat) : oneCell (.ptr a b c) = true := rfl
theorem keep_nil {σ : Sl} : ∀ t v, lk [] t = some v → lk σ t = some v := fun t v h => by cases h
theorem keep_cons {σ σ' : Sl} {t : Nat} {v : AV} (h : lk σ t = some v) (k : ∀ t v, lk σ' t = some v → lk σ t = some v) : ∀ t' v', lk ((t, v) :: σ') t' = some v' → lk σ t' = some v' := fun t' v' h' => by
 simp only [lk] at h';cases hb : Nat.beq t t' with
 | true =>
  have := Nat.eq_of_beq_eq_true hb;subst this;simp only [hb, cond_true, Option.some.injEq] at h';subst h';exact h
 | false =>
  simp only [hb, cond_false] at h';exact k _ _ h'
theorem sameC_refl (v : AV) : smC.1 v v = true := by simp [smC]
section
variable {E : Env} {d : Bool} {n : Nat} {rnd : Option Nat} {ops : Array Oper} {i : Nat} {ns : List Nat} {ms : List Dfr} {σ : Sl} {hs hs' : List Thing} {Q : Sy → Prop} {t : Tmp} {op : Op} {ty : TypeId} {pos : String} {af : Array Edge} {g : Option (Nat × Bool)}
theorem T.condT {s : Sy} {g : Operand} {x y : Code} {Q : Exit → Sy → Prop} (hb : ∀ a, HasA a n rnd s.ms s.sl → a.ev g = bv true) (h : T E n rnd x s Q) : T E n rnd (.cond g x y) s Q := T.cond hb (fun _ => h) (fun h => by cases h)
theorem T.condF {s : Sy} {g : Operand} {x y : Code} {Q : Exit → Sy → Prop} (hb : ∀ a, HasA a n rnd s.ms s.sl → a.ev g = bv false) (h : T E n rnd y s Q) : T E n rnd (.cond g x y) s Q := T.cond hb (fun h => by cases h) (fun _ => h)
theorem RefN.ownL {α : Type} {k p : Nat} {z : Bool} {v : AV} {en : En α} {l : List α} (hp : hs[p]? = some (ownL z v en l)) (h : RefNL k hs (l.flatMap en.f) (l.flatMap en.f)) : RefN (k + 1) hs v (GSo z en l).v := RefN.own (List.mem_of_getElem? hp) h
theorem Reif.ownL {α : Type} {k p : Nat} {z : Bool} {v : AV} {en : En α} {l : List α} (hp : hs[p]? = some (ownL z v en l)) (h : ReifL k hs (l.flatMap en.f) (l.flatMap en.f)) : Reif (k + 1) hs v (GSo z en l).v := Reif.own (List.mem_of_getElem? hp) h
@[simp] theorem GSo_l {α : Type} (z : Bool) (e : En α) (l : List α) : (GSo z e l).l = l := rfl
theorem Val.len_gso {α : Type} {x : Operand} {z : Bool} {e : En α} {l : List α} {st et : TypeId} (ht : E.und st = some (.slice et)) (hx : evs σ x = some (GSo z e l).v) :
  Val E σ hs (.call { callee := .builtin .len, args := #[x], argTypes := #[st] }) (iv l.length) := Val.len_gs ht hx
theorem TO.bmax {x y : Operand} {ts : Array TypeId} {a b : Int} (ho : ops[i]? = some ⟨some t, .call { callee := .builtin .max, args := #[x, y], argTypes := ts }, ty, pos, af, g⟩) (hd : Nat.blt t n = true) (hw : wantS ops σ g = some true)
  (hx : evs σ x = some (iv a)) (hy : evs σ y = some (iv b)) (k : TO E d n rnd ops ns ⟨ms, (t, iv (max a b)) :: σ, hs⟩ Q) : TO E d n rnd ops (i :: ns) ⟨ms, σ, hs⟩ Q := by
 refine TO.cons_still (v := iv (max a b)) ho hd (fun A S hi => ⟨0, fun m _ => ?_⟩) k
 have w := hi.act.wanted (ops := ops) (o := ⟨some t, .call { callee := .builtin .max, args := #[x, y], argTypes := ts }, ty, pos, af, g⟩) hw
 have e : pureVal E.P (Builtin.max_ ts ty #[.int .i64 a, .int .i64 b]) = some (.int .i64 (if b > a then b else a)) := rfl
 have e2 : (if b > a then b else a) = max a b := by split <;> omega
 unfold opVal;rw [ho];simp only [w, cond_true, aop, acall, abuiltin, List.map_cons, List.map_nil, hi.act.ev _ _ hx, hi.act.ev _ _ hy, pureBuiltin, mapR, toV, Except.bind, e, e2, ofOpt];rfl
theorem TO.bmin {x y : Operand} {ts : Array TypeId} {a b : Int} (ho : ops[i]? = some ⟨some t, .call { callee := .builtin .min, args := #[x, y], argTypes := ts }, ty, pos, af, g⟩) (hd : Nat.blt t n = true) (hw : wantS ops σ g = some true)
  (hx : evs σ x = some (iv a)) (hy : evs σ y = some (iv b)) (k : TO E d n rnd ops ns ⟨ms, (t, iv (min a b)) :: σ, hs⟩ Q) : TO E d n rnd ops (i :: ns) ⟨ms, σ, hs⟩ Q := by
 refine TO.cons_still (v := iv (min a b)) ho hd (fun A S hi => ⟨0, fun m _ => ?_⟩) k
 have w := hi.act.wanted (ops := ops) (o := ⟨some t, .call { callee := .builtin .min, args := #[x, y], argTypes := ts }, ty, pos, af, g⟩) hw
 have e : pureVal E.P (Builtin.min_ ts ty #[.int .i64 a, .int .i64 b]) = some (.int .i64 (if b < a then b else a)) := rfl
 have e2 : (if b < a then b else a) = min a b := by split <;> omega
 unfold opVal;rw [ho];simp only [w, cond_true, aop, acall, abuiltin, List.map_cons, List.map_nil, hi.act.ev _ _ hx, hi.act.ev _ _ hy, pureBuiltin, mapR, toV, Except.bind, e, e2, ofOpt];rfl
theorem Val.mul {xt ty : TypeId} {x y : Operand} {a b : Int} (hx : evs σ x = some (iv a)) (hy : evs σ y = some (iv b)) (h : -9223372036854775808 ≤ a * b ∧ a * b < 9223372036854775808) :
  Val E σ hs (.binOp .mul xt x y ty) (iv (a * b)) := fun ev S he _ o ho => by
 have hp : abin E .mul xt x y (iv a) (iv b) = .ok (iv (IntKind.i64.wrap (a * b))) := rfl;unfold aop; rw [ho]; simp only [he _ _ hx, he _ _ hy, hp, wrap_id h.1 h.2]; rfl
theorem Val.rem {xt ty : TypeId} {x y : Operand} {a b : Int} (hx : evs σ x = some (iv a)) (hy : evs σ y = some (iv b)) (h : 0 < b) :
  Val E σ hs (.binOp .rem xt x y ty) (iv (a.tmod b)) := fun ev S he _ o ho => by
 have hb : b ≠ 0 := by omega
 have hp : abin E .rem xt x y (iv a) (iv b) = .ok (iv (a.tmod b)) := by
  simp only [abin, abinPure, toV, Except.bind]
  have e : (pureVal E.P (do eqGuard .rem xt x y (.int .i64 a) (.int .i64 b); binOp .rem xt (.int .i64 a) (.int .i64 b))) = some (.int .i64 (a.tmod b)) := by
   show pureVal E.P (Op.intDiv .rem .i64 a b) = _;unfold Op.intDiv;simp [hb];rfl
  rw [e];rfl
 unfold aop; rw [ho]; simp only [he _ _ hx, he _ _ hy, hp]; rfl
theorem Val.bin {op : BinOp} {xt ty : TypeId} {x y : Operand} {v w r : AV} (hx : evs σ x = some v) (hy : evs σ y = some w) (hp : abin E op xt x y v w = .ok r) : Val E σ hs (.binOp op xt x y ty) r := fun ev S he _ o ho => by
 unfold aop; rw [ho]; simp only [he _ _ hx, he _ _ hy, hp]; rfl
theorem Val.field {s f k m : Nat} {x : Operand} {cs : List AV} {fd : Field} {v : AV} {dd : TypeDesc} (hf : fieldOf E s f = .ok (fd, m)) (hx : evs σ x = some (.agg cs)) (hd : E.und fd.type = some dd) (ha : isAggT dd = false) (hv : cs[fd.offset]? = some v) : Val E σ hs (.field s x f) v := fun ev S he hS o ho => by
 unfold aop; rw [ho];simp only [he _ _ hx, afield, hf, Except.bind, valOf, partOf, hd, ofOpt, ha, cond_false, hv];rfl
theorem Val.build {bt : TypeId} {parts : Array (Nat × Operand)} {vs : List (Nat × AV)} {cs : List AV} (hx : evsL σ (parts.toList.map (·.2)) = some (vs.map (·.2))) (hi : parts.toList.map (·.1) = vs.map (·.1)) (hb : abuild E bt vs = .ok (.agg cs)) : Val E σ hs (.build bt parts) (.agg cs) := fun ev S he hS o ho => by
 have h1 : ∀ (xs : List Operand) (vs : List AV), evsL σ xs = some vs → xs.map ev = vs := by
  intro xs
  induction xs with
  | nil => intro vs hv; cases hv; rfl
  | cons x xs ih =>
   intro vs hv;simp only [evsL] at hv;split at hv
   ·rename_i v r h1 h2
    cases hv;rw [List.map_cons, ih _ h2, he _ _ h1]
   ·cases hv
 have hps : partsOf ev parts = vs := by
  have h1 := h1 _ _ hx;unfold partsOf
  have : ∀ (ps : List (Nat × Operand)) (vs : List (Nat × AV)), (ps.map (·.2)).map ev = vs.map (·.2) → ps.map (·.1) = vs.map (·.1) → ps.map (fun x => (x.1, ev x.2)) = vs := by
   intro ps
   induction ps with
   | nil => intro vs h1 h2; cases vs with | nil => rfl | cons => cases h2
   | cons p ps ih =>
    intro vs h1 h2;cases vs with
    | nil => cases h2
    | cons v vs =>
     simp only [List.map_cons, List.cons.injEq] at h1 h2 ⊢;exact ⟨by rw [h1.1, h2.1], ih vs h1.2 h2.2⟩
  exact this _ _ h1 hi
 unfold aop; rw [ho];simp only [hps, hb, valOf, Except.bind];rfl
end
end Go.Am
end
section
namespace Go.Am
open Go.RowKit
set_option linter.unusedVariables false
set_option linter.unusedSimpArgs false
theorem pv_bind {α β : Type} (P : Program) (m : Sem α) (k : α → Sem β) : pureVal P (m >>= k) = (pureVal P m).bind fun a => pureVal P (k a) := by
 show pureVal P (Sem.bind m k) = _
 induction m with
 | pure a => rfl
 | program f ih => simp only [Sem.bind, pureVal, ih]
 | mark x m ih => simp only [Sem.bind, pureVal, ih]
 | _ => rfl
theorem pv_pure {α : Type} (P : Program) (a : α) : pureVal P (pure a) = some a := rfl
theorem pv_program (P : Program) : pureVal P program = some P := rfl
theorem pure_eqInt {P : Program} {t d : Nat} {k k' : IntKind} {a b : Int} (h : pureVal P (underlying t) = some (.int k')) : pureVal P (Op.equalIn (d + 1) t (.int k a) (.int k b)) = some (a == b) := by
 unfold Op.equalIn;rw [pv_bind, h];simp [pv_pure]
def FieldInt (P : Program) (f : Field) (xs : Array Value) (a : Int) : Prop := (f.name ≠ "_") ∧ (∃ k', pureVal P (underlying f.type) = some (.int k')) ∧ pureVal P (part f.type xs f.offset) = some (.int .i64 a)
theorem pure_eq2 {P : Program} {t : Nat} {f0 f1 : Field} {xs ys : Array Value} {a0 a1 b0 b1 : Int} (hu : pureVal P (underlying t) = some (.struct #[f0, f1])) (hs : P.stoodInHeld t = false)
  (h0 : FieldInt P f0 xs a0) (k0 : FieldInt P f0 ys b0) (h1 : FieldInt P f1 xs a1) (k1 : FieldInt P f1 ys b1) : pureVal P (Op.equal t (.agg xs) (.agg ys)) = some (a0 == b0 && a1 == b1) := by
 unfold Op.equal
 have e : Op.maxDepth = 9998 + 1 + 1 := rfl;rw [e, Op.equalIn, pv_bind, hu];obtain ⟨n0, ⟨q0, u0⟩, p0⟩ := h0;obtain ⟨_, _, r0⟩ := k0
 have z0 : pureVal P (Op.equalIn 9999 f0.type (.int .i64 a0) (.int .i64 b0)) = some (a0 == b0) := pure_eqInt u0;obtain ⟨n1, ⟨q1, u1⟩, p1⟩ := h1;obtain ⟨_, _, r1⟩ := k1
 have z1 : pureVal P (Op.equalIn 9999 f1.type (.int .i64 a1) (.int .i64 b1)) = some (a1 == b1) := pure_eqInt u1;simp only [Option.bind_some, pv_bind, pv_program, hs];generalize (a0 == b0) = B0 at z0 ⊢;generalize (a1 == b1) = B1 at z1 ⊢;cases B0 <;> cases B1 <;> simp [pv_bind, n0, p0, r0, z0, n1, p1, r1, z1, pv_pure]
theorem pv_seq {P : Program} {a : Sem Unit} {b : Sem Value} {v : Value} (h1 : pureVal P a = some ()) (h2 : pureVal P b = some v) : pureVal P (do a; b) = some v := by
 show pureVal P (a >>= fun _ => b) = some v;rw [pv_bind, h1, Option.bind_some];exact h2
theorem abin_agg {E : Env} {op : BinOp} {xt : TypeId} {x y : Operand} {cs ds : List AV} {A B : Value} {b : Bool} (hop : op = .eql ∨ op = .neq) (hA : toV 4 (.agg cs) = .ok A) (hB : toV 4 (.agg ds) = .ok B)
  (h1 : pureVal E.P (eqGuard op xt x y A B) = some ()) (h2 : pureVal E.P (binOp op xt A B) = some (.bool b)) : abin E op xt x y (.agg cs) (.agg ds) = .ok (bv b) := by
 have h3 := pv_seq h1 h2
 have e : abinPure E op xt x y (.agg cs) (.agg ds) = .ok (bv b) := by
  unfold abinPure;rw [hA, hB];simp only [Except.bind, h3, ofOpt];rfl
 rcases hop with rfl | rfl <;> simp only [abin, e]
theorem bin_eql {P : Program} {t : Nat} {xs ys : Array Value} {b : Bool} (h : pureVal P (Op.equal t (.agg xs) (.agg ys)) = some b) : pureVal P (binOp .eql t (.agg xs) (.agg ys)) = some (.bool b) := by
 show pureVal P (Op.equal t (.agg xs) (.agg ys) >>= fun r => pure (Value.bool r)) = _;rw [pv_bind, h]; rfl
end Go.Am
end
section
namespace Go.Am
open Go.RowKit
set_option linter.unusedVariables false
set_option linter.unusedSimpArgs false
structure Rd where
 i : Nat
 sl : Sl
 v : AV
structure Fl where
 i : Nat
 id : Nat
 u : Nat
 cells : List AV
section
variable {E : Env} {n : Nat} {rnd : Option Nat} {ms : List Dfr}
def Same' (E : Env) (ops : Array Oper) (hs : List Thing) (r : Rd) : Prop := ∃ o, ops[r.i]? = some o ∧ Val E r.sl hs o.op r.v
def SeenR (n : Nat) (rnd : Option Nat) (ms : List Dfr) (x : Nat × AAct × AV) (r : Rd) : Prop := x.1 = r.i ∧ HasA x.2.1 n rnd ms r.sl ∧ x.2.2 = r.v
def SeenL (n : Nat) (rnd : Option Nat) (ms : List Dfr) (xs : Seen) (rs : List Rd) : Prop := ∀ x ∈ xs, ∃ r ∈ rs, SeenR n rnd ms x r
def FlL (fs : Floats) (fl : List Fl) : Prop := ∀ f ∈ fs, ∃ g ∈ fl, f = (g.i, g.id, .row g.cells g.u 0)
def PastL (ps : List (Nat × St)) (past : List (Nat × List Thing)) : Prop := ∀ p ∈ ps, ∃ q ∈ past, p.1 = q.1 ∧ HasS p.2 q.2
theorem Same'.agrees (hE : ∀ v, E.same.1 v v = true) {ops : Array Oper} {hs : List Thing} {r : Rd} {x : Nat × AAct × AV} {S : St} (h : Same' E ops hs r) (hx : SeenR n rnd ms x r) (hS : HasS S hs) : agrees E ops S x = true := by
 obtain ⟨o, ho, hv⟩ := h;obtain ⟨h1, h2, h3⟩ := hx;unfold Am.agrees;rw [h1, ho]
 have := hv x.2.1.ev S h2.ev hS o rfl;simp only [this, h3];exact hE _
def TD2 (E : Env) (n : Nat) (rnd : Option Nat) (ops : Array Oper) (l : List Nat) (s : Sy) (past : List (Nat × List Thing)) (seen : List Rd) (fl : List Fl) (Q : Sy → Prop) : Prop :=
 ∀ a S ps xs fs, Is n rnd a S s → PastL ps past → SeenL n rnd s.ms xs seen → FlL fs fl →
  Evt E (fun rec => drawSteps rec E ops (CheckFast.beforeL ops.toList 0 []) fs l a S ps xs) fun r => ∃ s', Is n rnd r.1 r.2 s' ∧ Q s'
def TD1 (E : Env) (n : Nat) (rnd : Option Nat) (ops : Array Oper) (l1 l2 : List Nat) (s : Sy) (seen : List Rd) (fl : List Fl) (Q : Sy → Prop) : Prop :=
 ∀ a S xs fs, Is n rnd a S s → SeenL n rnd s.ms xs seen → FlL fs fl →
  Evt E (fun rec => (drawFirst rec E ops l1 a S xs fs).bind fun x => bif x.2.1.all (agrees E ops x.1.2) then drawSteps rec E ops (CheckFast.beforeL ops.toList 0 []) x.2.2 l2 x.1.1 x.1.2 [] x.2.1 else .error "region first reads")
   fun r => ∃ s', Is n rnd r.1 r.2 s' ∧ Q s'
variable {ops : Array Oper} {i : Nat} {l l1 l2 : List Nat} {σ : Sl} {hs : List Thing} {past : List (Nat × List Thing)} {seen : List Rd} {fl : List Fl} {Q : Sy → Prop} {t : Tmp} {op : Op} {ty : TypeId} {pos : String} {af : Array Edge} {g : Option (Nat × Bool)} {v : AV}
theorem T.drawE {id : Nat} {s : Sy} {Q : Exit → Sy → Prop} (h1 : firstPass ops (CheckFast.beforeL ops.toList 0 []) = l1) (h2 : secondPass ops (CheckFast.beforeL ops.toList 0 []) = l2)
  (h : TD1 E n rnd ops l1 l2 s [] [] (Q .normal)) : T E n rnd (.region id ops true) s Q := .of_step fun a S hi => by
 obtain ⟨r, ⟨m0, hm⟩, s', h3, h4⟩ := h a S [] [] hi (fun x hx => by simp at hx) (fun x hx => by simp at hx);refine ⟨(.exit .normal r.1, r.2), ⟨m0, fun m hm' => ?_⟩, _, _, _, _, rfl, h3, h4⟩
 have := hm m hm';simp only [runCode, runRegion, cond_true, forceL_eq, drawRun, h1, h2];simp only at this;rw [this];rfl
theorem opVal_on {a : AAct} {S : St} {o : Oper} (ho : ops[i]? = some o) (hw : Region.wanted o (yieldedA ops a) = true) {rec : Rec} : opVal rec E ops i a S = (match aop E S a.ev o with
    | .error m => .error (m ++ " " ++ o.pos)
    | .ok (.val v, S1) => .ok (v, S1)
    | .ok (.enter f args, S1) => callA rec E f args S1
    | .ok (.round l args, S1) => aRound rec S1 l args
    | .ok (.thr _, _) => .error ("panic " ++ o.pos)) ∧ kindAt ops i a = kindOf o := by
  refine ⟨?_, ?_⟩
  · unfold opVal
    rw [ho]
    simp only [hw, cond_true]
    cases aop E S a.ev o with
    | error m => rfl
    | ok x =>
      obtain ⟨nx, S1⟩ := x
      cases nx <;> rfl
  · unfold kindAt; rw [ho]; simp only [hw, cond_true]
theorem opVal_val {a : AAct} {S S1 : St} {o : Oper} {v : AV} (ho : ops[i]? = some o) (hw : Region.wanted o (yieldedA ops a) = true) (h : aop E S a.ev o = .ok (.val v, S1)) {rec : Rec} : opVal rec E ops i a S = .ok (v, S1) ∧ kindAt ops i a = kindOf o := by
 obtain ⟨h1, h2⟩ := opVal_on (E := E) (S := S) (rec := rec) ho hw;exact ⟨by rw [h1, h], h2⟩
theorem opVal_off {a : AAct} {S : St} {o : Oper} (ho : ops[i]? = some o) (hw : Region.wanted o (yieldedA ops a) = false) {rec : Rec} : opVal rec E ops i a S = .ok (undefA, S) ∧ kindAt ops i a = 0 := by
 refine ⟨?_, ?_⟩
 ·unfold opVal; rw [ho]; simp only [hw, cond_false]
 ·unfold kindAt; rw [ho]; simp only [hw, cond_false]
theorem TD1.light (ho : ops[i]? = some ⟨some t, op, ty, pos, af, g⟩) (hk : kindOf ⟨some t, op, ty, pos, af, g⟩ = 0) (hd : Nat.blt t n = true) (hw : wantS ops σ g = some true) (h : Val E σ hs op v)
  (k : TD1 E n rnd ops l1 l2 ⟨ms, (t, v) :: σ, hs⟩ seen fl Q) : TD1 E n rnd ops (i :: l1) l2 ⟨ms, σ, hs⟩ seen fl Q := fun a S xs fs hi hx hf => by
 obtain ⟨a1, hp, ha1⟩ := hi.act.put (d := some t) hd v
 have hv := h a.ev S hi.act.ev hi.mem ⟨some t, op, ty, pos, af, g⟩ rfl
 have hwn := hi.act.wanted (ops := ops) (o := ⟨some t, op, ty, pos, af, g⟩) hw;refine (k a1 S xs fs ⟨ha1, hi.mem⟩ hx hf).congr fun rec => ?_
 obtain ⟨h1, h2⟩ := opVal_val (rec := rec) ho hwn hv
 have hdst : dstAt ops i = some t := by simp [dstAt, ho]
 simp only [drawFirst, h1, Except.bind, hdst, hp, h2, hk]
theorem TD1.off (ho : ops[i]? = some ⟨some t, op, ty, pos, af, g⟩) (hd : Nat.blt t n = true) (hw : wantS ops σ g = some false)
  (k : TD1 E n rnd ops l1 l2 ⟨ms, (t, undefA) :: σ, hs⟩ seen fl Q) : TD1 E n rnd ops (i :: l1) l2 ⟨ms, σ, hs⟩ seen fl Q := fun a S xs fs hi hx hf => by
 obtain ⟨a1, hp, ha1⟩ := hi.act.put (d := some t) hd undefA
 have hwn := hi.act.wanted (ops := ops) (o := ⟨some t, op, ty, pos, af, g⟩) hw;refine (k a1 S xs fs ⟨ha1, hi.mem⟩ hx hf).congr fun rec => ?_
 obtain ⟨h1, h2⟩ := opVal_off (E := E) (S := S) (rec := rec) ho hwn
 have hdst : dstAt ops i = some t := by simp [dstAt, ho]
 simp only [drawFirst, h1, Except.bind, hdst, hp, h2]
theorem TD1.read (ho : ops[i]? = some ⟨some t, op, ty, pos, af, g⟩) (hk : kindOf ⟨some t, op, ty, pos, af, g⟩ = 1) (hd : Nat.blt t n = true) (hw : wantS ops σ g = some true) (h : Val E σ hs op v)
  (k : TD1 E n rnd ops l1 l2 ⟨ms, (t, v) :: σ, hs⟩ (⟨i, σ, v⟩ :: seen) fl Q) : TD1 E n rnd ops (i :: l1) l2 ⟨ms, σ, hs⟩ seen fl Q := fun a S xs fs hi hx hf => by
 obtain ⟨a1, hp, ha1⟩ := hi.act.put (d := some t) hd v
 have hv := h a.ev S hi.act.ev hi.mem ⟨some t, op, ty, pos, af, g⟩ rfl
 have hwn := hi.act.wanted (ops := ops) (o := ⟨some t, op, ty, pos, af, g⟩) hw;refine (k a1 S ((i, a, v) :: xs) fs ⟨ha1, hi.mem⟩ (fun x hx' => ?_) hf).congr fun rec => ?_
 ·rcases List.mem_cons.1 hx' with rfl | hx'
  ·exact ⟨_, List.mem_cons_self, rfl, hi.act, rfl⟩
  ·obtain ⟨r, h1, h2⟩ := hx x hx'; exact ⟨r, List.mem_cons_of_mem _ h1, h2⟩
 obtain ⟨h1, h2⟩ := opVal_val (rec := rec) ho hwn hv
 have hdst : dstAt ops i = some t := by simp [dstAt, ho]
 simp only [drawFirst, h1, Except.bind, hdst, hp, h2, hk]
theorem TD1.float {u : Nat} {cells : List AV} {K : Nat → AV} (ho : ops[i]? = some ⟨some t, op, ty, pos, af, g⟩) (hk : kindOf ⟨some t, op, ty, pos, af, g⟩ = 3) (hd : Nat.blt t n = true) (hw : wantS ops σ g = some true)
  (h : ∀ (ev : Operand → AV) (S : St), (∀ x v, evs σ x = some v → ev x = v) → HasS S hs → ∀ o : Oper, o.op = op → aop E S ev o = .ok (.val (K S.next), S.new (.row cells u 0)))
  (k : ∀ id, TD1 E n rnd ops l1 l2 ⟨ms, (t, K id) :: σ, .obj id (.row cells u 0) :: hs⟩ seen (⟨i, id, u, cells⟩ :: fl) Q) : TD1 E n rnd ops (i :: l1) l2 ⟨ms, σ, hs⟩ seen fl Q := fun a S xs fs hi hx hf => by
 obtain ⟨a1, hp, ha1⟩ := hi.act.put (d := some t) hd (K S.next)
 have hv := h a.ev S hi.act.ev hi.mem ⟨some t, op, ty, pos, af, g⟩ rfl
 have hwn := hi.act.wanted (ops := ops) (o := ⟨some t, op, ty, pos, af, g⟩) hw
 have hget : (S.new (.row cells u 0)).heap.get S.next = some (.row cells u 0) := by rw [St.new_get, if_pos rfl]
 refine (k S.next a1 (S.new (.row cells u 0)) xs ((i, S.next, .row cells u 0) :: fs) ⟨ha1, hi.mem.new _ (x := .obj S.next (.row cells u 0)) hget fun i hi => by cases hi; rfl⟩ hx (fun f hf' => ?_)).congr fun rec => ?_
 ·rcases List.mem_cons.1 hf' with rfl | hf'
  ·exact ⟨_, List.mem_cons_self, rfl⟩
  ·obtain ⟨r, h1, h2⟩ := hf f hf'; exact ⟨r, List.mem_cons_of_mem _ h1, h2⟩
 obtain ⟨h1, h2⟩ := opVal_val (rec := rec) ho hwn hv
 have hdst : dstAt ops i = some t := by simp [dstAt, ho]
 simp only [drawFirst, h1, Except.bind, hdst, hp, h2, hk, hget]
theorem TD1.over (hE : ∀ v, E.same.1 v v = true) (hr : ∀ r ∈ seen, Same' E ops hs r) (k : TD2 E n rnd ops l2 ⟨ms, σ, hs⟩ [] seen fl Q) : TD1 E n rnd ops [] l2 ⟨ms, σ, hs⟩ seen fl Q := fun a S xs fs hi hx hf => by
 refine (k a S [] xs fs hi (fun p hp => by simp at hp) hx hf).congr fun rec => ?_
 have hall : xs.all (agrees E ops S) = true := List.all_eq_true.2 fun x hx' => by
  obtain ⟨r, h1, h2⟩ := hx x hx';exact (hr r h1).agrees hE h2 hi.mem
 simp only [drawFirst, Except.bind, hall, cond_true]
theorem TD2.nil (h : Q ⟨ms, σ, hs⟩) : TD2 E n rnd ops [] ⟨ms, σ, hs⟩ past seen fl Q := fun a S ps xs fs hi hp hx hf => .ok ⟨_, hi, h⟩
theorem TD2.light (ho : ops[i]? = some ⟨some t, op, ty, pos, af, g⟩) (hk : kindOf ⟨some t, op, ty, pos, af, g⟩ = 0) (hd : Nat.blt t n = true) (hw : wantS ops σ g = some true) (h : Val E σ hs op v)
  (k : TD2 E n rnd ops l ⟨ms, (t, v) :: σ, hs⟩ past seen fl Q) : TD2 E n rnd ops (i :: l) ⟨ms, σ, hs⟩ past seen fl Q := fun a S ps xs fs hi hpa hx hf => by
 obtain ⟨a1, hp, ha1⟩ := hi.act.put (d := some t) hd v
 have hv := h a.ev S hi.act.ev hi.mem ⟨some t, op, ty, pos, af, g⟩ rfl
 have hwn := hi.act.wanted (ops := ops) (o := ⟨some t, op, ty, pos, af, g⟩) hw;refine (k a1 S ps xs fs ⟨ha1, hi.mem⟩ hpa hx hf).congr fun rec => ?_
 obtain ⟨h1, h2⟩ := opVal_val (rec := rec) ho hwn hv
 have hdst : dstAt ops i = some t := by simp [dstAt, ho]
 simp only [drawSteps, h1, Except.bind, hdst, hp, h2, hk]
theorem TD2.off (ho : ops[i]? = some ⟨some t, op, ty, pos, af, g⟩) (hd : Nat.blt t n = true) (hw : wantS ops σ g = some false)
  (k : TD2 E n rnd ops l ⟨ms, (t, undefA) :: σ, hs⟩ past seen fl Q) : TD2 E n rnd ops (i :: l) ⟨ms, σ, hs⟩ past seen fl Q := fun a S ps xs fs hi hpa hx hf => by
 obtain ⟨a1, hp, ha1⟩ := hi.act.put (d := some t) hd undefA
 have hwn := hi.act.wanted (ops := ops) (o := ⟨some t, op, ty, pos, af, g⟩) hw;refine (k a1 S ps xs fs ⟨ha1, hi.mem⟩ hpa hx hf).congr fun rec => ?_
 obtain ⟨h1, h2⟩ := opVal_off (E := E) (S := S) (rec := rec) ho hwn
 have hdst : dstAt ops i = some t := by simp [dstAt, ho]
 simp only [drawSteps, h1, Except.bind, hdst, hp, h2]
theorem TD2.read (hE : ∀ v, E.same.1 v v = true) (ho : ops[i]? = some ⟨some t, op, ty, pos, af, g⟩) (hk : kindOf ⟨some t, op, ty, pos, af, g⟩ = 1) (hd : Nat.blt t n = true) (hw : wantS ops σ g = some true) (h : Val E σ hs op v)
  (hpst : ∀ q ∈ past, bitOf (CheckFast.beforeL ops.toList 0 []) i q.1 = true ∨ Val E σ q.2 op v)
  (k : TD2 E n rnd ops l ⟨ms, (t, v) :: σ, hs⟩ past (⟨i, σ, v⟩ :: seen) fl Q) : TD2 E n rnd ops (i :: l) ⟨ms, σ, hs⟩ past seen fl Q := fun a S ps xs fs hi hpa hx hf => by
 obtain ⟨a1, hp, ha1⟩ := hi.act.put (d := some t) hd v
 have hv := h a.ev S hi.act.ev hi.mem ⟨some t, op, ty, pos, af, g⟩ rfl
 have hwn := hi.act.wanted (ops := ops) (o := ⟨some t, op, ty, pos, af, g⟩) hw;refine (k a1 S ps ((i, a, v) :: xs) fs ⟨ha1, hi.mem⟩ hpa (fun x hx' => ?_) hf).congr fun rec => ?_
 ·rcases List.mem_cons.1 hx' with rfl | hx'
  ·exact ⟨_, List.mem_cons_self, rfl, hi.act, rfl⟩
  ·obtain ⟨r, h1, h2⟩ := hx x hx'; exact ⟨r, List.mem_cons_of_mem _ h1, h2⟩
 obtain ⟨h1, h2⟩ := opVal_val (rec := rec) ho hwn hv
 have hdst : dstAt ops i = some t := by simp [dstAt, ho]
 have hall : ps.all (fun q => bitOf (CheckFast.beforeL ops.toList 0 []) i q.1 || agrees E ops q.2 (i, a, v)) = true := List.all_eq_true.2 fun p hp' => by
  obtain ⟨q, q1, q2, q3⟩ := hpa p hp';rw [q2]
  rcases hpst q q1 with h | h
  ·rw [h, Bool.true_or]
  ·have := Same'.agrees (n := n) (rnd := rnd) (ms := ms) hE (r := ⟨i, σ, v⟩) (x := (i, a, v)) ⟨_, ho, h⟩ ⟨rfl, hi.act, rfl⟩ q3;rw [this, Bool.or_true]
 simp only [drawSteps, h1, Except.bind, hdst, hp, h2, hk, hall, cond_true]
theorem TD2.heavy (hE : ∀ v, E.same.1 v v = true) {o : Oper} {K : AV → List Thing → Prop} (ho : ops[i]? = some o) (hk : 2 ≤ kindOf o) (hd : dstOk n o.dst = true) (hw : wantS ops σ o.guard = some true) (h : OpS E n rnd o ⟨ms, σ, hs⟩ K)
    (k : ∀ v hs', K v hs' → (∀ r ∈ seen, bitOf (CheckFast.beforeL ops.toList 0 []) i r.i = true ∨ Same' E ops hs' r) ∧ (∀ f ∈ fl, bitOf (CheckFast.beforeL ops.toList 0 []) i f.i = true ∨ Thing.obj f.id (.row f.cells f.u 0) ∈ hs') ∧
      TD2 E n rnd ops l ⟨ms, putS o.dst v σ, hs'⟩ ((i, hs) :: past) seen fl Q) : TD2 E n rnd ops (i :: l) ⟨ms, σ, hs⟩ past seen fl Q := fun a S ps xs fs hi hpa hx hf => by
  have hwn := hi.act.wanted (ops := ops) (o := o) hw
  obtain ⟨⟨v, S1⟩, ⟨m0, hm0⟩, hs', h1, h2⟩ := h a S hi
  obtain ⟨k1, k2, k3⟩ := k v hs' h2
  obtain ⟨a1, hp, ha1⟩ := hi.act.put hd v
  obtain ⟨y, ⟨m1, hm1⟩, hy⟩ := k3 a1 S1 ((i, S) :: ps) xs fs ⟨ha1, h1⟩ (fun p hp' => by
    rcases List.mem_cons.1 hp' with rfl | hp'
    · exact ⟨_, List.mem_cons_self, rfl, hi.mem⟩
    · obtain ⟨q, q1, q2⟩ := hpa p hp'; exact ⟨q, List.mem_cons_of_mem _ q1, q2⟩) hx hf
  refine ⟨y, ⟨max m0 m1, fun m hm => ?_⟩, hy⟩
  have hdst : dstAt ops i = o.dst := by simp [dstAt, ho]
  have e0 : opVal (run E m) E ops i a S = .ok (v, S1) := by
    have := hm0 m (by omega)
    unfold opVal
    rw [ho]
    simp only [hwn, cond_true]
    cases hop : aop E S a.ev o with
    | error e => rw [hop] at this; cases this
    | ok x =>
      rw [hop] at this
      obtain ⟨nx, S2⟩ := x
      cases nx <;> first | exact this | cases this
  have ek : kindAt ops i a = kindOf o := (opVal_on (E := E) (S := S) (rec := run E m) ho hwn).2
  have hk' : ∃ j, kindOf o = j + 2 := ⟨kindOf o - 2, by omega⟩
  obtain ⟨j, hj⟩ := hk'
  have all1 : xs.all (fun x => bitOf (CheckFast.beforeL ops.toList 0 []) i x.1 || agrees E ops S1 x) = true := List.all_eq_true.2 fun x hx' => by
    obtain ⟨r, r1, r2⟩ := hx x hx'
    rcases k1 r r1 with h | h
    · rw [r2.1, h, Bool.true_or]
    · rw [h.agrees hE r2 h1, Bool.or_true]
  have all2 : fs.all (fun f => bitOf (CheckFast.beforeL ops.toList 0 []) i f.1 || floatSame E S1 f) = true := List.all_eq_true.2 fun f hf' => by
    obtain ⟨q, q1, rfl⟩ := hf f hf'
    rcases k2 q q1 with h | h
    · simp only [h, Bool.true_or]
    · have hg : S1.heap.get q.id = some (.row q.cells q.u 0) := h1.ok _ h
      have hsame : allSame E.same.1 q.cells q.cells = true := by
        generalize q.cells = cs
        induction cs with
        | nil => rfl
        | cons c cs ih => simp only [allSame, hE, ih, Bool.and_self]
      have : floatSame E S1 (q.i, q.id, .row q.cells q.u 0) = true := by
        unfold floatSame
        simp only [hg, sameObj, hsame, Nat.beq_refl, Bool.and_self]
      rw [this, Bool.or_true]
  simp only [drawSteps, e0, Except.bind, hdst, hp, ek, hj, all1, all2, Bool.and_self, cond_true]
  exact hm1 m (by omega)
theorem OpS.eff {o : Oper} {K : AV → List Thing → Prop} (h : Eff E σ hs o.op K) : OpS E n rnd o ⟨ms, σ, hs⟩ K := fun a S hi => by
 obtain ⟨v, S', hs', h1, h2, h3⟩ := h a.ev S hi.act.ev hi.mem o rfl;rw [h1];exact .ok ⟨hs', h2, h3⟩
theorem OpS.call {o : Oper} {f : FuncId} {fn : Func} {xs : Array Operand} {ts : Array TypeId} {vs ds : List AV} {v : AV} {G : List AV → Option AV} (ho : o.op = .call { callee := .value (.func f), args := xs, argTypes := ts })
  (hx : evsL σ xs.toList = some vs) (hf : E.fn f = some fn) (hG : E.orc f = some G) (hr : ReifL 12 hs vs ds) (hg : G ds = some v) (hg0 : E.og f = [] := by rfl) : OpS E n rnd o ⟨ms, σ, hs⟩ (fun v' hs' => v' = v ∧ hs' = hs) := fun a S hi => by
 have e : aop E S a.ev o = .ok (.enter f vs, S) := by
  unfold aop;rw [ho];simp only [acall, AAct.ev, acallee, hf, ofOpt, Except.bind, List.nil_append, List.append_nil];rw [evsL_ok hi.act _ _ hx]
 rw [e];refine .pure (x := (v, S)) (fun rec => ?_) ⟨hs, hi.mem, rfl, rfl⟩;simp only [callA, hG, hr S hi.mem, hg, ofOpt, Except.bind, hg0, glbOk, List.all_nil, cond_true]
end
end Go.Am
end
section
namespace Go.Am
open Go.RowKit
set_option linter.unusedVariables false
set_option linter.unusedSimpArgs false
section
variable {E : Env} {d : Bool} {n : Nat} {rnd : Option Nat} {ops : Array Oper} {i : Nat} {ns : List Nat} {ms : List Dfr} {σ : Sl} {hs hs' : List Thing} {Q : Sy → Prop} {t : Tmp} {op : Op} {ty : TypeId} {pos : String} {af : Array Edge} {g : Option (Nat × Bool)}
theorem TF.mono {f : FuncId} {args : List AV} {K K' : AV → List Thing → Prop} (h : TF E f args hs K) (hk : ∀ v hs', K v hs' → K' v hs') : TF E f args hs K' :=
 fun S hS => (h S hS).mono fun r ⟨v, S', hs', h1, h2, h3⟩ => ⟨v, S', hs', h1, h2, hk _ _ h3⟩
theorem TF.sub {f : FuncId} {args : List AV} {K : AV → List Thing → Prop} (h : TF E f args hs' K) (hk : hs'.Sublist hs) : TF E f args hs K := fun S hS => h S (hS.sub hk)
theorem TF.perm {f : FuncId} {args : List AV} {K : AV → List Thing → Prop} (h : TF E f args hs' K) (hk : hs'.Perm hs) : TF E f args hs K := fun S hS => h S (hS.perm hk)
theorem T.perm {c : Code} {Q : Exit → Sy → Prop} (hk : hs'.Perm hs) (h : T E n rnd c ⟨ms, σ, hs'⟩ Q) : T E n rnd c ⟨ms, σ, hs⟩ Q := fun a S hi => h a S ⟨hi.act, hi.mem.perm hk⟩
theorem TO.perm {l : List Nat} (hk : hs'.Perm hs) (h : TO E d n rnd ops l ⟨ms, σ, hs'⟩ Q) : TO E d n rnd ops l ⟨ms, σ, hs⟩ Q := fun a S hi => h a S ⟨hi.act, hi.mem.perm hk⟩
theorem OpS.callV {o : Oper} {f : FuncId} {fn : Func} {x : Operand} {xs : Array Operand} {ts : Array TypeId} {vs first cap : List AV} {K : AV → List Thing → Prop} (ho : o.op = .call { callee := .value x, args := xs, argTypes := ts })
  (hc : evs σ x = some (.func f first cap)) (hx : evsL σ xs.toList = some vs) (hf : E.fn f = some fn) (hG : E.orc f = none) (h : TF E f (first ++ vs ++ cap) hs K) : OpS E n rnd o ⟨ms, σ, hs⟩ K := fun a S hi => by
 have e : aop E S a.ev o = .ok (.enter f (first ++ vs ++ cap), S) := by
  unfold aop;rw [ho];simp only [acall, hi.act.ev _ _ hc, acallee, hf, ofOpt, Except.bind];rw [evsL_ok hi.act _ _ hx]
 rw [e];obtain ⟨y, ⟨m0, hm⟩, v, S', hs', rfl, h2, h3⟩ := h S hi.mem;refine ⟨(v, S'), ⟨m0, fun m hm' => ?_⟩, hs', h2, h3⟩;simp only [callA, hG]
 have := hm m hm';simp only at this;rw [this];rfl
def TR (E : Env) (l : Nat) (args : List AV) (hs : List Thing) (K : AV → List Thing → Prop) : Prop :=
 ∀ S, HasS S hs → Evt E (fun rec => aRound rec S l args) fun r => ∃ hs', HasS r.2 hs' ∧ K r.1 hs'
theorem OpS.callY {o : Oper} {l : Nat} {x : Operand} {xs : Array Operand} {ts : Array TypeId} {vs : List AV} {K : AV → List Thing → Prop} (ho : o.op = .call { callee := .value x, args := xs, argTypes := ts })
  (hc : evs σ x = some (.yield l)) (hx : evsL σ xs.toList = some vs) (h : TR E l vs hs K) : OpS E n rnd o ⟨ms, σ, hs⟩ K := fun a S hi => by
 have e : aop E S a.ev o = .ok (.round l vs, S) := by
  unfold aop;rw [ho];simp only [acall, hi.act.ev _ _ hc, acallee];rw [evsL_ok hi.act _ _ hx]
 rw [e];exact h S hi.mem
theorem TO.callV {f : FuncId} {fn : Func} {x : Operand} {xs : Array Operand} {ts : Array TypeId} {vs first cap : List AV} {K : AV → List Thing → Prop} (ho : ops[i]? = some ⟨some t, .call { callee := .value x, args := xs, argTypes := ts }, ty, pos, af, g⟩)
  (hd : Nat.blt t n = true) (hw : wantS ops σ g = some true) (hc : evs σ x = some (.func f first cap)) (hx : evsL σ xs.toList = some vs) (hf : E.fn f = some fn) (hG : E.orc f = none) (h : TF E f (first ++ vs ++ cap) hs K)
  (k : ∀ v hs', K v hs' → TO E false n rnd ops ns ⟨ms, (t, v) :: σ, hs'⟩ Q) : TO E false n rnd ops (i :: ns) ⟨ms, σ, hs⟩ Q :=
 TO.cons_of (K := K) ho hd (fun a ha => ha.wanted hw) (OpS.callV rfl hc hx hf hG h) k
theorem TO.callIn {f : FuncId} {fn : Func} {x : Operand} {xs : Array Operand} {ts : Array TypeId} {vs first cap : List AV} (ho : ops[i]? = some ⟨some t, .call { callee := .value x, args := xs, argTypes := ts }, ty, pos, af, g⟩)
  (hd : Nat.blt t n = true) (hw : wantS ops σ g = some true) (hc : evs σ x = some (.func f first cap)) (hx : evsL σ xs.toList = some vs) (hf : E.fn f = some fn) (hG : E.orc f = none)
  (h : TF E f (first ++ vs ++ cap) hs fun v hs' => TO E false n rnd ops ns ⟨ms, (t, v) :: σ, hs'⟩ Q) : TO E false n rnd ops (i :: ns) ⟨ms, σ, hs⟩ Q :=
 TO.callV ho hd hw hc hx hf hG h fun _ _ h => h
theorem TO.callY {l : Nat} {x : Operand} {xs : Array Operand} {ts : Array TypeId} {vs : List AV} {K : AV → List Thing → Prop} (ho : ops[i]? = some ⟨some t, .call { callee := .value x, args := xs, argTypes := ts }, ty, pos, af, g⟩)
  (hd : Nat.blt t n = true) (hw : wantS ops σ g = some true) (hc : evs σ x = some (.yield l)) (hx : evsL σ xs.toList = some vs) (h : TR E l vs hs K)
  (k : ∀ v hs', K v hs' → TO E false n rnd ops ns ⟨ms, (t, v) :: σ, hs'⟩ Q) : TO E false n rnd ops (i :: ns) ⟨ms, σ, hs⟩ Q :=
 TO.cons_of (K := K) ho hd (fun a ha => ha.wanted hw) (OpS.callY rfl hc hx h) k
theorem Val.makeFunc {f : FuncId} {first cap : Array Operand} {vs ws : List AV} (h1 : evsL σ first.toList = some vs) (h2 : evsL σ cap.toList = some ws) : Val E σ hs (.makeFunc (.func f) first cap) (.func f vs ws) := fun ev S he _ o ho => by
 have key : ∀ (xs : List Operand) (vs : List AV), evsL σ xs = some vs → xs.map ev = vs := by
  intro xs
  induction xs with
  | nil => intro vs hv; cases hv; rfl
  | cons x xs ih =>
   intro vs hv;simp only [evsL] at hv;split at hv
   ·rename_i v r h1 h2
    cases hv;rw [List.map_cons, ih _ h2, he _ _ h1]
   ·cases hv
 unfold aop; rw [ho];simp only [amakeFunc, key _ _ h1, key _ _ h2, valOf, Except.bind];rfl
end
abbrev loopT (l n : Nat) (tm : Trie AV) (ps : List Tmp) (assign body : Code) (st : LoopState) (p : Option Code) (d : Nat) : Thing := .obj l (.loop n tm ps assign body st p d)
def HasT (tm : Trie AV) (σ : Sl) : Prop := ∀ t v, lk σ t = some v → (match tm.get t with | some v => v | none => undefA) = v
section
variable {E : Env} {n : Nat} {ms : List Dfr} {σ : Sl} {hs : List Thing}
def parS : List Tmp → List AV → Sl → Option Sl
 | [], [], σ => some σ
 | p :: ps, v :: vs, σ => parS ps vs ((p, v) :: σ)
 | _, _, _ => none
theorem parS_ok : ∀ (ps : List Tmp) (vs : List AV) (σ σ' : Sl) (tm : Trie AV), parS ps vs σ = some σ' → ps.all (fun p => Nat.blt p n) = true → HasT tm σ → ∃ t0, setTmps n ps vs tm = .ok t0 ∧ HasT t0 σ' := by
 intro ps
 induction ps with
 | nil =>
  intro vs σ σ' tm h _ ht;cases vs with
  | nil => cases h; exact ⟨tm, rfl, ht⟩
  | cons => cases h
 | cons p ps ih =>
  intro vs σ σ' tm h hp ht;cases vs with
  | nil => cases h
  | cons v vs =>
   simp only [List.all_cons, Bool.and_eq_true] at hp
   have ht' : HasT (tm.set p v) ((p, v) :: σ) := by
    intro t w hl;simp only [lk] at hl;rw [Trie.get_set];cases hb : Nat.beq p t with
    | true =>
     have := Nat.eq_of_beq_eq_true hb;subst this;simp only [hb, cond_true, Option.some.injEq] at hl;simp [hl]
    | false =>
     simp only [hb, cond_false] at hl;rw [if_neg (beq_false.1 hb)];exact ht t w hl
   obtain ⟨t0, h1, h2⟩ := ih vs _ σ' _ h hp.2 ht';refine ⟨t0, ?_, h2⟩;simp only [setTmps, hp.1, cond_true];exact h1
def RoundK (l n : Nat) (tm : Trie AV) (ps : List Tmp) (assign body : Code) (d p : Nat) (K : AV → List Thing → Prop) : Exit → Sy → Prop := fun e s =>
 (∃ pd, s.hs[p]? = some (loopT l n tm ps assign body .busy pd d)) ∧ ∃ j, jumpOf e = .ok j ∧ K (bv j.isNone) (s.hs.set p (loopT l n tm ps assign body (bif j.isNone then .ready else .done) j d))
def AssignK (E : Env) (l n : Nat) (tm : Trie AV) (ps : List Tmp) (assign body : Code) (d p : Nat) (K : AV → List Thing → Prop) : Exit → Sy → Prop := fun e s =>
 e = .normal ∧ (∃ pd, s.hs[p]? = some (loopT l n tm ps assign body .ready pd d) ∧ T E n (some l) body ⟨s.ms, s.sl, s.hs.set p (loopT l n tm ps assign body .busy pd d)⟩ (RoundK l n tm ps assign body d p K))
theorem loopState_ok {S : St} {hs : List Thing} (h : HasS S hs) {p l n d : Nat} {tm : Trie AV} {ps : List Tmp} {assign body : Code} {st : LoopState} {pd : Option Code} (hp : hs[p]? = some (loopT l n tm ps assign body st pd d)) (st' : LoopState) (j : Option (Option Code)) :
  ∃ S', loopState S l st' j = .ok S' ∧ HasS S' (hs.set p (loopT l n tm ps assign body st' (match j with | some j => j | none => pd) d)) := by
 have hg : S.heap.get l = some (.loop n tm ps assign body st pd d) := h.ok _ (List.mem_of_getElem? hp);refine ⟨_, by unfold loopState; rw [hg], ?_⟩;exact h.writeAt hp rfl rfl (by show (S.write l _).heap.get l = _; rw [write_get, if_pos rfl]; cases j <;> rfl)
theorem TR.round {l d p : Nat} {tm : Trie AV} {ps : List Tmp} {assign body : Code} {args : List AV} {σ' : Sl} {pd : Option Code} {K : AV → List Thing → Prop} (hp : hs[p]? = some (loopT l n tm ps assign body .ready pd d)) (ht : HasT tm σ)
  (hps : parS ps args σ = some σ') (hn : ps.all (fun p => Nat.blt p n) = true) (h : T E n (some l) assign ⟨[], σ', hs⟩ (AssignK E l n tm ps assign body d p K)) : TR E l args hs K := fun S hS => by
 have hg : S.heap.get l = some (.loop n tm ps assign body .ready pd d) := hS.ok _ (List.mem_of_getElem? hp);obtain ⟨t0, h1, h2⟩ := parS_ok ps args σ σ' tm hps hn ht
 have ha : HasA { n := n, tmps := t0, marks := [], rnd := some l } n (some l) [] σ' := ⟨rfl, rfl, rfl, h2⟩;obtain ⟨x, ⟨m0, hm0⟩, e, a1, S1, s1, rfl, hi1, rfl, pd1, hp1, hb⟩ := h _ S ⟨ha, hS⟩
 have hg1 : S1.heap.get l = some (.loop n tm ps assign body .ready pd1 d) := hi1.mem.ok _ (List.mem_of_getElem? hp1);obtain ⟨S2, hS2, hh2⟩ := loopState_ok hi1.mem hp1 .busy none;obtain ⟨y, ⟨m1, hm1⟩, e2, a2, S3, s3, rfl, hi3, ⟨pd3, hp3⟩, j, hj, hk⟩ := hb a1 S2 ⟨hi1.act, hh2⟩;obtain ⟨S4, hS4, hh4⟩ := loopState_ok hi3.mem hp3 (bif j.isNone then .ready else .done) (some j);refine ⟨(bv j.isNone, S4), ⟨max m0 m1, fun m hm => ?_⟩, _, hh4, hk⟩
 have k0 := hm0 m (by omega)
 have k1 := hm1 m (by omega);simp only at k0 k1
 have hst : stateOf S1 l = .ok .ready := by unfold stateOf; rw [hg1]
 simp only [aRound, hg, h1, Except.bind, k0, hst, mustBe, decide_true, cond_true, hS2, k1, hj, hS4]
def RangeK (n : Nat) (tm : Trie AV) (ps : List Tmp) (assign body : Code) (l d : Nat) (Q : Exit → List Thing → Prop) : AV → List Thing → Prop := fun _ hs' =>
 ∃ p st pd, hs'[p]? = some (loopT l n tm ps assign body st pd d) ∧ st ≠ .busy ∧ match pd with
  | none => Q .normal (hs'.eraseIdx p)
  | some c => ∃ e, jumpExit c = .ok e ∧ Q e (hs'.eraseIdx p)
theorem range_core {c : Code} {S2 : St} {l d f : Nat} {first cap : List AV} {tm : Trie AV} {ps : List Tmp} {assign body : Code} {Q : Exit → List Thing → Prop} {hs2 : List Thing} (hS2 : HasS S2 hs2)
  (h : TF E f (first ++ [AV.yield l] ++ cap) hs2 (RangeK n tm ps assign body l d Q)) : ∃ m0 S3 S4 v e hs', (∀ m, m0 ≤ m → run E m (.call f (first ++ [AV.yield l] ++ cap)) S2 = .ok (.ret v, S3)) ∧
   (∃ st, stateOf S3 l = .ok st ∧ st ≠ .busy) ∧ (∃ pd, pendingOf S3 l = .ok pd ∧ (match pd with | none => e = .normal | some c => jumpExit c = .ok e)) ∧ loopState S3 l .exhausted none = .ok S4 ∧ HasS S4 hs' ∧ Q e hs' := by
 obtain ⟨x, ⟨m0, hm⟩, v, S3, hs3, rfl, h3, p, st, pd, hp, hst, hq⟩ := h S2 hS2
 have hg : S3.heap.get l = some (.loop n tm ps assign body st pd d) := h3.ok _ (List.mem_of_getElem? hp);obtain ⟨S4, hS4, hh4⟩ := loopState_ok h3 hp .exhausted none
 have hh5 : HasS S4 (hs3.eraseIdx p) := by
  have := (pick_perm (loopT l n tm ps assign body .exhausted pd d) hp).2;exact (hh4.perm this.symm).sub (List.sublist_cons_self _ _)
 cases pd with
 | none => exact ⟨m0, S3, S4, v, .normal, _, hm, ⟨st, by unfold stateOf; rw [hg], hst⟩, ⟨none, by unfold pendingOf; rw [hg], rfl⟩, hS4, hh5, hq⟩
 | some c =>
  obtain ⟨e, he, hq⟩ := hq;exact ⟨m0, S3, S4, v, e, _, hm, ⟨st, by unfold stateOf; rw [hg], hst⟩, ⟨some c, by unfold pendingOf; rw [hg], he⟩, hS4, hh5, hq⟩
theorem HasA.hasT {a : AAct} {rnd : Option Nat} (h : HasA a n rnd ms σ) : HasT a.tmps σ := fun t v hl => h.get t v hl
theorem T.rangeFunc {x : Operand} {f : FuncId} {fn : Func} {first cap : List AV} {ps : Array Tmp} {assign body : Code} {Q : Exit → Sy → Prop} (hx : evs σ x = some (.func f first cap)) (hf : E.fn f = some fn)
  (h : ∀ l d tm, HasT tm σ → TF E f (first ++ [AV.yield l] ++ cap) (loopT l n tm ps.toList assign body .ready none d :: .obj d (.dfr true) :: hs) (RangeK n tm ps.toList assign body l d fun e hs' => Q e ⟨d :: ms, σ, hs'⟩)) :
  T E n none (.rangeFunc x ps assign body) ⟨ms, σ, hs⟩ Q := .of_step fun a S hi => by
 have h1 : HasS (S.new (.dfr true)) (.obj S.next (.dfr true) :: hs) := hi.mem.new _ (x := .obj S.next (.dfr true)) (by show (S.new _).heap.get S.next = _; rw [St.new_get, if_pos rfl]) fun i hi => by cases hi; rfl
 have h2 := h1.new (.loop a.n a.tmps ps.toList assign body .ready none S.next) (x := loopT (S.next + 1) a.n a.tmps ps.toList assign body .ready none S.next)
  (by show (St.new _ _).heap.get (S.next + 1) = _; rw [St.new_get, if_pos (show (S.new (.dfr true)).next = S.next + 1 from rfl)]) fun i hi => by cases hi; rfl
 have hn := hi.act.n;rw [hn] at h2;obtain ⟨m0, S3, S4, v, e, hs', k1, ⟨st, k2, k3⟩, ⟨pd, k4, k5⟩, k6, k7, k8⟩ := range_core (c := body) h2 (h (S.next + 1) S.next a.tmps hi.act.hasT);refine ⟨(.exit e { n := a.n, tmps := a.tmps, marks := S.next :: a.marks, rnd := a.rnd }, S4), ⟨m0, fun m hm => ?_⟩, e, _, S4, ⟨S.next :: ms, σ, hs'⟩, rfl, ⟨⟨hi.act.n, hi.act.rnd, by rw [hi.act.marks], hi.act.get⟩, k7⟩, k8⟩
 have hr := hi.act.rnd
 have hev := hi.act.ev _ _ hx
 have k1' := k1 m hm;rw [← hn] at *
 have hst : decide (st = .busy) = false := decide_eq_false k3;cases pd with
 | none =>
  subst k5;simp only [runCode, aRange, enterLoopA, hr, Except.bind, hev, hf, ofOpt, St.new] at k1' ⊢;simp only [k1', k2, mustBe, hst, Bool.not_false, cond_true, k4, k6, List.singleton_append]
 | some c =>
  simp only [runCode, aRange, enterLoopA, hr, Except.bind, hev, hf, ofOpt, St.new] at k1' ⊢;simp only [k1', k2, mustBe, hst, Bool.not_false, cond_true, k4, k6, List.singleton_append, k5]
end
section
variable {E : Env}
def LoadR (E : Env) (hs : List Thing) (t : TypeId) (pv v : AV) : Prop := ∀ S, HasS S hs → loadVarA E S t pv = .ok v
def ResL (E : Env) (σ : Sl) (hs : List Thing) : List ResultVar → List AV → Prop
 | [], [] => True
 | .tmp t :: rs, v :: vs => lk σ t = some v ∧ ResL E σ hs rs vs
 | .cell p t :: rs, v :: vs => (∃ pv, lk σ p = some pv ∧ LoadR E hs t pv v) ∧ ResL E σ hs rs vs
 | _, _ => False
def LeaveL : List Dfr → List Thing → List Thing → Prop
 | [], hs, hs' => hs' = hs
 | .mark m :: ms, hs, hs' => ∃ p, hs[p]? = some (.obj m (.dfr true)) ∧ LeaveL ms (hs.eraseIdx p) hs'
 | .call _ _ :: _, _, _ => False
def RetG (E : Env) (rs : List ResultVar) (K : AV → List Thing → Prop) : Exit → Sy → Prop := fun e s =>
 isEnd e = true ∧ ∃ hs', LeaveL s.ms s.hs hs' ∧ ∃ vs, ResL E s.sl hs' rs vs ∧ K (oneOrTuple vs) hs'
theorem leave_ok : ∀ {ms : List Dfr} {S : St} {hs hs' : List Thing}, HasS S hs → LeaveL ms hs hs' → ∃ S', leave S ms = .ok S' ∧ HasS S' hs' := by
 intro ms
 induction ms with
 | nil => intro S hs hs' h hl; cases hl; exact ⟨S, rfl, h⟩
 | cons m ms ih =>
  intro S hs hs' h hl;cases m with
  | call g args => exact hl.elim
  | mark m =>
  obtain ⟨p, hp, hl⟩ := hl
  have hg : S.heap.get m = some (.dfr true) := h.ok _ (List.mem_of_getElem? hp)
  have h1 := h.writeAt hp (y := .obj m (.dfr false)) (i := m) (o := .dfr false) rfl rfl (by show (S.write m _).heap.get m = _; rw [write_get, if_pos rfl])
  have h2 := (h1.perm (pick_perm (.obj m (.dfr false)) hp).2.symm).sub (List.sublist_cons_self _ _);obtain ⟨S', h3, h4⟩ := ih h2 hl;exact ⟨S', by simp only [leave, hg]; exact h3, h4⟩
theorem resL_ok {S : St} {a : AAct} {n : Nat} {rnd : Option Nat} {mk : List Dfr} {σ : Sl} {hs : List Thing} (h : HasA a n rnd mk σ) (hS : HasS S hs) : ∀ (rs : List ResultVar) (vs : List AV), ResL E σ hs rs vs → resultsOf E S a rs = .ok vs := by
 intro rs
 induction rs with
 | nil => intro vs hv; cases vs with | nil => rfl | cons => exact hv.elim
 | cons r rs ih =>
  intro vs hv;cases vs with
  | nil => cases r <;> exact hv.elim
  | cons v vs =>
   cases r with
   | tmp t =>
    obtain ⟨h1, h2⟩ := hv;simp only [resultsOf, ih _ h2, h.get _ _ h1, Except.bind]
   | cell p t =>
    obtain ⟨⟨pv, h1, h3⟩, h2⟩ := hv;simp only [resultsOf, h.get _ _ h1, h3 S hS, ih _ h2, Except.bind]
theorem TF.enterG {f : FuncId} {args : List AV} {fn : Func} {c : Code} {n : Nat} {K : AV → List Thing → Prop} {σ : Sl} {rs : List ResultVar} {hs : List Thing} (hf : E.fn f = some fn) (hb : fn.body = some c) (hn : args.length + (fn.ntmps - args.length) = n) (hσ : zipN 0 args = σ)
  (hr : fn.results.toList = rs) (h : T E n none c ⟨[], σ, hs⟩ (RetG E rs K)) (he0 : E.eff f = none := by rfl) : TF E f args hs K := by
 intro S hS;refine Evt.task ?_
 have ha : HasA (enterAct fn args) n none [] σ := by
  refine ⟨hn, rfl, rfl, fun t v hv => ?_⟩;rw [← hσ] at hv;simp only [enterAct, AAct.get, enter_get _ _ _ _ _ hv]
 obtain ⟨x, ⟨m0, hm⟩, e, a', S', s', rfl, hi, he, hs', hl, vs, hv, hk⟩ := h _ S ⟨ha, hS⟩;obtain ⟨S2, h2, h3⟩ := leave_ok hi.mem hl;refine ⟨(.ret (oneOrTuple vs), S2), ⟨m0, fun m hm' => ?_⟩, _, _, _, rfl, h3, hk⟩
 have hm := hm m hm';simp only at hm
 have h2' : leaveD (run E m) E a'.marks .returning S' = .ok (.returning, S2) := leaveD_of_leave (by rw [hi.act.marks]; exact h2);simp only [runStep, runCall, he0, hf, hb, ofOpt, Except.bind, hm, modeOf_end he, h2', hr, resL_ok hi.act h3 rs vs hv]
theorem LoadR.row {bt : TypeId} {hs : List Thing} {p id u off k : Nat} {cells : List AV} {v : AV} (hp : hs[p]? = some (.row id u cells)) (ht : Scalar E bt) (hk : cells.length = k) (hv : cells[off]? = some v) : LoadR E hs bt (.ptr id off k) v := fun S hS => by
 subst hk;obtain ⟨dd, h1, h2⟩ := ht
 have hlt := (List.getElem?_eq_some_iff.1 hv).1;obtain ⟨_, hl⟩ := hS.loadAll (hS.row hp);simp only [loadVarA, h1, ofOpt, Except.bind, h2, cond_false, readN, hl off 1 (by omega)];rw [List.drop_eq_getElem_cons hlt]
 have : cells[off] = v := by rw [List.getElem?_eq_getElem hlt] at hv; exact Option.some.inj hv
 simp only [List.take_succ_cons, List.take_zero, this]
theorem LoadR.rows {bt : TypeId} {hs : List Thing} {p id u off k m : Nat} {cells c : List AV} (hp : hs[p]? = some (.row id u cells)) (ht : Aggr E bt m) (hk : cells.length = k) (hv : (cells.drop off).take m = c) (hm : Nat.ble (off + m) k = true) : LoadR E hs bt (.ptr id off k) (.agg c) := fun S hS => by
 subst hk;obtain ⟨⟨dd, h1, h2⟩, h3, h4⟩ := ht
 have hm' := Nat.le_of_ble_eq_true hm;obtain ⟨_, hl⟩ := hS.loadAll (hS.row hp);simp only [loadVarA, h1, h3, ofOpt, Except.bind, h2, cond_true, readN, hl off m hm', hv]
end
end Go.Am
end
section
namespace Go.Am
open Go.RowKit
set_option linter.unusedVariables false
set_option linter.unusedSimpArgs false
section
variable {E : Env} {d : Bool} {n : Nat} {rnd : Option Nat} {ops : Array Oper} {i : Nat} {ns : List Nat} {ms : List Dfr} {σ : Sl} {hs hs' : List Thing} {Q : Sy → Prop} {t : Tmp} {op : Op} {ty : TypeId} {pos : String} {af : Array Edge} {g : Option (Nat × Bool)}
def IsAt {α : Type} (v : AV) (e : En α) (l : List α) (id : Nat) : Prop := ∃ ex, v = .slice id 0 (l.flatMap e.f).length ex l.length l.length
theorem TO.iaddr_ownL {α : Type} {en : En α} {l : List α} {st et p : Nat} {z : Bool} {v : AV} {x y : Operand} {j : Int} (ho : ops[i]? = some ⟨some t, .indexAddr st x y, ty, pos, af, g⟩) (hd : Nat.blt t n = true) (hw : wantS ops σ g = some true)
  (ht : SliceT E st et en.u) (hp : hs[p]? = some (ownL z v en l)) (hx : evs σ x = some v) (hy : evs σ y = some (iv j)) (hj : 0 ≤ j ∧ j < l.length)
  (c : ∀ id a, IsAt v en l id → l[j.toNat]? = some a → TO E d n rnd ops ns ⟨ms, (t, .ptr id (j.toNat * en.u) (l.flatMap en.f).length) :: σ, hs⟩ Q) : TO E d n rnd ops (i :: ns) ⟨ms, σ, hs⟩ Q :=
 TO.iaddr_own ho hd hw ht hp hx hy hj fun id ex h => c id _ ⟨ex, h⟩ (List.getElem?_eq_getElem (by omega))
theorem Val.load_ownL {α : Type} {en : En α} {l : List α} {bt : TypeId} {x : Operand} {p id k j : Nat} {z : Bool} {v w : AV} {a : α} (hp : hs[p]? = some (ownL z v en l)) (hv : IsAt v en l id) (ht : Scalar E bt) (hx : evs σ x = some (.ptr id (k * en.u + j) (l.flatMap en.f).length)) (ha : l[k]? = some a) (hw : (en.f a)[j]? = some w) : Val E σ hs (.load bt x) w := by
 obtain ⟨ex, hv⟩ := hv;refine Val.load_own hp hv ht hx ?_
 have hj : j < en.u := by rw [← en.len a]; exact (List.getElem?_eq_some_iff.1 hw).1
 rw [flat_get ha hj];exact hw
theorem own_set {α : Type} {en : En α} {l : List α} {z : Bool} {v : AV} {k : Nat} {a : α} : Thing.own z v en.u l.length ((l.set k a).flatMap en.f) = ownL z v en (l.set k a) := by
 simp only [ownL, List.length_set]
theorem TO.store_ownL {α : Type} {en : En α} {l : List α} {bt : TypeId} {x y : Operand} {p id k : Nat} {z : Bool} {v w : AV} (a : α) (ho : ops[i]? = some ⟨none, .store bt x y, ty, pos, af, g⟩) (hw : wantS ops σ g = some true)
  (hp : hs[p]? = some (ownL z v en l)) (hv : IsAt v en l id) (ht : E.siz bt = some en.u) (hu : en.u ≠ 0) (hx : evs σ x = some (.ptr id (k * en.u) (l.flatMap en.f).length)) (hy : evs σ y = some w) (hcv : cellsOf w = en.f a)
  (ho1 : (en.f a).all oneCell = true) (hk : k < l.length) (h : TO E false n rnd ops ns ⟨ms, σ, hs.set p (ownL z v en (l.set k a))⟩ Q) : TO E false n rnd ops (i :: ns) ⟨ms, σ, hs⟩ Q := by
 obtain ⟨ex, hv⟩ := hv;refine TO.store_own ho hw hp hv ht hx hy hcv (by rw [en.len]; exact Nat.beq_refl _) (beq_false.2 hu) ho1 ?_ (flat_set a hk) ?_
 ·rw [flat_len]
  have : (k + 1) * en.u ≤ l.length * en.u := Nat.mul_le_mul_right _ hk;rw [Nat.succ_mul] at this;exact this
 ·rw [own_set];exact h
theorem TO.pick {l : List Nat} {p : Nat} {x : Thing} (hp : hs[p]? = some x) (h : TO E d n rnd ops l ⟨ms, σ, x :: hs.eraseIdx p⟩ Q) : TO E d n rnd ops l ⟨ms, σ, hs⟩ Q := TO.perm (pick_perm x hp).1.symm h
theorem T.pick {c : Code} {Q : Exit → Sy → Prop} {p : Nat} {x : Thing} (hp : hs[p]? = some x) (h : T E n rnd c ⟨ms, σ, x :: hs.eraseIdx p⟩ Q) : T E n rnd c ⟨ms, σ, hs⟩ Q := T.perm (pick_perm x hp).1.symm h
theorem TF.pick {f : FuncId} {args : List AV} {K : AV → List Thing → Prop} {p : Nat} {x : Thing} (hp : hs[p]? = some x) (h : TF E f args (x :: hs.eraseIdx p) K) : TF E f args hs K := TF.perm h (pick_perm x hp).1.symm
theorem TF.things {f : FuncId} {args : List AV} {K : AV → List Thing → Prop} (he : hs = hs') (h : TF E f args hs' K) : TF E f args hs K := he ▸ h
theorem own_cell {S : St} {z : Bool} {v : AV} {u m : Nat} {cells : List AV} (h : Thing.ok S (.own z v u m cells)) : cellsOf v = [v] ∧ oneCell v = true := by
 rcases h with ⟨h0, h1, h2, h3⟩ | ⟨id, ex, h1, _⟩ <;> rw [h1] <;> exact ⟨rfl, rfl⟩
theorem TO.makeInts {st et : Nat} {x y : Operand} {m : Nat} {b : Nat} (ho : ops[i]? = some ⟨some t, .makeSlice st x y, ty, pos, af, g⟩) (hd : Nat.blt t n = true) (hw : wantS ops σ g = some true)
  (ht : SliceT E st et 1) (hb : E.byt et = some b) (hz : E.zro et = some (.int .i64 0)) (hx : evs σ x = some (iv m)) (hy : evs σ y = some (iv m)) (hm : m < 4611686018427387904) (hbm : (b : Int) * m ≤ 281474976710656)
  (c : ∀ v', TO E false n rnd ops ns ⟨ms, (t, v') :: σ, ownL false v' encI (List.replicate m 0) :: hs⟩ Q) : TO E false n rnd ops (i :: ns) ⟨ms, σ, hs⟩ Q := by
 have key : ∀ m : Nat, repeatL (zeroCells (.int .i64 0)) m = (List.replicate m (0 : Int)).flatMap encI.f := by
  intro m
  induction m with
  | zero => rfl
  | succ m ih => rw [repeatL, ih, List.replicate_succ, List.flatMap_cons]; rfl
 have hzs : zerosOf E et 1 m = .ok ((List.replicate m (0 : Int)).flatMap encI.f) := by
  unfold zerosOf
  by_cases h0 : m = 0
  ·subst h0; rfl
  ·have e : Nat.beq (m * 1) 0 = false := beq_false.2 (by omega);rw [e];simp only [cond_false, hz, ofOpt, Except.bind]
   show (bif Nat.beq (zeroCells (.int .i64 0)).length 1 then _ else _) = _;rw [key];rfl
 refine TO.cons_of (K := fun v' hs' => hs' = ownL false v' encI (List.replicate m 0) :: hs) ho hd (fun a ha => ha.wanted hw) (fun a S hi => ?_) (fun v' hs' e => by subst e; exact c v')
 have b1 : decide ((0 : Int) ≤ (m : Int)) = true := decide_eq_true (by omega)
 have b2 : decide ((m : Int) ≤ (m : Int)) = true := decide_eq_true (by omega)
 have p62 : (2 : Int) ^ 62 = 4611686018427387904 := by decide
 have p48 : (2 : Int) ^ 48 = 281474976710656 := by decide
 have b3 : decide ((m : Int) < 2 ^ 62) = true := decide_eq_true (by omega)
 have b4 : decide ((b : Int) * (m : Int) ≤ 2 ^ 48) = true := decide_eq_true (by rw [p48]; exact hbm)
 have hl : ((List.replicate m (0 : Int)).flatMap encI.f).length = m := by rw [flat_len]; simp [encI]
 have e : aop E S a.ev ⟨some t, .makeSlice st x y, ty, pos, af, g⟩ = .ok (.val (.slice S.next 0 ((List.replicate m (0 : Int)).flatMap encI.f).length true m m), S.new (.row ((List.replicate m (0 : Int)).flatMap encI.f) 1 0)) := by
  simp only [aop, hi.act.ev _ _ hx, hi.act.ev _ _ hy, amakeSlice, ht.1, ht.2, hb, ofOpt, Except.bind, b1, b2, b3, b4, Bool.and_self, cond_true, Int.toNat_natCast, hzs, newSliceA, newOf]
 rw [e];refine .ok ⟨_, hi.mem.new _ (x := ownL false (.slice S.next 0 ((List.replicate m (0 : Int)).flatMap encI.f).length true m m) encI (List.replicate m 0)) (.inr ⟨S.next, true, ?_, ?_, (fun h => by cases h), 0, Nat.zero_le _, ?_⟩) (fun i hi => by cases hi; rfl), rfl⟩
 ·rw [List.length_replicate]
 ·rw [flat_len]
 ·rw [St.new_get, if_pos rfl]; rfl
end
end Go.Am
end
section
namespace Go.Am
open Go.RowKit
set_option linter.unusedVariables false
set_option linter.unusedSimpArgs false
noncomputable def findIx (k : Value) : List MapEntry → Nat → Option (Nat × Value)
 | [], _ => none
 | e :: es, i => @ite _ (e.key = k) (Classical.propDecidable _) (some (i, e.val)) (findIx k es (i + 1))
def KeyG (P : Program) (kt : TypeId) (KP : Value → Prop) : Prop := ∀ k, KP k → (∀ e, pureVal P (Instr.checkKey e 10000 kt k) = some ()) ∧ Instr.sameBits 10000 k k = true ∧
 ∀ es : List MapEntry, (∀ e ∈ es, KP e.key) → pureVal P (Instr.findKey kt k es) = some (findIx k es 0)
abbrev ents (l : List (Value × Int × Nat)) : List (Value × AV × Nat) := l.map fun e => (e.1, .lit (.int .i64 e.2.1), e.2.2)
theorem findIx_spec {k : Value} : ∀ (l : List (Value × Int × Nat)) (i : Nat), (l.map (·.1)).Nodup → (∃ j e, findIx k (keysOf (ents l)) i = some (i + j, undef) ∧ l[j]? = some e ∧ e.1 = k ∧ lkp l k = e.2.1) ∨ (findIx k (keysOf (ents l)) i = none ∧ (∀ e ∈ l, e.1 ≠ k) ∧ lkp l k = 0) := by
  intro l
  induction l with
  | nil => intro i _; exact .inr ⟨rfl, by simp, rfl⟩
  | cons e l ih =>
    intro i hn
    rw [List.map_cons] at hn
    have hn' := List.nodup_cons.1 hn
    simp only [ents, keysOf, List.map_cons, findIx, lkp]
    by_cases he : e.1 = k
    · refine .inl ⟨0, e, ?_, rfl, he, ?_⟩
      · rw [if_pos he]; rfl
      · rw [if_pos he]
    · rw [if_neg he, if_neg he]
      rcases ih (i + 1) hn'.2 with ⟨j, e', h1, h2, h3, h4⟩ | ⟨h1, h2, h3⟩
      · exact .inl ⟨j + 1, e', by rw [show i + (j + 1) = i + 1 + j by omega]; exact h1, by simpa using h2, h3, h4⟩
      · exact .inr ⟨h1, fun x hx => by
          rcases List.mem_cons.1 hx with rfl | hx
          · exact he
          · exact h2 x hx, h3⟩
theorem findAt_spec {E : Env} {kt : TypeId} {KP : Value → Prop} (hK : KeyG E.P kt KP) {k : Value} (hk : KP k) {l : List (Value × Int × Nat)} (hl : ∀ e ∈ l, KP e.1) (hn : (l.map (·.1)).Nodup) (em : Bool) :
    (∃ j e, findAt E kt k (ents l) em = .ok (some j) ∧ l[j]? = some e ∧ e.1 = k ∧ lkp l k = e.2.1) ∨ (findAt E kt k (ents l) em = .ok none ∧ (∀ e ∈ l, e.1 ≠ k) ∧ lkp l k = 0) := by
  obtain ⟨h1, h2, h3⟩ := hK k hk
  have h4 := h3 (keysOf (ents l)) (by
    intro e he
    simp only [keysOf, ents, List.map_map, List.mem_map] at he
    obtain ⟨x, hx, rfl⟩ := he
    exact hl x hx)
  unfold findAt
  rw [h1 em]
  simp only [ofOpt, Except.bind, h4]
  rcases findIx_spec l 0 hn with ⟨j, e, k1, k2, k3, k4⟩ | ⟨k1, k2, k3⟩
  · exact .inl ⟨j, e, by rw [k1]; simp, k2, k3, k4⟩
  · exact .inr ⟨by rw [k1]; rfl, k2, k3⟩
section
variable {E : Env} {d : Bool} {n : Nat} {rnd : Option Nat} {ops : Array Oper} {i : Nat} {ns : List Nat} {ms : List Dfr} {σ : Sl} {hs hs' : List Thing} {Q : Sy → Prop} {t : Tmp} {op : Op} {ty : TypeId} {pos : String} {af : Array Edge} {g : Option (Nat × Bool)}
variable {KP : Value → Prop} {f : Value → Int} {mk : List (Value × Nat)}
theorem Val.lookup {mt kt et p id : Nat} {x y : Operand} {kv : AV} {key : Value} (hp : hs[p]? = some (.cnt id KP f mk)) (ht : E.und mt = some (.map kt et)) (hK : KeyG E.P kt KP) (hz : E.zro et = some (.int .i64 0)) (hx : evs σ x = some (.map id)) (hy : evs σ y = some kv)
  (hkv : toV 4 kv = .ok key) (hk : KP key) : Val E σ hs (.lookup mt x y false) (iv (f key)) := fun ev S he hS o ho => by
 obtain ⟨l, c, h1, h2, h3, h4, h5, h6⟩ : IsCnt S id KP f mk := hS.ok _ (List.mem_of_getElem? hp);unfold aop; rw [ho];simp only [he _ _ hx, he _ _ hy, alookup, ht, ofOpt, Except.bind, entriesOf, mapOf, h1, hkv]
 rcases findAt_spec hK hk (fun e he => (h2 e he).1) h3 (ents l).isEmpty with ⟨j, e, k1, k2, k3, k4⟩ | ⟨k1, k2, k3⟩
 ·simp only [k1, List.getElem?_map, k2, Option.map_some, cond_false, h5, k4];rfl
 ·simp only [k1, hz, cond_false, h5, k3];rfl
theorem setAt_ents (l : List (Value × Int × Nat)) (j : Nat) (e : Value × Int × Nat) : setAt (ents l) j (e.1, .lit (.int .i64 e.2.1), e.2.2) = ents (setAt l j e) := by
 induction l generalizing j with
 | nil => rfl
 | cons a l ih =>
  cases j with
  | zero => rfl
  | succ j => exact congrArg (List.cons _) (ih j)
theorem setAt_map {α β : Type} (g : α → β) : ∀ (l : List α) (j : Nat) (e e' : α), l[j]? = some e → g e' = g e → (setAt l j e').map g = l.map g := by
 intro l
 induction l with
 | nil => intro j e e' h; simp at h
 | cons a l ih =>
  intro j e e' h hg;cases j with
  | zero => simp at h; subst h; simp [setAt, hg]
  | succ j => simp at h; simp [setAt, ih j e e' h hg]
theorem setAt_mem {α : Type} : ∀ {l : List α} {j : Nat} {e x : α}, x ∈ setAt l j e → x = e ∨ x ∈ l := by
 intro l
 induction l with
 | nil => intro j e x h; simp [setAt] at h
 | cons a l ih =>
  intro j e x h;cases j with
  | zero => simp [setAt] at h; rcases h with h | h; exact .inl h; exact .inr (by simp [h])
  | succ j =>
   simp [setAt] at h
   rcases h with h | h
   ·exact .inr (by simp [h])
   ·exact (ih h).imp id fun h => by simp [h]
theorem setAt_memOf {α : Type} : ∀ {l : List α} {j : Nat} {e e' : α}, l[j]? = some e → e' ∈ setAt l j e' := by
 intro l
 induction l with
 | nil => intro j e e' h; simp at h
 | cons a l ih =>
  intro j e e' h;cases j with
  | zero => simp [setAt]
  | succ j => simp at h; simp [setAt, ih h]
theorem lkp_setAt {k : Value} {m : Int} : ∀ {l : List (Value × Int × Nat)} {j : Nat} {e : Value × Int × Nat}, l[j]? = some e → e.1 = k → (l.map (·.1)).Nodup → ∀ k', lkp (setAt l j (k, m, e.2.2)) k' = @ite _ (k' = k) (Classical.propDecidable _) m (lkp l k') := by
 intro l
 induction l with
 | nil => intro j e h; simp at h
 | cons a l ih =>
  intro j e h hek hn k';rw [List.map_cons] at hn
  have hn' := List.nodup_cons.1 hn;cases j with
  | zero =>
   simp at h;subst h;simp only [setAt, lkp]
   by_cases hk' : k' = k
   ·subst hk'; rw [if_pos rfl, if_pos rfl]
   ·have h1 : ¬ k = k' := fun e => hk' e.symm
    have h2 : ¬ a.1 = k' := fun e => hk' (by rw [← e, hek])
    rw [if_neg h1, if_neg hk', if_neg h2]
  | succ j =>
   simp at h;simp only [setAt, lkp]
   have hne : ¬ a.1 = k := fun e0 => hn'.1 (by rw [e0, ← hek]; exact List.mem_map_of_mem (List.mem_of_getElem? h))
   rw [ih h hek hn'.2 k']
   by_cases ha : a.1 = k'
   ·have : ¬ k' = k := fun e => hne (ha.trans e)
    rw [if_pos ha, if_neg this, if_pos ha]
   ·rw [if_neg ha, if_neg ha]
theorem lkp_append {k : Value} {m : Int} {c : Nat} : ∀ {l : List (Value × Int × Nat)}, (∀ e ∈ l, e.1 ≠ k) → ∀ k', lkp (l ++ [(k, m, c)]) k' = @ite _ (k' = k) (Classical.propDecidable _) m (lkp l k') := by
 intro l
 induction l with
 | nil =>
  intro _ k';simp only [List.nil_append, lkp]
  by_cases h : k' = k
  ·subst h; simp
  ·have : ¬ k = k' := fun e => h e.symm
   simp [this, h]
 | cons a l ih =>
  intro h k'
  have ha := h a (by simp);simp only [List.cons_append, lkp];rw [ih (fun e he => h e (by simp [he])) k']
  by_cases h1 : a.1 = k'
  ·have : ¬ k' = k := fun e => ha (h1.trans e)
   rw [if_pos h1, if_neg this, if_pos h1]
  ·rw [if_neg h1, if_neg h1]
noncomputable def cput (f : Value → Int) (k : Value) (m : Int) : Value → Int := fun k' => @ite _ (k' = k) (Classical.propDecidable _) m (f k')
theorem isCnt_set {S : St} {id : Nat} {l : List (Value × Int × Nat)} {c j : Nat} {e : Value × Int × Nat} {k : Value} {m : Int} (h2 : ∀ e ∈ l, KP e.1 ∧ e.2.2 < c) (h3 : (l.map (·.1)).Nodup) (h4 : (l.map (·.2.2)).Nodup) (h5 : ∀ k, f k = lkp l k)
  (hj : l[j]? = some e) (he : e.1 = k) : IsCnt (S.write id (.map (ents (setAt l j (k, m, e.2.2))) c)) id KP (cput f k m) [] := by
 refine ⟨setAt l j (k, m, e.2.2), c, by rw [write_get, if_pos rfl], fun x hx => ?_, ?_, ?_, fun k' => ?_, fun p hp => by simp at hp⟩
 ·rcases setAt_mem hx with rfl | hx
  ·have := h2 e (List.mem_of_getElem? hj);rw [he] at this;exact this
  ·exact h2 x hx
 ·rw [setAt_map (·.1) l j e _ hj he.symm]; exact h3
 ·rw [setAt_map (·.2.2) l j e (k, m, e.2.2) hj rfl]; exact h4
 ·rw [lkp_setAt hj he h3]; simp only [cput, h5]
theorem isCnt_append {S : St} {id : Nat} {l : List (Value × Int × Nat)} {c : Nat} {k : Value} {m : Int} (hk : KP k) (h2 : ∀ e ∈ l, KP e.1 ∧ e.2.2 < c) (h3 : (l.map (·.1)).Nodup) (h4 : (l.map (·.2.2)).Nodup) (h5 : ∀ k, f k = lkp l k)
  (hne : ∀ e ∈ l, e.1 ≠ k) : IsCnt (S.write id (.map (ents (l ++ [(k, m, c)])) (c + 1))) id KP (cput f k m) [(k, c)] := by
 refine ⟨l ++ [(k, m, c)], c + 1, by rw [write_get, if_pos rfl], fun x hx => ?_, ?_, ?_, fun k' => ?_, fun p hp => ?_⟩
 ·rcases List.mem_append.1 hx with hx | hx
  ·exact ⟨(h2 x hx).1, by have := (h2 x hx).2; omega⟩
  ·simp at hx; subst hx; exact ⟨hk, Nat.lt_succ_self c⟩
 ·rw [List.map_append, List.nodup_append];refine ⟨h3, by simp, fun a ha b hb => ?_⟩;obtain ⟨x, hx, rfl⟩ := List.mem_map.1 ha;simp at hb;subst hb;exact hne x hx
 ·rw [List.map_append, List.nodup_append];refine ⟨h4, by simp, fun a ha b hb => ?_⟩;obtain ⟨x, hx, rfl⟩ := List.mem_map.1 ha;simp at hb;subst hb
  have := (h2 x hx).2;omega
 ·rw [lkp_append hne]; simp only [cput, h5]
 ·simp at hp; subst hp; exact ⟨m, by simp⟩
theorem IsCnt.less {S : St} {id : Nat} (h : IsCnt S id KP f mk) : IsCnt S id KP f [] := by
 obtain ⟨l, c, h1, h2, h3, h4, h5, h6⟩ := h;exact ⟨l, c, h1, h2, h3, h4, h5, fun p hp => by simp at hp⟩
theorem ents_append (l : List (Value × Int × Nat)) (k : Value) (m : Int) (c : Nat) : ents l ++ [(k, .lit (.int .i64 m), c)] = ents (l ++ [(k, m, c)]) := by simp [ents]
theorem Eff.mapUpdate {mt kt et p id : Nat} {x y z : Operand} {kv : AV} {key : Value} {m : Int} (hp : hs[p]? = some (.cnt id KP f mk)) (ht : E.und mt = some (.map kt et)) (hK : KeyG E.P kt KP) (hx : evs σ x = some (.map id)) (hy : evs σ y = some kv)
  (hkv : toV 4 kv = .ok key) (hk : KP key) (hv : evs σ z = some (iv m)) : Eff E σ hs (.mapUpdate mt x y z) fun _ hs' => hs' = hs.set p (.cnt id KP (cput f key m) []) := fun ev S he hS o ho => by
 obtain ⟨l, c, h1, h2, h3, h4, h5, h6⟩ : IsCnt S id KP f mk := hS.ok _ (List.mem_of_getElem? hp)
 have hb := (hK key hk).2.1
 rcases findAt_spec hK hk (fun e he => (h2 e he).1) h3 false with ⟨j, e, k1, k2, k3, k4⟩ | ⟨k1, k2, k3⟩
 ·refine ⟨undefA, S.write id (.map (ents (setAt l j (key, m, e.2.2))) c), _, ?_, hS.writeAt hp (y := .cnt id KP (cput f key m) []) (i := id) rfl rfl (isCnt_set h2 h3 h4 h5 k2 k3), rfl⟩;unfold aop; rw [ho];simp only [he _ _ hx, he _ _ hy, he _ _ hv, aupdate, ht, ofOpt, Except.bind, mapOf, h1, hkv, k1, List.getElem?_map, k2, Option.map_some, k3, hb, cond_true];rw [← setAt_ents l j (key, m, e.2.2)];rfl
 ·refine ⟨undefA, S.write id (.map (ents (l ++ [(key, m, c)])) (c + 1)), _, ?_, hS.writeAt hp (y := .cnt id KP (cput f key m) []) (i := id) rfl rfl (isCnt_append hk h2 h3 h4 h5 k2).less, rfl⟩;unfold aop; rw [ho];simp only [he _ _ hx, he _ _ hy, he _ _ hv, aupdate, ht, ofOpt, Except.bind, mapOf, h1, hkv, k1];rw [← ents_append];rfl
theorem findBorn_spec {k : Value} {n : Int} {b : Nat} : ∀ (l : List (Value × Int × Nat)) (i : Nat), (l.map (·.2.2)).Nodup → (k, n, b) ∈ l → ∃ j, findBorn (b : Int) (ents l) i = some (i + j) ∧ l[j]? = some (k, n, b) := by
 intro l
 induction l with
 | nil => intro i _ h; simp at h
 | cons e l ih =>
  intro i hn h;rw [List.map_cons] at hn
  have hn' := List.nodup_cons.1 hn;simp only [ents, List.map_cons, findBorn]
  rcases List.mem_cons.1 h with rfl | h
  ·refine ⟨0, ?_, rfl⟩;simp
  ·have hne : ¬ e.2.2 = b := fun e0 => hn'.1 (by rw [e0]; exact List.mem_map.2 ⟨_, h, rfl⟩)
   have h1 : (((e.2.2 : Nat) : Int) == (b : Int)) = false := by simp; omega
   obtain ⟨j, h2, h3⟩ := ih (i + 1) hn'.2 h;refine ⟨j + 1, ?_, by simpa using h3⟩;rw [h1];rw [show i + (j + 1) = i + 1 + j by omega];exact h2
theorem Eff.mapEntry {mt kt et p id : Nat} {x y : Operand} {kv : AV} {key : Value} (hp : hs[p]? = some (.cnt id KP f mk)) (ht : E.und mt = some (.map kt et)) (hK : KeyG E.P kt KP) (hz : E.zro et = some (.int .i64 0)) (hx : evs σ x = some (.map id)) (hy : evs σ y = some kv)
  (hkv : toV 4 kv = .ok key) (hk : KP key) : Eff E σ hs (.mapEntry mt x y) fun v hs' => ∃ b : Nat, v = .tuple [iv (f key), iv b] ∧ hs' = hs.set p (.cnt id KP f [(key, b)]) := fun ev S he hS o ho => by
 obtain ⟨l, c, h1, h2, h3, h4, h5, h6⟩ : IsCnt S id KP f mk := hS.ok _ (List.mem_of_getElem? hp)
 have hb := (hK key hk).2.1
 rcases findAt_spec hK hk (fun e he => (h2 e he).1) h3 false with ⟨j, e, k1, k2, k3, k4⟩ | ⟨k1, k2, k3⟩
 ·have hcp : cput f key e.2.1 = f := by
   funext k'
   by_cases hk' : k' = key
   ·simp only [cput]; rw [if_pos hk', hk', h5, k4]
   ·simp only [cput]; rw [if_neg hk']
  obtain ⟨l', c', q1, q2, q3, q4, q5, q6⟩ := isCnt_set (S := S) (id := id) (f := f) (m := e.2.1) h2 h3 h4 h5 k2 k3;refine ⟨_, S.write id (.map (ents (setAt l j (key, e.2.1, e.2.2))) c), _, ?_, hS.writeAt hp (y := .cnt id KP f [(key, e.2.2)]) (i := id) rfl rfl ⟨setAt l j (key, e.2.1, e.2.2), c, by rw [write_get, if_pos rfl], ?_, ?_, ?_, ?_, ?_⟩, e.2.2, rfl, rfl⟩
  ·unfold aop; rw [ho];simp only [he _ _ hx, he _ _ hy, aentry, ht, ofOpt, Except.bind, mapOf, h1, hkv, k1, List.getElem?_map, k2, Option.map_some, k3, hb, cond_true];rw [← setAt_ents l j (key, e.2.1, e.2.2), h5, k4];rfl
  ·intro x hx
   rcases setAt_mem hx with rfl | hx
   ·have := h2 e (List.mem_of_getElem? k2);rw [k3] at this;exact this
   ·exact h2 x hx
  ·rw [setAt_map (·.1) l j e _ k2 k3.symm]; exact h3
  ·rw [setAt_map (·.2.2) l j e (key, e.2.1, e.2.2) k2 rfl]; exact h4
  ·intro k';rw [lkp_setAt k2 k3 h3, ← hcp];simp only [cput, h5]
  ·intro q hq;simp at hq;subst hq;exact ⟨e.2.1, setAt_memOf k2⟩
 ·have hcp : cput f key 0 = f := by
   funext k'
   by_cases hk' : k' = key
   ·simp only [cput]; rw [if_pos hk', hk', h5, k3]
   ·simp only [cput]; rw [if_neg hk']
  refine ⟨_, S.write id (.map (ents (l ++ [(key, 0, c)])) (c + 1)), _, ?_, hS.writeAt hp (y := .cnt id KP f [(key, c)]) (i := id) rfl rfl (by rw [← hcp]; exact isCnt_append hk h2 h3 h4 h5 k2), c, rfl, rfl⟩;unfold aop; rw [ho];simp only [he _ _ hx, he _ _ hy, aentry, ht, ofOpt, Except.bind, mapOf, h1, hkv, k1, hz];rw [← ents_append, h5, k3];rfl
theorem Eff.entryStore {mt p id b : Nat} {x y z : Operand} {key : Value} {m : Int} (hp : hs[p]? = some (.cnt id KP f mk)) (hm : (key, b) ∈ mk) (hx : evs σ x = some (.map id)) (hy : evs σ y = some (iv b))
  (hv : evs σ z = some (iv m)) : Eff E σ hs (.entryStore mt x y z) fun _ hs' => hs' = hs.set p (.cnt id KP (cput f key m) []) := fun ev S he hS o ho => by
 obtain ⟨l, c, h1, h2, h3, h4, h5, h6⟩ : IsCnt S id KP f mk := hS.ok _ (List.mem_of_getElem? hp);obtain ⟨n0, hn0⟩ := h6 _ hm;obtain ⟨j, k1, k2⟩ := findBorn_spec l 0 h4 hn0;rw [Nat.zero_add] at k1;refine ⟨undefA, S.write id (.map (ents (setAt l j (key, m, b))) c), _, ?_, hS.writeAt hp (y := .cnt id KP (cput f key m) []) (i := id) rfl rfl (isCnt_set (e := (key, n0, b)) h2 h3 h4 h5 k2 rfl), rfl⟩;unfold aop; rw [ho];simp only [he _ _ hx, he _ _ hy, he _ _ hv, aentryStore, ofOpt, Except.bind, mapOf, h1, intOf?, k1, List.getElem?_map, k2, Option.map_some];rw [← setAt_ents l j (key, m, b)];rfl
theorem TO.makeMap {mt : Nat} (KP : Value → Prop) (ho : ops[i]? = some ⟨some t, .makeMap mt none, ty, pos, af, g⟩) (hd : Nat.blt t n = true) (hw : wantS ops σ g = some true)
  (c : ∀ id, TO E false n rnd ops ns ⟨ms, (t, .map id) :: σ, .cnt id KP (fun _ => 0) [] :: hs⟩ Q) : TO E false n rnd ops (i :: ns) ⟨ms, σ, hs⟩ Q := by
 refine TO.eff (K := fun v hs' => ∃ id, v = .map id ∧ hs' = .cnt id KP (fun _ => 0) [] :: hs) ho hd hw (fun ev S he hS o ho => ?_) (fun v hs' ⟨id, h1, h2⟩ => by subst h1; subst h2; exact c id);refine ⟨_, S.new (.map [] 0), _, ?_, hS.new _ (x := .cnt S.next KP (fun _ => 0) []) ⟨[], 0, by rw [St.new_get, if_pos rfl]; rfl, by simp, by simp, by simp, fun k => rfl, by simp⟩ (fun i hi => by cases hi; rfl), S.next, rfl, rfl⟩;unfold aop; rw [ho];rfl
end
end Go.Am
end
section
namespace Go.Am
open Go.RowKit
set_option linter.unusedVariables false
set_option linter.unusedSimpArgs false
theorem all_nil {α : Type} {p : α → Prop} : ∀ x ∈ ([] : List α), p x := fun _ h => absurd h (by simp)
theorem all_cons {α : Type} {p : α → Prop} {a : α} {l : List α} (h : p a) (hl : ∀ x ∈ l, p x) : ∀ x ∈ a :: l, p x := fun x hx => by
 rcases List.mem_cons.1 hx with rfl | hx
 ·exact h
 ·exact hl x hx
section
variable {E : Env} {d : Bool} {n : Nat} {rnd : Option Nat} {ops : Array Oper} {i : Nat} {l l1 l2 : List Nat} {ms : List Dfr} {σ : Sl} {hs hs' : List Thing} {Q : Sy → Prop} {t : Tmp} {op : Op} {ty : TypeId} {pos : String} {af : Array Edge} {g : Option (Nat × Bool)}
variable {past : List (Nat × List Thing)} {seen : List Rd} {fl : List Fl}
theorem TD2.things (he : hs = hs') (h : TD2 E n rnd ops l ⟨ms, σ, hs'⟩ past seen fl Q) : TD2 E n rnd ops l ⟨ms, σ, hs⟩ past seen fl Q := he ▸ h
theorem TD1.things (he : hs = hs') (h : TD1 E n rnd ops l1 l2 ⟨ms, σ, hs'⟩ seen fl Q) : TD1 E n rnd ops l1 l2 ⟨ms, σ, hs⟩ seen fl Q := he ▸ h
theorem Val.index_gs {α : Type} {enc : En α} {gs : GS enc} {st e : TypeId} {x y : Operand} {k : Int} (ht : SliceT E st e enc.u) (hx : evs σ x = some gs.v) (hy : evs σ y = some (iv k)) (hk : 0 ≤ k ∧ k < gs.l.length) :
  ∃ a rest, gs.l[k.toNat]? = some a ∧ Val E σ hs (.indexAddr st x y) (.tptr (enc.f a ++ rest)) := by
 have hlt : k.toNat < gs.l.length := by omega
 have hr := flat_drop (enc := enc) gs.l k.toNat gs.l[k.toNat] (List.getElem?_eq_getElem hlt);refine ⟨gs.l[k.toNat], (gs.l.drop (k.toNat + 1)).flatMap enc.f, List.getElem?_eq_getElem hlt, fun ev S he _ o ho => ?_⟩
 rcases gs.ok with ⟨h1, h2, h3⟩ | ⟨h1, h2⟩
 ·omega
 ·unfold aop; rw [ho]
  have e1 : decide (0 ≤ k) = true := decide_eq_true hk.1
  have e2 : decide (k < (gs.l.length : Int)) = true := decide_eq_true hk.2;simp only [he _ _ hx, he _ _ hy, h1, aindexAddr, intOf?, ht.1, ht.2, ofOpt, Except.bind, e1, e2, Bool.and_self, cond_true, valOf, hr];rfl
theorem TD1.index_gs {α : Type} {enc : En α} {gs : GS enc} {st e : TypeId} {x y : Operand} {k : Int} (ho : ops[i]? = some ⟨some t, .indexAddr st x y, ty, pos, af, g⟩) (hd : Nat.blt t n = true) (hw : wantS ops σ g = some true)
  (ht : SliceT E st e enc.u) (hx : evs σ x = some gs.v) (hy : evs σ y = some (iv k)) (hk : 0 ≤ k ∧ k < gs.l.length)
  (c : ∀ a rest, gs.l[k.toNat]? = some a → TD1 E n rnd ops l1 l2 ⟨ms, (t, .tptr (enc.f a ++ rest)) :: σ, hs⟩ seen fl Q) : TD1 E n rnd ops (i :: l1) l2 ⟨ms, σ, hs⟩ seen fl Q := by
 obtain ⟨a, rest, h1, h2⟩ := Val.index_gs (hs := hs) ht hx hy hk;exact TD1.light ho rfl hd hw h2 (c a rest h1)
theorem TD2.index_gs {α : Type} {enc : En α} {gs : GS enc} {st e : TypeId} {x y : Operand} {k : Int} (ho : ops[i]? = some ⟨some t, .indexAddr st x y, ty, pos, af, g⟩) (hd : Nat.blt t n = true) (hw : wantS ops σ g = some true)
  (ht : SliceT E st e enc.u) (hx : evs σ x = some gs.v) (hy : evs σ y = some (iv k)) (hk : 0 ≤ k ∧ k < gs.l.length)
  (c : ∀ a rest, gs.l[k.toNat]? = some a → TD2 E n rnd ops l ⟨ms, (t, .tptr (enc.f a ++ rest)) :: σ, hs⟩ past seen fl Q) : TD2 E n rnd ops (i :: l) ⟨ms, σ, hs⟩ past seen fl Q := by
 obtain ⟨a, rest, h1, h2⟩ := Val.index_gs (hs := hs) ht hx hy hk;exact TD2.light ho rfl hd hw h2 (c a rest h1)
theorem Eff.store_row {bt : TypeId} {x y : Operand} {p id u off k m : Nat} {cells cv cells' : List AV} {v : AV} (hp : hs[p]? = some (.row id u cells)) (ht : E.siz bt = some m) (hx : evs σ x = some (.ptr id off k)) (hk : cells.length = k) (hy : evs σ y = some v)
  (hcv : cellsOf v = cv) (hl : Nat.beq cv.length m = true) (hm : Nat.beq m 0 = false) (ho1 : cv.all oneCell = true) (hoff : off + m ≤ k) (hc : spliceL cells off cv = cells') : Eff E σ hs (.store bt x y) fun _ hs' => hs' = hs.set p (.row id u cells') := fun ev S he hS o ho => by
 subst hk;obtain ⟨fl, h1, h2⟩ := hS.row hp
 have hl' := Nat.eq_of_beq_eq_true hl
 have hlen : cells'.length = cells.length := by
  rw [← hc]; simp only [spliceL, List.length_append, List.length_take, List.length_drop]; omega
 refine ⟨undefA, S.write id (.row cells' u cells.length), _, ?_, hS.writeAt hp rfl (y := .row id u cells') rfl ⟨cells.length, by omega, by rw [write_get, if_pos rfl]⟩, rfl⟩;unfold aop; rw [ho]
 have e1 : Nat.beq cells.length cells.length = true := Nat.beq_refl _
 have e2 : Nat.ble fl cells.length = true := Nat.ble_eq_true_of_le h1
 have e3 : Nat.ble (off + cv.length) cells.length = true := Nat.ble_eq_true_of_le (by omega)
 have er : rowOf S id = .ok (cells, u, fl) := by unfold rowOf; rw [h2]
 simp only [he _ _ hx, he _ _ hy, storeVarA, ht, hcv, ofOpt, Except.bind, hl, hm, Bool.not_false, Bool.and_self, cond_true, storeN, er, e1, e2, e3, ho1, hc];rfl
end
end Go.Am
end
section
namespace Go.Am
open Go.RowKit
set_option linter.unusedVariables false
structure Sg where
 round : Int
 letter : Int
deriving DecidableEq
structure Chg where
 kind : Int
 at_ : Int
 many : Int
deriving DecidableEq
def encC : En Chg := ⟨3, fun c => [iv c.kind, iv c.at_, iv c.many], fun _ => rfl⟩
structure Gat where
 round : Int
 letter : Int
 leaves : Int
 ch : GS encC
def Gat.sig (g : Gat) : Sg := ⟨g.round, g.letter⟩
def encG : En Gat := ⟨4, fun g => [iv g.round, iv g.letter, iv g.leaves, g.ch.v], fun _ => rfl⟩
structure Book where
 signed : Int
 gs : GS encG
def inR (n lo hi : Int) : Prop := lo ≤ n ∧ n ≤ hi
instance (n lo hi : Int) : Decidable (inR n lo hi) := by unfold inR; infer_instance
def sigOk (s : Sg) : Prop := inR s.round 1 3 ∧ inR s.letter 0 24
instance (s : Sg) : Decidable (sigOk s) := by unfold sigOk; infer_instance
def rank (s : Sg) : Int := if s.letter ≥ 23 then -1 else (s.round - 1) * 23 + s.letter
def lastRank (l : List Gat) : Int := l.foldl (fun m g => max m (rank g.sig)) (-1)
theorem take_snoc {α : Type} {l : List α} {k : Nat} {a : α} (h : l[k]? = some a) : l.take (k + 1) = l.take k ++ [a] := by
 rw [List.take_add_one, h]; rfl
theorem drop_cons {α : Type} {l : List α} {k : Nat} {a : α} (h : l[k]? = some a) : l.drop k = a :: l.drop (k + 1) := by
 obtain ⟨h1, rfl⟩ := List.getElem?_eq_some_iff.1 h;exact List.drop_eq_getElem_cons h1
theorem lastRank_snoc (l : List Gat) (g : Gat) : lastRank (l ++ [g]) = max (lastRank l) (rank g.sig) := by
 unfold lastRank;rw [List.foldl_append];rfl
def plusOf (ch : List Chg) (n : Int) : Int × Int :=
 ch.foldl (fun r c => (if c.at_ = n ∧ c.kind = 3 then c.many else r.1, if c.at_ = n ∧ c.kind ≠ 3 then c.kind else r.2)) (0, 0)
theorem plusOf_snoc (l : List Chg) (c : Chg) (n : Int) : plusOf (l ++ [c]) n = (if c.at_ = n ∧ c.kind = 3 then c.many else (plusOf l n).1, if c.at_ = n ∧ c.kind ≠ 3 then c.kind else (plusOf l n).2) := by
 unfold plusOf;rw [List.foldl_append];rfl
structure Fits (b : Book) : Prop where
 gs : b.gs.l.length ≤ 30
 leaves : ∀ g ∈ b.gs.l, g.leaves ≤ 12 ∧ g.ch.l.length ≤ 4 ∧ ∀ n, (plusOf g.ch.l n).1 ≤ 4
end Go.Am
end
section
namespace Go.Am
open Go.RowKit
set_option linter.unusedVariables false
end Go.Am
end
section
namespace Go.Am
open Go.RowKit
set_option linter.unusedVariables false
def keyS (s : Sg) : Value := .agg #[.int .i64 s.round, .int .i64 s.letter]
theorem keyS_inj {s t : Sg} : keyS s = keyS t ↔ s = t := by
 refine ⟨fun h => ?_, fun h => by rw [h]⟩;unfold keyS at h;simp at h;cases s; cases t; simp_all
def MetOk (before : List Gat) (f : Value → Int) : Prop := ∀ s : Sg, f (keyS s) = (before.countP (fun g => decide (g.sig = s)) : Nat)
theorem MetOk.nil : MetOk [] fun _ => 0 := fun s => rfl
theorem MetOk.snoc {before : List Gat} {f : Value → Int} (h : MetOk before f) (g : Gat) : MetOk (before ++ [g]) (cput f (keyS g.sig) (f (keyS g.sig) + 1)) := fun s => by
 unfold cput;rw [List.countP_append, List.countP_cons, List.countP_nil]
 by_cases hs : s = g.sig
 ·subst hs; rw [if_pos rfl, h]; simp
 ·rw [if_neg (fun e => hs (keyS_inj.1 e)), h]
  have : ¬ g.sig = s := fun e => hs e.symm
  simp [this]
theorem MetOk.pos {before : List Gat} {f : Value → Int} (h : MetOk before f) (g : Gat) : 0 < f (keyS g.sig) ↔ ∃ x ∈ before, x.sig = g.sig := by
 rw [h g.sig]
 constructor
 ·intro h0
  have : 0 < before.countP (fun x => decide (x.sig = g.sig)) := by omega
  obtain ⟨x, h1, h2⟩ := List.countP_pos_iff.1 this;exact ⟨x, h1, of_decide_eq_true h2⟩
 ·rintro ⟨x, h1, h2⟩
  have : 0 < before.countP (fun x => decide (x.sig = g.sig)) := List.countP_pos_iff.2 ⟨x, h1, decide_eq_true h2⟩;omega
theorem MetOk.le {before : List Gat} {f : Value → Int} (h : MetOk before f) (s : Sg) : 0 ≤ f (keyS s) ∧ f (keyS s) ≤ before.length := by
 rw [h s]
 have := List.countP_le_length (p := fun g : Gat => decide (g.sig = s)) (l := before);omega
def LastOk (before : List Gat) (last : Sg) : Prop := (last = ⟨0, 0⟩ ∧ lastRank before = -1) ∨ (sigOk last ∧ last.letter < 23 ∧ rank last = lastRank before)
theorem LastOk.nil : LastOk [] ⟨0, 0⟩ := .inl ⟨rfl, rfl⟩
theorem LastOk.before {before : List Gat} {last s : Sg} (h : LastOk before last) (hs : sigOk s) (hl : s.letter < 23) : (s.round < last.round ∨ s.round = last.round ∧ s.letter < last.letter) ↔ (rank s ≥ 0 ∧ rank s < lastRank before) := by
 obtain ⟨⟨h1, h2⟩, ⟨h3, h4⟩⟩ := hs
 rcases h with ⟨rfl, h5⟩ | ⟨⟨⟨k1, k2⟩, ⟨k3, k4⟩⟩, h5, h6⟩
 ·rw [h5];unfold rank;rw [if_neg (by omega)];simp only;omega
 ·rw [← h6];unfold rank;rw [if_neg (by omega), if_neg (by omega)];omega
theorem LastOk.snoc {before : List Gat} {last : Sg} {g : Gat} (h : LastOk before last) (hs : sigOk g.sig) (hl : g.sig.letter < 23) (hb : ¬ (rank g.sig ≥ 0 ∧ rank g.sig < lastRank before)) : LastOk (before ++ [g]) g.sig := by
 refine .inr ⟨hs, hl, ?_⟩;rw [lastRank_snoc]
 have h0 : 0 ≤ rank g.sig := by
  obtain ⟨⟨h1, h2⟩, ⟨h3, h4⟩⟩ := hs;unfold rank;rw [if_neg (by omega)];omega
 omega
theorem LastOk.same {before : List Gat} {last : Sg} {g : Gat} (h : LastOk before last) (hl : ¬ g.sig.letter < 23) : LastOk (before ++ [g]) last := by
 have hr : rank g.sig = -1 := by unfold rank; rw [if_pos (by omega)]
 have hm : ∀ l : List Gat, ∀ m : Int, -1 ≤ m → -1 ≤ l.foldl (fun m g => max m (rank g.sig)) m := by
  intro l
  induction l with
  | nil => intro m h; exact h
  | cons a l ih => intro m h; exact ih _ (by show -1 ≤ max m _; omega)
 have h1 : -1 ≤ lastRank before := hm _ _ (by omega)
 have h2 : lastRank (before ++ [g]) = lastRank before := by rw [lastRank_snoc, hr]; omega
 unfold LastOk;rw [h2];exact h
theorem MetOk.twice {before : List Gat} {f : Value → Int} (h : MetOk before f) (g : Gat) : 1 < cput f (keyS g.sig) (f (keyS g.sig) + 1) (keyS g.sig) ↔ ∃ x ∈ before, x.sig = g.sig := by
 rw [← h.pos g];unfold cput;rw [if_pos rfl];omega
end Go.Am
end
section
namespace Go.Am
open Go.RowKit
set_option linter.unusedVariables false
set_option linter.unusedSimpArgs false
section
variable {E : Env} {d : Bool} {n : Nat} {rnd : Option Nat} {ops : Array Oper} {i : Nat} {ns : List Nat} {ms : List Dfr} {σ : Sl} {hs hs' : List Thing} {Q : Sy → Prop} {t : Tmp} {op : Op} {ty : TypeId} {pos : String} {af : Array Edge} {g : Option (Nat × Bool)}
theorem Eff.copy {st e u p m : Nat} {z : Bool} {v w : AV} {cells new : List AV} {ts : Array TypeId} {x y : Operand} (ht : SliceT E st e u) (hu : u ≠ 0) (hts : ts[0]? = some st) (hp : hs[p]? = some (.own z v u m cells)) (hx : evs σ x = some v) (hy : evs σ y = some w)
  (hsrc : ∀ S, HasS S hs → Src S w u m new) : Eff E σ hs (.call { callee := .builtin .copy, args := #[x, y], argTypes := ts }) fun r hs' => r = iv m ∧ hs' = hs.set p (.own z v u m new) := fun ev S he hS o ho => by
 obtain ⟨s1, s2, s3, s4⟩ := hsrc S hS
 have hown := hS.own hp;obtain ⟨o1, o2, o3⟩ := own_len hown
 have hmin : Nat.min m m = m := Nat.min_self m;unfold aop; rw [ho];simp only [acall, abuiltin, List.map_cons, List.map_nil, he _ _ hx, he _ _ hy, acopy, hts, ht.1, ht.2, ofOpt, Except.bind, s1, o1, hmin]
 by_cases h0 : m = 0
 ·subst h0
  have e1 : new = [] := List.eq_nil_of_length_eq_zero (by rw [s3]; simp)
  have e2 : cells = [] := List.eq_nil_of_length_eq_zero (by rw [o3]; simp);refine ⟨_, S, hs.set p (.own z v u 0 new), by simp [o2], ?_, rfl, rfl⟩;rw [e1];rw [e2] at hp hown;exact hS.swap hp hown (.inl rfl)
 ·have b0 : Nat.beq m 0 = false := beq_false.2 h0
  have b1 : Nat.beq u 0 = false := beq_false.2 hu
  have b2 : Nat.beq new.length (m * u) = true := by rw [s3]; exact Nat.beq_refl _
  simp only [b0, cond_false, b1, s2 h0, b2, cond_true]
  rcases hown with ⟨h1, h2, h3, h4⟩ | ⟨id, ex, h1, h2, h3, fl, h4, h5⟩
  ·exact absurd h3 h0
  ·subst h1
   have er : rowOf S id = .ok (cells, u, fl) := by unfold rowOf; rw [h5]
   have c1 : Nat.beq cells.length cells.length = true := Nat.beq_refl _
   have c2 : Nat.ble fl cells.length = true := Nat.ble_eq_true_of_le h4
   have c3 : Nat.ble (0 + new.length) cells.length = true := Nat.ble_eq_true_of_le (by rw [s3, h2]; omega)
   have hsp : spliceL cells 0 new = new := by
    unfold spliceL;rw [List.take_zero, List.nil_append, Nat.zero_add, List.drop_eq_nil_of_le (by rw [s3, h2]; exact Nat.le_refl _), List.append_nil]
   simp only [storeN, er, Except.bind, c1, c2, c3, s4, Bool.and_self, cond_true, hsp]
   have hl : new.length = cells.length := by rw [s3, h2]
   refine ⟨_, _, _, rfl, hS.writeAt hp rfl (y := .own z (.slice id 0 cells.length ex m m) u m new) rfl (.inr ⟨id, ex, by rw [hl], by rw [s3], h3, cells.length, by omega, by rw [write_get, if_pos rfl]⟩), rfl, rfl⟩
theorem Eff.copy_own {α : Type} {en : En α} {l l2 : List α} {st e p q : Nat} {z z2 : Bool} {v w : AV} {ts : Array TypeId} {x y : Operand} (ht : SliceT E st e en.u) (hu : en.u ≠ 0) (hts : ts[0]? = some st) (hp : hs[p]? = some (ownL z v en l)) (hq : hs[q]? = some (ownL z2 w en l2)) (hx : evs σ x = some v) (hy : evs σ y = some w)
  (hone : (l2.flatMap en.f).all oneCell = true) (hl : l.length = l2.length) : Eff E σ hs (.call { callee := .builtin .copy, args := #[x, y], argTypes := ts }) fun r hs' => r = iv l.length ∧ hs' = hs.set p (ownL z v en l2) := by
 have h := Eff.copy (E := E) (σ := σ) (x := x) (y := y) ht hu hts hp hx hy (fun S hS => by rw [hl]; exact src_own hS hq hone)
 have : ownL z v en l2 = .own z v en.u l.length (l2.flatMap en.f) := by unfold ownL; rw [hl]
 rw [this];exact h
end
end Go.Am
end
section
namespace Go.Am
open Go.RowKit
set_option linter.unusedVariables false
def ChR (c c' : Chg) : Prop := c.at_ ≤ c'.at_ ∧ (c'.kind ≠ 3 → c.at_ < c'.at_)
structure ChOk (lv : Int) (l : List Chg) : Prop where
 each : ∀ c ∈ l, 1 ≤ c.kind ∧ c.kind ≤ 3 ∧ 0 ≤ c.at_ ∧ c.at_ ≤ lv ∧ c.many ≤ 4
 order : l.Pairwise ChR
structure Good (b : Book) : Prop where
 signed : 0 ≤ b.signed ∧ b.signed ≤ 12
 gs : 1 ≤ b.gs.l.length ∧ b.gs.l.length ≤ 30
 each : ∀ g ∈ b.gs.l, sigOk g.sig ∧ 1 ≤ g.leaves ∧ g.leaves ≤ 12 ∧ g.ch.l.length ≤ 4 ∧ ChOk g.leaves g.ch.l
theorem plusOf_off {l1 l2 : List Chg} {n : Int} (h : ∀ c ∈ l2, c.at_ ≠ n) : plusOf (l1 ++ l2) n = plusOf l1 n := by
 induction l2 generalizing l1 with
 | nil => rw [List.append_nil]
 | cons c l2 ih =>
  have e : l1 ++ c :: l2 = (l1 ++ [c]) ++ l2 := by simp
  have hc := h c (by simp);rw [e, ih fun x hx => h x (by simp [hx]), plusOf_snoc, if_neg (fun e => hc e.1), if_neg (fun e => hc e.1)]
theorem plusOf_zero {l : List Chg} {n : Int} (h : ∀ c ∈ l, c.at_ ≠ n) : plusOf l n = (0, 0) := by
 have := plusOf_off (l1 := []) h;rw [List.nil_append] at this;exact this
theorem plusOf_le {l : List Chg} {n : Int} (h : ∀ c ∈ l, c.many ≤ 4) : (plusOf l n).1 ≤ 4 := by
 have key : ∀ (l : List Chg) (r : Int × Int), r.1 ≤ 4 → (∀ c ∈ l, c.many ≤ 4) → (l.foldl (fun r c => (if c.at_ = n ∧ c.kind = 3 then c.many else r.1, if c.at_ = n ∧ c.kind ≠ 3 then c.kind else r.2)) r).1 ≤ 4 := by
  intro l
  induction l with
  | nil => intro r hr _; exact hr
  | cons c l ih =>
   intro r hr h;refine ih _ ?_ fun x hx => h x (by simp [hx])
   have := h c (by simp)
   show (if c.at_ = n ∧ c.kind = 3 then c.many else r.1) ≤ 4;split <;> omega
 exact key l _ (by decide) h
theorem Good.fits {b : Book} (h : Good b) : Fits b := ⟨h.gs.2, fun g hg => ⟨(h.each g hg).2.2.1, (h.each g hg).2.2.2.1, fun n => plusOf_le fun c hc => ((h.each g hg).2.2.2.2.each c hc).2.2.2.2⟩⟩
def AtN (ch : List Chg) (n : Int) (s : Nat) : Prop := (∀ c ∈ ch.take s, c.at_ ≤ n) ∧ ∀ c ∈ ch.drop s, n ≤ c.at_
theorem AtN.one {ch : List Chg} {n : Int} {s : Nat} {c : Chg} (h : AtN ch n s) (hc : ch[s]? = some c) (he : c.at_ = n) : AtN ch n (s + 1) := by
 refine ⟨fun x hx => ?_, fun x hx => h.2 x (by rw [drop_cons hc]; exact List.mem_cons_of_mem _ hx)⟩;rw [take_snoc hc] at hx
 rcases List.mem_append.1 hx with hx | hx
 ·exact h.1 x hx
 ·rw [List.mem_singleton.1 hx]; omega
theorem AtN.over {ch : List Chg} {n : Int} {s : Nat} (ho : ch.Pairwise ChR) (h : AtN ch n s) (hs : ch.length ≤ s ∨ ∃ c, ch[s]? = some c ∧ c.at_ ≠ n) : plusOf ch n = plusOf (ch.take s) n ∧ (∀ c ∈ ch.take s, c.at_ < n + 1) ∧ ∀ c ∈ ch.drop s, n + 1 ≤ c.at_ := by
 have hd : ∀ c ∈ ch.drop s, n + 1 ≤ c.at_ := by
  rcases hs with hs | ⟨c, hc, hne⟩
  ·rw [List.drop_eq_nil_of_le hs]; simp
  ·have hcn : n + 1 ≤ c.at_ := by
    have := h.2 c (by rw [drop_cons hc]; simp);omega
   intro x hx;rw [drop_cons hc] at hx
   rcases List.mem_cons.1 hx with rfl | hx
   ·exact hcn
   ·have e : ch = ch.take s ++ c :: ch.drop (s + 1) := by rw [← drop_cons hc, List.take_append_drop]
    rw [e] at ho
    have := (List.pairwise_cons.1 (List.pairwise_append.1 ho).2.1).1 x hx;unfold ChR at this;omega
 refine ⟨?_, fun c hc => by have := h.1 c hc; omega, hd⟩
 conv => lhs; rw [← List.take_append_drop s ch]
 exact plusOf_off fun c hc => by have := hd c hc; omega
theorem AtN.start {ch : List Chg} {n : Int} {s : Nat} (h1 : ∀ c ∈ ch.take s, c.at_ < n) (h2 : ∀ c ∈ ch.drop s, n ≤ c.at_) : AtN ch n s ∧ plusOf (ch.take s) n = (0, 0) :=
 ⟨⟨fun c hc => by have := h1 c hc; omega, h2⟩, plusOf_zero fun c hc => by have := h1 c hc; omega⟩
end Go.Am
end
section
namespace Go.Am
open Go.RowKit
set_option linter.unusedVariables false
end Go.Am
end
section
namespace Go.Am
open Go.RowKit
set_option linter.unusedVariables false
set_option linter.unusedSimpArgs false
def IsLoop (x : Thing) (l d : Nat) : Prop := ∃ n tm ps a b st pd, x = loopT l n tm ps a b st pd d
section
variable {E : Env} {n : Nat} {ms : List Dfr} {σ : Sl} {hs : List Thing}
theorem TR.conv {l : Nat} {args : List AV} {hs1 hs2 : List Thing} {K K' : AV → List Thing → Prop} (h : TR E l args hs1 K) (hp : hs1.Perm hs2) (hk : ∀ v h1, K v h1 → ∃ h2, h1.Perm h2 ∧ K' v h2) : TR E l args hs2 K' := fun S hS =>
 (h S (hS.perm hp)).mono fun r ⟨h1, k1, k2⟩ => by
  obtain ⟨h2, k3, k4⟩ := hk _ _ k2;exact ⟨h2, k1.perm k3.symm, k4⟩
def AssignQ (E : Env) (n l : Nat) (body : Code) (LR LB : Thing) (P : Exit → Sy → Prop) : Exit → Sy → Prop := fun e s =>
 e = .normal ∧ ∃ p, s.hs[p]? = some LR ∧ T E n (some l) body ⟨s.ms, s.sl, s.hs.set p LB⟩ P
theorem T.monoS {rnd : Option Nat} {c : Code} {s : Sy} {Q Q' : Exit → Sy → Prop} (h : T E n rnd c s Q) (hq : ∀ e s, Q e s → ∃ s2, (∀ a S, Is n rnd a S s → Is n rnd a S s2) ∧ Q' e s2) : T E n rnd c s Q' :=
 fun a S hi => (h a S hi).mono fun r ⟨e, a', S', s', h1, h2, h3⟩ => by
  obtain ⟨s2, h4, h5⟩ := hq _ _ h3;exact ⟨e, a', S', s2, h1, h4 _ _ h2, h5⟩
end
end Go.Am
end
section
namespace Go.Am
open Go.RowKit
set_option linter.unusedVariables false
set_option linter.unusedSimpArgs false
inductive Ex (J A : Type) where
 | nx (j : J)
 | rt (a : A)
inductive Stp (σ ε : Type) where
 | ag (s : σ)
 | dn (e : ε)
section
variable {α β J A σ ε : Type}
open Classical in
noncomputable def chk (p : Prop) (k : Option α) : Option α := if p then k else none
theorem chk_some {p : Prop} {k : Option α} {r : α} (h : chk p k = some r) : p ∧ k = some r := by
 unfold chk at h;split at h
 ·exact ⟨by assumption, h⟩
 ·cases h
theorem chk_pos {p : Prop} {k : Option α} (h : p) : chk p k = k := by unfold chk; rw [if_pos h]
def el (l : List α) (i : Int) (k : α → Option β) : Option β := if 0 ≤ i then (match l[i.toNat]? with | some a => k a | none => none) else none
theorem el_some {l : List α} {i : Int} {k : α → Option β} {r : β} (h : el l i k = some r) : ∃ a, (0 ≤ i ∧ i < l.length) ∧ l[i.toNat]? = some a ∧ k a = some r := by
 unfold el at h;split at h
 ·rename_i h0
  split at h
  ·rename_i a ha
   exact ⟨a, ⟨h0, by have := (List.getElem?_eq_some_iff.1 ha).1; omega⟩, ha, h⟩
  ·cases h
 ·cases h
def seqx (x : Option (Ex J A)) (k : J → Option A) : Option A :=
 match x with
 | some (.nx j) => k j
 | some (.rt a) => some a
 | none => none
def andx (x : Option J) (k : J → Option A) : Option A :=
 match x with
 | some j => k j
 | none => none
theorem andx_some {x : Option J} {k : J → Option A} {r : A} (h : andx x k = some r) : ∃ j, x = some j ∧ k j = some r := by
 cases x with
 | none => cases h
 | some j => exact ⟨j, rfl, h⟩
def iterN (body : σ → Option (Stp σ ε)) : Nat → σ → Option ε
 | 0, _ => none
 | n + 1, s => match body s with
  | some (.ag s') => iterN body n s'
  | some (.dn e) => some e
  | none => none
open Classical in
noncomputable def iter (body : σ → Option (Stp σ ε)) (s : σ) : Option ε := if h : ∃ n e, iterN body n s = some e then iterN body h.choose s else none
theorem iter_some {body : σ → Option (Stp σ ε)} {s : σ} {e : ε} (h : iter body s = some e) : ∃ n, iterN body n s = some e := by
 unfold iter at h;split at h
 ·exact ⟨_, h⟩
 ·cases h
theorem iterN_mono {body : σ → Option (Stp σ ε)} : ∀ {n m : Nat} {s : σ} {e : ε}, iterN body n s = some e → n ≤ m → iterN body m s = some e := by
 intro n
 induction n with
 | zero => intro m s e h; cases h
 | succ n ih =>
  intro m s e h hm;cases m with
  | zero => omega
  | succ m =>
   unfold iterN at h ⊢;cases hb : body s with
   | none => rw [hb] at h; cases h
   | some x =>
    rw [hb] at h;cases x with
    | ag s' => exact ih h (by omega)
    | dn e' => exact h
theorem iter_of {body : σ → Option (Stp σ ε)} {n : Nat} {s : σ} {e : ε} (h : iterN body n s = some e) : iter body s = some e := by
 have h' : ∃ n e, iterN body n s = some e := ⟨n, e, h⟩;unfold iter;rw [dif_pos h'];obtain ⟨e', he'⟩ := h'.choose_spec
 have h1 := iterN_mono he' (Nat.le_max_left h'.choose n)
 have h2 := iterN_mono h (Nat.le_max_right h'.choose n);rw [h1] at h2;cases h2;exact he'
theorem iter_eq {body : σ → Option (Stp σ ε)} {s : σ} {e : ε} : iter body s = some e ↔ (∃ s', body s = some (.ag s') ∧ iter body s' = some e) ∨ body s = some (.dn e) := by
 constructor
 ·intro h;obtain ⟨n, h⟩ := iter_some h;cases n with
  | zero => cases h
  | succ n =>
   unfold iterN at h;cases hb : body s with
   | none => rw [hb] at h; cases h
   | some x =>
    rw [hb] at h;cases x with
    | ag s' => exact .inl ⟨s', rfl, iter_of h⟩
    | dn e' => cases h; exact .inr rfl
 ·rintro (⟨s', hb, h⟩ | hb)
  ·obtain ⟨n, h⟩ := iter_some h;exact iter_of (n := n + 1) (by unfold iterN; rw [hb]; exact h)
  ·exact iter_of (n := 1) (by unfold iterN; rw [hb])
def Ok (x : Option α) (Q : α → Prop) : Prop := ∃ a, x = some a ∧ Q a
variable {Q : β → Prop}
theorem Ok.get {x : Option α} {a : α} (h : Ok x fun r => r = a) : x = some a := let ⟨_, h1, h2⟩ := h; h2 ▸ h1
theorem Ok.of {x : Option α} {a : α} (h : x = some a) : Ok x fun r => r = a := ⟨a, h, rfl⟩
theorem Ok.some {a : β} (h : Q a) : Ok (some a) Q := ⟨a, rfl, h⟩
theorem Ok.mono {x : Option β} {Q' : β → Prop} (h : Ok x Q) (hq : ∀ a, Q a → Q' a) : Ok x Q' := let ⟨a, h1, h2⟩ := h; ⟨a, h1, hq a h2⟩
theorem Ok.chk {p : Prop} {k : Option β} (h : p) (hk : Ok k Q) : Ok (Am.chk p k) Q := by rw [chk_pos h]; exact hk
theorem Ok.el {l : List α} {i : Int} {k : α → Option β} (hi : 0 ≤ i ∧ i < l.length) (hk : ∀ a, l[i.toNat]? = .some a → Ok (k a) Q) : Ok (Am.el l i k) Q := by
 have hlt : i.toNat < l.length := by omega
 have e := List.getElem?_eq_getElem hlt;unfold Am.el;rw [if_pos hi.1, e];exact hk _ e
theorem Ok.andx {x : Option J} {k : J → Option β} {P : J → Prop} (h : Ok x P) (hk : ∀ j, P j → Ok (k j) Q) : Ok (Am.andx x k) Q := by
 obtain ⟨j, rfl, hj⟩ := h;exact hk j hj
def OkX (k : J → Option A) (Q : A → Prop) : Ex J A → Prop
 | .nx j => Ok (k j) Q
 | .rt a => Q a
theorem Ok.seqx {x : Option (Ex J A)} {k : J → Option A} {Q : A → Prop} (h : Ok x (OkX k Q)) : Ok (Am.seqx x k) Q := by
 obtain ⟨j, rfl, hj⟩ := h;cases j with
 | nx j => exact hj
 | rt a => exact .some hj
theorem Ok.ite {p : Prop} [Decidable p] {x y : Option β} (h1 : p → Ok x Q) (h2 : ¬ p → Ok y Q) : Ok (if p then x else y) Q := by
 by_cases h : p
 ·rw [if_pos h]; exact h1 h
 ·rw [if_neg h]; exact h2 h
def OkS (I : σ → Prop) (m : σ → Nat) (s : σ) (Q : ε → Prop) : Stp σ ε → Prop
 | .ag s' => I s' ∧ m s' < m s
 | .dn e => Q e
theorem Ok.iter (I : σ → Prop) (m : σ → Nat) {body : σ → Option (Stp σ ε)} {s : σ} {Q : ε → Prop} (h0 : I s) (step : ∀ s, I s → Ok (body s) (OkS I m s Q)) : Ok (Am.iter body s) Q := by
 generalize hk : m s = k
 induction k using Nat.strongRecOn generalizing s with
 | _ k ih =>
  obtain ⟨x, hb, hx⟩ := step s h0;cases x with
  | ag s' =>
   obtain ⟨e, he, hq⟩ := ih (m s') (by have := hx.2; omega) hx.1 rfl;exact ⟨e, iter_eq.2 (.inl ⟨s', hb, he⟩), hq⟩
  | dn e => exact ⟨e, iter_eq.2 (.inr hb), hx⟩
theorem seqx_nx {j : J} {k : J → Option A} : seqx (some (.nx j)) k = k j := rfl
end
def Less (a b : List Thing) : Prop := ∀ S, HasS S b → HasS S a
theorem Less.refl {a : List Thing} : Less a a := fun S h => h
theorem Less.nil {b : List Thing} : Less [] b := fun S h => h.sub (List.nil_sublist _)
theorem Less.drop {a b : List Thing} {x : Thing} (h : Less a b) : Less a (x :: b) := fun S k => h S (k.sub (List.sublist_cons_self _ _))
theorem Less.trans {a b c : List Thing} (h : Less a b) (k : Less b c) : Less a c := fun S x => h S (k S x)
theorem Less.cons {a b : List Thing} {x : Thing} (h : ∀ y ∈ a, y ∈ b ∨ y.id = none) (h' : Less a b) : Less (x :: a) (x :: b) := fun S k => by
 have hb := h' S (k.sub (List.sublist_cons_self _ _));refine ⟨k.wf, fun y hy => ?_, ?_⟩
 ·rcases List.mem_cons.1 hy with rfl | hy
  ·exact k.ok _ (by simp)
  ·exact hb.ok y hy
 ·refine List.pairwise_cons.2 ⟨fun y hy => ?_, hb.apart⟩
  rcases h y hy with h | h
  ·exact (List.pairwise_cons.1 k.apart).1 y h
  ·intro i hi e; rw [h] at e; cases e
inductive Pk : List Thing → List Thing → Prop
 | nil {b : List Thing} : Pk [] b
 | refl {b : List Thing} : Pk b b
 | drop {a b : List Thing} {x : Thing} (h : Pk a b) : Pk a (x :: b)
 | pick {a b : List Thing} {p : Nat} {x : Thing} (hp : b[p]? = some x) (h : Pk a (b.eraseIdx p)) : Pk (x :: a) b
 | own0 {a b : List Thing} {u : Nat} (h : Pk a b) : Pk (.own true nilS u 0 [] :: a) b
theorem Pk.mem {a b : List Thing} (h : Pk a b) : ∀ y ∈ a, y ∈ b ∨ y.id = none := by
 induction h with
 | nil => intro y hy; simp at hy
 | refl => intro y hy; exact .inl hy
 | drop h ih => intro y hy; exact (ih y hy).imp (List.mem_cons_of_mem _) id
 | pick hp h ih =>
  intro y hy
  rcases List.mem_cons.1 hy with rfl | hy
  ·exact .inl (List.mem_of_getElem? hp)
  ·exact (ih y hy).imp List.mem_of_mem_eraseIdx id
 | own0 h ih =>
  intro y hy
  rcases List.mem_cons.1 hy with rfl | hy
  ·exact .inr rfl
  ·exact ih y hy
theorem Pk.less {a b : List Thing} (h : Pk a b) : Less a b := by
  induction h with
  | nil => exact .nil
  | refl => exact .refl
  | drop h ih => exact .drop ih
  | @pick a b p x hp h ih => exact fun S k => (Less.cons (h.mem) ih) S (HasS.perm k ((pick_perm (p := p) x hp).1.symm))
  | own0 h ih => exact fun S k => ⟨k.wf, fun x hx => by
      rcases List.mem_cons.1 hx with rfl | hx
      · exact .inl ⟨rfl, rfl, rfl, rfl⟩
      · exact (ih S k).ok x hx, List.pairwise_cons.2 ⟨fun x hx i hi => (by cases hi), (ih S k).apart⟩⟩
structure Sub2 (s s' : Sy) : Prop where
 ms : s.ms = s'.ms
 sl : ∀ t v, lk s.sl t = some v → lk s'.sl t = some v
 hs : Pk s.hs s'.hs
theorem Is.sub2 {n : Nat} {rnd : Option Nat} {a : AAct} {S : St} {s s' : Sy} (h : Is n rnd a S s') (k : Sub2 s s') : Is n rnd a S s :=
 ⟨⟨h.act.n, h.act.rnd, h.act.marks.trans k.ms.symm, fun t v x => h.act.get t v (k.sl t v x)⟩, k.hs.less S h.mem⟩
section
variable {E : Env} {n : Nat} {rnd : Option Nat} {s : Sy} {J A σ ε W : Type}
theorem T.keep2 {c : Code} {s' : Sy} {Q : Exit → Sy → Prop} (k : Sub2 s' s) (h : T E n rnd c s' Q) : T E n rnd c s Q := fun a S hi => h a S (hi.sub2 k)
theorem T.at {c : Code} {s' : Sy} {Q : Exit → Sy → Prop} (e : s' = s) (h : T E n rnd c s' Q) : T E n rnd c s Q := e ▸ h
def RepJ (mid : J → W → Sy) (Rep : A → Exit → Sy → Prop) : Ex J A → Exit → Sy → Prop
 | .nx j, e, s => e = .normal ∧ ∃ w, Sub2 (mid j w) s
 | .rt a, e, s => e ≠ .normal ∧ Rep a e s
theorem T.join (mid : J → W → Sy) {x y : Code} {Rep : A → Exit → Sy → Prop} {X : Option (Ex J A)} {B : J → Option A} {r : A} (h : seqx X B = some r)
  (hx : ∀ a, X = some a → T E n rnd x s (RepJ mid Rep a)) (hy : ∀ j w, B j = some r → T E n rnd y (mid j w) (Rep r)) : T E n rnd (.seq x y) s (Rep r) := by
 refine T.seq ?_;cases X with
 | none => cases h
 | some a =>
  refine (hx a rfl).mono fun e s' hr => ?_
  cases a with
  | nx j =>
   obtain ⟨rfl, w, hs⟩ := hr;exact T.keep2 hs (hy j w h)
  | rt b =>
   obtain ⟨he, hr⟩ := hr;cases h;cases e <;> first | exact absurd rfl he | exact hr
def RepA (mid : J → W → Sy) (j : J) : Exit → Sy → Prop := fun e s => e = .normal ∧ ∃ w, Sub2 (mid j w) s
theorem T.joinA (mid : J → W → Sy) {x y : Code} {Rep : A → Exit → Sy → Prop} {X : Option J} {B : J → Option A} {r : A} (h : andx X B = some r)
  (hx : ∀ a, X = some a → T E n rnd x s (RepA mid a)) (hy : ∀ j w, B j = some r → T E n rnd y (mid j w) (Rep r)) : T E n rnd (.seq x y) s (Rep r) := by
 obtain ⟨j, hX, hB⟩ := andx_some h;refine T.seq ((hx j hX).mono fun e s' hr => ?_);obtain ⟨rfl, w, hs⟩ := hr;exact T.keep2 hs (hy j w hB)
def RepL (st : σ → W → Sy) (Rep : ε → Exit → Sy → Prop) : Stp σ ε → Exit → Sy → Prop
 | .ag s, e, sy => e = .normal ∧ ∃ w, Sub2 (st s w) sy
 | .dn x, e, sy => e ≠ .normal ∧ Rep x e sy
theorem T.iter (st : σ → W → Sy) {c : Code} {Rep : ε → Exit → Sy → Prop} {body : σ → Option (Stp σ ε)} {s0 : σ} {w0 : W} {r : ε} (h : iter body s0 = some r) (hs : Sub2 (st s0 w0) s)
  (step : ∀ s w a, body s = some a → T E n rnd c (st s w) (RepL st Rep a)) : T E n rnd (.loop c) s (Rep r) := by
 obtain ⟨k, h'⟩ := iter_some h;refine T.keep2 hs ?_
 clear hs h
 have h := h'
 clear h'
 induction k generalizing s0 w0 with
 | zero => cases h
 | succ m ih =>
  unfold iterN at h;cases hb : body s0 with
  | none => rw [hb] at h; cases h
  | some x =>
   rw [hb] at h;refine .of_step fun a S hi => ?_
   refine Evt.bind ((step s0 w0 x hb a S hi).mono fun rr ⟨e, a', S', s1, h1, h2, h3⟩ => ?_);subst h1;cases x with
   | ag s2 =>
    obtain ⟨rfl, w1, hs1⟩ := h3;exact ih h a' S' (h2.sub2 hs1)
   | dn x =>
    obtain ⟨he, hr⟩ := h3;cases h;refine Evt.pure (x := (.exit e a', S')) (fun rec => ?_) ⟨_, _, _, _, rfl, h2, hr⟩;cases e <;> first | exact absurd rfl he | rfl
theorem ex_ne {i : Nat} : Exit.exit i ≠ .normal := fun h => by cases h
theorem ret_ne : Exit.ret ≠ .normal := fun h => by cases h
end
section
variable {E : Env} {d : Bool} {n : Nat} {rnd : Option Nat} {ops : Array Oper} {i : Nat} {l : List Nat} {ms : List Dfr} {σ : Sl} {hs hs' : List Thing} {Q : Sy → Prop} {t : Tmp} {op : Op} {ty : TypeId} {pos : String} {af : Array Edge} {g : Option (Nat × Bool)}
def RepF {W : Type} (vw : W → AV) (hw : W → List Thing) : AV → List Thing → Prop := fun v hs' => ∃ w, v = vw w ∧ Pk (hw w) hs'
theorem RepF.conv {W : Type} {vw : W → AV} {hw : W → List Thing} {f : FuncId} {vs : List AV} (h : TF E f vs hs (RepF vw hw)) : TF E f vs hs fun v hs' => ∃ w, v = vw w ∧ hs' = hw w := fun S hS =>
 (h S hS).mono fun r ⟨v, S', hs', h1, h2, w, h3, h4⟩ => ⟨v, S', _, h1, h4.less S' h2, w, h3, rfl⟩
theorem TO.callJ {J A W : Type} (vw : J → W → AV) (hw : J → W → List Thing) {X : Option J} {B : J → Option A} {r : A} {f : FuncId} {fn : Func} {x : Operand} {xs : Array Operand} {ts : Array TypeId} {vs first cap : List AV} (h : andx X B = some r)
  (ho : ops[i]? = some ⟨some t, .call { callee := .value x, args := xs, argTypes := ts }, ty, pos, af, g⟩) (hd : Nat.blt t n = true) (hwt : wantS ops σ g = some true) (hx : evs σ x = some (.func f first cap)) (hxs : evsL σ xs.toList = some vs) (hf : E.fn f = some fn) (hG : E.orc f = none)
  (hc : ∀ j, X = some j → TF E f (first ++ vs ++ cap) hs (RepF (vw j) (hw j)))
  (k : ∀ j w, B j = some r → TO E false n rnd ops l ⟨ms, (t, vw j w) :: σ, hw j w⟩ Q) : TO E false n rnd ops (i :: l) ⟨ms, σ, hs⟩ Q := by
 obtain ⟨j, hX, hB⟩ := andx_some h;refine TO.callV ho hd hwt hx hxs hf hG (RepF.conv (hc j hX)) ?_;rintro v hs' ⟨w, rfl, rfl⟩;exact k j w hB
theorem TO.callT {W : Type} {vw : W → AV} {hw : W → List Thing} {f : FuncId} {fn : Func} {x : Operand} {xs : Array Operand} {ts : Array TypeId} {vs first cap : List AV}
  (ho : ops[i]? = some ⟨some t, .call { callee := .value x, args := xs, argTypes := ts }, ty, pos, af, g⟩) (hd : Nat.blt t n = true) (hwt : wantS ops σ g = some true) (hx : evs σ x = some (.func f first cap)) (hxs : evsL σ xs.toList = some vs) (hf : E.fn f = some fn) (hG : E.orc f = none)
  (hc : TF E f (first ++ vs ++ cap) hs (RepF vw hw)) (k : ∀ w, TO E false n rnd ops l ⟨ms, (t, vw w) :: σ, hw w⟩ Q) : TO E false n rnd ops (i :: l) ⟨ms, σ, hs⟩ Q := by
 refine TO.callV ho hd hwt hx hxs hf hG (RepF.conv hc) ?_;rintro v hs' ⟨w, rfl, rfl⟩;exact k w
theorem TF.run {W : Type} {vw : W → AV} {hw : W → List Thing} {f : FuncId} {vs : List AV} {t : AV} (h : TF E f vs [] (RepF vw hw)) (hr : ∀ w, RefN 12 (hw w) (vw w) t) : Comes E f vs t :=
 .of ((RepF.conv h).mono fun v hs' ⟨w, h1, h2⟩ => by subst h1; subst h2; exact hr w)
end
end Go.Am
end
section
namespace Go.Am
open Go.RowKit
set_option linter.unusedVariables false
set_option linter.unusedSimpArgs false
@[simp] theorem oneCell_nil : oneCell nilS = true := rfl
abbrev I64 (x : Int) : Prop := -9223372036854775808 ≤ x ∧ x < 9223372036854775808
section
variable {E : Env} {d : Bool} {n : Nat} {rnd : Option Nat} {ops : Array Oper} {i : Nat} {l l1 l2 : List Nat} {ms : List Dfr} {σ : Sl} {hs hs' C : List Thing} {Q : Sy → Prop} {t : Tmp} {op : Op} {ty : TypeId} {pos : String} {af : Array Edge} {g : Option (Nat × Bool)}
variable {past : List (Nat × List Thing)} {seen : List Rd} {fl : List Fl}
theorem T.fact {c : Code} {Q : Exit → Sy → Prop} {P : Prop} (hf : ∀ S, HasS S hs → P) (h : P → T E n rnd c ⟨ms, σ, hs⟩ Q) : T E n rnd c ⟨ms, σ, hs⟩ Q := fun a S hi => h (hf S hi.mem) a S hi
theorem TO.fact {P : Prop} (hf : ∀ S, HasS S hs → P) (h : P → TO E d n rnd ops l ⟨ms, σ, hs⟩ Q) : TO E d n rnd ops l ⟨ms, σ, hs⟩ Q := fun a S hi => h (hf S hi.mem) a S hi
theorem TD1.fact {P : Prop} (hf : ∀ S, HasS S hs → P) (h : P → TD1 E n rnd ops l1 l2 ⟨ms, σ, hs⟩ seen fl Q) : TD1 E n rnd ops l1 l2 ⟨ms, σ, hs⟩ seen fl Q := fun a S xs fs hi hx hf' => h (hf S hi.mem) a S xs fs hi hx hf'
theorem TD2.fact {P : Prop} (hf : ∀ S, HasS S hs → P) (h : P → TD2 E n rnd ops l ⟨ms, σ, hs⟩ past seen fl Q) : TD2 E n rnd ops l ⟨ms, σ, hs⟩ past seen fl Q := fun a S ps xs fs hi hp hx hf' => h (hf S hi.mem) a S ps xs fs hi hp hx hf'
theorem HasS.nilown {S : St} {u : Nat} (h : HasS S hs) : HasS S (.own true nilS u 0 [] :: hs) := ⟨h.wf, fun x hx => by
    rcases List.mem_cons.1 hx with rfl | hx
    · exact .inl ⟨rfl, rfl, rfl, rfl⟩
    · exact h.ok x hx, List.pairwise_cons.2 ⟨fun x hx i hi => (by cases hi), h.apart⟩⟩
theorem TD1.nilown {u : Nat} (h : TD1 E n rnd ops l1 l2 ⟨ms, σ, .own true nilS u 0 [] :: hs⟩ seen fl Q) : TD1 E n rnd ops l1 l2 ⟨ms, σ, hs⟩ seen fl Q := fun a S xs fs hi hx hf' => h a S xs fs ⟨hi.act, hi.mem.nilown⟩ hx hf'
theorem TD2.nilown {u : Nat} (h : TD2 E n rnd ops l ⟨ms, σ, .own true nilS u 0 [] :: hs⟩ past seen fl Q) : TD2 E n rnd ops l ⟨ms, σ, hs⟩ past seen fl Q := fun a S ps xs fs hi hp hx hf' => h a S ps xs fs ⟨hi.act, hi.mem.nilown⟩ hp hx hf'
theorem own_cellS {p u m : Nat} {z : Bool} {v : AV} {cells : List AV} (hp : hs[p]? = some (.own z v u m cells)) : ∀ S, HasS S hs → cellsOf v = [v] ∧ oneCell v = true := fun S h => own_cell (h.own hp)
section
variable {xt ty' : TypeId} {x y : Operand} {a b : Int} {c : Bool}
theorem Val.lss (hc : c = decide (a < b)) (hx : evs σ x = some (iv a)) (hy : evs σ y = some (iv b)) : Val E σ hs (.binOp .lss xt x y ty') (bv c) := by subst hc; exact Val.cmp hx hy rfl
theorem Val.gtr (hc : c = decide (a > b)) (hx : evs σ x = some (iv a)) (hy : evs σ y = some (iv b)) : Val E σ hs (.binOp .gtr xt x y ty') (bv c) := by subst hc; exact Val.cmp hx hy rfl
theorem Val.leq (hc : c = decide (a ≤ b)) (hx : evs σ x = some (iv a)) (hy : evs σ y = some (iv b)) : Val E σ hs (.binOp .leq xt x y ty') (bv c) := by subst hc; exact Val.cmp hx hy rfl
theorem Val.geq (hc : c = decide (a ≥ b)) (hx : evs σ x = some (iv a)) (hy : evs σ y = some (iv b)) : Val E σ hs (.binOp .geq xt x y ty') (bv c) := by subst hc; exact Val.cmp hx hy rfl
theorem Val.eql (hc : c = decide (a = b)) (hx : evs σ x = some (iv a)) (hy : evs σ y = some (iv b)) : Val E σ hs (.binOp .eql xt x y ty') (bv c) := by subst hc; exact Val.cmp hx hy rfl
theorem Val.neq (hc : c = decide (¬ a = b)) (hx : evs σ x = some (iv a)) (hy : evs σ y = some (iv b)) : Val E σ hs (.binOp .neq xt x y ty') (bv c) := by subst hc; exact Val.cmp hx hy rfl
end
theorem Val.binD {op : BinOp} {xt ty : TypeId} {x y : Operand} {v w : AV} {b c : Bool} {p : Prop} {dp : Decidable p} (hc : c = @decide p dp) (hx : evs σ x = some v) (hy : evs σ y = some w) (hp : abin E op xt x y v w = .ok (bv b) ∧ (b = true ↔ p)) : Val E σ hs (.binOp op xt x y ty) (bv c) := by
 have : c = b := by
  subst hc;cases b with
  | true => exact decide_eq_true (hp.2.1 rfl)
  | false => exact decide_eq_false fun k => Bool.noConfusion (hp.2.2 k)
 subst this;exact Val.bin hx hy hp.1
theorem Val.bmax {x y : Operand} {ts : Array TypeId} {a b : Int} (hx : evs σ x = some (iv a)) (hy : evs σ y = some (iv b)) : Val E σ hs (.call { callee := .builtin .max, args := #[x, y], argTypes := ts }) (iv (max a b)) := fun ev S he _ o ho => by
 have e : pureVal E.P (Builtin.max_ ts o.type #[.int .i64 a, .int .i64 b]) = some (.int .i64 (if b > a then b else a)) := rfl
 have e2 : (if b > a then b else a) = max a b := by split <;> omega
 unfold aop; rw [ho];simp only [acall, abuiltin, List.map_cons, List.map_nil, he _ _ hx, he _ _ hy, pureBuiltin, mapR, toV, Except.bind, e, e2, ofOpt];rfl
theorem Val.bmin {x y : Operand} {ts : Array TypeId} {a b : Int} (hx : evs σ x = some (iv a)) (hy : evs σ y = some (iv b)) : Val E σ hs (.call { callee := .builtin .min, args := #[x, y], argTypes := ts }) (iv (min a b)) := fun ev S he _ o ho => by
 have e : pureVal E.P (Builtin.min_ ts o.type #[.int .i64 a, .int .i64 b]) = some (.int .i64 (if b < a then b else a)) := rfl
 have e2 : (if b < a then b else a) = min a b := by split <;> omega
 unfold aop; rw [ho];simp only [acall, abuiltin, List.map_cons, List.map_nil, he _ _ hx, he _ _ hy, pureBuiltin, mapR, toV, Except.bind, e, e2, ofOpt];rfl
theorem Eff.val {op : Op} {v : AV} (h : Val E σ hs op v) : Eff E σ hs op fun v' hs' => v' = v ∧ hs' = hs := fun ev S he hS o ho => ⟨v, S, hs, h ev S he hS o ho, hS, rfl, rfl⟩
theorem Val.fieldA {s f k m : Nat} {x : Operand} {cs c : List AV} {fd : Field} {dd : TypeDesc} (hf : fieldOf E s f = .ok (fd, m)) (hx : evs σ x = some (.agg cs)) (hd : E.und fd.type = some dd) (ha : isAggT dd = true) (hk : E.siz fd.type = some k) (hv : (cs.drop fd.offset).take k = c) : Val E σ hs (.field s x f) (.agg c) := fun ev S he hS o ho => by
 unfold aop; rw [ho];simp only [he _ _ hx, afield, hf, Except.bind, valOf, partOf, hd, ofOpt, ha, cond_true, hk, hv];rfl
def Rdl {α : Type} (C : List Thing) (en : En α) (v : AV) (l : List α) : Prop := (∃ gs : GS en, gs.v = v ∧ gs.l = l) ∨ ∃ z, ownL z v en l ∈ C
theorem Rdl.gs {α : Type} {en : En α} (x : GS en) : Rdl C en x.v x.l := .inl ⟨x, rfl, rfl⟩
theorem Rdl.own {α : Type} {en : En α} {z : Bool} {v : AV} {l : List α} {p : Nat} (h : C[p]? = some (ownL z v en l)) : Rdl C en v l := .inr ⟨z, List.mem_of_getElem? h⟩
theorem Rdl.nil {α : Type} {en : En α} : Rdl C en nilS [] := .inl ⟨GSo true en [], rfl, rfl⟩
theorem Rdl.mono {α : Type} {en : En α} {v : AV} {l : List α} {C' : List Thing} (h : Rdl C en v l) (hC : ∀ x ∈ C, x ∈ C') : Rdl C' en v l := h.imp (fun x => x) fun ⟨z, hz⟩ => ⟨z, hC _ hz⟩
inductive PtE {α : Type} (C : List Thing) (en : En α) (a : α) (j : Nat) : AV → Prop
 | tree (rest : List AV) (hj : j ≤ en.u) : PtE C en a j (.tptr ((en.f a).drop j ++ rest))
 | own {z : Bool} {v : AV} {l : List α} {id k i : Nat} {ex : Bool} (hm : ownL z v en l ∈ C) (hv : v = .slice id 0 k ex l.length l.length) (ha : l[i]? = some a) : PtE C en a j (.ptr id (i * en.u + j) k)
def padd : AV → Nat → AV
 | .tptr cs, n => .tptr (cs.drop n)
 | .ptr id o k, n => .ptr id (o + n) k
 | v, _ => v
theorem PtE.add {α : Type} {en : En α} {a : α} {j k : Nat} {p : AV} (h : PtE C en a j p) (hk : j + k ≤ en.u) : PtE C en a (j + k) (padd p k) := by
 cases h with
 | tree rest hj =>
  have e : ((en.f a).drop j ++ rest).drop k = (en.f a).drop (j + k) ++ rest := by
   rw [List.drop_append, List.drop_drop]
   have : (List.drop j (en.f a)).length = en.u - j := by rw [List.length_drop, en.len]
   rw [this, Nat.sub_eq_zero_of_le (by omega : k ≤ en.u - j)];rfl
  show PtE C en a (j + k) (.tptr (((en.f a).drop j ++ rest).drop k));rw [e];exact .tree _ hk
 | own hm hv ha =>
  show PtE C en a (j + k) (.ptr _ _ _)
  have := PtE.own (j := j + k) hm hv ha;rw [← Nat.add_assoc] at this;exact this
theorem rdl_at {α : Type} {en : En α} {v : AV} {l : List α} {k : Int} {a : α} (h : Rdl C en v l) (hC : ∀ x ∈ C, x ∈ hs) (hk : 0 ≤ k ∧ k < l.length) (ha : l[k.toNat]? = some a) :
  ∀ S, HasS S hs → ∃ p, PtE C en a 0 p ∧ ∀ {E : Env} {σ : Sl} {hs : List Thing} {st e : TypeId} {x y : Operand}, SliceT E st e en.u → evs σ x = some v → evs σ y = some (iv k) → Val E σ hs (.indexAddr st x y) p := fun S hS => by
 rcases h with ⟨gs, rfl, rfl⟩ | ⟨z, hz⟩
 ·rcases gs.ok with ⟨h1, h2, h3⟩ | ⟨h1, h2⟩
  ·omega
  ·refine ⟨.tptr (en.f a ++ (gs.l.drop (k.toNat + 1)).flatMap en.f), .tree (j := 0) _ (Nat.zero_le _), fun {E σ hs st e x y} ht hx hy => ?_⟩;obtain ⟨a', rest, e1, hv⟩ := Val.index_gs (E := E) (σ := σ) (hs := hs) ht hx hy hk;intro ev S he hS o ho
   have hr := flat_drop (enc := en) gs.l k.toNat a ha;unfold aop; rw [ho]
   have e1 : decide (0 ≤ k) = true := decide_eq_true hk.1
   have e2 : decide (k < (gs.l.length : Int)) = true := decide_eq_true hk.2;simp only [he _ _ hx, he _ _ hy, h1, aindexAddr, intOf?, ht.1, ht.2, ofOpt, Except.bind, e1, e2, Bool.and_self, cond_true, valOf, hr];rfl
 ·rcases hS.ok _ (hC _ hz) with ⟨h0, h1, h2, h3⟩ | ⟨id, ex, h1, h2, h3, h4⟩
  ·omega
  ·refine ⟨.ptr id (k.toNat * en.u) (l.flatMap en.f).length, PtE.own (j := 0) hz h1 ha, fun {E σ hs st e x y} ht hx hy => ?_⟩
   have := Val.iaddr_slice (E := E) (hs := hs) ht (hx.trans (congrArg some h1)) hy hk
   rwa [Nat.zero_add] at this
theorem Val.faddr_e {α : Type} {en : En α} {a : α} {j : Nat} {p : AV} {s f fo m : Nat} {x : Operand} {fd : Field} (h : PtE C en a j p) (hf : fieldOf E s f = .ok (fd, m)) (hx : evs σ x = some p) (ho' : Nat.beq fd.offset fo = true) : Val E σ hs (.fieldAddr s x f) (padd p fo) := by
 have e := Nat.eq_of_beq_eq_true ho';cases h with
 | tree rest hj => exact Val.faddr_tree hf hx ho' rfl
 | own hm hv ha => exact Val.faddr_ptr hf hx (by rw [e]; exact Nat.beq_refl _)
theorem Val.load_e {α : Type} {en : En α} {a : α} {j : Nat} {p w : AV} {bt : TypeId} {x : Operand} (h : PtE C en a j p) (hC : ∀ x ∈ C, x ∈ hs) (ht : Scalar E bt) (hx : evs σ x = some p) (hw : (en.f a)[j]? = some w) : Val E σ hs (.load bt x) w := by
 have hj : j < (en.f a).length := (List.getElem?_eq_some_iff.1 hw).1;cases h with
 | tree rest hj' =>
  have e : (en.f a).drop j = w :: (en.f a).drop (j + 1) := by rw [List.drop_eq_getElem_cons hj, (List.getElem?_eq_some_iff.1 hw).2]
  rw [e] at hx;exact Val.load_tree ht hx
 | own hm hv ha =>
  obtain ⟨p, hp⟩ := List.mem_iff_getElem?.1 (hC _ hm);refine Val.load_own hp hv ht hx ?_;rw [flat_get ha (by rw [← en.len a]; exact hj)];exact hw
theorem Val.load_es {α : Type} {en : En α} {a : α} {j m : Nat} {p : AV} {c : List AV} {bt : TypeId} {x : Operand} (h : PtE C en a j p) (hC : ∀ x ∈ C, x ∈ hs) (ht : Aggr E bt m) (hx : evs σ x = some p) (hc : ((en.f a).drop j).take m = c) (hm : Nat.beq c.length m = true) : Val E σ hs (.load bt x) (.agg c) := by
 have hl := Nat.eq_of_beq_eq_true hm
 have hle : m ≤ (en.f a).length - j := by have := congrArg List.length hc; rw [List.length_take, List.length_drop] at this; omega
 cases h with
 | tree rest hj' =>
  have e : (en.f a).drop j ++ rest = c ++ (((en.f a).drop j).drop m ++ rest) := by rw [← hc, ← List.append_assoc, List.take_append_drop]
  rw [e] at hx;exact Val.load_trees ht hx hl
 | own hm hv ha =>
  obtain ⟨p, hp⟩ := List.mem_iff_getElem?.1 (hC _ hm)
  rename_i z v l id k i ex
  refine Val.load_owns hp hv ht hx ?_ hl
  have hd := flat_drop (enc := en) l i a ha;rw [← List.drop_drop, hd, List.drop_append_of_le_length (by have := en.len a; have := ht.2.2; omega), List.take_append_of_le_length (by rw [List.length_drop]; omega), hc]
theorem Val.len_l {α : Type} {en : En α} {v : AV} {l : List α} {x : Operand} {st e : TypeId} (h : Rdl C en v l) (hC : ∀ x ∈ C, x ∈ hs) (ht : E.und st = some (.slice e)) (hx : evs σ x = some v) :
  Val E σ hs (.call { callee := .builtin .len, args := #[x], argTypes := #[st] }) (iv l.length) := by
 rcases h with ⟨gs, rfl, rfl⟩ | ⟨z, hz⟩
 ·exact Val.len_gs ht hx
 ·obtain ⟨p, hp⟩ := List.mem_iff_getElem?.1 (hC _ hz);exact Val.len_own hp ht hx
theorem Rdl.reif {α : Type} {en : En α} {v : AV} {l : List α} (h : Rdl C en v l) (hC : ∀ x ∈ C, x ∈ hs) (ht : ∀ k hs, ReifL (k + 1) hs (l.flatMap en.f) (l.flatMap en.f)) : ∃ gs : GS en, gs.l = l ∧ ∀ k, Reif (k + 2) hs v gs.v := by
 rcases h with ⟨gs, rfl, rfl⟩ | ⟨z, hz⟩
 ·exact ⟨gs, rfl, fun k => .gs⟩
 ·exact ⟨GSo z en l, rfl, fun k => Reif.own (hC _ hz) (ht k hs)⟩
theorem Val.load_rowM {bt : TypeId} {x : Operand} {id u off k : Nat} {cells : List AV} {v : AV} (hp : Thing.row id u cells ∈ C) (hC : ∀ x ∈ C, x ∈ hs) (ht : Scalar E bt) (hx : evs σ x = some (.ptr id off k)) (hk : cells.length = k) (hv : cells[off]? = some v) : Val E σ hs (.load bt x) v := by
 obtain ⟨p, hp⟩ := List.mem_iff_getElem?.1 (hC _ hp);exact Val.load_row hp ht hx hk hv
theorem Val.load_rowsM {bt : TypeId} {x : Operand} {id u off k m : Nat} {cells c : List AV} (hp : Thing.row id u cells ∈ C) (hC : ∀ x ∈ C, x ∈ hs) (ht : Aggr E bt m) (hx : evs σ x = some (.ptr id off k)) (hk : cells.length = k) (hv : (cells.drop off).take m = c) (hm : Nat.ble (off + m) k = true) : Val E σ hs (.load bt x) (.agg c) := by
 obtain ⟨p, hp⟩ := List.mem_iff_getElem?.1 (hC _ hp);exact Val.load_rows hp ht hx hk hv hm
theorem splice_mid {xs ys ws : List AV} {off j : Nat} {cv : List AV} (h1 : xs.length = off) (h2 : j + cv.length ≤ ys.length) : spliceL (xs ++ (ys ++ ws)) (off + j) cv = xs ++ (spliceL ys j cv ++ ws) := by
 subst h1;unfold spliceL;rw [List.take_append, List.drop_append, List.take_of_length_le (by omega), List.drop_eq_nil_of_le (by omega), Nat.add_sub_cancel_left, List.nil_append];rw [List.take_append_of_le_length (by omega)]
 have e : xs.length + j + cv.length - xs.length = j + cv.length := by omega
 rw [e, List.drop_append_of_le_length h2];simp [List.append_assoc]
theorem flat_splice {α : Type} {en : En α} {l : List α} {k j : Nat} {a a' : α} {cv : List AV} (ha : l[k]? = some a) (h2 : j + cv.length ≤ en.u) (hc : spliceL (en.f a) j cv = en.f a') : spliceL (l.flatMap en.f) (k * en.u + j) cv = (l.set k a').flatMap en.f := by
 have hk : k < l.length := (List.getElem?_eq_some_iff.1 ha).1
 have e1 : l = l.take k ++ a :: l.drop (k + 1) := by rw [← (show l.drop k = a :: l.drop (k + 1) by rw [List.drop_eq_getElem_cons hk, (List.getElem?_eq_some_iff.1 ha).2]), List.take_append_drop]
 have hlk : (l.take k).length = k := by rw [List.length_take]; omega
 have e2 : l.set k a' = l.take k ++ a' :: l.drop (k + 1) := by
  rw [List.set_eq_take_append_cons_drop, if_pos hk]
 rw [e2]
 conv => lhs; rw [e1]
 rw [List.flatMap_append, List.flatMap_cons, splice_mid (by rw [flat_len, hlk]) (by rw [en.len]; exact h2), hc, List.flatMap_append, List.flatMap_cons]
theorem Eff.store_ownE {α : Type} {en : En α} {l : List α} {bt : TypeId} {x y : Operand} {p id k j m : Nat} {z : Bool} {v w : AV} {a a' : α} {cv : List AV} (hp : hs[p]? = some (ownL z v en l)) (hv : IsAt v en l id) (ha : l[k]? = some a) (ht : E.siz bt = some m) (hm : Nat.beq m 0 = false) (hu : j + m ≤ en.u)
  (hx : evs σ x = some (.ptr id (k * en.u + j) (l.flatMap en.f).length)) (hy : evs σ y = some w) (hcv : cellsOf w = cv) (hl : Nat.beq cv.length m = true) (ho1 : cv.all oneCell = true) (hc : spliceL (en.f a) j cv = en.f a') :
  Eff E σ hs (.store bt x y) fun _ hs' => hs' = hs.set p (ownL z v en (l.set k a')) := fun ev S he hS o ho => by
 obtain ⟨ex, hv⟩ := hv
 have hl' := Nat.eq_of_beq_eq_true hl
 have hk : k < l.length := (List.getElem?_eq_some_iff.1 ha).1
 have hle : (k + 1) * en.u ≤ l.length * en.u := Nat.mul_le_mul_right _ hk;rw [Nat.succ_mul] at hle
 have hfl := flat_len en l
 have hsp := flat_splice (en := en) ha (by omega : j + cv.length ≤ en.u) hc
 rcases hS.own hp with ⟨h0, h1, h2, h3⟩ | ⟨id', ex', h1, h2, h3, h4⟩
 ·rw [hv] at h1; cases h1
 ·have h1' := h1;rw [hv] at h1;cases h1
  have hsw := hS.swap hp (y := .row id en.u (l.flatMap en.f)) h4 (.inl (by rw [hv]; rfl))
  have hget : (hs.set p (.row id en.u (l.flatMap en.f)))[p]? = some (.row id en.u (l.flatMap en.f)) := by
   rw [List.getElem?_set]; simp [(List.getElem?_eq_some_iff.1 hp).1]
  obtain ⟨v2, S2, hs2, k1, k2, rfl⟩ := Eff.store_row (E := E) (bt := bt) hget ht hx rfl hy hcv hl hm ho1 (by omega) hsp ev S he hsw o ho;refine ⟨v2, S2, _, k1, ?_, rfl⟩
  have hget2 : ((hs.set p (.row id en.u (l.flatMap en.f))).set p (.row id en.u ((l.set k a').flatMap en.f)))[p]? = some (.row id en.u ((l.set k a').flatMap en.f)) := by
   rw [List.set_set, List.getElem?_set]; simp [(List.getElem?_eq_some_iff.1 hp).1]
  have hfl2 := flat_len en (l.set k a');rw [List.length_set] at hfl2
  have := k2.swap hget2 (y := ownL z v en (l.set k a')) (.inr ⟨id, ex, by rw [hv, List.length_set, hfl, hfl2], by rw [hfl2, List.length_set], fun hz => by rw [List.length_set]; exact h3 hz, k2.row hget2⟩) (.inl (by rw [hv]; rfl))
  rwa [List.set_set, List.set_set] at this
theorem Src.small {S : St} {x : AV} {u m : Nat} {new : List AV} (h : Src S x u m new) : Src S x u m new := h
theorem Eff.append {α : Type} {st e b p : Nat} {z : Bool} {v w : AV} {en : En α} {l l2 : List α} {ts : Array TypeId} {x y : Operand} (ht : AppT E st e en.u b) (hts : ts[0]? = some st) (hni : notInt E ts[1]? = .ok ()) (hp : hs[p]? = some (ownL z v en l))
  (hx : evs σ x = some v) (hy : evs σ y = some w) (hsrc : ∀ S, HasS S hs → Src S w en.u l2.length (l2.flatMap en.f)) (hb : b ≤ 128) (hbig : l.length + l2.length < 1000000000) :
  Eff E σ hs (.call { callee := .builtin .append, args := #[x, y], argTypes := ts }) fun v' hs' => hs' = hs.set p (ownL z v' en (l ++ l2)) := fun ev S he hS o ho => by
 have hbb : (2 * (l.length + l2.length) + 1000) * b ≤ (2 * 1000000000 + 1000) * 128 := Nat.mul_le_mul (by omega) hb;obtain ⟨v', S', h1, h2⟩ := append_own hS ht hts hni hp (hsrc S hS) (by omega);rw [ownL_append] at h2;refine ⟨v', S', _, ?_, h2, rfl⟩;unfold aop; rw [ho];simp only [acall, abuiltin, List.map_cons, List.map_nil, he _ _ hx, he _ _ hy, h1, Except.bind]
theorem Eff.append_own {α : Type} {st e b p q : Nat} {z z2 : Bool} {v w : AV} {en : En α} {l l2 : List α} {ts : Array TypeId} {x y : Operand} (ht : AppT E st e en.u b) (hts : ts[0]? = some st) (hni : notInt E ts[1]? = .ok ()) (hp : hs[p]? = some (ownL z v en l)) (hq : hs[q]? = some (ownL z2 w en l2))
  (hx : evs σ x = some v) (hy : evs σ y = some w) (hone : (l2.flatMap en.f).all oneCell = true) (hb : b ≤ 128) (hbig : l.length + l2.length < 1000000000) :
  Eff E σ hs (.call { callee := .builtin .append, args := #[x, y], argTypes := ts }) fun v' hs' => hs' = hs.set p (ownL z v' en (l ++ l2)) := .append ht hts hni hp hx hy (fun S hS => src_own hS hq hone) hb hbig
theorem Eff.append_l {α : Type} {st e b p : Nat} {z : Bool} {v w : AV} {en : En α} {l l2 : List α} {ts : Array TypeId} {x y : Operand} (ht : AppT E st e en.u b) (hts : ts[0]? = some st) (hni : notInt E ts[1]? = .ok ()) (hp : hs[p]? = some (ownL z v en l)) (hq : Rdl C en w l2) (hC : ∀ x ∈ C, x ∈ hs)
    (hx : evs σ x = some v) (hy : evs σ y = some w) (hone : (l2.flatMap en.f).all oneCell = true) (hb : b ≤ 128) (hbig : l.length + l2.length < 1000000000) :
    Eff E σ hs (.call { callee := .builtin .append, args := #[x, y], argTypes := ts }) fun v' hs' => hs' = hs.set p (ownL z v' en (l ++ l2)) := .append ht hts hni hp hx hy (fun S hS => by
      rcases hq with ⟨gs, rfl, rfl⟩ | ⟨z2, hz⟩
      · exact src_gs gs hone
      · obtain ⟨q, hq⟩ := List.mem_iff_getElem?.1 (hC _ hz)
        exact src_own hS hq hone) hb hbig
end
theorem mem0 {C : List Thing} : ∀ x ∈ C, x ∈ C := fun x h => h
theorem memS {C hs : List Thing} {y : Thing} (h : ∀ x ∈ C, x ∈ hs) : ∀ x ∈ C, x ∈ y :: hs := fun x hx => List.mem_cons_of_mem _ (h x hx)
theorem rdl_cellS {α : Type} {en : En α} {v : AV} {l : List α} {C hs : List Thing} (h : Rdl C en v l) (hC : ∀ x ∈ C, x ∈ hs) : ∀ S, HasS S hs → cellsOf v = [v] ∧ oneCell v = true := fun S hS => by
 rcases h with ⟨gs, rfl, rfl⟩ | ⟨z, hz⟩
 ·exact gs.cells
 ·exact own_cell (hS.ok _ (hC _ hz))
def En.Tr {α : Type} (e : En α) : Prop := ∀ a k hs, ReifL (k + 1) hs (e.f a) (e.f a)
theorem mapR_app {f : AV → R AV} : ∀ {a b c d : List AV}, mapR f a = .ok b → mapR f c = .ok d → mapR f (a ++ c) = .ok (b ++ d) := by
 intro a
 induction a with
 | nil => intro b c d h1 h2; cases h1; exact h2
 | cons x a ih =>
  intro b c d h1 h2;simp only [mapR] at h1;obtain ⟨y, h3, h4⟩ := bind_ok h1;obtain ⟨r, h5, h6⟩ := bind_ok h4;cases h6;simp only [List.cons_append, mapR, h3, ih h5 h2, Except.bind]
theorem ReifL.app {k : Nat} {hs : List Thing} {a b c d : List AV} (h1 : ReifL k hs a b) (h2 : ReifL k hs c d) : ReifL k hs (a ++ c) (b ++ d) := fun S hS => mapR_app (h1 S hS) (h2 S hS)
theorem ReifL.flat {α : Type} {e : En α} (h : e.Tr) {l : List α} : ∀ k hs, ReifL (k + 1) hs (l.flatMap e.f) (l.flatMap e.f) := by
 intro k hs
 induction l with
 | nil => exact .nil
 | cons a l ih => rw [List.flatMap_cons]; exact (h a k hs).app ih
theorem encI_tr : encI.Tr := fun _ _ _ => .cons .lit .nil
def encSl {α : Type} (e : En α) : En (GS e) := ⟨1, fun g => [g.v], fun _ => rfl⟩
theorem encI_lits : encI.Lits := fun n => ⟨[.int .i64 n], rfl⟩
section
variable {E : Env} {n : Nat} {rnd : Option Nat} {ops : Array Oper} {i : Nat} {l : List Nat} {ms : List Dfr} {σ : Sl} {hs hs' C : List Thing} {Q : Sy → Prop} {t : Tmp} {op : Op} {ty : TypeId} {pos : String} {af : Array Edge} {g : Option (Nat × Bool)}
end
end Go.Am
end
section
namespace Go.Am
open Go.RowKit
abbrev bk (signed : Int) (gs : List Gat) : Book := ⟨signed, GSo true encG gs⟩
end Go.Am
end
section
namespace Go.Am
open Go.RowKit
set_option linter.unusedVariables false
set_option linter.unusedSimpArgs false
section
variable {α β σ A : Type}
def foldx (body : σ → β → Option (Stp σ A)) : List β → σ → Option (Ex σ A)
 | [], s => some (.nx s)
 | a :: l, s => match body s a with
  | some (.ag s') => foldx body l s'
  | some (.dn r) => some (.rt r)
  | none => none
theorem Ok.foldx {body : σ → β → Option (Stp σ A)} (I : List β → σ → Prop) {Q : Ex σ A → Prop} : ∀ {l vis : List β} {s : σ}, I vis s → (∀ vis' a s, a ∈ l → I vis' s → vis' ++ [a] <+: vis ++ l → Ok (body s a) fun x => match x with | .ag s' => I (vis' ++ [a]) s' | .dn r => Q (.rt r)) →
  (∀ s, I (vis ++ l) s → Q (.nx s)) → Ok (Am.foldx body l s) Q := by
 intro l
 induction l with
 | nil => intro vis s h0 _ hq; exact .some (hq s (by rw [List.append_nil]; exact h0))
 | cons a l ih =>
  intro vis s h0 hs hq;obtain ⟨x, hx, hx'⟩ := hs vis a s (by simp) h0 ⟨l, by simp⟩;unfold Am.foldx;rw [hx];cases x with
  | ag s' => exact ih hx' (fun vis' b s hb hi hp => hs vis' b s (by simp [hb]) hi (by simpa using hp)) (fun s hi => hq s (by simpa using hi))
  | dn r => exact ⟨_, rfl, hx'⟩
end
section
variable {E : Env} {n : Nat} {ms : List Dfr} {σ : Sl} {hs : List Thing}
def VisitH {β : Type} (E : Env) (l : Nat) (Arg : β → List AV → List Thing → Prop) (D : List Thing) (all : List β) (Y Z : List β → List Thing → Prop) : Prop :=
 ∀ vis a vs G C B, vis ++ [a] <+: all → Arg a vs G → Y vis C → TR E l vs (C ++ (G ++ (D ++ B))) (fun v hs' => (v = bv true ∧ ∃ C', hs' = C' ++ (G ++ (D ++ B)) ∧ Y (vis ++ [a]) C') ∨ (v = bv false ∧ ∃ C', hs' = C' ++ (G ++ (D ++ B)) ∧ Z (vis ++ [a]) C'))
def Yields {β : Type} (E : Env) (f : FuncId) (first cap : List AV) (Arg : β → List AV → List Thing → Prop) (D : List Thing) (all : List β) : Prop :=
 ∀ l YY ZZ, VisitH E l Arg D all YY ZZ → ∀ C, YY [] C → TF E f (first ++ [AV.yield l] ++ cap) (D ++ C) fun v hs' => ∃ C', hs' = D ++ C' ∧ (YY all C' ∨ ∃ q r, all = q ++ r ∧ ZZ q C')
theorem TF.conv {f : FuncId} {args : List AV} {K K' : AV → List Thing → Prop} (h : TF E f args hs K) (hk : ∀ v h1, K v h1 → ∃ h2, h1.Perm h2 ∧ K' v h2) : TF E f args hs K' := fun S hS =>
 (h S hS).mono fun r ⟨v, S', h1, k0, k1, k2⟩ => by
  obtain ⟨h2, k3, k4⟩ := hk _ _ k2;exact ⟨v, S', h2, k0, k1.perm k3.symm, k4⟩
theorem TF.less {f : FuncId} {args : List AV} {K : AV → List Thing → Prop} {hs' : List Thing} (h : TF E f args hs' K) (hk : Less hs' hs) : TF E f args hs K := fun S hS => h S (hk S hS)
section
variable {J W A β : Type} {ps : Array Tmp}
def RepR (ms : Nat → List Dfr) (post : Nat → List Thing → List Thing) (σ : Sl) (st : J → W → List Thing) (Rep : A → Exit → Sy → Prop) (LB : Thing) (F : List Thing) : Stp J A → Exit → Sy → Prop
 | .ag s2, e, s' => e = .normal ∧ ∃ w2, Pk (LB :: (st s2 w2 ++ F)) s'.hs
 | .dn x, e, s' => ∃ c A', jumpOf e = .ok (some c) ∧ jumpExit c = .ok e ∧ Pk (LB :: (A' ++ F)) s'.hs ∧ ∀ d, Rep x e ⟨ms d, σ, post d A'⟩
theorem round_rep {mf : Nat → List Dfr} {post : Nat → List Thing → List Thing} {st : J → W → List Thing} {Rep : A → Exit → Sy → Prop} {l d : Nat} {tm : Trie AV} {ps : List Tmp} {assign body : Code} {vs : List AV} {σ' : Sl} {σ0 : Sl} {A0 F : List Thing} {ans : Stp J A} (ht : HasT tm σ)
  (hps : parS ps vs σ = some σ') (hn : ps.all (fun p => Nat.blt p n) = true)
  (hb : ∀ LR LB, IsLoop LB l d → T E n (some l) assign ⟨[], σ', LR :: (A0 ++ F)⟩ (AssignQ E n l body LR LB (RepR mf post σ0 st Rep LB F ans))) :
  TR E l vs (loopT l n tm ps assign body .ready none d :: (A0 ++ F)) fun v hs' => (v = bv true ∧ ∃ s w, ans = .ag s ∧ hs' = loopT l n tm ps assign body .ready none d :: (st s w ++ F)) ∨
   (v = bv false ∧ ∃ A' c e x, ans = .dn x ∧ hs' = loopT l n tm ps assign body .done (some c) d :: (A' ++ F) ∧ jumpExit c = .ok e ∧ ∀ d, Rep x e ⟨mf d, σ0, post d A'⟩) := by
 refine TR.round (p := 0) (pd := none) rfl ht hps hn ((hb (loopT l n tm ps assign body .ready none d) (loopT l n tm ps assign body .busy none d) ⟨_, _, _, _, _, _, _, rfl⟩).monoS ?_);rintro e ⟨ms1, σ1, hs0⟩ ⟨rfl, p, h1, h2⟩;simp only at h1 h2;obtain ⟨q1, q2⟩ := pick_perm (loopT l n tm ps assign body .busy none d) h1;refine ⟨⟨ms1, σ1, loopT l n tm ps assign body .ready none d :: hs0.eraseIdx p⟩, fun a S hi => ⟨hi.act, hi.mem.perm q1.symm⟩, rfl, none, rfl, ?_⟩
 show T E n (some l) body ⟨ms1, σ1, loopT l n tm ps assign body .busy none d :: hs0.eraseIdx p⟩ _;refine T.monoS (T.perm q2 h2) ?_;rintro e ⟨ms2, σ2, hs2⟩ h3;cases ans with
 | ag s =>
  obtain ⟨rfl, w, h4⟩ := h3;exact ⟨⟨ms2, σ2, loopT l n tm ps assign body .busy none d :: (st s w ++ F)⟩, fun a S hi => ⟨hi.act, h4.less S hi.mem⟩, ⟨none, rfl⟩, none, rfl, .inl ⟨rfl, s, w, rfl, rfl⟩⟩
 | dn x =>
  obtain ⟨c, A', h5, h6, h4, h7⟩ := h3;exact ⟨⟨ms2, σ2, loopT l n tm ps assign body .busy none d :: (A' ++ F)⟩, fun a S hi => ⟨hi.act, h4.less S hi.mem⟩, ⟨none, rfl⟩, some c, h5, .inr ⟨rfl, A', c, e, x, rfl, rfl, h6, h7⟩⟩
theorem perm_in (x : Thing) (C G D B : List Thing) : (C ++ (G ++ (D ++ (x :: B)))).Perm (x :: (C ++ (G ++ (D ++ B)))) := by
 have h1 : (C ++ (G ++ (D ++ (x :: B)))) = (C ++ (G ++ D)) ++ x :: B := by simp [List.append_assoc]
 have h2 : (C ++ (G ++ (D ++ B))) = (C ++ (G ++ D)) ++ B := by simp [List.append_assoc]
 rw [h1, h2];exact List.perm_middle
theorem foldx_cons {body : J → β → Option (Stp J A)} {a : β} {l : List β} {s : J} {B : J → Option A} {r : A} (h : seqx (foldx body (a :: l) s) B = some r) : ∃ ans, body s a = some ans ∧ match ans with | .ag s' => seqx (foldx body l s') B = some r | .dn x => x = r := by
 unfold foldx at h;cases hb : body s a with
 | none => rw [hb] at h; cases h
 | some ans =>
  rw [hb] at h;cases ans with
  | ag s' => exact ⟨_, rfl, h⟩
  | dn x => cases h; exact ⟨_, rfl, rfl⟩
theorem T.rangeP (Arg : β → List AV → List Thing → Prop) (st : J → W → List Thing) (D : List Thing) {all : List β} {body : J → β → Option (Stp J A)} {s0 : J} {w0 : W} {B : J → Option A} {r : A} {Rep : A → Exit → Sy → Prop} {x : Operand} {f : FuncId} {fn : Func} {first cap : List AV} {assign bodyc : Code}
    (h : seqx (foldx body all s0) B = some r) (hx : evs σ x = some (.func f first cap)) (hf : E.fn f = some fn) (hn : ps.toList.all (fun p => Nat.blt p n) = true) (hhs : Pk (st s0 w0 ++ D) hs) (hy : Yields E f first cap Arg D all)
    (hbody : ∀ l d s w a vs G F ans, a ∈ all → Arg a vs G → (∀ x ∈ D, x ∈ F) → (∀ x ∈ G, x ∈ F) → body s a = some ans → ∃ σ1, parS ps.toList vs σ = some σ1 ∧
      ∀ LR LB, IsLoop LB l d → T E n (some l) assign ⟨[], σ1, LR :: (st s w ++ F)⟩ (AssignQ E n l bodyc LR LB (RepR (fun (d : Nat) => d :: ms) (fun d A' => .obj d (.dfr true) :: (A' ++ D)) σ st Rep LB F ans)))
    (hN : ∀ (d : Nat) s w, B s = some r → Rep r .normal ⟨d :: ms, σ, .obj d (.dfr true) :: (st s w ++ D)⟩) : T E n none (.rangeFunc x ps assign bodyc) ⟨ms, σ, hs⟩ (Rep r) := by
  refine fun a S hi => ?_
  have hi' : Is n none a S ⟨ms, σ, st s0 w0 ++ D⟩ := ⟨hi.act, hhs.less S hi.mem⟩
  refine T.rangeFunc (ms := ms) (hs := st s0 w0 ++ D) hx hf (fun l d tm htm => ?_) a S hi'
  have hit := hy l (fun vis C => ∃ s w, C = loopT l n tm ps.toList assign bodyc .ready none d :: .obj d (.dfr true) :: st s w ∧ ∃ rest, all = vis ++ rest ∧ seqx (foldx body rest s) B = some r)
    (fun vis C => ∃ A c e, C = loopT l n tm ps.toList assign bodyc .done (some c) d :: .obj d (.dfr true) :: A ∧ jumpExit c = .ok e ∧ ∀ (d : Nat), Rep r e ⟨d :: ms, σ, .obj d (.dfr true) :: (A ++ D)⟩) ?_ _ ⟨s0, w0, rfl, all, rfl, h⟩
  · have pm : ∀ (L : Thing) (A : List Thing), (D ++ L :: .obj d (.dfr true) :: A).Perm (L :: .obj d (.dfr true) :: (A ++ D)) := fun L A =>
      List.perm_middle.trans (List.Perm.cons _ (List.perm_middle.trans (List.Perm.cons _ List.perm_append_comm)))
    refine TF.perm (TF.conv hit ?_) (pm _ _)
    rintro v hs' ⟨C', rfl, (⟨s, w, rfl, rest, h1, h2⟩ | ⟨q, r', hq, A, c, e, rfl, hc, hA⟩)⟩
    · have : rest = [] := by simpa using h1
      subst this
      exact ⟨_, pm _ _, 0, .ready, none, rfl, by decide, hN d s w h2⟩
    · exact ⟨_, pm _ _, 0, .done, some c, rfl, by decide, e, hc, hA d⟩
  · rintro vis a vs G _ B' hP ha ⟨s, w, rfl, rest, h1, h2⟩
    obtain ⟨t2, ht2⟩ := hP
    have h3 : rest = a :: t2 := by
      rw [h1, List.append_assoc] at ht2
      exact (List.append_cancel_left ht2).symm
    subst h3
    obtain ⟨ans, hb, hr⟩ := foldx_cons h2
    obtain ⟨σ1, k1, k2⟩ := hbody l d s w a vs G (G ++ (D ++ .obj d (.dfr true) :: B')) ans (by rw [h1]; simp) ha (fun x hx => by simp [hx]) (fun x hx => by simp [hx]) hb
    refine (round_rep (mf := fun (d : Nat) => d :: ms) (post := fun d A' => .obj d (.dfr true) :: (A' ++ D)) (F := G ++ (D ++ .obj d (.dfr true) :: B')) htm k1 hn k2).conv (List.Perm.cons _ (perm_in _ _ _ _ _)) ?_
    rintro v h1' (⟨rfl, s', w', rfl, rfl⟩ | ⟨rfl, A', c, e, x, rfl, rfl, hc, hR⟩)
    · exact ⟨_, List.Perm.cons _ (perm_in _ _ _ _ _), .inl ⟨rfl, _, rfl, s', w', rfl, t2, by rw [h1]; simp, hr⟩⟩
    · cases hr
      exact ⟨_, List.Perm.cons _ (perm_in _ _ _ _ _), .inr ⟨rfl, _, rfl, A', c, e, rfl, hc, hR⟩⟩
end
end
end Go.Am
end
section
namespace Go.Am
open Go.RowKit
set_option linter.unusedVariables false
set_option linter.unusedSimpArgs false
inductive CellsL : List (Nat × AV) → List (Nat × List AV) → Prop
 | nil : CellsL [] []
 | cons {i : Nat} {v : AV} {c : List AV} {vs : List (Nat × AV)} {ws : List (Nat × List AV)} (h : cellsOf v = c) (hl : CellsL vs ws) : CellsL ((i, v) :: vs) ((i, c) :: ws)
def fillC (place : Nat → Option (Nat × Nat)) : List AV → List (Nat × List AV) → R (List AV)
 | cells, [] => .ok cells
 | cells, (i, c) :: rest =>
  match place i with
  | none => .error "fill no such place"
  | some (off, size) =>
   bif Nat.beq c.length size && Nat.ble (off + c.length) cells.length then fillC place (spliceL cells off c) rest
   else .error "fill size"
theorem fillA_C {place : Nat → Option (Nat × Nat)} {vs : List (Nat × AV)} {ws : List (Nat × List AV)} (h : CellsL vs ws) : ∀ cells, fillA place cells vs = fillC place cells ws := by
 induction h with
 | nil => intro cells; rfl
 | cons h hl ih =>
  intro cells
  rename_i i v c vs ws
  simp only [fillA, fillC, h];cases hp : place i with
  | none => rfl
  | some x => simp only [ih]
def abuildC (E : Env) (t : TypeId) (parts : List (Nat × List AV)) : R AV :=
 (ofOpt (E.zro t) "zero").bind fun z =>
 (ofOpt (E.und t) "type").bind fun d =>
 match d with
 | .struct fields => (placesOf E fields.toList).bind fun ps => (fillC (fun i => ps[i]?) (zeroCells z) parts).bind fun cs => .ok (.agg cs)
 | .array _ e => (ofOpt (E.siz e) "size").bind fun sz => (fillC (fun i => some (i * sz, sz)) (zeroCells z) parts).bind fun cs => .ok (.agg cs)
 | _ => .error "build"
theorem abuild_C {E : Env} {t : TypeId} {vs : List (Nat × AV)} {ws : List (Nat × List AV)} (h : CellsL vs ws) : abuild E t vs = abuildC E t ws := by
 unfold abuild abuildC
 congr 1
 funext z
 congr 1
 funext d
 cases d <;> simp only [fillA_C h]
section
variable {E : Env} {n : Nat} {rnd : Option Nat} {ops : Array Oper} {i : Nat} {l : List Nat} {ms : List Dfr} {σ : Sl} {hs hs' C : List Thing} {Q : Sy → Prop} {t : Tmp} {op : Op} {ty : TypeId} {pos : String} {af : Array Edge} {g : Option (Nat × Bool)}
theorem Val.buildC {bt : TypeId} {parts : Array (Nat × Operand)} {vs : List (Nat × AV)} {ws : List (Nat × List AV)} {cs : List AV} (hx : evsL σ (parts.toList.map (·.2)) = some (vs.map (·.2))) (hi : parts.toList.map (·.1) = vs.map (·.1)) (hc : CellsL vs ws) (hb : abuildC E bt ws = .ok (.agg cs)) :
  Val E σ hs (.build bt parts) (.agg cs) := Val.build hx hi (by rw [abuild_C hc]; exact hb)
end
section
variable {E : Env} {n : Nat} {rnd : Option Nat} {ops : Array Oper} {i : Nat} {l : List Nat} {ms : List Dfr} {σ : Sl} {hs : List Thing} {Q : Sy → Prop} {t : Tmp} {ty : TypeId} {pos : String} {af : Array Edge} {g : Option (Nat × Bool)}
variable {past : List (Nat × List Thing)} {seen : List Rd} {fl : List Fl}
theorem TD2.callJ (hE : ∀ v, E.same.1 v v = true) {J A W : Type} (vw : J → W → AV) (hw : J → W → List Thing) {X : Option J} {B : J → Option A} {r : A} {f : FuncId} {fn : Func} {x : Operand} {xs : Array Operand} {ts : Array TypeId} {vs first cap : List AV} (h : andx X B = some r)
    (ho : ops[i]? = some ⟨some t, .call { callee := .value x, args := xs, argTypes := ts }, ty, pos, af, g⟩) (hk : 2 ≤ kindOf ⟨some t, .call { callee := .value x, args := xs, argTypes := ts }, ty, pos, af, g⟩) (hd : Nat.blt t n = true) (hwt : wantS ops σ g = some true) (hx : evs σ x = some (.func f first cap)) (hxs : evsL σ xs.toList = some vs) (hf : E.fn f = some fn) (hG : E.orc f = none)
    (hc : ∀ j, X = some j → TF E f (first ++ vs ++ cap) hs (RepF (vw j) (hw j)))
    (k : ∀ j w, B j = some r → (∀ r ∈ seen, bitOf (CheckFast.beforeL ops.toList 0 []) i r.i = true ∨ Same' E ops (hw j w) r) ∧ (∀ f ∈ fl, bitOf (CheckFast.beforeL ops.toList 0 []) i f.i = true ∨ Thing.obj f.id (.row f.cells f.u 0) ∈ hw j w) ∧
      TD2 E n rnd ops l ⟨ms, (t, vw j w) :: σ, hw j w⟩ ((i, hs) :: past) seen fl Q) : TD2 E n rnd ops (i :: l) ⟨ms, σ, hs⟩ past seen fl Q := by
  obtain ⟨j, hX, hB⟩ := andx_some h
  refine TD2.heavy hE ho hk hd hwt (OpS.callV rfl hx hxs hf hG (RepF.conv (hc j hX))) ?_
  rintro v hs' ⟨w, rfl, rfl⟩
  exact k j w hB
end
end Go.Am
end
section
namespace Go.Am
open Go.RowKit
set_option linter.unusedVariables false
set_option linter.unusedSimpArgs false
def seg {α : Type} (en : En α) (ws : List AV) (ls : List (List α)) : List Thing := List.zipWith (fun w l => ownL true w en l) ws ls
theorem seg_append {α : Type} {en : En α} {ws ws2 : List AV} {ls ls2 : List (List α)} (h : ws.length = ls.length) : seg en (ws ++ ws2) (ls ++ ls2) = seg en ws ls ++ seg en ws2 ls2 := by
 unfold seg; rw [List.zipWith_append h]
theorem Less.perm {a b : List Thing} (h : b.Perm a) : Less a b := fun S k => k.perm h.symm
section
variable {E : Env} {d : Bool} {n : Nat} {rnd : Option Nat} {ops : Array Oper} {i : Nat} {l l1 l2 : List Nat} {ms : List Dfr} {σ : Sl} {hs hs' C : List Thing} {Q : Sy → Prop} {t : Tmp} {op : Op} {ty : TypeId} {pos : String} {af : Array Edge} {g : Option (Nat × Bool)}
variable {past : List (Nat × List Thing)} {seen : List Rd} {fl : List Fl}
theorem T.less {c : Code} {Q : Exit → Sy → Prop} (hk : Less hs' hs) (h : T E n rnd c ⟨ms, σ, hs'⟩ Q) : T E n rnd c ⟨ms, σ, hs⟩ Q := fun a S hi => h a S ⟨hi.act, hk S hi.mem⟩
theorem TO.less (hk : Less hs' hs) (h : TO E d n rnd ops l ⟨ms, σ, hs'⟩ Q) : TO E d n rnd ops l ⟨ms, σ, hs⟩ Q := fun a S hi => h a S ⟨hi.act, hk S hi.mem⟩
theorem TD1.less (hk : Less hs' hs) (h : TD1 E n rnd ops l1 l2 ⟨ms, σ, hs'⟩ seen fl Q) : TD1 E n rnd ops l1 l2 ⟨ms, σ, hs⟩ seen fl Q := fun a S xs fs hi hx hf => h a S xs fs ⟨hi.act, hk S hi.mem⟩ hx hf
theorem TD2.less (hk : Less hs' hs) (h : TD2 E n rnd ops l ⟨ms, σ, hs'⟩ past seen fl Q) : TD2 E n rnd ops l ⟨ms, σ, hs⟩ past seen fl Q := fun a S ps xs fs hi hp hx hf => h a S ps xs fs ⟨hi.act, hk S hi.mem⟩ hp hx hf
end
end Go.Am
end
section
namespace Go.Am
open Go.RowKit
set_option linter.unusedVariables false
set_option linter.unusedSimpArgs false
def New (E : Env) (σ : Sl) (hs : List Thing) (op : Op) (K : Nat → AV) (cells : List AV) (u : Nat) : Prop :=
 ∀ (ev : Operand → AV) (S : St), (∀ x v, evs σ x = some v → ev x = v) → HasS S hs → ∀ o : Oper, o.op = op → aop E S ev o = .ok (.val (K S.next), S.new (.row cells u 0))
section
variable {E : Env} {σ : Sl} {hs : List Thing}
theorem Eff.new {op : Op} {K : Nat → AV} {cells : List AV} {u : Nat} (h : New E σ hs op K cells u) : Eff E σ hs op fun v hs' => ∃ id, v = K id ∧ hs' = .row id u cells :: hs := fun ev S he hS o ho =>
 ⟨_, _, _, h ev S he hS o ho, hS.new _ (x := .row S.next u cells) ⟨0, Nat.zero_le _, by rw [St.new_get, if_pos rfl]⟩ (fun i hi => by cases hi; rfl), S.next, rfl, rfl⟩
theorem New.box {bt : TypeId} {x : Operand} {v : AV} {u k : Nat} {cells : List AV} (hx : evs σ x = some v) (hc : cellsOf v = cells) (hk : cells.length = k) (hu : unitOf E bt = .ok u) : New E σ hs (.box bt x) (fun id => .ptr id 0 k) cells u := fun ev S he hS o ho => by
 subst hk;unfold aop; rw [ho];simp only [he _ _ hx, newVarA, hu, hc, Except.bind, newOf]
theorem New.alloc {bt : TypeId} {z : Value} {u k : Nat} {cells : List AV} (hz : E.zro bt = some z) (hc : cellsOf (ofV 4 z) = cells) (hk : cells.length = k) (hu : unitOf E bt = .ok u) : New E σ hs (.alloc bt) (fun id => .ptr id 0 k) cells u := fun ev S he hS o ho => by
 subst hk;unfold aop; rw [ho];simp only [aalloc, hz, ofOpt, newVarA, hu, hc, Except.bind, newOf]
theorem New.buildSlice {α : Type} {en : En α} {l : List α} {st e len : Nat} {parts : Array (Nat × Operand)} {zs : List AV} {vs : List (Nat × AV)} {ws : List (Nat × List AV)} (ht : SliceT E st e en.u) (hsm : Nat.blt (2 ^ 24) (len * en.u) = false) (hz : zerosOf E e en.u len = .ok zs)
  (hx : evsL σ (parts.toList.map (·.2)) = some (vs.map (·.2))) (hi : parts.toList.map (·.1) = vs.map (·.1)) (hc : CellsL vs ws) (hf : fillC (fun i => some (i * en.u, en.u)) zs ws = .ok (l.flatMap en.f)) (hl : Nat.beq len l.length = true) :
  New E σ hs (.buildSlice st len parts) (fun id => .slice id 0 (l.flatMap en.f).length true l.length l.length) (l.flatMap en.f) en.u := fun ev S he hS o ho => by
 have hl' := Nat.eq_of_beq_eq_true hl;subst hl'
 have h1 : ∀ (xs : List Operand) (vs : List AV), evsL σ xs = some vs → xs.map ev = vs := by
  intro xs
  induction xs with
  | nil => intro vs hv; cases hv; rfl
  | cons x xs ih =>
   intro vs hv;simp only [evsL] at hv;split at hv
   ·rename_i v r h1 h2
    cases hv;rw [List.map_cons, ih _ h2, he _ _ h1]
   ·cases hv
 have hps : partsOf ev parts = vs := by
  have h1 := h1 _ _ hx;unfold partsOf
  have : ∀ (ps : List (Nat × Operand)) (vs : List (Nat × AV)), (ps.map (·.2)).map ev = vs.map (·.2) → ps.map (·.1) = vs.map (·.1) → ps.map (fun x => (x.1, ev x.2)) = vs := by
   intro ps
   induction ps with
   | nil => intro vs h1 h2; cases vs with | nil => rfl | cons => cases h2
   | cons p ps ih =>
    intro vs h1 h2;cases vs with
    | nil => cases h2
    | cons v vs =>
     simp only [List.map_cons, List.cons.injEq] at h1 h2 ⊢;exact ⟨by rw [h1.1, h2.1], ih vs h1.2 h2.2⟩
  exact this _ _ h1 hi
 unfold aop; rw [ho];simp only [abuildSlice, ht.1, ht.2, ofOpt, Except.bind, hsm, cond_false, hz, hps, fillA_C hc, hf, newSliceA, newOf]
end
theorem IsRow.of_new {S : St} {id u : Nat} {cells : List AV} (h : S.heap.get id = some (.row cells u 0)) : IsRow S id u cells := ⟨0, Nat.zero_le _, h⟩
theorem Less.floatRow {b : List Thing} {p id u : Nat} {cells : List AV} (hp : b[p]? = some (.obj id (.row cells u 0))) : Less (b.set p (.row id u cells)) b := fun S k =>
 k.swap hp (IsRow.of_new (k.ok _ (List.mem_of_getElem? hp))) (.inl rfl)
theorem own_of_row {α : Type} {S : St} {en : En α} {l : List α} {id : Nat} (h : IsRow S id en.u (l.flatMap en.f)) : (ownL false (.slice id 0 (l.flatMap en.f).length true l.length l.length) en l).ok S :=
 .inr ⟨id, true, rfl, flat_len en l, (fun h => by cases h), h⟩
theorem Less.floatOwn {α : Type} {b : List Thing} {p id : Nat} {en : En α} {l : List α} (hp : b[p]? = some (.obj id (.row (l.flatMap en.f) en.u 0))) : Less (b.set p (ownL false (.slice id 0 (l.flatMap en.f).length true l.length l.length) en l)) b := fun S k =>
 k.swap hp (own_of_row (IsRow.of_new (k.ok _ (List.mem_of_getElem? hp)))) (.inl rfl)
theorem Less.rowOwn {α : Type} {b : List Thing} {p id : Nat} {en : En α} {l : List α} (hp : b[p]? = some (.row id en.u (l.flatMap en.f))) : Less (b.set p (ownL false (.slice id 0 (l.flatMap en.f).length true l.length l.length) en l)) b := fun S k =>
 k.swap hp (own_of_row (k.ok _ (List.mem_of_getElem? hp))) (.inl rfl)
end Go.Am
end
section
namespace Go.Am
open Go.RowKit
set_option linter.unusedVariables false
section
variable {E : Env} {n : Nat} {rnd : Option Nat} {ops : Array Oper} {i : Nat} {l1 l2 : List Nat} {ms : List Dfr} {σ : Sl} {hs : List Thing} {Q : Sy → Prop} {t : Tmp} {op : Op} {ty : TypeId} {pos : String} {af : Array Edge} {g : Option (Nat × Bool)}
variable {seen : List Rd} {fl : List Fl}
theorem TD1.floatN {u : Nat} {cells : List AV} {K : Nat → AV} (ho : ops[i]? = some ⟨some t, op, ty, pos, af, g⟩) (hk : kindOf ⟨some t, op, ty, pos, af, g⟩ = 3) (hd : Nat.blt t n = true) (hw : wantS ops σ g = some true) (h : New E σ hs op K cells u)
  (k : ∀ id, TD1 E n rnd ops l1 l2 ⟨ms, (t, K id) :: σ, .obj id (.row cells u 0) :: hs⟩ seen (⟨i, id, u, cells⟩ :: fl) Q) : TD1 E n rnd ops (i :: l1) l2 ⟨ms, σ, hs⟩ seen fl Q := TD1.float ho hk hd hw h k
end
noncomputable def orsB (base : Orc') (mkE : Orc' → Env) (lev : Nat → Option Nat) : Nat → Orc'
 | 0 => base
 | k + 1 => fun f => if lev f = some k then some (sem (mkE (orsB base mkE lev k)) f) else orsB base mkE lev k f
variable {base : Orc'} {mkE : Orc' → Env} {lev : Nat → Option Nat}
theorem orsB_get {f j : Nat} (hl : lev f = some j) : ∀ {k : Nat}, j < k → orsB base mkE lev k f = some (sem (mkE (orsB base mkE lev j)) f) := by
 intro k
 induction k with
 | zero => intro h; omega
 | succ k ih =>
  intro h
  have e : orsB base mkE lev (k + 1) f = if lev f = some k then some (sem (mkE (orsB base mkE lev k)) f) else orsB base mkE lev k f := rfl;rw [e]
  by_cases hk : lev f = some k
  ·rw [if_pos hk];rw [hl] at hk;cases hk;rfl
  ·rw [if_neg hk];refine ih ?_
   have : j ≠ k := fun e => hk (e ▸ hl)
   omega
theorem orsB_base {f : Nat} (hl : lev f = none) : ∀ {k : Nat}, orsB base mkE lev k f = base f := by
 intro k
 induction k with
 | zero => rfl
 | succ k ih =>
  have e : orsB base mkE lev (k + 1) f = if lev f = some k then some (sem (mkE (orsB base mkE lev k)) f) else orsB base mkE lev k f := rfl;rw [e, hl, if_neg (by intro h; cases h)];exact ih
theorem orsB_good {P : Program} (hP : ∀ o, (mkE o).P = P) (ho : ∀ o, (mkE o).orc = o) {og : Nat → List (Nat × List Value)} (hb : ∀ f g, base f = some g → Meets P f g (og f)) (hE : ∀ o : Orc', (∀ f g, o f = some g → Meets P f g (og f)) → EnvGood (mkE o)) (hgl : ∀ o, (mkE o).og = og := by intro o; rfl) : ∀ k, EnvGood (mkE (orsB base mkE lev k)) := by
 intro k
 induction k with
 | zero => exact hE _ hb
 | succ k ih =>
  refine hE _ fun f g h => ?_
  unfold orsB at h;split at h
  ·cases h;rw [← hP (orsB base mkE lev k)]
   have := meets_of ih (f := f) (g := sem (mkE (orsB base mkE lev k)) f) fun args t hg => (sem_comes hg).runsTo
   rw [hgl] at this;exact this
  ·rw [← hP (orsB base mkE lev k)]
   have := ih.orc f g (by rw [ho]; exact h);rw [hgl] at this;exact this
theorem orsLB (ho : ∀ o, (mkE o).orc = o) {f j k : Nat} (h : lev f = some j) (hk : j < k) : (mkE (orsB base mkE lev k)).orc f = some (sem (mkE (orsB base mkE lev j)) f) := by
 rw [ho]; exact orsB_get h hk
def levB (base : Orc') (lev : Nat → Option Nat) (f : Nat) : Option Nat := match lev f, base f with | none, none => none | _, _ => some 0
theorem orsNB (ho : ∀ o, (mkE o).orc = o) {f k : Nat} (h : levB base lev f = none) : (mkE (orsB base mkE lev k)).orc f = none := by
 rw [ho];unfold levB at h;split at h
 ·rename_i h1 h2
  rw [orsB_base h1, h2]
 ·cases h
end Go.Am
end
section
namespace Go.Am
open Go.RowKit
set_option linter.unusedVariables false
set_option linter.unusedSimpArgs false
abbrev ivk (k : IntKind) (n : Int) : AV := .lit (.int k n)
def encU8 : En UInt8 := ⟨1, fun b => [ivk .u8 (b.toNat : Int)], fun _ => rfl⟩
section
variable {E : Env} {d : Bool} {n : Nat} {rnd : Option Nat} {ops : Array Oper} {i : Nat} {ns : List Nat} {ms : List Dfr} {σ : Sl} {hs hs' C : List Thing} {Q : Sy → Prop} {t : Tmp} {op : Op} {ty : TypeId} {pos : String} {af : Array Edge} {g : Option (Nat × Bool)}
theorem pure_conv {P : Program} {src dst : TypeId} {s : TypeDesc} {k2 kk : IntKind} {a b : Int} (h1 : pureVal P (underlying src) = some s) (h2 : pureVal P (underlying dst) = some (.int k2)) (hb : k2.wrap a = b) : pureVal P (convert src dst (.int kk a)) = some (.int k2 b) := by
 subst hb;unfold convert;rw [pv_bind, h1, Option.bind_some, pv_bind, h2, Option.bind_some];cases s <;> rfl
theorem Val.conv {src dst : TypeId} {x : Operand} {k2 kk : IntKind} {a b : Int} (hc : pureVal E.P (convert src dst (.int kk a)) = some (.int k2 b)) (hx : evs σ x = some (ivk kk a)) : Val E σ hs (.convert src dst x) (ivk k2 b) := fun ev S he _ o ho => by
 have hp : pureOp E (Go.convert src dst) (ivk kk a) = .ok (ivk k2 b) := by
  simp only [pureOp, toV, Except.bind, hc, ofOpt];rfl
 unfold aop; rw [ho]; simp only [he _ _ hx, aconv, hp]; rfl
theorem Val.eqlK {k : IntKind} {xt ty : TypeId} {x y : Operand} {a b : Int} {c : Bool} (hc : c = decide (a = b)) (hx : evs σ x = some (ivk k a)) (hy : evs σ y = some (ivk k b)) : Val E σ hs (.binOp .eql xt x y ty) (bv c) := fun ev S he _ o ho => by
 subst hc
 have hp : abin E .eql xt x y (ivk k a) (ivk k b) = .ok (bv (decide (a = b))) := by
  have e : decide (a = b) = (a == b) := by by_cases h : a = b <;> simp [h]
  rw [e];cases k <;> rfl
 unfold aop; rw [ho]; simp only [he _ _ hx, he _ _ hy, hp]; rfl
def RdT {α : Type} (en : En α) (v : AV) (l : List α) : Prop := ∃ gs : GS en, gs.v = v ∧ gs.l = l
theorem RdT.gs {α : Type} {en : En α} (x : GS en) : RdT en x.v x.l := ⟨x, rfl, rfl⟩
theorem RdT.rdl {α : Type} {en : En α} {v : AV} {l : List α} (h : RdT en v l) : Rdl C en v l := .inl h
theorem flat_drop2 {α : Type} (en : En α) : ∀ (l : List α) (k : Nat), (l.flatMap en.f).drop (k * en.u) = (l.drop k).flatMap en.f := by
 intro l
 induction l with
 | nil => intro k; simp
 | cons a l ih =>
  intro k;cases k with
  | zero => simp
  | succ k =>
   rw [List.flatMap_cons, List.drop_append, en.len a, Nat.succ_mul, List.drop_eq_nil_of_le (by rw [en.len]; omega), List.nil_append, Nat.add_sub_cancel, List.drop_succ_cons];exact ih k
theorem flat_take2 {α : Type} (en : En α) : ∀ (l : List α) (k : Nat), (l.flatMap en.f).take (k * en.u) = (l.take k).flatMap en.f := by
 intro l
 induction l with
 | nil => intro k; simp
 | cons a l ih =>
  intro k;cases k with
  | zero => simp
  | succ k =>
   rw [List.flatMap_cons, List.take_append, en.len a, Nat.succ_mul, List.take_of_length_le (by rw [en.len]; omega), Nat.add_sub_cancel, List.take_succ_cons, List.flatMap_cons];exact congrArg _ (ih k)
theorem bounds_ok {m lo hi : Nat} {olo ohi : Option AV} (hl : lo ≤ hi) (hh : hi ≤ m) (h1 : (olo = none ∧ lo = 0) ∨ olo = some (iv (lo : Int))) (h2 : (ohi = none ∧ hi = m) ∨ ohi = some (iv (hi : Int))) : boundsOf m m olo ohi none = .ok (lo, hi, m) := by
 have b1 : decide ((0 : Int) ≤ (hi : Int)) = true := decide_eq_true (by omega)
 have b2 : decide ((hi : Int) ≤ (m : Int)) = true := decide_eq_true (by omega)
 have b3 : decide ((0 : Int) ≤ (lo : Int)) = true := decide_eq_true (by omega)
 have b4 : decide ((lo : Int) ≤ (hi : Int)) = true := decide_eq_true (by omega)
 have b5 : decide ((lo : Int) ≤ (m : Int)) = true := decide_eq_true (by omega)
 rcases h1 with ⟨rfl, rfl⟩ | rfl <;> rcases h2 with ⟨rfl, rfl⟩ | rfl
 ·rfl
 ·simp only [boundsOf, boundOf, intOf?, Except.bind, b1, b2, Bool.and_self, cond_true, Int.toNat_natCast]
 ·simp only [boundsOf, boundOf, intOf?, Except.bind, b3, b5, Bool.and_self, cond_true, Int.toNat_natCast]
 ·simp only [boundsOf, boundOf, intOf?, Except.bind, b1, b2, b3, b4, Bool.and_self, cond_true, Int.toNat_natCast]
def Bd (σ : Sl) (o : Option Operand) (dflt val : Int) : Prop := (o = none ∧ val = dflt) ∨ ∃ x, o = some x ∧ evs σ x = some (iv val)
theorem Bd.no {σ : Sl} {d : Int} : Bd σ none d d := .inl ⟨rfl, rfl⟩
theorem Bd.some {σ : Sl} {x : Operand} {d v : Int} (h : evs σ x = some (iv v)) : Bd σ (some x) d v := .inr ⟨x, rfl, h⟩
theorem slice_T {α : Type} {en : En α} {v : AV} {l : List α} (h : RdT en v l) {lo hi : Int} (hb : 0 ≤ lo ∧ lo ≤ hi ∧ hi ≤ l.length) : ∃ w, RdT en w ((l.drop lo.toNat).take (hi - lo).toNat) ∧ (lo < hi → w = (GSo true en ((l.drop lo.toNat).take (hi - lo).toNat)).v) ∧
  ∀ {E : Env} {σ : Sl} {hs : List Thing} {st e : TypeId} {x : Operand} {olo ohi : Option Operand}, SliceT E st e en.u → evs σ x = some v → Bd σ olo 0 lo → Bd σ ohi l.length hi → Val E σ hs (.slice st x olo ohi none) w := by
 obtain ⟨gs, rfl, rfl⟩ := h;obtain ⟨a, rfl⟩ : ∃ a : Nat, lo = a := ⟨lo.toNat, by omega⟩;obtain ⟨b, rfl⟩ : ∃ b : Nat, hi = b := ⟨hi.toNat, by omega⟩
 have hab : a ≤ b := by omega
 have hbl : b ≤ gs.l.length := by omega
 have e0 : ((b : Int) - (a : Int)).toNat = b - a := by omega
 rw [Int.toNat_natCast, e0]
 have hlen : ((gs.l.drop a).take (b - a)).length = b - a := by rw [List.length_take, List.length_drop]; omega
 have ops : ∀ {σ : Sl} {ev : Operand → AV} {o : Option Operand} {df : Int} {k : Nat}, (∀ x v, evs σ x = some v → ev x = v) → Bd σ o df (k : Int) → (o.map ev = none ∧ (k : Int) = df) ∨ o.map ev = some (iv (k : Int)) := fun he hB => by
  rcases hB with ⟨rfl, h⟩ | ⟨x, rfl, h⟩
  ·exact .inl ⟨rfl, h⟩
  ·exact .inr (congrArg some (he _ _ h))
 rcases gs.ok with ⟨h1, h2, h3⟩ | ⟨h1, h2⟩
 ·have hl : gs.l = [] := List.eq_nil_of_length_eq_zero h2;refine ⟨nilS, ⟨⟨nilS, _, .inl ⟨rfl, by rw [hl]; simp, by rw [hl]; simp⟩⟩, rfl, rfl⟩, fun h => by omega, fun {E σ hs st e x olo ohi} ht hx hl1 hh1 ev S he hS o ho => ?_⟩
  have hbd := bounds_ok (m := 0) (lo := a) (hi := b) (olo := olo.map ev) (ohi := ohi.map ev) hab (by omega) ((ops he hl1).imp (fun x => ⟨x.1, by omega⟩) fun x => x) ((ops he hh1).imp (fun x => ⟨x.1, by have := x.2; rw [h2] at this; omega⟩) fun x => x);unfold aop; rw [ho];simp only [he _ _ hx, h1, nilS, aslice, ht.1, ht.2, ofOpt, Except.bind, Option.map_none, isLitInt, Bool.false_and, cond_false, hbd, valOf];rfl
 ·refine ⟨.tree en.u (b - a) (((gs.l.drop a).take (b - a)).flatMap en.f), ⟨⟨_, _, .inr ⟨by rw [hlen], by rw [flat_len]⟩⟩, rfl, rfl⟩, fun h => ?_, fun {E σ hs st e x olo ohi} ht hx hl1 hh1 ev S he hS o ho => ?_⟩
  ·have e1 : (GSo true en ((gs.l.drop a).take (b - a))).v = slv true en.u ((gs.l.drop a).take (b - a)).length (((gs.l.drop a).take (b - a)).flatMap en.f) := rfl;rw [e1];unfold slv;rw [hlen]
   have : Nat.beq (b - a) 0 = false := beq_false.2 (by omega);rw [this];rfl
  ·have hbd := bounds_ok (m := gs.l.length) (lo := a) (hi := b) (olo := olo.map ev) (ohi := ohi.map ev) hab hbl ((ops he hl1).imp (fun x => ⟨x.1, by omega⟩) fun x => x) ((ops he hh1).imp (fun x => ⟨x.1, by have := x.2; omega⟩) fun x => x)
   have b3 : Nat.beq en.u en.u = true := Nat.beq_refl _
   have e1 : ((gs.l.flatMap en.f).drop (a * en.u)).take ((b - a) * en.u) = ((gs.l.drop a).take (b - a)).flatMap en.f := by rw [flat_drop2, flat_take2]
   unfold aop; rw [ho];simp only [he _ _ hx, h1, aslice, ht.1, ht.2, ofOpt, Except.bind, Option.map_none, isLitInt, Bool.false_and, cond_false, hbd, valOf, b3, cond_true, e1];rfl
end
end Go.Am
end
section
namespace Go.Am
open Go.RowKit
set_option linter.unusedVariables false
set_option linter.unusedSimpArgs false
section
variable {E : Env} {d : Bool} {n : Nat} {rnd : Option Nat} {ops : Array Oper} {i : Nat} {ns : List Nat} {ms : List Dfr} {σ : Sl} {hs hs' C : List Thing} {Q : Sy → Prop} {t : Tmp} {op : Op} {ty : TypeId} {pos : String} {af : Array Edge} {g : Option (Nat × Bool)}
theorem RdT.tree {α : Type} {en : En α} {v : AV} {l : List α} (h : RdT en v l) (hl : 0 < l.length) : ∃ cs, v = .tree en.u l.length cs := by
 obtain ⟨gs, rfl, rfl⟩ := h
 rcases gs.ok with ⟨h1, h2, h3⟩ | ⟨h1, h2⟩
 ·omega
 ·exact ⟨_, h1⟩
theorem pure_eqBool {P : Program} {t d : Nat} {a b : Bool} (h : pureVal P (underlying t) = some .bool) : pureVal P (Op.equalIn (d + 1) t (.bool a) (.bool b)) = some (a == b) := by
 unfold Op.equalIn;rw [pv_bind, h];simp [pv_pure]
end
end Go.Am
end
section
namespace Go.Am
open Go.RowKit
set_option linter.unusedVariables false
theorem R2 {α β : Type} {a : α} {b : β} : a = a ∧ b = b := ⟨rfl, rfl⟩
theorem R3 {α β γ : Type} {a : α} {b : β} {c : γ} : a = a ∧ b = b ∧ c = c := ⟨rfl, R2⟩
theorem R4 {α β γ δ : Type} {a : α} {b : β} {c : γ} {d : δ} : a = a ∧ b = b ∧ c = c ∧ d = d := ⟨rfl, R3⟩
theorem R5 {α β γ δ ε : Type} {a : α} {b : β} {c : γ} {d : δ} {e : ε} : a = a ∧ b = b ∧ c = c ∧ d = d ∧ e = e := ⟨rfl, R4⟩
theorem R6 {α β γ δ ε ζ : Type} {a : α} {b : β} {c : γ} {d : δ} {e : ε} {f : ζ} : a = a ∧ b = b ∧ c = c ∧ d = d ∧ e = e ∧ f = f := ⟨rfl, R5⟩
theorem R7 {α β γ δ ε ζ η : Type} {a : α} {b : β} {c : γ} {d : δ} {e : ε} {f : ζ} {g : η} : a = a ∧ b = b ∧ c = c ∧ d = d ∧ e = e ∧ f = f ∧ g = g := ⟨rfl, R6⟩
section
variable {E : Env} {d : Bool} {n : Nat} {rnd : Option Nat} {ops : Array Oper} {i : Nat} {l : List Nat} {ms : List Dfr} {σ : Sl} {hs hs' C : List Thing} {Q : Sy → Prop} {t : Tmp} {op : Op} {ty : TypeId} {pos : String} {af : Array Edge} {g : Option (Nat × Bool)} {x y : Operand} {v w : AV}
theorem zO (h : ops[i]? = some ⟨some t, op, ty, pos, af, g⟩ ∧ Nat.blt t n = true ∧ wantS ops σ g = some false) (k : TO E d n rnd ops l ⟨ms, (t, undefA) :: σ, hs⟩ Q) : TO E d n rnd ops (i :: l) ⟨ms, σ, hs⟩ Q := TO.off h.1 h.2.1 h.2.2 k
theorem zV (h : ops[i]? = some ⟨some t, op, ty, pos, af, g⟩ ∧ Nat.blt t n = true ∧ wantS ops σ g = some true) (c : Val E σ hs op v) (k : TO E d n rnd ops l ⟨ms, (t, v) :: σ, hs⟩ Q) : TO E d n rnd ops (i :: l) ⟨ms, σ, hs⟩ Q := TO.val h.1 h.2.1 h.2.2 c k
theorem zM (h : ops[i]? = some ⟨some t, .move x, ty, pos, af, g⟩ ∧ Nat.blt t n = true ∧ wantS ops σ g = some true ∧ evs σ x = some v) (k : TO E d n rnd ops l ⟨ms, (t, v) :: σ, hs⟩ Q) : TO E d n rnd ops (i :: l) ⟨ms, σ, hs⟩ Q := TO.val h.1 h.2.1 h.2.2.1 (Val.move h.2.2.2) k
theorem zA (h : ops[i]? = some ⟨some t, .assign x, ty, pos, af, g⟩ ∧ Nat.blt t n = true ∧ wantS ops σ g = some true ∧ evs σ x = some v) (k : TO E d n rnd ops l ⟨ms, (t, v) :: σ, hs⟩ Q) : TO E d n rnd ops (i :: l) ⟨ms, σ, hs⟩ Q := TO.val h.1 h.2.1 h.2.2.1 (Val.assign h.2.2.2) k
theorem zP {c : Operand} {b : Bool} (h : ops[i]? = some ⟨some t, .pick c x y, ty, pos, af, g⟩ ∧ Nat.blt t n = true ∧ wantS ops σ g = some true ∧ evs σ c = some (bv b) ∧ evs σ x = some v ∧ evs σ y = some w) (k : TO E d n rnd ops l ⟨ms, (t, bif b then v else w) :: σ, hs⟩ Q) : TO E d n rnd ops (i :: l) ⟨ms, σ, hs⟩ Q := TO.val h.1 h.2.1 h.2.2.1 (Val.pick h.2.2.2.1 h.2.2.2.2.1 h.2.2.2.2.2) k
theorem zX {j : Nat} {vs : List AV} (h : ops[i]? = some ⟨some t, .extract x j, ty, pos, af, g⟩ ∧ Nat.blt t n = true ∧ wantS ops σ g = some true ∧ evs σ x = some (.tuple vs) ∧ vs[j]? = some v) (k : TO E d n rnd ops l ⟨ms, (t, v) :: σ, hs⟩ Q) : TO E d n rnd ops (i :: l) ⟨ms, σ, hs⟩ Q := TO.val h.1 h.2.1 h.2.2.1 (Val.extract h.2.2.2.1 h.2.2.2.2) k
theorem zF (fo : Nat) {s f id off k m : Nat} {fd : Field} (h : ops[i]? = some ⟨some t, .fieldAddr s x f, ty, pos, af, g⟩ ∧ Nat.blt t n = true ∧ wantS ops σ g = some true ∧ fieldOf E s f = .ok (fd, m) ∧ evs σ x = some (.ptr id off k) ∧ Nat.beq (off + fd.offset) fo = true) (c : TO E d n rnd ops l ⟨ms, (t, .ptr id fo k) :: σ, hs⟩ Q) : TO E d n rnd ops (i :: l) ⟨ms, σ, hs⟩ Q := TO.val h.1 h.2.1 h.2.2.1 (Val.faddr_ptr h.2.2.2.1 h.2.2.2.2.1 h.2.2.2.2.2) c
theorem zL (p : Nat) {bt : TypeId} {id u off k : Nat} {cells : List AV} {b : TypeDesc} (h : ops[i]? = some ⟨some t, .load bt x, ty, pos, af, g⟩ ∧ Nat.blt t n = true ∧ wantS ops σ g = some true) (e : hs[p]? = some (.row id u cells) ∧ E.und bt = some b ∧ isAggT b = false ∧ evs σ x = some (.ptr id off k) ∧ cells.length = k ∧ cells[off]? = some v) (c : TO E d n rnd ops l ⟨ms, (t, v) :: σ, hs⟩ Q) : TO E d n rnd ops (i :: l) ⟨ms, σ, hs⟩ Q := TO.val h.1 h.2.1 h.2.2 (Val.load_row e.1 ⟨_, e.2.1, e.2.2.1⟩ e.2.2.2.1 e.2.2.2.2.1 e.2.2.2.2.2) c
theorem vR {bt : TypeId} {p id u off k : Nat} {cells : List AV} {b : TypeDesc} (e : hs[p]? = some (.row id u cells) ∧ E.und bt = some b ∧ isAggT b = false ∧ evs σ x = some (.ptr id off k) ∧ cells.length = k ∧ cells[off]? = some v) : Val E σ hs (.load bt x) v := Val.load_row e.1 ⟨_, e.2.1, e.2.2.1⟩ e.2.2.2.1 e.2.2.2.2.1 e.2.2.2.2.2
theorem vW (p : Nat) (c : List AV) {bt : TypeId} {id u off k m : Nat} {cells : List AV} {b : TypeDesc} (e : hs[p]? = some (.row id u cells) ∧ E.und bt = some b ∧ isAggT b = true ∧ E.siz bt = some m ∧ Nat.beq m 0 = false) (h : evs σ x = some (.ptr id off k) ∧ cells.length = k ∧ (cells.drop off).take m = c ∧ Nat.ble (off + m) k = true) : Val E σ hs (.load bt x) (.agg c) := Val.load_rows e.1 ⟨⟨_, e.2.1, e.2.2.1⟩, e.2.2.2.1, fun z => by subst z; cases e.2.2.2.2⟩ h.1 h.2.1 h.2.2.1 h.2.2.2
theorem zG (hs' : List Thing) (e : hs = hs') (h : TO E d n rnd ops l ⟨ms, σ, hs'⟩ Q) : TO E d n rnd ops l ⟨ms, σ, hs⟩ Q := e ▸ h
theorem zQ (k : Nat) (cells : List AV) {bt : TypeId} {u : Nat} (h : ops[i]? = some ⟨some t, .box bt x, ty, pos, af, g⟩ ∧ Nat.blt t n = true ∧ wantS ops σ g = some true ∧ evs σ x = some v ∧ cellsOf v = cells ∧ cells.length = k ∧ unitOf E bt = .ok u) (c : ∀ id, TO E false n rnd ops l ⟨ms, (t, .ptr id 0 k) :: σ, .row id u cells :: hs⟩ Q) : TO E false n rnd ops (i :: l) ⟨ms, σ, hs⟩ Q := TO.box h.1 h.2.1 h.2.2.1 h.2.2.2.1 h.2.2.2.2.1 h.2.2.2.2.2.1 h.2.2.2.2.2.2 c
theorem zJ (k : Nat) (cells : List AV) {bt : TypeId} {u : Nat} {z : Value} (h : ops[i]? = some ⟨some t, .alloc bt, ty, pos, af, g⟩ ∧ Nat.blt t n = true ∧ wantS ops σ g = some true ∧ E.zro bt = some z ∧ cellsOf (ofV 4 z) = cells ∧ cells.length = k ∧ unitOf E bt = .ok u) (c : ∀ id, TO E false n rnd ops l ⟨ms, (t, .ptr id 0 k) :: σ, .row id u cells :: hs⟩ Q) : TO E false n rnd ops (i :: l) ⟨ms, σ, hs⟩ Q := TO.alloc h.1 h.2.1 h.2.2.1 h.2.2.2.1 h.2.2.2.2.1 h.2.2.2.2.2.1 h.2.2.2.2.2.2 c
theorem zN (h : Q ⟨ms, σ, hs⟩) : TO E d n rnd ops [] ⟨ms, σ, hs⟩ Q := TO.nil h
variable {l1 l2 : List Nat} {seen : List Rd} {fl : List Fl} {past : List (Nat × List Thing)}
theorem yR (h : ops[i]? = some ⟨some t, op, ty, pos, af, g⟩ ∧ kindOf ⟨some t, op, ty, pos, af, g⟩ = 1 ∧ Nat.blt t n = true ∧ wantS ops σ g = some true) (c : Val E σ hs op v)
  (k : TD1 E n rnd ops l1 l2 ⟨ms, (t, v) :: σ, hs⟩ (⟨i, σ, v⟩ :: seen) fl Q) : TD1 E n rnd ops (i :: l1) l2 ⟨ms, σ, hs⟩ seen fl Q := TD1.read h.1 h.2.1 h.2.2.1 h.2.2.2 c k
theorem yL (h : ops[i]? = some ⟨some t, op, ty, pos, af, g⟩ ∧ kindOf ⟨some t, op, ty, pos, af, g⟩ = 0 ∧ Nat.blt t n = true ∧ wantS ops σ g = some true) (c : Val E σ hs op v)
  (k : TD1 E n rnd ops l1 l2 ⟨ms, (t, v) :: σ, hs⟩ seen fl Q) : TD1 E n rnd ops (i :: l1) l2 ⟨ms, σ, hs⟩ seen fl Q := TD1.light h.1 h.2.1 h.2.2.1 h.2.2.2 c k
theorem yM (h : ops[i]? = some ⟨some t, op, ty, pos, af, g⟩ ∧ kindOf ⟨some t, op, ty, pos, af, g⟩ = 0 ∧ Nat.blt t n = true ∧ wantS ops σ g = some true) (c : Val E σ hs op v)
  (k : TD2 E n rnd ops l ⟨ms, (t, v) :: σ, hs⟩ past seen fl Q) : TD2 E n rnd ops (i :: l) ⟨ms, σ, hs⟩ past seen fl Q := TD2.light h.1 h.2.1 h.2.2.1 h.2.2.2 c k
theorem yG (hs' : List Thing) (e : hs = hs') (h : TD2 E n rnd ops l ⟨ms, σ, hs'⟩ past seen fl Q) : TD2 E n rnd ops l ⟨ms, σ, hs⟩ past seen fl Q := e ▸ h
end
section
variable {E : Env} {n : Nat} {rnd : Option Nat} {s s' : Sy} {Q : Exit → Sy → Prop} {x y : Code} {g : Operand}
theorem zT {id : Nat} {ops : Array Oper} {l : List Nat} (hl : List.range ops.size = l) (h : TO E false n rnd ops l s (Q .normal)) : T E n rnd (.region id ops false) s Q := T.text hl h
theorem zS (h : T E n rnd x s (Then E n rnd y Q)) : T E n rnd (.seq x y) s Q := T.seq h
theorem zU {id : Nat} {ops : Array Oper} {l : List Nat} (hl : List.range ops.size = l) (h : TO E false n rnd ops l s (Then E n rnd y Q .normal)) : T E n rnd (.seq (.region id ops false) y) s Q := T.seq (T.text hl h)
theorem zK (h : Q .normal s) : T E n rnd .skip s Q := T.skip h
theorem zB {id : Nat} (h : T E n rnd x s (Blk id Q)) : T E n rnd (.block id x) s Q := T.block h
theorem zR (h : Q .ret s) : T E n rnd .ret s Q := T.ret h
theorem zE {i : Nat} (h : Q (.exit i) s) : T E n rnd (.exit i) s Q := T.exit h
theorem zC (e : evs s.sl g = some (bv true)) (h : T E n rnd x s Q) : T E n rnd (.cond g x y) s Q := T.condT (fun a ha => ha.ev _ _ e) h
theorem zD (e : evs s.sl g = some (bv false)) (h : T E n rnd y s Q) : T E n rnd (.cond g x y) s Q := T.condF (fun a ha => ha.ev _ _ e) h
end
theorem M1 {C : List Thing} {a : Thing} : ∀ x ∈ C, x ∈ a :: C := memS mem0
theorem M2 {C : List Thing} {a b : Thing} : ∀ x ∈ C, x ∈ a :: b :: C := memS M1
theorem M3 {C : List Thing} {a b c : Thing} : ∀ x ∈ C, x ∈ a :: b :: c :: C := memS M2
theorem M4 {C : List Thing} {a b c d : Thing} : ∀ x ∈ C, x ∈ a :: b :: c :: d :: C := memS M3
theorem M5 {C : List Thing} {a b c d e : Thing} : ∀ x ∈ C, x ∈ a :: b :: c :: d :: e :: C := memS M4
theorem M6 {C : List Thing} {a b c d e f : Thing} : ∀ x ∈ C, x ∈ a :: b :: c :: d :: e :: f :: C := memS M5
theorem M7 {C : List Thing} {a b c d e f g : Thing} : ∀ x ∈ C, x ∈ a :: b :: c :: d :: e :: f :: g :: C := memS M6
theorem zI {α : Type} {p : Prop} [Decidable p] {c : Bool} {a b r : α} (hc : c = decide p) (h : (if p then a else b) = r) : (c = true ∧ p ∧ a = r) ∨ (c = false ∧ ¬ p ∧ b = r) := by
 subst hc
 by_cases hp : p
 ·rw [if_pos hp] at h; exact .inl ⟨decide_eq_true hp, hp, h⟩
 ·rw [if_neg hp] at h; exact .inr ⟨decide_eq_false hp, hp, h⟩
theorem zZ {α : Type} {c : Bool} {a b r : α} (h : (if c = true then a else b) = r) : (c = true ∧ a = r) ∨ (c = false ∧ b = r) := by
 cases c
 ·exact .inr ⟨rfl, h⟩
 ·exact .inl ⟨rfl, h⟩
theorem zY (p : Prop) [Decidable p] : ∃ c : Bool, c = decide p := ⟨_, rfl⟩
def pks : List Nat → List Thing → List Thing
 | [], b => b
 | p :: ps, b => match p, b with
  | 98, _ :: b => pks ps b
  | p, b => match b[p]? with
   | some x => x :: pks ps (b.eraseIdx p)
   | none => b
theorem pk_ok : ∀ (ps : List Nat) (b : List Thing), Pk (pks ps b) b
 | [], b => .refl
 | p :: ps, b => by
  unfold pks;split
  ·exact .drop (pk_ok ps _)
  ·split
   ·exact .pick (by assumption) (pk_ok ps _)
   ·exact .refl
theorem pk {a b : List Thing} (ps : List Nat) (h : pks ps b = a) : Pk a b := h ▸ pk_ok ps b
theorem sb {a b : Sy} (p : Pk a.hs b.hs) (m : a.ms = b.ms := by exact rfl) (k : ∀ t v, lk a.sl t = some v → lk b.sl t = some v := by repeat' first | exact keep_nil | refine keep_cons rfl ?_) : Sub2 a b := ⟨m, k, p⟩
theorem aD {p : Prop} (h : p := by first | decide | omega) : p := h
theorem aG {p : Prop} (h : p := by first | rfl | (simp [GS.one]; done)) : p := h
end Go.Am
end
section
namespace Go.Am
open Go.RowKit
set_option linter.unusedVariables false
set_option linter.unusedSimpArgs false
section
variable {E : Env} {σ : Sl} {hs : List Thing}
end
theorem Less.carry {α : Type} {en : En α} {ws1 ws2 : List AV} {l1 l2 : List (List α)} (A : List Thing) {C : List Thing} (a : Nat) (h1 : ws1.length = l1.length) (h2 : ws2.length = l2.length) :
  Less (A ++ (seg en ((ws2.take a ++ ws1) ++ ws2.drop a) ((l2.take a ++ l1) ++ l2.drop a) ++ C)) (A ++ (seg en ws1 l1 ++ (seg en ws2 l2 ++ C))) := by
 refine .perm (List.Perm.append_left A ?_)
 have ht : (ws2.take a).length = (l2.take a).length := by rw [List.length_take, List.length_take, h2]
 have e2 : seg en ws2 l2 = seg en (ws2.take a) (l2.take a) ++ seg en (ws2.drop a) (l2.drop a) := by
  rw [← seg_append ht, List.take_append_drop, List.take_append_drop]
 rw [seg_append (by rw [List.length_append, List.length_append, ht, h1]), seg_append ht, e2];generalize seg en ws1 l1 = X;generalize seg en (ws2.take a) (l2.take a) = Y;generalize seg en (ws2.drop a) (l2.drop a) = Z
 have : (X ++ (Y ++ Z ++ C)).Perm (Y ++ X ++ Z ++ C) := by
  rw [List.append_assoc Y Z C, ← List.append_assoc X, List.append_assoc (Y ++ X)];exact List.Perm.append_right _ List.perm_append_comm
 exact this
section
variable {E : Env} {σ : Sl} {hs : List Thing}
end
inductive RdA {α : Type} (C : List Thing) (en : En α) : List AV → List (List α) → Prop
 | nil : RdA C en [] []
 | cons {v : AV} {l : List α} {vs : List AV} {ls : List (List α)} (h : Rdl C en v l) (hs : RdA C en vs ls) : RdA C en (v :: vs) (l :: ls)
theorem RdA.at {α : Type} {C : List Thing} {en : En α} {vs : List AV} {ls : List (List α)} (h : RdA C en vs ls) : ∀ {i : Nat} {l : List α}, ls[i]? = some l → ∃ v, vs[i]? = some v ∧ Rdl C en v l := by
 induction h with
 | nil => intro i l hl; cases hl
 | @cons v l vs ls h hs ih =>
  intro i l' hl;cases i with
  | zero => injection hl with e; subst e; exact ⟨v, rfl, h⟩
  | succ i => exact ih hl
theorem RdA.len {α : Type} {C : List Thing} {en : En α} {vs : List AV} {ls : List (List α)} (h : RdA C en vs ls) : vs.length = ls.length := by
 induction h with
 | nil => rfl
 | cons h hs ih => rw [List.length_cons, List.length_cons, ih]
theorem RdA.pos {α : Type} {C : List Thing} {en : En α} {vs : List AV} {ls : List (List α)} (h : RdA C en vs ls) {i : Int} (hi : 0 ≤ i ∧ i < ls.length) : 0 ≤ i ∧ i < vs.length := by
 rw [h.len]; exact hi
end Go.Am
end
section
namespace Go.Am
open Go.RowKit
set_option linter.unusedVariables false
abbrev Str := List UInt8
def sv (l : Str) : AV := .lit (.string ⟨l.toArray⟩)
def encStr : En Str := ⟨1, fun l => [sv l], fun _ => rfl⟩
theorem encStr_ones : encStr.Ones := fun x => by simp [encStr, sv, oneCell]
theorem encStr_tr : encStr.Tr := fun _ _ _ => .cons .lit .nil
def byteAt (l : Str) (k : Int) : Int := ((l.getD k.toNat 0).toNat : Int)
theorem size_mk (l : Str) : (⟨l.toArray⟩ : ByteArray).size = l.length := by simp [ByteArray.size]
theorem toList_mk (l : Str) : (⟨l.toArray⟩ : ByteArray).toList = l := by rw [ByteArray.toList_eq]
section
variable {E : Env} {σ : Sl} {hs : List Thing}
theorem Val.len_str {x : Operand} {l : Str} {st : TypeId} (ht : E.und st = some .string) (hx : evs σ x = some (sv l)) :
  Val E σ hs (.call { callee := .builtin .len, args := #[x], argTypes := #[st] }) (iv l.length) := fun ev S he _ o ho => by
 unfold aop; rw [ho];simp only [acall, abuiltin, alen, List.map_cons, List.map_nil, he _ _ hx, List.getElem?_toArray, List.getElem?_cons_zero, ht, ofOpt, Except.bind, sv, size_mk, val]
theorem Val.index_str {t : TypeId} {x y : Operand} {l : Str} {k : Int} (ht : E.und t = some .string) (hx : evs σ x = some (sv l)) (hy : evs σ y = some (iv k)) (hk : 0 ≤ k ∧ k < l.length) :
  Val E σ hs (.index t x y) (ivk .u8 (byteAt l k)) := fun ev S he _ o ho => by
 unfold aop; rw [ho]
 have hlt : k.toNat < l.length := by omega
 have e1 : decide (0 ≤ k) = true := decide_eq_true hk.1
 have e2 : l.toArray[k.toNat]? = some (l.getD k.toNat 0) := by
  simp [List.getD, List.getElem?_eq_getElem hlt]
 simp only [he _ _ hx, he _ _ hy, aindex, intOf?, ht, ofOpt, Except.bind, sv, e1, cond_true, e2, valOf, val, ivk, byteAt]
theorem abin_str {op : BinOp} {xt : TypeId} {x y : Operand} {l m : Str} {b : Bool} (h : pureVal E.P (Op.stringOp op ⟨l.toArray⟩ ⟨m.toArray⟩) = some (.bool b)) (ho : op ≠ .shl ∧ op ≠ .shr) : abin E op xt x y (sv l) (sv m) = .ok (bv b) := by
 have e : pureVal E.P (do eqGuard op xt x y (.string ⟨l.toArray⟩) (.string ⟨m.toArray⟩); binOp op xt (.string ⟨l.toArray⟩) (.string ⟨m.toArray⟩)) = some (.bool b) := by
  rw [← h];cases op <;> first | rfl | exact absurd rfl ho.1 | exact absurd rfl ho.2
 cases op <;> (simp only [abin, abinPure, sv, toV, Except.bind, e, ofOpt]; rfl)
theorem Val.eql_str {xt ty : TypeId} {x y : Operand} {l m : Str} {c : Bool} (hc : c = decide (l = m)) (hx : evs σ x = some (sv l)) (hy : evs σ y = some (sv m)) :
    Val E σ hs (.binOp .eql xt x y ty) (bv c) := fun ev S he _ o ho => by
  have hp : abin E .eql xt x y (sv l) (sv m) = .ok (bv c) := abin_str (by
    simp only [Op.stringOp, toList_mk]
    show some (Value.bool (l == m)) = _
    rw [hc]
    by_cases h : l = m <;> simp [h]) ⟨by decide, by decide⟩
  unfold aop; rw [ho]; simp only [he _ _ hx, he _ _ hy, hp]; rfl
theorem Val.neq_str {xt ty : TypeId} {x y : Operand} {l m : Str} {c : Bool} (hc : c = decide (¬ l = m)) (hx : evs σ x = some (sv l)) (hy : evs σ y = some (sv m)) :
    Val E σ hs (.binOp .neq xt x y ty) (bv c) := fun ev S he _ o ho => by
  have hp : abin E .neq xt x y (sv l) (sv m) = .ok (bv c) := abin_str (by
    simp only [Op.stringOp, toList_mk]
    show some (Value.bool (!(l == m))) = _
    rw [hc]
    by_cases h : l = m <;> simp [h]) ⟨by decide, by decide⟩
  unfold aop; rw [ho]; simp only [he _ _ hx, he _ _ hy, hp]; rfl
theorem abin_cmp {op : BinOp} {k : IntKind} {xt : TypeId} {x y : Operand} {a b : Int} {c : Bool} (h : pureVal E.P (Op.intCmp op a b) = some (.bool c)) (ho : op = .lss ∨ op = .gtr ∨ op = .leq ∨ op = .geq ∨ op = .eql ∨ op = .neq) :
  abin E op xt x y (ivk k a) (ivk k b) = .ok (bv c) := by
 have e : pureVal E.P (do eqGuard op xt x y (.int k a) (.int k b); binOp op xt (.int k a) (.int k b)) = some (.bool c) := by
  rw [← h]
  rcases ho with rfl | rfl | rfl | rfl | rfl | rfl <;>
   (unfold eqGuard binOp; simp <;> rfl)
 have key : abinPure E op xt x y (ivk k a) (ivk k b) = .ok (bv c) := by
  simp only [abinPure, toV, Except.bind, e, ofOpt]
  first | done | rfl
 by_cases hk : k = .i64
 ·subst hk
  rcases ho with rfl | rfl | rfl | rfl | rfl | rfl <;>
   (cases h; rfl)
 ·rcases ho with rfl | rfl | rfl | rfl | rfl | rfl <;>
   (unfold abin; split <;> first | (rename_i h1 h2; cases h1; exact absurd rfl hk) | (rename_i h1 h2 h3; cases h2; exact absurd rfl hk) | simp only [key])
theorem Val.cmpK {op : BinOp} {k : IntKind} {xt ty : TypeId} {x y : Operand} {a b : Int} {c : Bool} (hx : evs σ x = some (ivk k a)) (hy : evs σ y = some (ivk k b)) (h : pureVal E.P (Op.intCmp op a b) = some (.bool c))
  (ho : op = .lss ∨ op = .gtr ∨ op = .leq ∨ op = .geq ∨ op = .eql ∨ op = .neq) : Val E σ hs (.binOp op xt x y ty) (bv c) := fun ev S he _ o hop => by
 unfold aop; rw [hop]; simp only [he _ _ hx, he _ _ hy, abin_cmp h ho]; rfl
theorem Val.lssK {k : IntKind} {xt ty : TypeId} {x y : Operand} {a b : Int} {c : Bool} (hc : c = decide (a < b)) (hx : evs σ x = some (ivk k a)) (hy : evs σ y = some (ivk k b)) : Val E σ hs (.binOp .lss xt x y ty) (bv c) := Val.cmpK hx hy (by rw [hc]; rfl) (by simp)
theorem Val.gtrK {k : IntKind} {xt ty : TypeId} {x y : Operand} {a b : Int} {c : Bool} (hc : c = decide (a > b)) (hx : evs σ x = some (ivk k a)) (hy : evs σ y = some (ivk k b)) : Val E σ hs (.binOp .gtr xt x y ty) (bv c) := Val.cmpK hx hy (by rw [hc]; rfl) (by simp)
theorem Val.leqK {k : IntKind} {xt ty : TypeId} {x y : Operand} {a b : Int} {c : Bool} (hc : c = decide (a ≤ b)) (hx : evs σ x = some (ivk k a)) (hy : evs σ y = some (ivk k b)) : Val E σ hs (.binOp .leq xt x y ty) (bv c) := Val.cmpK hx hy (by rw [hc]; rfl) (by simp)
theorem Val.geqK {k : IntKind} {xt ty : TypeId} {x y : Operand} {a b : Int} {c : Bool} (hc : c = decide (a ≥ b)) (hx : evs σ x = some (ivk k a)) (hy : evs σ y = some (ivk k b)) : Val E σ hs (.binOp .geq xt x y ty) (bv c) := Val.cmpK hx hy (by rw [hc]; rfl) (by simp)
theorem Val.neqK {k : IntKind} {xt ty : TypeId} {x y : Operand} {a b : Int} {c : Bool} (hc : c = decide (¬ a = b)) (hx : evs σ x = some (ivk k a)) (hy : evs σ y = some (ivk k b)) : Val E σ hs (.binOp .neq xt x y ty) (bv c) := Val.cmpK hx hy (by rw [hc]; show some (Value.bool (a != b)) = _; by_cases h : a = b <;> simp [h]) (by simp)
def runeAt (l : Str) (p : Nat) : Int := ((Utf8.decode ⟨l.toArray⟩ p).1 : Int)
def runeLen (l : Str) (p : Nat) : Nat := (Utf8.decode ⟨l.toArray⟩ p).2
def strL (id : Nat) (l : Str) (p : Nat) : Thing := .obj id (.str ⟨l.toArray⟩ p)
theorem Eff.range_str {t : TypeId} {x : Operand} {l : Str} (ht : E.und t = some .string) (hx : evs σ x = some (sv l)) :
  Eff E σ hs (.range t x) (fun v hs' => ∃ id, v = .ptr id 0 0 ∧ hs' = strL id l 0 :: hs) := fun ev S he hS o ho => by
 refine ⟨.ptr S.next 0 0, S.new (.str ⟨l.toArray⟩ 0), strL S.next l 0 :: hs, ?_, ?_, S.next, rfl, rfl⟩
 ·unfold aop; rw [ho];simp only [he _ _ hx, arange, ht, ofOpt, Except.bind, sv, newOf]
 ·exact hS.new _ (by show (S.new _).heap.get S.next = _; simp [St.new]) (fun i hi => by cases hi; rfl)
theorem Eff.next_str {p : Nat} {x : Operand} {id pos : Nat} {l : Str} (hp : hs[p]? = some (strL id l pos)) (hx : evs σ x = some (.ptr id 0 0)) (h : pos < l.length) :
  Eff E σ hs (.next x true) (fun v hs' => v = .tuple [bv true, iv pos, ivk .i32 (runeAt l pos)] ∧ hs' = hs.set p (strL id l (pos + runeLen l pos))) := fun ev S he hS o ho => by
 have hg : S.heap.get id = some (.str ⟨l.toArray⟩ pos) := hS.ok _ (List.mem_of_getElem? hp)
 have hb : Nat.blt pos (⟨l.toArray⟩ : ByteArray).size = true := by rw [size_mk]; exact blt_true.2 h
 refine ⟨_, S.write id (.str ⟨l.toArray⟩ (pos + runeLen l pos)), _, ?_, ?_, rfl, rfl⟩
 ·unfold aop; rw [ho];simp only [he _ _ hx, anext, cond_true, hg, hb, newOf];rfl
 ·exact hS.writeAt hp (y := strL id l (pos + runeLen l pos)) (i := id) (o := .str ⟨l.toArray⟩ (pos + runeLen l pos)) rfl rfl (by show (S.write id _).heap.get id = _; rw [write_get, if_pos rfl])
theorem Eff.next_end {p : Nat} {x : Operand} {id pos : Nat} {l : Str} (hp : hs[p]? = some (strL id l pos)) (hx : evs σ x = some (.ptr id 0 0)) (h : ¬ pos < l.length) :
  Eff E σ hs (.next x true) (fun v hs' => v = .tuple [bv false] ∧ hs' = hs) := fun ev S he hS o ho => by
 have hg : S.heap.get id = some (.str ⟨l.toArray⟩ pos) := hS.ok _ (List.mem_of_getElem? hp)
 have hb : Nat.blt pos (⟨l.toArray⟩ : ByteArray).size = false := by rw [size_mk]; exact blt_false.2 (by omega)
 refine ⟨_, S, hs, ?_, hS, rfl, rfl⟩;unfold aop; rw [ho];simp only [he _ _ hx, anext, cond_true, hg, hb, cond_false, newOf];rfl
end
def FieldEq (P : Program) (f : Field) (xs ys : Array Value) (c : Bool) : Prop :=
 (f.name ≠ "_") ∧ ∃ x y, pureVal P (part f.type xs f.offset) = some x ∧ pureVal P (part f.type ys f.offset) = some y ∧ pureVal P (Op.equalIn 9999 f.type x y) = some c
theorem FieldEq.int {P : Program} {f : Field} {xs ys : Array Value} {a b : Int} (h1 : f.name ≠ "_") (h2 : ∃ k', pureVal P (underlying f.type) = some (.int k')) (h3 : pureVal P (part f.type xs f.offset) = some (.int .i64 a))
  (h4 : pureVal P (part f.type ys f.offset) = some (.int .i64 b)) : FieldEq P f xs ys (a == b) := by
 obtain ⟨q, u⟩ := h2;exact ⟨h1, _, _, h3, h4, pure_eqInt u⟩
theorem pure_eqStr {P : Program} {t d : Nat} {l m : Str} (h : pureVal P (underlying t) = some .string) : pureVal P (Op.equalIn (d + 1) t (.string ⟨l.toArray⟩) (.string ⟨m.toArray⟩)) = some (l == m) := by
 unfold Op.equalIn;rw [pv_bind, h]
 have : ((⟨l.toArray⟩ : ByteArray) == ⟨m.toArray⟩) = (l == m) := by
  show (l.toArray == m.toArray) = (l == m)
  by_cases h : l = m <;> simp [h]
 simp [pv_pure, this]
theorem FieldEq.str {P : Program} {f : Field} {xs ys : Array Value} {l m : Str} (h1 : f.name ≠ "_") (h2 : pureVal P (underlying f.type) = some .string) (h3 : pureVal P (part f.type xs f.offset) = some (.string ⟨l.toArray⟩))
  (h4 : pureVal P (part f.type ys f.offset) = some (.string ⟨m.toArray⟩)) : FieldEq P f xs ys (l == m) := ⟨h1, _, _, h3, h4, pure_eqStr h2⟩
theorem pure_eqF3 {P : Program} {t : Nat} {f0 f1 f2 : Field} {xs ys : Array Value} {c0 c1 c2 : Bool} (hu : pureVal P (underlying t) = some (.struct #[f0, f1, f2])) (hs : P.stoodInHeld t = false)
  (h0 : FieldEq P f0 xs ys c0) (h1 : FieldEq P f1 xs ys c1) (h2 : FieldEq P f2 xs ys c2) : pureVal P (Op.equal t (.agg xs) (.agg ys)) = some (c0 && c1 && c2) := by
 unfold Op.equal
 have e : Op.maxDepth = 9998 + 1 + 1 := rfl;rw [e, Op.equalIn, pv_bind, hu];obtain ⟨n0, x0, y0, p0, r0, z0⟩ := h0;obtain ⟨n1, x1, y1, p1, r1, z1⟩ := h1;obtain ⟨n2, x2, y2, p2, r2, z2⟩ := h2;simp only [Option.bind_some, pv_bind, pv_program, hs];cases c0 <;> cases c1 <;> cases c2 <;> simp [pv_bind, n0, p0, r0, z0, n1, p1, r1, z1, n2, p2, r2, z2, pv_pure]
end Go.Am
end
