/- Joined texts. -/
import Derived.Control
import Derived.Calls
import Derived.Orders
import Derived.Below
import Derived.Laws.AppendOwn
import Derived.Deep.LoopGhost
import Derived.Laws.Cover3
import Derived.Laws.BytesArg
import Derived.OrdersHeld
/- The abstract heap: values, the relation between abstract and real values and worlds, steps. -/
namespace Go.Ab

/-- Where an abstract object lies: block, first cell, the block's cells, an element's cells, may it be written. -/
structure Blk where
  b : Nat
  base : Nat
  sz : Nat
  es : Nat
  own : Bool

abbrev Rho := Nat → Option Blk

structure AObj where
  cells : List Value
  es : Nat
  own : Bool

abbrev Heap := List (Option AObj)

inductive VR (ρ : Rho) : Value → Value → Prop
  | bool (b : Bool) : VR ρ (.bool b) (.bool b)
  | int (k : IntKind) (n : Int) : VR ρ (.int k n) (.int k n)
  | str (s : ByteArray) : VR ρ (.string s) (.string s)
  | nilp : VR ρ (.pointer none) (.pointer none)
  | ptr {i o : Nat} {k : Blk} (h : ρ i = some k) : VR ρ (.pointer (some ⟨i, o, none⟩)) (.pointer (some ⟨k.b, k.base + o, none⟩))
  | nils : VR ρ (.slice none 0 0) (.slice none 0 0)
  | sl {i o n c rc : Nat} {k : Blk} {ra : Addr} (h : ρ i = some k) (hn : n ≤ rc) (hc : c = n → rc = n) (ha : rc ≠ 0 → ra = ⟨k.b, k.base + o, none⟩)
      (hs : k.own = true → k.base + o + rc * k.es ≤ k.sz) : VR ρ (.slice (some ⟨i, o, none⟩) n c) (.slice (some ra) n rc)
  | nilf : VR ρ .nilFunc .nilFunc
  | nili : VR ρ .nilIface .nilIface
  | iface {t : TypeId} {v v' : Value} (h : VR ρ v v') : VR ρ (.iface t v) (.iface t v')
  | func {f : Fn} {xs ys xs' ys' : Array Value} (h1 : xs.size = xs'.size) (h2 : ys.size = ys'.size) (h3 : ∀ j, j < xs.size → VR ρ (xs.getD j undef) (xs'.getD j undef))
      (h4 : ∀ j, j < ys.size → VR ρ (ys.getD j undef) (ys'.getD j undef)) : VR ρ (.func f xs ys) (.func f xs' ys')
  | agg {xs xs' : Array Value} (h1 : xs.size = xs'.size) (h2 : ∀ j, j < xs.size → VR ρ (xs.getD j undef) (xs'.getD j undef)) : VR ρ (.agg xs) (.agg xs')
  | tuple {xs xs' : Array Value} (h1 : xs.size = xs'.size) (h2 : ∀ j, j < xs.size → VR ρ (xs.getD j undef) (xs'.getD j undef)) : VR ρ (.tuple xs) (.tuple xs')

def Ext (ρ ρ' : Rho) : Prop := ∀ i k, ρ i = some k → ρ' i = some k
theorem Ext.refl (ρ : Rho) : Ext ρ ρ := fun _ _ h => h
theorem Ext.trans {a b c : Rho} (h : Ext a b) (h' : Ext b c) : Ext a c := fun i k e => h' i k (h i k e)

theorem VR.mono {ρ ρ' : Rho} (he : Ext ρ ρ') {v v' : Value} (h : VR ρ v v') : VR ρ' v v' := by
  induction h with
  | bool b => exact .bool b
  | int k n => exact .int k n
  | str s => exact .str s
  | nilp => exact .nilp
  | ptr h => exact .ptr (he _ _ h)
  | nils => exact .nils
  | sl h hn hc ha hs => exact .sl (he _ _ h) hn hc ha hs
  | nilf => exact .nilf
  | nili => exact .nili
  | iface _ ih => exact .iface ih
  | func h1 h2 _ _ ih3 ih4 => exact .func h1 h2 ih3 ih4
  | agg h1 _ ih => exact .agg h1 ih
  | tuple h1 _ ih => exact .tuple h1 ih

theorem VR.undef (ρ : Rho) : VR ρ Go.undef Go.undef := .tuple rfl (fun j h => absurd h (Nat.not_lt_zero j))

theorem VR.one {ρ : Rho} {v v' : Value} (h : VR ρ v v') : v'.oneCell' = v.oneCell' := by cases h <;> rfl

/-- Lists of related values. -/
def VRL (ρ : Rho) (xs ys : List Value) : Prop := xs.length = ys.length ∧ ∀ j, j < xs.length → VR ρ (xs.getD j Go.undef) (ys.getD j Go.undef)

theorem VRL.nil (ρ : Rho) : VRL ρ [] [] := ⟨rfl, fun j h => absurd h (Nat.not_lt_zero j)⟩
theorem VRL.cons {ρ : Rho} {x y : Value} {xs ys : List Value} (h : VR ρ x y) (hs : VRL ρ xs ys) : VRL ρ (x :: xs) (y :: ys) := by
  refine ⟨by simp [hs.1], fun j hj => ?_⟩
  cases j with
  | zero => simpa using h
  | succ j => simpa using hs.2 j (by simpa using hj)
theorem VRL.mono {ρ ρ' : Rho} (he : Ext ρ ρ') {xs ys : List Value} (h : VRL ρ xs ys) : VRL ρ' xs ys := ⟨h.1, fun j hj => (h.2 j hj).mono he⟩
theorem VRL.get {ρ : Rho} {xs ys : List Value} (h : VRL ρ xs ys) (j : Nat) : VR ρ (xs.getD j Go.undef) (ys.getD j Go.undef) := by
  by_cases hj : j < xs.length
  · exact h.2 j hj
  · have h2 : ¬ j < ys.length := by rw [← h.1]; exact hj
    simp only [List.getD_eq_getElem?_getD]
    rw [List.getElem?_eq_none (by omega), List.getElem?_eq_none (by omega)]
    exact .undef ρ
theorem VRL.sm {ρ : Rho} {xs ys : List Value} (h : VRL ρ xs ys) {j : Nat} {v : Value} (e : xs[j]? = some v) : ∃ v', ys[j]? = some v' ∧ VR ρ v v' := by
  obtain ⟨hj, e'⟩ := List.getElem?_eq_some_iff.1 e
  have hj2 : j < ys.length := h.1 ▸ hj
  refine ⟨ys[j], List.getElem?_eq_getElem hj2, ?_⟩
  have := h.2 j hj
  simp only [List.getD_eq_getElem?_getD, List.getElem?_eq_getElem hj, List.getElem?_eq_getElem hj2, Option.getD_some] at this
  rw [← e']; exact this
theorem VRL.append {ρ : Rho} {xs ys xs' ys' : List Value} (h : VRL ρ xs ys) (h' : VRL ρ xs' ys') : VRL ρ (xs ++ xs') (ys ++ ys') := by
  induction xs generalizing ys with
  | nil =>
    have : ys = [] := List.eq_nil_of_length_eq_zero (by simpa using h.1.symm)
    subst this; simpa using h'
  | cons x xs ih =>
    cases ys with
    | nil => simp [VRL] at h
    | cons y ys =>
      have hx : VR ρ x y := by simpa using h.2 0 (by simp)
      have hs : VRL ρ xs ys := ⟨by simpa using h.1, fun j hj => by simpa using h.2 (j + 1) (by simpa using hj)⟩
      exact VRL.cons hx (ih hs)
theorem VRL.of_some {ρ : Rho} {xs ys : List Value} (hl : xs.length = ys.length) (h : ∀ (j : Nat) (v v' : Value), xs[j]? = some v → ys[j]? = some v' → VR ρ v v') : VRL ρ xs ys := by
  refine ⟨hl, fun j hj => ?_⟩
  have hj2 : j < ys.length := hl ▸ hj
  simp only [List.getD_eq_getElem?_getD, List.getElem?_eq_getElem hj, List.getElem?_eq_getElem hj2, Option.getD_some]
  exact h j _ _ (List.getElem?_eq_getElem hj) (List.getElem?_eq_getElem hj2)
theorem VRL.take {ρ : Rho} {xs ys : List Value} (h : VRL ρ xs ys) (n : Nat) : VRL ρ (xs.take n) (ys.take n) := by
  refine .of_some (by simp [h.1]) fun j v v' e e' => ?_
  rw [List.getElem?_take] at e e'
  split at e
  · rename_i hlt
    simp only [hlt, if_true] at e'
    obtain ⟨u, hu, hv⟩ := h.sm e
    rw [hu] at e'; injection e' with e'; rw [← e']; exact hv
  · cases e
theorem VRL.drop {ρ : Rho} {xs ys : List Value} (h : VRL ρ xs ys) (n : Nat) : VRL ρ (xs.drop n) (ys.drop n) := by
  refine .of_some (by simp [h.1]) fun j v v' e e' => ?_
  rw [List.getElem?_drop] at e e'
  obtain ⟨u, hu, hv⟩ := h.sm e
  rw [hu] at e'; injection e' with e'; rw [← e']; exact hv

theorem VR.agg_iff {ρ : Rho} {xs xs' : Array Value} : VRL ρ xs.toList xs'.toList → VR ρ (.agg xs) (.agg xs') := fun h =>
  .agg (by simpa using h.1) fun j hj => by simpa [List.getD_eq_getElem?_getD, Array.getD_eq_getD_getElem?] using h.2 j (by simpa using hj)
theorem VR.agg_list {ρ : Rho} {xs : Array Value} {v : Value} (h : VR ρ (.agg xs) v) : ∃ xs', v = .agg xs' ∧ VRL ρ xs.toList xs'.toList := by
  cases h with
  | agg h1 h2 => exact ⟨_, rfl, by simpa using h1, fun j hj => by simpa [List.getD_eq_getElem?_getD, Array.getD_eq_getD_getElem?] using h2 j (by simpa using hj)⟩
theorem VR.tuple_list {ρ : Rho} {xs : Array Value} {v : Value} (h : VR ρ (.tuple xs) v) : ∃ xs', v = .tuple xs' ∧ VRL ρ xs.toList xs'.toList := by
  cases h with
  | tuple h1 h2 => exact ⟨_, rfl, by simpa using h1, fun j hj => by simpa [List.getD_eq_getElem?_getD, Array.getD_eq_getD_getElem?] using h2 j (by simpa using hj)⟩
theorem VR.func_list {ρ : Rho} {f : Fn} {xs ys : Array Value} {v : Value} (h : VR ρ (.func f xs ys) v) : ∃ xs' ys', v = .func f xs' ys' ∧ VRL ρ xs.toList xs'.toList ∧ VRL ρ ys.toList ys'.toList := by
  cases h with
  | func h1 h2 h3 h4 =>
    exact ⟨_, _, rfl, ⟨by simpa using h1, fun j hj => by simpa [List.getD_eq_getElem?_getD, Array.getD_eq_getD_getElem?] using h3 j (by simpa using hj)⟩,
      ⟨by simpa using h2, fun j hj => by simpa [List.getD_eq_getElem?_getD, Array.getD_eq_getD_getElem?] using h4 j (by simpa using hj)⟩⟩
theorem VR.tuple_iff {ρ : Rho} {xs xs' : Array Value} : VRL ρ xs.toList xs'.toList → VR ρ (.tuple xs) (.tuple xs') := fun h =>
  .tuple (by simpa using h.1) fun j hj => by simpa [List.getD_eq_getElem?_getD, Array.getD_eq_getD_getElem?] using h.2 j (by simpa using hj)
theorem VR.func_iff {ρ : Rho} {f : Fn} {xs ys xs' ys' : Array Value} : VRL ρ xs.toList xs'.toList → VRL ρ ys.toList ys'.toList → VR ρ (.func f xs ys) (.func f xs' ys') := fun h g =>
  .func (by simpa using h.1) (by simpa using g.1) (fun j hj => by simpa [List.getD_eq_getElem?_getD, Array.getD_eq_getD_getElem?] using h.2 j (by simpa using hj))
    (fun j hj => by simpa [List.getD_eq_getElem?_getD, Array.getD_eq_getD_getElem?] using g.2 j (by simpa using hj))

theorem VR.cells {ρ : Rho} {v v' : Value} (h : VR ρ v v') : VRL ρ v.cells.toList v'.cells.toList := by
  cases h with
  | agg h1 h2 => obtain ⟨_, e, h⟩ := VR.agg_list (VR.agg (ρ := ρ) h1 h2); injection e with e; subst e; exact h
  | bool b => exact .cons (.bool b) (.nil ρ)
  | int k n => exact .cons (.int k n) (.nil ρ)
  | str s => exact .cons (.str s) (.nil ρ)
  | nilp => exact .cons .nilp (.nil ρ)
  | ptr h => exact .cons (.ptr h) (.nil ρ)
  | nils => exact .cons .nils (.nil ρ)
  | sl h hn hc ha hs => exact .cons (.sl h hn hc ha hs) (.nil ρ)
  | nilf => exact .cons .nilf (.nil ρ)
  | nili => exact .cons .nili (.nil ρ)
  | iface h => exact .cons (.iface h) (.nil ρ)
  | func h1 h2 h3 h4 => exact .cons (.func h1 h2 h3 h4) (.nil ρ)
  | tuple h1 h2 => exact .cons (.tuple h1 h2) (.nil ρ)

/-- The real world bears the abstract heap. -/
structure Sim (ρ : Rho) (h : Heap) (w : World) : Prop where
  dom : ∀ i k, ρ i = some k → i < h.length ∧ k.b < w.heap.size
  obj : ∀ i o, h[i]? = some (some o) → ∃ k rc t fr, ρ i = some k ∧ w.heap[k.b]? = some (.cells rc t fr) ∧ k.own = o.own ∧
    (o.own = true → fr = (0, 0) ∧ rc.size = k.sz ∧ k.es = o.es ∧ k.base + o.cells.length ≤ k.sz) ∧
    ∀ j v, o.cells[j]? = some v → ∃ rv, rc[k.base + j]? = some rv ∧ VR ρ v rv ∧ v.oneCell' = true
  inj : ∀ i j oi oj ki kj, h[i]? = some (some oi) → h[j]? = some (some oj) → ρ i = some ki → ρ j = some kj → oi.own = true → i ≠ j → ki.b ≠ kj.b

/-- The blocks that may be written: those of the touched objects. -/
def TB (ρ : Rho) (h : Heap) (T : List Nat) (b : Nat) : Prop := ∃ i o k, i ∈ T ∧ h[i]? = some (some o) ∧ o.own = true ∧ ρ i = some k ∧ k.b = b

structure Stp (T : List Nat) (ρ : Rho) (h : Heap) (w : World) (ρ' : Rho) (h' : Heap) (w' : World) : Prop where
  ext : Ext ρ ρ'
  os : w'.os = w.os
  tape : w'.tape = w.tape
  output : w'.output = w.output
  size : w.heap.size ≤ w'.heap.size
  len : h.length ≤ h'.length
  frame : ∀ b, b < w.heap.size → ¬ TB ρ h T b → w'.heap[b]? = w.heap[b]?
  same : ∀ i, i < h.length → i ∉ T → h'[i]? = h[i]?
  live : ∀ i o', i < h.length → h'[i]? = some (some o') → ∃ o, h[i]? = some (some o) ∧ o.own = o'.own
  back : ∀ i o k, h.length ≤ i → h'[i]? = some (some o) → o.own = true → ρ' i = some k → w.heap.size ≤ k.b ∨ TB ρ h T k.b

theorem Stp.refl (T : List Nat) (ρ : Rho) (h : Heap) (w : World) : Stp T ρ h w ρ h w :=
  ⟨.refl ρ, rfl, rfl, rfl, Nat.le_refl _, Nat.le_refl _, fun _ _ _ => rfl, fun _ _ _ => rfl, fun _ o _ e => ⟨o, e, rfl⟩, fun i o k hi e => by
    rw [List.getElem?_eq_none hi] at e; cases e⟩

theorem TB.mono {ρ : Rho} {h : Heap} {T T' : List Nat} {b : Nat} (hs : ∀ i ∈ T, i ∈ T') (x : TB ρ h T b) : TB ρ h T' b := by
  obtain ⟨i, o, k, hi, r⟩ := x
  exact ⟨i, o, k, hs i hi, r⟩

theorem Stp.trans {T T2 : List Nat} {ρ0 ρ1 ρ2 : Rho} {h0 h1 h2 : Heap} {w0 w1 w2 : World} (s0 : Sim ρ0 h0 w0) (s1 : Sim ρ1 h1 w1)
    (a : Stp T ρ0 h0 w0 ρ1 h1 w1) (b : Stp T2 ρ1 h1 w1 ρ2 h2 w2) (hm : ∀ i ∈ T2, i ∈ T ∨ h0.length ≤ i) : Stp T ρ0 h0 w0 ρ2 h2 w2 := by
  have key : ∀ b, b < w0.heap.size → TB ρ1 h1 T2 b → TB ρ0 h0 T b := by
    rintro b hb ⟨i, o, k, hi, hl, ho, hk, rfl⟩
    by_cases hlt : i < h0.length
    · obtain ⟨o0, e0, hoo⟩ := a.live i o hlt hl
      obtain ⟨k0, _, _, _, hk0, _⟩ := s0.obj i o0 e0
      have := a.ext _ _ hk0
      rw [hk] at this; injection this with this; subst this
      rcases hm i hi with h | h
      · exact ⟨i, o0, k, h, e0, by rw [hoo]; exact ho, hk0, rfl⟩
      · omega
    · rcases a.back i o k (by omega) hl ho hk with h | h
      · omega
      · exact h
  refine ⟨a.ext.trans b.ext, b.os.trans a.os, b.tape.trans a.tape, b.output.trans a.output, Nat.le_trans a.size b.size, Nat.le_trans a.len b.len, ?_, ?_, ?_, ?_⟩
  · intro bl hb hn
    rw [b.frame bl (Nat.lt_of_lt_of_le hb a.size) (fun hx => hn (key bl hb hx)), a.frame bl hb hn]
  · intro i hi hn
    rw [b.same i (Nat.lt_of_lt_of_le hi a.len) (fun h2 => (hm i h2).elim hn (fun h3 => by omega)), a.same i hi hn]
  · intro i o' hi e
    obtain ⟨o1, e1, h1⟩ := b.live i o' (Nat.lt_of_lt_of_le hi a.len) e
    obtain ⟨o0, e0, h0⟩ := a.live i o1 hi e1
    exact ⟨o0, e0, h0.trans h1⟩
  · intro i o k hi e ho hk
    by_cases hlt : i < h1.length
    · obtain ⟨o1, e1, ho1⟩ := b.live i o hlt e
      obtain ⟨k1, _, _, _, hk1, _⟩ := s1.obj i o1 e1
      have := b.ext _ _ hk1
      rw [hk] at this; injection this with this; subst this
      exact a.back i o1 k hi e1 (by rw [ho1]; exact ho) hk1
    · rcases b.back i o k (by omega) e ho hk with h | h
      · exact .inl (Nat.le_trans a.size h)
      · by_cases hb : k.b < w0.heap.size
        · exact .inr (key _ hb h)
        · exact .inl (by omega)

theorem Stp.mono {T T' : List Nat} {ρ ρ' : Rho} {h h' : Heap} {w w' : World} (s : Stp T ρ h w ρ' h' w') (hs : ∀ i ∈ T, i ∈ T') : Stp T' ρ h w ρ' h' w' :=
  { s with frame := fun b hb hn => s.frame b hb fun x => hn (x.mono hs), same := fun i hi hn => s.same i hi fun x => hn (hs i x), back := fun i o k hi e ho hk => (s.back i o k hi e ho hk).imp id (·.mono hs) }

/-- A draw of the tape changes nothing that matters. -/
theorem Sim.drew {ρ : Rho} {h : Heap} {w : World} (s : Sim ρ h w) (d : Nat) : Sim ρ h { w with drawn := d } := ⟨s.dom, s.obj, s.inj⟩
theorem Stp.drew (T : List Nat) (ρ : Rho) (h : Heap) (w : World) (d : Nat) : Stp T ρ h w ρ h { w with drawn := d } :=
  ⟨.refl ρ, rfl, rfl, rfl, Nat.le_refl _, Nat.le_refl _, fun _ _ _ => rfl, fun _ _ _ => rfl, fun _ o _ e => ⟨o, e, rfl⟩, fun i o k hi e => by
    rw [List.getElem?_eq_none hi] at e; cases e⟩

end Go.Ab

/- The cleaned code, how it is made from the program's code, and the calculus over it. -/
namespace Go.Ab

inductive PO
  | t (i : Nat)
  | c (v : Value)

inductive POp
  | mov (x : PO)
  | pick (c a b : PO)
  | new (z : List Value)
  | box (x : PO)
  | bld (z : List Value) (ps : List (Nat × Nat × PO))
  | bsl (es len : Nat) (z : List Value) (ps : List (Nat × PO))
  | ld (a : PO)
  | ldn (n : Nat) (a : PO)
  | str (n : Nat) (a x : PO)
  | nch (x : PO)
  | bin (op : BinOp) (t : TypeId) (x y : PO)
  | snl (neg : Bool) (x : PO)
  | un (op : UnOp) (x : PO)
  | cnv (s d : TypeId) (x : PO)
  | bst (x : PO)
  | mki (t : TypeId) (x : PO)
  | mkf (fn : Fn) (xs ys : List PO)
  | mks (es by_ : Nat) (z : List Value) (l : PO)
  | ssl (t : TypeId) (x : PO) (lo hi : Option PO)
  | sl (es : Nat) (x : PO) (lo hi mx : Option PO)
  | fa (o : Nat) (x : PO)
  | fld (o : Nat) (n : Option Nat) (x : PO)
  | ixa (es : Nat) (x i : PO)
  | ixf (len es : Nat) (x i : PO)
  | ixs (t : TypeId) (x i : PO)
  | ext (x : PO) (j : Nat)
  | len (x : PO)
  | lns (x : PO)
  | mnx (mx : Bool) (xs : List PO)
  | app (es by_ : Nat) (z : List Value) (s x : PO)
  | cpy (es : Nat) (d s : PO)
  | pnc

inductive PS
  | o (d : Option Nat) (g : Option (Nat × Bool)) (op : POp)
  | c (d : Option Nat) (g : Option (Nat × Bool)) (f : PO) (xs : List PO)

inductive Plan
  | dn
  | tk (i : Nat) (s : PS) (p : Plan)
  | br (i : Nat) (u : List Nat) (s : PS) (p more : Plan)
  | ed

inductive PCode
  | sk
  | rg (ss : List PS)
  | dr (p : Plan)
  | sq (a b : PCode)
  | cd (c : PO) (a b : PCode)
  | bk (id : Nat) (c : PCode)
  | lp (c : PCode)
  | ex (id : Nat)
  | rt

inductive PRes
  | t (i : Nat)
  | c1 (i : Nat)
  | cn (i n : Nat)

structure PFn where
  np : Nat
  nt : Nat
  res : List PRes
  body : PCode

/-! ### values without addresses -/
def atomB : Value → Bool
  | .bool _ | .int .. | .string _ | .pointer none | .slice none 0 0 | .nilFunc | .nilIface => true
  | .func (.func _) xs ys => xs.size == 0 && ys.size == 0
  | _ => false
def closedB : Value → Bool
  | .agg cs | .tuple cs => cs.toList.all atomB
  | v => atomB v

def notNilI : Value → Bool
  | .nilIface => false
  | _ => true

/-- A pure computation of the model's. -/
def pv (P : Program) {α : Type} : Sem α → Option α
  | .pure a => some a
  | .program k => pv P (k P)
  | _ => none

/-- A pure computation whose value has no address in it. -/
def pvc (P : Program) (s : Sem Value) : Option Value := (pv P s).bind fun v => if closedB v = true then some v else none

/-! ### the making -/
section prep
variable (P : Program)
def szOf (t : TypeId) : Option Nat := (P.info? t).map (·.size)
def byOf (t : TypeId) : Option Nat := (P.info? t).map (·.bytes)
def zeroOf (t : TypeId) : Option (List Value) := (P.info? t).bind fun i => i.zero.bind fun z => if closedB z && z.cells.toList.all atomB then some z.cells.toList else none
def aggOf (t : TypeId) : Option Bool := (P.underlying t).map fun | .struct _ | .array _ _ => true | _ => false

def pO : Operand → Option PO
  | .tmp t => some (.t t)
  | .const v => if closedB v then some (.c v) else none
  | .func f => some (.c (.func (.func f) #[] #[]))
  | _ => none

def pOs (xs : List Operand) : Option (List PO) := xs.mapM pO
def pOo : Option Operand → Option (Option PO)
  | none => some none
  | some x => (pO x).map some

def sameOp : Operand → Operand → Bool
  | .tmp i, .tmp j => i == j
  | .const (.int k n), .const (.int k' n') => k == k' && n == n'
  | _, _ => false

def prepOp : Op → Option POp
  | .move x | .assign x => (pO x).map .mov
  | .pick c a b => do some (.pick (← pO c) (← pO a) (← pO b))
  | .alloc t => do some (.new (← zeroOf P t))
  | .box _ x => (pO x).map .box
  | .build t parts => do
    let z ← zeroOf P t
    match P.underlying t with
    | some (.struct fs) =>
      let ps ← parts.toList.mapM fun p => do
        let f ← fs[p.1]?
        let s ← szOf P f.type
        let x ← pO p.2
        some (f.offset, s, x)
      if (fs.toList.all fun f => (szOf P f.type).isSome) then some (.bld z ps) else none
    | _ => none
  | .buildSlice t len parts => do
    match P.underlying t with
    | some (.slice e) =>
      let s ← szOf P e
      let z ← zeroOf P e
      let ps ← parts.toList.mapM fun p => do some (p.1, ← pO p.2)
      if len * s ≤ 2 ^ 24 ∧ z.length = s ∧ 0 < s then some (.bsl s len z ps) else none
    | _ => none
  | .load t a => do
    let x ← pO a
    let s ← szOf P t
    if ← aggOf P t then some (.ldn s x) else some (.ld x)
  | .store t a v => do some (.str (← szOf P t) (← pO a) (← pO v))
  | .nilCheck x => (pO x).map .nch
  | .binOp op t x y _ => do
    let x' ← pO x
    let y' ← pO y
    match op, P.underlying t, y' with
    | .eql, some (.slice _), .c (.slice none 0 0) => some (.snl false x')
    | .neq, some (.slice _), .c (.slice none 0 0) => some (.snl true x')
    | _, _, _ => if P.eqGuardType P.depth t then none else some (.bin op t x' y')
  | .unOp op _ x => (pO x).map (.un op)
  | .convert s d x => do
    let x' ← pO x
    match P.underlying s, P.underlying d with
    | some (.slice e), some .string => if P.underlying e matches some (.int .u8) then some (.bst x') else none
    | _, _ => some (.cnv s d x')
  | .makeInterface t x => do
    let x' ← pO x
    match P.underlying t with
    | some (.interface _) => none
    | some _ => some (.mki t x')
    | none => none
  | .makeFunc fn xs ys => do some (.mkf fn (← pOs xs.toList) (← pOs ys.toList))
  | .makeSlice t l c => do
    match P.underlying t with
    | some (.slice e) =>
      let s ← szOf P e
      let b ← byOf P e
      let z ← zeroOf P e
      let l' ← pO l
      if z.length = s ∧ 0 < s ∧ sameOp l c = true then some (.mks s b z l') else none
    | _ => none
  | .slice t x lo hi mx => do
    let x' ← pO x
    let lo' ← pOo lo
    let hi' ← pOo hi
    let mx' ← pOo mx
    match P.underlying t, mx' with
    | some .string, none => some (.ssl t x' lo' hi')
    | some (.slice e), mx' => some (.sl (← szOf P e) x' lo' hi' mx')
    | _, _ => none
  | .fieldAddr t x f => do
    let x' ← pO x
    match P.underlying t with
    | some (.struct fs) =>
      let fd ← fs[f]?
      let s ← szOf P fd.type
      if s = 0 then none else some (.fa fd.offset x')
    | _ => none
  | .field t x f => do
    let x' ← pO x
    match P.underlying t with
    | some (.struct fs) =>
      let fd ← fs[f]?
      let s ← szOf P fd.type
      let a ← aggOf P fd.type
      some (.fld fd.offset (if a then some s else none) x')
    | _ => none
  | .indexAddr t x i => do
    let x' ← pO x
    let i' ← pO i
    match P.underlying t with
    | some (.slice e) => some (.ixa (← szOf P e) x' i')
    | some (.array n e) => some (.ixf n (← szOf P e) x' i')
    | _ => none
  | .index t x i => do
    let x' ← pO x
    let i' ← pO i
    match P.underlying t with
    | some .string => some (.ixs t x' i')
    | _ => none
  | .extract x j => do some (.ext (← pO x) j)
  | .call { callee := .builtin .len, args := xs, argTypes := ts } =>
    match xs.toList, ts.toList with
    | [x], [t] => do
      let x' ← pO x
      match P.underlying t with
      | some .string => some (.lns x')
      | some (.slice _) => some (.len x')
      | _ => none
    | _, _ => none
  | .call { callee := .builtin .append, args := xs, argTypes := ts } =>
    match xs.toList, ts.toList with
    | [s, x], [t, u] => do
      let s' ← pO s
      let x' ← pO x
      match P.underlying t, P.underlying u with
      | some (.slice e), some (.slice _) =>
        let n ← szOf P e
        let b ← byOf P e
        let z ← zeroOf P e
        if z.length = n ∧ 0 < n ∧ 0 < b ∧ t = u then some (.app n b z s' x') else none
      | _, _ => none
    | _, _ => none
  | .call { callee := .builtin .copy, args := xs, argTypes := ts } =>
    match xs.toList, ts.toList with
    | [s, x], [t, u] => do
      let s' ← pO s
      let x' ← pO x
      match P.underlying t, P.underlying u with
      | some (.slice e), some (.slice _) => some (.cpy (← szOf P e) s' x')
      | _, _ => none
    | _, _ => none
  | .call { callee := .builtin .min, args := xs, argTypes := _ } => do some (.mnx false (← pOs xs.toList))
  | .call { callee := .builtin .max, args := xs, argTypes := _ } => do some (.mnx true (← pOs xs.toList))
  | .panic _ => some .pnc
  | .call { callee := .builtin .panic, args := _, argTypes := _ } => some .pnc
  | _ => none

def prepG (ops : Array Oper) : Option (Nat × Bool) → Option (Option (Nat × Bool))
  | none => some none
  | some (j, b) => do
    let oj ← ops[j]?
    let d ← oj.dst
    some (some (d, b))

def calOf : Op → Option (Operand × Array Operand)
  | .call { callee := .value f, args := xs, argTypes := _ } => some (f, xs)
  | _ => none

def prepS (n : Nat) (ops : Array Oper) (o : Oper) : Option PS := do
  let g ← prepG ops o.guard
  if (o.dst.all fun d => d < n) then
    match calOf o.op with
    | some (f, xs) => do some (.c o.dst g (← pO f) (← pOs xs.toList))
    | none => do some (.o o.dst g (← prepOp P o.op))
  else none

/-- What only reads or computes. -/
def quietB : POp → Bool
  | .mov _ | .pick .. | .bld .. | .ld _ | .ldn .. | .nch _ | .bin .. | .snl .. | .un .. | .cnv .. | .mki .. | .mkf .. | .ssl .. | .sl .. | .fa .. | .fld .. | .ixa .. | .ixf .. | .ixs .. | .ext .. | .len _ | .lns _ | .mnx .. => true
  | _ => false
/-- What reads memory. -/
def readsB : POp → Bool
  | .ld _ | .ldn .. => true
  | _ => false

def quietS : PS → Bool
  | .o _ _ op => quietB op
  | _ => false
def readsS : PS → Bool
  | .o _ _ op => readsB op
  | _ => false

def firstFree (ops : Array Oper) (listed : Array Bool) : List Nat → Option (Nat × PS) → (Nat → Option PS) → Option (Nat × PS)
  | [], r, _ => r
  | i :: rest, r, f =>
    match f i with
    | some s => if quietS s && Region.free .any ops listed i then some (i, s) else firstFree ops listed rest r f
    | none => firstFree ops listed rest r f

/-- The plan of a region that draws: what only reads first, as soon as it may come up; then whatever may come up. -/
def mkPlan (n : Nat) (ops : Array Oper) (bef : Array Nat) : Nat → Array Bool → List Nat → Option Plan
  | 0, _, _ => none
  | fuel + 1, listed, taken =>
    match Region.ready .any ops listed with
    | [] => some .dn
    | r :: rs =>
      match firstFree ops listed (r :: rs) none (fun i => (ops[i]?).bind (prepS P n ops)) with
      | some (i, s) => do
        let p ← mkPlan n ops bef fuel (listed.setIfInBounds i true) (if readsS s then i :: taken else taken)
        some (.tk i s p)
      | none =>
        (r :: rs).foldr (fun i acc => do
          let more ← acc
          let o ← ops[i]?
          let s ← prepS P n ops o
          if quietS s then none else
          let p ← mkPlan n ops bef fuel (listed.setIfInBounds i true) taken
          some (.br i (taken.filter fun l => !(bef.getD i 0).testBit l) s p more)) (some .ed)

/-- In row j of the table stand only operations that j waits for. -/
def maskOk (ops : Array Oper) (bef : Array Nat) : Bool :=
  (List.range ops.size).all fun j => (List.range ops.size).all fun i => !(bef.getD j 0).testBit i ||
    match ops[j]? with
    | some o => o.after.any fun e => Region.binds .any e && decide (e.on < j) && (e.on == i || (bef.getD e.on 0).testBit i)
    | none => false

def prepC (n : Nat) : Code → Option PCode
  | .skip => some .sk
  | .region _ ops false => (ops.toList.mapM (prepS P n ops)).map .rg
  | .region _ ops true => if Region.noSelect ops && maskOk ops (Region.before ops) then (mkPlan P n ops (Region.before ops) (ops.size + 1) (Array.replicate ops.size false) []).map .dr else none
  | .seq a b => do some (.sq (← prepC n a) (← prepC n b))
  | .cond c a b => do some (.cd (← pO c) (← prepC n a) (← prepC n b))
  | .block id c => (prepC n c).map (.bk id)
  | .loop c => (prepC n c).map .lp
  | .exit id => some (.ex id)
  | .ret => some .rt
  | _ => none

def prepR : ResultVar → Option PRes
  | .tmp t => some (.t t)
  | .cell a t => do
    let s ← szOf P t
    if ← aggOf P t then some (.cn a s) else some (.c1 a)

def prepF (f : Func) : Option PFn := do
  let b ← f.body
  let c ← prepC P f.ntmps b
  let rs ← f.results.toList.mapM (prepR P)
  some ⟨f.params.size + f.nfree, f.ntmps, rs, c⟩
end prep

/-! ### the calculus -/
structure St where
  tm : Nat → Value
  h : Heap

def PO.ev (tm : Nat → Value) : PO → Value
  | .t i => tm i
  | .c v => v

def upd (tm : Nat → Value) (d : Nat) (v : Value) : Nat → Value := fun i => if i = d then v else tm i
def put (tm : Nat → Value) : Option Nat → Value → Nat → Value
  | none, _ => tm
  | some d, v => upd tm d v

def wantA (tm : Nat → Value) : Option (Nat × Bool) → Bool
  | none => true
  | some (t, b) => match tm t with
    | .bool x => x == b
    | _ => false

def hob (h : Heap) (i : Nat) : Option AObj := match h[i]? with | some (some o) => some o | _ => none
/-- Cells o .. o + n of object i. -/
def hcs (h : Heap) (i o n : Nat) : Option (List Value) :=
  (hob h i).bind fun ob => if o + n ≤ ob.cells.length then some ((ob.cells.drop o).take n) else none
def hc1 (h : Heap) (i o : Nat) : Option Value := (hob h i).bind fun ob => ob.cells[o]?

def oneAll (l : List Value) : Bool := l.all Value.oneCell'

def newO (h : Heap) (cells : List Value) (es : Nat) : Heap := h ++ [some ⟨cells, es, true⟩]

def fillA (cells : List Value) : List (Nat × List Value) → Option (List Value)
  | [] => some cells
  | (o, vs) :: rest => if o + vs.length ≤ cells.length then fillA (cells.take o ++ (vs ++ cells.drop (o + vs.length))) rest else none

def reps (z : List Value) : Nat → List Value
  | 0 => []
  | n + 1 => z ++ reps z n

def intOfV : Value → Option Int
  | .int _ n => some n
  | _ => none

def bytesOfV : List Value → Option (List UInt8)
  | [] => some []
  | .int .u8 n :: r => (bytesOfV r).map (UInt8.ofNat n.toNat :: ·)
  | _ => none

/-- The cells that an append's second argument hands over, given an element's cells. -/
def srcA (h : Heap) (es : Nat) : Value → Option (Nat × List Value)
  | .slice none 0 0 => some (0, [])
  | .slice (some ⟨i, o, none⟩) n _ => (hcs h i o (n * es)).map fun l => (n, l)
  | _ => none

def bndA (d : Int) : Option Value → Option Int
  | none => some d
  | some v => intOfV v

/-- An operation that is no call: the touched objects, the value, the heap. -/
def aop (P : Program) (tm : Nat → Value) (h : Heap) : POp → Option (List Nat × Value × Heap)
  | .mov x => some ([], x.ev tm, h)
  | .pick c a b => match c.ev tm with
    | .bool x => some ([], if x then a.ev tm else b.ev tm, h)
    | _ => none
  | .new z => some ([], .pointer (some ⟨h.length, 0, none⟩), newO h z z.length)
  | .box x =>
    if oneAll (x.ev tm).cells.toList then some ([], .pointer (some ⟨h.length, 0, none⟩), newO h (x.ev tm).cells.toList (x.ev tm).cells.toList.length) else none
  | .bld z ps =>
    if ps.all (fun p => (p.2.2.ev tm).cells.size == p.2.1) then (fillA z (ps.map fun p => (p.1, (p.2.2.ev tm).cells.toList))).map fun l => ([], .agg l.toArray, h) else none
  | .bsl es len z ps =>
    if ps.all (fun p => (p.2.ev tm).cells.size == es && oneAll (p.2.ev tm).cells.toList) then
      (fillA (reps z len) (ps.map fun p => (p.1 * es, (p.2.ev tm).cells.toList))).map fun l => ([], .slice (some ⟨h.length, 0, none⟩) len len, newO h l es)
    else none
  | .ld a => match a.ev tm with
    | .pointer (some ⟨i, o, none⟩) => (hc1 h i o).map fun v => ([], v, h)
    | _ => none
  | .ldn n a => match a.ev tm with
    | .pointer (some ⟨i, o, none⟩) => (hcs h i o n).map fun l => ([], .agg l.toArray, h)
    | _ => none
  | .str n a x => match a.ev tm with
    | .pointer (some ⟨i, o, none⟩) => (hob h i).bind fun ob =>
      let l := (x.ev tm).cells.toList
      if ob.own = true ∧ l.length = n ∧ oneAll l = true ∧ o + n ≤ ob.cells.length then
        some ([i], undef, h.set i (some { ob with cells := ob.cells.take o ++ (l ++ ob.cells.drop (o + n)) }))
      else none
    | _ => none
  | .nch x => match x.ev tm with
    | .pointer (some a) => some ([], .pointer (some a), h)
    | .func (.func f) xs ys => some ([], .func (.func f) xs ys, h)
    | _ => none
  | .bin op t x y => if closedB (x.ev tm) && closedB (y.ev tm) && notNilI (x.ev tm) then (pvc P (binOp op t (x.ev tm) (y.ev tm))).map fun v => ([], v, h) else none
  | .snl neg x => match x.ev tm with
    | .slice none 0 0 => some ([], .bool (!neg), h)
    | .slice (some _) _ _ => some ([], .bool neg, h)
    | _ => none
  | .un op x => if closedB (x.ev tm) then (pvc P (Op.unary op (x.ev tm))).map fun v => ([], v, h) else none
  | .cnv s d x => if closedB (x.ev tm) then (pvc P (convert s d (x.ev tm))).map fun v => ([], v, h) else none
  | .bst x => match x.ev tm with
    | .slice none 0 0 => some ([], .string .empty, h)
    | .slice (some ⟨i, o, none⟩) n _ => (hcs h i o n).bind fun l => (bytesOfV l).map fun b => ([], .string ⟨b.toArray⟩, h)
    | _ => none
  | .mki t x => some ([], .iface t (x.ev tm), h)
  | .mkf fn xs ys => some ([], .func fn (xs.map (·.ev tm)).toArray (ys.map (·.ev tm)).toArray, h)
  | .mks es by_ z l => match l.ev tm with
    | .int _ n => if 0 ≤ n ∧ n * by_ ≤ 140737488355328 ∧ n ≤ 9223372036854775807 then some ([], .slice (some ⟨h.length, 0, none⟩) n.toNat n.toNat, newO h (reps z n.toNat) es) else none
    | _ => none
  | .ssl t x lo hi =>
    if closedB (x.ev tm) && closedB ((lo.map (·.ev tm)).getD .nilIface) && closedB ((hi.map (·.ev tm)).getD .nilIface) then
      (pvc P (Instr.slice t (x.ev tm) (lo.map (·.ev tm)) (hi.map (·.ev tm)) none)).map fun v => ([], v, h)
    else none
  | .sl es x lo hi mx => match x.ev tm with
    | .slice none 0 0 =>
      if bndA 0 (lo.map (·.ev tm)) = some 0 ∧ bndA 0 (hi.map (·.ev tm)) = some 0 ∧ bndA 0 (mx.map (·.ev tm)) = some 0 ∧ (mx.isSome → hi.isSome) then some ([], .slice none 0 0, h) else none
    | .slice (some ⟨i, o, none⟩) n c =>
      (hob h i).bind fun ob =>
      (bndA 0 (lo.map (·.ev tm))).bind fun l =>
      (bndA n (hi.map (·.ev tm))).bind fun u =>
      if (ob.own = true → ob.es = es) ∧ 0 ≤ l ∧ l ≤ u ∧ u ≤ n then
        match mx with
        | none => some ([], .slice (some ⟨i, o + l.toNat * es, none⟩) (u.toNat - l.toNat) (if c = n then n - l.toNat else u.toNat - l.toNat + 1), h)
        | some m => match intOfV (m.ev tm) with
          | some m => if u ≤ m ∧ m ≤ n ∧ hi.isSome then some ([], .slice (some ⟨i, o + l.toNat * es, none⟩) (u.toNat - l.toNat) (m.toNat - l.toNat), h) else none
          | none => none
      else none
    | _ => none
  | .fa o x => match x.ev tm with
    | .pointer (some ⟨i, p, none⟩) => some ([], .pointer (some ⟨i, p + o, none⟩), h)
    | _ => none
  | .fld o n x => match x.ev tm with
    | .agg cs => match n with
      | none => (cs[o]?).map fun v => ([], v, h)
      | some n => some ([], .agg (cs.extract o (o + n)), h)
    | _ => none
  | .ixa es x i => match x.ev tm, i.ev tm with
    | .slice (some ⟨j, o, none⟩) n _, .int _ m => if 0 ≤ m ∧ m < n then some ([], .pointer (some ⟨j, o + m.toNat * es, none⟩), h) else none
    | _, _ => none
  | .ixf len es x i => match x.ev tm, i.ev tm with
    | .pointer (some ⟨j, o, none⟩), .int _ m => if 0 ≤ m ∧ m < len then some ([], .pointer (some ⟨j, o + m.toNat * es, none⟩), h) else none
    | _, _ => none
  | .ixs t x i => if closedB (x.ev tm) && closedB (i.ev tm) then (pvc P (Instr.index t (x.ev tm) (i.ev tm))).map fun v => ([], v, h) else none
  | .ext x j => match x.ev tm with
    | .tuple vs => (vs[j]?).map fun v => ([], v, h)
    | _ => none
  | .lns x => match x.ev tm with
    | .string s => some ([], .int .i64 s.size, h)
    | _ => none
  | .len x => match x.ev tm with
    | .slice _ n _ => some ([], .int .i64 n, h)
    | _ => none
  | .mnx mx xs => match (xs.map (·.ev tm) : List Value) with
    | [.int k a, .int k' b] => if k = k' then some ([], .int k (if mx then max a b else min a b), h) else none
    | _ => none
  | .app es by_ _ s x => (srcA h es (x.ev tm)).bind fun (m, news) =>
    match s.ev tm with
    | .slice none 0 0 =>
      if m = 0 then some ([], .slice none 0 0, h)
      else if m * by_ ≤ 140737488355328 ∧ oneAll news = true then some ([], .slice (some ⟨h.length, 0, none⟩) m (m + 1), newO h news es) else none
    | .slice (some ⟨i, o, none⟩) n c =>
      if m = 0 then some ([], .slice (some ⟨i, o, none⟩) n c, h)
      else (hob h i).bind fun ob => (hcs h i o (n * es)).bind fun old =>
        if (n + m) * by_ ≤ 140737488355328 ∧ oneAll news = true ∧ oneAll old = true then
          if c = n then some ([], .slice (some ⟨h.length, 0, none⟩) (n + m) (n + m + 1), newO h (old ++ news) es)
          else if ob.own = true ∧ ob.es = es then some ([i], .slice (some ⟨h.length, 0, none⟩) (n + m) (n + m + 1), newO (h.set i none) (old ++ news) es)
          else none
        else none
    | _ => none
  | .cpy es d s => (srcA h es (s.ev tm)).bind fun (m, l) =>
    match d.ev tm with
    | .slice none 0 0 => some ([], .int .i64 0, h)
    | .slice (some ⟨i, o, none⟩) n _ =>
      (hob h i).bind fun ob =>
      let k := Nat.min m n
      if ob.own = true ∧ ob.es = es ∧ oneAll l = true ∧ o + k * es ≤ ob.cells.length then
        some ([i], .int .i64 k, h.set i (some { ob with cells := ob.cells.take o ++ (l.take (k * es) ++ ob.cells.drop (o + k * es)) }))
      else none
    | _ => none
  | .pnc => none

/-- A function of the program with a body. -/
def FnOk (P : Program) (f : FuncId) : Prop := ∃ fd, P.funcs[f]? = some fd ∧ fd.body.isSome = true ∧ fd.name ≠ "runtime.NumGoroutine"

/-- A call's contract: whatever the world that bears the heap: it returns, and the result and the heap behind it are as Q says. -/
def AC (P : Program) (f : FuncId) (args : List Value) (h : Heap) (T : List Nat) (Q : Value → Heap → Prop) : Prop :=
  FnOk P f ∧ ∀ (ρ : Rho) (w : World) (rargs : Array Value), Sim ρ h w → VRL ρ args rargs.toList → Calls P f rargs w fun e w' =>
    ∃ rv r h' ρ', e = .returned rv ∧ Q r h' ∧ VR ρ' r rv ∧ Sim ρ' h' w' ∧ Stp T ρ h w ρ' h' w'

def XC (P : Program) (M : Nat → Prop) (tm : Nat → Value) (h : Heap) (f : PO) (xs : List PO) (K : List Nat → Value → Heap → Prop) : Prop :=
  ∃ g ys zs T Q, f.ev tm = .func (.func g) ys zs ∧ (∀ i ∈ T, M i) ∧ AC P g (ys.toList ++ xs.map (·.ev tm) ++ zs.toList) h T Q ∧ ∀ r h', Q r h' → K T r h'

def XO (P : Program) (M : Nat → Prop) (tm : Nat → Value) (h : Heap) (o : POp) (K : List Nat → Value → Heap → Prop) : Prop :=
  ∃ T v h', aop P tm h o = some (T, v, h') ∧ (∀ i ∈ T, M i) ∧ K T v h'

/-- One step of a region. -/
def XS (P : Program) (M : Nat → Prop) : PS → St → (List Nat → St → Prop) → Prop
  | .o d g op, st, K => if wantA st.tm g = true then XO P M st.tm st.h op (fun T v h' => K T ⟨put st.tm d v, h'⟩) else K [] ⟨put st.tm d undef, st.h⟩
  | .c d g f xs, st, K => if wantA st.tm g = true then XC P M st.tm st.h f xs (fun T v h' => K T ⟨put st.tm d v, h'⟩) else K [] ⟨put st.tm d undef, st.h⟩

def XR (P : Program) (M : Nat → Prop) : List PS → St → (St → Prop) → Prop
  | [], st, Q => Q st
  | s :: rest, st, Q => XS P M s st fun _ st' => XR P M rest st' Q

/-- The object that a load reads. -/
def readId (tm : Nat → Value) : POp → Option Nat
  | .ld a | .ldn _ a => match a.ev tm with
    | .pointer (some ⟨i, _, _⟩) => some i
    | _ => none
  | _ => none

/-- A region that draws; 'held': what has been read (operation, object). -/
def XPl (P : Program) (M : Nat → Prop) : Plan → List (Nat × Nat) → St → (St → Prop) → Prop
  | .dn, _, st, Q => Q st
  | .tk i s p, held, st, Q => match s with
    | .o d g op =>
      if wantA st.tm g = true then ∃ v, aop P st.tm st.h op = some ([], v, st.h) ∧ XPl P M p (match readId st.tm op with | some j => (i, j) :: held | none => held) ⟨put st.tm d v, st.h⟩ Q
      else XPl P M p held ⟨put st.tm d undef, st.h⟩ Q
    | .c .. => False
  | .br _ u s p more, held, st, Q =>
    XS P M s st (fun T st' => (∀ x ∈ held, x.1 ∈ u → x.2 ∉ T) ∧ XPl P M p (held.filter fun x => u.contains x.1) st' Q) ∧ XPl P M more held st Q
  | .ed, _, _, _ => True

def XP (P : Program) (M : Nat → Prop) : PCode → St → (Exit → St → Prop) → Prop
  | .sk, st, Q => Q .normal st
  | .rg ss, st, Q => XR P M ss st (Q .normal)
  | .dr p, st, Q => XPl P M p [] st (Q .normal)
  | .sq a b, st, Q => XP P M a st fun e st' => match e with
    | .normal => XP P M b st' Q
    | e => Q e st'
  | .cd c a b, st, Q => match c.ev st.tm with
    | .bool x => if x = true then XP P M a st Q else XP P M b st Q
    | _ => False
  | .bk id c, st, Q => XP P M c st fun e st' => match e with
    | .exit id' => if id' = id then Q .normal st' else Q (.exit id') st'
    | e => Q e st'
  | .lp c, st, Q => ∃ (I : Nat → St → Prop) (n : Nat), I n st ∧ ∀ n s, I n s → XP P M c s fun e s' => match e with
    | .normal => ∃ n', n' < n ∧ I n' s'
    | e => Q e s'
  | .ex id, st, Q => Q (.exit id) st
  | .rt, st, Q => Q .ret st

def resA1 (tm : Nat → Value) (h : Heap) : PRes → Option Value
  | .t i => some (tm i)
  | .c1 a => match tm a with
    | .pointer (some ⟨i, o, none⟩) => hc1 h i o
    | _ => none
  | .cn a n => match tm a with
    | .pointer (some ⟨i, o, none⟩) => (hcs h i o n).map fun l => .agg l.toArray
    | _ => none
def resAs (tm : Nat → Value) (h : Heap) : List PRes → Option (List Value)
  | [] => some []
  | r :: rs => (resA1 tm h r).bind fun v => (resAs tm h rs).map (v :: ·)
def resA (tm : Nat → Value) (h : Heap) (rs : List PRes) : Option Value :=
  (resAs tm h rs).map fun vs => match vs with
    | [v] => v
    | vs => .tuple vs.toArray

def tmOf (args : List Value) : Nat → Value := fun i => args.getD i undef
end Go.Ab

/- How the relation between abstract heap and world goes through reads, new blocks and writes. -/
set_option linter.unusedSimpArgs false
set_option linter.unusedVariables false
namespace Go.Ab

theorem hob_eq {h : Heap} {i : Nat} {o : AObj} : hob h i = some o ↔ h[i]? = some (some o) := by
  unfold hob; split
  · rename_i o' e; simp [e]
  · rename_i hn; constructor
    · intro e; cases e
    · intro e; exact absurd e (hn o)

theorem Sim.blk {ρ : Rho} {h : Heap} {w : World} (s : Sim ρ h w) {i : Nat} {o : AObj} (e : hob h i = some o) : ∃ k, ρ i = some k := by
  obtain ⟨k, _, _, _, hk, _⟩ := s.obj i o (hob_eq.1 e); exact ⟨k, hk⟩

theorem Sim.cell {ρ : Rho} {h : Heap} {w : World} (s : Sim ρ h w) {i o : Nat} {v : Value} {k : Blk} (e : hc1 h i o = some v) (hk : ρ i = some k) :
    ∃ rv, w.cell? ⟨k.b, k.base + o, none⟩ = some rv ∧ VR ρ v rv ∧ v.oneCell' = true := by
  unfold hc1 at e
  cases hb : hob h i with
  | none => simp [hb] at e
  | some ob =>
    simp [hb] at e
    obtain ⟨k', rc, t, fr, hk', hh, _, _, hc⟩ := s.obj i ob (hob_eq.1 hb)
    rw [hk] at hk'; injection hk' with hk'; subst hk'
    obtain ⟨rv, hr, hv, h1⟩ := hc o v e
    exact ⟨rv, by simp [World.cell?, hh, hr], hv, h1⟩

theorem hcs_get {h : Heap} {i o n : Nat} {l : List Value} (e : hcs h i o n = some l) : l.length = n ∧ ∀ j v, l[j]? = some v → hc1 h i (o + j) = some v := by
  unfold hcs at e
  cases hb : hob h i with
  | none => simp [hb] at e
  | some ob =>
    simp only [hb, Option.bind_some] at e
    split at e
    · rename_i hle
      injection e with e; subst e
      refine ⟨by simp; omega, fun j v hj => ?_⟩
      rw [List.getElem?_take] at hj
      split at hj
      · simp only [hc1, hb, Option.bind_some]
        rw [List.getElem?_drop] at hj; exact hj
      · cases hj
    · cases e

theorem Sim.cells {ρ : Rho} {h : Heap} {w : World} (s : Sim ρ h w) {i o n : Nat} {l : List Value} {k : Blk} (e : hcs h i o n = some l) (hk : ρ i = some k) :
    ∃ rl : List Value, rl.length = n ∧ VRL ρ l rl ∧ (∀ j v, rl[j]? = some v → w.cell? ⟨k.b, k.base + o + j, none⟩ = some v) ∧ ∀ v ∈ l, v.oneCell' = true := by
  obtain ⟨hl, hg⟩ := hcs_get e
  have hx : ∀ j, ∃ rv, j < n → w.cell? ⟨k.b, k.base + o + j, none⟩ = some rv ∧ VR ρ (l.getD j undef) rv ∧ (l.getD j undef).oneCell' = true := by
    intro j
    by_cases hj : j < n
    · have hj' : j < l.length := by omega
      obtain ⟨rv, h1, h2, h3⟩ := s.cell (hg j l[j] (List.getElem?_eq_getElem hj')) hk
      exact ⟨rv, fun _ => ⟨by rw [Nat.add_assoc]; exact h1, by simpa [List.getD_eq_getElem?_getD, List.getElem?_eq_getElem hj'] using h2, by simpa [List.getD_eq_getElem?_getD, List.getElem?_eq_getElem hj'] using h3⟩⟩
    · exact ⟨undef, fun h => absurd h hj⟩
  obtain ⟨f, hf⟩ := Classical.axiomOfChoice hx
  refine ⟨(List.range n).map f, by simp, ⟨by simp [hl], fun j hj => ?_⟩, fun j v hj => ?_, fun v hv => ?_⟩
  · have hj' : j < n := by omega
    have := (hf j hj').2.1
    simpa [List.getD_eq_getElem?_getD, hj'] using this
  · by_cases hj' : j < n
    · have := (hf j hj').1
      simp [hj'] at hj; rw [← hj]; exact this
    · simp [hj'] at hj
  · obtain ⟨j, hj, rfl⟩ := List.getElem_of_mem hv
    have := (hf j (by omega)).2.2
    simpa [List.getD_eq_getElem?_getD, List.getElem?_eq_getElem hj] using this

theorem oneAll_mem {l : List Value} (h : oneAll l = true) : ∀ v ∈ l, v.oneCell' = true := by simpa [oneAll] using h
theorem VRL.one {ρ : Rho} {l rl : List Value} (h : VRL ρ l rl) (h1 : ∀ v ∈ l, v.oneCell' = true) : ∀ v ∈ rl, v.oneCell' = true := by
  intro v hv
  obtain ⟨j, hj, rfl⟩ := List.getElem_of_mem hv
  have hj' : j < l.length := by rw [h.1]; exact hj
  have := h.2 j hj'
  simp only [List.getD_eq_getElem?_getD, List.getElem?_eq_getElem hj, List.getElem?_eq_getElem hj', Option.getD_some] at this
  rw [this.one]; exact h1 _ (List.getElem_mem hj')

/-- A world that differs in nothing but its blocks. -/
structure Like (w w' : World) : Prop where
  os : w'.os = w.os
  tape : w'.tape = w.tape
  output : w'.output = w.output

def rset (ρ : Rho) (i : Nat) (k : Blk) : Rho := fun j => if j = i then some k else ρ j

theorem rset_ext {ρ : Rho} {h : Heap} {w : World} (s : Sim ρ h w) (k : Blk) : Ext ρ (rset ρ h.length k) := by
  intro j k' hj
  have := (s.dom j k' hj).1
  simp [rset, Nat.ne_of_lt this, hj]

/-- A new block, a new object. -/
theorem Sim.new {ρ : Rho} {h : Heap} {w w' : World} (s : Sim ρ h w) {l : List Value} {rc : Array Value} {t : TypeId} (es : Nat)
    (hl : Like w w') (hw : w'.heap = w.heap.push (.cells rc t (0, 0))) (h1 : ∀ v ∈ l, v.oneCell' = true) (hz : l.length ≤ rc.size)
    (hr : ∀ (j : Nat) (v : Value), l[j]? = some v → ∃ rv, rc[j]? = some rv ∧ VR ρ v rv) :
    Sim (rset ρ h.length ⟨w.heap.size, 0, rc.size, es, true⟩) (newO h l es) w' ∧ Stp [] ρ h w (rset ρ h.length ⟨w.heap.size, 0, rc.size, es, true⟩) (newO h l es) w' := by
  have he := rset_ext s ⟨w.heap.size, 0, rc.size, es, true⟩
  have hsz : w'.heap.size = w.heap.size + 1 := by rw [hw]; simp
  have hold : ∀ b, b < w.heap.size → w'.heap[b]? = w.heap[b]? := fun b hb => by
    rw [hw, Array.getElem?_push, if_neg (by omega)]
  have hnew : w'.heap[w.heap.size]? = some (.cells rc t (0, 0)) := by rw [hw]; simp
  have hget : ∀ i o, (newO h l es)[i]? = some (some o) → (i < h.length ∧ h[i]? = some (some o)) ∨ (i = h.length ∧ o = ⟨l, es, true⟩) := by
    intro i o e
    unfold newO at e
    by_cases hi : i < h.length
    · rw [List.getElem?_append_left hi] at e; exact .inl ⟨hi, e⟩
    · rw [List.getElem?_append_right (by omega)] at e
      by_cases h0 : i - h.length = 0
      · rw [h0] at e; simp at e; exact .inr ⟨by omega, e.symm⟩
      · rw [List.getElem?_eq_none (by simp; omega)] at e; cases e
  refine ⟨⟨?_, ?_, ?_⟩, ⟨he, hl.os, hl.tape, hl.output, by omega, by simp [newO], fun b hb _ => hold b hb, fun i hi _ => by unfold newO; rw [List.getElem?_append_left hi], ?_, ?_⟩⟩
  · intro i k hk
    unfold rset at hk
    split at hk
    · rename_i e; injection hk with hk; subst hk; subst e
      exact ⟨by simp [newO], by show w.heap.size < w'.heap.size; omega⟩
    · have := s.dom i k hk
      exact ⟨by simp [newO]; omega, by omega⟩
  · intro i o e
    rcases hget i o e with ⟨hi, e'⟩ | ⟨rfl, rfl⟩
    · obtain ⟨k, rc', t', fr, hk, hh, ho, hown, hc⟩ := s.obj i o e'
      refine ⟨k, rc', t', fr, he _ _ hk, by rw [hold _ (s.dom i k hk).2]; exact hh, ho, hown, fun j v hv => ?_⟩
      obtain ⟨rv, a, b, c⟩ := hc j v hv
      exact ⟨rv, a, b.mono he, c⟩
    · refine ⟨⟨w.heap.size, 0, rc.size, es, true⟩, rc, t, (0, 0), by simp [rset], hnew, rfl, fun _ => ⟨rfl, rfl, rfl, by simpa using hz⟩, fun j v hv => ?_⟩
      obtain ⟨rv, a, b⟩ := hr j v hv
      exact ⟨rv, by simpa using a, b.mono he, h1 v (List.mem_of_getElem? hv)⟩
  · intro i j oi oj ki kj hi hj hki hkj ho hne
    rcases hget i oi hi with ⟨hi1, hi2⟩ | ⟨rfl, rfl⟩ <;> rcases hget j oj hj with ⟨hj1, hj2⟩ | ⟨rfl, rfl⟩
    · obtain ⟨k1, _, _, _, hk1, _⟩ := s.obj i oi hi2
      obtain ⟨k2, _, _, _, hk2, _⟩ := s.obj j oj hj2
      have e1 := he _ _ hk1; have e2 := he _ _ hk2
      rw [hki] at e1; rw [hkj] at e2; injection e1 with e1; injection e2 with e2; subst e1; subst e2
      exact s.inj i j oi oj _ _ hi2 hj2 hk1 hk2 ho hne
    · obtain ⟨k1, _, _, _, hk1, _⟩ := s.obj i oi hi2
      have e1 := he _ _ hk1
      rw [hki] at e1; injection e1 with e1; subst e1
      simp [rset] at hkj; subst hkj
      exact Nat.ne_of_lt (s.dom i _ hk1).2
    · obtain ⟨k2, _, _, _, hk2, _⟩ := s.obj j oj hj2
      have e2 := he _ _ hk2
      rw [hkj] at e2; injection e2 with e2; subst e2
      simp [rset] at hki; subst hki
      exact Nat.ne_of_gt (s.dom j _ hk2).2
    · exact absurd rfl hne
  · intro i o' hi e
    rcases hget i o' e with ⟨_, e'⟩ | ⟨rfl, _⟩
    · exact ⟨o', e', rfl⟩
    · omega
  · intro i o k hi e ho hk
    rcases hget i o e with ⟨hi', _⟩ | ⟨rfl, rfl⟩
    · omega
    · simp [rset] at hk; subst hk; exact .inl (Nat.le_refl _)

/-- An own object's cells are written. -/
theorem Sim.upd {ρ : Rho} {h : Heap} {w w' : World} (s : Sim ρ h w) {i : Nat} {ob : AObj} {k : Blk} {l : List Value} {rc' : Array Value} {t : TypeId}
    (hi : hob h i = some ob) (ho : ob.own = true) (hk : ρ i = some k) (hl : Like w w') (hsz : w'.heap.size = w.heap.size)
    (hw : w'.heap[k.b]? = some (.cells rc' t (0, 0))) (hoth : ∀ b, b ≠ k.b → w'.heap[b]? = w.heap[b]?) (hrs : rc'.size = k.sz) (hle : k.base + l.length ≤ k.sz)
    (hr : ∀ (j : Nat) (v : Value), l[j]? = some v → ∃ rv, rc'[k.base + j]? = some rv ∧ VR ρ v rv ∧ v.oneCell' = true) :
    Sim ρ (h.set i (some { ob with cells := l })) w' ∧ Stp [i] ρ h w ρ (h.set i (some { ob with cells := l })) w' := by
  have hi' := hob_eq.1 hi
  have hlt : i < h.length := (List.getElem?_eq_some_iff.1 hi').1
  have hget : ∀ j o, (h.set i (some { ob with cells := l }))[j]? = some (some o) → (j = i ∧ o = { ob with cells := l }) ∨ (j ≠ i ∧ h[j]? = some (some o)) := by
    intro j o e
    by_cases hj : j = i
    · subst hj; rw [List.getElem?_set_self hlt] at e; injection e with e; injection e with e; exact .inl ⟨rfl, e.symm⟩
    · rw [List.getElem?_set_ne (fun x => hj x.symm)] at e; exact .inr ⟨hj, e⟩
  obtain ⟨k0, rc0, t0, fr0, hk0, hh0, ho0, hown0, _⟩ := s.obj i ob hi'
  rw [hk] at hk0; injection hk0 with hk0; subst hk0
  refine ⟨⟨?_, ?_, ?_⟩, ⟨.refl ρ, hl.os, hl.tape, hl.output, by omega, by simp, ?_, fun j _ hn => List.getElem?_set_ne (fun e => hn (by simp [e])), ?_, ?_⟩⟩
  · intro j kj hj
    have := s.dom j kj hj
    exact ⟨by simpa using this.1, by omega⟩
  · intro j o e
    rcases hget j o e with ⟨rfl, rfl⟩ | ⟨hne, e'⟩
    · exact ⟨k, rc', t, (0, 0), hk, hw, ho0, fun _ => ⟨rfl, hrs, (hown0 ho).2.2.1, hle⟩, hr⟩
    · obtain ⟨kj, rc, tj, fr, hkj, hh, hoj, hown, hc⟩ := s.obj j o e'
      have hne' : kj.b ≠ k.b := fun x => s.inj i j ob o k kj hi' e' hk hkj ho (fun y => hne y.symm) x.symm
      exact ⟨kj, rc, tj, fr, hkj, by rw [hoth _ hne']; exact hh, hoj, hown, hc⟩
  · intro a b oa ob' ka kb ha hb hka hkb hoa hne
    have ha' : ∃ o', h[a]? = some (some o') ∧ o'.own = oa.own := by
      rcases hget a oa ha with ⟨rfl, rfl⟩ | ⟨_, e⟩
      · exact ⟨ob, hi', rfl⟩
      · exact ⟨oa, e, rfl⟩
    have hb' : ∃ o', h[b]? = some (some o') := by
      rcases hget b ob' hb with ⟨rfl, rfl⟩ | ⟨_, e⟩
      · exact ⟨ob, hi'⟩
      · exact ⟨ob', e⟩
    obtain ⟨oa', ea, hoa'⟩ := ha'
    obtain ⟨ob'', eb⟩ := hb'
    exact s.inj a b oa' ob'' ka kb ea eb hka hkb (by rw [hoa']; exact hoa) hne
  · intro b hb hn
    refine hoth b fun x => hn ?_
    subst x
    exact ⟨i, ob, k, by simp, hi', ho, hk, rfl⟩
  · intro j o' hj e
    rcases hget j o' e with ⟨rfl, rfl⟩ | ⟨_, e'⟩
    · exact ⟨ob, hi', rfl⟩
    · exact ⟨o', e', rfl⟩
  · intro j o kj hj e
    rw [List.getElem?_eq_none (by simpa using hj)] at e; cases e

/-- An own object is appended to in its place: it dies, a new object takes its block. -/
theorem Sim.move {ρ : Rho} {h : Heap} {w w' : World} (s : Sim ρ h w) {i o : Nat} {ob : AObj} {k : Blk} {l : List Value} {rc' : Array Value} {t : TypeId}
    (hi : hob h i = some ob) (ho : ob.own = true) (hk : ρ i = some k) (hl : Like w w') (hsz : w'.heap.size = w.heap.size)
    (hw : w'.heap[k.b]? = some (.cells rc' t (0, 0))) (hoth : ∀ b, b ≠ k.b → w'.heap[b]? = w.heap[b]?) (hrs : rc'.size = k.sz) (hle : k.base + o + l.length ≤ k.sz)
    (hr : ∀ (j : Nat) (v : Value), l[j]? = some v → ∃ rv, rc'[k.base + o + j]? = some rv ∧ VR ρ v rv ∧ v.oneCell' = true) :
    Sim (rset ρ h.length ⟨k.b, k.base + o, k.sz, k.es, true⟩) (newO (h.set i none) l k.es) w' ∧
      Stp [i] ρ h w (rset ρ h.length ⟨k.b, k.base + o, k.sz, k.es, true⟩) (newO (h.set i none) l k.es) w' := by
  have hi' := hob_eq.1 hi
  have hlt : i < h.length := (List.getElem?_eq_some_iff.1 hi').1
  have he := rset_ext s ⟨k.b, k.base + o, k.sz, k.es, true⟩
  have hget : ∀ j o', (newO (h.set i none) l k.es)[j]? = some (some o') → (j ≠ i ∧ j < h.length ∧ h[j]? = some (some o')) ∨ (j = h.length ∧ o' = ⟨l, k.es, true⟩) := by
    intro j o' e
    unfold newO at e
    by_cases hj : j < h.length
    · rw [List.getElem?_append_left (by simpa using hj)] at e
      by_cases hji : j = i
      · subst hji; rw [List.getElem?_set_self hlt] at e; simp at e
      · rw [List.getElem?_set_ne (fun x => hji x.symm)] at e; exact .inl ⟨hji, hj, e⟩
    · rw [List.getElem?_append_right (by simp; omega)] at e
      by_cases h0 : j - (h.set i none).length = 0
      · rw [h0] at e; simp at e; exact .inr ⟨by simp at h0; omega, e.symm⟩
      · rw [List.getElem?_eq_none (by simp at h0 ⊢; omega)] at e; cases e
  refine ⟨⟨?_, ?_, ?_⟩, ⟨he, hl.os, hl.tape, hl.output, by omega, by simp [newO], ?_, fun j hj hn => by unfold newO; rw [List.getElem?_append_left (by simpa using hj), List.getElem?_set_ne (fun e => hn (by simp [e]))], ?_, ?_⟩⟩
  · intro j kj hj
    unfold rset at hj
    split at hj
    · rename_i e; injection hj with hj; subst hj; subst e
      exact ⟨by simp [newO], by have := (s.dom i k hk).2; show k.b < _; omega⟩
    · have := s.dom j kj hj
      exact ⟨by simp [newO]; omega, by omega⟩
  · intro j o' e
    rcases hget j o' e with ⟨hne, _, e'⟩ | ⟨rfl, rfl⟩
    · obtain ⟨kj, rc, tj, fr, hkj, hh, hoj, hown, hc⟩ := s.obj j o' e'
      have hne' : kj.b ≠ k.b := fun x => s.inj i j ob o' k kj hi' e' hk hkj ho (fun y => hne y.symm) x.symm
      refine ⟨kj, rc, tj, fr, he _ _ hkj, by rw [hoth _ hne']; exact hh, hoj, hown, fun a v hv => ?_⟩
      obtain ⟨rv, x, y, z⟩ := hc a v hv
      exact ⟨rv, x, y.mono he, z⟩
    · refine ⟨⟨k.b, k.base + o, k.sz, k.es, true⟩, rc', t, (0, 0), by simp [rset], hw, rfl, fun _ => ⟨rfl, hrs, rfl, hle⟩, fun j v hv => ?_⟩
      obtain ⟨rv, x, y, z⟩ := hr j v hv
      exact ⟨rv, x, y.mono he, z⟩
  · intro a b oa ob' ka kb ha hb hka hkb hoa hne
    rcases hget a oa ha with ⟨hai, _, ea⟩ | ⟨rfl, rfl⟩ <;> rcases hget b ob' hb with ⟨hbi, _, eb⟩ | ⟨rfl, rfl⟩
    · obtain ⟨k1, _, _, _, hk1, _⟩ := s.obj a oa ea
      obtain ⟨k2, _, _, _, hk2, _⟩ := s.obj b ob' eb
      have e1 := he _ _ hk1; have e2 := he _ _ hk2
      rw [hka] at e1; rw [hkb] at e2; injection e1 with e1; injection e2 with e2; subst e1; subst e2
      exact s.inj a b oa ob' _ _ ea eb hk1 hk2 hoa hne
    · obtain ⟨k1, _, _, _, hk1, _⟩ := s.obj a oa ea
      have e1 := he _ _ hk1
      rw [hka] at e1; injection e1 with e1; subst e1
      simp [rset] at hkb; subst hkb
      exact fun x => s.inj i a ob oa k _ hi' ea hk hk1 ho (fun y => hai y.symm) x.symm
    · obtain ⟨k2, _, _, _, hk2, _⟩ := s.obj b ob' eb
      have e2 := he _ _ hk2
      rw [hkb] at e2; injection e2 with e2; subst e2
      simp [rset] at hka; subst hka
      exact s.inj i b ob ob' k _ hi' eb hk hk2 ho (fun y => hbi y.symm)
    · exact absurd rfl hne
  · intro b hb hn
    refine hoth b fun x => hn ?_
    subst x
    exact ⟨i, ob, k, by simp, hi', ho, hk, rfl⟩
  · intro j o' hj e
    rcases hget j o' e with ⟨_, _, e'⟩ | ⟨rfl, _⟩
    · exact ⟨o', e', rfl⟩
    · omega
  · intro j o' kj hj e ho' hkj
    rcases hget j o' e with ⟨_, h2, _⟩ | ⟨rfl, rfl⟩
    · omega
    · simp [rset] at hkj; subst hkj
      exact .inr ⟨i, ob, k, by simp, hi', ho, hk, rfl⟩

/-- An object is forgotten. -/
theorem Sim.kill {ρ : Rho} {h : Heap} {w : World} (s : Sim ρ h w) {i : Nat} {ob : AObj} (hi : hob h i = some ob) : Sim ρ (h.set i none) w := by
  have hget : ∀ (j : Nat) (o' : AObj), (h.set i none)[j]? = some (some o') → h[j]? = some (some o') := by
    intro j o' e
    by_cases hj : i = j
    · subst hj
      have hlt := (List.getElem?_eq_some_iff.1 (hob_eq.1 hi)).1
      rw [List.getElem?_set_self hlt] at e; simp at e
    · rwa [List.getElem?_set_ne hj] at e
  refine ⟨fun j k hj => by simpa using s.dom j k hj, fun j o' e => s.obj j o' (hget j o' e), fun a b oa ob' ka kb ha hb => s.inj a b oa ob' ka kb (hget a oa ha) (hget b ob' hb)⟩
theorem Stp.kill {T : List Nat} {ρ ρ' : Rho} {h h' h'' : Heap} {w w' : World} (s : Stp T ρ h w ρ' h' w') {i : Nat} (e : h'.set i none = h'') : Stp (i :: T) ρ h w ρ' h'' w' := by
  subst e
  have hget : ∀ (j : Nat) (o' : AObj), (h'.set i none)[j]? = some (some o') → h'[j]? = some (some o') := by
    intro j o' e
    by_cases hj : i = j
    · subst hj
      by_cases hlt : i < h'.length
      · rw [List.getElem?_set_self hlt] at e; simp at e
      · rw [List.getElem?_eq_none (by simp; omega)] at e; cases e
    · rwa [List.getElem?_set_ne hj] at e
  have s' := s.mono (T' := i :: T) (fun _ h => List.mem_cons_of_mem _ h)
  exact ⟨s'.ext, s'.os, s'.tape, s'.output, s'.size, by simpa using s'.len, s'.frame, fun j hj hn => by
    have hji : i ≠ j := fun e => hn (by simp [e])
    rw [List.getElem?_set_ne hji]; exact s'.same j hj hn, fun j o' hj e => s'.live j o' hj (hget j o' e), fun j o' k hj e => s'.back j o' k hj (hget j o' e)⟩
end Go.Ab

/- Each operation that is no call does in the world what the calculus says of it (first part). -/
set_option linter.unusedSimpArgs false
set_option linter.unusedVariables false
namespace Go.Ab

theorem atom_cases {v : Value} (h : atomB v = true) : (∃ b, v = .bool b) ∨ (∃ k n, v = .int k n) ∨ (∃ s, v = .string s) ∨ v = .pointer none ∨ v = .slice none 0 0 ∨ v = .nilFunc ∨ v = .nilIface ∨ ∃ f, v = .func (.func f) #[] #[] := by
  unfold atomB at h
  split at h
  · exact .inl ⟨_, rfl⟩
  · exact .inr (.inl ⟨_, _, rfl⟩)
  · exact .inr (.inr (.inl ⟨_, rfl⟩))
  · exact .inr (.inr (.inr (.inl rfl)))
  · exact .inr (.inr (.inr (.inr (.inl rfl))))
  · exact .inr (.inr (.inr (.inr (.inr (.inl rfl)))))
  · exact .inr (.inr (.inr (.inr (.inr (.inr (.inl rfl))))))
  · rename_i f xs ys
    simp at h
    obtain ⟨h1, h2⟩ := h
    subst h1; subst h2
    exact .inr (.inr (.inr (.inr (.inr (.inr (.inr ⟨_, rfl⟩))))))
  · cases h

theorem atom_eq {ρ : Rho} {v v' : Value} (h : atomB v = true) (r : VR ρ v v') : v' = v := by
  rcases atom_cases h with ⟨_, rfl⟩ | ⟨_, _, rfl⟩ | ⟨_, rfl⟩ | rfl | rfl | rfl | rfl | ⟨_, rfl⟩
  all_goals first
    | (cases r; rfl)
    | (obtain ⟨xs, ys, rfl, hx, hy⟩ := r.func_list
       have h1 : xs = #[] := by have := hx.1; simp at this; exact Array.eq_empty_of_size_eq_zero this.symm
       have h2 : ys = #[] := by have := hy.1; simp at this; exact Array.eq_empty_of_size_eq_zero this.symm
       rw [h1, h2])

theorem atom_refl {ρ : Rho} {v : Value} (h : atomB v = true) : VR ρ v v := by
  rcases atom_cases h with ⟨_, rfl⟩ | ⟨_, _, rfl⟩ | ⟨_, rfl⟩ | rfl | rfl | rfl | rfl | ⟨_, rfl⟩
  · exact .bool _
  · exact .int _ _
  · exact .str _
  · exact .nilp
  · exact .nils
  · exact .nilf
  · exact .nili
  · exact .func rfl rfl (fun j hj => absurd hj (Nat.not_lt_zero j)) (fun j hj => absurd hj (Nat.not_lt_zero j))

theorem atom_one {v : Value} (h : atomB v = true) : v.oneCell' = true := by
  rcases atom_cases h with ⟨_, rfl⟩ | ⟨_, _, rfl⟩ | ⟨_, rfl⟩ | rfl | rfl | rfl | rfl | ⟨_, rfl⟩ <;> rfl

theorem atoms_refl {ρ : Rho} {l : List Value} (h : l.all atomB = true) : VRL ρ l l := by
  induction l with
  | nil => exact .nil ρ
  | cons x l ih => simp at h; exact .cons (atom_refl h.1) (ih (by simpa using h.2))
theorem atoms_eq {ρ : Rho} {l l' : List Value} (h : l.all atomB = true) (r : VRL ρ l l') : l' = l := by
  induction l generalizing l' with
  | nil => exact List.eq_nil_of_length_eq_zero (by simpa using r.1.symm)
  | cons x l ih =>
    cases l' with
    | nil => simp [VRL] at r
    | cons y l' =>
      simp at h
      have hx : VR ρ x y := by simpa using r.2 0 (by simp)
      have hs : VRL ρ l l' := ⟨by simpa using r.1, fun j hj => by simpa using r.2 (j + 1) (by simpa using hj)⟩
      rw [atom_eq h.1 hx, ih (by simpa using h.2) hs]

theorem closed_eq {ρ : Rho} {v v' : Value} (h : closedB v = true) (r : VR ρ v v') : v' = v := by
  unfold closedB at h
  split at h
  · obtain ⟨xs, rfl, hx⟩ := r.agg_list
    rw [Array.toList_inj.1 (atoms_eq h hx)]
  · obtain ⟨xs, rfl, hx⟩ := r.tuple_list
    rw [Array.toList_inj.1 (atoms_eq h hx)]
  · exact atom_eq h r
theorem closed_refl {ρ : Rho} {v : Value} (h : closedB v = true) : VR ρ v v := by
  unfold closedB at h
  split at h
  · exact VR.agg_iff (atoms_refl h)
  · exact VR.tuple_iff (atoms_refl h)
  · exact atom_refl h

theorem bool_inv {ρ : Rho} {b : Bool} {v : Value} (r : VR ρ (.bool b) v) : v = .bool b := by cases r; rfl
theorem int_inv {ρ : Rho} {k : IntKind} {n : Int} {v : Value} (r : VR ρ (.int k n) v) : v = .int k n := by cases r; rfl
theorem str_inv {ρ : Rho} {s : ByteArray} {v : Value} (r : VR ρ (.string s) v) : v = .string s := by cases r; rfl
theorem nils_inv {ρ : Rho} {v : Value} (r : VR ρ (.slice none 0 0) v) : v = .slice none 0 0 := by cases r; rfl

theorem pv_run {P : Program} {α : Type} : ∀ (s : Sem α) {a : α}, pv P s = some a → ∀ w, s.run P w = .ok a w
  | .pure _, _, h, w => by simp [pv] at h; subst h; rfl
  | .program k, _, h, w => by simp only [pv] at h; simp only [Sem.run]; exact pv_run (k P) h w
  | .load .., _, h, _ | .store .., _, h, _ | .new .., _, h, _ | .shape .., _, h, _ | .freeze .., _, h, _ | .frozen .., _, h, _ | .getObj .., _, h, _ | .setObj .., _, h, _ | .choose .., _, h, _ | .sys .., _, h, _ | .mark .., _, h, _ | .halt .., _, h, _ => by simp [pv] at h

/-- The operands' real values. -/
def GV (ρ : Rho) (tm : Nat → Value) (g : Operand → Value) : Prop := ∀ x p, pO x = some p → VR ρ (p.ev tm) (g x)

/-- What an operation does to the world. -/
def Out (P : Program) (s : Sem Next) (ρ : Rho) (h : Heap) (w : World) (T : List Nat) (v : Value) (h' : Heap) : Prop :=
  ∃ nx w' ρ' rv, s.run P w = .ok nx w' ∧ (nx = .value rv ∨ (nx = .skip ∧ rv = undef)) ∧ VR ρ' v rv ∧ Sim ρ' h' w' ∧ Stp T ρ h w ρ' h' w'

/-- What a quiet operation does, in whatever world. -/
def OutQ (P : Program) (s : Sem Next) (ρ : Rho) (v : Value) : Prop := ∃ rv, VR ρ v rv ∧ ∀ w, s.run P w = .ok (.value rv) w

theorem Out.quiet {P : Program} {s : Sem Next} {ρ : Rho} {h : Heap} {w : World} {v rv : Value} (hs : Sim ρ h w) (hr : s.run P w = .ok (.value rv) w) (hv : VR ρ v rv) : Out P s ρ h w [] v h :=
  ⟨_, w, ρ, rv, hr, .inl rfl, hv, hs, .refl [] ρ h w⟩

theorem OutQ.out {P : Program} {s : Sem Next} {ρ : Rho} {h : Heap} {w : World} {v : Value} (q : OutQ P s ρ v) (hs : Sim ρ h w) : Out P s ρ h w [] v h := by
  obtain ⟨rv, hv, hr⟩ := q
  exact .quiet hs (hr w) hv

section
variable {P : Program} {ρ : Rho} {tm : Nat → Value} {h h' : Heap} {w : World} {g : Operand → Value} {o : Oper} {po : POp} {T : List Nat} {v : Value}

theorem Q3 {s : Sem Next} {rv : Value} {h : Heap} (hr : ∀ w, s.run P w = .ok (.value rv) w) (hv : VR ρ v rv) : OutQ P s ρ v ∧ ([] : List Nat) = [] ∧ h = h := ⟨⟨rv, hv, hr⟩, rfl, rfl⟩

theorem zeroOf_some {t : TypeId} {z : List Value} (e : zeroOf P t = some z) : ∃ i zv, P.info? t = some i ∧ i.zero = some zv ∧ zv.cells.toList = z ∧ closedB zv = true ∧ z.all atomB = true := by
  unfold zeroOf at e
  cases hi : P.info? t with
  | none => simp [hi] at e
  | some i =>
    simp only [hi, Option.bind_some] at e
    cases hz : i.zero with
    | none => simp [hz] at e
    | some zv =>
      simp only [hz, Option.bind_some] at e
      split at e
      · rename_i hc
        injection e with e; subst e
        simp only [Bool.and_eq_true] at hc
        exact ⟨i, zv, rfl, hz, rfl, hc.1, hc.2⟩
      · cases e
theorem szOf_some {t : TypeId} {n : Nat} (e : szOf P t = some n) : ∃ i, P.info? t = some i ∧ i.size = n := by
  unfold szOf at e
  cases hi : P.info? t with
  | none => simp [hi] at e
  | some i => simp [hi] at e; exact ⟨i, rfl, e⟩
theorem byOf_some {t : TypeId} {n : Nat} (e : byOf P t = some n) : ∃ i, P.info? t = some i ∧ i.bytes = n := by
  unfold byOf at e
  cases hi : P.info? t with
  | none => simp [hi] at e
  | some i => simp [hi] at e; exact ⟨i, rfl, e⟩

theorem newVar_out {ws rs : List Value} {rc : Array Value} {t : TypeId} (es : Nat) (hs : Sim ρ h w) (hv : VRL ρ ws rs) (h1 : oneAll ws = true) (he : rc.toList = rs) (s : Sem Next) (f : Addr → Value) (vv : Value)
    (hrun : s.run P w = .ok (.value (f ⟨w.heap.size, 0, none⟩)) (w.alloc (.cells rc t)))
    (hf : VR (rset ρ h.length ⟨w.heap.size, 0, rc.size, es, true⟩) vv (f ⟨w.heap.size, 0, none⟩)) : Out P s ρ h w [] vv (newO h ws es) := by
  have hn := hs.new (w' := w.alloc (.cells rc t)) (l := ws) (rc := rc) (t := t) es ⟨rfl, rfl, rfl⟩ rfl (oneAll_mem h1) (by have := hv.1; subst he; simp at this; omega)
    (fun j x hj => by obtain ⟨y, hy, r⟩ := hv.sm hj; exact ⟨y, by subst he; simpa using hy, r⟩)
  exact ⟨_, _, _, _, hrun, .inl rfl, hf, hn.1, hn.2⟩

theorem s_move {x : Operand} (ho : o.op = .move x ∨ o.op = .assign x) (hp : prepOp P o.op = some po) (ha : aop P tm h po = some (T, v, h')) (hg : GV ρ tm g) : OutQ P (execOp g o) ρ v ∧ T = [] ∧ h' = h := by
  have : ∃ p, pO x = some p ∧ po = .mov p := by
    rcases ho with ho | ho <;> rw [ho] at hp <;> simp [prepOp] at hp <;> obtain ⟨p, h1, h2⟩ := hp <;> exact ⟨p, h1, h2.symm⟩
  obtain ⟨p, h1, rfl⟩ := this
  simp [aop] at ha
  obtain ⟨rfl, rfl, rfl⟩ := ha
  refine Q3 (rv := g x) (fun w => ?_) (hg x p h1)
  rcases ho with ho | ho <;> simp [execOp, ho]

theorem s_pick {c a b : Operand} (ho : o.op = .pick c a b) (hp : prepOp P o.op = some po) (ha : aop P tm h po = some (T, v, h')) (hg : GV ρ tm g) : OutQ P (execOp g o) ρ v ∧ T = [] ∧ h' = h := by
  rw [ho] at hp
  simp [prepOp, Option.bind_eq_some_iff] at hp
  obtain ⟨pc, hc, pa, ha', pb, hb, rfl⟩ := hp
  have vc := hg _ _ hc
  simp only [aop] at ha
  split at ha
  · rename_i x e
    rw [e] at vc
    injection ha with ha; injection ha with h1 h2; injection h2 with h2 h3; subst h1; subst h2; subst h3
    have hgc : g c = .bool x := bool_inv vc
    refine Q3 (rv := if x then g a else g b) (fun w => ?_) ?_
    · simp [execOp, ho, hgc, asBool]
    · cases x
      · exact hg _ _ hb
      · exact hg _ _ ha'
  · cases ha

theorem s_alloc {t : TypeId} (ho : o.op = .alloc t) (hp : prepOp P o.op = some po) (ha : aop P tm h po = some (T, v, h')) (hs : Sim ρ h w) : Out P (execOp g o) ρ h w T v h' := by
  rw [ho] at hp
  simp [prepOp, Option.bind_eq_some_iff] at hp
  obtain ⟨z, hz, rfl⟩ := hp
  obtain ⟨i, zv, hi, hzv, rfl, _, hall⟩ := zeroOf_some hz
  simp [aop] at ha
  obtain ⟨rfl, rfl, rfl⟩ := ha
  refine newVar_out (rc := zv.cells) (t := t) _ hs (atoms_refl hall) ?_ rfl _ (fun a => .pointer (some a)) _ ?_ ?_
  · simp only [oneAll, List.all_eq_true] at hall ⊢; exact fun x hx => atom_one (hall x hx)
  · simp [execOp, ho, Instr.alloc, zeroValue, typeInfo, hi, hzv, newVar, newRow]
  · have := VR.ptr (ρ := rset ρ h.length ⟨w.heap.size, 0, zv.cells.size, zv.cells.toList.length, true⟩) (i := h.length) (o := 0) (k := ⟨w.heap.size, 0, zv.cells.size, zv.cells.toList.length, true⟩) (by simp [rset])
    simpa using this

theorem s_box {t : TypeId} {x : Operand} (ho : o.op = .box t x) (hp : prepOp P o.op = some po) (ha : aop P tm h po = some (T, v, h')) (hg : GV ρ tm g) (hs : Sim ρ h w) : Out P (execOp g o) ρ h w T v h' := by
  rw [ho] at hp
  simp [prepOp] at hp
  obtain ⟨p, h1, rfl⟩ := hp
  simp only [aop] at ha
  split at ha
  · rename_i hone
    injection ha with ha; injection ha with e1 e2; injection e2 with e2 e3; subst e1; subst e2; subst e3
    have hv := (hg x p h1).cells
    refine newVar_out (rc := (g x).cells) (t := t) _ hs hv hone rfl _ (fun a => .pointer (some a)) _ ?_ ?_
    · simp [execOp, ho, Instr.box, newVar, newRow]
    · have := VR.ptr (ρ := rset ρ h.length ⟨w.heap.size, 0, (g x).cells.size, (p.ev tm).cells.toList.length, true⟩) (i := h.length) (o := 0) (k := ⟨w.heap.size, 0, (g x).cells.size, (p.ev tm).cells.toList.length, true⟩) (by simp [rset])
      simpa using this
  · cases ha

theorem ptr_inv {i ofs : Nat} {v : Value} (r : VR ρ (.pointer (some ⟨i, ofs, none⟩)) v) : ∃ k, ρ i = some k ∧ v = .pointer (some ⟨k.b, k.base + ofs, none⟩) := by
  cases r with
  | ptr h => exact ⟨_, h, rfl⟩

theorem add_plain (b n m : Nat) : (⟨b, n, none⟩ : Addr).add m = ⟨b, n + m, none⟩ := by
  unfold Addr.add; split
  · rename_i e; subst e; rfl
  · rfl

theorem s_load {t : TypeId} {x : Operand} (ho : o.op = .load t x) (hp : prepOp P o.op = some po) (ha : aop P tm h po = some (T, v, h')) (hg : GV ρ tm g) (hs : Sim ρ h w) : Out P (execOp g o) ρ h w T v h' := by
  rw [ho] at hp
  simp only [prepOp, bind, Option.bind_eq_some_iff] at hp
  obtain ⟨p, h1, n, hn, b, hb, hp⟩ := hp
  obtain ⟨i, hi, hsz⟩ := szOf_some hn
  unfold aggOf at hb
  cases hu : P.underlying t with
  | none => simp [hu] at hb
  | some d =>
    have hag : ∀ w, (isAgg t).run P w = .ok b w := by
      intro w
      simp only [hu, Option.map_some, Option.some.injEq] at hb
      subst hb
      simp only [isAgg, underlying, Sem.run_bind, run_program, Result.andThen_ok, hu]
      cases d <;> rfl
    have hv := hg x p h1
    cases b with
    | true =>
      simp at hp; subst hp
      simp only [aop] at ha
      split at ha
      · rename_i j ofs e
        rw [e] at hv
        obtain ⟨k, hk, hgx⟩ := ptr_inv hv
        cases hc : hcs h j ofs n with
        | none => simp [hc] at ha
        | some l =>
          simp [hc] at ha
          obtain ⟨rfl, rfl, rfl⟩ := ha
          obtain ⟨rl, hrl, hvr, hcell, _⟩ := hs.cells hc hk
          have hl := run_loadCells_list (P := P) w ⟨k.b, k.base + ofs, none⟩ rl (fun j v hj => by rw [add_plain]; exact hcell j v hj)
          refine .quiet hs (rv := .agg rl.toArray) ?_ (VR.agg_iff (by simpa using hvr))
          rw [hrl] at hl
          simp [execOp, ho, Instr.loadAt, Instr.sureAddr, hgx, loadVar, hag, sizeOf, typeInfo, hi, hsz, hl]
      · cases ha
    | false =>
      simp at hp; subst hp
      simp only [aop] at ha
      split at ha
      · rename_i j ofs e
        rw [e] at hv
        obtain ⟨k, hk, hgx⟩ := ptr_inv hv
        cases hc : hc1 h j ofs with
        | none => simp [hc] at ha
        | some u =>
          simp [hc] at ha
          obtain ⟨rfl, rfl, rfl⟩ := ha
          obtain ⟨rv, hcell, hvr, _⟩ := hs.cell hc hk
          refine .quiet hs (rv := rv) ?_ hvr
          simp [execOp, ho, Instr.loadAt, Instr.sureAddr, hgx, loadVar, hag, run_load, hcell]
      · cases ha
end
end Go.Ab

/- Each operation that is no call does in the world what the calculus says of it (second part). -/
set_option linter.unusedSimpArgs false
set_option linter.unusedVariables false
namespace Go.Ab
theorem pvc_some {P : Program} {s : Sem Value} {u : Value} (e : pvc P s = some u) : pv P s = some u ∧ closedB u = true := by
  unfold pvc at e
  cases hp : pv P s with
  | none => simp [hp] at e
  | some a =>
    simp only [hp, Option.bind_some] at e
    split at e
    · rename_i hc; injection e with e; subst e; exact ⟨rfl, hc⟩
    · cases e
section
variable {P : Program} {ρ : Rho} {tm : Nat → Value} {h h' : Heap} {w : World} {g : Operand → Value} {o : Oper} {po : POp} {T : List Nat} {v : Value}

theorem s_nilCheck {x : Operand} (ho : o.op = .nilCheck x) (hp : prepOp P o.op = some po) (ha : aop P tm h po = some (T, v, h')) (hg : GV ρ tm g) : OutQ P (execOp g o) ρ v ∧ T = [] ∧ h' = h := by
  rw [ho] at hp
  simp [prepOp] at hp
  obtain ⟨p, h1, rfl⟩ := hp
  have hv := hg x p h1
  simp only [aop] at ha
  split at ha
  · rename_i a e
    rw [e] at hv
    injection ha with ha; injection ha with e1 e2; injection e2 with e2 e3; subst e1; subst e2; subst e3
    obtain ⟨i, ofs, sp⟩ := a
    cases sp with
    | some _ => exact absurd hv (by intro r; cases r)
    | none =>
      obtain ⟨k, hk, hgx⟩ := ptr_inv hv
      refine Q3 (rv := g x) (fun w => ?_) (by rw [hgx]; exact .ptr hk)
      simp [execOp, ho, hgx]
  · rename_i f xs ys e
    rw [e] at hv
    injection ha with ha; injection ha with e1 e2; injection e2 with e2 e3; subst e1; subst e2; subst e3
    obtain ⟨xs', ys', hgx, _, _⟩ := hv.func_list
    refine Q3 (rv := g x) (fun w => ?_) hv
    simp [execOp, ho, hgx]
  · cases ha

/-- A pure operation over values without addresses. -/
theorem s_pure {s : Sem Value} {u : Value} {h : Heap} (e : pvc P s = some u) (hx : ∀ w, (execOp g o).run P w = (s.run P w).andThen fun a w' => .ok (.value a) w') : OutQ P (execOp g o) ρ u ∧ ([] : List Nat) = [] ∧ h = h := by
  obtain ⟨e1, e2⟩ := pvc_some e
  refine Q3 (rv := u) (fun w => ?_) (closed_refl e2)
  rw [hx, pv_run s e1 w]; rfl

theorem sl_inv {i ofs n c : Nat} {u : Value} (r : VR ρ (.slice (some ⟨i, ofs, none⟩) n c) u) : ∃ k ra rc, u = .slice (some ra) n rc ∧ ρ i = some k ∧ n ≤ rc ∧ (c = n → rc = n) ∧
    (rc ≠ 0 → ra = ⟨k.b, k.base + ofs, none⟩) ∧ (k.own = true → k.base + ofs + rc * k.es ≤ k.sz) := by
  cases r with
  | sl h hn hc ha hs => exact ⟨_, _, _, rfl, h, hn, hc, ha, hs⟩

theorem eqGuard_ok {op : BinOp} {t : TypeId} {x y : Operand} {a b : Value} (hsc : P.eqGuardType P.depth t = false) (hnil : a ≠ .nilIface) : (eqGuard op t x y a b).run P w = .ok () w := by
  cases op <;> simp only [eqGuard, Bool.not_true, Bool.not_false, Bool.false_eq_true, if_false, if_true, Sem.run_pure]
  all_goals (first | rfl | skip)
  all_goals
    cases a <;> first
      | exact absurd rfl hnil
      | rfl
      | (cases b <;> first | rfl | simp [hsc])

theorem s_bin {op : BinOp} {t t' : TypeId} {x y : Operand} (ho : o.op = .binOp op t x y t') (hp : prepOp P o.op = some po) (ha : aop P tm h po = some (T, v, h')) (hg : GV ρ tm g) : OutQ P (execOp g o) ρ v ∧ T = [] ∧ h' = h := by
  rw [ho] at hp
  simp only [prepOp, bind, Option.bind_eq_some_iff] at hp
  obtain ⟨px, hx, py, hy, hp⟩ := hp
  have vx := hg x px hx
  have vy := hg y py hy
  have snil : ∀ neg, (op = if neg then .neq else .eql) → (∃ e, P.underlying t = some (.slice e)) → py = .c (.slice none 0 0) → po = .snl neg px → OutQ P (execOp g o) ρ v ∧ T = [] ∧ h' = h := by
    rintro neg hop ⟨e, hu⟩ hpy rfl
    subst hpy
    have hgy : g y = .slice none 0 0 := nils_inv vy
    have hgd : ∀ a : Value, a ≠ .nilIface → (∃ p l c, a = .slice p l c) → ∀ w, (eqGuard op t x y a (.slice none 0 0)).run P w = .ok () w := by
      rintro a _ ⟨p, l, c, rfl⟩ w
      cases neg <;> subst hop <;> simp [eqGuard]
    simp only [aop] at ha
    split at ha
    · rename_i ex
      rw [ex] at vx
      injection ha with ha; injection ha with e1 e2; injection e2 with e2 e3; subst e1; subst e2; subst e3
      have hgx := nils_inv vx
      refine Q3 (rv := .bool (!neg)) (fun w => ?_) (.bool _)
      have hq := hgd _ (by simp) ⟨none, 0, 0, rfl⟩ w
      cases neg <;> subst hop <;> simp only [Bool.false_eq_true, if_false, if_true] at hq ho <;> simp [execOp, ho, hgx, hgy, hq, binOp, run_equal_slice_nil _ t e _ _ _ hu]
    · rename_i a n c ex
      rw [ex] at vx
      injection ha with ha; injection ha with e1 e2; injection e2 with e2 e3; subst e1; subst e2; subst e3
      obtain ⟨ra, rc, hgx⟩ : ∃ ra rc, g x = .slice (some ra) n rc := by
        generalize g x = gx at vx
        cases vx
        exact ⟨_, _, rfl⟩
      refine Q3 (rv := .bool neg) (fun w => ?_) (.bool _)
      have hq := hgd _ (by simp) ⟨some ra, n, rc, rfl⟩ w
      cases neg <;> subst hop <;> simp only [Bool.false_eq_true, if_false, if_true] at hq ho <;> simp [execOp, ho, hgx, hgy, hq, binOp, run_equal_slice_nil _ t e _ _ _ hu]
    · cases ha
  split at hp
  · rename_i hu; injection hp with hp; exact snil false rfl ⟨_, hu⟩ rfl hp.symm
  · rename_i hu; injection hp with hp; exact snil true rfl ⟨_, hu⟩ rfl hp.symm
  · split at hp
    · cases hp
    · rename_i hge
      injection hp with hp; subst hp
      simp only [aop] at ha
      split at ha
      · rename_i hc
        simp only [Bool.and_eq_true] at hc
        obtain ⟨⟨c1, c2⟩, c3⟩ := hc
        rw [← closed_eq c1 vx, ← closed_eq c2 vy] at ha
        simp only [Option.map_eq_some_iff, Prod.mk.injEq] at ha
        obtain ⟨u, hpv, rfl, rfl, rfl⟩ := ha
        have hn : g x ≠ .nilIface := by
          rw [closed_eq c1 vx]; intro e; rw [e] at c3; simp [notNilI] at c3
        exact s_pure hpv (fun w => by simp [execOp, ho, eqGuard_ok (P := P) (w := w) (x := x) (y := y) (b := g y) (by simpa using hge) hn])
      · cases ha

theorem s_un {op : UnOp} {t : TypeId} {x : Operand} (ho : o.op = .unOp op t x) (hp : prepOp P o.op = some po) (ha : aop P tm h po = some (T, v, h')) (hg : GV ρ tm g) : OutQ P (execOp g o) ρ v ∧ T = [] ∧ h' = h := by
  rw [ho] at hp
  simp [prepOp] at hp
  obtain ⟨p, h1, rfl⟩ := hp
  have hv := hg x p h1
  simp only [aop] at ha
  split at ha
  · rename_i hc
    rw [← closed_eq hc hv] at ha
    cases hpv : pvc P (Op.unary op (g x)) with
    | none => simp [hpv] at ha
    | some u =>
      simp [hpv] at ha
      obtain ⟨rfl, rfl, rfl⟩ := ha
      exact s_pure hpv (fun w => by simp [execOp, ho])
  · cases ha

theorem bytesOfV_spec : ∀ {l : List Value} {b : List UInt8}, bytesOfV l = some b → ∃ xs : List Int, l = xs.map (Value.int .u8) ∧ b = xs.map fun n => UInt8.ofNat n.toNat
  | [], b, e => by simp [bytesOfV] at e; exact ⟨[], rfl, by simp [e]⟩
  | .int .u8 n :: r, b, e => by
    simp only [bytesOfV, Option.map_eq_some_iff] at e
    obtain ⟨b', h1, rfl⟩ := e
    obtain ⟨xs, rfl, rfl⟩ := bytesOfV_spec h1
    exact ⟨n :: xs, rfl, rfl⟩
  | .int .i8 _ :: _, _, e | .int .i16 _ :: _, _, e | .int .i32 _ :: _, _, e | .int .i64 _ :: _, _, e | .int .u16 _ :: _, _, e | .int .u32 _ :: _, _, e | .int .u64 _ :: _, _, e => by simp [bytesOfV] at e
  | .bool _ :: _, _, e | .float .. :: _, _, e | .complex .. :: _, _, e | .string _ :: _, _, e | .pointer _ :: _, _, e | .slice .. :: _, _, e | .map _ :: _, _, e | .chan _ :: _, _, e | .func .. :: _, _, e | .nilFunc :: _, _, e | .iface .. :: _, _, e | .nilIface :: _, _, e | .agg _ :: _, _, e | .tuple _ :: _, _, e => by simp [bytesOfV] at e

theorem ints_eq {ρ : Rho} {xs : List Int} {rl : List Value} (hv : VRL ρ (xs.map (Value.int .u8)) rl) : rl = xs.map (Value.int .u8) :=
  atoms_eq (by simp [atomB]) hv

theorem s_conv {s d : TypeId} {x : Operand} (ho : o.op = .convert s d x) (hp : prepOp P o.op = some po) (ha : aop P tm h po = some (T, v, h')) (hg : GV ρ tm g) (hs : Sim ρ h w) : Out P (execOp g o) ρ h w T v h' := by
  rw [ho] at hp
  simp only [prepOp, bind, Option.bind_eq_some_iff] at hp
  obtain ⟨p, h1, hp⟩ := hp
  have hv := hg x p h1
  split at hp
  · rename_i e hu hd
    split at hp
    · rename_i hue
      have hue' : P.underlying e = some (.int .u8) := by
        revert hue; cases P.underlying e with
        | none => simp
        | some t => cases t <;> simp
      injection hp with hp; subst hp
      simp only [aop] at ha
      split at ha
      · rename_i ex
        rw [ex] at hv
        injection ha with ha; injection ha with e1 e2; injection e2 with e2 e3; subst e1; subst e2; subst e3
        refine .quiet hs (rv := .string .empty) ?_ (.str _)
        simp [execOp, ho, nils_inv hv, run_convert_bytes_nil w s e hu hue' 0 0 d hd]
      · rename_i i ofs n c ex
        rw [ex] at hv
        cases hc : hcs h i ofs n with
        | none => simp [hc] at ha
        | some l =>
          simp only [hc, Option.bind_some] at ha
          cases hb : bytesOfV l with
          | none => simp [hb] at ha
          | some b =>
            simp [hb] at ha
            obtain ⟨rfl, rfl, rfl⟩ := ha
            obtain ⟨xs, rfl, rfl⟩ := bytesOfV_spec hb
            obtain ⟨k, ra, rc, hgx, hk, hn, _, hadr, _⟩ := sl_inv hv
            · obtain ⟨rl, hrl, hvr, hcell, _⟩ := hs.cells hc hk
              have hxs := ints_eq hvr
              subst hxs
              have hlen : xs.length = n := by simpa using hrl
              by_cases h0 : n = 0
              · subst h0
                have : xs = [] := List.eq_nil_of_length_eq_zero hlen
                subst this
                obtain ⟨rb, ro, rs⟩ := ra
                refine .quiet hs (rv := .string ⟨#[]⟩) ?_ (.str _)
                have hl := run_loadCells_list (P := P) w ⟨rb, ro, rs⟩ [] (by simp)
                simp at hl
                rw [show (execOp g o).run P w = ((convert s d (.slice (some ⟨rb, ro, rs⟩) 0 rc)).run P w).andThen fun a w' => .ok (.value a) w' by simp [execOp, ho, hgx]]
                rw [run_convert_bytes_string w s d e _ 0 rc hu hue' hd]
                simp [Conv.bytesToString, hl]
                rfl
              · have := hadr (by omega)
                subst this
                refine .quiet hs (rv := .string ⟨(xs.map fun n => UInt8.ofNat n.toNat).toArray⟩) ?_ (.str _)
                have hr := run_convert_bytes_arg w s e hu hue' k.b (k.base + ofs) n rc xs hlen (fun i hi => by
                  refine hcell i _ ?_
                  simp [List.getElem?_eq_getElem (show i < xs.length by omega), List.getD_eq_getElem?_getD]) d hd
                simp [execOp, ho, hgx, hr, strOfNums]
      · cases ha
    · cases hp
  · injection hp with hp; subst hp
    simp only [aop] at ha
    split at ha
    · rename_i hc
      rw [← closed_eq hc hv] at ha
      cases hpv : pvc P (convert s d (g x)) with
      | none => simp [hpv] at ha
      | some u =>
        simp [hpv] at ha
        obtain ⟨rfl, rfl, rfl⟩ := ha
        exact (s_pure (h := h) hpv (fun w => by simp [execOp, ho])).1.out hs
    · cases ha

theorem s_cnv {s d : TypeId} {x : Operand} {p : PO} (ho : o.op = .convert s d x) (hp : prepOp P o.op = some (.cnv s d p)) (ha : aop P tm h (.cnv s d p) = some (T, v, h')) (hg : GV ρ tm g) : OutQ P (execOp g o) ρ v ∧ T = [] ∧ h' = h := by
  rw [ho] at hp
  simp only [prepOp, bind, Option.bind_eq_some_iff] at hp
  obtain ⟨p', h1, hp⟩ := hp
  have hv := hg x p' h1
  have : p' = p := by
    split at hp
    · split at hp <;> first | (cases hp; done) | (injection hp with hp; cases hp)
    · injection hp with hp; injection hp
  subst this
  simp only [aop] at ha
  split at ha
  · rename_i hc
    rw [← closed_eq hc hv] at ha
    cases hpv : pvc P (convert s d (g x)) with
    | none => simp [hpv] at ha
    | some u =>
      simp [hpv] at ha
      obtain ⟨rfl, rfl, rfl⟩ := ha
      exact s_pure hpv (fun w => by simp [execOp, ho])
  · cases ha
end
end Go.Ab

/- Each operation that is no call does in the world what the calculus says of it (third part). -/
set_option linter.unusedSimpArgs false
set_option linter.unusedVariables false
namespace Go.Ab
section
variable {P : Program} {ρ : Rho} {tm : Nat → Value} {h h' : Heap} {w : World} {g : Operand → Value} {o : Oper} {po : POp} {T : List Nat} {v : Value}

theorem pOs_rel : ∀ {xs : List Operand} {ps : List PO}, pOs xs = some ps → GV ρ tm g → VRL ρ (ps.map (·.ev tm)) (xs.map g)
  | [], ps, e, _ => by simp [pOs] at e; subst e; exact .nil ρ
  | x :: xs, ps, e, hg => by
    simp [pOs, Option.bind_eq_some_iff] at e
    obtain ⟨p, h1, ps', h2, rfl⟩ := e
    exact .cons (hg x p h1) (pOs_rel (by simpa [pOs] using h2) hg)

theorem s_mki {t : TypeId} {x : Operand} (ho : o.op = .makeInterface t x) (hp : prepOp P o.op = some po) (ha : aop P tm h po = some (T, v, h')) (hg : GV ρ tm g) : OutQ P (execOp g o) ρ v ∧ T = [] ∧ h' = h := by
  rw [ho] at hp
  simp only [prepOp, bind, Option.bind_eq_some_iff] at hp
  obtain ⟨p, h1, hp⟩ := hp
  cases hu : P.underlying t with
  | none => simp [hu] at hp
  | some d =>
    have : po = .mki t p ∧ ∀ w, (execOp g o).run P w = .ok (.value (.iface t (g x))) w := by
      cases d <;> simp [hu] at hp <;> exact ⟨hp.symm, fun w => by simp [execOp, ho, Instr.makeInterface, run_underlying hu]⟩
    obtain ⟨rfl, hr⟩ := this
    simp [aop] at ha
    obtain ⟨rfl, rfl, rfl⟩ := ha
    exact Q3 hr (.iface (hg x p h1))

theorem s_mkf {fn : Fn} {xs ys : Array Operand} (ho : o.op = .makeFunc fn xs ys) (hp : prepOp P o.op = some po) (ha : aop P tm h po = some (T, v, h')) (hg : GV ρ tm g) : OutQ P (execOp g o) ρ v ∧ T = [] ∧ h' = h := by
  rw [ho] at hp
  simp only [prepOp, bind, Option.bind_eq_some_iff] at hp
  obtain ⟨px, h1, py, h2, hp⟩ := hp
  injection hp with hp; subst hp
  simp only [aop, Option.some.injEq, Prod.mk.injEq] at ha
  obtain ⟨rfl, rfl, rfl⟩ := ha
  refine Q3 (rv := .func fn (xs.map g) (ys.map g)) (fun w => ?_) (.func_iff (by simpa using pOs_rel h1 hg) (by simpa using pOs_rel h2 hg))
  simp [execOp, ho, Instr.makeFunc]

theorem s_ext {x : Operand} {j : Nat} (ho : o.op = .extract x j) (hp : prepOp P o.op = some po) (ha : aop P tm h po = some (T, v, h')) (hg : GV ρ tm g) : OutQ P (execOp g o) ρ v ∧ T = [] ∧ h' = h := by
  rw [ho] at hp
  simp only [prepOp, bind, Option.bind_eq_some_iff] at hp
  obtain ⟨p, h1, hp⟩ := hp
  injection hp with hp; subst hp
  have hv := hg x p h1
  simp only [aop] at ha
  split at ha
  · rename_i vs e
    rw [e] at hv
    obtain ⟨us, hgx, hl⟩ := hv.tuple_list
    simp only [Option.map_eq_some_iff, Prod.mk.injEq] at ha
    obtain ⟨u, hj, rfl, rfl, rfl⟩ := ha
    obtain ⟨rv, hr, hvr⟩ := hl.sm (j := j) (by simpa using hj)
    refine Q3 (rv := rv) (fun w => ?_) hvr
    have hr' : us[j]? = some rv := by simpa using hr
    simp [execOp, ho, Instr.extract, hgx, hr']
  · cases ha

theorem s_fa {t : TypeId} {x : Operand} {f : Nat} (ho : o.op = .fieldAddr t x f) (hp : prepOp P o.op = some po) (ha : aop P tm h po = some (T, v, h')) (hg : GV ρ tm g) : OutQ P (execOp g o) ρ v ∧ T = [] ∧ h' = h := by
  rw [ho] at hp
  simp only [prepOp, bind, Option.bind_eq_some_iff] at hp
  obtain ⟨p, h1, hp⟩ := hp
  have hv := hg x p h1
  split at hp
  · rename_i fs hu
    simp only [Option.bind_eq_some_iff] at hp
    obtain ⟨fd, hf, n, hn, hp⟩ := hp
    obtain ⟨i, hi, hsz⟩ := szOf_some hn
    split at hp
    · cases hp
    · rename_i hn0
      injection hp with hp; subst hp
      simp only [aop] at ha
      split at ha
      · rename_i j ofs e
        rw [e] at hv
        obtain ⟨k, hk, hgx⟩ := ptr_inv hv
        injection ha with ha; injection ha with e1 e2; injection e2 with e2 e3; subst e1; subst e2; subst e3
        refine Q3 (rv := .pointer (some ⟨k.b, k.base + (ofs + fd.offset), none⟩)) (fun w => ?_) (.ptr hk)
        simp [execOp, ho, Instr.fieldAt, run_underlying hu, hf, hgx, Instr.sureAddr, fieldPlace, sizeOf, typeInfo, hi, hsz, hn0, add_plain, Nat.add_assoc]
      · cases ha
  · cases hp

theorem part_run {t : TypeId} {n : Nat} {b : Bool} (hn : szOf P t = some n) (hb : aggOf P t = some b) (cs : Array Value) (ofs : Nat) : (part t cs ofs).run P w =
    if b = true then .ok (.agg (cs.extract ofs (ofs + n))) w else (match cs[ofs]? with | some v => .ok v w | none => .halt (.stuck "part: no such cell") w) := by
  obtain ⟨i, hi, hsz⟩ := szOf_some hn
  unfold aggOf at hb
  cases hu : P.underlying t with
  | none => simp [hu] at hb
  | some d =>
    have hag : ∀ w, (isAgg t).run P w = .ok b w := by
      intro w
      simp only [hu, Option.map_some, Option.some.injEq] at hb
      subst hb
      simp only [isAgg, underlying, Sem.run_bind, run_program, Result.andThen_ok, hu]
      cases d <;> rfl
    simp only [part, Sem.run_bind, hag, Result.andThen_ok]
    cases b
    · simp
      cases cs[ofs]? <;> rfl
    · simp [sizeOf, typeInfo, hi, hsz]

theorem VRL.extract {xs ys : Array Value} (hl : VRL ρ xs.toList ys.toList) (a b : Nat) : VRL ρ (xs.extract a b).toList (ys.extract a b).toList := by
  have := (hl.drop a).take (b - a)
  simpa [Array.toList_extract, List.extract_eq_take_drop] using this

theorem s_fld {t : TypeId} {x : Operand} {f : Nat} (ho : o.op = .field t x f) (hp : prepOp P o.op = some po) (ha : aop P tm h po = some (T, v, h')) (hg : GV ρ tm g) : OutQ P (execOp g o) ρ v ∧ T = [] ∧ h' = h := by
  rw [ho] at hp
  simp only [prepOp, bind, Option.bind_eq_some_iff] at hp
  obtain ⟨p, h1, hp⟩ := hp
  have hv := hg x p h1
  split at hp
  · rename_i fs hu
    simp only [Option.bind_eq_some_iff] at hp
    obtain ⟨fd, hf, n, hn, b, hb, hp⟩ := hp
    injection hp with hp; subst hp
    simp only [aop] at ha
    split at ha
    · rename_i cs e
      rw [e] at hv
      obtain ⟨us, hgx, hl⟩ := hv.agg_list
      have hpt := fun w => part_run (w := w) hn hb us fd.offset
      cases b with
      | true =>
        simp at ha
        obtain ⟨rfl, rfl, rfl⟩ := ha
        refine Q3 (rv := .agg (us.extract fd.offset (fd.offset + n))) (fun w => ?_) (.agg_iff (VRL.extract hl _ _))
        simp [execOp, ho, Instr.field, run_underlying hu, hf, hgx, asAgg, hpt]
      | false =>
        simp only [Bool.false_eq_true, if_false, Option.map_eq_some_iff, Prod.mk.injEq] at ha
        obtain ⟨u, hj, rfl, rfl, rfl⟩ := ha
        obtain ⟨rv, hr, hvr⟩ := hl.sm (j := fd.offset) (by simpa using hj)
        refine Q3 (rv := rv) (fun w => ?_) hvr
        have hr' : us[fd.offset]? = some rv := by simpa using hr
        simp [execOp, ho, Instr.field, run_underlying hu, hf, hgx, asAgg, hpt, hr']
    · cases ha
  · cases hp

theorem s_ixa {t : TypeId} {x i : Operand} (ho : o.op = .indexAddr t x i) (hp : prepOp P o.op = some po) (ha : aop P tm h po = some (T, v, h')) (hg : GV ρ tm g) : OutQ P (execOp g o) ρ v ∧ T = [] ∧ h' = h := by
  rw [ho] at hp
  simp only [prepOp, bind, Option.bind_eq_some_iff] at hp
  obtain ⟨p, h1, q, h2, hp⟩ := hp
  have hv := hg x p h1
  have hvi := hg i q h2
  split at hp
  · rename_i e hu
    simp only [Option.bind_eq_some_iff] at hp
    obtain ⟨n, hn, hp⟩ := hp
    injection hp with hp; subst hp
    obtain ⟨ti, hi, hsz⟩ := szOf_some hn
    simp only [aop] at ha
    split at ha
    · rename_i j ofs len c ik m ex ei
      rw [ex] at hv; rw [ei] at hvi
      have hgi := int_inv hvi
      obtain ⟨k, ra, rc, hgx, hk, hle, _, hadr, _⟩ := sl_inv hv
      split at ha
      · rename_i hb
        injection ha with ha; injection ha with e1 e2; injection e2 with e2 e3; subst e1; subst e2; subst e3
        have := hadr (by omega)
        subst this
        refine Q3 (rv := .pointer (some ⟨k.b, k.base + (ofs + m.toNat * n), none⟩)) (fun w => ?_) (.ptr hk)
        simp [execOp, ho, Instr.indexAt, run_underlying hu, hgx, hgi, asIntOf, sizeOf, typeInfo, hi, hsz, hb, add_plain, Nat.add_assoc]
      · cases ha
    · cases ha
  · rename_i len e hu
    simp only [Option.bind_eq_some_iff] at hp
    obtain ⟨n, hn, hp⟩ := hp
    injection hp with hp; subst hp
    obtain ⟨ti, hi, hsz⟩ := szOf_some hn
    simp only [aop] at ha
    split at ha
    · rename_i j ofs ik m ex ei
      rw [ex] at hv; rw [ei] at hvi
      have hgi := int_inv hvi
      obtain ⟨k, hk, hgx⟩ := ptr_inv hv
      split at ha
      · rename_i hb
        injection ha with ha; injection ha with e1 e2; injection e2 with e2 e3; subst e1; subst e2; subst e3
        refine Q3 (rv := .pointer (some ⟨k.b, k.base + (ofs + m.toNat * n), none⟩)) (fun w => ?_) (.ptr hk)
        simp [execOp, ho, Instr.indexAt, run_underlying hu, hgx, hgi, asIntOf, Instr.sureAddr, sizeOf, typeInfo, hi, hsz, hb, add_plain, Nat.add_assoc]
      · cases ha
    · cases ha
  · cases hp

theorem s_ixs {t : TypeId} {x i : Operand} (ho : o.op = .index t x i) (hp : prepOp P o.op = some po) (ha : aop P tm h po = some (T, v, h')) (hg : GV ρ tm g) : OutQ P (execOp g o) ρ v ∧ T = [] ∧ h' = h := by
  rw [ho] at hp
  simp only [prepOp, bind, Option.bind_eq_some_iff] at hp
  obtain ⟨p, h1, q, h2, hp⟩ := hp
  have hv := hg x p h1
  have hvi := hg i q h2
  split at hp
  · rename_i hu
    injection hp with hp; subst hp
    simp only [aop] at ha
    split at ha
    · rename_i hc
      simp only [Bool.and_eq_true] at hc
      rw [← closed_eq hc.1 hv, ← closed_eq hc.2 hvi] at ha
      simp only [Option.map_eq_some_iff, Prod.mk.injEq] at ha
      obtain ⟨u, hpv, rfl, rfl, rfl⟩ := ha
      exact s_pure hpv (fun w => by simp [execOp, ho])
    · cases ha
  · cases hp

theorem pOo_some {x : Option Operand} {p : Option PO} (e : pOo x = some p) : (x = none ∧ p = none) ∨ ∃ y q, x = some y ∧ p = some q ∧ pO y = some q := by
  cases x with
  | none => simp [pOo] at e; exact .inl ⟨rfl, e.symm⟩
  | some y =>
    simp [pOo] at e
    obtain ⟨q, h1, rfl⟩ := e
    exact .inr ⟨y, q, rfl, rfl, h1⟩

theorem bnd_rel {x : Option Operand} {p : Option PO} (e : pOo x = some p) (hg : GV ρ tm g) (d l : Int) (hb : bndA d (p.map (·.ev tm)) = some l) :
    (x = none ∧ p = none ∧ l = d) ∨ ∃ y k, x = some y ∧ p.isSome ∧ g y = .int k l := by
  rcases pOo_some e with ⟨rfl, rfl⟩ | ⟨y, q, rfl, rfl, h1⟩
  · simp [bndA] at hb; exact .inl ⟨rfl, rfl, hb.symm⟩
  · have hv := hg y q h1
    simp only [Option.map_some, bndA] at hb
    unfold intOfV at hb
    split at hb
    · rename_i k n ex
      rw [ex] at hv
      injection hb with hb; subst hb
      exact .inr ⟨y, k, rfl, rfl, int_inv hv⟩
    · cases hb

theorem run_bound {k : IntKind} {i : Int} {y : Nat} {c : BoundsCode} (h0 : 0 ≤ i) (h1 : i ≤ y) : (Instr.sliceBound (.int k i) y c).run P w = .ok i.toNat w := by
  simp [Instr.sliceBound, asIntOf, h0, h1]

theorem s_ssl {t : TypeId} {x : Operand} {lo hi mx : Option Operand} (ho : o.op = .slice t x lo hi mx) (hp : prepOp P o.op = some po) (ha : aop P tm h po = some (T, v, h')) (hg : GV ρ tm g) (hs : Sim ρ h w) : OutQ P (execOp g o) ρ v ∧ T = [] ∧ h' = h := by
  rw [ho] at hp
  simp only [prepOp, bind, Option.bind_eq_some_iff] at hp
  obtain ⟨p, h1, pl, hlo, ph, hhi, pm, hmx, hp⟩ := hp
  have hv := hg x p h1
  split at hp
  · rename_i hu
    injection hp with hp; subst hp
    have hm : mx = none := by
      rcases pOo_some hmx with ⟨rfl, _⟩ | ⟨y, q, _, h, _⟩
      · rfl
      · cases h
    subst hm
    simp only [aop] at ha
    split at ha
    · rename_i hc
      simp only [Bool.and_eq_true] at hc
      obtain ⟨⟨c1, c2⟩, c3⟩ := hc
      have hl : (pl.map (·.ev tm)) = lo.map g := by
        rcases pOo_some hlo with ⟨rfl, rfl⟩ | ⟨y, q, rfl, rfl, hy⟩
        · rfl
        · simp at c2 ⊢; exact (closed_eq c2 (hg y q hy)).symm
      have hh : (ph.map (·.ev tm)) = hi.map g := by
        rcases pOo_some hhi with ⟨rfl, rfl⟩ | ⟨y, q, rfl, rfl, hy⟩
        · rfl
        · simp at c3 ⊢; exact (closed_eq c3 (hg y q hy)).symm
      rw [← closed_eq c1 hv, hl, hh] at ha
      simp only [Option.map_eq_some_iff, Prod.mk.injEq] at ha
      obtain ⟨u, hpv, rfl, rfl, rfl⟩ := ha
      exact s_pure hpv (fun w => by simp [execOp, ho, Instr.sliceAt, run_underlying hu])
    · cases ha
  · rename_i pm _ _ e hu
    simp only [Option.bind_eq_some_iff] at hp
    obtain ⟨n, hn, hp⟩ := hp
    injection hp with hp; subst hp
    obtain ⟨ti, hti, hsz⟩ := szOf_some hn
    simp only [aop] at ha
    split at ha
    · rename_i ex
      rw [ex] at hv
      have hgx := nils_inv hv
      split at ha
      · rename_i hc
        obtain ⟨cl, ch, cm, cmh⟩ := hc
        injection ha with ha; injection ha with e1 e2; injection e2 with e2 e3; subst e1; subst e2; subst e3
        refine Q3 (rv := .slice none 0 0) (fun w => ?_) .nils
        rcases bnd_rel hlo hg 0 0 cl with ⟨rfl, rfl, _⟩ | ⟨yl, kl, rfl, hpl, gl⟩ <;> rcases bnd_rel hhi hg 0 0 ch with ⟨rfl, rfl, _⟩ | ⟨yh, kh, rfl, hph, gh⟩ <;>
          rcases bnd_rel hmx hg 0 0 cm with ⟨rfl, rfl, _⟩ | ⟨ym, km, rfl, hpm, gm⟩ <;>
          first
            | (exfalso; have := cmh hpm; simp at this; done)
            | simp [execOp, ho, Instr.sliceAt, Instr.slice, Instr.sliceBounds, run_underlying hu, hgx, sizeOf, typeInfo, hti, *, run_bound]
      · cases ha
    · rename_i j ofs len c ex
      rw [ex] at hv
      obtain ⟨k, ra, rc, hgx, hk, hle, hfull, hadr, hsp⟩ := sl_inv hv
      simp only [Option.bind_eq_some_iff] at ha
      obtain ⟨ob, hob', l, hl, u, hu', ha⟩ := ha
      split at ha
      · rename_i hc
        obtain ⟨hes, h0, hlu, hun⟩ := hc
        obtain ⟨k2, rcs, t2, fr, hk2, _, hown, hownb, _⟩ := hs.obj j ob (hob_eq.1 hob')
        rw [hk] at hk2; injection hk2 with hk2; subst hk2
        have hke : k.own = true → k.es = n := fun hko => by
          have : ob.own = true := by rw [← hown]; exact hko
          rw [(hownb this).2.2.1, hes this]
        have hlt : l.toNat ≤ rc := by omega
        have base : ∀ (N C m : Nat), N ≤ m - l.toNat → (C = N → m - l.toNat = N) → m ≤ rc → l.toNat ≤ m → VR ρ (.slice (some ⟨j, ofs + l.toNat * n, none⟩) N C) (.slice (some (if m = l.toNat then ra else ra.add (l.toNat * n))) N (m - l.toNat)) := by
          intro N C m hN hC hm hlm
          refine .sl hk hN hC ?_ ?_
          · intro hne
            have : m ≠ l.toNat := by omega
            rw [if_neg this, hadr (by omega), add_plain]; simp [Nat.add_assoc]
          · intro hko
            have := hsp hko
            rw [hke hko] at this ⊢
            have hx : l.toNat * n + (m - l.toNat) * n = m * n := by rw [← Nat.add_mul]; congr 1; omega
            have hy : m * n ≤ rc * n := Nat.mul_le_mul_right _ hm
            omega
        have hlo' : ∃ f : Option Value → Prop, True := ⟨fun _ => True, trivial⟩
        cases pm with
        | none =>
          simp only [Option.some.injEq, Prod.mk.injEq] at ha
          obtain ⟨rfl, rfl, rfl⟩ := ha
          have hmn : mx = none := by
            rcases pOo_some hmx with ⟨h, _⟩ | ⟨y, q, _, h, _⟩
            · exact h
            · cases h
          subst hmn
          refine Q3 (rv := .slice (some (if rc = l.toNat then ra else ra.add (l.toNat * n))) (u.toNat - l.toNat) (rc - l.toNat)) (fun w => ?_) (base _ _ rc (by omega) (by split <;> omega) (Nat.le_refl _) hlt)
          rcases bnd_rel hlo hg 0 l hl with ⟨rfl, rfl, rfl⟩ | ⟨yl, kl, rfl, hpl, gl⟩ <;> rcases bnd_rel hhi hg len u hu' with ⟨rfl, rfl, rfl⟩ | ⟨yh, kh, rfl, hph, gh⟩
          · simp [execOp, ho, Instr.sliceAt, Instr.slice, Instr.sliceBounds, run_underlying hu, hgx, sizeOf, typeInfo, hti, hsz]
            split <;> simp_all
          · simp [execOp, ho, Instr.sliceAt, Instr.slice, Instr.sliceBounds, run_underlying hu, hgx, sizeOf, typeInfo, hti, hsz, gh, run_bound (P := P) (w := w) (k := kh) (i := u) (y := rc) (c := .sliceAcap) (by omega) (by omega)]
            split <;> simp_all
          · simp [execOp, ho, Instr.sliceAt, Instr.slice, Instr.sliceBounds, run_underlying hu, hgx, sizeOf, typeInfo, hti, hsz, gl, run_bound (P := P) (w := w) (k := kl) (i := l) (y := len) (c := .sliceB) (by omega) (by omega)]
            split <;> simp_all
          · simp [execOp, ho, Instr.sliceAt, Instr.slice, Instr.sliceBounds, run_underlying hu, hgx, sizeOf, typeInfo, hti, hsz, gl, gh, run_bound (P := P) (w := w) (k := kh) (i := u) (y := rc) (c := .sliceAcap) (by omega) (by omega),
              run_bound (P := P) (w := w) (k := kl) (i := l) (y := u.toNat) (c := .sliceB) (by omega) (by omega)]
            split <;> simp_all
        | some q =>
          simp only at ha
          split at ha
          · rename_i m hm
            split at ha
            · rename_i hc2
              obtain ⟨hum, hmn, hhs⟩ := hc2
              simp only [Option.some.injEq, Prod.mk.injEq] at ha
              obtain ⟨rfl, rfl, rfl⟩ := ha
              refine Q3 (rv := .slice (some (if m.toNat = l.toNat then ra else ra.add (l.toNat * n))) (u.toNat - l.toNat) (m.toNat - l.toNat)) (fun w => ?_) (base _ _ m.toNat (by omega) (by omega) (by omega) (by omega))
              rcases bnd_rel hmx hg 0 m (by simpa [bndA] using hm) with ⟨_, h, _⟩ | ⟨ym, km, rfl, hpm, gm⟩
              · cases h
              rcases bnd_rel hhi hg len u hu' with ⟨rfl, rfl, rfl⟩ | ⟨yh, kh, rfl, hph, gh⟩
              · simp at hhs
              rcases bnd_rel hlo hg 0 l hl with ⟨rfl, rfl, rfl⟩ | ⟨yl, kl, rfl, hpl, gl⟩
              · simp [execOp, ho, Instr.sliceAt, Instr.slice, Instr.sliceBounds, run_underlying hu, hgx, sizeOf, typeInfo, hti, hsz, gh, gm, run_bound (P := P) (w := w) (k := km) (i := m) (y := rc) (c := .slice3Acap) (by omega) (by omega),
                  run_bound (P := P) (w := w) (k := kh) (i := u) (y := m.toNat) (c := .slice3B) (by omega) (by omega)]
                split <;> simp_all
              · simp [execOp, ho, Instr.sliceAt, Instr.slice, Instr.sliceBounds, run_underlying hu, hgx, sizeOf, typeInfo, hti, hsz, gh, gm, gl, run_bound (P := P) (w := w) (k := km) (i := m) (y := rc) (c := .slice3Acap) (by omega) (by omega),
                  run_bound (P := P) (w := w) (k := kh) (i := u) (y := m.toNat) (c := .slice3B) (by omega) (by omega), run_bound (P := P) (w := w) (k := kl) (i := l) (y := u.toNat) (c := .slice3C) (by omega) (by omega)]
                split <;> simp_all
            · cases ha
          · cases ha
      · cases ha
    · cases ha
  · cases hp
end
end Go.Ab

/- Each operation that is no call does in the world what the calculus says of it (fourth part): memory. -/
set_option linter.unusedSimpArgs false
set_option linter.unusedVariables false
namespace Go.Ab
section
variable {P : Program} {ρ : Rho} {tm : Nat → Value} {h h' : Heap} {w : World} {g : Operand → Value} {o : Oper} {po : POp} {T : List Nat} {v : Value}

theorem splice_rel {base ofs n : Nat} {cells l rl : List Value} {rc : Array Value} (hc : ∀ (j : Nat) (v : Value), cells[j]? = some v → ∃ rv, rc[base + j]? = some rv ∧ VR ρ v rv ∧ v.oneCell' = true)
    (hl : VRL ρ l rl) (h1 : ∀ v ∈ l, v.oneCell' = true) (hn : l.length = n) (hle : ofs + n ≤ cells.length) (hsz : base + cells.length ≤ rc.size) (j : Nat) (v : Value)
    (hj : (cells.take ofs ++ (l ++ cells.drop (ofs + n)))[j]? = some v) :
    ∃ rv, (rc.toList.take (base + ofs) ++ rl ++ rc.toList.drop (base + ofs + rl.length)).toArray[base + j]? = some rv ∧ VR ρ v rv ∧ v.oneCell' = true := by
  have hrl : rl.length = n := by rw [← hl.1]; exact hn
  have ht : (rc.toList.take (base + ofs)).length = base + ofs := by simp; omega
  have htc : (cells.take ofs).length = ofs := by simp; omega
  rw [List.getElem?_toArray, List.append_assoc]
  by_cases a : j < ofs
  · rw [List.getElem?_append_left (by omega), List.getElem?_take, if_pos a] at hj
    obtain ⟨rv, x, y, z⟩ := hc j v hj
    refine ⟨rv, ?_, y, z⟩
    rw [List.getElem?_append_left (by omega), List.getElem?_take, if_pos (by omega)]
    simpa using x
  · rw [List.getElem?_append_right (by omega), htc] at hj
    rw [List.getElem?_append_right (by omega), ht]
    by_cases b : j < ofs + n
    · rw [List.getElem?_append_left (by omega)] at hj
      obtain ⟨rv, x, y⟩ := hl.sm hj
      refine ⟨rv, ?_, y, h1 v (List.mem_of_getElem? hj)⟩
      rw [List.getElem?_append_left (by omega), show base + j - (base + ofs) = j - ofs by omega]
      exact x
    · rw [List.getElem?_append_right (by omega), List.getElem?_drop] at hj
      obtain ⟨rv, x, y, z⟩ := hc _ v hj
      refine ⟨rv, ?_, y, z⟩
      rw [List.getElem?_append_right (by omega), List.getElem?_drop]
      have : base + ofs + rl.length + (base + j - (base + ofs) - rl.length) = base + (ofs + n + (j - ofs - l.length)) := by omega
      rw [this]
      simpa using x

theorem splice_size {k : Nat} {rl : List Value} {rc : Array Value} (hk : k + rl.length ≤ rc.size) : (rc.toList.take k ++ rl ++ rc.toList.drop (k + rl.length)).toArray.size = rc.size := by
  simp; omega

theorem Sim.own_row (hs : Sim ρ h w) {i : Nat} {ob : AObj} (hi : hob h i = some ob) (ho : ob.own = true) : ∃ k rc t, ρ i = some k ∧ w.heap[k.b]? = some (.cells rc t (0, 0)) ∧ k.own = true ∧ rc.size = k.sz ∧ k.es = ob.es ∧ k.base + ob.cells.length ≤ k.sz ∧
    ∀ (j : Nat) (v : Value), ob.cells[j]? = some v → ∃ rv, rc[k.base + j]? = some rv ∧ VR ρ v rv ∧ v.oneCell' = true := by
  obtain ⟨k, rc, t, fr, hk, hh, ho', hown, hc⟩ := hs.obj i ob (hob_eq.1 hi)
  obtain ⟨rfl, a, b, c⟩ := hown ho
  exact ⟨k, rc, t, hk, hh, by rw [ho']; exact ho, a, b, c, hc⟩

theorem storeRow (hs : Sim ρ h w) {i ofs n : Nat} {ob : AObj} {l rl : List Value} (hi : hob h i = some ob) (ho : ob.own = true) (hl : VRL ρ l rl) (h1 : oneAll l = true) (hn : l.length = n) (hle : ofs + n ≤ ob.cells.length)
    {k : Blk} (hk : ρ i = some k) : ∃ w', (storeCells ⟨k.b, k.base + ofs, none⟩ rl).run P w = .ok () w' ∧
    Sim ρ (h.set i (some { ob with cells := ob.cells.take ofs ++ (l ++ ob.cells.drop (ofs + n)) })) w' ∧ Stp [i] ρ h w ρ (h.set i (some { ob with cells := ob.cells.take ofs ++ (l ++ ob.cells.drop (ofs + n)) })) w' := by
  obtain ⟨k', rc, t, hk', hh, hko, hrs, hes, hcs, hc⟩ := hs.own_row hi ho
  rw [hk] at hk'; injection hk' with hk'; subst hk'
  have hrl : rl.length = n := by rw [← hl.1]; exact hn
  have hst := run_storeCells_at P k.b (k.base + ofs) t rl 0 rc w hh (by omega) (hl.one (oneAll_mem h1))
  simp only [Nat.add_zero] at hst
  refine ⟨_, hst, ?_⟩
  exact hs.upd hi ho hk ⟨rfl, rfl, rfl⟩ (by simp) (setRow_heap w k.b rc _ t (0, 0) hh) (fun b hb => setRow_other w k.b b _ hb) (by rw [splice_size (by omega)]; exact hrs) (by simp; omega)
    (splice_rel hc hl (oneAll_mem h1) hn hle (by omega))

theorem s_store {t : TypeId} {a x : Operand} (ho : o.op = .store t a x) (hp : prepOp P o.op = some po) (ha : aop P tm h po = some (T, v, h')) (hg : GV ρ tm g) (hs : Sim ρ h w) : Out P (execOp g o) ρ h w T v h' := by
  rw [ho] at hp
  simp only [prepOp, bind, Option.bind_eq_some_iff] at hp
  obtain ⟨n, hn, p, h1, q, h2, hp⟩ := hp
  injection hp with hp; subst hp
  obtain ⟨ti, hti, hsz⟩ := szOf_some hn
  have hv := hg a p h1
  have hx := (hg x q h2).cells
  simp only [aop] at ha
  split at ha
  · rename_i i ofs e
    rw [e] at hv
    obtain ⟨k, hk, hga⟩ := ptr_inv hv
    simp only [Option.bind_eq_some_iff] at ha
    obtain ⟨ob, hob', ha⟩ := ha
    split at ha
    · rename_i hc
      obtain ⟨c1, c2, c3, c4⟩ := hc
      simp only [Option.some.injEq, Prod.mk.injEq] at ha
      obtain ⟨rfl, rfl, rfl⟩ := ha
      obtain ⟨w', hr, s', st⟩ := storeRow (P := P) hs hob' c1 hx c3 c2 c4 hk
      refine ⟨.skip, w', ρ, undef, ?_, .inr ⟨rfl, rfl⟩, .undef ρ, s', st⟩
      have hsz2 : (g x).cells.size = n := by have := hx.1; simp at this c2; omega
      simp [execOp, ho, Instr.storeAt, hga, Instr.sureAddr, storeVar, sizeOf, typeInfo, hti, hsz, hsz2, hr]
    · cases ha
  · cases ha

theorem reps_length (z : List Value) : ∀ n, (reps z n).length = n * z.length
  | 0 => by simp [reps]
  | n + 1 => by simp [reps, reps_length z n, Nat.add_mul]; omega
theorem reps_get {z : List Value} (hz : 0 < z.length) : ∀ (n j : Nat), j < n * z.length → (reps z n)[j]? = z[j % z.length]?
  | 0, j, h => by simp at h
  | n + 1, j, h => by
    simp only [reps]
    by_cases a : j < z.length
    · rw [List.getElem?_append_left a, Nat.mod_eq_of_lt a]
    · rw [List.getElem?_append_right (by omega), reps_get hz n (j - z.length) (by rw [Nat.add_mul] at h; omega)]
      rw [Nat.mod_eq_sub_mod (a := j) (by omega)]
theorem reps_eq {z : Array Value} (hz : 0 < z.size) (n : Nat) : ((Array.range (n * z.size)).map (fun i => z[i % z.size]!)).toList = reps z.toList n := by
  apply List.ext_getElem?
  intro j
  by_cases a : j < n * z.size
  · rw [reps_get (by simpa using hz) n j (by simpa using a)]
    have hm : j % z.size < z.size := Nat.mod_lt _ hz
    simp [a, hm]
  · rw [List.getElem?_eq_none (by simp; omega), List.getElem?_eq_none (by rw [reps_length]; simp; omega)]

theorem fill_one {cells vs : Array Value} : ∀ (k : Nat), True := fun _ => trivial

theorem foldl_set (ofs : Nat) : ∀ (vs : List Value) (k : Nat) (cs : Array Value), ofs + k + vs.length ≤ cs.size →
    ((vs.zipIdx k).foldl (fun cs (p : Value × Nat) => cs.setIfInBounds (ofs + p.2) p.1) cs).toList = cs.toList.take (ofs + k) ++ (vs ++ cs.toList.drop (ofs + k + vs.length))
  | [], k, cs, _ => by simp
  | v :: vs, k, cs, h => by
    simp only [List.zipIdx_cons, List.foldl_cons]
    rw [foldl_set ofs vs (k + 1) _ (by simp at h ⊢; omega)]
    simp only [Array.toList_setIfInBounds, List.length_cons]
    have hlt : ofs + k < cs.toList.length := by simp at h ⊢; omega
    rw [List.set_eq_take_append_cons_drop, if_pos hlt]
    have e1 : ofs + (k + 1) = ofs + k + 1 := by omega
    have hl : (cs.toList.take (ofs + k)).length = ofs + k := by simp at hlt ⊢; omega
    rw [e1]
    have t1 : (cs.toList.take (ofs + k) ++ v :: cs.toList.drop (ofs + k + 1)).take (ofs + k + 1) = cs.toList.take (ofs + k) ++ [v] := by
      rw [List.take_append, hl]
      simp [List.take_of_length_le (show (cs.toList.take (ofs + k)).length ≤ ofs + k + 1 by omega)]
    have t2 : (cs.toList.take (ofs + k) ++ v :: cs.toList.drop (ofs + k + 1)).drop (ofs + k + 1 + vs.length) = cs.toList.drop (ofs + k + (vs.length + 1)) := by
      rw [List.drop_append, hl, List.drop_eq_nil_of_le (by omega)]
      rw [show ofs + k + 1 + vs.length - (ofs + k) = vs.length + 1 by omega]
      simp only [List.nil_append, List.drop_succ_cons, List.drop_drop]
      congr 1
      omega
    rw [t1, t2]
    simp

theorem fill_rel (place : Nat → Option (Nat × Nat)) : ∀ (ps : List (Nat × Value)) (qs : List (Nat × List Value)) (z l : List Value) (rz : Array Value),
    ps.length = qs.length → (∀ (j : Nat) p q, ps[j]? = some p → qs[j]? = some q → ∃ n, place p.1 = some (q.1, n) ∧ p.2.cells.size = n ∧ VRL ρ q.2 p.2.cells.toList) →
    VRL ρ z rz.toList → fillA z qs = some l → ∃ rl, Instr.fill place rz ps = some rl ∧ VRL ρ l rl.toList
  | [], [], z, l, rz, _, _, hz, e => by simp [fillA] at e; subst e; exact ⟨rz, rfl, hz⟩
  | p :: ps, q :: qs, z, l, rz, hlen, hr, hz, e => by
    obtain ⟨n, h1, h2, h3⟩ := hr 0 p q rfl rfl
    obtain ⟨i, pv⟩ := p
    obtain ⟨ofs, vs⟩ := q
    simp only at h1 h2 h3
    simp only [fillA] at e
    split at e
    · rename_i hle
      have hsz : rz.size = z.length := by have := hz.1; simp at this; omega
      have hvs : pv.cells.size = vs.length := by have := h3.1; simp at this; omega
      have hz' : VRL ρ (z.take ofs ++ (vs ++ z.drop (ofs + vs.length))) (pv.cells.zipIdx.foldl (fun cs (c : Value × Nat) => cs.setIfInBounds (ofs + c.2) c.1) rz).toList := by
        have := foldl_set ofs pv.cells.toList 0 rz (by simp; omega)
        rw [← Array.foldl_toList, Array.toList_zipIdx, this]
        simp only [Nat.add_zero]
        refine (hz.take ofs).append (h3.append ?_)
        have hd := hz.drop (ofs + vs.length)
        rw [show pv.cells.toList.length = vs.length by simpa using hvs]
        exact hd
      obtain ⟨rl, a, b⟩ := fill_rel place ps qs _ l _ (by simpa using hlen) (fun j p q hp hq => hr (j + 1) p q (by simpa using hp) (by simpa using hq)) hz' e
      refine ⟨rl, ?_, b⟩
      simp only [Instr.fill, h1]
      rw [if_neg (by simp [h2]; omega)]
      exact a
    · cases e
  | [], _ :: _, _, _, _, hlen, _, _, _ => by simp at hlen
  | _ :: _, [], _, _, _, hlen, _, _, _ => by simp at hlen

theorem mapM_rel {α β : Type} {f : α → Option β} : ∀ {xs : List α} {ys : List β}, xs.mapM f = some ys → xs.length = ys.length ∧ ∀ (j : Nat) x y, xs[j]? = some x → ys[j]? = some y → f x = some y
  | [], ys, e => by simp at e; subst e; exact ⟨rfl, fun j x y h => by simp at h⟩
  | x :: xs, ys, e => by
    simp [Option.bind_eq_some_iff] at e
    obtain ⟨y, h1, ys', h2, rfl⟩ := e
    obtain ⟨a, b⟩ := mapM_rel h2
    refine ⟨by simp [a], fun j u v hu hv => ?_⟩
    cases j with
    | zero => simp at hu hv; subst hu; subst hv; exact h1
    | succ j => exact b j u v (by simpa using hu) (by simpa using hv)

theorem s_bsl {t : TypeId} {len : Nat} {parts : Array (Nat × Operand)} (ho : o.op = .buildSlice t len parts) (hp : prepOp P o.op = some po) (ha : aop P tm h po = some (T, v, h')) (hg : GV ρ tm g) (hs : Sim ρ h w) : Out P (execOp g o) ρ h w T v h' := by
  rw [ho] at hp
  simp only [prepOp] at hp
  split at hp
  · rename_i e hu
    simp only [bind, Option.bind_eq_some_iff] at hp
    obtain ⟨n, hn, z, hz, ps, hps, hp⟩ := hp
    split at hp
    · rename_i hc
      obtain ⟨c1, c2, c3⟩ := hc
      injection hp with hp; subst hp
      obtain ⟨ti, zv, hti, hzv, rfl, _, hzall⟩ := zeroOf_some hz
      obtain ⟨ti', hti', hsz⟩ := szOf_some hn
      rw [hti] at hti'; injection hti' with hti'; subst hti'
      simp only [aop] at ha
      split at ha
      · rename_i hall
        simp only [Option.map_eq_some_iff, Prod.mk.injEq] at ha
        obtain ⟨l, hl, rfl, rfl, rfl⟩ := ha
        have hzs : zv.cells.size = n := by simpa using c2
        have hzr : VRL ρ (reps zv.cells.toList len) ((Array.range (len * n)).map (fun i => zv.cells[i % zv.cells.size]!)).toList := by
          rw [← hzs, reps_eq (by omega)]
          refine atoms_refl ?_
          have : ∀ m, (reps zv.cells.toList m).all atomB = true := by
            intro m; induction m with
            | zero => rfl
            | succ m ih => rw [reps, List.all_append, ih, hzall]; rfl
          exact this len
        obtain ⟨hlen, hrel⟩ := mapM_rel hps
        have hall' : ∀ p ∈ ps, (p.2.ev tm).cells.size = n ∧ oneAll (p.2.ev tm).cells.toList = true := by
          intro p hp; have := List.all_eq_true.1 hall p hp; simpa using this
        obtain ⟨rl, hf, hvr⟩ := fill_rel (ρ := ρ) (fun i => some (i * n, n)) (parts.map fun (i, x) => (i, g x)).toList (ps.map fun p => (p.1 * n, (p.2.ev tm).cells.toList)) _ l _ (by simp at hlen ⊢; exact hlen)
          (fun j p q hp hq => by
            simp only [Array.toList_map, List.getElem?_map, Option.map_eq_some_iff] at hp hq
            obtain ⟨⟨i, x⟩, hx, rfl⟩ := hp
            obtain ⟨⟨i', px⟩, hpx, rfl⟩ := hq
            have hfx := hrel j _ _ hx hpx
            simp only [Option.bind_eq_some_iff, Option.some.injEq, Prod.mk.injEq] at hfx
            obtain ⟨y, hy, rfl, rfl⟩ := hfx
            have hcv := (hg x y hy).cells
            have := (hall' _ (List.mem_of_getElem? hpx)).1
            refine ⟨n, rfl, ?_, hcv⟩
            have h0 := hcv.1
            simp only [Array.length_toList] at h0
            simp only at this
            show (g x).cells.size = n
            omega) hzr hl
        have hone : oneAll l = true := by
          have : ∀ (qs : List (Nat × List Value)) (z l : List Value), (∀ q ∈ qs, oneAll q.2 = true) → oneAll z = true → fillA z qs = some l → oneAll l = true := by
            intro qs
            induction qs with
            | nil => intro z l _ hz e; simp [fillA] at e; subst e; exact hz
            | cons q qs ih =>
              intro z l hq hz e
              simp only [fillA] at e
              split at e
              · refine ih _ l (fun q' hq' => hq q' (List.mem_cons_of_mem _ hq')) ?_ e
                have h0 := hq q (List.mem_cons_self ..)
                simp only [oneAll, List.all_append, Bool.and_eq_true, List.all_eq_true] at hz h0 ⊢
                exact ⟨fun x hx => hz x (List.mem_of_mem_take hx), h0, fun x hx => hz x (List.mem_of_mem_drop hx)⟩
              · cases e
          refine this _ _ l ?_ ?_ hl
          · intro q hq
            simp only [List.mem_map] at hq
            obtain ⟨p, hp, rfl⟩ := hq
            exact (hall' p hp).2
          · have : ∀ m, oneAll (reps zv.cells.toList m) = true := by
              intro m; induction m with
              | zero => rfl
              | succ m ih =>
                simp only [oneAll, reps, List.all_append, Bool.and_eq_true, List.all_eq_true] at ih ⊢
                exact ⟨fun x hx => atom_one (List.all_eq_true.1 hzall x hx), ih⟩
            exact this len
        refine newVar_out (rc := rl) (t := e) n hs hvr hone rfl _ (fun a => .slice (some a) len len) _ ?_ ?_
        · have hbig : ¬ (2 ^ 24 < len * n) := by omega
          by_cases h0 : len * n = 0
          · rw [h0] at hf
            simp only [execOp, ho, Instr.buildSlice]
            simp [run_underlying hu, sizeOf, typeInfo, hti, hsz, h0]
            simp only [show Array.range 0 = (#[] : Array Nat) from rfl, Array.map_empty] at hf ⊢
            simp at hf
            rw [hf]
            simp [newRow]
          · simp only [execOp, ho, Instr.buildSlice]
            simp [run_underlying hu, sizeOf, typeInfo, hti, hsz, h0, hbig, zeroValue, hzv, newRow] at hf ⊢
            simp [hf]
        · refine VR.sl (k := ⟨w.heap.size, 0, rl.size, n, true⟩) (by simp [rset]) (Nat.le_refl _) (fun _ => rfl) (fun _ => rfl) (fun _ => ?_)
          have h1 := hvr.1
          have : ∀ (qs : List (Nat × List Value)) (z l : List Value), fillA z qs = some l → l.length = z.length := by
            intro qs
            induction qs with
            | nil => intro z l e; simp [fillA] at e; subst e; rfl
            | cons q qs ih =>
              intro z l e
              simp only [fillA] at e
              split at e
              · rw [ih _ l e]; simp; omega
              · cases e
          have h2 := this _ _ l hl
          rw [reps_length] at h2
          simp only [Array.length_toList] at h1 h2
          show 0 + 0 + len * n ≤ rl.size
          rw [hzs] at h2
          omega
      · cases ha
    · cases hp
  · cases hp

theorem i64_wrap {n : Int} (h1 : -9223372036854775808 ≤ n) (h2 : n ≤ 9223372036854775807) : IntKind.i64.wrap n = n := by
  show (if (IntKind.signed .i64 && decide (n % (2 ^ IntKind.bits .i64 : Int) ≥ (2 ^ (IntKind.bits .i64 - 1) : Int))) = true then n % (2 ^ IntKind.bits .i64 : Int) - (2 ^ IntKind.bits .i64 : Int) else n % (2 ^ IntKind.bits .i64 : Int)) = n
  have e1 : (2 ^ IntKind.bits .i64 : Int) = 18446744073709551616 := rfl
  have e2 : (2 ^ (IntKind.bits .i64 - 1) : Int) = 9223372036854775808 := rfl
  have e3 : IntKind.signed .i64 = true := rfl
  simp only [e1, e2, e3, Bool.true_and, decide_eq_true_eq]
  split <;> omega

theorem s_mks {t : TypeId} {lo co : Operand} (ho : o.op = .makeSlice t lo co) (hp : prepOp P o.op = some po) (ha : aop P tm h po = some (T, v, h')) (hg : GV ρ tm g) (hs : Sim ρ h w) (hgt : ∀ i j : Nat, i = j → g (.tmp i) = g (.tmp j)) : Out P (execOp g o) ρ h w T v h' := by
  rw [ho] at hp
  simp only [prepOp] at hp
  split at hp
  · rename_i e hu
    simp only [bind, Option.bind_eq_some_iff] at hp
    obtain ⟨n, hn, b, hb, z, hz, p, h1, hp⟩ := hp
    split at hp
    · rename_i hc
      obtain ⟨c1, c2, c3⟩ := hc
      injection hp with hp; subst hp
      obtain ⟨ti, zv, hti, hzv, rfl, _, hzall⟩ := zeroOf_some hz
      obtain ⟨ti', hti', hsz⟩ := szOf_some hn
      rw [hti] at hti'; injection hti' with hti'; subst hti'
      obtain ⟨ti', hti', hby⟩ := byOf_some hb
      rw [hti] at hti'; injection hti' with hti'; subst hti'
      have hv := hg lo p h1
      simp only [aop] at ha
      split at ha
      · rename_i k m em
        rw [em] at hv
        have hgl := int_inv hv
        have hgc : ∃ k', g co = .int k' m := by
          unfold sameOp at c3
          split at c3
          · rename_i i j
            simp at c3; subst c3
            exact ⟨k, hgl⟩
          · rename_i k1 n1 k2 n2
            simp at c3
            obtain ⟨rfl, rfl⟩ := c3
            simp [pO, closedB, atomB] at h1
            subst h1
            have hx := hg (.const (.int k1 n1)) (.c (.int k1 n1)) (by simp [pO, closedB, atomB])
            simp only [PO.ev] at em
            injection em with e1 e2; subst e1; subst e2
            exact ⟨k1, int_inv hx⟩
          · cases c3
        obtain ⟨k', hgc⟩ := hgc
        split at ha
        · rename_i hc2
          obtain ⟨d1, d2, d3⟩ := hc2
          injection ha with ha; injection ha with e1 e2; injection e2 with e2 e3; subst e1; subst e2; subst e3
          have hzs : zv.cells.size = n := by simpa using c1
          have hone : oneAll (reps zv.cells.toList m.toNat) = true := by
            have : ∀ q, oneAll (reps zv.cells.toList q) = true := by
              intro q; induction q with
              | zero => rfl
              | succ q ih =>
                simp only [oneAll, reps, List.all_append, Bool.and_eq_true, List.all_eq_true] at ih ⊢
                exact ⟨fun x hx => atom_one (List.all_eq_true.1 hzall x hx), ih⟩
            exact this _
          have hall : (reps zv.cells.toList m.toNat).all atomB = true := by
            have : ∀ q, (reps zv.cells.toList q).all atomB = true := by
              intro q; induction q with
              | zero => rfl
              | succ q ih => rw [reps, List.all_append, ih, hzall]; rfl
            exact this _
          have hrc : ((Array.range (m.toNat * n)).map (fun i => zv.cells[i % zv.cells.size]!)).toList = reps zv.cells.toList m.toNat := by
            rw [← hzs]; exact reps_eq (by omega) _
          refine newVar_out (rc := (Array.range (m.toNat * n)).map (fun i => zv.cells[i % zv.cells.size]!)) (t := e) n hs (by rw [hrc]; exact atoms_refl hall) hone rfl _ (fun a => .slice (some a) m.toNat m.toNat) _ ?_ ?_
          · have hw : IntKind.i64.wrap m = m := by
              exact i64_wrap (by omega) (by omega)
            have hneg : ¬ (m < 0) := by omega
            have hbig : ¬ ((281474976710656 : Int) < (b : Int) * m) := by rw [Int.mul_comm]; omega
            by_cases h0 : m.toNat * n = 0
            · simp only [execOp, ho, Instr.makeSlice, hgl, hgc]
              simp [run_underlying hu, asInt, asIntOf, sizeOf, typeInfo, hti, hsz, hby, hw, hneg, hbig, h0, newRow]
              simp [show Array.range 0 = (#[] : Array Nat) from rfl]
            · simp only [execOp, ho, Instr.makeSlice, hgl, hgc]
              simp [run_underlying hu, asInt, asIntOf, sizeOf, typeInfo, hti, hsz, hby, hw, hneg, hbig, h0, zeroValue, hzv, newRow]
          · refine VR.sl (k := ⟨w.heap.size, 0, ((Array.range (m.toNat * n)).map (fun i => zv.cells[i % zv.cells.size]!)).size, n, true⟩) (by simp [rset]) (Nat.le_refl _) (fun _ => rfl) (fun _ => rfl) (fun _ => ?_)
            simp
        · cases ha
      · cases ha
    · cases hp
  · cases hp
end
end Go.Ab

/- Each operation that is no call does in the world what the calculus says of it (fifth part): append, copy, len, min, max. -/
set_option linter.unusedSimpArgs false
set_option linter.unusedVariables false
namespace Go.Ab
section
variable {P : Program} {ρ : Rho} {tm : Nat → Value} {h h' : Heap} {w : World} {g : Operand → Value} {o : Oper} {po : POp} {T : List Nat} {v : Value}

theorem exec_builtin {b : Builtin} {xs : Array Operand} {ts : Array TypeId} (ho : o.op = .call { callee := .builtin b, args := xs, argTypes := ts }) :
    ∃ cs, ∀ w, (execOp g o).run P w = (builtin b ts o.type cs (xs.map g)).run P w := by
  simp only [execOp, ho, resolve, invoke, Sem.run_bind, Sem.run_pure, Result.andThen_ok]
  exact ⟨_, fun _ => rfl⟩

theorem s_len {xs : Array Operand} {ts : Array TypeId} (ho : o.op = .call { callee := .builtin .len, args := xs, argTypes := ts }) (hp : prepOp P o.op = some po) (ha : aop P tm h po = some (T, v, h')) (hg : GV ρ tm g) : OutQ P (execOp g o) ρ v ∧ T = [] ∧ h' = h := by
  obtain ⟨cs, hx⟩ := exec_builtin (P := P) (g := g) ho
  rw [ho] at hp
  simp only [prepOp] at hp
  split at hp
  · rename_i x t ex et
    have hxs : xs = #[x] := Array.toList_inj.1 ex
    have hts : ts = #[t] := Array.toList_inj.1 et
    subst hxs; subst hts
    simp only [bind, Option.bind_eq_some_iff] at hp
    obtain ⟨p, h1, hp⟩ := hp
    have hv := hg x p h1
    split at hp
    · rename_i hu
      injection hp with hp; subst hp
      simp only [aop] at ha
      split at ha
      · rename_i s e
        rw [e] at hv
        have hgx := str_inv hv
        injection ha with ha; injection ha with e1 e2; injection e2 with e2 e3; subst e1; subst e2; subst e3
        refine Q3 (rv := .int .i64 s.size) (fun w => ?_) (.int _ _)
        rw [hx]; simp [builtin, Builtin.len_, run_underlying hu, hgx, goInt]
      · cases ha
    · rename_i e' hu
      injection hp with hp; subst hp
      simp only [aop] at ha
      split at ha
      · rename_i a n c e
        rw [e] at hv
        injection ha with ha; injection ha with e1 e2; injection e2 with e2 e3; subst e1; subst e2; subst e3
        have hgx : ∃ ra rc, g x = .slice ra n rc := by
          generalize g x = gx at hv
          cases hv with
          | nils => exact ⟨_, _, rfl⟩
          | sl => exact ⟨_, _, rfl⟩
        obtain ⟨ra, rc, hgx⟩ := hgx
        refine Q3 (rv := .int .i64 n) (fun w => ?_) (.int _ _)
        rw [hx]; simp [builtin, Builtin.len_, run_underlying hu, hgx, goInt]
      · cases ha
    · cases hp
  · cases hp

theorem s_mnx {mx : Bool} {xs : Array Operand} {ts : Array TypeId} (ho : o.op = .call { callee := .builtin (if mx then .max else .min), args := xs, argTypes := ts }) (hp : prepOp P o.op = some po) (ha : aop P tm h po = some (T, v, h')) (hg : GV ρ tm g) : OutQ P (execOp g o) ρ v ∧ T = [] ∧ h' = h := by
  obtain ⟨cs, hx⟩ := exec_builtin (P := P) (g := g) ho
  rw [ho] at hp
  have : ∃ ps, pOs xs.toList = some ps ∧ po = .mnx mx ps := by
    cases mx <;> simp [prepOp, Option.bind_eq_some_iff] at hp <;> obtain ⟨ps, a, b⟩ := hp <;> exact ⟨ps, a, b.symm⟩
  obtain ⟨ps, hps, rfl⟩ := this
  have hr := pOs_rel hps hg
  simp only [aop] at ha
  split at ha
  · rename_i k a k' b e
    rw [e] at hr
    split at ha
    · rename_i hk; subst hk
      injection ha with ha; injection ha with e1 e2; injection e2 with e2 e3; subst e1; subst e2; subst e3
      have hl := atoms_eq (by simp [atomB]) hr
      have hargs : xs.map g = #[.int k a, .int k b] := Array.toList_inj.1 (by simpa using hl)
      refine Q3 (rv := .int k (if mx then max a b else min a b)) (fun w => ?_) (.int _ _)
      rw [hx, hargs]
      cases mx
      · simp [builtin, Builtin.min_, Builtin.min2]; omega
      · simp [builtin, Builtin.max_, Builtin.max2]; omega
    · cases ha
  · cases ha

theorem src_rel {es m : Nat} {u x : Value} {news : List Value} (hs : Sim ρ h w) (hv : VR ρ u x) (e : srcA h es u = some (m, news)) :
    ∃ a c rl, x = .slice a m c ∧ rl.length = m * es ∧ VRL ρ news rl ∧ (∀ v ∈ news, v.oneCell' = true) ∧ (m ≠ 0 → ∃ b, a = some b ∧ ∀ j v, rl[j]? = some v → w.cell? (b.add j) = some v) := by
  unfold srcA at e
  split at e
  · injection e with e; injection e with e1 e2; subst e1; subst e2
    exact ⟨none, 0, [], nils_inv hv, by simp, .nil ρ, by simp, fun h => absurd rfl h⟩
  · rename_i i ofs n c
    simp only [Option.map_eq_some_iff, Prod.mk.injEq] at e
    obtain ⟨l, hl, rfl, rfl⟩ := e
    obtain ⟨k, ra, rc, rfl, hk, hle, _, hadr, _⟩ := sl_inv hv
    obtain ⟨rl, h1, h2, h3, h4⟩ := hs.cells hl hk
    refine ⟨some ra, rc, rl, rfl, h1, h2, h4, fun hn => ⟨ra, rfl, fun j v hj => ?_⟩⟩
    rw [hadr (by omega), add_plain]; exact h3 j v hj
  · cases e

theorem run_append_zero {t ty e : TypeId} (ht : P.underlying t = some (.slice e)) {i : TypeInfo} (hi : P.info? e = some i) (base : Option Addr) (n cap : Nat) (hn : n ≤ cap) (a : Option Addr) (c : Nat) :
    (Builtin.append_ #[t, t] ty #[.slice base n cap, .slice a 0 c]).run P w = .ok (.slice base n cap) w := by
  cases a <;> cases base <;> simp [Builtin.append_, run_underlying ht, sizeOf, typeInfo, hi, Builtin.lenOf, hn, Builtin.firstCells, loadCells, loadCellsFrom, storeCells]

theorem run_append_inplace {t ty e : TypeId} (ht : P.underlying t = some (.slice e)) {i : TypeInfo} (hi : P.info? e = some i) {b ofs n cap : Nat} {cur : Array Value} {et : TypeId} (hb : w.heap[b]? = some (.cells cur et (0, 0)))
    {a : Addr} {m c : Nat} {news : List Value} (hl : news.length = m * i.size) (hnews : ∀ j v, news[j]? = some v → w.cell? (a.add j) = some v) (h1 : ∀ v ∈ news, v.oneCell' = true)
    (hroom : n + m ≤ cap) (hfit : ofs + n * i.size + news.length ≤ cur.size) :
    (Builtin.append_ #[t, t] ty #[.slice (some ⟨b, ofs, none⟩) n cap, .slice (some a) m c]).run P w =
      .ok (.slice (some ⟨b, ofs, none⟩) (n + m) cap) (w.setRow b (cur.toList.take (ofs + n * i.size) ++ news ++ cur.toList.drop (ofs + n * i.size + news.length)).toArray) := by
  have hf := run_firstCells_some (P := P) w i.size m a m c news hl hnews
  have hst := run_storeCells_at P b (ofs + n * i.size) et news 0 cur w hb (by omega) h1
  simp only [Nat.add_zero] at hst
  simp [Builtin.append_, run_underlying ht, sizeOf, typeInfo, hi, Builtin.lenOf, hroom, hf, add_plain, hst]

theorem zeroCells_size (z : Array Value) (n : Nat) : (Builtin.zeroCells z n).size = n * z.size := by simp [Builtin.zeroCells]

theorem newSlice_out {s : Sem Next} {need es cap : Nat} {l rl : List Value} {rest : Array Value} {e : TypeId} (hs : Sim ρ h w) (hl : VRL ρ l rl) (h1 : ∀ v ∈ l, v.oneCell' = true) (hn : need ≤ cap) (hsz : (rl.toArray ++ rest).size = cap * es)
    (hr : s.run P w = .ok (.value (.slice (some ⟨w.heap.size, 0, none⟩) need cap)) (w.drew.alloc (.cells (rl.toArray ++ rest) e))) :
    Out P s ρ h w [] (.slice (some ⟨h.length, 0, none⟩) need (need + 1)) (newO h l es) := by
  have hlen := hl.1
  have hn' := hs.new (w' := w.drew.alloc (.cells (rl.toArray ++ rest) e)) (l := l) (rc := rl.toArray ++ rest) (t := e) es ⟨rfl, rfl, rfl⟩ rfl h1 (by simp; omega)
    (fun j x hj => by
      obtain ⟨y, hy, r⟩ := hl.sm hj
      refine ⟨y, ?_, r⟩
      rw [Array.getElem?_append_left (by have := (List.getElem?_eq_some_iff.1 hy).1; simpa using this)]
      simpa using hy)
  refine ⟨_, _, _, _, hr, .inl rfl, ?_, hn'.1, hn'.2⟩
  refine VR.sl (k := ⟨w.heap.size, 0, (rl.toArray ++ rest).size, es, true⟩) (by simp [rset]) hn (fun h => by omega) (fun _ => rfl) (fun _ => ?_)
  show 0 + 0 + cap * es ≤ (rl.toArray ++ rest).size
  omega

theorem s_app {xs : Array Operand} {ts : Array TypeId} (ho : o.op = .call { callee := .builtin .append, args := xs, argTypes := ts }) (hp : prepOp P o.op = some po) (ha : aop P tm h po = some (T, v, h')) (hg : GV ρ tm g) (hs : Sim ρ h w) : Out P (execOp g o) ρ h w T v h' := by
  obtain ⟨cs, hx⟩ := exec_builtin (P := P) (g := g) ho
  rw [ho] at hp
  simp only [prepOp] at hp
  split at hp
  · rename_i s x t u exs ets
    have hxs : xs = #[s, x] := Array.toList_inj.1 exs
    have hts : ts = #[t, u] := Array.toList_inj.1 ets
    subst hxs; subst hts
    simp only [bind, Option.bind_eq_some_iff] at hp
    obtain ⟨p, h1, q, h2, hp⟩ := hp
    split at hp
    · rename_i e e' hu hu'
      simp only [Option.bind_eq_some_iff] at hp
      obtain ⟨n, hn, b, hb, z, hz, hp⟩ := hp
      split at hp
      · rename_i hc
        obtain ⟨c1, c2, c3, c4⟩ := hc
        subst c4
        injection hp with hp; subst hp
        obtain ⟨ti, zv, hti, hzv, rfl, _, hzall⟩ := zeroOf_some hz
        obtain ⟨ti', hti', hsz⟩ := szOf_some hn
        rw [hti] at hti'; injection hti' with hti'; subst hti'
        obtain ⟨ti', hti', hby⟩ := byOf_some hb
        rw [hti] at hti'; injection hti' with hti'; subst hti'
        subst hsz; subst hby
        have hzs : zv.cells.size = ti.size := by simpa using c1
        have hvs := hg s p h1
        have hvx := hg x q h2
        have hx' : (execOp g o).run P w = ((Builtin.append_ #[t, t] o.type #[g s, g x]).run P w).andThen fun a w' => .ok (.value a) w' := by rw [hx]; simp [builtin]
        simp only [aop, Option.bind_eq_some_iff] at ha
        obtain ⟨⟨m, news⟩, hsrc, ha⟩ := ha
        obtain ⟨a, c, rl, hgx, hrl, hvr, hone, hcell⟩ := src_rel hs hvx hsrc
        simp only at ha
        split at ha
        · rename_i es
          rw [es] at hvs
          have hgs := nils_inv hvs
          split at ha
          · rename_i hm; subst hm
            injection ha with ha; injection ha with e1 e2; injection e2 with e2 e3; subst e1; subst e2; subst e3
            refine .quiet hs (rv := .slice none 0 0) ?_ .nils
            rw [hx', hgs, hgx, run_append_zero hu hti none 0 0 (Nat.le_refl _) a c]; rfl
          · rename_i hm
            split at ha
            · rename_i hc
              injection ha with ha; injection ha with e1 e2; injection e2 with e2 e3; subst e1; subst e2; subst e3
              obtain ⟨ad, rfl, hcl⟩ := hcell hm
              have hmb : m ≤ m * ti.bytes := Nat.le_mul_of_pos_right _ c3
              have hr := run_append_nil (P := P) w t o.type e ti zv hu hti hzv ad m c rl hrl hcl (by omega) (by omega) (by omega)
              refine newSlice_out hs hvr hone (grownCap_ge w m 0 e) ?_ (by rw [hx', hgs, hgx, hr]; rfl)
              have hge := grownCap_ge w m 0 e
              simp only [Array.size_append, List.size_toArray, zeroCells_size, hzs, hrl, ← Nat.add_mul]
              congr 1; omega
            · cases ha
        · rename_i i ofs len cc es
          rw [es] at hvs
          obtain ⟨k, ra, rc, hgs, hk, hle, hfull, hadr, hsp⟩ := sl_inv hvs
          split at ha
          · rename_i hm; subst hm
            injection ha with ha; injection ha with e1 e2; injection e2 with e2 e3; subst e1; subst e2; subst e3
            refine .quiet hs (rv := g s) ?_ hvs
            rw [hx', hgs, hgx, run_append_zero hu hti (some ra) len rc hle a c]; rfl
          · rename_i hm
            simp only [Option.bind_eq_some_iff] at ha
            obtain ⟨ob, hob', old, hold, ha⟩ := ha
            split at ha
            · rename_i hc
              obtain ⟨d1, d2, d3⟩ := hc
              obtain ⟨ad, rfl, hcl⟩ := hcell hm
              obtain ⟨rold, hro, hvo, hco, hoo⟩ := hs.cells hold hk
              have hmb : len + m ≤ (len + m) * ti.bytes := Nat.le_mul_of_pos_right _ c3
              have hall : ∀ v ∈ old ++ news, v.oneCell' = true := by
                intro v hv; rcases List.mem_append.1 hv with h | h
                · exact hoo v h
                · exact hone v h
              have grow : rc < len + m → Out P (execOp g o) ρ h w [] (.slice (some ⟨h.length, 0, none⟩) (len + m) (len + m + 1)) (newO h (old ++ news) ti.size) := by
                intro hlt
                have hold' : ∀ (j : Nat) (v : Value), rold[j]? = some v → w.cell? (ra.add j) = some v := by
                  intro j v hj
                  have hj2 := (List.getElem?_eq_some_iff.1 hj).1
                  have : rc ≠ 0 := by
                    intro h0; subst h0
                    have : len = 0 := by omega
                    subst this; simp at hro; subst hro; simp at hj2
                  rw [hadr this, add_plain]; exact hco j v hj
                have hr := run_append_grow (P := P) w t o.type e ti zv hu hti hzv ra len rc rold (by omega) hold' ad m c rl hrl hcl hlt (by omega) (growslice_fits hlt d1)
                have hge := grownCap_ge w (len + m) rc e
                refine newSlice_out (rl := rold ++ rl) (rest := Builtin.zeroCells zv.cells (grownCap w (len + m) rc e - (len + m))) (e := e) hs (hvo.append hvr) hall hge ?_ (by rw [hx', hgs, hgx, hr]; simp)
                have : (rold ++ rl).length = (len + m) * ti.size := by rw [List.length_append, hro, hrl, Nat.add_mul]
                simp only [Array.size_append, List.size_toArray, zeroCells_size, hzs, this, ← Nat.add_mul]
                congr 1; omega
              split at ha
              · rename_i hcf
                injection ha with ha; injection ha with e1 e2; injection e2 with e2 e3; subst e1; subst e2; subst e3
                have := hfull hcf
                exact grow (by omega)
              · rename_i hcf
                split at ha
                · rename_i hown
                  injection ha with ha; injection ha with e1 e2; injection e2 with e2 e3; subst e1; subst e2; subst e3
                  obtain ⟨k', rcs, et, hk', hh, hko, hrs, hes, hcs, hcc⟩ := hs.own_row hob' hown.1
                  rw [hk] at hk'; injection hk' with hk'; subst hk'
                  have hke : k.es = ti.size := by rw [hes]; exact hown.2
                  have hcap := hsp hko
                  rw [hke] at hcap
                  by_cases hroom : len + m ≤ rc
                  · have hra := hadr (by omega)
                    subst hra
                    have hmul : (len + m) * ti.size ≤ rc * ti.size := Nat.mul_le_mul_right _ hroom
                    have hsplit : (len + m) * ti.size = len * ti.size + m * ti.size := Nat.add_mul ..
                    have hr := run_append_inplace (P := P) (w := w) (ty := o.type) hu hti (cap := rc) hh hrl hcl (hvr.one hone) hroom (ofs := k.base + ofs) (n := len) (m := m) (c := c) (by omega)
                    have hmv := hs.move (o := ofs) (w' := w.setRow k.b (rcs.toList.take (k.base + ofs + len * ti.size) ++ rl ++ rcs.toList.drop (k.base + ofs + len * ti.size + rl.length)).toArray)
                      (l := old ++ news) hob' hown.1 hk ⟨rfl, rfl, rfl⟩ (by simp) (setRow_heap w k.b rcs _ et (0, 0) hh) (fun b hb => setRow_other w k.b b _ hb)
                      (by rw [splice_size (by omega)]; exact hrs) (by rw [List.length_append, (hcs_get hold).1, hvr.1]; omega)
                      (fun j v hj => by
                        have hlo : old.length = len * ti.size := (hcs_get hold).1
                        have htl : (rcs.toList.take (k.base + ofs + len * ti.size)).length = k.base + ofs + len * ti.size := by simp; omega
                        rw [List.getElem?_toArray, List.append_assoc]
                        by_cases hj1 : j < len * ti.size
                        · rw [List.getElem?_append_left (by omega)] at hj
                          obtain ⟨rv, y1, y2⟩ := hvo.sm hj
                          refine ⟨rv, ?_, y2, hoo v (List.mem_of_getElem? hj)⟩
                          rw [List.getElem?_append_left (by omega), List.getElem?_take, if_pos (by omega)]
                          have := hco j rv y1
                          simp [World.cell?, hh] at this
                          simpa using this
                        · rw [List.getElem?_append_right (by omega), hlo] at hj
                          obtain ⟨rv, y1, y2⟩ := hvr.sm hj
                          refine ⟨rv, ?_, y2, hone v (List.mem_of_getElem? hj)⟩
                          have hjl := (List.getElem?_eq_some_iff.1 y1).1
                          rw [List.getElem?_append_right (by omega), htl, List.getElem?_append_left (by omega), show k.base + ofs + j - (k.base + ofs + len * ti.size) = j - len * ti.size by omega]
                          exact y1)
                    rw [hke] at hmv
                    refine ⟨_, _, _, .slice (some ⟨k.b, k.base + ofs, none⟩) (len + m) rc, by rw [hx', hgs, hgx, hr]; rfl, .inl rfl, ?_, hmv.1, hmv.2⟩
                    refine VR.sl (k := ⟨k.b, k.base + ofs, k.sz, ti.size, true⟩) (by simp [rset]) hroom (fun h => by omega) (fun _ => by simp) (fun _ => ?_)
                    show k.base + ofs + 0 + rc * ti.size ≤ k.sz
                    omega
                  · have hgr := grow (by omega)
                    obtain ⟨nx, w', ρ', rv, r1, r2, r3, r4, r5⟩ := hgr
                    have hkill := r4.kill (i := i) (ob := ob) (by
                      have hlt := (List.getElem?_eq_some_iff.1 (hob_eq.1 hob')).1
                      rw [hob_eq]; unfold newO; rw [List.getElem?_append_left hlt]; exact hob_eq.1 hob')
                    have heq : (newO h (old ++ news) ti.size).set i none = newO (h.set i none) (old ++ news) ti.size := by
                      have hlt := (List.getElem?_eq_some_iff.1 (hob_eq.1 hob')).1
                      unfold newO; rw [List.set_append_left _ _ hlt]
                    rw [heq] at hkill
                    exact ⟨nx, w', ρ', rv, r1, r2, r3, hkill, r5.kill heq⟩
                · cases ha
            · cases ha
        · cases ha
      · cases hp
    · cases hp
  · cases hp
end
end Go.Ab

/- Each operation that is no call does in the world what the calculus says of it: copy, and all of them together. -/
set_option linter.unusedSimpArgs false
set_option linter.unusedVariables false
namespace Go.Ab
section
variable {P : Program} {ρ : Rho} {tm : Nat → Value} {h h' : Heap} {w : World} {g : Operand → Value} {o : Oper} {po : POp} {T : List Nat} {v : Value}

theorem src_first {es m n : Nat} {u x : Value} {news : List Value} (hs : Sim ρ h w) (hv : VR ρ u x) (e : srcA h es u = some (m, news)) (hn : n ≤ m) :
    ∃ rl : List Value, (Builtin.lenOf x).run P w = .ok m w ∧ (Builtin.firstCells es n x).run P w = .ok rl.toArray w ∧ VRL ρ (news.take (n * es)) rl ∧ rl.length = n * es := by
  obtain ⟨a, c, rl, rfl, hrl, hvr, hone, hcell⟩ := src_rel hs hv e
  have hnm : n * es ≤ m * es := Nat.mul_le_mul_right _ hn
  refine ⟨rl.take (n * es), by simp [Builtin.lenOf], ?_, hvr.take _, by simp; omega⟩
  cases a with
  | none =>
    by_cases hm : m = 0
    · subst hm
      have : n = 0 := by omega
      subst this
      simp [Builtin.firstCells]
    · obtain ⟨b, hb, _⟩ := hcell hm; cases hb
  | some b =>
    by_cases hm : m = 0
    · subst hm
      have : n = 0 := by omega
      subst this
      simp [Builtin.firstCells, loadCells, loadCellsFrom]
    · obtain ⟨b', hb, hc⟩ := hcell hm
      injection hb with hb; subst hb
      exact run_firstCells_some w es n b m c _ (by simp; omega) (fun j v hj => by
        rw [List.getElem?_take] at hj
        split at hj
        · exact hc j v hj
        · cases hj)

theorem s_cpy {xs : Array Operand} {ts : Array TypeId} (ho : o.op = .call { callee := .builtin .copy, args := xs, argTypes := ts }) (hp : prepOp P o.op = some po) (ha : aop P tm h po = some (T, v, h')) (hg : GV ρ tm g) (hs : Sim ρ h w) : Out P (execOp g o) ρ h w T v h' := by
  obtain ⟨cs, hx⟩ := exec_builtin (P := P) (g := g) ho
  rw [ho] at hp
  simp only [prepOp] at hp
  split at hp
  · rename_i s x t u exs ets
    have hxs : xs = #[s, x] := Array.toList_inj.1 exs
    have hts : ts = #[t, u] := Array.toList_inj.1 ets
    subst hxs; subst hts
    simp only [bind, Option.bind_eq_some_iff] at hp
    obtain ⟨p, h1, q, h2, hp⟩ := hp
    split at hp
    · rename_i e e' hu hu'
      simp only [Option.bind_eq_some_iff] at hp
      obtain ⟨n, hn, hp⟩ := hp
      injection hp with hp; subst hp
      obtain ⟨ti, hti, hsz⟩ := szOf_some hn
      subst hsz
      have hvd := hg s p h1
      have hvs := hg x q h2
      simp only [aop, Option.bind_eq_some_iff] at ha
      obtain ⟨⟨m, l⟩, hsrc, ha⟩ := ha
      simp only at ha
      have hx' : (execOp g o).run P w = ((Builtin.copy_ #[t, u] o.type #[g s, g x]).run P w).andThen fun a w' => .ok (.value a) w' := by rw [hx]; simp [builtin]
      split at ha
      · rename_i es
        rw [es] at hvd
        have hgs := nils_inv hvd
        injection ha with ha; injection ha with e1 e2; injection e2 with e2 e3; subst e1; subst e2; subst e3
        obtain ⟨rl, r1, r2, _, _⟩ := src_first (P := P) (n := 0) hs hvs hsrc (by omega)
        refine .quiet hs (rv := .int .i64 0) ?_ (.int _ _)
        have r2' : (Builtin.firstCells ti.size (Nat.min m 0) (g x)).run P w = .ok rl.toArray w := by rw [show Nat.min m 0 = 0 from Nat.min_zero m]; exact r2
        rw [hx', hgs]
        simp [Builtin.copy_, run_underlying hu, sizeOf, typeInfo, hti, r1, r2, goInt]
      · rename_i i ofs len cc es
        rw [es] at hvd
        obtain ⟨k, ra, rc, hgs, hk, hle, hfull, hadr, hsp⟩ := sl_inv hvd
        simp only [Option.bind_eq_some_iff] at ha
        obtain ⟨ob, hob', ha⟩ := ha
        split at ha
        · rename_i hc
          obtain ⟨d1, d2, d3, d4⟩ := hc
          injection ha with ha; injection ha with e1 e2; injection e2 with e2 e3; subst e1; subst e2; subst e3
          obtain ⟨rl, r1, r2, r3, r4⟩ := src_first (P := P) (n := Nat.min m len) hs hvs hsrc (Nat.min_le_left ..)
          have hone : oneAll (l.take (Nat.min m len * ti.size)) = true := by
            simp only [oneAll, List.all_eq_true] at d3 ⊢
            exact fun v hv => d3 v (List.mem_of_mem_take hv)
          obtain ⟨w', hw, s', st⟩ := storeRow (P := P) hs hob' d1 r3 hone (by rw [r3.1]; exact r4) d4 hk
          by_cases hrc : rc = 0
          · have hl0 : len = 0 := by omega
            subst hl0
            simp only [Nat.min_eq_min, Nat.min_zero, Nat.zero_mul] at *
            have hrl : rl = [] := List.eq_nil_of_length_eq_zero r4
            subst hrl
            have hww : w' = w := by simp [storeCells] at hw; exact hw.symm
            subst hww
            refine ⟨.value (.int .i64 0), w', ρ, .int .i64 0, ?_, .inl rfl, .int _ _, s', st⟩
            rw [hx', hgs]
            simp [Builtin.copy_, run_underlying hu, sizeOf, typeInfo, hti, r1, r2, goInt, storeCells]
          · have := hadr hrc
            subst this
            refine ⟨.value (.int .i64 (Nat.min m len)), w', ρ, .int .i64 (Nat.min m len), ?_, .inl rfl, .int _ _, s', st⟩
            rw [hx', hgs]
            simp only [Nat.min_eq_min] at r2 hw ⊢
            simp [Builtin.copy_, run_underlying hu, sizeOf, typeInfo, hti, r1, r2, goInt, hw]
        · cases ha
      · cases ha
    · cases hp
  · cases hp

theorem fill_get (place : Nat → Option (Nat × Nat)) : True := trivial

theorem s_build {t : TypeId} {parts : Array (Nat × Operand)} (ho : o.op = .build t parts) (hp : prepOp P o.op = some po) (ha : aop P tm h po = some (T, v, h')) (hg : GV ρ tm g) : OutQ P (execOp g o) ρ v ∧ T = [] ∧ h' = h := by
  rw [ho] at hp
  simp only [prepOp, bind, Option.bind_eq_some_iff] at hp
  obtain ⟨z, hz, hp⟩ := hp
  split at hp
  · rename_i fs hu
    simp only [Option.bind_eq_some_iff] at hp
    obtain ⟨ps, hps, hp⟩ := hp
    split at hp
    · rename_i hall
      injection hp with hp; subst hp
      obtain ⟨ti, zv, hti, hzv, rfl, _, hzall⟩ := zeroOf_some hz
      simp only [aop] at ha
      split at ha
      · rename_i hsz
        simp only [Option.map_eq_some_iff, Prod.mk.injEq] at ha
        obtain ⟨l, hl, rfl, rfl, rfl⟩ := ha
        obtain ⟨hlen, hrel⟩ := mapM_rel hps
        have hplaces : ∀ w, (fs.mapM fun f => (do pure (f.offset, ← sizeOf f.type) : Sem (Nat × Nat))).run P w = .ok (fs.map fun f => (f.offset, (szOf P f.type).getD 0)) w := by
          intro w
          have key : ∀ (F : Field → Sem (Nat × Nat)) (G : Field → Nat × Nat) (l : List Field), (∀ f ∈ l, (F f).run P w = .ok (G f) w) → (l.mapM F).run P w = .ok (l.map G) w := by
            intro F G l
            induction l with
            | nil => intro _; rfl
            | cons f l ih =>
              intro hh
              have h1 := hh f (List.mem_cons_self ..)
              have h2 := ih (fun x hx => hh x (List.mem_cons_of_mem _ hx))
              simp [List.mapM_cons, h1, h2]
          rw [Array.mapM_eq_mapM_toList, Sem.run_map, key _ (fun f => (f.offset, (szOf P f.type).getD 0)) fs.toList (fun f hf => by
            obtain ⟨n, hn⟩ := Option.isSome_iff_exists.1 (List.all_eq_true.1 hall f hf)
            obtain ⟨i, hi, hsz⟩ := szOf_some hn
            simp [sizeOf, typeInfo, hi, hn, hsz])]
          simp only [Result.andThen]
          congr 1
          exact Array.toList_inj.1 (by simp)
        obtain ⟨rl, hf, hvr⟩ := fill_rel (ρ := ρ) (fun i => (fs.map fun f => (f.offset, (szOf P f.type).getD 0))[i]?) (parts.map fun (i, x) => (i, g x)).toList (ps.map fun p => (p.1, (p.2.2.ev tm).cells.toList)) _ l zv.cells (by simp at hlen ⊢; exact hlen)
          (fun j p q hp hq => by
            simp only [Array.toList_map, List.getElem?_map, Option.map_eq_some_iff] at hp hq
            obtain ⟨⟨i, x⟩, hx, rfl⟩ := hp
            obtain ⟨⟨ofs, sz, px⟩, hpx, rfl⟩ := hq
            have hfx := hrel j _ _ hx hpx
            simp only [Option.bind_eq_some_iff, Option.some.injEq, Prod.mk.injEq] at hfx
            obtain ⟨f, hf, n, hn, y, hy, rfl, rfl, rfl⟩ := hfx
            have hcv := (hg x y hy).cells
            have hq := List.all_eq_true.1 hsz _ (List.mem_of_getElem? hpx)
            simp only [beq_iff_eq] at hq
            refine ⟨n, by simp [hf, hn], ?_, hcv⟩
            have h0 := hcv.1
            simp only [Array.length_toList] at h0
            show (g x).cells.size = n
            omega) (atoms_refl hzall) hl
        refine Q3 (rv := .agg rl) (fun w => ?_) (.agg_iff (by simpa using hvr))
        simp only [execOp, ho, Instr.build, Sem.run_bind, run_underlying hu, Result.andThen_ok, zeroValue, typeInfo, run_program, hti, Sem.run_pure, hzv, hplaces, hf]
      · cases ha
    · cases hp
  · cases hp

theorem op_sound (hp : prepOp P o.op = some po) (ha : aop P tm h po = some (T, v, h')) (hg : GV ρ tm g) (hs : Sim ρ h w) : Out P (execOp g o) ρ h w T v h' := by
  cases hop : o.op with
  | move x => obtain ⟨q, rfl, rfl⟩ := s_move (.inl hop) hp ha hg; exact q.out hs
  | assign x => obtain ⟨q, rfl, rfl⟩ := s_move (.inr hop) hp ha hg; exact q.out hs
  | pick c a b => obtain ⟨q, rfl, rfl⟩ := s_pick hop hp ha hg; exact q.out hs
  | alloc t => exact s_alloc hop hp ha hs
  | box t x => exact s_box hop hp ha hg hs
  | build t ps => obtain ⟨q, rfl, rfl⟩ := s_build hop hp ha hg; exact q.out hs
  | buildSlice t n ps => exact s_bsl hop hp ha hg hs
  | load t a => exact s_load hop hp ha hg hs
  | store t a x => exact s_store hop hp ha hg hs
  | nilCheck x => obtain ⟨q, rfl, rfl⟩ := s_nilCheck hop hp ha hg; exact q.out hs
  | binOp op t x y t' => obtain ⟨q, rfl, rfl⟩ := s_bin hop hp ha hg; exact q.out hs
  | unOp op t x => obtain ⟨q, rfl, rfl⟩ := s_un hop hp ha hg; exact q.out hs
  | convert s d x => exact s_conv hop hp ha hg hs
  | makeInterface t x => obtain ⟨q, rfl, rfl⟩ := s_mki hop hp ha hg; exact q.out hs
  | makeFunc f xs ys => obtain ⟨q, rfl, rfl⟩ := s_mkf hop hp ha hg; exact q.out hs
  | makeSlice t l c => exact s_mks hop hp ha hg hs (fun i j e => by rw [e])
  | slice t x lo hi mx => obtain ⟨q, rfl, rfl⟩ := s_ssl hop hp ha hg hs; exact q.out hs
  | fieldAddr t x f => obtain ⟨q, rfl, rfl⟩ := s_fa hop hp ha hg; exact q.out hs
  | field t x f => obtain ⟨q, rfl, rfl⟩ := s_fld hop hp ha hg; exact q.out hs
  | indexAddr t x i => obtain ⟨q, rfl, rfl⟩ := s_ixa hop hp ha hg; exact q.out hs
  | index t x i => obtain ⟨q, rfl, rfl⟩ := s_ixs hop hp ha hg; exact q.out hs
  | extract x j => obtain ⟨q, rfl, rfl⟩ := s_ext hop hp ha hg; exact q.out hs
  | call c =>
    obtain ⟨cal, xs, ts⟩ := c
    cases cal with
    | value f => rw [hop] at hp; simp [prepOp] at hp
    | invoke r m => rw [hop] at hp; simp [prepOp] at hp
    | builtin b =>
      cases b with
      | len => obtain ⟨q, rfl, rfl⟩ := s_len hop hp ha hg; exact q.out hs
      | append => exact s_app hop hp ha hg hs
      | copy => exact s_cpy hop hp ha hg hs
      | min => obtain ⟨q, rfl, rfl⟩ := s_mnx (mx := false) hop hp ha hg; exact q.out hs
      | max => obtain ⟨q, rfl, rfl⟩ := s_mnx (mx := true) hop hp ha hg; exact q.out hs
      | panic => rw [hop] at hp; simp [prepOp] at hp; subst hp; simp [aop] at ha
      | _ => rw [hop] at hp; simp [prepOp] at hp
  | panic x => rw [hop] at hp; simp [prepOp] at hp; subst hp; simp [aop] at ha
  | _ => rw [hop] at hp; simp [prepOp] at hp

/-- A call of a function value. -/
theorem call_sound {f' : Operand} {xs' : Array Operand} {f : PO} {xs : List PO} (hc : calOf o.op = some (f', xs')) (h1 : pO f' = some f) (h2 : pOs xs'.toList = some xs) (hg : GV ρ tm g) {fn : FuncId} {ys zs : Array Value} (hf : f.ev tm = .func (.func fn) ys zs) {fd : Func}
    (hfd : P.funcs[fn]? = some fd) (hbody : fd.body.isSome = true) (hname : fd.name ≠ "runtime.NumGoroutine") :
    ∃ rargs, (execOp g o).run P w = .ok (.enter fn rargs) w ∧ VRL ρ (ys.toList ++ xs.map (·.ev tm) ++ zs.toList) rargs.toList := by
  have : ∃ ts, o.op = .call { callee := .value f', args := xs', argTypes := ts } := by
    unfold calOf at hc
    split at hc
    · rename_i fv as ts hop
      injection hc with hc; injection hc with e1 e2; subst e1; subst e2
      exact ⟨ts, hop⟩
    · cases hc
  obtain ⟨ts, hop⟩ := this
  have hv := hg f' f h1
  rw [hf] at hv
  obtain ⟨ys', zs', hgf, hy, hz⟩ := hv.func_list
  refine ⟨ys' ++ xs'.map g ++ zs', ?_, by simpa using (hy.append (pOs_rel h2 hg)).append hz⟩
  have hbn : fd.body ≠ none := by intro e; rw [e] at hbody; cases hbody
  simp [execOp, hop, resolve, invoke, hgf, Deferred.ofValue, callFunc, hfd, hname, hbn]
end
end Go.Ab

/- Regions: in the text's order, and in whatever order. -/
set_option linter.unusedSimpArgs false
set_option linter.unusedVariables false
namespace Go.Ab

structure SimA (n : Nat) (ρ : Rho) (tm : Nat → Value) (a : Act) : Prop where
  size : a.tmps.size = n
  vals : ∀ t, VR ρ (tm t) (a.tmps.getD t undef)
  dfr : a.defers = []

theorem SimA.mono {n : Nat} {ρ ρ' : Rho} {tm : Nat → Value} {a : Act} (s : SimA n ρ tm a) (he : Ext ρ ρ') : SimA n ρ' tm a := ⟨s.size, fun t => (s.vals t).mono he, s.dfr⟩

theorem SimA.gv {n : Nat} {ρ : Rho} {tm : Nat → Value} {a : Act} (s : SimA n ρ tm a) : GV ρ tm a.eval := by
  intro x p e
  cases x with
  | tmp t => simp [pO] at e; subst e; exact s.vals t
  | const v =>
    simp only [pO] at e
    split at e
    · rename_i hc; injection e with e; subst e; exact closed_refl hc
    · cases e
  | func f => simp [pO] at e; subst e; exact atom_refl rfl
  | global g => simp [pO] at e

theorem SimA.put {n : Nat} {ρ : Rho} {tm : Nat → Value} {a : Act} (s : SimA n ρ tm a) {d : Option Nat} (hd : (d.all fun d => d < n) = true) {v rv : Value} (hv : VR ρ v rv) : SimA n ρ (put tm d v) (a.put d rv) := by
  cases d with
  | none => exact s
  | some d =>
    simp at hd
    refine ⟨by simp [Act.put, s.size], fun t => ?_, s.dfr⟩
    simp only [Ab.put, upd, Act.put]
    by_cases ht : t = d
    · subst ht
      simp [Array.getD_eq_getD_getElem?, Array.getElem?_setIfInBounds, s.size, hd, hv]
    · have := s.vals t
      rw [if_neg ht]
      simpa [Array.getD_eq_getD_getElem?, Array.getElem?_setIfInBounds, Ne.symm ht, fun e : d = t => ht e.symm] using this

theorem want_eq {P : Program} {n : Nat} {ρ : Rho} {tm : Nat → Value} {a : Act} {ops : Array Oper} {o : Oper} {g : Option (Nat × Bool)} (s : SimA n ρ tm a) (hg : prepG ops o.guard = some g) : Region.wanted o (yielded ops a.tmps) = wantA tm g := by
  unfold Region.wanted
  cases ho : o.guard with
  | none => rw [ho] at hg; simp [prepG] at hg; subst hg; rfl
  | some jb =>
    obtain ⟨j, b⟩ := jb
    rw [ho] at hg
    simp only [prepG, bind, Option.bind_eq_some_iff] at hg
    obtain ⟨oj, h1, d, h2, hg⟩ := hg
    injection hg with hg; subst hg
    simp only [wantA, yielded, h1, h2, Option.bind_some]
    have hv := s.vals d
    rw [Array.getD_eq_getD_getElem?] at hv
    cases ht : a.tmps[d]? with
    | none =>
      rw [ht] at hv
      simp only [Option.getD_none, undef] at hv
      generalize tm d = x at hv
      cases hv
      simp
    | some u =>
      rw [ht] at hv
      simp only [Option.getD_some] at hv
      generalize tm d = x at hv
      cases hv <;> simp

/-- What a state of the calculus and a state of the machine share, since the function began. -/
structure Ok (n : Nat) (T : List Nat) (ρ0 : Rho) (h0 : Heap) (w0 : World) (ρ : Rho) (st : St) (a : Act) (w : World) : Prop where
  sa : SimA n ρ st.tm a
  sh : Sim ρ st.h w
  stp : Stp T ρ0 h0 w0 ρ st.h w

def Plain : Exit → Prop
  | .normal | .exit _ | .ret => True
  | _ => False

def Post (n : Nat) (T : List Nat) (ρ0 : Rho) (h0 : Heap) (w0 : World) (Q : Exit → St → Prop) (e : Exit) (a : Act) (w : World) : Prop := Plain e ∧ ∃ ρ st, Q e st ∧ Ok n T ρ0 h0 w0 ρ st a w

def MT (T : List Nat) (h0 : Heap) : Nat → Prop := fun i => i ∈ T ∨ h0.length ≤ i

section
variable {P : Program} {n : Nat} {T : List Nat} {ρ0 : Rho} {h0 : Heap} {w0 : World}

/-- One step of a region. -/
theorem step_sound {ops : Array Oper} {o : Oper} {s : PS} {ρ : Rho} {st : St} {a : Act} {w : World} {K : List Nat → St → Prop} {next : Act → World → Prop} {Q : Exit → Act → World → Prop} (s0 : Sim ρ0 h0 w0) (hp : prepS P n ops o = some s) (ok : Ok n T ρ0 h0 w0 ρ st a w)
    (hx : XS P (MT T h0) s st K)
    (hk : ∀ T2 st' ρ' a' w', K T2 st' → Ok n T ρ0 h0 w0 ρ' st' a' w' → Stp T2 ρ st.h w ρ' st'.h w' → next a' w') :
    if Region.wanted o (yielded ops a.tmps) then o.wp P a w next Q ∨ (o.asks P a w ∧ LetsOut Q) else next (a.put o.dst undef) w := by
  simp only [prepS, bind, Option.bind_eq_some_iff] at hp
  obtain ⟨g, hg, hp⟩ := hp
  have hwant := want_eq (P := P) ok.sa hg
  split at hp
  · rename_i hd
    have skip : ∀ (hw : wantA st.tm g = false), K [] ⟨put st.tm o.dst undef, st.h⟩ → next (a.put o.dst undef) w := fun _ hK =>
      hk [] _ ρ _ w hK ⟨ok.sa.put hd (.undef ρ), ok.sh, ok.stp⟩ (.refl [] ρ st.h w)
    cases hc : calOf o.op with
    | some fx =>
      obtain ⟨f', xs'⟩ := fx
      simp only [hc, Option.bind_eq_some_iff] at hp
      obtain ⟨f, h1, xs, h2, hp⟩ := hp
      injection hp with hp; subst hp
      simp only [XS] at hx
      rw [hwant]
      split at hx
      · rename_i hw
        rw [if_pos hw]
        obtain ⟨fn, ys, zs, T2, Q2, hf, hT2, ⟨⟨fd, hfd, hbody, hname⟩, hac⟩, hq⟩ := hx
        obtain ⟨rargs, hrun, hargs⟩ := call_sound (w := w) hc h1 h2 ok.sa.gv hf hfd hbody hname
        refine .inl ?_
        unfold Oper.wp
        rw [hrun]
        simp only [Oper.upon]
        refine (hac ρ w rargs ok.sh hargs).mono ?_
        rintro e w' ⟨rv, r, h', ρ', rfl, hQ, hv, hs', hst⟩
        exact hk T2 _ ρ' _ w' (hq r h' hQ) ⟨(ok.sa.mono hst.ext).put hd hv, hs', ok.stp.trans s0 ok.sh hst hT2⟩ hst
      · rename_i hw
        rw [if_neg hw]
        exact skip (by simpa using hw) hx
    | none =>
      simp only [hc, Option.bind_eq_some_iff] at hp
      obtain ⟨po, h1, hp⟩ := hp
      injection hp with hp; subst hp
      simp only [XS] at hx
      rw [hwant]
      split at hx
      · rename_i hw
        rw [if_pos hw]
        obtain ⟨T2, v, h', ha, hT2, hK⟩ := hx
        obtain ⟨nx, w', ρ', rv, hrun, hnx, hv, hs', hst⟩ := op_sound (w := w) h1 ha ok.sa.gv ok.sh
        have fin := hk T2 _ ρ' (a.put o.dst rv) w' hK ⟨(ok.sa.mono hst.ext).put hd hv, hs', ok.stp.trans s0 ok.sh hst hT2⟩ hst
        refine .inl ?_
        unfold Oper.wp
        rw [hrun]
        rcases hnx with rfl | ⟨rfl, rfl⟩ <;> exact fin
      · rename_i hw
        rw [if_neg hw]
        exact skip (by simpa using hw) hx
  · cases hp

theorem rg_sound {ops : Array Oper} {Q : Exit → St → Prop} (s0 : Sim ρ0 h0 w0) : ∀ (ss : List PS) (k : Nat) (ρ : Rho) (st : St) (a : Act) (w : World),
    (∀ (j : Nat) s, ss[j]? = some s → ∃ o, ops[k + j]? = some o ∧ prepS P n ops o = some s) → Ok n T ρ0 h0 w0 ρ st a w → XR P (MT T h0) ss st (Q .normal) →
    wpOps P ops (Post n T ρ0 h0 w0 Q) (List.range' k ss.length) a w
  | [], k, ρ, st, a, w, _, ok, hx => ⟨trivial, ρ, st, hx, ok⟩
  | s :: ss, k, ρ, st, a, w, hs, ok, hx => by
    obtain ⟨o, ho, hp⟩ := hs 0 s rfl
    simp only [Nat.add_zero] at ho
    simp only [List.length_cons, List.range'_succ, wpOps, ho]
    have := step_sound (Q := Post n T ρ0 h0 w0 Q) (next := wpOps P ops (Post n T ρ0 h0 w0 Q) (List.range' (k + 1) ss.length)) s0 hp ok hx (fun T2 st' ρ' a' w' hK ok' _ =>
      rg_sound s0 ss (k + 1) ρ' st' a' w' (fun j s' hj => by
        obtain ⟨o', h1, h2⟩ := hs (j + 1) s' (by simpa using hj)
        exact ⟨o', by rw [← h1]; congr 1; omega, h2⟩) ok' hK)
    exact this
end
end Go.Ab

/- A region that draws its order: whatever order comes up, what the plan says holds behind it. -/
set_option linter.unusedSimpArgs false
set_option linter.unusedVariables false
namespace Go.Ab
section
variable {P : Program} {ρ : Rho} {tm : Nat → Value} {h h' : Heap} {w : World} {g : Operand → Value} {o : Oper} {po : POp} {T : List Nat} {v : Value}

theorem cell_block {w w' : World} {b o : Nat} (e : w'.heap[b]? = w.heap[b]?) : w'.cell? ⟨b, o, none⟩ = w.cell? ⟨b, o, none⟩ := by simp [World.cell?, e]

/-- A load yields the same in every world in which its block is as it is. -/
theorem load_any {t : TypeId} {x : Operand} (ho : o.op = .load t x) (hp : prepOp P o.op = some po) (ha : aop P tm h po = some (T, v, h')) (hg : GV ρ tm g) (hs : Sim ρ h w) :
    T = [] ∧ h' = h ∧ ∃ i k rv, readId tm po = some i ∧ (∃ ob, h[i]? = some (some ob)) ∧ ρ i = some k ∧ VR ρ v rv ∧ ∀ w', w'.heap[k.b]? = w.heap[k.b]? → (execOp g o).run P w' = .ok (.value rv) w' := by
  rw [ho] at hp
  simp only [prepOp, bind, Option.bind_eq_some_iff] at hp
  obtain ⟨p, h1, n, hn, b, hb, hp⟩ := hp
  obtain ⟨i, hi, hsz⟩ := szOf_some hn
  unfold aggOf at hb
  cases hu : P.underlying t with
  | none => simp [hu] at hb
  | some d =>
    have hag : ∀ w, (isAgg t).run P w = .ok b w := by
      intro w
      simp only [hu, Option.map_some, Option.some.injEq] at hb
      subst hb
      simp only [isAgg, underlying, Sem.run_bind, run_program, Result.andThen_ok, hu]
      cases d <;> rfl
    have hv := hg x p h1
    cases b with
    | true =>
      simp at hp; subst hp
      simp only [aop] at ha
      split at ha
      · rename_i j ofs e
        rw [e] at hv
        obtain ⟨k, hk, hgx⟩ := ptr_inv hv
        cases hc : hcs h j ofs n with
        | none => simp [hc] at ha
        | some l =>
          simp [hc] at ha
          obtain ⟨rfl, rfl, rfl⟩ := ha
          have hlive : ∃ ob, h[j]? = some (some ob) := by
            unfold hcs at hc
            cases hob' : hob h j with
            | none => simp [hob'] at hc
            | some ob => exact ⟨ob, hob_eq.1 hob'⟩
          obtain ⟨rl, hrl, hvr, hcell, _⟩ := hs.cells hc hk
          refine ⟨rfl, rfl, j, k, .agg rl.toArray, by simp [readId, e], hlive, hk, VR.agg_iff (by simpa using hvr), fun w' hw' => ?_⟩
          have hl := run_loadCells_list (P := P) w' ⟨k.b, k.base + ofs, none⟩ rl (fun j v hj => by rw [add_plain, cell_block hw']; exact hcell j v hj)
          rw [hrl] at hl
          simp [execOp, ho, Instr.loadAt, Instr.sureAddr, hgx, loadVar, hag, sizeOf, typeInfo, hi, hsz, hl]
      · cases ha
    | false =>
      simp at hp; subst hp
      simp only [aop] at ha
      split at ha
      · rename_i j ofs e
        rw [e] at hv
        obtain ⟨k, hk, hgx⟩ := ptr_inv hv
        cases hc : hc1 h j ofs with
        | none => simp [hc] at ha
        | some u =>
          simp [hc] at ha
          obtain ⟨rfl, rfl, rfl⟩ := ha
          have hlive : ∃ ob, h[j]? = some (some ob) := by
            unfold hc1 at hc
            cases hob' : hob h j with
            | none => simp [hob'] at hc
            | some ob => exact ⟨ob, hob_eq.1 hob'⟩
          obtain ⟨rv, hcell, hvr, _⟩ := hs.cell hc hk
          refine ⟨rfl, rfl, j, k, rv, by simp [readId, e], hlive, hk, hvr, fun w' hw' => ?_⟩
          simp [execOp, ho, Instr.loadAt, Instr.sureAddr, hgx, loadVar, hag, run_load, cell_block hw', hcell]
      · cases ha

theorem readId_reads {tm : Nat → Value} {po : POp} {i : Nat} (e : readId tm po = some i) : readsB po = true := by
  cases po <;> simp [readId] at e <;> rfl

/-- What a quiet operation does, whatever the world. -/
theorem quiet_sound (hp : prepOp P o.op = some po) (hq : quietB po = true) (ha : aop P tm h po = some (T, v, h')) (hg : GV ρ tm g) (hs : Sim ρ h w) :
    (OutQ P (execOp g o) ρ v ∧ T = [] ∧ h' = h) ∨
    (T = [] ∧ h' = h ∧ ∃ i k rv, readId tm po = some i ∧ (∃ ob, h[i]? = some (some ob)) ∧ ρ i = some k ∧ VR ρ v rv ∧ ∀ w', w'.heap[k.b]? = w.heap[k.b]? → (execOp g o).run P w' = .ok (.value rv) w') := by
  cases hop : o.op with
  | load t a => exact .inr (load_any hop hp ha hg hs)
  | move x => exact .inl (s_move (.inl hop) hp ha hg)
  | assign x => exact .inl (s_move (.inr hop) hp ha hg)
  | pick c a b => exact .inl (s_pick hop hp ha hg)
  | build t ps => exact .inl (s_build hop hp ha hg)
  | nilCheck x => exact .inl (s_nilCheck hop hp ha hg)
  | binOp op t x y t' => exact .inl (s_bin hop hp ha hg)
  | unOp op t x => exact .inl (s_un hop hp ha hg)
  | convert s d x =>
    have : ∃ p, po = .cnv s d p := by
      rw [hop] at hp
      simp only [prepOp, bind, Option.bind_eq_some_iff] at hp
      obtain ⟨p, h1, hp⟩ := hp
      split at hp
      · split at hp
        · injection hp with hp; subst hp; simp [quietB] at hq
        · cases hp
      · injection hp with hp; exact ⟨p, hp.symm⟩
    obtain ⟨p, rfl⟩ := this
    exact .inl (s_cnv hop hp ha hg)
  | makeInterface t x => exact .inl (s_mki hop hp ha hg)
  | makeFunc f xs ys => exact .inl (s_mkf hop hp ha hg)
  | slice t x lo hi mx => exact .inl (s_ssl hop hp ha hg hs)
  | fieldAddr t x f => exact .inl (s_fa hop hp ha hg)
  | field t x f => exact .inl (s_fld hop hp ha hg)
  | indexAddr t x i => exact .inl (s_ixa hop hp ha hg)
  | index t x i => exact .inl (s_ixs hop hp ha hg)
  | extract x j => exact .inl (s_ext hop hp ha hg)
  | alloc t =>
    rw [hop] at hp
    simp [prepOp, Option.bind_eq_some_iff] at hp
    obtain ⟨z, _, rfl⟩ := hp
    simp [quietB] at hq
  | box t x =>
    rw [hop] at hp
    simp [prepOp] at hp
    obtain ⟨z, _, rfl⟩ := hp
    simp [quietB] at hq
  | store t a x =>
    rw [hop] at hp
    simp only [prepOp, bind, Option.bind_eq_some_iff] at hp
    obtain ⟨n, _, p, _, q, _, hp⟩ := hp
    injection hp with hp; subst hp
    simp [quietB] at hq
  | buildSlice t n ps =>
    rw [hop] at hp
    simp only [prepOp] at hp
    split at hp
    · simp only [bind, Option.bind_eq_some_iff] at hp
      obtain ⟨n, _, z, _, ps, _, hp⟩ := hp
      split at hp
      · injection hp with hp; subst hp; simp [quietB] at hq
      · cases hp
    · cases hp
  | makeSlice t l c =>
    rw [hop] at hp
    simp only [prepOp] at hp
    split at hp
    · simp only [bind, Option.bind_eq_some_iff] at hp
      obtain ⟨n, _, b, _, z, _, p, _, hp⟩ := hp
      split at hp
      · injection hp with hp; subst hp; simp [quietB] at hq
      · cases hp
    · cases hp
  | call c =>
    obtain ⟨cal, xs, ts⟩ := c
    cases cal with
    | value f => rw [hop] at hp; simp [prepOp] at hp
    | invoke r m => rw [hop] at hp; simp [prepOp] at hp
    | builtin b =>
      cases b with
      | len => exact .inl (s_len hop hp ha hg)
      | append =>
        rw [hop] at hp
        simp only [prepOp] at hp
        split at hp
        · simp only [bind, Option.bind_eq_some_iff] at hp
          obtain ⟨p, _, q, _, hp⟩ := hp
          split at hp
          · simp only [Option.bind_eq_some_iff] at hp
            obtain ⟨n, _, b, _, z, _, hp⟩ := hp
            split at hp
            · injection hp with hp; subst hp; simp [quietB] at hq
            · cases hp
          · cases hp
        · cases hp
      | copy =>
        rw [hop] at hp
        simp only [prepOp] at hp
        split at hp
        · simp only [bind, Option.bind_eq_some_iff] at hp
          obtain ⟨p, _, q, _, hp⟩ := hp
          split at hp
          · simp only [Option.bind_eq_some_iff] at hp
            obtain ⟨n, _, hp⟩ := hp
            injection hp with hp; subst hp; simp [quietB] at hq
          · cases hp
        · cases hp
      | min => exact .inl (s_mnx (mx := false) hop hp ha hg)
      | max => exact .inl (s_mnx (mx := true) hop hp ha hg)
      | panic => rw [hop] at hp; simp [prepOp] at hp; subst hp; simp [aop] at ha
      | _ => rw [hop] at hp; simp [prepOp] at hp
  | panic x => rw [hop] at hp; simp [prepOp] at hp; subst hp; simp [aop] at ha
  | _ => rw [hop] at hp; simp [prepOp] at hp
end

/-! ### the orders -/
section
variable {P : Program} {ops : Array Oper} {Q : Exit → Act → World → Prop}

/-- What is listed has all that it waits for listed. -/
def DC (ops : Array Oper) (L : Array Bool) : Prop := ∀ j o, L.getD j false = true → ops[j]? = some o → ∀ e ∈ o.after, Region.binds .any e = true → L.getD e.on false = true

theorem DC.set {L : Array Bool} (d : DC ops L) {i : Nat} (hi : i ∈ Region.ready .any ops L) : DC ops (L.setIfInBounds i true) := by
  intro j o hj ho e he hb
  refine getD_set_true ?_
  by_cases hij : i = j
  · subst hij
    obtain ⟨_, o', ho', hall⟩ := mem_ready.1 hi
    rw [ho] at ho'; injection ho' with ho'; subst ho'
    exact hall e he hb
  · rw [getD_set_ne false hij] at hj
    exact d j o hj ho e he hb

theorem DC.bit {L : Array Bool} (d : DC ops L) (hs : L.size = ops.size) {bef : Array Nat} (hm : maskOk ops bef = true) : ∀ j i, L.getD j false = true → (bef.getD j 0).testBit i = true → i < ops.size → L.getD i false = true := by
  intro j
  induction j using Nat.strongRecOn with
  | _ j ih =>
    intro i hj hbit hi
    have hjlt : j < ops.size := by
      rcases Nat.lt_or_ge j ops.size with h | h
      · exact h
      · rw [Array.getD_eq_getD_getElem?, Array.getElem?_eq_none (by omega)] at hj; cases hj
    have := List.all_eq_true.1 (List.all_eq_true.1 hm j (List.mem_range.2 hjlt)) i (List.mem_range.2 hi)
    rw [hbit] at this
    simp only [Bool.not_true, Bool.false_or] at this
    cases ho : ops[j]? with
    | none => rw [ho] at this; cases this
    | some o =>
      rw [ho] at this
      obtain ⟨e, he, hc⟩ := Array.any_eq_true'.1 this
      simp only [Bool.and_eq_true, decide_eq_true_eq, Bool.or_eq_true, beq_iff_eq] at hc
      obtain ⟨⟨hb, hlt⟩, hc⟩ := hc
      have hL := d j o hj ho e he hb
      rcases hc with rfl | hc
      · exact hL
      · exact ih e.on hlt i hL hc hi

/-- Whatever order is picked from here on; S holds behind every operation. -/
def wpAnyS (P : Program) (ops : Array Oper) (Q : Exit → Act → World → Prop) (S : Array Bool → World → Prop) : Nat → Array Bool → Act → World → Prop
  | 0, L, a, w => Region.ready .any ops L = [] ∧ Q .normal a w
  | fuel + 1, L, a, w =>
    (Region.ready .any ops L = [] → Q .normal a w) ∧
    ∀ i ∈ Region.ready .any ops L, wpOp P ops Q i (fun a' w' => S (L.setIfInBounds i true) w' ∧ wpAnyS P ops Q S fuel (L.setIfInBounds i true) a' w') a w

theorem wpAnyS.any {S : Array Bool → World → Prop} : ∀ (fuel : Nat) (L : Array Bool) (a : Act) (w : World), wpAnyS P ops Q S fuel L a w → wpAny P .any ops Q fuel L a w
  | 0, _, _, _, h => h
  | fuel + 1, _, _, _, h => ⟨h.1, fun i hi => wpOp_mono (fun a' w' h' => wpAnyS.any fuel _ a' w' h'.2) (h.2 i hi)⟩

theorem wpAnyS.mono {S S' : Array Bool → World → Prop} (hS : ∀ L w, S L w → S' L w) : ∀ (fuel : Nat) (L : Array Bool) (a : Act) (w : World), wpAnyS P ops Q S fuel L a w → wpAnyS P ops Q S' fuel L a w
  | 0, _, _, _, h => h
  | fuel + 1, _, _, _, h => ⟨h.1, fun i hi => wpOp_mono (fun a' w' h' => ⟨hS _ _ h'.1, wpAnyS.mono hS fuel _ a' w' h'.2⟩) (h.2 i hi)⟩

/-- An operation that yields its value as long as S0 holds may be taken first. -/
theorem wpAnyS.first {S S' : Array Bool → World → Prop} {S0 : World → Prop} {i : Nat} {oi : Oper} {v : Value} (hi : ops[i]? = some oi) (hsel : ∀ (j : Nat) (o : Oper) cs b, ops[j]? = some o → o.op ≠ .select cs b)
    (hQ : ∀ c a w, Q (.panic c) (a.put oi.dst v) w → Q (.panic c) a w)
    (hSS : ∀ L w, DC ops L → L.size = ops.size → L.getD i true = false → S (L.setIfInBounds i true) w → S0 w ∧ S' L w) (hS : ∀ L w, S L w → S' L w) :
    ∀ (fuel : Nat) (L : Array Bool) (a : Act) (w : World), DC ops L → L.size = ops.size →
      (∀ j oj, ops[j]? = some oj → j ≠ i → L.getD j true = false → (∀ e ∈ oj.after, Region.binds .any e = true → e.on ≠ i) → oi.apart ops oj = true) →
      i ∈ Region.ready .any ops L → YieldsIf P ops S0 oi v a → S0 w → S' (L.setIfInBounds i true) w →
      wpAnyS P ops Q S fuel (L.setIfInBounds i true) (a.put oi.dst v) w → wpAnyS P ops Q S' (fuel + 1) L a w := by
  intro fuel
  induction fuel with
  | zero =>
    intro L a w hdc hsz _ hr hy hS0 hS' H
    refine ⟨fun h => (by rw [h] at hr; cases hr), fun j hj => ?_⟩
    by_cases hji : j = i
    · subst hji; exact hy.wpOp hi hS0 ⟨hS', H⟩
    · have := ready_mono hj hji
      rw [H.1] at this
      cases this
  | succ fuel ih =>
    intro L a w hdc hsz hfree hr hy hS0 hS' H
    refine ⟨fun h => (by rw [h] at hr; cases hr), fun j hj => ?_⟩
    by_cases hji : j = i
    · subst hji; exact hy.wpOp hi hS0 ⟨hS', wpAnyS.mono hS _ _ _ _ H⟩
    · have h1 := H.2 j (ready_mono hj hji)
      obtain ⟨hjun, oj, hoj, hall⟩ := mem_ready.1 hj
      have hiun := (mem_ready.1 hr).1
      have hnot : ∀ e ∈ oj.after, Region.binds .any e = true → e.on ≠ i := fun e he hb heq => by
        have h1 := hall e he hb
        rw [heq] at h1
        rcases Nat.lt_or_ge i L.size with h' | h'
        · simp [h'] at hiun h1; rw [hiun] at h1; cases h1
        · simp [Array.getElem?_eq_none h'] at h1
      have h2 := wpOp_putIf (S := S0) hoj (hfree j oj hoj hji hjun hnot) (fun cs b => hsel i oi cs b hi) (fun cs b => hsel j oj cs b hoj) hQ hy h1
      have hfree' : ∀ k ok, ops[k]? = some ok → k ≠ i → (L.setIfInBounds j true).getD k true = false →
          (∀ e ∈ ok.after, Region.binds .any e = true → e.on ≠ i) → oi.apart ops ok = true := fun k ok hk hki hun hno => by
        refine hfree k ok hk hki ?_ hno
        by_cases hjk : j = k
        · subst hjk; exact hjun
        · rw [getD_set_ne true hjk] at hun; exact hun
      refine wpOp_mono (fun a' w' h3 => ?_) h2
      obtain ⟨h31, h32, h33⟩ := h3
      rw [Array.setIfInBounds_comm _ _ (Ne.symm hji)] at h32 h33
      obtain ⟨q1, q2⟩ := hSS (L.setIfInBounds j true) w' (hdc.set hj) (by simpa using hsz) (by rw [getD_set_ne true hji]; exact hiun) h32
      exact ⟨q2, ih (L.setIfInBounds j true) a' w' (hdc.set hj) (by simpa using hsz) hfree' (ready_mono hr (Ne.symm hji)) h31 q1 (hS _ _ h32) h33⟩
end
end Go.Ab

/- A plan holds for every order; a code's calculus holds for the machine; a function's contract out of its code. -/
set_option linter.unusedSimpArgs false
set_option linter.unusedVariables false
namespace Go.Ab

structure Hd where
  i : Nat
  b : Nat
  c : Option Obj

section
variable {P : Program} {n : Nat} {T : List Nat} {ρ0 : Rho} {h0 : Heap} {w0 : World} {ops : Array Oper} {bef : Array Nat}

def effB (P : Program) (n : Nat) (ops : Array Oper) (e : Nat) : Bool := match (ops[e]?).bind (prepS P n ops) with
  | some s => !quietS s
  | none => true

def Prem (P : Program) (n : Nat) (ops : Array Oper) (bef : Array Nat) (L : Array Bool) (i : Nat) : Prop := ∀ e, L.getD e false = true → effB P n ops e = true → (bef.getD e 0).testBit i = false

def SH (P : Program) (n : Nat) (ops : Array Oper) (bef : Array Nat) (hr : List Hd) (L : Array Bool) (w : World) : Prop := ∀ x ∈ hr, Prem P n ops bef L x.i → w.heap[x.b]? = x.c

def RelH (P : Program) (n : Nat) (ops : Array Oper) (bef : Array Nat) (ha : List (Nat × Nat)) (hr : List Hd) (taken : List Nat) (L : Array Bool) (ρ : Rho) (h : Heap) : Prop :=
  ∀ x ∈ hr, x.i ∈ taken ∧ (Prem P n ops bef L x.i → ∃ j k ob, (x.i, j) ∈ ha ∧ ρ j = some k ∧ k.b = x.b ∧ h[j]? = some (some ob))

theorem Prem.set {L : Array Bool} {i x : Nat} (hp : Prem P n ops bef L x) (he : effB P n ops i = false) : Prem P n ops bef (L.setIfInBounds i true) x := by
  intro e hL heff
  by_cases hie : i = e
  · subst hie; rw [he] at heff; cases heff
  · rw [getD_set_ne false hie] at hL; exact hp e hL heff
theorem Prem.of_set {L : Array Bool} {i x : Nat} (hp : Prem P n ops bef (L.setIfInBounds i true) x) : Prem P n ops bef L x :=
  fun e hL heff => hp e (getD_set_true hL) heff

theorem firstFree_spec {L : Array Bool} {f : Nat → Option PS} : ∀ {l : List Nat} {i : Nat} {s : PS}, firstFree ops L l none f = some (i, s) → i ∈ l ∧ f i = some s ∧ quietS s = true ∧ Region.free .any ops L i = true
  | [], i, s, h => by simp [firstFree] at h
  | j :: l, i, s, h => by
    simp only [firstFree] at h
    split at h
    · rename_i s' hs
      split at h
      · rename_i hc
        injection h with h; injection h with h1 h2; subst h1; subst h2
        simp only [Bool.and_eq_true] at hc
        exact ⟨List.mem_cons_self .., hs, hc.1, hc.2⟩
      · obtain ⟨a, b⟩ := firstFree_spec h
        exact ⟨List.mem_cons_of_mem _ a, b⟩
    · obtain ⟨a, b⟩ := firstFree_spec h
      exact ⟨List.mem_cons_of_mem _ a, b⟩

theorem count_set {L : Array Bool} {i : Nat} (hi : L.getD i true = false) : (L.setIfInBounds i true).toList.count false + 1 = L.toList.count false := by
  have hlt : i < L.size := by
    rcases Nat.lt_or_ge i L.size with h | h
    · exact h
    · rw [Array.getD_eq_getD_getElem?, Array.getElem?_eq_none h] at hi; cases hi
  have hv : L.toList[i]'(by simpa using hlt) = false := by
    rw [Array.getD_eq_getD_getElem?, Array.getElem?_eq_getElem hlt] at hi; simpa using hi
  have hpos : 0 < L.toList.count false := List.count_pos_iff.2 (hv ▸ List.getElem_mem _)
  have hcs := List.count_set (a := true) (b := false) (l := L.toList) (i := i) (by simpa using hlt)
  rw [hv] at hcs
  simp only [show (true == false) = false from rfl, show (false == false) = true from rfl, if_true, Bool.false_eq_true, if_false, Nat.add_zero] at hcs
  rw [Array.toList_setIfInBounds, hcs]
  omega

theorem Post.nopanic {Q : Exit → St → Prop} {d : Option Tmp} {v : Value} : ∀ c a w, Post n T ρ0 h0 w0 Q (.panic c) (a.put d v) w → Post n T ρ0 h0 w0 Q (.panic c) a w := fun _ _ _ h => h.1.elim

theorem chain_spec {L : Array Bool} {taken : List Nat} {fuel : Nat} {held : List (Nat × Nat)} {st : St} {M : Nat → Prop} {Q : St → Prop} : ∀ {l : List Nat} {p : Plan},
    l.foldr (fun i acc => do
          let more ← acc
          let o ← ops[i]?
          let s ← prepS P n ops o
          if quietS s then none else
          let p ← mkPlan P n ops bef fuel (L.setIfInBounds i true) taken
          some (.br i (taken.filter fun l => !(bef.getD i 0).testBit l) s p more)) (some Plan.ed) = some p → XPl P M p held st Q →
    ∀ i ∈ l, ∃ o s p', ops[i]? = some o ∧ prepS P n ops o = some s ∧ quietS s = false ∧ mkPlan P n ops bef fuel (L.setIfInBounds i true) taken = some p' ∧
      XS P M s st (fun T st' => (∀ x ∈ held, x.1 ∈ (taken.filter fun l => !(bef.getD i 0).testBit l) → x.2 ∉ T) ∧ XPl P M p' (held.filter fun x => (taken.filter fun l => !(bef.getD i 0).testBit l).contains x.1) st' Q)
  | [], p, _, _, i, hi => by cases hi
  | j :: l, p, h, hx, i, hi => by
    simp only [List.foldr_cons, bind, Option.bind_eq_some_iff] at h
    obtain ⟨more, hm, o, ho, s, hs, h⟩ := h
    split at h
    · cases h
    · rename_i hq
      simp only [Option.bind_eq_some_iff] at h
      obtain ⟨p', hp', h⟩ := h
      injection h with h; subst h
      simp only [XPl] at hx
      rcases List.mem_cons.1 hi with rfl | hi
      · exact ⟨o, s, p', ho, hs, by simpa using hq, hp', hx.1⟩
      · exact chain_spec (by simpa only [bind] using hm) hx.2 i hi

theorem plan_sound {Q : Exit → St → Prop} (s0 : Sim ρ0 h0 w0) (hm : maskOk ops bef = true) (hns : Region.noSelect ops = true) :
    ∀ (fuel : Nat) (L : Array Bool) (taken : List Nat) (p : Plan) (ha : List (Nat × Nat)) (hr : List Hd) (ρ : Rho) (st : St) (a : Act) (w : World) (F : Nat),
      mkPlan P n ops bef fuel L taken = some p → XPl P (MT T h0) p ha st (Q .normal) → Ok n T ρ0 h0 w0 ρ st a w → DC ops L → L.size = ops.size → RelH P n ops bef ha hr taken L ρ st.h → SH P n ops bef hr L w →
      L.toList.count false ≤ F → wpAnyS P ops (Post n T ρ0 h0 w0 Q) (SH P n ops bef hr) F L a w := by
  intro fuel
  induction fuel with
  | zero => intro L taken p ha hr ρ st a w F hp; simp [mkPlan] at hp
  | succ fuel ih =>
    intro L taken p ha hr ρ st a w F hp hx ok hdc hsz hrel hsh hF
    simp only [mkPlan] at hp
    split at hp
    · rename_i hready
      injection hp with hp; subst hp
      simp only [XPl] at hx
      have hQ : Post n T ρ0 h0 w0 Q .normal a w := ⟨trivial, ρ, st, hx, ok⟩
      cases F with
      | zero => exact ⟨hready, hQ⟩
      | succ F => exact ⟨fun _ => hQ, by rw [hready]; intro i hi; cases hi⟩
    · rename_i r rs hready
      have hFpos : ∃ F', F = F' + 1 := by
        have : r ∈ Region.ready .any ops L := by rw [hready]; exact List.mem_cons_self ..
        have hun := (mem_ready.1 this).1
        have := count_set hun
        exact ⟨F - 1, by omega⟩
      obtain ⟨F, rfl⟩ := hFpos
      split at hp
      · rename_i i s hff
        obtain ⟨hmem, hfs, hqs, hfree⟩ := firstFree_spec hff
        simp only [bind, Option.bind_eq_some_iff] at hp
        obtain ⟨p', hp', hp⟩ := hp
        injection hp with hp; subst hp
        have hready' : i ∈ Region.ready .any ops L := by rw [hready]; exact hmem
        have hiun := (mem_ready.1 hready').1
        have hdc' := hdc.set hready'
        have hsz' : (L.setIfInBounds i true).size = ops.size := by simpa using hsz
        have hF' : (L.setIfInBounds i true).toList.count false ≤ F := by have := count_set hiun; omega
        obtain ⟨oi, hoi, hps⟩ := Option.bind_eq_some_iff.1 hfs
        have hilt : i < ops.size := (Array.getElem?_eq_some_iff.1 hoi).1
        have heff : effB P n ops i = false := by unfold effB; rw [hfs]; simp [hqs]
        have hps0 := hps
        cases s with
        | c d g f xs => simp [quietS] at hqs
        | o d g op =>
          simp only [prepS, bind, Option.bind_eq_some_iff] at hps
          obtain ⟨g', hg', hps⟩ := hps
          split at hps
          · rename_i hd
            cases hcal : calOf oi.op with
            | some fx => obtain ⟨f, xs⟩ := fx; simp [hcal, Option.bind_eq_some_iff] at hps
            | none =>
              simp only [hcal, Option.bind_eq_some_iff] at hps
              obtain ⟨op', hop, hps⟩ := hps
              injection hps with hps; injection hps with e1 e2 e3; subst e1; subst e2; subst e3
              have hwant := want_eq (P := P) (ops := ops) (o := oi) ok.sa hg'
              simp only [XPl] at hx
              -- a step that only puts a value
              have plain : ∀ (v rv : Value) (ha' : List (Nat × Nat)), (∀ y ∈ ha, y ∈ ha') → VR ρ v rv → YieldsIf P ops (fun _ => True) oi rv a →
                  XPl P (MT T h0) p' ha' ⟨put st.tm oi.dst v, st.h⟩ (Q .normal) → wpAnyS P ops (Post n T ρ0 h0 w0 Q) (SH P n ops bef hr) (F + 1) L a w := by
                intro v rv ha' hsub hv hy hx'
                refine wpAnyS.first (S := SH P n ops bef hr) (S0 := fun _ => True) hoi (Region.noSelect_spec hns) Post.nopanic ?_ (fun _ _ h => h) F L a w hdc hsz (Region.free_spec hoi hfree) hready' hy trivial ?_ ?_
                · intro L' w' hdcL hszL hi' hS
                  exact ⟨trivial, fun x hxm hpr => hS x hxm (hpr.set heff)⟩
                · exact fun x hxm hpr => hsh x hxm hpr.of_set
                · refine ih _ _ p' ha' hr ρ _ _ w F hp' hx' ⟨ok.sa.put hd hv, ok.sh, ok.stp⟩ hdc' hsz' ?_ (fun x hxm hpr => hsh x hxm hpr.of_set) hF'
                  intro x hxm
                  obtain ⟨t1, t2⟩ := hrel x hxm
                  refine ⟨by split <;> simp [t1], fun hpr => ?_⟩
                  obtain ⟨j, k, ob, q1, q2⟩ := t2 hpr.of_set
                  exact ⟨j, k, ob, hsub _ q1, q2⟩
              split at hx
              · rename_i hw
                obtain ⟨v, hav, hx⟩ := hx
                rcases quiet_sound (w := w) hop (by simpa [quietS] using hqs) hav ok.sa.gv ok.sh with ⟨⟨rv, hv, hrun⟩, _, _⟩ | ⟨_, _, j, k, rv, hrid, ⟨ob, hob'⟩, hk, hv, hrun⟩
                · refine plain v rv _ ?_ hv (.inl ⟨by rw [hwant]; exact hw, fun w _ => hrun w⟩) hx
                  intro y hy
                  split
                  · exact List.mem_cons_of_mem _ hy
                  · exact hy
                · rw [hrid] at hx
                  simp only at hx
                  have hrd : readsS (.o oi.dst g' op') = true := readId_reads hrid
                  rw [if_pos hrd] at hp'
                  refine wpAnyS.first (S := SH P n ops bef (⟨i, k.b, w.heap[k.b]?⟩ :: hr)) (S0 := fun w' => w'.heap[k.b]? = w.heap[k.b]?) hoi (Region.noSelect_spec hns) Post.nopanic ?_ (fun L w h x hxm => h x (List.mem_cons_of_mem _ hxm)) F L a w hdc hsz
                    (Region.free_spec hoi hfree) hready' (.inl ⟨by rw [hwant]; exact hw, fun w' hw' => hrun w' hw'⟩) rfl (fun x hxm hpr => hsh x hxm hpr.of_set) ?_
                  · intro L' w' hdcL hszL hi' hS
                    refine ⟨hS ⟨i, k.b, w.heap[k.b]?⟩ (List.mem_cons_self ..) ?_, fun x hxm hpr => hS x (List.mem_cons_of_mem _ hxm) (hpr.set heff)⟩
                    intro e hL he
                    by_cases hie : i = e
                    · subst hie; rw [heff] at he; cases he
                    · rw [getD_set_ne false hie] at hL
                      cases hbit : (bef.getD e 0).testBit i with
                      | false => rfl
                      | true =>
                        have := hdcL.bit hszL hm e i hL hbit hilt
                        exfalso
                        rw [Array.getD_eq_getD_getElem?] at this hi'
                        cases hq : L'[i]? with
                        | none => rw [hq] at this; cases this
                        | some b => rw [hq] at this hi'; simp at this hi'; rw [this] at hi'; cases hi'
                  · refine ih _ _ p' _ _ ρ _ _ w F hp' hx ⟨ok.sa.put hd hv, ok.sh, ok.stp⟩ hdc' hsz' ?_ ?_ hF'
                    · intro x hxm
                      rcases List.mem_cons.1 hxm with rfl | hxm
                      · exact ⟨List.mem_cons_self .., fun _ => ⟨j, k, ob, List.mem_cons_self .., hk, rfl, hob'⟩⟩
                      · obtain ⟨t1, t2⟩ := hrel x hxm
                        refine ⟨List.mem_cons_of_mem _ t1, fun hpr => ?_⟩
                        obtain ⟨j, k, ob, q1, q2⟩ := t2 hpr.of_set
                        exact ⟨j, k, ob, List.mem_cons_of_mem _ q1, q2⟩
                    · intro x hxm hpr
                      rcases List.mem_cons.1 hxm with rfl | hxm
                      · rfl
                      · exact hsh x hxm hpr.of_set
              · rename_i hw
                exact plain undef undef ha (fun _ h => h) (.undef ρ) (.inr ⟨by rw [hwant]; simpa using hw, rfl⟩) hx
          · cases hps
      · refine ⟨fun h => (by rw [hready] at h; cases h), fun i hi => ?_⟩
        have hiun := (mem_ready.1 hi).1
        have hdc' := hdc.set hi
        have hsz' : (L.setIfInBounds i true).size = ops.size := by simpa using hsz
        have hF' : (L.setIfInBounds i true).toList.count false ≤ F := by have := count_set hiun; omega
        rw [hready] at hi
        obtain ⟨o, s, p', ho, hs, hq, hp', hxs⟩ := chain_spec hp hx i hi
        have heff : effB P n ops i = true := by unfold effB; rw [ho, Option.bind_some, hs]; simp [hq]
        unfold wpOp
        simp only [ho]
        refine step_sound s0 hs ok hxs ?_
        rintro T2 st' ρ' a' w' ⟨hT2, hx'⟩ ok' hst
        have hkeep : ∀ x ∈ hr, Prem P n ops bef (L.setIfInBounds i true) x.i → ∃ j k ob, (x.i, j) ∈ ha ∧ x.i ∈ (taken.filter fun l => !(bef.getD i 0).testBit l) ∧ j ∉ T2 ∧ ρ j = some k ∧ k.b = x.b ∧ st.h[j]? = some (some ob) := by
          intro x hxm hpr
          obtain ⟨t1, t2⟩ := hrel x hxm
          obtain ⟨j, k, ob, q1, q2, q3, q4⟩ := t2 hpr.of_set
          have hlt : i < L.size := by
            rcases Nat.lt_or_ge i L.size with h | h
            · exact h
            · rw [Array.getD_eq_getD_getElem?, Array.getElem?_eq_none h] at hiun; cases hiun
          have hbit := hpr i (by simp [Array.getD_eq_getD_getElem?, Array.getElem?_setIfInBounds, hlt]) heff
          have hu : x.i ∈ (taken.filter fun l => !(bef.getD i 0).testBit l) := by
            rw [List.mem_filter]; exact ⟨t1, by rw [hbit]; rfl⟩
          exact ⟨j, k, ob, q1, hu, hT2 _ q1 hu, q2, q3, q4⟩
        refine ⟨fun x hxm hpr => ?_, ih _ _ p' _ hr ρ' st' a' w' F hp' hx' ok' hdc' hsz' ?_ ?_ hF'⟩
        all_goals
          have hblk : ∀ x ∈ hr, Prem P n ops bef (L.setIfInBounds i true) x.i → w'.heap[x.b]? = x.c := by
            intro x hxm hpr
            obtain ⟨j, k, ob, q1, q2, q3, q4, q5, q6⟩ := hkeep x hxm hpr
            rw [← hsh x hxm hpr.of_set]
            refine hst.frame x.b (by rw [← q5]; exact (ok.sh.dom j k q4).2) ?_
            rintro ⟨i', o', k', r1, r2, r3, r4, r5⟩
            exact ok.sh.inj i' j o' ob k' k r2 q6 r4 q4 r3 (fun e => q3 (e ▸ r1)) (by rw [r5, q5])
        · exact hblk x hxm hpr
        · intro x hxm
          refine ⟨(hrel x hxm).1, fun hpr => ?_⟩
          obtain ⟨j, k, ob, q1, q2, q3, q4, q5, q6⟩ := hkeep x hxm hpr
          refine ⟨j, k, ob, List.mem_filter.2 ⟨q1, by simpa using q2⟩, hst.ext _ _ q4, q5, ?_⟩
          rw [hst.same j (ok.sh.dom j k q4).1 q3]; exact q6
        · exact hblk
end

section
variable {P : Program} {n : Nat} {T : List Nat} {ρ0 : Rho} {h0 : Heap} {w0 : World}

theorem XP_sound (hmix : P.follows .mixedOrders = true) (s0 : Sim ρ0 h0 w0) : ∀ (c : Code) (pc : PCode), prepC P n c = some pc → ∀ (ρ : Rho) (st : St) (a : Act) (w : World) (Q : Exit → St → Prop), Ok n T ρ0 h0 w0 ρ st a w →
    XP P (MT T h0) pc st Q → c.wp P (Post n T ρ0 h0 w0 Q) a w := by
  intro c
  induction c with
  | skip =>
    intro pc hp ρ st a w Q ok hx
    simp [prepC] at hp; subst hp
    exact wp_skip ⟨trivial, ρ, st, hx, ok⟩
  | region id ops draw =>
    intro pc hp ρ st a w Q ok hx
    cases draw with
    | false =>
      simp only [prepC, Option.map_eq_some_iff] at hp
      obtain ⟨ss, hss, rfl⟩ := hp
      simp only [XP] at hx
      obtain ⟨hl, hrel⟩ := mapM_rel hss
      refine wp_region ?_
      have := rg_sound (T := T) (ops := ops) s0 ss 0 ρ st a w (fun j s hj => by
        have hj2 := (List.getElem?_eq_some_iff.1 hj).1
        have hj3 : j < ops.size := by simp at hl; omega
        refine ⟨ops[j], by rw [Nat.zero_add]; exact Array.getElem?_eq_getElem hj3, ?_⟩
        exact hrel j ops[j] s (by simp [hj3]) hj) ok hx
      rw [List.range_eq_range', show ops.size = ss.length by simpa using hl]
      exact this
    | true =>
      simp only [prepC] at hp
      split at hp
      · rename_i hc
        simp only [Bool.and_eq_true] at hc
        simp only [Option.map_eq_some_iff] at hp
        obtain ⟨p, hpl, rfl⟩ := hp
        simp only [XP] at hx
        refine wp_region_any hmix (wpAnyS.any (S := SH P n ops (Region.before ops) []) _ _ _ _ ?_)
        refine plan_sound (Q := Q) s0 hc.2 hc.1 _ _ [] p [] [] ρ st a _ _ hpl hx ⟨ok.sa, ok.sh.drew _, ?_⟩ ?_ (by simp) (fun x hx => by cases hx) (fun x hx => by cases hx) (by simp)
        · exact ok.stp.trans s0 ok.sh (Stp.drew [] ρ st.h w _) (fun i hi => by cases hi)
        · intro j o hj
          simp [Array.getD_eq_getD_getElem?, Array.getElem?_replicate] at hj
          split at hj <;> simp at hj
      · cases hp
  | seq x y ihx ihy =>
    intro pc hp ρ st a w Q ok hx
    simp only [prepC, bind, Option.bind_eq_some_iff] at hp
    obtain ⟨px, h1, py, h2, hp⟩ := hp
    injection hp with hp; subst hp
    simp only [XP] at hx
    refine wp_seq (wp_mono (ihx px h1 ρ st a w _ ok hx) ?_)
    rintro e a' w' ⟨hpl, ρ', st', hq, ok'⟩
    cases e with
    | normal => exact ihy py h2 ρ' st' a' w' Q ok' hq
    | exit id => exact ⟨hpl, ρ', st', hq, ok'⟩
    | ret => exact ⟨hpl, ρ', st', hq, ok'⟩
    | goto l => exact hpl.elim
    | panic c => exact hpl.elim
    | outgrown => exact hpl.elim
  | cond c x y ihx ihy =>
    intro pc hp ρ st a w Q ok hx
    simp only [prepC, bind, Option.bind_eq_some_iff] at hp
    obtain ⟨p, h0', px, h1, py, h2, hp⟩ := hp
    injection hp with hp; subst hp
    simp only [XP] at hx
    have hv := ok.sa.gv c p h0'
    split at hx
    · rename_i b e
      rw [e] at hv
      have hb := bool_inv hv
      refine wp_cond hb ?_
      cases b with
      | true => simp only [if_true] at hx ⊢; exact ihx px h1 ρ st a w Q ok hx
      | false => simp only [Bool.false_eq_true, if_false] at hx ⊢; exact ihy py h2 ρ st a w Q ok hx
    · exact hx.elim
  | block id x ih =>
    intro pc hp ρ st a w Q ok hx
    simp only [prepC, Option.map_eq_some_iff] at hp
    obtain ⟨px, h1, rfl⟩ := hp
    simp only [XP] at hx
    refine wp_block (wp_mono (ih px h1 ρ st a w _ ok hx) ?_)
    rintro e a' w' ⟨hpl, ρ', st', hq, ok'⟩
    cases e with
    | normal => exact ⟨hpl, ρ', st', hq, ok'⟩
    | exit id' =>
      simp only [Exit.inBlock]
      simp only at hq
      split
      · rename_i he; rw [if_pos he] at hq; exact ⟨trivial, ρ', st', hq, ok'⟩
      · rename_i he; rw [if_neg he] at hq; exact ⟨trivial, ρ', st', hq, ok'⟩
    | ret => exact ⟨hpl, ρ', st', hq, ok'⟩
    | goto l => exact hpl.elim
    | panic c => exact hpl.elim
    | outgrown => exact hpl.elim
  | loop x ih =>
    intro pc hp ρ st a w Q ok hx
    simp only [prepC, Option.map_eq_some_iff] at hp
    obtain ⟨px, h1, rfl⟩ := hp
    simp only [XP] at hx
    obtain ⟨I, k, hI, hround⟩ := hx
    refine wp_loop_ghost (fun k a w => ∃ ρ st, I k st ∧ Ok n T ρ0 h0 w0 ρ st a w) k ⟨ρ, st, hI, ok⟩ ?_
    rintro k a w ⟨ρ, st, hI, ok⟩
    refine wp_mono (ih px h1 ρ st a w _ ok (hround k st hI)) ?_
    rintro e a' w' ⟨hpl, ρ', st', hq, ok'⟩
    cases e with
    | normal =>
      obtain ⟨k', hlt, hI'⟩ := hq
      exact ⟨k', hlt, ρ', st', hI', ok'⟩
    | exit id => exact ⟨hpl, ρ', st', hq, ok'⟩
    | ret => exact ⟨hpl, ρ', st', hq, ok'⟩
    | goto l => exact hpl.elim
    | panic c => exact hpl.elim
    | outgrown => exact hpl.elim
  | exit id =>
    intro pc hp ρ st a w Q ok hx
    simp [prepC] at hp; subst hp
    exact wp_exit ⟨trivial, ρ, st, hx, ok⟩
  | ret =>
    intro pc hp ρ st a w Q ok hx
    simp [prepC] at hp; subst hp
    exact wp_ret ⟨trivial, ρ, st, hx, ok⟩
  | rangeFunc _ _ _ _ => intro pc hp; simp [prepC] at hp
  | scope _ => intro pc hp; simp [prepC] at hp
  | label _ => intro pc hp; simp [prepC] at hp
  | goto _ => intro pc hp; simp [prepC] at hp
  | refuse _ => intro pc hp; simp [prepC] at hp

def resSem (tmps : Array Value) : ResultVar → Sem Value
  | .tmp t => pure (tmps.getD t undef)
  | .cell x t => do loadVar t (← asAddr (tmps.getD x undef))

theorem res_run {ρ : Rho} {st : St} {a : Act} {w : World} (sa : SimA n ρ st.tm a) (sh : Sim ρ st.h w) : ∀ {rs : List ResultVar} {ps : List PRes} {vs : List Value}, rs.mapM (prepR P) = some ps → resAs st.tm st.h ps = some vs →
    ∃ rvs : List Value, Sem.run P (rs.mapM (resSem a.tmps)) w = Result.ok rvs w ∧ VRL ρ vs rvs
  | [], ps, vs, h1, h2 => by
    simp at h1; subst h1; simp [resAs] at h2; subst h2
    exact ⟨[], rfl, .nil ρ⟩
  | r :: rs, ps, vs, h1, h2 => by
    simp [Option.bind_eq_some_iff] at h1
    obtain ⟨p, hp, ps', hps, rfl⟩ := h1
    simp only [resAs, Option.bind_eq_some_iff, Option.map_eq_some_iff] at h2
    obtain ⟨v, hv, vs', hvs, rfl⟩ := h2
    obtain ⟨rvs, hr, hrel⟩ := res_run sa sh (by simpa using hps) hvs
    cases r with
    | tmp t =>
      simp [prepR] at hp; subst hp
      simp [resA1] at hv; subst hv
      refine ⟨a.tmps.getD t undef :: rvs, ?_, .cons (sa.vals t) hrel⟩
      simp [List.mapM_cons, resSem, hr]
    | cell x t =>
      simp only [prepR, bind, Option.bind_eq_some_iff] at hp
      obtain ⟨m, hm, b, hb, hp⟩ := hp
      have hcr : ∃ rv, (do loadVar t (← asAddr (a.tmps.getD x undef)) : Sem Value).run P w = .ok rv w ∧ VR ρ v rv := by
        let o : Oper := ⟨none, .load t (.tmp x), 0, "", #[], none⟩
        have hq : ∀ po, prepOp P o.op = some po → aop P st.tm st.h po = some ([], v, st.h) → ∃ rv, (do loadVar t (← asAddr (a.tmps.getD x undef)) : Sem Value).run P w = .ok rv w ∧ VR ρ v rv := by
          intro po hpo hav
          obtain ⟨_, _, _, _, rv, _, _, _, hvr, hrun⟩ := load_any (w := w) (o := o) rfl hpo hav sa.gv sh
          have := hrun w rfl
          refine ⟨rv, ?_, hvr⟩
          simp only [execOp, o, Instr.loadAt, Sem.run_bind] at this
          have hev : a.eval (.tmp x) = a.tmps.getD x undef := rfl
          rw [hev] at this
          cases hgx : a.tmps.getD x undef with
          | pointer ad =>
            cases ad with
            | none => rw [hgx] at this; simp [Instr.sureAddr] at this
            | some ad =>
              rw [hgx] at this
              simp [Instr.sureAddr, asAddr] at this ⊢
              cases hl : (loadVar t ad).run P w with
              | ok u w' => rw [hl] at this; simp at this; obtain ⟨rfl, rfl⟩ := this; rfl
              | halt x w' => rw [hl] at this; simp at this
          | _ => rw [hgx] at this; simp [Instr.sureAddr] at this
        cases b with
        | true =>
          simp at hp; subst hp
          refine hq (.ldn m (.t x)) ?_ ?_
          · simp [prepOp, o, pO, hm, hb]
          · simp only [resA1] at hv
            simp only [aop, PO.ev]
            split at hv
            · rename_i i ofs e
              try rw [e]
              simp only [Option.map_eq_some_iff] at hv ⊢
              obtain ⟨l, h1, rfl⟩ := hv
              exact ⟨l, h1, rfl⟩
            · cases hv
        | false =>
          simp at hp; subst hp
          refine hq (.ld (.t x)) ?_ ?_
          · simp [prepOp, o, pO, hm, hb]
          · simp only [resA1] at hv
            simp only [aop, PO.ev]
            split at hv
            · rename_i i ofs e
              try rw [e]
              simp [hv]
            · cases hv
      obtain ⟨rv, hrv, hvr⟩ := hcr
      refine ⟨rv :: rvs, ?_, .cons hvr hrel⟩
      have hrv' : (resSem a.tmps (.cell x t)).run P w = .ok rv w := hrv
      rw [List.mapM_cons]
      simp only [Sem.run_bind, hrv', Result.andThen_ok, hr, Sem.run_pure]
end

/-- **A function's contract out of its code.** -/
theorem AC_of {P : Program} (hmix : P.follows .mixedOrders = true) {f : FuncId} {fd : Func} {pf : PFn} (hfd : P.funcs[f]? = some fd) (hname : fd.name ≠ "runtime.NumGoroutine") (hp : prepF P fd = some pf) {args : List Value} {h : Heap} {T : List Nat} {Q : Value → Heap → Prop}
    (hlen : args.length ≤ pf.nt) (hx : XP P (MT T h) pf.body ⟨tmOf args, h⟩ fun e st => (e = .normal ∨ e = .ret) ∧ ∃ r, resA st.tm st.h pf.res = some r ∧ Q r st.h) : AC P f args h T Q := by
  simp only [prepF, bind, Option.bind_eq_some_iff] at hp
  obtain ⟨b, hb, c, hc, rs, hrs, hp⟩ := hp
  injection hp with hp; subst hp
  refine ⟨⟨fd, hfd, by rw [hb]; rfl, hname⟩, fun ρ w rargs hs hargs => ?_⟩
  refine calls_of_wp hfd hb ?_
  have hra : rargs.size = args.length := by have := hargs.1; simp at this; omega
  simp only at hlen hx
  have ok : Ok fd.ntmps T ρ h w ρ ⟨tmOf args, h⟩ { tmps := rargs ++ Array.replicate (fd.ntmps - rargs.size) undef, defers := [] } w := by
    refine ⟨⟨by simp; omega, fun t => ?_, rfl⟩, hs, .refl T ρ h w⟩
    have := hargs.get t
    simp only [tmOf, Array.getD_eq_getD_getElem?, Array.getElem?_append]
    split
    · rename_i hlt
      simpa [List.getD_eq_getElem?_getD] using this
    · rename_i hlt
      have h1 : args.getD t undef = undef := by
        rw [List.getD_eq_getElem?_getD, List.getElem?_eq_none (by omega)]; rfl
      have h2 : ((Array.replicate (fd.ntmps - rargs.size) undef)[t - rargs.size]?).getD undef = undef := by
        rw [Array.getElem?_replicate]; split <;> rfl
      rw [h1, h2]; exact .undef ρ
  refine wp_mono (XP_sound hmix hs b c hc ρ _ _ w _ ok hx) ?_
  rintro e a' w' ⟨hpl, ρ', st', ⟨he, r, hr, hQ⟩, ok'⟩
  have fin : a'.defers = [] ∧ ∃ v, (results fd a'.tmps).run P w' = .ok v w' ∧ ∃ rv r h' ρ', Ending.returned v = .returned rv ∧ Q r h' ∧ VR ρ' r rv ∧ Sim ρ' h' w' ∧ Stp T ρ h w ρ' h' w' := by
    refine ⟨ok'.sa.dfr, ?_⟩
    simp only [resA, Option.map_eq_some_iff] at hr
    obtain ⟨vs, hvs, hr⟩ := hr
    obtain ⟨rvs, hrun, hrel⟩ := res_run (P := P) ok'.sa ok'.sh hrs hvs
    have hres : (results fd a'.tmps).run P w' = .ok (if h : rvs.toArray.size = 1 then rvs.toArray[0] else .tuple rvs.toArray) w' := by
      have hdef : results fd a'.tmps = (do let vs ← fd.results.mapM (resSem a'.tmps); pure (if h : vs.size = 1 then vs[0] else .tuple vs)) := by
        unfold results
        congr 1
      rw [hdef, Array.mapM_eq_mapM_toList]
      simp only [Sem.run_bind, Sem.run_map, hrun, Result.andThen_ok, Sem.run_pure]
    refine ⟨_, hres, _, r, st'.h, ρ', rfl, hQ, ?_, ok'.sh, ok'.stp⟩
    split at hr
    · rename_i v
      subst hr
      have hl1 : rvs.length = 1 := by have := hrel.1; simp at this; omega
      have hv := hrel.2 0 (by simp)
      rw [dif_pos (by simpa using hl1)]
      simp [List.getD_eq_getElem?_getD, List.getElem?_eq_getElem (show 0 < rvs.length by omega)] at hv
      simpa using hv
    · rename_i vs' hne
      subst hr
      have hl1 : rvs.toArray.size ≠ 1 := by
        intro h1
        have : vs.length = 1 := by have := hrel.1; simp at h1; omega
        obtain ⟨x, rfl⟩ := List.length_eq_one_iff.1 this
        exact hne x rfl
      rw [dif_neg hl1]
      exact .tuple_iff (by simpa using hrel)
  rcases he with rfl | rfl
  · exact fin
  · exact fin
end Go.Ab
