/- The abstract heap: values, the relation between abstract and real values and worlds, steps. -/
import Derived.Control
import Derived.Calls
import Derived.Orders
import Derived.Below
import Derived.Laws.AppendOwn
import Derived.Deep.LoopGhost
namespace Go.Ab

/-- Where an abstract object lies: block, first cell, the block's cells, an element's cells, may it be written. -/
structure Blk where
  b : Nat
  base : Nat
  sz : Nat
  es : Nat
  own : Bool

abbrev Rho := Nat → Option Blk

structure AObj where
  cells : List Value
  es : Nat
  own : Bool

abbrev Heap := List (Option AObj)

inductive VR (ρ : Rho) : Value → Value → Prop
  | bool (b : Bool) : VR ρ (.bool b) (.bool b)
  | int (k : IntKind) (n : Int) : VR ρ (.int k n) (.int k n)
  | str (s : ByteArray) : VR ρ (.string s) (.string s)
  | nilp : VR ρ (.pointer none) (.pointer none)
  | ptr {i o : Nat} {k : Blk} (h : ρ i = some k) : VR ρ (.pointer (some ⟨i, o, none⟩)) (.pointer (some ⟨k.b, k.base + o, none⟩))
  | nils : VR ρ (.slice none 0 0) (.slice none 0 0)
  | sl {i o n c rc : Nat} {k : Blk} {ra : Addr} (h : ρ i = some k) (hn : n ≤ rc) (hc : c = n → rc = n) (ha : rc ≠ 0 → ra = ⟨k.b, k.base + o, none⟩)
      (hs : k.own = true → k.base + o + rc * k.es ≤ k.sz) : VR ρ (.slice (some ⟨i, o, none⟩) n c) (.slice (some ra) n rc)
  | nilf : VR ρ .nilFunc .nilFunc
  | nili : VR ρ .nilIface .nilIface
  | iface {t : TypeId} {v v' : Value} (h : VR ρ v v') : VR ρ (.iface t v) (.iface t v')
  | func {f : Fn} {xs ys xs' ys' : Array Value} (h1 : xs.size = xs'.size) (h2 : ys.size = ys'.size) (h3 : ∀ j, j < xs.size → VR ρ (xs.getD j undef) (xs'.getD j undef))
      (h4 : ∀ j, j < ys.size → VR ρ (ys.getD j undef) (ys'.getD j undef)) : VR ρ (.func f xs ys) (.func f xs' ys')
  | agg {xs xs' : Array Value} (h1 : xs.size = xs'.size) (h2 : ∀ j, j < xs.size → VR ρ (xs.getD j undef) (xs'.getD j undef)) : VR ρ (.agg xs) (.agg xs')
  | tuple {xs xs' : Array Value} (h1 : xs.size = xs'.size) (h2 : ∀ j, j < xs.size → VR ρ (xs.getD j undef) (xs'.getD j undef)) : VR ρ (.tuple xs) (.tuple xs')

def Ext (ρ ρ' : Rho) : Prop := ∀ i k, ρ i = some k → ρ' i = some k
theorem Ext.refl (ρ : Rho) : Ext ρ ρ := fun _ _ h => h
theorem Ext.trans {a b c : Rho} (h : Ext a b) (h' : Ext b c) : Ext a c := fun i k e => h' i k (h i k e)

theorem VR.mono {ρ ρ' : Rho} (he : Ext ρ ρ') {v v' : Value} (h : VR ρ v v') : VR ρ' v v' := by
  induction h with
  | bool b => exact .bool b
  | int k n => exact .int k n
  | str s => exact .str s
  | nilp => exact .nilp
  | ptr h => exact .ptr (he _ _ h)
  | nils => exact .nils
  | sl h hn hc ha hs => exact .sl (he _ _ h) hn hc ha hs
  | nilf => exact .nilf
  | nili => exact .nili
  | iface _ ih => exact .iface ih
  | func h1 h2 _ _ ih3 ih4 => exact .func h1 h2 ih3 ih4
  | agg h1 _ ih => exact .agg h1 ih
  | tuple h1 _ ih => exact .tuple h1 ih

theorem VR.undef (ρ : Rho) : VR ρ Go.undef Go.undef := .tuple rfl (fun j h => absurd h (Nat.not_lt_zero j))

theorem VR.one {ρ : Rho} {v v' : Value} (h : VR ρ v v') : v'.oneCell' = v.oneCell' := by cases h <;> rfl

/-- Lists of related values. -/
def VRL (ρ : Rho) (xs ys : List Value) : Prop := xs.length = ys.length ∧ ∀ j, j < xs.length → VR ρ (xs.getD j Go.undef) (ys.getD j Go.undef)

theorem VRL.nil (ρ : Rho) : VRL ρ [] [] := ⟨rfl, fun j h => absurd h (Nat.not_lt_zero j)⟩
theorem VRL.cons {ρ : Rho} {x y : Value} {xs ys : List Value} (h : VR ρ x y) (hs : VRL ρ xs ys) : VRL ρ (x :: xs) (y :: ys) := by
  refine ⟨by simp [hs.1], fun j hj => ?_⟩
  cases j with
  | zero => simpa using h
  | succ j => simpa using hs.2 j (by simpa using hj)
theorem VRL.mono {ρ ρ' : Rho} (he : Ext ρ ρ') {xs ys : List Value} (h : VRL ρ xs ys) : VRL ρ' xs ys := ⟨h.1, fun j hj => (h.2 j hj).mono he⟩
theorem VRL.get {ρ : Rho} {xs ys : List Value} (h : VRL ρ xs ys) (j : Nat) : VR ρ (xs.getD j Go.undef) (ys.getD j Go.undef) := by
  by_cases hj : j < xs.length
  · exact h.2 j hj
  · have h2 : ¬ j < ys.length := by rw [← h.1]; exact hj
    simp only [List.getD_eq_getElem?_getD]
    rw [List.getElem?_eq_none (by omega), List.getElem?_eq_none (by omega)]
    exact .undef ρ
theorem VRL.sm {ρ : Rho} {xs ys : List Value} (h : VRL ρ xs ys) {j : Nat} {v : Value} (e : xs[j]? = some v) : ∃ v', ys[j]? = some v' ∧ VR ρ v v' := by
  obtain ⟨hj, e'⟩ := List.getElem?_eq_some_iff.1 e
  have hj2 : j < ys.length := h.1 ▸ hj
  refine ⟨ys[j], List.getElem?_eq_getElem hj2, ?_⟩
  have := h.2 j hj
  simp only [List.getD_eq_getElem?_getD, List.getElem?_eq_getElem hj, List.getElem?_eq_getElem hj2, Option.getD_some] at this
  rw [← e']; exact this
theorem VRL.append {ρ : Rho} {xs ys xs' ys' : List Value} (h : VRL ρ xs ys) (h' : VRL ρ xs' ys') : VRL ρ (xs ++ xs') (ys ++ ys') := by
  induction xs generalizing ys with
  | nil =>
    have : ys = [] := List.eq_nil_of_length_eq_zero (by simpa using h.1.symm)
    subst this; simpa using h'
  | cons x xs ih =>
    cases ys with
    | nil => simp [VRL] at h
    | cons y ys =>
      have hx : VR ρ x y := by simpa using h.2 0 (by simp)
      have hs : VRL ρ xs ys := ⟨by simpa using h.1, fun j hj => by simpa using h.2 (j + 1) (by simpa using hj)⟩
      exact VRL.cons hx (ih hs)
theorem VRL.of_some {ρ : Rho} {xs ys : List Value} (hl : xs.length = ys.length) (h : ∀ (j : Nat) (v v' : Value), xs[j]? = some v → ys[j]? = some v' → VR ρ v v') : VRL ρ xs ys := by
  refine ⟨hl, fun j hj => ?_⟩
  have hj2 : j < ys.length := hl ▸ hj
  simp only [List.getD_eq_getElem?_getD, List.getElem?_eq_getElem hj, List.getElem?_eq_getElem hj2, Option.getD_some]
  exact h j _ _ (List.getElem?_eq_getElem hj) (List.getElem?_eq_getElem hj2)
theorem VRL.take {ρ : Rho} {xs ys : List Value} (h : VRL ρ xs ys) (n : Nat) : VRL ρ (xs.take n) (ys.take n) := by
  refine .of_some (by simp [h.1]) fun j v v' e e' => ?_
  rw [List.getElem?_take] at e e'
  split at e
  · rename_i hlt
    simp only [hlt, if_true] at e'
    obtain ⟨u, hu, hv⟩ := h.sm e
    rw [hu] at e'; injection e' with e'; rw [← e']; exact hv
  · cases e
theorem VRL.drop {ρ : Rho} {xs ys : List Value} (h : VRL ρ xs ys) (n : Nat) : VRL ρ (xs.drop n) (ys.drop n) := by
  refine .of_some (by simp [h.1]) fun j v v' e e' => ?_
  rw [List.getElem?_drop] at e e'
  obtain ⟨u, hu, hv⟩ := h.sm e
  rw [hu] at e'; injection e' with e'; rw [← e']; exact hv

theorem VR.agg_iff {ρ : Rho} {xs xs' : Array Value} : VRL ρ xs.toList xs'.toList → VR ρ (.agg xs) (.agg xs') := fun h =>
  .agg (by simpa using h.1) fun j hj => by simpa [List.getD_eq_getElem?_getD, Array.getD_eq_getD_getElem?] using h.2 j (by simpa using hj)
theorem VR.agg_list {ρ : Rho} {xs : Array Value} {v : Value} (h : VR ρ (.agg xs) v) : ∃ xs', v = .agg xs' ∧ VRL ρ xs.toList xs'.toList := by
  cases h with
  | agg h1 h2 => exact ⟨_, rfl, by simpa using h1, fun j hj => by simpa [List.getD_eq_getElem?_getD, Array.getD_eq_getD_getElem?] using h2 j (by simpa using hj)⟩
theorem VR.tuple_list {ρ : Rho} {xs : Array Value} {v : Value} (h : VR ρ (.tuple xs) v) : ∃ xs', v = .tuple xs' ∧ VRL ρ xs.toList xs'.toList := by
  cases h with
  | tuple h1 h2 => exact ⟨_, rfl, by simpa using h1, fun j hj => by simpa [List.getD_eq_getElem?_getD, Array.getD_eq_getD_getElem?] using h2 j (by simpa using hj)⟩
theorem VR.func_list {ρ : Rho} {f : Fn} {xs ys : Array Value} {v : Value} (h : VR ρ (.func f xs ys) v) : ∃ xs' ys', v = .func f xs' ys' ∧ VRL ρ xs.toList xs'.toList ∧ VRL ρ ys.toList ys'.toList := by
  cases h with
  | func h1 h2 h3 h4 =>
    exact ⟨_, _, rfl, ⟨by simpa using h1, fun j hj => by simpa [List.getD_eq_getElem?_getD, Array.getD_eq_getD_getElem?] using h3 j (by simpa using hj)⟩,
      ⟨by simpa using h2, fun j hj => by simpa [List.getD_eq_getElem?_getD, Array.getD_eq_getD_getElem?] using h4 j (by simpa using hj)⟩⟩
theorem VR.tuple_iff {ρ : Rho} {xs xs' : Array Value} : VRL ρ xs.toList xs'.toList → VR ρ (.tuple xs) (.tuple xs') := fun h =>
  .tuple (by simpa using h.1) fun j hj => by simpa [List.getD_eq_getElem?_getD, Array.getD_eq_getD_getElem?] using h.2 j (by simpa using hj)
theorem VR.func_iff {ρ : Rho} {f : Fn} {xs ys xs' ys' : Array Value} : VRL ρ xs.toList xs'.toList → VRL ρ ys.toList ys'.toList → VR ρ (.func f xs ys) (.func f xs' ys') := fun h g =>
  .func (by simpa using h.1) (by simpa using g.1) (fun j hj => by simpa [List.getD_eq_getElem?_getD, Array.getD_eq_getD_getElem?] using h.2 j (by simpa using hj))
    (fun j hj => by simpa [List.getD_eq_getElem?_getD, Array.getD_eq_getD_getElem?] using g.2 j (by simpa using hj))

theorem VR.cells {ρ : Rho} {v v' : Value} (h : VR ρ v v') : VRL ρ v.cells.toList v'.cells.toList := by
  cases h with
  | agg h1 h2 => obtain ⟨_, e, h⟩ := VR.agg_list (VR.agg (ρ := ρ) h1 h2); injection e with e; subst e; exact h
  | bool b => exact .cons (.bool b) (.nil ρ)
  | int k n => exact .cons (.int k n) (.nil ρ)
  | str s => exact .cons (.str s) (.nil ρ)
  | nilp => exact .cons .nilp (.nil ρ)
  | ptr h => exact .cons (.ptr h) (.nil ρ)
  | nils => exact .cons .nils (.nil ρ)
  | sl h hn hc ha hs => exact .cons (.sl h hn hc ha hs) (.nil ρ)
  | nilf => exact .cons .nilf (.nil ρ)
  | nili => exact .cons .nili (.nil ρ)
  | iface h => exact .cons (.iface h) (.nil ρ)
  | func h1 h2 h3 h4 => exact .cons (.func h1 h2 h3 h4) (.nil ρ)
  | tuple h1 h2 => exact .cons (.tuple h1 h2) (.nil ρ)

/-- The real world bears the abstract heap. -/
structure Sim (ρ : Rho) (h : Heap) (w : World) : Prop where
  dom : ∀ i k, ρ i = some k → i < h.length ∧ k.b < w.heap.size
  obj : ∀ i o, h[i]? = some (some o) → ∃ k rc t fr, ρ i = some k ∧ w.heap[k.b]? = some (.cells rc t fr) ∧ k.own = o.own ∧
    (o.own = true → fr = (0, 0) ∧ rc.size = k.sz ∧ k.es = o.es ∧ k.base + o.cells.length ≤ k.sz) ∧
    ∀ j v, o.cells[j]? = some v → ∃ rv, rc[k.base + j]? = some rv ∧ VR ρ v rv ∧ v.oneCell' = true
  inj : ∀ i j oi oj ki kj, h[i]? = some (some oi) → h[j]? = some (some oj) → ρ i = some ki → ρ j = some kj → oi.own = true → i ≠ j → ki.b ≠ kj.b

/-- The blocks that may be written: those of the touched objects. -/
def TB (ρ : Rho) (h : Heap) (T : List Nat) (b : Nat) : Prop := ∃ i o k, i ∈ T ∧ h[i]? = some (some o) ∧ o.own = true ∧ ρ i = some k ∧ k.b = b

structure Stp (T : List Nat) (ρ : Rho) (h : Heap) (w : World) (ρ' : Rho) (h' : Heap) (w' : World) : Prop where
  ext : Ext ρ ρ'
  os : w'.os = w.os
  tape : w'.tape = w.tape
  output : w'.output = w.output
  size : w.heap.size ≤ w'.heap.size
  len : h.length ≤ h'.length
  frame : ∀ b, b < w.heap.size → ¬ TB ρ h T b → w'.heap[b]? = w.heap[b]?
  same : ∀ i, i < h.length → i ∉ T → h'[i]? = h[i]?
  live : ∀ i o', i < h.length → h'[i]? = some (some o') → ∃ o, h[i]? = some (some o) ∧ o.own = o'.own
  back : ∀ i o k, h.length ≤ i → h'[i]? = some (some o) → o.own = true → ρ' i = some k → w.heap.size ≤ k.b ∨ TB ρ h T k.b

theorem Stp.refl (T : List Nat) (ρ : Rho) (h : Heap) (w : World) : Stp T ρ h w ρ h w :=
  ⟨.refl ρ, rfl, rfl, rfl, Nat.le_refl _, Nat.le_refl _, fun _ _ _ => rfl, fun _ _ _ => rfl, fun _ o _ e => ⟨o, e, rfl⟩, fun i o k hi e => by
    rw [List.getElem?_eq_none hi] at e; cases e⟩

theorem TB.mono {ρ : Rho} {h : Heap} {T T' : List Nat} {b : Nat} (hs : ∀ i ∈ T, i ∈ T') (x : TB ρ h T b) : TB ρ h T' b := by
  obtain ⟨i, o, k, hi, r⟩ := x
  exact ⟨i, o, k, hs i hi, r⟩

theorem Stp.trans {T T2 : List Nat} {ρ0 ρ1 ρ2 : Rho} {h0 h1 h2 : Heap} {w0 w1 w2 : World} (s0 : Sim ρ0 h0 w0) (s1 : Sim ρ1 h1 w1)
    (a : Stp T ρ0 h0 w0 ρ1 h1 w1) (b : Stp T2 ρ1 h1 w1 ρ2 h2 w2) (hm : ∀ i ∈ T2, i ∈ T ∨ h0.length ≤ i) : Stp T ρ0 h0 w0 ρ2 h2 w2 := by
  have key : ∀ b, b < w0.heap.size → TB ρ1 h1 T2 b → TB ρ0 h0 T b := by
    rintro b hb ⟨i, o, k, hi, hl, ho, hk, rfl⟩
    by_cases hlt : i < h0.length
    · obtain ⟨o0, e0, hoo⟩ := a.live i o hlt hl
      obtain ⟨k0, _, _, _, hk0, _⟩ := s0.obj i o0 e0
      have := a.ext _ _ hk0
      rw [hk] at this; injection this with this; subst this
      rcases hm i hi with h | h
      · exact ⟨i, o0, k, h, e0, by rw [hoo]; exact ho, hk0, rfl⟩
      · omega
    · rcases a.back i o k (by omega) hl ho hk with h | h
      · omega
      · exact h
  refine ⟨a.ext.trans b.ext, b.os.trans a.os, b.tape.trans a.tape, b.output.trans a.output, Nat.le_trans a.size b.size, Nat.le_trans a.len b.len, ?_, ?_, ?_, ?_⟩
  · intro bl hb hn
    rw [b.frame bl (Nat.lt_of_lt_of_le hb a.size) (fun hx => hn (key bl hb hx)), a.frame bl hb hn]
  · intro i hi hn
    rw [b.same i (Nat.lt_of_lt_of_le hi a.len) (fun h2 => (hm i h2).elim hn (fun h3 => by omega)), a.same i hi hn]
  · intro i o' hi e
    obtain ⟨o1, e1, h1⟩ := b.live i o' (Nat.lt_of_lt_of_le hi a.len) e
    obtain ⟨o0, e0, h0⟩ := a.live i o1 hi e1
    exact ⟨o0, e0, h0.trans h1⟩
  · intro i o k hi e ho hk
    by_cases hlt : i < h1.length
    · obtain ⟨o1, e1, ho1⟩ := b.live i o hlt e
      obtain ⟨k1, _, _, _, hk1, _⟩ := s1.obj i o1 e1
      have := b.ext _ _ hk1
      rw [hk] at this; injection this with this; subst this
      exact a.back i o1 k hi e1 (by rw [ho1]; exact ho) hk1
    · rcases b.back i o k (by omega) e ho hk with h | h
      · exact .inl (Nat.le_trans a.size h)
      · by_cases hb : k.b < w0.heap.size
        · exact .inr (key _ hb h)
        · exact .inl (by omega)

theorem Stp.mono {T T' : List Nat} {ρ ρ' : Rho} {h h' : Heap} {w w' : World} (s : Stp T ρ h w ρ' h' w') (hs : ∀ i ∈ T, i ∈ T') : Stp T' ρ h w ρ' h' w' :=
  { s with frame := fun b hb hn => s.frame b hb fun x => hn (x.mono hs), same := fun i hi hn => s.same i hi fun x => hn (hs i x), back := fun i o k hi e ho hk => (s.back i o k hi e ho hk).imp id (·.mono hs) }

/-- A draw of the tape changes nothing that matters. -/
theorem Sim.drew {ρ : Rho} {h : Heap} {w : World} (s : Sim ρ h w) (d : Nat) : Sim ρ h { w with drawn := d } := ⟨s.dom, s.obj, s.inj⟩
theorem Stp.drew (T : List Nat) (ρ : Rho) (h : Heap) (w : World) (d : Nat) : Stp T ρ h w ρ h { w with drawn := d } :=
  ⟨.refl ρ, rfl, rfl, rfl, Nat.le_refl _, Nat.le_refl _, fun _ _ _ => rfl, fun _ _ _ => rfl, fun _ o _ e => ⟨o, e, rfl⟩, fun i o k hi e => by
    rw [List.getElem?_eq_none hi] at e; cases e⟩

end Go.Ab
