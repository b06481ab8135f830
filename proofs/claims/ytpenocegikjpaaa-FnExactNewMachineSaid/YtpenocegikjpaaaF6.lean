/- Joined texts. -/
import Derived.Test.YtpenocegikjpaaaF5
/- A call on closed values, told over no heap, holds over every heap. -/
set_option linter.unusedSimpArgs false
set_option linter.unusedVariables false
namespace Go.Ab
theorem AC_lift {P : Program} {f : FuncId} {args : List Value} {v : Value} (ha : AC P f args [] [] fun r _ => r = v) (hc : ∀ x ∈ args, closedB x = true) (hv : closedB v = true) (h : Heap) : AC P f args h [] fun r h' => r = v ∧ h' = h := by
  refine ⟨ha.1, fun ρ w rargs hs hargs => ?_⟩
  have he : VRL (fun _ => none) args rargs.toList := by
    refine .of_some hargs.1 fun j x x' e e' => ?_
    obtain ⟨y, hy, r⟩ := hargs.sm e
    rw [e'] at hy; injection hy with hy; subst hy
    have hx := hc x (List.mem_of_getElem? e)
    rw [closed_eq hx r]
    exact closed_refl hx
  refine (ha.2 (fun _ => none) w rargs (Sim.empty w) he).mono ?_
  rintro e w' ⟨rv, r, h', ρ', he, rfl, hvr, hsim, hst⟩
  have e1 := closed_eq hv hvr
  subst e1
  have hb : ∀ b, b < w.heap.size → w'.heap[b]? = w.heap[b]? := fun b hb => hst.frame b hb (by rintro ⟨i, o, k, hi, _⟩; cases hi)
  refine ⟨_, _, h, ρ, he, ⟨rfl, rfl⟩, closed_refl hv, ⟨?_, ?_, hs.inj⟩, ⟨.refl ρ, hst.os, hst.tape, hst.output, hst.size, Nat.le_refl _, fun b hb' _ => hb b hb', fun _ _ _ => rfl, fun _ o' _ e => ⟨o', e, rfl⟩, fun i o k hi e => by rw [List.getElem?_eq_none hi] at e; cases e⟩⟩
  · intro i k hk
    have := hs.dom i k hk
    exact ⟨this.1, Nat.lt_of_lt_of_le this.2 hst.size⟩
  · intro i o e
    obtain ⟨k, rc, t, fr, hk, hh, ho, hown, hc'⟩ := hs.obj i o e
    exact ⟨k, rc, t, fr, hk, by rw [hb _ (hs.dom i k hk).2]; exact hh, ho, hown, hc'⟩
end Go.Ab

/- Rows copied into rows of the program's own. -/
set_option linter.unusedSimpArgs false
set_option linter.unusedVariables false
namespace Go.Ab
section
variable {α : Type} {E : Enc α} {h : Heap}
/-- copy(row[k:], ..), the destination being told by its address. -/
theorem cpy_core {i o n c c' k : Nat} {l m : List α} {L : List Nat} {x : Value} (r : RL true E h (.slice (some ⟨i, o, none⟩) n c) l L) (s : srcA h E.es x = some (m.length, E.cs m)) (hm : oneAll (E.cs m) = true) (hk : k ≤ l.length) :
    ∃ h', cpyV E.es (.slice (some ⟨i, o + k * E.es, none⟩) (l.length - k) c') x h = some ([i], .int .i64 (min m.length (l.length - k) : Nat), h') ∧ RL true E h' (.slice (some ⟨i, o, none⟩) n c) (l.take k ++ (m.take (min m.length (l.length - k)) ++ l.drop (k + min m.length (l.length - k)))) L ∧ Kp L h h' ∧ L = [i] ∧ h'.length = h.length := by
  rcases r with ⟨e, _, _⟩ | ⟨i', o', c1, ob, e, rfl, h3, h4, h5, h6, h7⟩
  · cases e
  · injection e with e1 e2 e3
    injection e1 with e1
    injection e1 with e1 e4 _
    subst e1; subst e4; subst e2; subst e3
    obtain ⟨ho, hes⟩ := h7 rfl
    generalize hj : min m.length (l.length - k) = j
    have hjl : k + j ≤ l.length := by omega
    have hjm : j ≤ m.length := by omega
    have hs : k * E.es + j * E.es ≤ l.length * E.es := by rw [← Nat.add_mul]; exact Nat.mul_le_mul_right _ hjl
    have hcs : (E.cs m).take (j * E.es) = E.cs (m.take j) := Enc.cs_take m j
    have hxl : (E.cs (m.take j)).length = j * E.es := by rw [Enc.cs_len, List.length_take, Nat.min_eq_left hjm]
    have hmin : Nat.min m.length (l.length - k) = j := hj
    refine ⟨_, by simp only [cpyV, s, Option.bind_some, h4, hmin]; rw [if_pos ⟨ho, hes, hm, by omega⟩, hcs], .inr ⟨i, o, c, { ob with cells := ob.cells.take (o + k * E.es) ++ (E.cs (m.take j) ++ ob.cells.drop (o + k * E.es + j * E.es)) }, ?_, rfl, ?_, hob_set (hob_lt h4), ?_, ?_, fun _ => ⟨ho, hes⟩⟩, Kp.set _ _ _, rfl, by simp⟩
    · congr 1; simp; omega
    · simp; omega
    · have hl2 : (l.take k ++ (m.take j ++ l.drop (k + j))).length = l.length := by simp; omega
      rw [hl2]; simp [hxl]; omega
    · have hl2 : (l.take k ++ (m.take j ++ l.drop (k + j))).length = l.length := by simp; omega
      rw [hl2]
      have := cut (C := ob.cells) (xs := E.cs (m.take j)) (o := o) (p := k * E.es) (n := j * E.es) (N := l.length * E.es) hs h5 hxl
      rw [this, h6, Enc.cs_append, Enc.cs_append, Enc.cs_take, ← Nat.add_mul, Enc.cs_drop]
end
end Go.Ab

/- Contracts: a magazine filled (the reference's). -/
set_option linter.unusedSimpArgs false
set_option linter.unusedVariables false
set_option maxHeartbeats 1000000
namespace Go.Proofs.Ytpenocegikjpaaa
open Go.Ab
/-- The first q channels are full. -/
def fillQ (codes : List Int) (c q : Nat) : List (List Mx) := codes.mapIdx fun i s => if i < q then List.replicate c ((i : Int), s) else []
theorem fillQ_len (codes : List Int) (c q : Nat) : (fillQ codes c q).length = codes.length := by simp [fillQ]
theorem fillQ_at {codes : List Int} {c q : Nat} (hq : q < codes.length) : (fillQ codes c q)[q]'(by rw [fillQ_len]; exact hq) = [] := by simp [fillQ]
theorem fillQ_zero (codes : List Int) (c : Nat) : fillQ codes c 0 = List.replicate codes.length [] := by
  apply List.ext_getElem?
  intro i
  simp [fillQ, List.getElem?_mapIdx, List.getElem?_replicate]
  by_cases hi : i < codes.length
  · simp [hi]
  · simp [hi]
theorem fillQ_step {codes : List Int} {c q : Nat} (hq : q < codes.length) : (fillQ codes c q).set q (List.replicate c ((q : Int), codes[q])) = fillQ codes c (q + 1) := by
  apply List.ext_getElem?
  intro i
  rw [List.getElem?_set]
  by_cases h1 : q = i
  · subst h1
    rw [if_pos rfl, if_pos (by rw [fillQ_len]; exact hq)]
    simp [fillQ, List.getElem?_mapIdx, hq]
  · rw [if_neg h1]
    simp only [fillQ, List.getElem?_mapIdx]
    by_cases h2 : i < q
    · have h3 : i < q + 1 := by omega
      simp only [h2, h3, if_true]
    · by_cases hi : i < codes.length
      · simp [hi, h2, show ¬ i < q + 1 by omega]
      · simp [hi]
def fillM (F : Fnt) (n : Int) : Option (List (List Mx)) := if fontB F = true ∧ 0 ≤ n ∧ n ≤ 20 then some (fillQ F.codes n.toNat F.codes.length) else none
def FillR (n : Nat) (o : Option (List (List Mx))) (r : Value) (h' : Heap) : Prop := match o with
  | none => r = .tuple #[.slice none 0 0, .bool false]
  | some m' => ∃ v, r = .tuple #[v, .bool true] ∧ NX n h' v m'
theorem nils_rls (h : Heap) (n : Nat) : RLs true h (List.replicate n (.slice none 0 0)) (List.replicate n []) (List.replicate n []) := by
  induction n with
  | zero => exact .nil
  | succ n ih => exact .cons .nil ih
theorem flat_nils (n : Nat) : (List.replicate n ([] : List Nat)).flatten = [] := by
  induction n with
  | zero => rfl
  | succ n ih => rw [List.replicate_succ, List.flatten_cons, ih]; rfl
section
variable {w : Bool} {h : Heap} {F : Fnt} {vW vC : Value} {LW LC : List Nat}
theorem specFill_ac (r : RF w h F vW vC LW LC) (n : Int) : AC Try.prog 97 [fval F vW vC, .int .i64 n] h [] fun r h' => FillR h.length (fillM F n) r h' := by
  refine ac97 (by simp [p97]) ?_
  simp -implicitDefEqProofs [p97, fval, fcells, r.rW.one, r.rC.one]
  refine call1 (specFontOk_ac (r.kp0 (.app _ _ _))) ?_
  cases hF : fontB F
  · have hn : fillM F n = none := if_neg fun ⟨a, _⟩ => by rw [hF] at a; cases a
    rw [hn]
    simp -implicitDefEqProofs [resA_2, FillR]
  obtain ⟨n1, n2, n3, n4⟩ := fontB_n hF
  simp -implicitDefEqProofs
  refine call1 (l1In_ac _ _ _) ?_
  cases hb : inB n 0 20
  · have hn : fillM F n = none := if_neg fun ⟨_, a⟩ => by simp [inB] at hb; omega
    rw [hn]
    simp -implicitDefEqProofs [resA_2, FillR]
  have hb' : 0 ≤ n ∧ n ≤ 20 := by simp [inB] at hb; omega
  have hn : fillM F n = some (fillQ F.codes n.toNat F.codes.length) := if_pos ⟨hF, hb'⟩
  rw [hn]
  obtain ⟨c, rfl⟩ : ∃ c : Nat, n = c := ⟨n.toNat, by omega⟩
  rw [Int.toNat_natCast]
  have hnl : (F.letters.size : Int) = F.n := rfl
  have r1 := r.kp0 (.app [] h [some ⟨[.string F.letters, vW, vC], 3, true⟩])
  simp -implicitDefEqProofs [mksV, hnl, r1.rC.len]
  rw [if_pos (by omega)]
  have z : reps [Value.slice none 0 0] F.n = List.replicate F.n (.slice none 0 0) := by
    have := flat_reps (E := EV) (z := [Value.slice none 0 0]) (a := .slice none 0 0) rfl F.n
    simpa using this
  have nx0 : NX h.length (h ++ [some ⟨[.string F.letters, vW, vC], 3, true⟩, some ⟨List.replicate F.n (.slice none 0 0), 1, true⟩]) (.slice (some ⟨h.length + 1, 0, none⟩) F.n F.n) (fillQ F.codes c 0) := by
    have := RL.newN (E := EV) (h := h ++ [some ⟨[.string F.letters, vW, vC], 3, true⟩]) (l := List.replicate F.n (.slice none 0 0)) (c := F.n) (n := F.n) (by simp) (by simp; unfold big; omega)
    simp at this
    refine ⟨[h.length + 1], ⟨_, [h.length + 1], List.replicate F.codes.length [], this, ?_, by rw [flat_nils]; rfl⟩, by simp, by simp⟩
    rw [fillQ_zero, n4]
    exact nils_rls _ _
  have rC0 := r.rC.kp0 (.app [] h [some ⟨[.string F.letters, vW, vC], 3, true⟩, some ⟨List.replicate F.n (.slice none 0 0), 1, true⟩])
  have kb : Kp [] h (h ++ [some ⟨[.string F.letters, vW, vC], 3, true⟩, some ⟨List.replicate F.n (.slice none 0 0), 1, true⟩]) := .app [] h _
  have c2 : hc1 (h ++ [some ⟨[.string F.letters, vW, vC], 3, true⟩, some ⟨List.replicate F.n (.slice none 0 0), 1, true⟩]) h.length 2 = some vC := by simp
  have oC := r.rC.lt
  rw [z]
  generalize hv : Value.slice (some ⟨h.length + 1, 0, none⟩) F.n F.n = v at nx0 ⊢
  generalize h ++ [some (⟨[.string F.letters, vW, vC], 3, true⟩ : AObj), some ⟨List.replicate F.n (.slice none 0 0), 1, true⟩] = g at nx0 rC0 kb c2 ⊢
  simp -implicitDefEqProofs [c2, rC0.len]
  refine range r97_1 kb F.codes.length rC0.bd (by simp) (by simp) (fun q s h1 => NX h.length h1 v (fillQ F.codes c q) ∧ RL w EI h1 vC F.codes LC) ⟨nx0, rC0⟩ ?_ ?_
  · rintro q s h1 hq hi ⟨nx, rC⟩ kp
    obtain ⟨i, o, ea, la, _⟩ := rC.atI hq
    simp -implicitDefEqProofs [b97_1, L97_1, hi, ea, la]
    have hlq : q < (fillQ F.codes c q).length := by rw [fillQ_len]; exact hq
    refine forUp f97_0 kp c (by unfold big; omega) (by simp) (fun j s h2 => NX h.length h2 v ((fillQ F.codes c q).set q (List.replicate j ((q : Int), F.codes[q]))) ∧ RL w EI h2 vC F.codes LC) ⟨?_, rC⟩ ?_ ?_ ?_
    · have : (fillQ F.codes c q).set q (List.replicate 0 ((q : Int), F.codes[q])) = fillQ F.codes c q := by
        have := fillQ_at (c := c) hq
        rw [List.replicate_zero, ← this, List.set_getElem_self]
      rw [this]; exact nx
    · rintro j s' h2 hj hij ⟨nxj, rCj⟩ kp2
      simp -implicitDefEqProofs [C97_0, L97_0, L97_1, K97_0, hij]
    · rintro j s' s2 h2 hj hij ⟨nxj, rCj⟩ kp2
      obtain ⟨i5, p5, u5, L5, eb, lb, ru, gu, gi, il, inl, put⟩ := nxj.put (k := q) (by simpa using hlq)
      have hru : ((fillQ F.codes c q).set q (List.replicate j ((q : Int), F.codes[q])))[q]'(by simpa using hlq) = List.replicate j ((q : Int), F.codes[q]) := List.getElem_set_self _
      rw [hru] at ru
      obtain ⟨T, v', h3, L3, e1, q1, k1, t1, l1, _, _⟩ := ru.app1 (by_ := 16) ((q : Int), F.codes[q]) (by simp; unfold big; omega) (by omega) EX_one
      simp only [EX_es, EX_e] at e1
      obtain ⟨h4, e2, nx4, k4⟩ := put h3 v' _ L3 k1 q1 (fun i hi => .inr (l1 i hi))
      have hset : ((fillQ F.codes c q).set q (List.replicate j ((q : Int), F.codes[q]))).set q (List.replicate j ((q : Int), F.codes[q]) ++ [((q : Int), F.codes[q])]) = (fillQ F.codes c q).set q (List.replicate (j + 1) ((q : Int), F.codes[q])) := by
        rw [List.set_set, List.replicate_succ']
      rw [hset] at nx4
      have mtT : (∀ i, i ∈ T → MT [] h i) = True := eq_true (fun i hi => .inr (gu i (t1 i hi)))
      have mi : MT [] h i5 := .inr gi
      simp -implicitDefEqProofs [b97_0, L97_0, L97_1, K97_0, hij, eb, lb, bldV, fillA, e1, mtT, e2, mi]
      exact ⟨nx4, (rCj.kp k1 fun i hi hn => by have := oC i hi; have := gu i hn; omega).kp k4 fun i hi hn => by have := oC i hi; simp at hn; omega⟩
    · rintro s' s2 h2 hij ⟨nxj, rCj⟩ kp2
      rw [fillQ_step hq] at nxj
      simp -implicitDefEqProofs [L97_0, L97_1, K97_0]
      exact ⟨nxj, rCj⟩
  · rintro s h1 hi ⟨nx, rC⟩ kp
    simp -implicitDefEqProofs [L97_1, resA_2, FillR]
    exact nx
end
end Go.Proofs.Ytpenocegikjpaaa

/- Contracts: math/bits.Mul of one and a small number (by a reckoning), slices.Repeat of a row of one. -/
set_option linter.unusedSimpArgs false
set_option linter.unusedVariables false
set_option maxHeartbeats 1000000
namespace Go.Proofs.Ytpenocegikjpaaa
open Go.Ab
section
set_option maxRecDepth 100000
noncomputable def mulTab : List (FuncId × PFn) := [(155, p155), (164, p164)]
theorem mulTab_ok : TabOk Try.prog (tabOf mulTab) := tabOf_ok (by
  intro x hx
  simp only [mulTab, List.mem_cons, List.not_mem_nil, or_false] at hx
  rcases hx with rfl | rfl
  · exact ⟨_, Try.func155, by decide +kernel, ok155⟩
  · exact ⟨_, Try.func164, by decide +kernel, ok164⟩)
theorem mulRan : (List.range 21).map (fun (n : Nat) => (exF Try.prog (tabOf mulTab) 4 155 [.int .u64 1, .int .u64 n] Hp.emp).map (fun r => (r.1, r.2.1))) = (List.range 21).map (fun (n : Nat) => some ([], .tuple #[.int .u64 0, .int .u64 n])) := by kernel_rfl
theorem mul_ac {h : Heap} {n : Nat} (hn : n ≤ 20) : AC Try.prog 155 [.int .u64 1, .int .u64 n] h [] fun r h' => r = .tuple #[.int .u64 0, .int .u64 n] ∧ h' = h := by
  have e := congrArg (fun l => l[n]?) mulRan
  simp only [List.getElem?_map, List.getElem?_range (show n < 21 by omega), Option.map_some, Option.some.injEq] at e
  rw [Option.map_eq_some_iff] at e
  obtain ⟨⟨T, v, h'⟩, h1, h2⟩ := e
  simp only [Prod.mk.injEq] at h2
  obtain ⟨rfl, rfl⟩ := h2
  have ha := exF_sound mixed mulTab_ok 4 _ _ _ _ _ _ h1
  rw [Hp.emp_l] at ha
  exact AC_lift (AC_mono ha fun r h' q => q.1) (by simp [closedB, atomB]) (by simp [closedB, atomB]) h
end
/-- int to uint and back. -/
theorem cnvIU {h : Heap} {n : Nat} (hn : n ≤ 1000) : cnvV Try.prog 3 152 (.int .i64 n) h = some ([], .int .u64 n, h) := by
  have hw : IntKind.wrap .u64 (n : Int) = n := by unfold IntKind.wrap; simp [IntKind.bits, IntKind.signed]; omega
  have : pvc Try.prog (convert 3 152 (.int .i64 n)) = some (.int .u64 n) := by
    simp [pvc, convert, underlying, program, bind, Sem.bind, pv, Try.underlying152, Try.underlying3, pure, Conv.intToInt, hw, closedB, atomB]
  unfold cnvV
  rw [this]
  simp [closedB, atomB]
theorem cnvUI {h : Heap} {n : Nat} (hn : n ≤ 1000) : cnvV Try.prog 152 3 (.int .u64 n) h = some ([], .int .i64 n, h) := by
  have hw : IntKind.wrap .i64 (n : Int) = n := wrap_in (by omega)
  have : pvc Try.prog (convert 152 3 (.int .u64 n)) = some (.int .i64 n) := by
    simp [pvc, convert, underlying, program, bind, Sem.bind, pv, Try.underlying152, Try.underlying3, pure, Conv.intToInt, hw, closedB, atomB]
  unfold cnvV
  rw [this]
  simp [closedB, atomB]
theorem repeatX_ac {w : Bool} {h : Heap} {v : Value} {x : Mx} {L : List Nat} (r : RL w EX h v [x] L) {n : Nat} (hn : n ≤ 20) : AC Try.prog 136 [v, .int .i64 n] h [] fun r h' => ∃ L', RL true EX h' r (List.replicate n x) L' ∧ L'.Nodup ∧ ∀ i ∈ L', h.length ≤ i := by
  refine ac136 (by simp [p136]) ?_
  have hlen : ∀ h', lenV v h' = some ([], .int .i64 1, h') := fun h' => by have := r.len h'; simpa using this
  have c1 : ∀ h', cnvV Try.prog 3 152 (.int .i64 1) h' = some ([], .int .u64 1, h') := fun h' => cnvIU (n := 1) (by omega)
  have hneg : ¬ ((n : Int) < 0) := by omega
  simp -implicitDefEqProofs [p136, hneg, hlen, c1, cnvIU (show n ≤ 1000 by omega)]
  refine call1 (mul_ac hn) ?_
  simp -implicitDefEqProofs [cnvUI (show n ≤ 1000 by omega), mksV, show ¬ (9223372036854775807 : Int) < n by omega]
  rw [if_pos (by omega)]
  have z : reps [Value.int .i64 0, Value.int .i64 0] n = EX.cs (List.replicate n (0, 0)) := flat_reps (E := EX) (a := (0, 0)) rfl _
  rw [z]
  have k0 : Kp [] h (h ++ [some ⟨EX.cs (List.replicate n (0, 0)), 2, true⟩]) := .app _ _ _
  have r0 : RL true EX (h ++ [some ⟨EX.cs (List.replicate n (0, 0)), 2, true⟩]) (.slice (some ⟨h.length, 0, none⟩) n n) (List.replicate n (0, 0)) [h.length] := by
    have := RL.newN (E := EX) (h := h) (l := List.replicate n (0, 0)) (c := n) (n := n) (by simp) (by simp; unfold big; omega)
    simpa using this
  have rx := r.kp0 k0
  have mh : MT [] h h.length := .inr (Nat.le_refl _)
  generalize h ++ [some (⟨EX.cs (List.replicate n (0, 0)), 2, true⟩ : AObj)] = g at k0 r0 rx ⊢
  obtain ⟨g1, e1, r1, k1, _, n1⟩ := cpy_core (k := 0) (c' := n) r0 rx.src (by simp) (by omega)
  simp only [EX_es, Nat.zero_mul, Nat.zero_add, List.length_replicate, Nat.sub_zero, List.take_zero, List.nil_append, List.length_cons, List.length_nil] at e1 r1
  have e1' : cpyV 2 (.slice (some ⟨h.length, 0, none⟩) n n) v g = some ([h.length], .int .i64 (min 1 n : Nat), g1) := by simpa using e1
  simp -implicitDefEqProofs [e1', mh]
  have hr1 : List.take (min 1 n) [x] ++ List.drop (min 1 n) (List.replicate n ((0, 0) : Mx)) = List.replicate (min 1 n) x ++ List.replicate (n - min 1 n) (0, 0) := by
    rcases Nat.eq_zero_or_pos n with h0 | h0
    · subst h0; simp
    · rw [Nat.min_eq_left h0]; simp
  rw [hr1] at r1
  have kg1 : Kp [] h g1 := k0.trans k1 (by simp)
  refine loopK g136_0 kg1 (fun c s h1 => ∃ k : Nat, c = n - k ∧ k ≤ n ∧ (1 ≤ n → 1 ≤ k) ∧ s 8 = .int .i64 k ∧ RL true EX h1 (.slice (some ⟨h.length, 0, none⟩) n n) (List.replicate k x ++ List.replicate (n - k) (0, 0)) [h.length]) (n - min 1 n)
    ⟨min 1 n, rfl, by omega, by omega, by simp, r1⟩ ?_
  rintro c s h1 ⟨k, rfl, hk, hk1, h8, rr⟩ kp
  by_cases hkn : k = n
  · subst hkn
    rw [Nat.sub_self, List.replicate_zero, List.append_nil] at rr
    simp -implicitDefEqProofs [l136_0, a136_0, h8]
    exact ⟨_, rr, rr.nd, by simp⟩
  have hlt : k < n := by omega
  obtain ⟨ob, hb1, hb2, hb3⟩ : ∃ ob, hob h1 h.length = some ob ∧ ob.own = true ∧ ob.es = 2 := by
    rcases rr with ⟨e, _, _⟩ | ⟨i', o', c1, ob, e, eL, h3, h4, h5, h6, h7⟩
    · cases e
    · injection e with e1 e2 e3
      injection e1 with e1
      injection e1 with e1 _ _
      subst e1
      exact ⟨ob, h4, h7 rfl⟩
  have es1 : slV 2 (.slice (some ⟨h.length, 0, none⟩) n n) (some (.int .i64 k)) none none h1 = some ([], .slice (some ⟨h.length, k * 2, none⟩) (n - k) (n - k), h1) := by
    simp only [slV, hb1, Option.bind_some, bndA_int, bndA_none]
    rw [if_pos ⟨fun _ => hb3, by omega, by omega, by omega⟩]
    simp
  obtain ⟨v2, es2, rs2⟩ := rr.sub rr.fit (lo := none) (hi := some (.int .i64 k)) (a := 0) (b := k) rfl rfl (by omega) (by simp)
  have hm : List.take (k - 0) (List.drop 0 (List.replicate k x ++ List.replicate (n - k) ((0, 0) : Mx))) = List.replicate k x := by simp
  rw [hm] at rs2
  simp only [EX_es] at es2
  have hll : (List.replicate k x ++ List.replicate (n - k) ((0, 0) : Mx)).length = n := by simp; omega
  obtain ⟨g2, e2, r2, k2, _, n2⟩ := cpy_core (k := k) (c' := n - k) rr rs2.src (cs_one fun a _ => EX_one a) (by rw [hll]; omega)
  rw [hll] at e2 r2
  simp only [EX_es, Nat.zero_add, List.length_replicate] at e2 r2
  generalize hj : min k (n - k) = j at e2 r2
  have hfin : List.take k (List.replicate k x ++ List.replicate (n - k) ((0, 0) : Mx)) ++ (List.take j (List.replicate k x) ++ List.drop (k + j) (List.replicate k x ++ List.replicate (n - k) (0, 0))) = List.replicate (k + j) x ++ List.replicate (n - (k + j)) (0, 0) := by
    have t1 : List.take k (List.replicate k x ++ List.replicate (n - k) ((0, 0) : Mx)) = List.replicate k x := by
      rw [List.take_append_of_le_length (by simp), List.take_of_length_le (by simp)]
    have t2 : List.take j (List.replicate k x) = List.replicate j x := by rw [List.take_replicate, Nat.min_eq_left (by omega)]
    have t3 : List.drop (k + j) (List.replicate k x ++ List.replicate (n - k) ((0, 0) : Mx)) = List.replicate (n - (k + j)) (0, 0) := by
      rw [List.drop_append, List.drop_of_length_le (by simp), List.nil_append, List.drop_replicate, List.length_replicate]
      congr 1; omega
    rw [t1, t2, t3, ← List.append_assoc, List.replicate_append_replicate]
  rw [hfin] at r2
  have w1 : IntKind.wrap .i64 ((k : Int) + (j : Nat)) = ((k + j : Nat) : Int) := by rw [wrap_in (by omega)]; omega
  simp -implicitDefEqProofs [l136_0, a136_0, h8, hlt, es1, es2, e2, mh, w1]
  exact ⟨n - (k + j), by omega, k + j, rfl, by omega, by omega, by simp, r2⟩
end Go.Proofs.Ytpenocegikjpaaa

/- Contracts: a magazine filled (the program's). -/
set_option linter.unusedSimpArgs false
set_option linter.unusedVariables false
set_option maxHeartbeats 1000000
namespace Go.Proofs.Ytpenocegikjpaaa
open Go.Ab
theorem fillQ_full {codes : List Int} {c q : Nat} (hq : q < codes.length) : (fillQ codes c codes.length)[q]'(by rw [fillQ_len]; exact hq) = List.replicate c ((q : Int), codes[q]) := by simp [fillQ, hq]
section
variable {w : Bool} {h : Heap} {F : Fnt} {vW vC : Value} {LW LC : List Nat}
theorem implFill_ac (r : RF w h F vW vC LW LC) (n : Int) : AC Try.prog 100 [fval F vW vC, .int .i64 n] h [] fun r h' => FillR h.length (fillM F n) r h' := by
  refine ac100 (by simp [p100]) ?_
  simp -implicitDefEqProofs [p100, fval, fcells, r.rW.one, r.rC.one]
  refine call1 (implFontOk_ac (r.kp0 (.app _ _ _))) ?_
  cases hF : fontB F
  · have hn : fillM F n = none := if_neg fun ⟨a, _⟩ => by rw [hF] at a; cases a
    rw [hn]
    simp -implicitDefEqProofs [resA_2, FillR]
  obtain ⟨n1, n2, n3, n4⟩ := fontB_n hF
  by_cases a0 : n < 0
  · have hn : fillM F n = none := if_neg fun ⟨_, a⟩ => by omega
    rw [hn]
    simp -implicitDefEqProofs [a0, resA_2, FillR]
  by_cases a1 : 20 < n
  · have hn : fillM F n = none := if_neg fun ⟨_, a⟩ => by omega
    rw [hn]
    simp -implicitDefEqProofs [a0, a1, resA_2, FillR]
  have hb' : 0 ≤ n ∧ n ≤ 20 := by omega
  have hn : fillM F n = some (fillQ F.codes n.toNat F.codes.length) := if_pos ⟨hF, hb'⟩
  rw [hn]
  obtain ⟨c, rfl⟩ : ∃ c : Nat, n = c := ⟨n.toNat, by omega⟩
  rw [Int.toNat_natCast]
  have r1 := r.kp0 (.app [] h [some ⟨[.string F.letters, vW, vC], 3, true⟩])
  have nx0 : NX h.length (h ++ [some ⟨[.string F.letters, vW, vC], 3, true⟩, some ⟨[], 1, true⟩]) (.slice (some ⟨h.length + 1, 0, none⟩) 0 0) [] := by
    have := NX.nilV (n := h.length) (h := h ++ [some ⟨[.string F.letters, vW, vC], 3, true⟩]) (by simp)
    simpa using this
  have rC0 := r.rC.kp0 (.app [] h [some ⟨[.string F.letters, vW, vC], 3, true⟩, some ⟨[], 1, true⟩])
  have kb : Kp [] h (h ++ [some ⟨[.string F.letters, vW, vC], 3, true⟩, some ⟨[], 1, true⟩]) := .app [] h _
  have oC := r.rC.lt
  simp -implicitDefEqProofs [a0, show ¬ (20 : Int) < (c : Int) by omega, bslV, rC0.len]
  have mh : MT [] h (h.length + 1) := .inr (by omega)
  refine range r100_0 kb F.codes.length rC0.bd (by simp) (by simp) (fun q s h1 => NX h.length h1 (s 6) ((fillQ F.codes c F.codes.length).take q) ∧ RL w EI h1 vC F.codes LC) ⟨by simpa using nx0, rC0⟩ ?_ ?_
  · rintro q s h1 hq hi ⟨nx, rC⟩ kp
    obtain ⟨i, o, ea, la, _⟩ := rC.atI hq
    have hge := kp.1
    have hlq : q < (fillQ F.codes c F.codes.length).length := by rw [fillQ_len]; exact hq
    generalize hs6 : s 6 = v6 at nx
    have rx : RL true EX (h1 ++ [some ⟨[.int .i64 q, .int .i64 F.codes[q]], 2, true⟩]) (.slice (some ⟨h1.length, 0, none⟩) 1 1) [((q : Int), F.codes[q])] [h1.length] := by
      have := RL.newN (E := EX) (h := h1) (l := [((q : Int), F.codes[q])]) (c := 1) (n := 1) rfl (by simp [big])
      simpa using this
    have kx : Kp [] h1 (h1 ++ [some ⟨[.int .i64 q, .int .i64 F.codes[q]], 2, true⟩]) := .app _ _ _
    have lx : (h1 ++ [some (⟨[.int .i64 q, .int .i64 F.codes[q]], 2, true⟩ : AObj)]).length = h1.length + 1 := by simp
    simp -implicitDefEqProofs [b100_0, L100_0, hi, hs6, ea, la, bldV, fillA]
    refine call0 (repeatX_ac rx (by omega)) ?_
    rintro u h2 ⟨Lu, ru, _, gu⟩ k2
    have k12 : Kp [] h1 h2 := kx.trans k2 (by simp)
    obtain ⟨T, v', h3, U, e1, q1, t, k3, hu⟩ := nx.push k12 ru (fun i hi => by have := gu i hi; omega) (by rw [List.length_take]; unfold big; omega) hge
    have hfull := fillQ_full (c := c) hq
    rw [← hfull, ← take_snoc hlq] at q1
    have hsz : u.cells.size = 1 := by rw [← Array.length_toList, ru.cells]; rfl
    have mtT : (∀ i, i ∈ T → MT [] h i) = True := eq_true (fun i hi => .inr (t i hi))
    simp -implicitDefEqProofs [hsz, ru.one, ru.cells, e1, mtT]
    exact ⟨q1, (rC.kp0 k12).kp k3 fun i hi hn => by have := oC i hi; have := hu i hn; omega⟩
  · rintro s h1 hi ⟨nx, rC⟩ kp
    rw [List.take_of_length_le (by rw [fillQ_len]; exact Nat.le_refl _)] at nx
    simp -implicitDefEqProofs [L100_0, resA_2, FillR]
    exact nx
end
end Go.Proofs.Ytpenocegikjpaaa

/- Contracts: NewMachine, both. -/
set_option linter.unusedSimpArgs false
set_option linter.unusedVariables false
set_option maxHeartbeats 1000000
namespace Go.Proofs.Ytpenocegikjpaaa
open Go.Ab
/-- What NewMachine answers. -/
def newMM (F : Fnt) (n sp : Int) (S : Msr) : Option Mch := match fillM F n with
  | none => none
  | some m => if mchB ⟨F, m, sp, S, [], []⟩ = true then some ⟨F, m, sp, S, [], []⟩ else none
section
variable {w : Bool} {h : Heap} {F : Fnt} {S : Msr} {vW vC : Value} {LW LC : List Nat}
theorem specNew_ac (r : RF w h F vW vC LW LC) (n sp : Int) :
    AC Try.prog 35 [fval F vW vC, .int .i64 n, .int .i64 sp, S.v] h [] fun r h' => TupM h.length h' r ((newMM F n sp S).getD M0) (.bool (newMM F n sp S).isSome) := by
  refine ac35 (by simp [p35]) ?_
  have kb : Kp [] h (h ++ [some ⟨[.string F.letters, vW, vC], 3, true⟩, some ⟨[.int .i64 S.width, .int .i64 S.thin, .int .i64 S.thick], 3, true⟩, some ⟨[.string ⟨#[]⟩, .slice none 0 0, .slice none 0 0, .slice none 0 0, .int .i64 0, .int .i64 0, .int .i64 0, .int .i64 0, .slice none 0 0, .slice none 0 0], 10, true⟩]) := .app [] h _
  have bF : hob (h ++ [some ⟨[.string F.letters, vW, vC], 3, true⟩, some ⟨[.int .i64 S.width, .int .i64 S.thin, .int .i64 S.thick], 3, true⟩, some ⟨[.string ⟨#[]⟩, .slice none 0 0, .slice none 0 0, .slice none 0 0, .int .i64 0, .int .i64 0, .int .i64 0, .int .i64 0, .slice none 0 0, .slice none 0 0], 10, true⟩]) h.length = some ⟨[.string F.letters, vW, vC], 3, true⟩ := by simp [hob]
  have bS : hob (h ++ [some ⟨[.string F.letters, vW, vC], 3, true⟩, some ⟨[.int .i64 S.width, .int .i64 S.thin, .int .i64 S.thick], 3, true⟩, some ⟨[.string ⟨#[]⟩, .slice none 0 0, .slice none 0 0, .slice none 0 0, .int .i64 0, .int .i64 0, .int .i64 0, .int .i64 0, .slice none 0 0, .slice none 0 0], 10, true⟩]) (h.length + 1) = some ⟨[.int .i64 S.width, .int .i64 S.thin, .int .i64 S.thick], 3, true⟩ := by simp [hob]
  have bZ : hob (h ++ [some ⟨[.string F.letters, vW, vC], 3, true⟩, some ⟨[.int .i64 S.width, .int .i64 S.thin, .int .i64 S.thick], 3, true⟩, some ⟨[.string ⟨#[]⟩, .slice none 0 0, .slice none 0 0, .slice none 0 0, .int .i64 0, .int .i64 0, .int .i64 0, .int .i64 0, .slice none 0 0, .slice none 0 0], 10, true⟩]) (h.length + 2) = some ⟨[.string ⟨#[]⟩, .slice none 0 0, .slice none 0 0, .slice none 0 0, .int .i64 0, .int .i64 0, .int .i64 0, .int .i64 0, .slice none 0 0, .slice none 0 0], 10, true⟩ := by simp [hob]
  have gl : (h ++ [some (⟨[.string F.letters, vW, vC], 3, true⟩ : AObj), some ⟨[.int .i64 S.width, .int .i64 S.thin, .int .i64 S.thick], 3, true⟩, some ⟨[.string ⟨#[]⟩, .slice none 0 0, .slice none 0 0, .slice none 0 0, .int .i64 0, .int .i64 0, .int .i64 0, .int .i64 0, .slice none 0 0, .slice none 0 0], 10, true⟩]).length = h.length + 3 := by simp
  have r1 := r.kp0 kb
  simp -implicitDefEqProofs [p35, fval, fcells, Msr.v, r.rW.one, r.rC.one]
  generalize h ++ [some (⟨[.string F.letters, vW, vC], 3, true⟩ : AObj), some ⟨[.int .i64 S.width, .int .i64 S.thin, .int .i64 S.thick], 3, true⟩, some ⟨[.string ⟨#[]⟩, .slice none 0 0, .slice none 0 0, .slice none 0 0, .int .i64 0, .int .i64 0, .int .i64 0, .int .i64 0, .slice none 0 0, .slice none 0 0], 10, true⟩] = g0 at kb bF bS bZ gl r1 ⊢
  have kl := kb.1
  have mZ : MT [] h (h.length + 2) := .inr (by omega)
  refine call0 (specFill_ac r1 n) ?_
  rintro _ g1 hf k1
  have kl1 := k1.1
  replace bF := hob_kp k1 bF (by simp); replace bS := hob_kp k1 bS (by simp); replace bZ := hob_kp k1 bZ (by simp); replace r1 := r1.kp0 k1
  have hcF := hcs_full bF rfl
  have hcS := hcs_full bS rfl
  have m1 := mt_ge (T := []) (show h.length ≤ g1.length by omega)
  cases hfm : fillM F n with
  | none =>
    rw [hfm] at hf
    simp only [FillR] at hf
    subst hf
    have hn : newMM F n sp S = none := by unfold newMM; rw [hfm]
    rw [hn]
    have k2 : Kp [] g1 (g1 ++ [some ⟨[.string F.letters, vW, vC, .slice none 0 0, .int .i64 sp, .int .i64 S.width, .int .i64 S.thin, .int .i64 S.thick, .slice none 0 0, .slice none 0 0], 10, true⟩]) := .app _ _ _
    have ev : strV 10 (.pointer (some ⟨g1.length, 0, none⟩)) (.agg (List.toArray [.string F.letters, vW, vC, .slice none 0 0, .int .i64 sp, .int .i64 S.width, .int .i64 S.thin, .int .i64 S.thick, .slice none 0 0, .slice none 0 0])) (g1 ++ [some ⟨[.string ⟨#[]⟩, .slice none 0 0, .slice none 0 0, .slice none 0 0, .int .i64 0, .int .i64 0, .int .i64 0, .int .i64 0, .slice none 0 0, .slice none 0 0], 10, true⟩]) = some ([g1.length], undef, g1 ++ [some ⟨[.string F.letters, vW, vC, .slice none 0 0, .int .i64 sp, .int .i64 S.width, .int .i64 S.thin, .int .i64 S.thick, .slice none 0 0, .slice none 0 0], 10, true⟩]) := strV_var rfl rfl (by simp [r1.rW.one, r1.rC.one])
    obtain ⟨gz, ez, bz, hcz, mz, _⟩ := mn_put (MN.zero (h.length + 3) _) (hob_kp k2 bZ (by simp)) rfl (by omega)
    simp only [zcells] at ez hcz
    simp -implicitDefEqProofs [hcF, hcS, bldV, fillA, ev, m1, ez, mZ, resA_2, resA1, hcz]
    exact ⟨zcells, [], rfl, .zero _ _⟩
  | some m =>
    rw [hfm] at hf
    simp only [FillR] at hf
    obtain ⟨vX, rfl, LX, rX, ndX, geX⟩ := hf
    have hsz : vX.cells.size = 1 := by rw [← Array.length_toList, rX.cells]; rfl
    have hone : oneAll [.string F.letters, vW, vC, vX, .int .i64 sp, .int .i64 S.width, .int .i64 S.thin, .int .i64 S.thick, .slice none 0 0, .slice none 0 0] = true := by simp [r1.rW.one, r1.rC.one, rX.one]
    have k2 : Kp [] g1 (g1 ++ [some ⟨[.string F.letters, vW, vC, vX, .int .i64 sp, .int .i64 S.width, .int .i64 S.thin, .int .i64 S.thick, .slice none 0 0, .slice none 0 0], 10, true⟩]) := .app _ _ _
    have ev : strV 10 (.pointer (some ⟨g1.length, 0, none⟩)) (.agg (List.toArray [.string F.letters, vW, vC, vX, .int .i64 sp, .int .i64 S.width, .int .i64 S.thin, .int .i64 S.thick, .slice none 0 0, .slice none 0 0])) (g1 ++ [some ⟨[.string ⟨#[]⟩, .slice none 0 0, .slice none 0 0, .slice none 0 0, .int .i64 0, .int .i64 0, .int .i64 0, .int .i64 0, .slice none 0 0, .slice none 0 0], 10, true⟩]) = some ([g1.length], undef, g1 ++ [some ⟨[.string F.letters, vW, vC, vX, .int .i64 sp, .int .i64 S.width, .int .i64 S.thin, .int .i64 S.thick, .slice none 0 0, .slice none 0 0], 10, true⟩]) := strV_var rfl rfl hone
    have bM : hob (g1 ++ [some ⟨[.string F.letters, vW, vC, vX, .int .i64 sp, .int .i64 S.width, .int .i64 S.thin, .int .i64 S.thick, .slice none 0 0, .slice none 0 0], 10, true⟩]) g1.length = some ⟨[.string F.letters, vW, vC, vX, .int .i64 sp, .int .i64 S.width, .int .i64 S.thin, .int .i64 S.thick, .slice none 0 0, .slice none 0 0], 10, true⟩ := by simp [hob]
    replace bZ := hob_kp k2 bZ (by simp)
    have rM : RM false (g1 ++ [some ⟨[.string F.letters, vW, vC, vX, .int .i64 sp, .int .i64 S.width, .int .i64 S.thin, .int .i64 S.thick, .slice none 0 0, .slice none 0 0], 10, true⟩]) ⟨F, m, sp, S, [], []⟩ vW vC vX (.slice none 0 0) (.slice none 0 0) LW LC LX [] [] := ⟨(r1.rW.kp0 k2).weak, (r1.rC.kp0 k2).weak, (rX.kp0 k2).weak, .nil, .nil⟩
    simp -implicitDefEqProofs [hcF, hcS, bldV, fillA, r1.rW.one, r1.rC.one, rX.one, rX.cells, hsz, ev, m1]
    generalize g1 ++ [some (⟨[.string F.letters, vW, vC, vX, .int .i64 sp, .int .i64 S.width, .int .i64 S.thin, .int .i64 S.thick, .slice none 0 0, .slice none 0 0], 10, true⟩ : AObj)] = g2 at k2 ev bM bZ rM ⊢
    have kl2 := k2.1
    have hcM := hcs_full bM rfl
    refine call1 (specMachineOk_ac (M := ⟨F, m, sp, S, [], []⟩) rM (by simp)) ?_
    cases hM : mchB ⟨F, m, sp, S, [], []⟩
    · have hn : newMM F n sp S = none := by unfold newMM; rw [hfm]; simp only; rw [if_neg (by rw [hM]; simp)]
      rw [hn]
      obtain ⟨gz, ez, bz, hcz, mz, _⟩ := mn_put (MN.zero (h.length + 3) g2) bZ rfl (by omega)
      simp only [zcells] at ez hcz
      simp -implicitDefEqProofs [ez, mZ, resA_2, resA1, hcz, bldV, fillA]
      exact ⟨zcells, [], rfl, .zero _ _⟩
    · have hn : newMM F n sp S = some ⟨F, m, sp, S, [], []⟩ := by unfold newMM; rw [hfm]; simp only; rw [if_pos hM]
      rw [hn]
      simp -implicitDefEqProofs [hcM]
      refine call0 (specCopy_ac (M := ⟨F, m, sp, S, [], []⟩) rM (by have := szM_ok hM; omega)) ?_
      rintro _ g3 nm k3
      obtain ⟨l', L', rfl, xm⟩ := nm.mn
      have kl3 := k3.1
      replace bZ := hob_kp k3 bZ (by simp)
      obtain ⟨g4, e4, b4, hc4, x4, _⟩ := mn_put xm bZ rfl (by omega)
      simp -implicitDefEqProofs [e4, mZ, resA_2, resA1, hc4]
      exact ⟨_, _, rfl, x4.mono (by omega)⟩
theorem implNew_ac (r : RF w h F vW vC LW LC) (n sp : Int) :
    AC Try.prog 38 [fval F vW vC, .int .i64 n, .int .i64 sp, S.v] h [] fun r h' => TupM h.length h' r ((newMM F n sp S).getD M0) (.bool (newMM F n sp S).isSome) := by
  refine ac38 (by simp [p38]) ?_
  have kb : Kp [] h (h ++ [some ⟨[.string F.letters, vW, vC], 3, true⟩, some ⟨[.int .i64 S.width, .int .i64 S.thin, .int .i64 S.thick], 3, true⟩, some ⟨[.string ⟨#[]⟩, .slice none 0 0, .slice none 0 0, .slice none 0 0, .int .i64 0, .int .i64 0, .int .i64 0, .int .i64 0, .slice none 0 0, .slice none 0 0], 10, true⟩]) := .app [] h _
  have bF : hob (h ++ [some ⟨[.string F.letters, vW, vC], 3, true⟩, some ⟨[.int .i64 S.width, .int .i64 S.thin, .int .i64 S.thick], 3, true⟩, some ⟨[.string ⟨#[]⟩, .slice none 0 0, .slice none 0 0, .slice none 0 0, .int .i64 0, .int .i64 0, .int .i64 0, .int .i64 0, .slice none 0 0, .slice none 0 0], 10, true⟩]) h.length = some ⟨[.string F.letters, vW, vC], 3, true⟩ := by simp [hob]
  have bS : hob (h ++ [some ⟨[.string F.letters, vW, vC], 3, true⟩, some ⟨[.int .i64 S.width, .int .i64 S.thin, .int .i64 S.thick], 3, true⟩, some ⟨[.string ⟨#[]⟩, .slice none 0 0, .slice none 0 0, .slice none 0 0, .int .i64 0, .int .i64 0, .int .i64 0, .int .i64 0, .slice none 0 0, .slice none 0 0], 10, true⟩]) (h.length + 1) = some ⟨[.int .i64 S.width, .int .i64 S.thin, .int .i64 S.thick], 3, true⟩ := by simp [hob]
  have bZ : hob (h ++ [some ⟨[.string F.letters, vW, vC], 3, true⟩, some ⟨[.int .i64 S.width, .int .i64 S.thin, .int .i64 S.thick], 3, true⟩, some ⟨[.string ⟨#[]⟩, .slice none 0 0, .slice none 0 0, .slice none 0 0, .int .i64 0, .int .i64 0, .int .i64 0, .int .i64 0, .slice none 0 0, .slice none 0 0], 10, true⟩]) (h.length + 2) = some ⟨[.string ⟨#[]⟩, .slice none 0 0, .slice none 0 0, .slice none 0 0, .int .i64 0, .int .i64 0, .int .i64 0, .int .i64 0, .slice none 0 0, .slice none 0 0], 10, true⟩ := by simp [hob]
  have gl : (h ++ [some (⟨[.string F.letters, vW, vC], 3, true⟩ : AObj), some ⟨[.int .i64 S.width, .int .i64 S.thin, .int .i64 S.thick], 3, true⟩, some ⟨[.string ⟨#[]⟩, .slice none 0 0, .slice none 0 0, .slice none 0 0, .int .i64 0, .int .i64 0, .int .i64 0, .int .i64 0, .slice none 0 0, .slice none 0 0], 10, true⟩]).length = h.length + 3 := by simp
  have r1 := r.kp0 kb
  simp -implicitDefEqProofs [p38, fval, fcells, Msr.v, r.rW.one, r.rC.one]
  generalize h ++ [some (⟨[.string F.letters, vW, vC], 3, true⟩ : AObj), some ⟨[.int .i64 S.width, .int .i64 S.thin, .int .i64 S.thick], 3, true⟩, some ⟨[.string ⟨#[]⟩, .slice none 0 0, .slice none 0 0, .slice none 0 0, .int .i64 0, .int .i64 0, .int .i64 0, .int .i64 0, .slice none 0 0, .slice none 0 0], 10, true⟩] = g0 at kb bF bS bZ gl r1 ⊢
  have kl := kb.1
  have mZ : MT [] h (h.length + 2) := .inr (by omega)
  refine call0 (implFill_ac r1 n) ?_
  rintro _ g1 hf k1
  have kl1 := k1.1
  replace bF := hob_kp k1 bF (by simp); replace bS := hob_kp k1 bS (by simp); replace bZ := hob_kp k1 bZ (by simp); replace r1 := r1.kp0 k1
  have hcF := hcs_full bF rfl
  have hcS := hcs_full bS rfl
  have m1 := mt_ge (T := []) (show h.length ≤ g1.length by omega)
  cases hfm : fillM F n with
  | none =>
    rw [hfm] at hf
    simp only [FillR] at hf
    subst hf
    have hn : newMM F n sp S = none := by unfold newMM; rw [hfm]
    rw [hn]
    have k2 : Kp [] g1 (g1 ++ [some ⟨[.string F.letters, vW, vC, .slice none 0 0, .int .i64 sp, .int .i64 S.width, .int .i64 S.thin, .int .i64 S.thick, .slice none 0 0, .slice none 0 0], 10, true⟩]) := .app _ _ _
    have ev : strV 10 (.pointer (some ⟨g1.length, 0, none⟩)) (.agg (List.toArray [.string F.letters, vW, vC, .slice none 0 0, .int .i64 sp, .int .i64 S.width, .int .i64 S.thin, .int .i64 S.thick, .slice none 0 0, .slice none 0 0])) (g1 ++ [some ⟨[.string ⟨#[]⟩, .slice none 0 0, .slice none 0 0, .slice none 0 0, .int .i64 0, .int .i64 0, .int .i64 0, .int .i64 0, .slice none 0 0, .slice none 0 0], 10, true⟩]) = some ([g1.length], undef, g1 ++ [some ⟨[.string F.letters, vW, vC, .slice none 0 0, .int .i64 sp, .int .i64 S.width, .int .i64 S.thin, .int .i64 S.thick, .slice none 0 0, .slice none 0 0], 10, true⟩]) := strV_var rfl rfl (by simp [r1.rW.one, r1.rC.one])
    obtain ⟨gz, ez, bz, hcz, mz, _⟩ := mn_put (MN.zero (h.length + 3) _) (hob_kp k2 bZ (by simp)) rfl (by omega)
    simp only [zcells] at ez hcz
    simp -implicitDefEqProofs [hcF, hcS, bldV, fillA, ev, m1, ez, mZ, resA_2, resA1, hcz]
    exact ⟨zcells, [], rfl, .zero _ _⟩
  | some m =>
    rw [hfm] at hf
    simp only [FillR] at hf
    obtain ⟨vX, rfl, LX, rX, ndX, geX⟩ := hf
    have hsz : vX.cells.size = 1 := by rw [← Array.length_toList, rX.cells]; rfl
    have hone : oneAll [.string F.letters, vW, vC, vX, .int .i64 sp, .int .i64 S.width, .int .i64 S.thin, .int .i64 S.thick, .slice none 0 0, .slice none 0 0] = true := by simp [r1.rW.one, r1.rC.one, rX.one]
    have k2 : Kp [] g1 (g1 ++ [some ⟨[.string F.letters, vW, vC, vX, .int .i64 sp, .int .i64 S.width, .int .i64 S.thin, .int .i64 S.thick, .slice none 0 0, .slice none 0 0], 10, true⟩]) := .app _ _ _
    have ev : strV 10 (.pointer (some ⟨g1.length, 0, none⟩)) (.agg (List.toArray [.string F.letters, vW, vC, vX, .int .i64 sp, .int .i64 S.width, .int .i64 S.thin, .int .i64 S.thick, .slice none 0 0, .slice none 0 0])) (g1 ++ [some ⟨[.string ⟨#[]⟩, .slice none 0 0, .slice none 0 0, .slice none 0 0, .int .i64 0, .int .i64 0, .int .i64 0, .int .i64 0, .slice none 0 0, .slice none 0 0], 10, true⟩]) = some ([g1.length], undef, g1 ++ [some ⟨[.string F.letters, vW, vC, vX, .int .i64 sp, .int .i64 S.width, .int .i64 S.thin, .int .i64 S.thick, .slice none 0 0, .slice none 0 0], 10, true⟩]) := strV_var rfl rfl hone
    have bM : hob (g1 ++ [some ⟨[.string F.letters, vW, vC, vX, .int .i64 sp, .int .i64 S.width, .int .i64 S.thin, .int .i64 S.thick, .slice none 0 0, .slice none 0 0], 10, true⟩]) g1.length = some ⟨[.string F.letters, vW, vC, vX, .int .i64 sp, .int .i64 S.width, .int .i64 S.thin, .int .i64 S.thick, .slice none 0 0, .slice none 0 0], 10, true⟩ := by simp [hob]
    replace bZ := hob_kp k2 bZ (by simp)
    have rM : RM false (g1 ++ [some ⟨[.string F.letters, vW, vC, vX, .int .i64 sp, .int .i64 S.width, .int .i64 S.thin, .int .i64 S.thick, .slice none 0 0, .slice none 0 0], 10, true⟩]) ⟨F, m, sp, S, [], []⟩ vW vC vX (.slice none 0 0) (.slice none 0 0) LW LC LX [] [] := ⟨(r1.rW.kp0 k2).weak, (r1.rC.kp0 k2).weak, (rX.kp0 k2).weak, .nil, .nil⟩
    simp -implicitDefEqProofs [hcF, hcS, bldV, fillA, r1.rW.one, r1.rC.one, rX.one, rX.cells, hsz, ev, m1]
    generalize g1 ++ [some (⟨[.string F.letters, vW, vC, vX, .int .i64 sp, .int .i64 S.width, .int .i64 S.thin, .int .i64 S.thick, .slice none 0 0, .slice none 0 0], 10, true⟩ : AObj)] = g2 at k2 ev bM bZ rM ⊢
    have kl2 := k2.1
    have hcM := hcs_full bM rfl
    refine call1 (implMachineOk_ac (M := ⟨F, m, sp, S, [], []⟩) rM) ?_
    cases hM : mchB ⟨F, m, sp, S, [], []⟩
    · have hn : newMM F n sp S = none := by unfold newMM; rw [hfm]; simp only; rw [if_neg (by rw [hM]; simp)]
      rw [hn]
      obtain ⟨gz, ez, bz, hcz, mz, _⟩ := mn_put (MN.zero (h.length + 3) g2) bZ rfl (by omega)
      simp only [zcells] at ez hcz
      simp -implicitDefEqProofs [ez, mZ, resA_2, resA1, hcz, bldV, fillA]
      exact ⟨zcells, [], rfl, .zero _ _⟩
    · have hn : newMM F n sp S = some ⟨F, m, sp, S, [], []⟩ := by unfold newMM; rw [hfm]; simp only; rw [if_pos hM]
      rw [hn]
      simp -implicitDefEqProofs [hcM]
      refine call0 (implCopy_ac (M := ⟨F, m, sp, S, [], []⟩) rM (by have := szM_ok hM; omega)) ?_
      rintro _ g3 nm k3
      obtain ⟨l', L', rfl, xm⟩ := nm.mn
      have kl3 := k3.1
      replace bZ := hob_kp k3 bZ (by simp)
      obtain ⟨g4, e4, b4, hc4, x4, _⟩ := mn_put xm bZ rfl (by omega)
      simp -implicitDefEqProofs [e4, mZ, resA_2, resA1, hc4]
      exact ⟨_, _, rfl, x4.mono (by omega)⟩
end
end Go.Proofs.Ytpenocegikjpaaa

/- Fonts in variables: the cells as a list. -/
set_option linter.unusedSimpArgs false
set_option linter.unusedVariables false
namespace Go.Ab
def FV (w : Bool) (h : Heap) (l : List Value) (F : Fnt) (L : List Nat) : Prop := ∃ vW vC LW LC, l = fcells F vW vC ∧ RF w h F vW vC LW LC ∧ L = LW ++ LC
def FN (n : Nat) (h : Heap) (l : List Value) (F : Fnt) (L : List Nat) : Prop := FV true h l F L ∧ L.Nodup ∧ ∀ i ∈ L, n ≤ i
theorem NF.fn {n : Nat} {h : Heap} {v : Value} {F : Fnt} (x : NF n h v F) : ∃ l L, v = .agg l.toArray ∧ FN n h l F L := by
  obtain ⟨vW, vC, LW, LC, rfl, r, nd, ge⟩ := x
  exact ⟨fcells F vW vC, _, rfl, ⟨_, _, _, _, rfl, r, rfl⟩, nd, ge⟩
section
variable {w : Bool} {h h' : Heap} {l : List Value} {F : Fnt} {L T : List Nat}
theorem FV.kp (r : FV w h l F L) (k : Kp T h h') (hd : ∀ i ∈ L, i ∉ T) : FV w h' l F L := by
  obtain ⟨vW, vC, LW, LC, rfl, r, rfl⟩ := r
  exact ⟨_, _, _, _, rfl, ⟨r.rW.kp k fun i hi => hd i (by simp [hi]), r.rC.kp k fun i hi => hd i (by simp [hi])⟩, rfl⟩
theorem FV.kp0 (r : FV w h l F L) (k : Kp [] h h') : FV w h' l F L := r.kp k (by simp)
theorem FV.len (r : FV w h l F L) : l.length = 3 := by
  obtain ⟨vW, vC, LW, LC, rfl, r, rfl⟩ := r; rfl
theorem FV.one (r : FV w h l F L) : oneAll l = true := by
  obtain ⟨vW, vC, LW, LC, rfl, r, rfl⟩ := r
  simp [fcells, r.rW.one, r.rC.one]
theorem FV.lt (r : FV w h l F L) : ∀ i ∈ L, i < h.length := by
  obtain ⟨vW, vC, LW, LC, rfl, r, rfl⟩ := r
  intro i hi
  rcases List.mem_append.1 hi with hi | hi
  · exact r.rW.lt i hi
  · exact r.rC.lt i hi
theorem cntF_le (F : Fnt) : cntF F ≤ szF F := by unfold cntF szF; omega
end
end Go.Ab

/- The law of NewMachine: the contracts in the form that it needs. -/
set_option linter.unusedSimpArgs false
set_option linter.unusedVariables false
set_option maxHeartbeats 1000000
namespace Go.Proofs.Ytpenocegikjpaaa
open Go.Ab
section
variable {w w' : Bool} {h : Heap} {l l' : List Value} {F F' : Fnt} {S : Msr} {L L' : List Nat}
theorem szF_ac (r : FV w h l F L) (hs : F.letters.size ≤ maxLen) :
    AC Try.prog 34 [.agg l.toArray, .int .i64 1048576] h [] fun r h' => r = .int .i64 (if (1048576 : Int) < szF F then -1 else (1048576 : Int) - szF F) ∧ h' = h := by
  obtain ⟨vW, vC, LW, LC, rfl, r, rfl⟩ := r
  exact szFont_ac r 1048576 (by omega) (by unfold maxLen at hs; omega)
theorem toF_ac (r : FV w h l F L) (hl : szF F ≤ 1048576) : AC Try.prog 36 [.agg l.toArray] h [] fun r h' => ∃ l' L', r = .agg l'.toArray ∧ FN h.length h' l' F L' := by
  obtain ⟨vW, vC, LW, LC, rfl, r, rfl⟩ := r
  exact AC_mono (toFont_ac r hl) fun r h' x => x.fn
theorem eqF_ac (r : FV w h l F L) (r' : FV w' h l' F' L') : AC Try.prog 39 [.agg l.toArray, .agg l'.toArray] h [] fun r h' => r = .bool (decide (F = F')) ∧ h' = h := by
  obtain ⟨vW, vC, LW, LC, rfl, r, rfl⟩ := r
  obtain ⟨vW', vC', LW', LC', rfl, r', rfl⟩ := r'
  exact eqFont_ac r r'
theorem markF_ac (r : FV true h l F L) (nd : L.Nodup) (hk0 : cntF F ≤ 4611686018427387900) :
    AC Try.prog 40 [.agg l.toArray, .int .i64 1] h L fun r h' => r = .int .i64 (1 + cntF F) ∧ FV true h' l (mkF 1 F) L := by
  obtain ⟨vW, vC, LW, LC, rfl, r, rfl⟩ := r
  exact AC_mono (markFont_ac r nd 1 (by omega)) fun r h' ⟨e, x⟩ => ⟨e, _, _, _, _, rfl, x, rfl⟩
theorem specNewA_ac (r : FV w h l F L) (n sp : Int) : AC Try.prog 35 [.agg l.toArray, .int .i64 n, .int .i64 sp, S.v] h [] fun r h' => TupM h.length h' r ((newMM F n sp S).getD M0) (.bool (newMM F n sp S).isSome) := by
  obtain ⟨vW, vC, LW, LC, rfl, r, rfl⟩ := r
  exact specNew_ac r n sp
theorem implNewA_ac (r : FV w h l F L) (n sp : Int) : AC Try.prog 38 [.agg l.toArray, .int .i64 n, .int .i64 sp, S.v] h [] fun r h' => TupM h.length h' r ((newMM F n sp S).getD M0) (.bool (newMM F n sp S).isSome) := by
  obtain ⟨vW, vC, LW, LC, rfl, r, rfl⟩ := r
  exact implNew_ac r n sp
theorem newMM_sz (F : Fnt) (n sp : Int) (S : Msr) : szM ((newMM F n sp S).getD M0) ≤ 2000 := by
  unfold newMM
  split
  · simp [sz_zero]
  · split
    · rename_i hm; exact szM_ok hm
    · simp [sz_zero]
end
end Go.Proofs.Ytpenocegikjpaaa

/- A region whose order is open, told once: what it leaves. -/
set_option linter.unusedSimpArgs false
set_option linter.unusedVariables false
namespace Go.Ab
/-- A machine W in a new variable (its place in slot p), a boolean b in slot q; the slots of keep and the heap as they were. -/
def PostM (hb : Heap) (a : Nat → Value) (keep : List Nat) (W : Mch) (b : Value) (p q : Nat) (st : St) : Prop :=
  Kp [] hb st.h ∧ (∀ j ∈ keep, st.tm j = a j) ∧ ∃ i l L, st.tm p = .pointer (some ⟨i, 0, none⟩) ∧ st.tm q = b ∧ hcs st.h i 0 10 = some l ∧ MN hb.length st.h l W L ∧ hb.length ≤ i ∧ i < st.h.length ∧ i ∉ L
theorem XPl_post {P : Program} {M : Nat → Prop} {plan : Plan} {hd : List (Nat × Nat)} {a : Nat → Value} {hb : Heap} {R : St → Prop} (keep : List Nat) (W : Mch) (b : Value) (p q : Nat)
    (h1 : XPl P M plan hd ⟨a, hb⟩ (PostM hb a keep W b p q)) (h2 : ∀ st, PostM hb a keep W b p q st → R st) : XPl P M plan hd ⟨a, hb⟩ R := XPl_mono h2 h1
end Go.Ab

/- The law of NewMachine. -/
set_option linter.unusedSimpArgs false
set_option linter.unusedVariables false
set_option maxHeartbeats 1000000
namespace Go.Proofs.Ytpenocegikjpaaa
open Go.Ab
section
variable {w : Bool} {h : Heap} {l : List Value} {F : Fnt} {L : List Nat}
theorem newLaw (r0 : FV false h l F L) (hs : F.letters.size ≤ maxLen) (n sp : Int) (S : Msr) : AC Try.prog 6 [.agg l.toArray, .int .i64 n, .int .i64 sp, S.v] h [] fun r _ => r = .bool true := by
  have hlen0 := r0.len
  have hone0 := r0.one
  have lt0 := r0.lt
  have ht0 : l.take 3 = l := List.take_of_length_le (by omega)
  refine ac6 (by simp [p6]) ?_
  have k0 : Kp [] h (h ++ [some ⟨l, 3, true⟩, some ⟨[.int .i64 S.width, .int .i64 S.thin, .int .i64 S.thick], 3, true⟩]) := .app _ _ _
  have e0 : hcs (h ++ [some ⟨l, 3, true⟩, some ⟨[.int .i64 S.width, .int .i64 S.thin, .int .i64 S.thick], 3, true⟩]) h.length 0 3 = some l := by
    have : hob (h ++ [some ⟨l, 3, true⟩, some ⟨[.int .i64 S.width, .int .i64 S.thin, .int .i64 S.thick], 3, true⟩]) h.length = some ⟨l, 3, true⟩ := by simp [hob]
    exact hcs_full this hlen0
  have e7 : hcs (h ++ [some ⟨l, 3, true⟩, some ⟨[.int .i64 S.width, .int .i64 S.thin, .int .i64 S.thick], 3, true⟩]) (h.length + 1) 0 3 = some [.int .i64 S.width, .int .i64 S.thin, .int .i64 S.thick] := by
    have : hob (h ++ [some ⟨l, 3, true⟩, some ⟨[.int .i64 S.width, .int .i64 S.thin, .int .i64 S.thick], 3, true⟩]) (h.length + 1) = some ⟨[.int .i64 S.width, .int .i64 S.thin, .int .i64 S.thick], 3, true⟩ := by simp [hob]
    exact hcs_full this rfl
  have lk0 : (h ++ [some (⟨l, 3, true⟩ : AObj), some ⟨[.int .i64 S.width, .int .i64 S.thin, .int .i64 S.thick], 3, true⟩]).length = h.length + 2 := by simp
  replace r0 := r0.kp0 k0
  simp -implicitDefEqProofs [p6, hlen0, hone0, ht0, Msr.v]
  generalize h ++ [some (⟨l, 3, true⟩ : AObj), some ⟨[.int .i64 S.width, .int .i64 S.thin, .int .i64 S.thick], 3, true⟩] = g0 at k0 e0 e7 lk0 r0 ⊢
  refine call1 (szF_ac r0 hs) ?_
  by_cases hz : (1048576 : Int) < szF F
  · simp -implicitDefEqProofs [hz]
  have hsz : szF F ≤ 1048576 := by omega
  simp -implicitDefEqProofs [hz, show ¬ ((1048576 : Int) - szF F < 0) by omega, e0, e7]
  have hspec : ∀ {w : Bool} {h : Heap} {l : List Value} {L : List Nat}, FV w h l F L → (n sp : Int) → _ := fun {w h l L} r n sp => specNewA_ac (S := S) (w := w) (h := h) (l := l) (L := L) r n sp
  have himpl : ∀ {w : Bool} {h : Heap} {l : List Value} {L : List Nat}, FV w h l F L → (n sp : Int) → _ := fun {w h l L} r n sp => implNewA_ac (S := S) (w := w) (h := h) (l := l) (L := L) r n sp
  have hcw : cntM ((newMM F n sp S).getD M0) ≤ 4611686018427387900 := by have := newMM_sz F n sp S; have := cntM_le ((newMM F n sp S).getD M0); omega
  have hcf : cntF F ≤ 4611686018427387900 := by have := cntF_le F; omega
  replace hspec := fun {w h l L} (r : FV w h l F L) => hspec r n sp
  replace himpl := fun {w h l L} (r : FV w h l F L) => himpl r n sp
  generalize (newMM F n sp S).getD M0 = W at hspec himpl hcw
  generalize (newMM F n sp S).isSome = b at hspec himpl
  refine XPl_post [1, 2, 4, 7] W (.bool b) 10 11 ?_ ?_
  · refine XPl_bc2 ?_ ?_
    · simp -implicitDefEqProofs
      refine call0 (toF_ac r0 hsz) ?_
      rintro _ hx2 ⟨lA, LA, rfl, rA, _, _⟩ kx1
      have lkx1 := kx1.1
      simp -implicitDefEqProofs
      refine XPl_bc2 ?_ ?_
      · simp -implicitDefEqProofs
        refine call1 (toMeasure_ac S) ?_
        simp -implicitDefEqProofs
        refine XPl_bc2 ?_ ?_
        · simp -implicitDefEqProofs
          refine call0 (hspec rA) ?_
          rintro _ hx4 ⟨lS, LS, rfl, xS⟩ kx3
          have lkx3 := kx3.1
          have ltS := xS.1.lt
          have hlenS := xS.1.len
          have honeS := xS.1.one
          have htS : lS.take 10 = lS := List.take_of_length_le (by omega)
          have kx5 : Kp [] hx4 (hx4 ++ [some (⟨lS, 10, true⟩ : AObj)]) := .app _ _ _
          have e10 : hcs (hx4 ++ [some (⟨lS, 10, true⟩ : AObj)]) hx4.length 0 10 = some lS := hcs_var hlenS
          have qkx5 : (hx4 ++ [some (⟨lS, 10, true⟩ : AObj)]).length = hx4.length + 1 := by simp
          have xS' := xS.kp0 kx5
          simp -implicitDefEqProofs [strV_var, hlenS, honeS, htS, mt_ge (show h.length ≤ hx4.length by omega)]
          exact ⟨((kx1).trans kx3 (by simp)).trans kx5 (by simp), fun j hj => by simp only [List.mem_cons, List.not_mem_nil, or_false] at hj; rcases hj with rfl | rfl | rfl | rfl <;> rfl, hx4.length, lS, LS, rfl, rfl, e10, xS'.mono (by omega), (show g0.length ≤ hx4.length by omega), (show hx4.length < (hx4 ++ [some (⟨lS, 10, true⟩ : AObj)]).length by omega), fun hn => by have := ltS _ hn; omega⟩
        · simp -implicitDefEqProofs
          have kx3 : Kp [] hx2 (hx2 ++ [some (⟨[.string ⟨#[]⟩, .slice none 0 0, .slice none 0 0, .slice none 0 0, .int .i64 0, .int .i64 0, .int .i64 0, .int .i64 0, .slice none 0 0, .slice none 0 0], 10, true⟩ : AObj)]) := .app _ _ _
          have b10 : hob (hx2 ++ [some (⟨[.string ⟨#[]⟩, .slice none 0 0, .slice none 0 0, .slice none 0 0, .int .i64 0, .int .i64 0, .int .i64 0, .int .i64 0, .slice none 0 0, .slice none 0 0], 10, true⟩ : AObj)]) hx2.length = some ⟨[.string ⟨#[]⟩, .slice none 0 0, .slice none 0 0, .slice none 0 0, .int .i64 0, .int .i64 0, .int .i64 0, .int .i64 0, .slice none 0 0, .slice none 0 0], 10, true⟩ := by simp [hob]
          have qkx3 : (hx2 ++ [some (⟨[.string ⟨#[]⟩, .slice none 0 0, .slice none 0 0, .slice none 0 0, .int .i64 0, .int .i64 0, .int .i64 0, .int .i64 0, .slice none 0 0, .slice none 0 0], 10, true⟩ : AObj)]).length = hx2.length + 1 := by simp
          have lkx3 := kx3.1
          have rA' := rA.kp0 kx3
          generalize hx2 ++ [some (⟨[.string ⟨#[]⟩, .slice none 0 0, .slice none 0 0, .slice none 0 0, .int .i64 0, .int .i64 0, .int .i64 0, .int .i64 0, .slice none 0 0, .slice none 0 0], 10, true⟩ : AObj)] = hx4 at kx3 b10 qkx3 lkx3 rA' ⊢
          refine call0 (hspec rA') ?_
          rintro _ hx6 ⟨lS, LS, rfl, xS⟩ kx5
          have lkx5 := kx5.1
          have ltS := xS.1.lt
          replace b10 := hob_kp kx5 b10 (by simp)
          obtain ⟨hx8, ev, b10', e10, xS', kx7, n10⟩ := mn_put xS b10 rfl (by omega)
          have m10 : MT [] h hx2.length := .inr (by omega)
          simp -implicitDefEqProofs [ev, m10]
          exact ⟨(((kx1).trans kx3 (by simp)).trans kx5 (by simp)).trans kx7 (fun i hi => by simp at hi; subst hi; exact .inr (by omega)), fun j hj => by simp only [List.mem_cons, List.not_mem_nil, or_false] at hj; rcases hj with rfl | rfl | rfl | rfl <;> rfl, hx2.length, lS, LS, rfl, rfl, e10, xS'.mono (by omega), (show g0.length ≤ hx2.length by omega), (show hx2.length < hx8.length by omega), fun hn => by have := xS.2.2 _ hn; omega⟩
      · simp -implicitDefEqProofs
        have kx3 : Kp [] hx2 (hx2 ++ [some (⟨[.string ⟨#[]⟩, .slice none 0 0, .slice none 0 0, .slice none 0 0, .int .i64 0, .int .i64 0, .int .i64 0, .int .i64 0, .slice none 0 0, .slice none 0 0], 10, true⟩ : AObj)]) := .app _ _ _
        have b10 : hob (hx2 ++ [some (⟨[.string ⟨#[]⟩, .slice none 0 0, .slice none 0 0, .slice none 0 0, .int .i64 0, .int .i64 0, .int .i64 0, .int .i64 0, .slice none 0 0, .slice none 0 0], 10, true⟩ : AObj)]) hx2.length = some ⟨[.string ⟨#[]⟩, .slice none 0 0, .slice none 0 0, .slice none 0 0, .int .i64 0, .int .i64 0, .int .i64 0, .int .i64 0, .slice none 0 0, .slice none 0 0], 10, true⟩ := by simp [hob]
        have qkx3 : (hx2 ++ [some (⟨[.string ⟨#[]⟩, .slice none 0 0, .slice none 0 0, .slice none 0 0, .int .i64 0, .int .i64 0, .int .i64 0, .int .i64 0, .slice none 0 0, .slice none 0 0], 10, true⟩ : AObj)]).length = hx2.length + 1 := by simp
        have lkx3 := kx3.1
        have rA' := rA.kp0 kx3
        generalize hx2 ++ [some (⟨[.string ⟨#[]⟩, .slice none 0 0, .slice none 0 0, .slice none 0 0, .int .i64 0, .int .i64 0, .int .i64 0, .int .i64 0, .slice none 0 0, .slice none 0 0], 10, true⟩ : AObj)] = hx4 at kx3 b10 qkx3 lkx3 rA' ⊢
        refine call1 (toMeasure_ac S) ?_
        simp -implicitDefEqProofs
        refine call0 (hspec rA') ?_
        rintro _ hx6 ⟨lS, LS, rfl, xS⟩ kx5
        have lkx5 := kx5.1
        have ltS := xS.1.lt
        replace b10 := hob_kp kx5 b10 (by simp)
        obtain ⟨hx8, ev, b10', e10, xS', kx7, n10⟩ := mn_put xS b10 rfl (by omega)
        have m10 : MT [] h hx2.length := .inr (by omega)
        simp -implicitDefEqProofs [ev, m10]
        exact ⟨(((kx1).trans kx3 (by simp)).trans kx5 (by simp)).trans kx7 (fun i hi => by simp at hi; subst hi; exact .inr (by omega)), fun j hj => by simp only [List.mem_cons, List.not_mem_nil, or_false] at hj; rcases hj with rfl | rfl | rfl | rfl <;> rfl, hx2.length, lS, LS, rfl, rfl, e10, xS'.mono (by omega), (show g0.length ≤ hx2.length by omega), (show hx2.length < hx8.length by omega), fun hn => by have := xS.2.2 _ hn; omega⟩
    · simp -implicitDefEqProofs
      have kx1 : Kp [] g0 (g0 ++ [some (⟨[.string ⟨#[]⟩, .slice none 0 0, .slice none 0 0, .slice none 0 0, .int .i64 0, .int .i64 0, .int .i64 0, .int .i64 0, .slice none 0 0, .slice none 0 0], 10, true⟩ : AObj)]) := .app _ _ _
      have b10 : hob (g0 ++ [some (⟨[.string ⟨#[]⟩, .slice none 0 0, .slice none 0 0, .slice none 0 0, .int .i64 0, .int .i64 0, .int .i64 0, .int .i64 0, .slice none 0 0, .slice none 0 0], 10, true⟩ : AObj)]) g0.length = some ⟨[.string ⟨#[]⟩, .slice none 0 0, .slice none 0 0, .slice none 0 0, .int .i64 0, .int .i64 0, .int .i64 0, .int .i64 0, .slice none 0 0, .slice none 0 0], 10, true⟩ := by simp [hob]
      have qkx1 : (g0 ++ [some (⟨[.string ⟨#[]⟩, .slice none 0 0, .slice none 0 0, .slice none 0 0, .int .i64 0, .int .i64 0, .int .i64 0, .int .i64 0, .slice none 0 0, .slice none 0 0], 10, true⟩ : AObj)]).length = g0.length + 1 := by simp
      have lkx1 := kx1.1
      have r0' := r0.kp0 kx1
      generalize g0 ++ [some (⟨[.string ⟨#[]⟩, .slice none 0 0, .slice none 0 0, .slice none 0 0, .int .i64 0, .int .i64 0, .int .i64 0, .int .i64 0, .slice none 0 0, .slice none 0 0], 10, true⟩ : AObj)] = hx2 at kx1 b10 qkx1 lkx1 r0' ⊢
      refine call0 (toF_ac r0' hsz) ?_
      rintro _ hx4 ⟨lA, LA, rfl, rA, _, _⟩ kx3
      have lkx3 := kx3.1
      replace b10 := hob_kp kx3 b10 (by simp)
      simp -implicitDefEqProofs
      refine call1 (toMeasure_ac S) ?_
      simp -implicitDefEqProofs
      refine call0 (hspec rA) ?_
      rintro _ hx6 ⟨lS, LS, rfl, xS⟩ kx5
      have lkx5 := kx5.1
      have ltS := xS.1.lt
      replace b10 := hob_kp kx5 b10 (by simp)
      obtain ⟨hx8, ev, b10', e10, xS', kx7, n10⟩ := mn_put xS b10 rfl (by omega)
      have m10 : MT [] h g0.length := .inr (by omega)
      simp -implicitDefEqProofs [ev, m10]
      exact ⟨(((kx1).trans kx3 (by simp)).trans kx5 (by simp)).trans kx7 (fun i hi => by simp at hi; subst hi; exact .inr (by omega)), fun j hj => by simp only [List.mem_cons, List.not_mem_nil, or_false] at hj; rcases hj with rfl | rfl | rfl | rfl <;> rfl, g0.length, lS, LS, rfl, rfl, e10, xS'.mono (by omega), (show g0.length ≤ g0.length by omega), (show g0.length < hx8.length by omega), fun hn => by have := xS.2.2 _ hn; omega⟩
  · rintro ⟨s, hS⟩ ⟨kP, keepP, i10, lS, LS, s10, s11, e10, xS, gi10, li10, ni10⟩
    have s1 : s 1 = .int .i64 n := keepP 1 (by simp)
    have s2 : s 2 = .int .i64 sp := keepP 2 (by simp)
    have s4 : s 4 = .pointer (some ⟨h.length, 0, none⟩) := keepP 4 (by simp)
    have s7 : s 7 = .pointer (some ⟨h.length + 1, 0, none⟩) := keepP 7 (by simp)
    replace s10 : s 10 = .pointer (some ⟨i10, 0, none⟩) := s10
    replace s11 : s 11 = .bool b := s11
    have lkP := kP.1
    have ltS := xS.1.lt
    have geS := xS.2.2
    replace r0 := r0.kp0 kP; replace e0 := hcs_kp0 kP e0; replace e7 := hcs_kp0 kP e7
    simp only at e10 li10 xS ltS lkP r0 e0 e7
    simp -implicitDefEqProofs [s1, s2, s4, s7, e0]
    refine call0 (toF_ac r0 hsz) ?_
    rintro _ h4 ⟨lB, LB, rfl, rB, ndB, geB⟩ k4
    have lk4 := k4.1
    have hlenB := rB.len
    have honeB := rB.one
    have ltB := rB.lt
    have htB : lB.take 3 = lB := List.take_of_length_le (by omega)
    have k5 : Kp [] h4 (h4 ++ [some ⟨lB, 3, true⟩]) := .app _ _ _
    have e12 : hcs (h4 ++ [some ⟨lB, 3, true⟩]) h4.length 0 3 = some lB := hcs_var hlenB
    have lk5 : (h4 ++ [some (⟨lB, 3, true⟩ : AObj)]).length = h4.length + 1 := by simp
    replace r0 := (r0.kp0 k4).kp0 k5; replace e0 := hcs_kp0 k5 (hcs_kp0 k4 e0); replace e7 := hcs_kp0 k5 (hcs_kp0 k4 e7); replace e10 := hcs_kp0 k5 (hcs_kp0 k4 e10); replace xS := (xS.kp0 k4).kp0 k5; replace rB := rB.kp0 k5
    simp -implicitDefEqProofs [s1, s2, s4, s7, strV_var, hlenB, honeB, htB, mt_ge (show h.length ≤ h4.length by omega), e7]
    generalize h4 ++ [some (⟨lB, 3, true⟩ : AObj)] = g5 at k5 e12 lk5 r0 e0 e7 e10 xS rB ⊢
    refine XPl_post [1, 2, 4, 7, 10, 11, 12] W (.bool b) 13 14 ?_ ?_
    · refine XPl_bc2 ?_ ?_
      · simp -implicitDefEqProofs
        refine call1 (toMeasure_ac S) ?_
        simp -implicitDefEqProofs
        refine XPl_bc2 ?_ ?_
        · simp -implicitDefEqProofs
          refine call0 (himpl rB) ?_
          rintro _ hx2 ⟨lS, LS, rfl, xS⟩ kx1
          have lkx1 := kx1.1
          have ltS := xS.1.lt
          have hlenS := xS.1.len
          have honeS := xS.1.one
          have htS : lS.take 10 = lS := List.take_of_length_le (by omega)
          have kx3 : Kp [] hx2 (hx2 ++ [some (⟨lS, 10, true⟩ : AObj)]) := .app _ _ _
          have e10 : hcs (hx2 ++ [some (⟨lS, 10, true⟩ : AObj)]) hx2.length 0 10 = some lS := hcs_var hlenS
          have qkx3 : (hx2 ++ [some (⟨lS, 10, true⟩ : AObj)]).length = hx2.length + 1 := by simp
          have xS' := xS.kp0 kx3
          simp -implicitDefEqProofs [strV_var, hlenS, honeS, htS, mt_ge (show h.length ≤ hx2.length by omega)]
          exact ⟨(kx1).trans kx3 (by simp), fun j hj => by simp only [List.mem_cons, List.not_mem_nil, or_false] at hj; rcases hj with rfl | rfl | rfl | rfl | rfl | rfl | rfl <;> rfl, hx2.length, lS, LS, rfl, rfl, e10, xS'.mono (by omega), (show g5.length ≤ hx2.length by omega), (show hx2.length < (hx2 ++ [some (⟨lS, 10, true⟩ : AObj)]).length by omega), fun hn => by have := ltS _ hn; omega⟩
        · simp -implicitDefEqProofs
          have kx1 : Kp [] g5 (g5 ++ [some (⟨[.string ⟨#[]⟩, .slice none 0 0, .slice none 0 0, .slice none 0 0, .int .i64 0, .int .i64 0, .int .i64 0, .int .i64 0, .slice none 0 0, .slice none 0 0], 10, true⟩ : AObj)]) := .app _ _ _
          have b10 : hob (g5 ++ [some (⟨[.string ⟨#[]⟩, .slice none 0 0, .slice none 0 0, .slice none 0 0, .int .i64 0, .int .i64 0, .int .i64 0, .int .i64 0, .slice none 0 0, .slice none 0 0], 10, true⟩ : AObj)]) g5.length = some ⟨[.string ⟨#[]⟩, .slice none 0 0, .slice none 0 0, .slice none 0 0, .int .i64 0, .int .i64 0, .int .i64 0, .int .i64 0, .slice none 0 0, .slice none 0 0], 10, true⟩ := by simp [hob]
          have qkx1 : (g5 ++ [some (⟨[.string ⟨#[]⟩, .slice none 0 0, .slice none 0 0, .slice none 0 0, .int .i64 0, .int .i64 0, .int .i64 0, .int .i64 0, .slice none 0 0, .slice none 0 0], 10, true⟩ : AObj)]).length = g5.length + 1 := by simp
          have lkx1 := kx1.1
          have rB' := rB.kp0 kx1
          generalize g5 ++ [some (⟨[.string ⟨#[]⟩, .slice none 0 0, .slice none 0 0, .slice none 0 0, .int .i64 0, .int .i64 0, .int .i64 0, .int .i64 0, .slice none 0 0, .slice none 0 0], 10, true⟩ : AObj)] = hx2 at kx1 b10 qkx1 lkx1 rB' ⊢
          refine call0 (himpl rB') ?_
          rintro _ hx4 ⟨lS, LS, rfl, xS⟩ kx3
          have lkx3 := kx3.1
          have ltS := xS.1.lt
          replace b10 := hob_kp kx3 b10 (by simp)
          obtain ⟨hx6, ev, b10', e10, xS', kx5, n10⟩ := mn_put xS b10 rfl (by omega)
          have m10 : MT [] h g5.length := .inr (by omega)
          simp -implicitDefEqProofs [ev, m10]
          exact ⟨((kx1).trans kx3 (by simp)).trans kx5 (fun i hi => by simp at hi; subst hi; exact .inr (by omega)), fun j hj => by simp only [List.mem_cons, List.not_mem_nil, or_false] at hj; rcases hj with rfl | rfl | rfl | rfl | rfl | rfl | rfl <;> rfl, g5.length, lS, LS, rfl, rfl, e10, xS'.mono (by omega), (show g5.length ≤ g5.length by omega), (show g5.length < hx6.length by omega), fun hn => by have := xS.2.2 _ hn; omega⟩
      · simp -implicitDefEqProofs
        have kx1 : Kp [] g5 (g5 ++ [some (⟨[.string ⟨#[]⟩, .slice none 0 0, .slice none 0 0, .slice none 0 0, .int .i64 0, .int .i64 0, .int .i64 0, .int .i64 0, .slice none 0 0, .slice none 0 0], 10, true⟩ : AObj)]) := .app _ _ _
        have b10 : hob (g5 ++ [some (⟨[.string ⟨#[]⟩, .slice none 0 0, .slice none 0 0, .slice none 0 0, .int .i64 0, .int .i64 0, .int .i64 0, .int .i64 0, .slice none 0 0, .slice none 0 0], 10, true⟩ : AObj)]) g5.length = some ⟨[.string ⟨#[]⟩, .slice none 0 0, .slice none 0 0, .slice none 0 0, .int .i64 0, .int .i64 0, .int .i64 0, .int .i64 0, .slice none 0 0, .slice none 0 0], 10, true⟩ := by simp [hob]
        have qkx1 : (g5 ++ [some (⟨[.string ⟨#[]⟩, .slice none 0 0, .slice none 0 0, .slice none 0 0, .int .i64 0, .int .i64 0, .int .i64 0, .int .i64 0, .slice none 0 0, .slice none 0 0], 10, true⟩ : AObj)]).length = g5.length + 1 := by simp
        have lkx1 := kx1.1
        have rB' := rB.kp0 kx1
        generalize g5 ++ [some (⟨[.string ⟨#[]⟩, .slice none 0 0, .slice none 0 0, .slice none 0 0, .int .i64 0, .int .i64 0, .int .i64 0, .int .i64 0, .slice none 0 0, .slice none 0 0], 10, true⟩ : AObj)] = hx2 at kx1 b10 qkx1 lkx1 rB' ⊢
        refine call1 (toMeasure_ac S) ?_
        simp -implicitDefEqProofs
        refine call0 (himpl rB') ?_
        rintro _ hx4 ⟨lS, LS, rfl, xS⟩ kx3
        have lkx3 := kx3.1
        have ltS := xS.1.lt
        replace b10 := hob_kp kx3 b10 (by simp)
        obtain ⟨hx6, ev, b10', e10, xS', kx5, n10⟩ := mn_put xS b10 rfl (by omega)
        have m10 : MT [] h g5.length := .inr (by omega)
        simp -implicitDefEqProofs [ev, m10]
        exact ⟨((kx1).trans kx3 (by simp)).trans kx5 (fun i hi => by simp at hi; subst hi; exact .inr (by omega)), fun j hj => by simp only [List.mem_cons, List.not_mem_nil, or_false] at hj; rcases hj with rfl | rfl | rfl | rfl | rfl | rfl | rfl <;> rfl, g5.length, lS, LS, rfl, rfl, e10, xS'.mono (by omega), (show g5.length ≤ g5.length by omega), (show g5.length < hx6.length by omega), fun hn => by have := xS.2.2 _ hn; omega⟩
    · rintro ⟨s', hR⟩ ⟨kQ, keepQ, i13, lR, LR, q13, q14, e13, xR, gi13, li13, ni13⟩
      have u1 : s' 1 = .int .i64 n := (keepQ 1 (by simp)).trans s1
      have u2 : s' 2 = .int .i64 sp := (keepQ 2 (by simp)).trans s2
      have u4 : s' 4 = .pointer (some ⟨h.length, 0, none⟩) := (keepQ 4 (by simp)).trans s4
      have u7 : s' 7 = .pointer (some ⟨h.length + 1, 0, none⟩) := (keepQ 7 (by simp)).trans s7
      have u10 : s' 10 = .pointer (some ⟨i10, 0, none⟩) := (keepQ 10 (by simp)).trans s10
      have u11 : s' 11 = .bool b := (keepQ 11 (by simp)).trans s11
      have u12 : s' 12 = .pointer (some ⟨h4.length, 0, none⟩) := keepQ 12 (by simp)
      replace q13 : s' 13 = .pointer (some ⟨i13, 0, none⟩) := q13
      replace q14 : s' 14 = .bool b := q14
      have lkQ := kQ.1
      have ltR := xR.1.lt
      have geR := xR.2.2
      have ndR := xR.2.1
      simp only at e13 li13 xR ltR lkQ kQ
      replace r0 := r0.kp0 kQ; replace e0 := hcs_kp0 kQ e0; replace e7 := hcs_kp0 kQ e7; replace e10 := hcs_kp0 kQ e10; replace e12 := hcs_kp0 kQ e12; replace rB := rB.kp0 kQ
      have rS := xS.1.kp0 kQ
      have rR := xR.1
      simp -implicitDefEqProofs [q13, u10, e13, e10]
      refine call1 (eqM_ac rR rS) ?_
      simp -implicitDefEqProofs [q14, u11, bin_neB, u12, u4, e12, e0]
      refine call0 (toF_ac r0 hsz) ?_
      rintro _ h22 ⟨lC, LC, rfl, rC, _, _⟩ k21
      have lk21 := k21.1
      replace r0 := r0.kp0 k21
      replace e0 := hcs_kp0 k21 e0
      replace e7 := hcs_kp0 k21 e7
      replace e10 := hcs_kp0 k21 e10
      replace e12 := hcs_kp0 k21 e12
      replace e13 := hcs_kp0 k21 e13
      replace rB := rB.kp0 k21
      replace rS := rS.kp0 k21
      replace rR := rR.kp0 k21
      simp -implicitDefEqProofs
      refine call1 (eqF_ac rB rC) ?_
      simp -implicitDefEqProofs [u12, e12]
      refine callK (markF_ac rB ndB hcf) (fun i hi => .inr (by have := geB i hi; omega)) ?_
      rintro _ h24 ⟨rfl, mB⟩ k23
      have lk23 := k23.1
      replace r0 := r0.kp k23 (fun i hi hn => by have := geB i hn; have := ltB i hn; have := lt0 i hi; omega)
      replace e0 := hcs_kp k23 e0 (fun hn => by have := geB _ hn; have := ltB _ hn; omega)
      replace e7 := hcs_kp k23 e7 (fun hn => by have := geB _ hn; have := ltB _ hn; omega)
      replace e10 := hcs_kp k23 e10 (fun hn => by have := geB _ hn; have := ltB _ hn; omega)
      replace e12 := hcs_kp k23 e12 (fun hn => by have := geB _ hn; have := ltB _ hn; omega)
      replace e13 := hcs_kp k23 e13 (fun hn => by have := geB _ hn; have := ltB _ hn; omega)
      replace rS := rS.kp k23 (fun i hi hn => by have := geB i hn; have := ltB i hn; have := ltS i hi; have := geS i hi; omega)
      replace rR := rR.kp k23 (fun i hi hn => by have := geB i hn; have := ltB i hn; have := ltR i hi; have := geR i hi; omega)
      simp -implicitDefEqProofs [show ¬ (1 + (cntF F : Int) < 0) by omega, q13, u10, e13, e10]
      refine call1 (eqM_ac rR rS) ?_
      simp -implicitDefEqProofs [q14, u11, bin_neB, q13, e13]
      refine callK (markM_ac rR ndR hcw) (fun i hi => .inr (by have := geR i hi; omega)) ?_
      rintro _ h26 ⟨rfl, mR⟩ k25
      have lk25 := k25.1
      replace r0 := r0.kp k25 (fun i hi hn => by have := geR i hn; have := ltR i hn; have := lt0 i hi; omega)
      replace e0 := hcs_kp k25 e0 (fun hn => by have := geR _ hn; have := ltR _ hn; omega)
      replace e7 := hcs_kp k25 e7 (fun hn => by have := geR _ hn; have := ltR _ hn; omega)
      replace e10 := hcs_kp k25 e10 (fun hn => by have := geR _ hn; have := ltR _ hn; omega)
      replace e12 := hcs_kp k25 e12 (fun hn => by have := geR _ hn; have := ltR _ hn; omega)
      replace e13 := hcs_kp k25 e13 ni13
      replace rS := rS.kp k25 (fun i hi hn => by have := geR i hn; have := ltR i hn; have := ltS i hi; have := geS i hi; omega)
      replace mB := mB.kp k25 (fun i hi hn => by have := geR i hn; have := ltR i hn; have := ltB i hi; have := geB i hi; omega)
      simp -implicitDefEqProofs [q13, e13]
      refine call1 (heldM_ac mR hcw) ?_
      simp -implicitDefEqProofs [show ¬ (1 + (cntM W : Int) < 0) by omega, u4, e0, u1, u2, u7, e7]
      refine XPl_post [10, 11, 13, 16] W (.bool b) 18 19 ?_ ?_
      · refine XPl_bc2 ?_ ?_
        · simp -implicitDefEqProofs
          refine call0 (toF_ac r0 hsz) ?_
          rintro _ hx2 ⟨lA, LA, rfl, rA, _, _⟩ kx1
          have lkx1 := kx1.1
          simp -implicitDefEqProofs
          refine XPl_bc2 ?_ ?_
          · simp -implicitDefEqProofs
            refine call1 (toMeasure_ac S) ?_
            simp -implicitDefEqProofs
            refine XPl_bc2 ?_ ?_
            · simp -implicitDefEqProofs
              refine call0 (himpl rA) ?_
              rintro _ hx4 ⟨lS, LS, rfl, xS⟩ kx3
              have lkx3 := kx3.1
              have ltS := xS.1.lt
              have hlenS := xS.1.len
              have honeS := xS.1.one
              have htS : lS.take 10 = lS := List.take_of_length_le (by omega)
              have kx5 : Kp [] hx4 (hx4 ++ [some (⟨lS, 10, true⟩ : AObj)]) := .app _ _ _
              have e10 : hcs (hx4 ++ [some (⟨lS, 10, true⟩ : AObj)]) hx4.length 0 10 = some lS := hcs_var hlenS
              have qkx5 : (hx4 ++ [some (⟨lS, 10, true⟩ : AObj)]).length = hx4.length + 1 := by simp
              have xS' := xS.kp0 kx5
              simp -implicitDefEqProofs [strV_var, hlenS, honeS, htS, mt_ge (show h.length ≤ hx4.length by omega)]
              exact ⟨((kx1).trans kx3 (by simp)).trans kx5 (by simp), fun j hj => by simp only [List.mem_cons, List.not_mem_nil, or_false] at hj; rcases hj with rfl | rfl | rfl | rfl <;> rfl, hx4.length, lS, LS, rfl, rfl, e10, xS'.mono (by omega), (show h26.length ≤ hx4.length by omega), (show hx4.length < (hx4 ++ [some (⟨lS, 10, true⟩ : AObj)]).length by omega), fun hn => by have := ltS _ hn; omega⟩
            · simp -implicitDefEqProofs
              have kx3 : Kp [] hx2 (hx2 ++ [some (⟨[.string ⟨#[]⟩, .slice none 0 0, .slice none 0 0, .slice none 0 0, .int .i64 0, .int .i64 0, .int .i64 0, .int .i64 0, .slice none 0 0, .slice none 0 0], 10, true⟩ : AObj)]) := .app _ _ _
              have b10 : hob (hx2 ++ [some (⟨[.string ⟨#[]⟩, .slice none 0 0, .slice none 0 0, .slice none 0 0, .int .i64 0, .int .i64 0, .int .i64 0, .int .i64 0, .slice none 0 0, .slice none 0 0], 10, true⟩ : AObj)]) hx2.length = some ⟨[.string ⟨#[]⟩, .slice none 0 0, .slice none 0 0, .slice none 0 0, .int .i64 0, .int .i64 0, .int .i64 0, .int .i64 0, .slice none 0 0, .slice none 0 0], 10, true⟩ := by simp [hob]
              have qkx3 : (hx2 ++ [some (⟨[.string ⟨#[]⟩, .slice none 0 0, .slice none 0 0, .slice none 0 0, .int .i64 0, .int .i64 0, .int .i64 0, .int .i64 0, .slice none 0 0, .slice none 0 0], 10, true⟩ : AObj)]).length = hx2.length + 1 := by simp
              have lkx3 := kx3.1
              have rA' := rA.kp0 kx3
              generalize hx2 ++ [some (⟨[.string ⟨#[]⟩, .slice none 0 0, .slice none 0 0, .slice none 0 0, .int .i64 0, .int .i64 0, .int .i64 0, .int .i64 0, .slice none 0 0, .slice none 0 0], 10, true⟩ : AObj)] = hx4 at kx3 b10 qkx3 lkx3 rA' ⊢
              refine call0 (himpl rA') ?_
              rintro _ hx6 ⟨lS, LS, rfl, xS⟩ kx5
              have lkx5 := kx5.1
              have ltS := xS.1.lt
              replace b10 := hob_kp kx5 b10 (by simp)
              obtain ⟨hx8, ev, b10', e10, xS', kx7, n10⟩ := mn_put xS b10 rfl (by omega)
              have m10 : MT [] h hx2.length := .inr (by omega)
              simp -implicitDefEqProofs [ev, m10]
              exact ⟨(((kx1).trans kx3 (by simp)).trans kx5 (by simp)).trans kx7 (fun i hi => by simp at hi; subst hi; exact .inr (by omega)), fun j hj => by simp only [List.mem_cons, List.not_mem_nil, or_false] at hj; rcases hj with rfl | rfl | rfl | rfl <;> rfl, hx2.length, lS, LS, rfl, rfl, e10, xS'.mono (by omega), (show h26.length ≤ hx2.length by omega), (show hx2.length < hx8.length by omega), fun hn => by have := xS.2.2 _ hn; omega⟩
          · simp -implicitDefEqProofs
            have kx3 : Kp [] hx2 (hx2 ++ [some (⟨[.string ⟨#[]⟩, .slice none 0 0, .slice none 0 0, .slice none 0 0, .int .i64 0, .int .i64 0, .int .i64 0, .int .i64 0, .slice none 0 0, .slice none 0 0], 10, true⟩ : AObj)]) := .app _ _ _
            have b10 : hob (hx2 ++ [some (⟨[.string ⟨#[]⟩, .slice none 0 0, .slice none 0 0, .slice none 0 0, .int .i64 0, .int .i64 0, .int .i64 0, .int .i64 0, .slice none 0 0, .slice none 0 0], 10, true⟩ : AObj)]) hx2.length = some ⟨[.string ⟨#[]⟩, .slice none 0 0, .slice none 0 0, .slice none 0 0, .int .i64 0, .int .i64 0, .int .i64 0, .int .i64 0, .slice none 0 0, .slice none 0 0], 10, true⟩ := by simp [hob]
            have qkx3 : (hx2 ++ [some (⟨[.string ⟨#[]⟩, .slice none 0 0, .slice none 0 0, .slice none 0 0, .int .i64 0, .int .i64 0, .int .i64 0, .int .i64 0, .slice none 0 0, .slice none 0 0], 10, true⟩ : AObj)]).length = hx2.length + 1 := by simp
            have lkx3 := kx3.1
            have rA' := rA.kp0 kx3
            generalize hx2 ++ [some (⟨[.string ⟨#[]⟩, .slice none 0 0, .slice none 0 0, .slice none 0 0, .int .i64 0, .int .i64 0, .int .i64 0, .int .i64 0, .slice none 0 0, .slice none 0 0], 10, true⟩ : AObj)] = hx4 at kx3 b10 qkx3 lkx3 rA' ⊢
            refine call1 (toMeasure_ac S) ?_
            simp -implicitDefEqProofs
            refine call0 (himpl rA') ?_
            rintro _ hx6 ⟨lS, LS, rfl, xS⟩ kx5
            have lkx5 := kx5.1
            have ltS := xS.1.lt
            replace b10 := hob_kp kx5 b10 (by simp)
            obtain ⟨hx8, ev, b10', e10, xS', kx7, n10⟩ := mn_put xS b10 rfl (by omega)
            have m10 : MT [] h hx2.length := .inr (by omega)
            simp -implicitDefEqProofs [ev, m10]
            exact ⟨(((kx1).trans kx3 (by simp)).trans kx5 (by simp)).trans kx7 (fun i hi => by simp at hi; subst hi; exact .inr (by omega)), fun j hj => by simp only [List.mem_cons, List.not_mem_nil, or_false] at hj; rcases hj with rfl | rfl | rfl | rfl <;> rfl, hx2.length, lS, LS, rfl, rfl, e10, xS'.mono (by omega), (show h26.length ≤ hx2.length by omega), (show hx2.length < hx8.length by omega), fun hn => by have := xS.2.2 _ hn; omega⟩
        · simp -implicitDefEqProofs
          have kx1 : Kp [] h26 (h26 ++ [some (⟨[.string ⟨#[]⟩, .slice none 0 0, .slice none 0 0, .slice none 0 0, .int .i64 0, .int .i64 0, .int .i64 0, .int .i64 0, .slice none 0 0, .slice none 0 0], 10, true⟩ : AObj)]) := .app _ _ _
          have b10 : hob (h26 ++ [some (⟨[.string ⟨#[]⟩, .slice none 0 0, .slice none 0 0, .slice none 0 0, .int .i64 0, .int .i64 0, .int .i64 0, .int .i64 0, .slice none 0 0, .slice none 0 0], 10, true⟩ : AObj)]) h26.length = some ⟨[.string ⟨#[]⟩, .slice none 0 0, .slice none 0 0, .slice none 0 0, .int .i64 0, .int .i64 0, .int .i64 0, .int .i64 0, .slice none 0 0, .slice none 0 0], 10, true⟩ := by simp [hob]
          have qkx1 : (h26 ++ [some (⟨[.string ⟨#[]⟩, .slice none 0 0, .slice none 0 0, .slice none 0 0, .int .i64 0, .int .i64 0, .int .i64 0, .int .i64 0, .slice none 0 0, .slice none 0 0], 10, true⟩ : AObj)]).length = h26.length + 1 := by simp
          have lkx1 := kx1.1
          have r0' := r0.kp0 kx1
          generalize h26 ++ [some (⟨[.string ⟨#[]⟩, .slice none 0 0, .slice none 0 0, .slice none 0 0, .int .i64 0, .int .i64 0, .int .i64 0, .int .i64 0, .slice none 0 0, .slice none 0 0], 10, true⟩ : AObj)] = hx2 at kx1 b10 qkx1 lkx1 r0' ⊢
          refine call0 (toF_ac r0' hsz) ?_
          rintro _ hx4 ⟨lA, LA, rfl, rA, _, _⟩ kx3
          have lkx3 := kx3.1
          replace b10 := hob_kp kx3 b10 (by simp)
          simp -implicitDefEqProofs
          refine call1 (toMeasure_ac S) ?_
          simp -implicitDefEqProofs
          refine call0 (himpl rA) ?_
          rintro _ hx6 ⟨lS, LS, rfl, xS⟩ kx5
          have lkx5 := kx5.1
          have ltS := xS.1.lt
          replace b10 := hob_kp kx5 b10 (by simp)
          obtain ⟨hx8, ev, b10', e10, xS', kx7, n10⟩ := mn_put xS b10 rfl (by omega)
          have m10 : MT [] h h26.length := .inr (by omega)
          simp -implicitDefEqProofs [ev, m10]
          exact ⟨(((kx1).trans kx3 (by simp)).trans kx5 (by simp)).trans kx7 (fun i hi => by simp at hi; subst hi; exact .inr (by omega)), fun j hj => by simp only [List.mem_cons, List.not_mem_nil, or_false] at hj; rcases hj with rfl | rfl | rfl | rfl <;> rfl, h26.length, lS, LS, rfl, rfl, e10, xS'.mono (by omega), (show h26.length ≤ h26.length by omega), (show h26.length < hx8.length by omega), fun hn => by have := xS.2.2 _ hn; omega⟩
      · rintro ⟨s2', hQ⟩ ⟨kW, keepW, i18, lQ, LQ, q18, q19, e18, xQ, _, _, _⟩
        have z10 : s2' 10 = .pointer (some ⟨i10, 0, none⟩) := (keepW 10 (by simp)).trans u10
        have z11 : s2' 11 = .bool b := (keepW 11 (by simp)).trans u11
        have z13 : s2' 13 = .pointer (some ⟨i13, 0, none⟩) := (keepW 13 (by simp)).trans q13
        have z16 : s2' 16 = .int .i64 (1 + cntM W) := keepW 16 (by simp)
        replace q18 : s2' 18 = .pointer (some ⟨i18, 0, none⟩) := q18
        replace q19 : s2' 19 = .bool b := q19
        simp only at e18 xQ kW
        replace rS := rS.kp0 kW; replace mR := mR.kp0 kW; replace e10 := hcs_kp0 kW e10; replace e13 := hcs_kp0 kW e13
        simp -implicitDefEqProofs [q18, z10, e18, e10]
        refine call1 (eqM_ac xQ.1 rS) ?_
        simp -implicitDefEqProofs [q19, z11, bin_neB, z13, e13]
        refine call1 (heldM_ac mR hcw) ?_
        simp -implicitDefEqProofs [show ¬ (1 + (cntM W : Int) < 0) by omega, z16]
end
theorem fnExactNewMachine_ac {h : Heap} {F : Fnt} {vW vC : Value} {LW LC : List Nat} {n sp : Int} (r : RF false h F vW vC LW LC) (hs : F.letters.size ≤ maxLen)
    (_ : (Lit.int .i64 n).wf = true) (_ : (Lit.int .i64 sp).wf = true) (S : Msr) : AC Try.prog 6 [fval F vW vC, .int .i64 n, .int .i64 sp, S.v] h [] fun r _ => r = .bool true :=
  newLaw ⟨_, _, _, _, rfl, r, rfl⟩ hs n sp S
end Go.Proofs.Ytpenocegikjpaaa
