/- Joined texts. -/
import Derived.Test.YtpenocegikjpaaaF3
/- Single cells stay. -/
set_option linter.unusedSimpArgs false
set_option linter.unusedVariables false
namespace Go.Ab
theorem hc1_kp {T : List Nat} {h h' : Heap} (k : Kp T h h') {i o : Nat} {v : Value} (e : hc1 h i o = some v) (hn : i ∉ T) : hc1 h' i o = some v := by
  unfold hc1 at e ⊢
  cases hb : hob h i with
  | none => rw [hb] at e; cases e
  | some ob => rw [hob_kp k hb hn]; rw [hb] at e; exact e
theorem hc1_kp0 {h h' : Heap} (k : Kp [] h h') {i o : Nat} {v : Value} (e : hc1 h i o = some v) : hc1 h' i o = some v := hc1_kp k e (by simp)
theorem nodup_C {A B C D E X : List Nat} (nd : (A ++ B ++ C ++ D ++ E).Nodup) (hx : X.Nodup) (dis : ∀ a ∈ X, ∀ b ∈ A ++ B ++ C ++ D ++ E, a ≠ b) : (A ++ B ++ X ++ D ++ E).Nodup := by
  have hp : ∀ {Y : List Nat}, (A ++ B ++ Y ++ D ++ E).Perm (Y ++ ((A ++ B) ++ (D ++ E))) := fun {Y} => by
    rw [← List.append_assoc Y, List.append_assoc (A ++ B ++ Y)]
    exact List.Perm.append_right _ List.perm_append_comm
  have nd1 := (hp (Y := C)).nodup_iff.1 nd
  refine (hp (Y := X)).nodup_iff.2 (List.nodup_append.2 ⟨hx, (List.nodup_append.1 nd1).2.1, fun a ha b hb => dis a ha b ?_⟩)
  simp only [List.mem_append] at hb ⊢
  rcases hb with (hb | hb) | (hb | hb) <;> simp [hb]
theorem nodup_D {A B C D E X : List Nat} (nd : (A ++ B ++ C ++ D ++ E).Nodup) (hx : X.Nodup) (dis : ∀ a ∈ X, ∀ b ∈ A ++ B ++ C ++ D ++ E, a ≠ b) : (A ++ B ++ C ++ X ++ E).Nodup := by
  have hp : ∀ {Y : List Nat}, (A ++ B ++ C ++ Y ++ E).Perm (Y ++ ((A ++ B ++ C) ++ E)) := fun {Y} => by
    rw [← List.append_assoc Y]
    exact List.Perm.append_right _ List.perm_append_comm
  have nd1 := (hp (Y := D)).nodup_iff.1 nd
  refine (hp (Y := X)).nodup_iff.2 (List.nodup_append.2 ⟨hx, (List.nodup_append.1 nd1).2.1, fun a ha b hb => dis a ha b ?_⟩)
  simp only [List.mem_append] at hb ⊢
  rcases hb with ((hb | hb) | hb) | hb <;> simp [hb]
/-- The lists but the fourth are apart from it. -/
theorem apart_D {A B C D E : List Nat} (nd : (A ++ B ++ C ++ D ++ E).Nodup) : (∀ i ∈ A, i ∉ D) ∧ (∀ i ∈ B, i ∉ D) ∧ (∀ i ∈ C, i ∉ D) ∧ ∀ i ∈ E, i ∉ D := by
  obtain ⟨n1, _, n3⟩ := List.nodup_append.1 nd
  obtain ⟨m1, _, m3⟩ := List.nodup_append.1 n1
  refine ⟨fun i hi hn => m3 i (by simp [hi]) i hn rfl, fun i hi hn => m3 i (by simp [hi]) i hn rfl, fun i hi hn => m3 i (by simp [hi]) i hn rfl, fun i hi hn => n3 i (by simp [hn]) i hi rfl⟩
/-- A machine's line, a matrix longer: the line's cell is written anew. -/
theorem line_more {H : Heap} {M : Mch} {i6 : Nat} {vW vC vM vL vQ : Value} {LW LC LM LL LQ : List Nat} (r : RM true H M vW vC vM vL vQ LW LC LM LL LQ) (nd : (LW ++ LC ++ LM ++ LL ++ LQ).Nodup) (hi : ∀ i ∈ LW ++ LC ++ LM ++ LL ++ LQ, i ≠ i6)
    (b : hob H i6 = some ⟨mcells M vW vC vM vL vQ, 10, true⟩) (x : Mx) (hl : M.line.length ≤ 1048576) :
    ∃ T vN H1 H2 LN, appV 2 16 vL (.slice (some ⟨H.length, 0, none⟩) 1 1) (H ++ [some ⟨[.int .i64 x.1, .int .i64 x.2], 2, true⟩]) = some (T, vN, H1) ∧ strV 1 (.pointer (some ⟨i6, 8, none⟩)) vN H1 = some ([i6], undef, H2) ∧
      (∀ i ∈ T, i ∈ LL) ∧ Kp (i6 :: LL) H H2 ∧ H.length ≤ H2.length ∧ hob H2 i6 = some ⟨mcells { M with line := M.line ++ [x] } vW vC vM vN vQ, 10, true⟩ ∧ RM true H2 { M with line := M.line ++ [x] } vW vC vM vN vQ LW LC LM LN LQ ∧
      (LW ++ LC ++ LM ++ LN ++ LQ).Nodup ∧ (∀ i ∈ LN, H.length ≤ i) := by
  obtain ⟨T, vN, H1, LN, e1, q1, k1, t1, l1, n1, lt1⟩ := r.rL.app1 (by_ := 16) x (by unfold big; omega) (by omega) EX_one
  simp only [EX_es, EX_e] at e1
  have h6 : i6 ∉ LL := fun hn => hi i6 (by simp [hn]) rfl
  have b1 := hob_kp k1 b h6
  obtain ⟨H2, e2, b2, k2, n2⟩ := strV_cell (j := 8) b1 (by simp [mcells]) q1.cells q1.one
  obtain ⟨d1, d2, d3, d4⟩ := apart_D nd
  have hlt := hob_lt b
  have kk : Kp (i6 :: LL) H H2 := (k1.mono (U := i6 :: LL) (fun i hi => by simp [hi])).trans k2 (by simp)
  have cc : ∀ {L : List Nat}, (∀ i ∈ L, i ∉ LL) → (∀ i ∈ L, i ∈ LW ++ LC ++ LM ++ LL ++ LQ) → ∀ i ∈ L, i ∉ i6 :: LL := fun a b i hi' hn => by
    rcases List.mem_cons.1 hn with h | h
    · exact hi i (b i hi') h
    · exact a i hi' h
  have rlt := r.lt
  refine ⟨T, vN, H1, H2, LN, e1, e2, t1, kk, by omega, b2, ⟨r.rW.kp kk (cc d1 fun i hi => by simp [hi]), r.rC.kp kk (cc d2 fun i hi => by simp [hi]), r.rM.kp kk (cc d3 fun i hi => by simp [hi]), q1.kp k2 (fun i hi hn => by have := l1 i hi; simp at hn; omega), r.rQ.kp kk (cc d4 fun i hi => by simp [hi])⟩,
    nodup_D nd n1 (fun a ha b hb e => by have := l1 a ha; have := rlt b hb; omega), l1⟩
end Go.Ab

/- A machine's variable: the magazine's cell, the spare bands' cell written. -/
set_option linter.unusedSimpArgs false
set_option linter.unusedVariables false
namespace Go.Ab
section
variable {H : Heap} {M : Mch} {i6 : Nat} {vW vC vM vL vQ : Value} {LW LC LM LL LQ : List Nat}
theorem mag_new (r : RM true H M vW vC vM vL vQ LW LC LM LL LQ) (nd : (LW ++ LC ++ LM ++ LL ++ LQ).Nodup) (hi : ∀ i ∈ LW ++ LC ++ LM ++ LL ++ LQ, i ≠ i6)
    (b : hob H i6 = some ⟨mcells M vW vC vM vL vQ, 10, true⟩) {vX : Value} {m' : List (List Mx)} {LX : List Nat} (x : RXX true H vX m' LX) (ndX : LX.Nodup) (hx : ∀ i ∈ LX, i ≠ i6) (dis : ∀ a ∈ LX, ∀ b ∈ LW ++ LC ++ LM ++ LL ++ LQ, a ≠ b) :
    ∃ H2, strV 1 (.pointer (some ⟨i6, 3, none⟩)) vX H = some ([i6], undef, H2) ∧ Kp [i6] H H2 ∧ H2.length = H.length ∧ hob H2 i6 = some ⟨mcells { M with mag := m' } vW vC vX vL vQ, 10, true⟩ ∧ RM true H2 { M with mag := m' } vW vC vX vL vQ LW LC LX LL LQ ∧
      (LW ++ LC ++ LX ++ LL ++ LQ).Nodup := by
  obtain ⟨H2, e2, b2, k2, n2⟩ := strV_cell (j := 3) b (by simp [mcells]) x.cells x.one
  have cc : ∀ {L : List Nat}, (∀ i ∈ L, i ≠ i6) → ∀ i ∈ L, i ∉ [i6] := fun a i hi hn => by simp at hn; exact a i hi hn
  refine ⟨H2, e2, k2, n2, b2, ⟨r.rW.kp k2 (cc fun i h => hi i (by simp [h])), r.rC.kp k2 (cc fun i h => hi i (by simp [h])), x.kp k2 (cc hx), r.rL.kp k2 (cc fun i h => hi i (by simp [h])), r.rQ.kp k2 (cc fun i h => hi i (by simp [h]))⟩, nodup_C nd ndX dis⟩
theorem spare_set (r : RM true H M vW vC vM vL vQ LW LC LM LL LQ) (hi : ∀ i ∈ LW ++ LC ++ LM ++ LL ++ LQ, i ≠ i6)
    (b : hob H i6 = some ⟨mcells M vW vC vM vL vQ, 10, true⟩) (n : Int) :
    ∃ H2, strV 1 (.pointer (some ⟨i6, 4, none⟩)) (.int .i64 n) H = some ([i6], undef, H2) ∧ Kp [i6] H H2 ∧ H2.length = H.length ∧ hob H2 i6 = some ⟨mcells { M with spare := n } vW vC vM vL vQ, 10, true⟩ ∧ RM true H2 { M with spare := n } vW vC vM vL vQ LW LC LM LL LQ := by
  obtain ⟨H2, e2, b2, k2, n2⟩ := strV_cell (j := 4) (v := .int .i64 n) b (by simp [mcells]) rfl rfl
  have cc : ∀ {L : List Nat}, (∀ i ∈ L, i ≠ i6) → ∀ i ∈ L, i ∉ [i6] := fun a i hi hn => by simp at hn; exact a i hi hn
  exact ⟨H2, e2, k2, n2, b2, ⟨r.rW.kp k2 (cc fun i h => hi i (by simp [h])), r.rC.kp k2 (cc fun i h => hi i (by simp [h])), r.rM.kp k2 (cc fun i h => hi i (by simp [h])), r.rL.kp k2 (cc fun i h => hi i (by simp [h])), r.rQ.kp k2 (cc fun i h => hi i (by simp [h]))⟩⟩
end
section
variable {P : Program} {M : Nat → Prop} {tm : Nat → Value} {h : Heap} {R : St → Prop}
/-- Two orders are left open. -/
theorem XPl_bo2 {i : Nat} {u : List Nat} {d : Option Nat} {op : POp} {p more : Plan} {hd : List (Nat × Nat)} (h1 : ob (aop P tm h op) M (brK P M u d p hd tm R)) (h2 : XPl P M more hd ⟨tm, h⟩ R) : XPl P M (.br i u (.o d none op) p more) hd ⟨tm, h⟩ R := by
  rw [← XO_ob] at h1
  exact ⟨h1, h2⟩
theorem XPl_bc2 {i : Nat} {u : List Nat} {d : Option Nat} {f : PO} {xs : List PO} {p more : Plan} {hd : List (Nat × Nat)} (h1 : cl P M (f.ev tm) (xs.map (·.ev tm)) h (brK P M u d p hd tm R)) (h2 : XPl P M more hd ⟨tm, h⟩ R) : XPl P M (.br i u (.c d none f xs) p more) hd ⟨tm, h⟩ R := ⟨h1, h2⟩
end
end Go.Ab

/- Machines in memory of their own, moved between variables. -/
set_option linter.unusedSimpArgs false
set_option linter.unusedVariables false
namespace Go.Ab
theorem MN.kp0 {n : Nat} {h h' : Heap} {l : List Value} {M : Mch} {L : List Nat} (x : MN n h l M L) (k : Kp [] h h') : MN n h' l M L := x.kp k (by simp)
@[simp] theorem readId_cnv {tm : Nat → Value} {s d : TypeId} {x : PO} : readId tm (.cnv s d x) = none := rfl
@[simp] theorem readId_ixs {tm : Nat → Value} {t : TypeId} {x i : PO} : readId tm (.ixs t x i) = none := rfl
@[simp] theorem readId_sl {tm : Nat → Value} {es : Nat} {x : PO} {lo hi mx : Option PO} : readId tm (.sl es x lo hi mx) = none := rfl
@[simp] theorem readId_pick {tm : Nat → Value} {c a b : PO} : readId tm (.pick c a b) = none := rfl
@[simp] theorem readId_lns {tm : Nat → Value} {x : PO} : readId tm (.lns x) = none := rfl
/-- A variable gets the cells of a machine. -/
theorem mn_put {n z : Nat} {g : Heap} {M : Mch} {l c : List Value} {L : List Nat} (x : MN n g l M L) (b : hob g z = some ⟨c, 10, true⟩) (hc : c.length = 10) (hz : z < n) :
    ∃ g', strV 10 (.pointer (some ⟨z, 0, none⟩)) (.agg l.toArray) g = some ([z], undef, g') ∧ hob g' z = some ⟨l, 10, true⟩ ∧ hcs g' z 0 10 = some l ∧ MN n g' l M L ∧ Kp [z] g g' ∧ g'.length = g.length := by
  obtain ⟨g', e, b', k, hl⟩ := strV_full b hc (l := l) x.1.len x.1.one
  exact ⟨g', e, b', hcs_full b' x.1.len, x.kp k (fun i hi hn => by have := x.2.2 i hi; simp at hn; omega), k, hl⟩
theorem szM_ok {M : Mch} (h : mchB M = true) : szM M ≤ 2000 := by
  obtain ⟨h1, h2, h3, h4, h5, h6⟩ := mchB_parts h
  obtain ⟨m1, m2, m3⟩ := magB_mem h1
  obtain ⟨n1, n2, n3, n4⟩ := fontB_n (magB_fn h1)
  have hl := mchB_line h
  have hf := flat_len m2
  have hs : (M.mag.map List.length).sum = M.mag.flatten.length := by simp
  have hn : M.font.n = M.font.letters.size := rfl
  unfold szM szF szXX
  omega
end Go.Ab

/- Contracts: which letter a key is. -/
set_option linter.unusedSimpArgs false
set_option linter.unusedVariables false
set_option maxHeartbeats 1000000
namespace Go.Proofs.Ytpenocegikjpaaa
open Go.Ab
def keyP (c : Int) (x : UInt8) : Bool := decide ((x.toNat : Int) = c)
section
set_option maxRecDepth 100000
theorem cnvB {h : Heap} (x : UInt8) : cnvV Try.prog 5 3 (.int .u8 x.toNat) h = some ([], .int .i64 x.toNat, h) := by
  have hx := x.toNat_lt
  have hw : IntKind.wrap .i64 (x.toNat : Int) = x.toNat := wrap_in (by omega)
  have : pvc Try.prog (convert 5 3 (.int .u8 x.toNat)) = some (.int .i64 x.toNat) := by
    simp [pvc, convert, underlying, program, bind, Sem.bind, pv, Try.underlying5, Try.underlying3, pure, Conv.intToInt, hw, closedB, atomB]
  unfold cnvV
  rw [this]
  simp [closedB, atomB]
end
section
variable {w : Bool} {h : Heap} {F : Fnt} {vW vC : Value} {LW LC : List Nat}
theorem implKey_ac (r : RF w h F vW vC LW LC) (hs : F.letters.size ≤ 1048576) (c : Int) : AC Try.prog 82 [fval F vW vC, .int .i64 c] h [] fun r h' => r = .int .i64 (idxI F.ls (keyP c)) ∧ h' = h := by
  refine AC_v rfl ?_
  refine ac82 (by simp [p82]) ?_
  simp -implicitDefEqProofs [p82, fval, fcells, r.rW.one, r.rC.one]
  have hn : (F.letters.size : Int) = F.n := rfl
  have hb1 : hob (h ++ [some ⟨[.string F.letters, vW, vC], 3, true⟩]) h.length = some ⟨[.string F.letters, vW, vC], 3, true⟩ := by simp
  have kb : Kp [] h (h ++ [some ⟨[.string F.letters, vW, vC], 3, true⟩]) := .app _ _ _
  generalize h ++ [some (⟨[.string F.letters, vW, vC], 3, true⟩ : AObj)] = g at hb1 kb ⊢
  have hN : F.n ≤ big := by unfold big Fnt.n; omega
  refine range r82_0 kb F.n hN (by simp [hn]) (by simp) (fun k s h1 => NoneTo (keyP c) F.ls k ∧ h1 = g) ⟨.zero, rfl⟩ ?_ ?_
  · rintro k s h1 hk hi ⟨ha, rfl⟩ kp
    have hk1 : k < F.ls.length := by rw [F.ls_len]; exact hk
    have ek : F.letters.data.toList[k] = F.ls[k] := rfl
    have es := ixs_at Try.underlying9 hk1
    simp -implicitDefEqProofs [b82_0, L82_0, hi, hc1_hob hb1, es, ek, cnvB]
    by_cases hc : (F.ls[k].toNat : Int) = c
    · have hp : keyP c F.ls[k] = true := by simp [keyP, hc]
      simp -implicitDefEqProofs [hc, ha.idxI hk1 hp]
    · have hp : keyP c F.ls[k] = false := by simp [keyP, hc]
      simp -implicitDefEqProofs [hc]
      exact ha.step hk1 hp
  · rintro s h1 hi ⟨ha, rfl⟩ kp
    have : idxI F.ls (keyP c) = -1 := NoneTo.noIdx (by rw [F.ls_len]; exact ha)
    simp -implicitDefEqProofs [L82_0, this]
theorem specKeyOf_ac (r : RF w h F vW vC LW LC) (hF : fontB F = true) (c : Int) : AC Try.prog 140 [fval F vW vC, .int .i64 c] h [] fun r h' => r = .int .i64 (idxI F.ls (keyP c)) ∧ h' = h := by
  refine AC_v rfl ?_
  refine ac140 (by simp [p140]) ?_
  obtain ⟨n1, n2, n3, n4⟩ := fontB_n hF
  simp -implicitDefEqProofs [p140, fval, fcells, r.rW.one, r.rC.one]
  refine call1 (specFontOk_ac (r.kp0 (.app _ _ _))) ?_
  simp -implicitDefEqProofs [hF]
  have hn : (F.letters.size : Int) = F.n := rfl
  have hb1 : hob (h ++ [some ⟨[.string F.letters, vW, vC], 3, true⟩]) h.length = some ⟨[.string F.letters, vW, vC], 3, true⟩ := by simp
  have kb : Kp [] h (h ++ [some ⟨[.string F.letters, vW, vC], 3, true⟩]) := .app _ _ _
  generalize h ++ [some (⟨[.string F.letters, vW, vC], 3, true⟩ : AObj)] = g at hb1 kb ⊢
  have hN : F.n ≤ big := by unfold big Fnt.n; omega
  refine forUp f140_0 kb F.n hN (by simp) (fun k s h1 => NoneTo (keyP c) F.ls k ∧ h1 = g) ⟨.zero, rfl⟩ ?_ ?_ ?_
  · rintro k s h1 hk hi ⟨ha, rfl⟩ kp
    simp -implicitDefEqProofs [C140_0, L140_0, K140_0, hi, hc1_hob hb1, hn]
  · rintro k s s2 h1 hk hi ⟨ha, rfl⟩ kp
    have hk1 : k < F.ls.length := by rw [F.ls_len]; exact hk
    have ek : F.letters.data.toList[k] = F.ls[k] := rfl
    have es := ixs_at Try.underlying9 hk1
    simp -implicitDefEqProofs [b140_0, L140_0, K140_0, hi, hc1_hob hb1, es, ek, cnvB]
    by_cases hc : (F.ls[k].toNat : Int) = c
    · have hp : keyP c F.ls[k] = true := by simp [keyP, hc]
      simp -implicitDefEqProofs [hc, ha.idxI hk1 hp, hi]
    · have hp : keyP c F.ls[k] = false := by simp [keyP, hc]
      simp -implicitDefEqProofs [hc]
      exact ha.step hk1 hp
  · rintro s s2 h1 hi ⟨ha, rfl⟩ kp
    have : idxI F.ls (keyP c) = -1 := NoneTo.noIdx (by rw [F.ls_len]; exact ha)
    simp -implicitDefEqProofs [L140_0, K140_0, this]
/-- The first matrix of a channel is taken. -/
def takeM (F : Fnt) (m : List (List Mx)) (c : Int) : Option (List (List Mx) × Mx) :=
  if magB F m = true ∧ 0 ≤ c ∧ c < m.length then match m.getD c.toNat [] with
    | [] => none
    | x :: rest => some (m.set c.toNat rest, x) else none
def TakeR (n : Nat) (o : Option (List (List Mx) × Mx)) (r : Value) (h' : Heap) : Prop := match o with
  | none => r = .tuple #[.slice none 0 0, .agg #[.int .i64 0, .int .i64 0], .bool false]
  | some (m', x) => ∃ v, r = .tuple #[v, .agg #[.int .i64 x.1, .int .i64 x.2], .bool true] ∧ NX n h' v m'
theorem specTake_ac {w' : Bool} {vM : Value} {LM : List Nat} {m : List (List Mx)} (r : RF w h F vW vC LW LC) (rm : RXX w' h vM m LM) (c : Int) :
    AC Try.prog 139 [fval F vW vC, vM, .int .i64 c] h [] fun r h' => TakeR h.length (takeM F m c) r h' := by
  refine ac139 (by simp [p139]) ?_
  simp -implicitDefEqProofs [p139, fval, fcells, r.rW.one, r.rC.one]
  have kb : Kp [] h (h ++ [some ⟨[.string F.letters, vW, vC], 3, true⟩, some ⟨[.int .i64 0, .int .i64 0], 2, true⟩]) := .app [] h _
  have bT : hob (h ++ [some ⟨[.string F.letters, vW, vC], 3, true⟩, some ⟨[.int .i64 0, .int .i64 0], 2, true⟩]) (h.length + 1) = some ⟨[.int .i64 0, .int .i64 0], 2, true⟩ := by simp [hob]
  have kl := kb.1
  have r1 := r.kp0 kb
  have rm1 := rm.kp0 kb
  have mT : MT [] h (h.length + 1) := .inr (by omega)
  have gl : (h ++ [some (⟨[.string F.letters, vW, vC], 3, true⟩ : AObj), some ⟨[.int .i64 0, .int .i64 0], 2, true⟩]).length = h.length + 2 := by simp
  generalize h ++ [some (⟨[.string F.letters, vW, vC], 3, true⟩ : AObj), some ⟨[.int .i64 0, .int .i64 0], 2, true⟩] = g at kb bT kl r1 rm1 gl ⊢
  obtain ⟨gz, ez, bz, kz, _⟩ := strV_full bT rfl (l := [.int .i64 0, .int .i64 0]) rfl (by simp)
  have hcz := hcs_full bz rfl
  refine call1 (specMagOk_ac r1 rm1) ?_
  cases hm : magB F m
  · have hn : takeM F m c = none := if_neg fun ⟨a, _⟩ => by rw [hm] at a; cases a
    rw [hn]
    simp -implicitDefEqProofs [bldV, fillA, ez, mT, resA_2, resA1, hcz, TakeR]
  obtain ⟨m1, m2, m3⟩ := magB_mem hm
  obtain ⟨n1, n2, n3, n4⟩ := fontB_n (magB_fn hm)
  have w1 : IntKind.wrap .i64 ((m.length : Int) - 1) = m.length - 1 := wrap_in (by omega)
  simp -implicitDefEqProofs [rm1.len, w1]
  refine call1 (l1In_ac _ _ _) ?_
  cases hc : inB c 0 (m.length - 1)
  · have hn : takeM F m c = none := if_neg fun ⟨_, a⟩ => by simp [inB] at hc; omega
    rw [hn]
    simp -implicitDefEqProofs [bldV, fillA, ez, mT, resA_2, resA1, hcz, TakeR]
  have hc' : 0 ≤ c ∧ c < m.length := by simp [inB] at hc; omega
  obtain ⟨q, rfl⟩ : ∃ q : Nat, c = q := ⟨c.toNat, by omega⟩
  have hq : q < m.length := by omega
  have hq20 := m2 _ (List.getElem_mem hq)
  obtain ⟨i, o, u, L1, ea, la, ru, _⟩ := rm1.at hq
  have htk : takeM F m q = match m[q] with | [] => none | x :: rest => some (m.set q rest, x) := by
    unfold takeM
    rw [if_pos ⟨hm, hc'⟩, Int.toNat_natCast, getD_at hq]
  rw [htk]
  by_cases h0 : m[q].length = 0
  · have h0' : m[q] = [] := List.eq_nil_of_length_eq_zero h0
    rw [h0']
    simp -implicitDefEqProofs [ea, la, ru.len, h0, bldV, fillA, ez, mT, resA_2, resA1, hcz, TakeR]
  obtain ⟨x, rest, hxr⟩ : ∃ x rest, m[q] = x :: rest := by
    cases hh : m[q] with
    | nil => rw [hh] at h0; exact absurd rfl h0
    | cons x rest => exact ⟨x, rest, rfl⟩
  have h0' : ¬ (m[q].length : Int) = 0 := by omega
  simp -implicitDefEqProofs [ea, la, ru.len, h0, h0']
  refine call0 (specCopyMag_ac rm1 (by omega) (fun l hl => by have := m2 l hl; omega)) ?_
  rintro vX g1 nx k1
  obtain ⟨j, p, t, Lt, eb, lb, rt, gt, gj, jl, jn, put⟩ := nx.put hq
  obtain ⟨i2, o2, ec, lc, _⟩ := rt.atX (k := 0) (by omega)
  have hx0 : m[q][0]'(by omega) = x := by simp [hxr]
  rw [hx0] at lc
  have ec0 : ∀ h', ixaV 2 t (.int .i64 0) h' = some ([], .pointer (some ⟨i2, o2, none⟩), h') := ec
  have kg1 := k1.1
  have k2 : Kp [] g1 (g1 ++ [some ⟨[.int .i64 x.1, .int .i64 x.2], 2, true⟩]) := .app [] g1 _
  have lb2 := hc1_kp0 k2 lb
  have bT2 := hob_kp k2 (hob_kp k1 bT (by simp)) (by simp)
  have hcx : hcs (g1 ++ [some ⟨[.int .i64 x.1, .int .i64 x.2], 2, true⟩]) g1.length 0 2 = some [.int .i64 x.1, .int .i64 x.2] := hcs_var rfl
  have rt2 := rt.kp0 k2
  obtain ⟨t', es, rs⟩ := rt2.sub rt2.fit (lo := some (.int .i64 1)) (hi := none) (a := 1) (b := m[q].length) rfl rfl (by omega) (Nat.le_refl _)
  have hrest : (m[q].drop 1).take (m[q].length - 1) = rest := by simp [hxr]
  rw [hrest] at rs
  simp only [EX_es] at es
  obtain ⟨g3, e3, nx3, k3⟩ := put _ t' rest Lt (Kp.app Lt g1 _) rs (fun i hi => .inl hi)
  have m2' : MT [] h g1.length := .inr (by omega)
  have mj : MT [] h j := .inr (by omega)
  have hcx3 := hcs_kp k3 hcx (fun hn => by simp at hn; omega)
  have bT3 := hob_kp k3 bT2 (by simp; omega)
  obtain ⟨g4, e4, b4, k4, _⟩ := strV_full bT3 rfl (l := [.int .i64 x.1, .int .i64 x.2]) rfl (by simp)
  have hc4 := hcs_full b4 rfl
  obtain ⟨L, a, b, c⟩ := nx3.kp k4 (by simp; omega)
  have nx4 : NX h.length g4 vX (m.set q rest) := ⟨L, a, b, fun i hi => by have := c i hi; omega⟩
  rw [hxr]
  simp -implicitDefEqProofs [eb, lb, ec0, lc, strV_new, mt_ge (show h.length ≤ g1.length by omega), lb2, es, e3, mj, hcx3, e4, mT, hc4, resA_2, resA1, TakeR]
  exact nx4
end
end Go.Proofs.Ytpenocegikjpaaa

/- Contracts: a key struck (the reference's). -/
set_option linter.unusedSimpArgs false
set_option linter.unusedVariables false
set_option maxHeartbeats 1000000
namespace Go.Proofs.Ytpenocegikjpaaa
open Go.Ab
/-- A key struck, as the reference reckons. -/
def keyS (M : Mch) (c : Int) : Option Mch :=
  if c = 32 then (if mchB { M with spare := M.spare - 1, line := M.line ++ [(-1, 0)] } = true then some { M with spare := M.spare - 1, line := M.line ++ [(-1, 0)] } else none)
  else match takeM M.font M.mag (idxI M.font.ls (keyP c)) with
    | none => none
    | some (m', x) => if mchB { M with mag := m', line := M.line ++ [x] } = true then some { M with mag := m', line := M.line ++ [x] } else none
def KeyR (n : Nat) (o : Option Mch) (r : Value) (h' : Heap) : Prop := match o with
  | none => ∃ l, r = .tuple #[.agg l.toArray, .bool false] ∧ l.length = 10 ∧ oneAll l = true
  | some M' => ∃ l L, r = .tuple #[.agg l.toArray, .bool true] ∧ MN n h' l M' L
section
variable {w : Bool} {h : Heap} {M : Mch} {vW vC vM vL vQ : Value} {LW LC LM LL LQ : List Nat}
theorem specL5Key_ac (r : RM w h M vW vC vM vL vQ LW LC LM LL LQ) (hl : szM M ≤ 1048576) (hM : mchB M = true) (c : Int) :
    AC Try.prog 110 [mval M vW vC vM vL vQ, .int .i64 c] h [] fun r h' => KeyR h.length (keyS M c) r h' := by
  refine ac110 (by simp [p110]) ?_
  have kb : Kp [] h (h ++ [some ⟨mcells M vW vC vM vL vQ, 10, true⟩, some ⟨zcells, 10, true⟩]) := .app [] h _
  have r1 := r.kp0 kb
  have bV : hob (h ++ [some ⟨mcells M vW vC vM vL vQ, 10, true⟩, some ⟨zcells, 10, true⟩]) h.length = some ⟨mcells M vW vC vM vL vQ, 10, true⟩ := by simp [hob]
  have bZ : hob (h ++ [some ⟨mcells M vW vC vM vL vQ, 10, true⟩, some ⟨zcells, 10, true⟩]) (h.length + 1) = some ⟨zcells, 10, true⟩ := by simp [hob]
  have kl := kb.1
  have gl : (h ++ [some (⟨mcells M vW vC vM vL vQ, 10, true⟩ : AObj), some ⟨zcells, 10, true⟩]).length = h.length + 2 := by simp
  simp -implicitDefEqProofs [p110, mval, mcells, zcells, r.rW.one, r.rC.one, r.rM.one, r.rL.one, r.rQ.one]
  simp only [mcells, zcells] at kb r1 bV bZ kl gl
  generalize h ++ [some (⟨[.string M.font.letters, vW, vC, vM, .int .i64 M.spare, .int .i64 M.msr.width, .int .i64 M.msr.thin, .int .i64 M.msr.thick, vL, vQ], 10, true⟩ : AObj), some ⟨[.string ⟨#[]⟩, .slice none 0 0, .slice none 0 0, .slice none 0 0, .int .i64 0, .int .i64 0, .int .i64 0, .int .i64 0, .slice none 0 0, .slice none 0 0], 10, true⟩] = g0 at kb r1 bV bZ kl gl ⊢
  have mV : MT [] h h.length := .inr (Nat.le_refl _)
  have mZ : MT [] h (h.length + 1) := .inr (by omega)
  refine call0 (specCopy_ac r1 hl) ?_
  rintro _ g2 ⟨vW', vC', vM', vL', vQ', LW', LC', LM', LL', LQ', rfl, rc, ndc, gec⟩ k2
  replace r1 := r1.kp0 k2; replace bV := hob_kp k2 bV (by simp); replace bZ := hob_kp k2 bZ (by simp)
  have kl2 := k2.1
  have ltc := rc.lt
  have oS : ∀ i ∈ LW ++ LC ++ LM ++ LL ++ LQ, i < g2.length := fun i hi => by have := r.lt i hi; omega
  have o1 : oneAll (mcells M vW' vC' vM' vL' vQ') = true := by simp [mcells, rc.rW.one, rc.rC.one, rc.rM.one, rc.rL.one, rc.rQ.one]
  have ev : strV 10 (.pointer (some ⟨g2.length, 0, none⟩)) (.agg (mcells M vW' vC' vM' vL' vQ').toArray) (g2 ++ [some ⟨zcells, 10, true⟩]) = some ([g2.length], undef, g2 ++ [some ⟨mcells M vW' vC' vM' vL' vQ', 10, true⟩]) := strV_var rfl rfl o1
  have ka : Kp [] g2 (g2 ++ [some ⟨mcells M vW' vC' vM' vL' vQ', 10, true⟩, some ⟨[.int .i64 (-1), .int .i64 0], 2, true⟩]) := .app _ _ _
  have gla : (g2 ++ [some (⟨mcells M vW' vC' vM' vL' vQ', 10, true⟩ : AObj), some ⟨[.int .i64 (-1), .int .i64 0], 2, true⟩]).length = g2.length + 2 := by simp
  have b6 : hob (g2 ++ [some ⟨mcells M vW' vC' vM' vL' vQ', 10, true⟩, some ⟨[.int .i64 (-1), .int .i64 0], 2, true⟩]) g2.length = some ⟨mcells M vW' vC' vM' vL' vQ', 10, true⟩ := by simp [hob]
  have b7 : hob (g2 ++ [some ⟨mcells M vW' vC' vM' vL' vQ', 10, true⟩, some ⟨[.int .i64 (-1), .int .i64 0], 2, true⟩]) (g2.length + 1) = some ⟨[.int .i64 (-1), .int .i64 0], 2, true⟩ := by simp [hob]
  replace bZ := hob_kp ka bZ (by simp); replace bV := hob_kp ka bV (by simp); replace rc := rc.kp0 ka; replace r1 := r1.kp0 ka
  have m6 : MT [] h g2.length := .inr (by omega)
  have m7 : MT [] h (g2.length + 1) := .inr (by omega)
  simp only [mcells, zcells] at ev ka gla b6 b7 bZ bV rc r1
  simp -implicitDefEqProofs [mval, mcells, ev, m6, m7, bldV, fillA, strV_new]
  simp -implicitDefEqProofs [strV, m7]
  generalize g2 ++ [some (⟨[.string M.font.letters, vW', vC', vM', .int .i64 M.spare, .int .i64 M.msr.width, .int .i64 M.msr.thin, .int .i64 M.msr.thick, vL', vQ'], 10, true⟩ : AObj), some ⟨[.int .i64 (-1), .int .i64 0], 2, true⟩] = g3 at ka gla b6 b7 bZ bV rc r1 ⊢
  have hcV := hcs_full bV rfl
  by_cases hc : c = 32
  · subst hc
    have c4 : hc1 g3 g2.length 4 = some (.int .i64 M.spare) := by rw [hc1_hob b6]; rfl
    obtain ⟨p1, p2, p3, p4, p5, p6⟩ := mchB_parts hM
    have w1 : IntKind.wrap .i64 (M.spare - 1) = M.spare - 1 := wrap_in (by omega)
    have hne : ∀ i ∈ LW' ++ LC' ++ LM' ++ LL' ++ LQ', i ≠ g2.length := fun i hi => by have := ltc i hi; omega
    obtain ⟨Ha, ea, kA, nA, b6a, ra⟩ := spare_set rc hne b6 (M.spare - 1)
    replace b7 := hob_kp kA b7 (by simp); replace bV := hob_kp kA bV (by simp; omega); replace bZ := hob_kp kA bZ (by simp; omega)
    replace r1 := r1.kp kA (fun i hi hn => by have := oS i hi; simp at hn; omega)
    obtain ⟨T, vN, H1, H2, LN, e1, e2, t1, k12, l12, b62, rr2, nd2, ge2⟩ := line_more ra ndc hne b6a (-1, 0) (by show M.line.length ≤ 1048576; unfold szM at hl; omega)
    have hnin : ∀ j, j < g0.length → j ∉ g2.length :: LL' := fun j hj hn => by
      rcases List.mem_cons.1 hn with h | h
      · omega
      · have := gec j (by simp [h]); omega
    replace bV := hob_kp k12 bV (hnin _ (by omega)); replace bZ := hob_kp k12 bZ (hnin _ (by omega))
    have hc7 := hcs_full b7 rfl
    have hc8 : hc1 Ha g2.length 8 = some vL' := by rw [hc1_hob b6a]; rfl
    have hc6 := hcs_full b62 rfl
    have hcV2 := hcs_full bV rfl
    have mtT : (∀ i, i ∈ T → MT [] h i) = True := eq_true (fun i hi => .inr (by have := gec i (by simp [t1 i hi]); omega))
    simp only [mcells] at ea hc6
    simp -implicitDefEqProofs [c4, w1, ea, m6, hc8, hc7, e1, mtT, e2, hc6]
    refine call1 (specMachineOk_ac (M := { M with spare := M.spare - 1, line := M.line ++ [(-1, 0)] }) rr2 (by show (M.line ++ [_]).length ≤ _; simp; unfold szM at hl; omega)) ?_
    cases hM2 : mchB { M with spare := M.spare - 1, line := M.line ++ [(-1, 0)] }
    · have hn : keyS M 32 = none := by unfold keyS; rw [if_pos rfl, if_neg (by rw [hM2]; simp)]
      rw [hn]
      have o0 : oneAll (mcells M vW vC vM vL vQ) = true := by simp [mcells, r.rW.one, r.rC.one, r.rM.one, r.rL.one, r.rQ.one]
      obtain ⟨gz, ez, bz, kz, _⟩ := strV_full bZ rfl (l := mcells M vW vC vM vL vQ) rfl o0
      have hcz := hcs_full bz rfl
      simp only [mcells] at ez hcz
      simp -implicitDefEqProofs [hM2, hcV2, ez, mZ, resA_2, resA1, hcz]
      exact ⟨mcells M vW vC vM vL vQ, rfl, rfl, o0⟩
    · have hn : keyS M 32 = some { M with spare := M.spare - 1, line := M.line ++ [(-1, 0)] } := by unfold keyS; rw [if_pos rfl, if_pos hM2]
      rw [hn]
      obtain ⟨gf, ef, hf, mf⟩ := ans_fin (n := h.length) (n0 := g0.length) rr2 nd2 (fun i hi => by
        simp only [List.mem_append] at hi
        rcases hi with (((hi | hi) | hi) | hi) | hi
        · exact gec i (by simp [hi])
        · exact gec i (by simp [hi])
        · exact gec i (by simp [hi])
        · have := ge2 i hi; omega
        · exact gec i (by simp [hi])) bZ rfl (by omega) (by omega)
      simp only [mcells] at ef hf
      simp -implicitDefEqProofs [hM2, hc6, ef, mZ, resA_2, resA1, hf]
      exact ⟨_, _, rfl, mf⟩
  · have c03 : hcs g3 h.length 0 3 = some [.string M.font.letters, vW, vC] := by rw [hcs_hob bV]; rfl
    have c3 : hc1 g3 h.length 3 = some vM := by rw [hc1_hob bV]; rfl
    obtain ⟨p1, p2, p3, p4, p5, p6⟩ := mchB_parts hM
    simp -implicitDefEqProofs [hc, c03, c3]
    refine XPl_bc2 ?_ ?_
    · simp -implicitDefEqProofs
      refine call1 (specKeyOf_ac r1.rF (magB_fn p1) c) ?_
      simp -implicitDefEqProofs
      refine XPl_bc2 ?_ ?_
      · simp -implicitDefEqProofs
        refine call0 (specTake_ac (F := M.font) r1.rF r1.rM (idxI M.font.ls (keyP c))) ?_
        rintro _ gT ht kT
        have lT := kT.1
        replace b6 := hob_kp kT b6 (by simp); replace b7 := hob_kp kT b7 (by simp); replace bV := hob_kp kT bV (by simp); replace bZ := hob_kp kT bZ (by simp); replace rc := rc.kp0 kT; replace r1 := r1.kp0 kT
        cases hta : takeM M.font M.mag (idxI M.font.ls (keyP c)) with
        | none =>
          rw [hta] at ht
          simp only [TakeR] at ht
          subst ht
          have k9 : Kp [] gT (gT ++ [some ⟨[.int .i64 0, .int .i64 0], 2, true⟩]) := .app _ _ _
          have b9 : hob (gT ++ [some ⟨[.int .i64 0, .int .i64 0], 2, true⟩]) gT.length = some ⟨[.int .i64 0, .int .i64 0], 2, true⟩ := by simp [hob]
          have lH : gT.length ≤ (gT ++ [some (⟨[.int .i64 0, .int .i64 0], 2, true⟩ : AObj)]).length := k9.1
          replace b6 := hob_kp k9 b6 (by simp); replace b7 := hob_kp k9 b7 (by simp); replace bV := hob_kp k9 bV (by simp); replace bZ := hob_kp k9 bZ (by simp); replace rc := rc.kp0 k9
          have mt9 := mt_ge (T := []) (show h.length ≤ gT.length by omega)
          have hn : keyS M c = none := by unfold keyS; rw [if_neg hc, hta]
          rw [hn]
          have o0 : oneAll (mcells M vW vC vM vL vQ) = true := by simp [mcells, r.rW.one, r.rC.one, r.rM.one, r.rL.one, r.rQ.one]
          have hcV3 := hcs_full bV rfl
          obtain ⟨gz, ez, bz, kz, _⟩ := strV_full bZ rfl (l := mcells M vW vC vM vL vQ) rfl o0
          have hcz := hcs_full bz rfl
          simp only [mcells] at ez hcz
          simp -implicitDefEqProofs [strV_new, mt9, hcV3, ez, mZ, resA_2, resA1, hcz]
          exact ⟨mcells M vW vC vM vL vQ, rfl, rfl, o0⟩
        | some y =>
          obtain ⟨m', x⟩ := y
          rw [hta] at ht
          simp only [TakeR] at ht
          obtain ⟨vX, rfl, LX, rX, ndX, geX⟩ := ht
          have ltX := rX.lt
          have hx := x
          have k9 : Kp [] gT (gT ++ [some ⟨[.int .i64 x.1, .int .i64 x.2], 2, true⟩]) := .app _ _ _
          have b9 : hob (gT ++ [some ⟨[.int .i64 x.1, .int .i64 x.2], 2, true⟩]) gT.length = some ⟨[.int .i64 x.1, .int .i64 x.2], 2, true⟩ := by simp [hob]
          have lH : gT.length ≤ (gT ++ [some (⟨[.int .i64 x.1, .int .i64 x.2], 2, true⟩ : AObj)]).length := k9.1
          replace b6 := hob_kp k9 b6 (by simp); replace b7 := hob_kp k9 b7 (by simp); replace bV := hob_kp k9 bV (by simp); replace bZ := hob_kp k9 bZ (by simp); replace rc := rc.kp0 k9
          have mt9 := mt_ge (T := []) (show h.length ≤ gT.length by omega)
          replace rX := rX.kp k9 (fun i hi hn => by simp at hn)
          have hne : ∀ i ∈ LW' ++ LC' ++ LM' ++ LL' ++ LQ', i ≠ g2.length := fun i hi => by have := ltc i hi; omega
          obtain ⟨Ha, ea, kA, nA, b6a, ra, nda⟩ := mag_new rc ndc hne b6 rX ndX (fun i hi => by have := geX i hi; omega) (fun a ha b hb => by have := geX a ha; have := ltc b hb; omega)
          have hneX : ∀ i ∈ LW' ++ LC' ++ LX ++ LL' ++ LQ', i ≠ g2.length ∧ i ≠ g2.length + 1 ∧ g0.length ≤ i := by
            intro i hi
            simp only [List.mem_append] at hi
            rcases hi with (((hi | hi) | hi) | hi) | hi
            · have := ltc i (by simp [hi]); have := gec i (by simp [hi]); omega
            · have := ltc i (by simp [hi]); have := gec i (by simp [hi]); omega
            · have := geX i hi; omega
            · have := ltc i (by simp [hi]); have := gec i (by simp [hi]); omega
            · have := ltc i (by simp [hi]); have := gec i (by simp [hi]); omega
          replace b7 := hob_kp kA b7 (by simp); replace b9 := hob_kp kA b9 (by simp; omega); replace bV := hob_kp kA bV (by simp; omega); replace bZ := hob_kp kA bZ (by simp; omega)
          have hc9 := hcs_full b9 rfl
          obtain ⟨Hb, eb, b7b, kB, nB⟩ := strV_full b7 rfl (l := [.int .i64 x.1, .int .i64 x.2]) rfl (by simp)
          have b6b := hob_kp kB b6a (by simp)
          have rb := ra.kp kB (fun i hi hn => by have := (hneX i hi).2.1; simp at hn; omega)
          replace bV := hob_kp kB bV (by simp; omega); replace bZ := hob_kp kB bZ (by simp; omega)
          obtain ⟨T, vN, H1, H2, LN, e1, e2, t1, k12, l12, b62, rr2, nd2, ge2⟩ := line_more rb nda (fun i hi => (hneX i hi).1) b6b x (by show M.line.length ≤ 1048576; unfold szM at hl; omega)
          have hnin : ∀ j, j < g0.length → j ∉ g2.length :: LL' := fun j hj hn => by
            rcases List.mem_cons.1 hn with h | h
            · omega
            · have := gec j (by simp [h]); omega
          replace bV := hob_kp k12 bV (hnin _ (by omega)); replace bZ := hob_kp k12 bZ (hnin _ (by omega))
          have hc7 := hcs_full b7b rfl
          have hc8 : hc1 Hb g2.length 8 = some vL' := by rw [hc1_hob b6b]; rfl
          have hc6 := hcs_full b62 rfl
          have hcV2 := hcs_full bV rfl
          have mtT : (∀ i, i ∈ T → MT [] h i) = True := eq_true (fun i hi => .inr (by have := gec i (by simp [t1 i hi]); omega))
          simp only [mcells] at ea hc6
          simp -implicitDefEqProofs [strV_new, mt9, ea, m6, hc9, eb, m7, hc8, hc7, e1, mtT, e2, hc6]
          refine call1 (specMachineOk_ac (M := { M with mag := m', line := M.line ++ [x] }) rr2 (by show (M.line ++ [_]).length ≤ _; simp; unfold szM at hl; omega)) ?_
          cases hM2 : mchB { M with mag := m', line := M.line ++ [x] }
          · have hn : keyS M c = none := by unfold keyS; rw [if_neg hc, hta]; simp only; rw [if_neg (by rw [hM2]; simp)]
            rw [hn]
            have o0 : oneAll (mcells M vW vC vM vL vQ) = true := by simp [mcells, r.rW.one, r.rC.one, r.rM.one, r.rL.one, r.rQ.one]
            obtain ⟨gz, ez, bz, kz, _⟩ := strV_full bZ rfl (l := mcells M vW vC vM vL vQ) rfl o0
            have hcz := hcs_full bz rfl
            simp only [mcells] at ez hcz
            simp -implicitDefEqProofs [hM2, hcV2, ez, mZ, resA_2, resA1, hcz]
            exact ⟨mcells M vW vC vM vL vQ, rfl, rfl, o0⟩
          · have hn : keyS M c = some { M with mag := m', line := M.line ++ [x] } := by unfold keyS; rw [if_neg hc, hta]; simp only; rw [if_pos hM2]
            rw [hn]
            obtain ⟨gf, ef, hf, mf⟩ := ans_fin (n := h.length) (n0 := g0.length) rr2 nd2 (fun i hi => by
              simp only [List.mem_append] at hi
              rcases hi with (((hi | hi) | hi) | hi) | hi
              · exact (fun i hi => (hneX i hi).2.2) i (by simp [hi])
              · exact (fun i hi => (hneX i hi).2.2) i (by simp [hi])
              · exact (fun i hi => (hneX i hi).2.2) i (by simp [hi])
              · have := ge2 i hi; omega
              · exact (fun i hi => (hneX i hi).2.2) i (by simp [hi])) bZ rfl (by omega) (by omega)
            simp only [mcells] at ef hf
            simp -implicitDefEqProofs [hM2, hc6, ef, mZ, resA_2, resA1, hf]
            exact ⟨_, _, rfl, mf⟩
      · simp -implicitDefEqProofs
        have kN : Kp [] g3 (g3 ++ [some ⟨[.int .i64 0, .int .i64 0], 2, true⟩]) := .app _ _ _
        have b9 : hob (g3 ++ [some ⟨[.int .i64 0, .int .i64 0], 2, true⟩]) g3.length = some ⟨[.int .i64 0, .int .i64 0], 2, true⟩ := by simp [hob]
        have lN : (g3 ++ [some (⟨[.int .i64 0, .int .i64 0], 2, true⟩ : AObj)]).length = g3.length + 1 := by simp
        have m9 := mt_ge (T := []) (show h.length ≤ g3.length by omega)
        replace b6 := hob_kp kN b6 (by simp); replace b7 := hob_kp kN b7 (by simp); replace bV := hob_kp kN bV (by simp); replace bZ := hob_kp kN bZ (by simp); replace rc := rc.kp0 kN; replace r1 := r1.kp0 kN
        generalize g3 ++ [some (⟨[.int .i64 0, .int .i64 0], 2, true⟩ : AObj)] = gN at kN b9 lN b6 b7 bV bZ rc r1 ⊢
        refine call0 (specTake_ac (F := M.font) r1.rF r1.rM (idxI M.font.ls (keyP c))) ?_
        rintro _ gT ht kT
        have lT := kT.1
        replace b6 := hob_kp kT b6 (by simp); replace b7 := hob_kp kT b7 (by simp); replace bV := hob_kp kT bV (by simp); replace bZ := hob_kp kT bZ (by simp); replace rc := rc.kp0 kT; replace r1 := r1.kp0 kT; replace b9 := hob_kp kT b9 (by simp)
        cases hta : takeM M.font M.mag (idxI M.font.ls (keyP c)) with
        | none =>
          rw [hta] at ht
          simp only [TakeR] at ht
          subst ht
          obtain ⟨H, e9, b9', k9, n9⟩ := strV_full b9 rfl (l := [.int .i64 0, .int .i64 0]) rfl (by simp)
          clear b9; have b9 := b9'; clear b9'
          replace b6 := hob_kp k9 b6 (by simp; omega); replace b7 := hob_kp k9 b7 (by simp; omega); replace bV := hob_kp k9 bV (by simp; omega); replace bZ := hob_kp k9 bZ (by simp; omega)
          replace rc := rc.kp k9 (fun i hi hn => by have := ltc i hi; simp at hn; omega)
          have lH : gT.length ≤ H.length := by omega
          have hn : keyS M c = none := by unfold keyS; rw [if_neg hc, hta]
          rw [hn]
          have o0 : oneAll (mcells M vW vC vM vL vQ) = true := by simp [mcells, r.rW.one, r.rC.one, r.rM.one, r.rL.one, r.rQ.one]
          have hcV3 := hcs_full bV rfl
          obtain ⟨gz, ez, bz, kz, _⟩ := strV_full bZ rfl (l := mcells M vW vC vM vL vQ) rfl o0
          have hcz := hcs_full bz rfl
          simp only [mcells] at ez hcz
          simp -implicitDefEqProofs [e9, m9, hcV3, ez, mZ, resA_2, resA1, hcz]
          exact ⟨mcells M vW vC vM vL vQ, rfl, rfl, o0⟩
        | some y =>
          obtain ⟨m', x⟩ := y
          rw [hta] at ht
          simp only [TakeR] at ht
          obtain ⟨vX, rfl, LX, rX, ndX, geX⟩ := ht
          have ltX := rX.lt
          have hx := x
          obtain ⟨H, e9, b9', k9, n9⟩ := strV_full b9 rfl (l := [.int .i64 x.1, .int .i64 x.2]) rfl (by simp)
          clear b9; have b9 := b9'; clear b9'
          replace b6 := hob_kp k9 b6 (by simp; omega); replace b7 := hob_kp k9 b7 (by simp; omega); replace bV := hob_kp k9 bV (by simp; omega); replace bZ := hob_kp k9 bZ (by simp; omega)
          replace rc := rc.kp k9 (fun i hi hn => by have := ltc i hi; simp at hn; omega)
          have lH : gT.length ≤ H.length := by omega
          replace rX := rX.kp k9 (fun i hi hn => by have := geX i hi; simp at hn; omega)
          have hne : ∀ i ∈ LW' ++ LC' ++ LM' ++ LL' ++ LQ', i ≠ g2.length := fun i hi => by have := ltc i hi; omega
          obtain ⟨Ha, ea, kA, nA, b6a, ra, nda⟩ := mag_new rc ndc hne b6 rX ndX (fun i hi => by have := geX i hi; omega) (fun a ha b hb => by have := geX a ha; have := ltc b hb; omega)
          have hneX : ∀ i ∈ LW' ++ LC' ++ LX ++ LL' ++ LQ', i ≠ g2.length ∧ i ≠ g2.length + 1 ∧ g0.length ≤ i := by
            intro i hi
            simp only [List.mem_append] at hi
            rcases hi with (((hi | hi) | hi) | hi) | hi
            · have := ltc i (by simp [hi]); have := gec i (by simp [hi]); omega
            · have := ltc i (by simp [hi]); have := gec i (by simp [hi]); omega
            · have := geX i hi; omega
            · have := ltc i (by simp [hi]); have := gec i (by simp [hi]); omega
            · have := ltc i (by simp [hi]); have := gec i (by simp [hi]); omega
          replace b7 := hob_kp kA b7 (by simp); replace b9 := hob_kp kA b9 (by simp; omega); replace bV := hob_kp kA bV (by simp; omega); replace bZ := hob_kp kA bZ (by simp; omega)
          have hc9 := hcs_full b9 rfl
          obtain ⟨Hb, eb, b7b, kB, nB⟩ := strV_full b7 rfl (l := [.int .i64 x.1, .int .i64 x.2]) rfl (by simp)
          have b6b := hob_kp kB b6a (by simp)
          have rb := ra.kp kB (fun i hi hn => by have := (hneX i hi).2.1; simp at hn; omega)
          replace bV := hob_kp kB bV (by simp; omega); replace bZ := hob_kp kB bZ (by simp; omega)
          obtain ⟨T, vN, H1, H2, LN, e1, e2, t1, k12, l12, b62, rr2, nd2, ge2⟩ := line_more rb nda (fun i hi => (hneX i hi).1) b6b x (by show M.line.length ≤ 1048576; unfold szM at hl; omega)
          have hnin : ∀ j, j < g0.length → j ∉ g2.length :: LL' := fun j hj hn => by
            rcases List.mem_cons.1 hn with h | h
            · omega
            · have := gec j (by simp [h]); omega
          replace bV := hob_kp k12 bV (hnin _ (by omega)); replace bZ := hob_kp k12 bZ (hnin _ (by omega))
          have hc7 := hcs_full b7b rfl
          have hc8 : hc1 Hb g2.length 8 = some vL' := by rw [hc1_hob b6b]; rfl
          have hc6 := hcs_full b62 rfl
          have hcV2 := hcs_full bV rfl
          have mtT : (∀ i, i ∈ T → MT [] h i) = True := eq_true (fun i hi => .inr (by have := gec i (by simp [t1 i hi]); omega))
          simp only [mcells] at ea hc6
          simp -implicitDefEqProofs [e9, m9, ea, m6, hc9, eb, m7, hc8, hc7, e1, mtT, e2, hc6]
          refine call1 (specMachineOk_ac (M := { M with mag := m', line := M.line ++ [x] }) rr2 (by show (M.line ++ [_]).length ≤ _; simp; unfold szM at hl; omega)) ?_
          cases hM2 : mchB { M with mag := m', line := M.line ++ [x] }
          · have hn : keyS M c = none := by unfold keyS; rw [if_neg hc, hta]; simp only; rw [if_neg (by rw [hM2]; simp)]
            rw [hn]
            have o0 : oneAll (mcells M vW vC vM vL vQ) = true := by simp [mcells, r.rW.one, r.rC.one, r.rM.one, r.rL.one, r.rQ.one]
            obtain ⟨gz, ez, bz, kz, _⟩ := strV_full bZ rfl (l := mcells M vW vC vM vL vQ) rfl o0
            have hcz := hcs_full bz rfl
            simp only [mcells] at ez hcz
            simp -implicitDefEqProofs [hM2, hcV2, ez, mZ, resA_2, resA1, hcz]
            exact ⟨mcells M vW vC vM vL vQ, rfl, rfl, o0⟩
          · have hn : keyS M c = some { M with mag := m', line := M.line ++ [x] } := by unfold keyS; rw [if_neg hc, hta]; simp only; rw [if_pos hM2]
            rw [hn]
            obtain ⟨gf, ef, hf, mf⟩ := ans_fin (n := h.length) (n0 := g0.length) rr2 nd2 (fun i hi => by
              simp only [List.mem_append] at hi
              rcases hi with (((hi | hi) | hi) | hi) | hi
              · exact (fun i hi => (hneX i hi).2.2) i (by simp [hi])
              · exact (fun i hi => (hneX i hi).2.2) i (by simp [hi])
              · exact (fun i hi => (hneX i hi).2.2) i (by simp [hi])
              · have := ge2 i hi; omega
              · exact (fun i hi => (hneX i hi).2.2) i (by simp [hi])) bZ rfl (by omega) (by omega)
            simp only [mcells] at ef hf
            simp -implicitDefEqProofs [hM2, hc6, ef, mZ, resA_2, resA1, hf]
            exact ⟨_, _, rfl, mf⟩
    · simp -implicitDefEqProofs
      have kN : Kp [] g3 (g3 ++ [some ⟨[.int .i64 0, .int .i64 0], 2, true⟩]) := .app _ _ _
      have b9 : hob (g3 ++ [some ⟨[.int .i64 0, .int .i64 0], 2, true⟩]) g3.length = some ⟨[.int .i64 0, .int .i64 0], 2, true⟩ := by simp [hob]
      have lN : (g3 ++ [some (⟨[.int .i64 0, .int .i64 0], 2, true⟩ : AObj)]).length = g3.length + 1 := by simp
      have m9 := mt_ge (T := []) (show h.length ≤ g3.length by omega)
      replace b6 := hob_kp kN b6 (by simp); replace b7 := hob_kp kN b7 (by simp); replace bV := hob_kp kN bV (by simp); replace bZ := hob_kp kN bZ (by simp); replace rc := rc.kp0 kN; replace r1 := r1.kp0 kN
      generalize g3 ++ [some (⟨[.int .i64 0, .int .i64 0], 2, true⟩ : AObj)] = gN at kN b9 lN b6 b7 bV bZ rc r1 ⊢
      refine call1 (specKeyOf_ac r1.rF (magB_fn p1) c) ?_
      simp -implicitDefEqProofs
      refine call0 (specTake_ac (F := M.font) r1.rF r1.rM (idxI M.font.ls (keyP c))) ?_
      rintro _ gT ht kT
      have lT := kT.1
      replace b6 := hob_kp kT b6 (by simp); replace b7 := hob_kp kT b7 (by simp); replace bV := hob_kp kT bV (by simp); replace bZ := hob_kp kT bZ (by simp); replace rc := rc.kp0 kT; replace r1 := r1.kp0 kT; replace b9 := hob_kp kT b9 (by simp)
      cases hta : takeM M.font M.mag (idxI M.font.ls (keyP c)) with
      | none =>
        rw [hta] at ht
        simp only [TakeR] at ht
        subst ht
        obtain ⟨H, e9, b9', k9, n9⟩ := strV_full b9 rfl (l := [.int .i64 0, .int .i64 0]) rfl (by simp)
        clear b9; have b9 := b9'; clear b9'
        replace b6 := hob_kp k9 b6 (by simp; omega); replace b7 := hob_kp k9 b7 (by simp; omega); replace bV := hob_kp k9 bV (by simp; omega); replace bZ := hob_kp k9 bZ (by simp; omega)
        replace rc := rc.kp k9 (fun i hi hn => by have := ltc i hi; simp at hn; omega)
        have lH : gT.length ≤ H.length := by omega
        have hn : keyS M c = none := by unfold keyS; rw [if_neg hc, hta]
        rw [hn]
        have o0 : oneAll (mcells M vW vC vM vL vQ) = true := by simp [mcells, r.rW.one, r.rC.one, r.rM.one, r.rL.one, r.rQ.one]
        have hcV3 := hcs_full bV rfl
        obtain ⟨gz, ez, bz, kz, _⟩ := strV_full bZ rfl (l := mcells M vW vC vM vL vQ) rfl o0
        have hcz := hcs_full bz rfl
        simp only [mcells] at ez hcz
        simp -implicitDefEqProofs [e9, m9, hcV3, ez, mZ, resA_2, resA1, hcz]
        exact ⟨mcells M vW vC vM vL vQ, rfl, rfl, o0⟩
      | some y =>
        obtain ⟨m', x⟩ := y
        rw [hta] at ht
        simp only [TakeR] at ht
        obtain ⟨vX, rfl, LX, rX, ndX, geX⟩ := ht
        have ltX := rX.lt
        have hx := x
        obtain ⟨H, e9, b9', k9, n9⟩ := strV_full b9 rfl (l := [.int .i64 x.1, .int .i64 x.2]) rfl (by simp)
        clear b9; have b9 := b9'; clear b9'
        replace b6 := hob_kp k9 b6 (by simp; omega); replace b7 := hob_kp k9 b7 (by simp; omega); replace bV := hob_kp k9 bV (by simp; omega); replace bZ := hob_kp k9 bZ (by simp; omega)
        replace rc := rc.kp k9 (fun i hi hn => by have := ltc i hi; simp at hn; omega)
        have lH : gT.length ≤ H.length := by omega
        replace rX := rX.kp k9 (fun i hi hn => by have := geX i hi; simp at hn; omega)
        have hne : ∀ i ∈ LW' ++ LC' ++ LM' ++ LL' ++ LQ', i ≠ g2.length := fun i hi => by have := ltc i hi; omega
        obtain ⟨Ha, ea, kA, nA, b6a, ra, nda⟩ := mag_new rc ndc hne b6 rX ndX (fun i hi => by have := geX i hi; omega) (fun a ha b hb => by have := geX a ha; have := ltc b hb; omega)
        have hneX : ∀ i ∈ LW' ++ LC' ++ LX ++ LL' ++ LQ', i ≠ g2.length ∧ i ≠ g2.length + 1 ∧ g0.length ≤ i := by
          intro i hi
          simp only [List.mem_append] at hi
          rcases hi with (((hi | hi) | hi) | hi) | hi
          · have := ltc i (by simp [hi]); have := gec i (by simp [hi]); omega
          · have := ltc i (by simp [hi]); have := gec i (by simp [hi]); omega
          · have := geX i hi; omega
          · have := ltc i (by simp [hi]); have := gec i (by simp [hi]); omega
          · have := ltc i (by simp [hi]); have := gec i (by simp [hi]); omega
        replace b7 := hob_kp kA b7 (by simp); replace b9 := hob_kp kA b9 (by simp; omega); replace bV := hob_kp kA bV (by simp; omega); replace bZ := hob_kp kA bZ (by simp; omega)
        have hc9 := hcs_full b9 rfl
        obtain ⟨Hb, eb, b7b, kB, nB⟩ := strV_full b7 rfl (l := [.int .i64 x.1, .int .i64 x.2]) rfl (by simp)
        have b6b := hob_kp kB b6a (by simp)
        have rb := ra.kp kB (fun i hi hn => by have := (hneX i hi).2.1; simp at hn; omega)
        replace bV := hob_kp kB bV (by simp; omega); replace bZ := hob_kp kB bZ (by simp; omega)
        obtain ⟨T, vN, H1, H2, LN, e1, e2, t1, k12, l12, b62, rr2, nd2, ge2⟩ := line_more rb nda (fun i hi => (hneX i hi).1) b6b x (by show M.line.length ≤ 1048576; unfold szM at hl; omega)
        have hnin : ∀ j, j < g0.length → j ∉ g2.length :: LL' := fun j hj hn => by
          rcases List.mem_cons.1 hn with h | h
          · omega
          · have := gec j (by simp [h]); omega
        replace bV := hob_kp k12 bV (hnin _ (by omega)); replace bZ := hob_kp k12 bZ (hnin _ (by omega))
        have hc7 := hcs_full b7b rfl
        have hc8 : hc1 Hb g2.length 8 = some vL' := by rw [hc1_hob b6b]; rfl
        have hc6 := hcs_full b62 rfl
        have hcV2 := hcs_full bV rfl
        have mtT : (∀ i, i ∈ T → MT [] h i) = True := eq_true (fun i hi => .inr (by have := gec i (by simp [t1 i hi]); omega))
        simp only [mcells] at ea hc6
        simp -implicitDefEqProofs [e9, m9, ea, m6, hc9, eb, m7, hc8, hc7, e1, mtT, e2, hc6]
        refine call1 (specMachineOk_ac (M := { M with mag := m', line := M.line ++ [x] }) rr2 (by show (M.line ++ [_]).length ≤ _; simp; unfold szM at hl; omega)) ?_
        cases hM2 : mchB { M with mag := m', line := M.line ++ [x] }
        · have hn : keyS M c = none := by unfold keyS; rw [if_neg hc, hta]; simp only; rw [if_neg (by rw [hM2]; simp)]
          rw [hn]
          have o0 : oneAll (mcells M vW vC vM vL vQ) = true := by simp [mcells, r.rW.one, r.rC.one, r.rM.one, r.rL.one, r.rQ.one]
          obtain ⟨gz, ez, bz, kz, _⟩ := strV_full bZ rfl (l := mcells M vW vC vM vL vQ) rfl o0
          have hcz := hcs_full bz rfl
          simp only [mcells] at ez hcz
          simp -implicitDefEqProofs [hM2, hcV2, ez, mZ, resA_2, resA1, hcz]
          exact ⟨mcells M vW vC vM vL vQ, rfl, rfl, o0⟩
        · have hn : keyS M c = some { M with mag := m', line := M.line ++ [x] } := by unfold keyS; rw [if_neg hc, hta]; simp only; rw [if_pos hM2]
          rw [hn]
          obtain ⟨gf, ef, hf, mf⟩ := ans_fin (n := h.length) (n0 := g0.length) rr2 nd2 (fun i hi => by
            simp only [List.mem_append] at hi
            rcases hi with (((hi | hi) | hi) | hi) | hi
            · exact (fun i hi => (hneX i hi).2.2) i (by simp [hi])
            · exact (fun i hi => (hneX i hi).2.2) i (by simp [hi])
            · exact (fun i hi => (hneX i hi).2.2) i (by simp [hi])
            · have := ge2 i hi; omega
            · exact (fun i hi => (hneX i hi).2.2) i (by simp [hi])) bZ rfl (by omega) (by omega)
          simp only [mcells] at ef hf
          simp -implicitDefEqProofs [hM2, hc6, ef, mZ, resA_2, resA1, hf]
          exact ⟨_, _, rfl, mf⟩
end
end Go.Proofs.Ytpenocegikjpaaa

/- Contracts: KeyText (the reference's). -/
set_option linter.unusedSimpArgs false
set_option linter.unusedVariables false
set_option maxHeartbeats 1000000
namespace Go.Proofs.Ytpenocegikjpaaa
open Go.Ab
/-- Keys struck one behind the other. -/
def keysS : Mch → List UInt8 → Mch × Nat
  | M, [] => (M, 0)
  | M, b :: bs => match keyS M b.toNat with
    | none => (M, 0)
    | some M' => ((keysS M' bs).1, (keysS M' bs).2 + 1)
theorem keysS_no {M : Mch} {l : List UInt8} {k : Nat} (hk : k < l.length) (h : keyS M (l[k].toNat : Nat) = none) : keysS M (l.drop k) = (M, 0) := by
  rw [List.drop_eq_getElem_cons hk]
  simp only [keysS, h]
theorem keysS_yes {M M' : Mch} {l : List UInt8} {k : Nat} (hk : k < l.length) (h : keyS M (l[k].toNat : Nat) = some M') : keysS M (l.drop k) = ((keysS M' (l.drop (k + 1))).1, (keysS M' (l.drop (k + 1))).2 + 1) := by
  rw [List.drop_eq_getElem_cons hk]
  simp only [keysS, h]
def keyT (M : Mch) (s : ByteArray) : Mch × Int := if mchB M = true then ((keysS M s.data.toList).1, (((keysS M s.data.toList).2 : Nat) : Int)) else (M0, -1)
theorem keyS_ok {M M' : Mch} {c : Int} (h : keyS M c = some M') : mchB M' = true := by
  unfold keyS at h
  split at h
  · split at h
    · rename_i hm; injection h with h; rw [← h]; exact hm
    · cases h
  · split at h
    · cases h
    · split at h
      · rename_i hm; injection h with h; rw [← h]; exact hm
      · cases h
section
variable {w : Bool} {h : Heap} {l : List Value} {M : Mch} {L : List Nat}
theorem specL5KeyA_ac (r : MV w h l M L) (hM : mchB M = true) (c : Int) : AC Try.prog 110 [.agg l.toArray, .int .i64 c] h [] fun r h' => KeyR h.length (keyS M c) r h' := by
  obtain ⟨vW, vC, vM, vL, vQ, LW, LC, LM, LL, LQ, rfl, r, rfl⟩ := r
  exact specL5Key_ac r (by have := szM_ok hM; omega) hM c
theorem specOkA_ac (r : MV w h l M L) (hl : szM M ≤ 1048576) : AC Try.prog 17 [.agg l.toArray] h [] fun r h' => r = .bool (mchB M) ∧ h' = h := by
  obtain ⟨vW, vC, vM, vL, vQ, LW, LC, LM, LL, LQ, rfl, r, rfl⟩ := r
  exact specMachineOk_ac r (by unfold szM at hl; omega)
theorem specCopyA_ac (r : MV w h l M L) (hl : szM M ≤ 1048576) : AC Try.prog 98 [.agg l.toArray] h [] fun r h' => ∃ l' L', r = .agg l'.toArray ∧ MN h.length h' l' M L' := by
  obtain ⟨vW, vC, vM, vL, vQ, LW, LC, LM, LL, LQ, rfl, r, rfl⟩ := r
  exact AC_mono (specCopy_ac r hl) fun r h' x => x.mn
theorem specKeyTextA_ac (r : MV w h l M L) (hl : szM M ≤ 1048576) (t : ByteArray) (ht : t.size ≤ 1048576) :
    AC Try.prog 50 [.agg l.toArray, .string t] h [] fun r h' => TupM h.length h' r (keyT M t).1 (.int .i64 (keyT M t).2) := by
  have hlen := r.len
  have hone := r.one
  have htk : l.take 10 = l := List.take_of_length_le (by omega)
  have hls : t.data.toList.length = t.size := Array.length_toList
  refine ac50 (by simp [p50]) ?_
  have kb : Kp [] h (h ++ [some ⟨l, 10, true⟩, some ⟨zcells, 10, true⟩]) := .app [] h _
  have r1 := r.kp0 kb
  have bV : hob (h ++ [some ⟨l, 10, true⟩, some ⟨zcells, 10, true⟩]) h.length = some ⟨l, 10, true⟩ := by simp [hob]
  have bZ : hob (h ++ [some ⟨l, 10, true⟩, some ⟨zcells, 10, true⟩]) (h.length + 1) = some ⟨zcells, 10, true⟩ := by simp [hob]
  have gl : (h ++ [some (⟨l, 10, true⟩ : AObj), some ⟨zcells, 10, true⟩]).length = h.length + 2 := by simp
  simp -implicitDefEqProofs [p50, hlen, hone, htk]
  simp only [zcells] at kb r1 bV bZ gl
  generalize h ++ [some (⟨l, 10, true⟩ : AObj), some ⟨[.string ⟨#[]⟩, .slice none 0 0, .slice none 0 0, .slice none 0 0, .int .i64 0, .int .i64 0, .int .i64 0, .int .i64 0, .slice none 0 0, .slice none 0 0], 10, true⟩] = g0 at kb r1 bV bZ gl ⊢
  have kl := kb.1
  have mV : MT [] h h.length := .inr (Nat.le_refl _)
  have mZ : MT [] h (h.length + 1) := .inr (by omega)
  refine call1 (specOkA_ac r1 hl) ?_
  cases hM : mchB M
  · have hn : keyT M t = (M0, -1) := by unfold keyT; rw [hM]; rfl
    obtain ⟨gz, ez, bz, hcz, mz, _⟩ := mn_put (MN.zero (h.length + 2) g0) bZ rfl (by omega)
    simp only [zcells] at ez hcz
    rw [hn]
    simp -implicitDefEqProofs [bldV, fillA, ez, mZ, resA_2, resA1, hcz]
    exact ⟨zcells, [], rfl, .zero _ _⟩
  have hn : keyT M t = ((keysS M t.data.toList).1, (((keysS M t.data.toList).2 : Nat) : Int)) := by unfold keyT; rw [hM]; rfl
  rw [hn]
  have hcV := hcs_full bV hlen
  simp -implicitDefEqProofs [hcV]
  refine call0 (specCopyA_ac r1 hl) ?_
  rintro _ g2 ⟨lc, Lc, rfl, xc⟩ k2
  replace bV := hob_kp k2 bV (by simp); replace bZ := hob_kp k2 bZ (by simp)
  have kl2 := k2.1
  obtain ⟨ga, ev, ba, _, xa, ka, na⟩ := mn_put xc bV hlen (by omega)
  replace bZ := hob_kp ka bZ (by simp)
  simp -implicitDefEqProofs [ev, mV]
  have kga : Kp [] h ga := (kb.trans k2 (by simp)).trans ka (by simp)
  have hN : t.size ≤ big := by unfold big; omega
  refine forUp f50_0 kga t.size hN (by simp)
    (fun k s h1 => g0.length ≤ h1.length ∧ ∃ lk Mk Lk, hob h1 h.length = some ⟨lk, 10, true⟩ ∧ MN g0.length h1 lk Mk Lk ∧ mchB Mk = true ∧ hob h1 (h.length + 1) = some ⟨[.string ⟨#[]⟩, .slice none 0 0, .slice none 0 0, .slice none 0 0, .int .i64 0, .int .i64 0, .int .i64 0, .int .i64 0, .slice none 0 0, .slice none 0 0], 10, true⟩ ∧
      keysS M t.data.toList = ((keysS Mk (t.data.toList.drop k)).1, (keysS Mk (t.data.toList.drop k)).2 + k))
    ⟨by omega, lc, M, Lc, ba, xa, hM, bZ, by simp⟩ ?_ ?_ ?_
  · rintro k s h1 hk hi ⟨lg, lk, Mk, Lk, bk, xk, ok, bz, heq⟩ kp
    simp -implicitDefEqProofs [C50_0, L50_0, K50_0, hi]
  · rintro k s s2 h1 hk hi ⟨lg, lk, Mk, Lk, bk, xk, ok, bz, heq⟩ kp
    have hck := hcs_full bk xk.1.len
    have hk1 : k < t.data.toList.length := by omega
    have es := ixs_at Try.underlying9 hk1
    have lkp := kp.1
    have hltk := hob_lt bk
    simp -implicitDefEqProofs [b50_0, L50_0, K50_0, hi, hck, es, cnvB]
    have hk2 : t.data.toList[k] = t.data[k]'hk := Array.getElem_toList _
    have xlt := xk.1.lt
    refine XPl_bc2 ?_ ?_
    · simp -implicitDefEqProofs
      refine call0 (specL5KeyA_ac xk.1 ok _) ?_
      rintro _ gT hr kT
      have lT := kT.1
      replace bk := hob_kp kT bk (by simp); replace bz := hob_kp kT bz (by simp); replace xk := xk.kp0 kT
      cases hs : keyS Mk (t.data[k].toNat : Nat) with
      | none =>
        rw [hs] at hr
        simp only [KeyR] at hr
        obtain ⟨l', rfl, q1, q2⟩ := hr
        have ku : Kp [] gT (gT ++ [some ⟨l', 10, true⟩]) := .app _ _ _
        have bu : hob (gT ++ [some ⟨l', 10, true⟩]) gT.length = some ⟨l', 10, true⟩ := by simp [hob]
        have m7 : MT [] h gT.length := .inr (by omega)
        have eu : strV 10 (.pointer (some ⟨gT.length, 0, none⟩)) (.agg l'.toArray) (gT ++ [some ⟨[.string ⟨#[]⟩, .slice none 0 0, .slice none 0 0, .slice none 0 0, .int .i64 0, .int .i64 0, .int .i64 0, .int .i64 0, .slice none 0 0, .slice none 0 0], 10, true⟩]) = some ([gT.length], undef, gT ++ [some ⟨l', 10, true⟩]) := strV_var rfl q1 q2
        replace bk := hob_kp ku bk (by simp); replace bz := hob_kp ku bz (by simp); replace xk := xk.kp0 ku
        have lU := ku.1
        rw [keysS_no hk1 (by rw [hk2]; exact hs)] at heq
        rw [heq]
        have hck2 := hcs_full bk xk.1.len
        obtain ⟨gf, ef, bf, hf, xf, _⟩ := mn_put xk bz rfl (by omega)
        simp -implicitDefEqProofs [hi, eu, m7, hck2, ef, hf, mZ, resA_2, resA1]
        exact ⟨_, _, by simp, xf.mono (by omega)⟩
      | some M' =>
        rw [hs] at hr
        simp only [KeyR] at hr
        obtain ⟨l', L', rfl, x'⟩ := hr
        have x1' := x'.1.lt
        have ku : Kp [] gT (gT ++ [some ⟨l', 10, true⟩]) := .app _ _ _
        have bu : hob (gT ++ [some ⟨l', 10, true⟩]) gT.length = some ⟨l', 10, true⟩ := by simp [hob]
        have m7 : MT [] h gT.length := .inr (by omega)
        have eu : strV 10 (.pointer (some ⟨gT.length, 0, none⟩)) (.agg l'.toArray) (gT ++ [some ⟨[.string ⟨#[]⟩, .slice none 0 0, .slice none 0 0, .slice none 0 0, .int .i64 0, .int .i64 0, .int .i64 0, .int .i64 0, .slice none 0 0, .slice none 0 0], 10, true⟩]) = some ([gT.length], undef, gT ++ [some ⟨l', 10, true⟩]) := strV_var rfl x'.1.len x'.1.one
        replace bk := hob_kp ku bk (by simp); replace bz := hob_kp ku bz (by simp); replace xk := xk.kp0 ku
        have lU := ku.1
        replace x' := x'.kp ku (fun i hi hn => by simp at hn)
        have hcu := hcs_full bu x'.1.len
        rw [keysS_yes hk1 (by rw [hk2]; exact hs)] at heq
        obtain ⟨gf, ef, bf, hf, xf, kf, nf⟩ := mn_put x' bk xk.1.len (by omega)
        replace bz := hob_kp kf bz (by simp)
        simp -implicitDefEqProofs [eu, m7, hcu, ef, mV]
        exact ⟨by omega, l', bf, M', ⟨L', xf.mono (by omega)⟩, keyS_ok hs, bz, by rw [heq]; simp; omega⟩
    · simp -implicitDefEqProofs
      have kN : Kp [] h1 (h1 ++ [some ⟨[.string ⟨#[]⟩, .slice none 0 0, .slice none 0 0, .slice none 0 0, .int .i64 0, .int .i64 0, .int .i64 0, .int .i64 0, .slice none 0 0, .slice none 0 0], 10, true⟩]) := .app _ _ _
      have b7 : hob (h1 ++ [some ⟨[.string ⟨#[]⟩, .slice none 0 0, .slice none 0 0, .slice none 0 0, .int .i64 0, .int .i64 0, .int .i64 0, .int .i64 0, .slice none 0 0, .slice none 0 0], 10, true⟩]) h1.length = some ⟨[.string ⟨#[]⟩, .slice none 0 0, .slice none 0 0, .slice none 0 0, .int .i64 0, .int .i64 0, .int .i64 0, .int .i64 0, .slice none 0 0, .slice none 0 0], 10, true⟩ := by simp [hob]
      have m7 : MT [] h h1.length := .inr (by omega)
      replace bk := hob_kp kN bk (by simp); replace bz := hob_kp kN bz (by simp); replace xk := xk.kp0 kN
      have lN : (h1 ++ [some (⟨[.string ⟨#[]⟩, .slice none 0 0, .slice none 0 0, .slice none 0 0, .int .i64 0, .int .i64 0, .int .i64 0, .int .i64 0, .slice none 0 0, .slice none 0 0], 10, true⟩ : AObj)]).length = h1.length + 1 := by simp
      generalize h1 ++ [some (⟨[.string ⟨#[]⟩, .slice none 0 0, .slice none 0 0, .slice none 0 0, .int .i64 0, .int .i64 0, .int .i64 0, .int .i64 0, .slice none 0 0, .slice none 0 0], 10, true⟩ : AObj)] = hN at kN b7 bk bz xk lN ⊢
      refine call0 (specL5KeyA_ac xk.1 ok _) ?_
      rintro _ gT hr kT
      have lT := kT.1
      replace bk := hob_kp kT bk (by simp); replace bz := hob_kp kT bz (by simp); replace xk := xk.kp0 kT; replace b7 := hob_kp kT b7 (by simp)
      cases hs : keyS Mk (t.data[k].toNat : Nat) with
      | none =>
        rw [hs] at hr
        simp only [KeyR] at hr
        obtain ⟨l', rfl, q1, q2⟩ := hr
        obtain ⟨gU, eu, bu, ku, nu⟩ := strV_full b7 rfl (l := l') q1 q2
        replace bk := hob_kp ku bk (by simp; omega); replace bz := hob_kp ku bz (by simp; omega); replace xk := xk.kp ku (fun i hi hn => by have := xlt i hi; simp at hn; omega)
        have lU := ku.1
        rw [keysS_no hk1 (by rw [hk2]; exact hs)] at heq
        rw [heq]
        have hck2 := hcs_full bk xk.1.len
        obtain ⟨gf, ef, bf, hf, xf, _⟩ := mn_put xk bz rfl (by omega)
        simp -implicitDefEqProofs [hi, eu, m7, hck2, ef, hf, mZ, resA_2, resA1]
        exact ⟨_, _, by simp, xf.mono (by omega)⟩
      | some M' =>
        rw [hs] at hr
        simp only [KeyR] at hr
        obtain ⟨l', L', rfl, x'⟩ := hr
        have x1' := x'.1.lt
        obtain ⟨gU, eu, bu, ku, nu⟩ := strV_full b7 rfl (l := l') x'.1.len x'.1.one
        replace bk := hob_kp ku bk (by simp; omega); replace bz := hob_kp ku bz (by simp; omega); replace xk := xk.kp ku (fun i hi hn => by have := xlt i hi; simp at hn; omega)
        have lU := ku.1
        replace x' := x'.kp ku (fun i hi hn => by have := x'.2.2 i hi; simp at hn; omega)
        have hcu := hcs_full bu x'.1.len
        rw [keysS_yes hk1 (by rw [hk2]; exact hs)] at heq
        obtain ⟨gf, ef, bf, hf, xf, kf, nf⟩ := mn_put x' bk xk.1.len (by omega)
        replace bz := hob_kp kf bz (by simp)
        simp -implicitDefEqProofs [eu, m7, hcu, ef, mV]
        exact ⟨by omega, l', bf, M', ⟨L', xf.mono (by omega)⟩, keyS_ok hs, bz, by rw [heq]; simp; omega⟩
  · rintro s s2 h1 hi ⟨lg, lk, Mk, Lk, bk, xk, ok, bz, heq⟩ kp
    have hd : t.data.toList.drop t.size = [] := List.drop_of_length_le (by omega)
    rw [hd] at heq
    have hd0 : keysS Mk [] = (Mk, 0) := rfl
    rw [hd0] at heq
    rw [heq]
    have hck := hcs_full bk xk.1.len
    obtain ⟨gf, ef, bf, hf, xf, _⟩ := mn_put xk bz rfl (by omega)
    simp -implicitDefEqProofs [L50_0, K50_0, hck, ef, hf, mZ, resA_2, resA1]
    exact ⟨_, _, by simp, xf.mono (by omega)⟩
end
end Go.Proofs.Ytpenocegikjpaaa

/- A key struck: as the program reckons. -/
set_option linter.unusedSimpArgs false
set_option linter.unusedVariables false
set_option maxHeartbeats 1000000
namespace Go.Proofs.Ytpenocegikjpaaa
open Go.Ab
theorem mchB_eq {M : Mch} (hM : mchB M = true) (m : List (List Mx)) (sp : Int) (x : Mx) (hm : magB M.font m = true) (hx : pieceB M.font x = true) :
    mchB { M with mag := m, spare := sp, line := M.line ++ [x] } = (inB sp 0 60 && fitsB M.msr (itemsL M.font (M.line ++ [x]))) := by
  obtain ⟨p1, p2, p3, p4, p5, p6⟩ := mchB_parts hM
  unfold mchB
  simp only [hm, p3, p5, List.all_append, p4, List.all_cons, hx, List.all_nil, decide_true, Bool.true_and, Bool.and_true]
theorem magB_drop {F : Fnt} {m : List (List Mx)} {q : Nat} (h : magB F m = true) (hq : q < m.length) : magB F (m.set q (m[q].drop 1)) = true := by
  have h' := h
  simp only [magB, Bool.and_eq_true, decide_eq_true_eq, List.all_eq_true] at h ⊢
  obtain ⟨⟨h1, h2⟩, h3⟩ := h
  refine ⟨⟨h1, by simp [h2]⟩, fun c hc => ?_⟩
  rcases List.mem_or_eq_of_mem_set hc with hc | rfl
  · exact h3 c hc
  · have := h3 _ (List.getElem_mem hq)
    simp only [chanB, Bool.and_eq_true, decide_eq_true_eq, List.all_eq_true] at this ⊢
    exact ⟨by simp; omega, fun x hx => this.2 x (List.mem_of_mem_drop hx)⟩
theorem keyS_space {M : Mch} (hM : mchB M = true) : keyS M 32 = if M.spare ≠ 0 ∧ fitsB M.msr (itemsL M.font (M.line ++ [(-1, 0)])) = true then some { M with spare := M.spare - 1, line := M.line ++ [(-1, 0)] } else none := by
  obtain ⟨p1, p2, p3, p4, p5, p6⟩ := mchB_parts hM
  have hm := mchB_eq hM M.mag (M.spare - 1) (-1, 0) p1 (by simp [pieceB, bandB])
  unfold keyS
  rw [if_pos rfl]
  have e : ({ M with spare := M.spare - 1, line := M.line ++ [(-1, 0)] } : Mch) = { M with mag := M.mag, spare := M.spare - 1, line := M.line ++ [(-1, 0)] } := rfl
  rw [e, hm]
  by_cases h0 : M.spare = 0
  · have : inB (M.spare - 1) 0 60 = false := by simp [inB]; omega
    rw [this, Bool.false_and, if_neg (by simp), if_neg (fun a => a.1 h0)]
  · have : inB (M.spare - 1) 0 60 = true := by simp [inB]; omega
    simp [this, h0]
theorem keyS_none {M : Mch} {c : Int} (hc : c ≠ 32) (h : idxI M.font.ls (keyP c) < 0) : keyS M c = none := by
  unfold keyS
  rw [if_neg hc]
  have : takeM M.font M.mag (idxI M.font.ls (keyP c)) = none := if_neg fun ⟨_, a, _⟩ => by omega
  rw [this]
theorem keyS_empty {M : Mch} {c : Int} (hc : c ≠ 32) {q : Nat} (h : idxI M.font.ls (keyP c) = q) (hq : q < M.mag.length) (h0 : M.mag[q].length = 0) : keyS M c = none := by
  unfold keyS
  rw [if_neg hc, h]
  have : takeM M.font M.mag q = none := by
    unfold takeM
    split
    · rw [Int.toNat_natCast, getD_at hq, List.eq_nil_of_length_eq_zero h0]
    · rfl
  rw [this]
theorem keyS_letter {M : Mch} {c : Int} (hM : mchB M = true) (hc : c ≠ 32) {q : Nat} (h : idxI M.font.ls (keyP c) = q) (hq : q < M.mag.length) (h0 : 0 < M.mag[q].length) :
    keyS M c = if fitsB M.msr (itemsL M.font (M.line ++ [M.mag[q][0]])) = true then some { M with mag := M.mag.set q (M.mag[q].drop 1), line := M.line ++ [M.mag[q][0]] } else none := by
  obtain ⟨p1, p2, p3, p4, p5, p6⟩ := mchB_parts hM
  obtain ⟨m1, m2, m3⟩ := magB_mem p1
  obtain ⟨x, rest, hxr⟩ : ∃ x rest, M.mag[q] = x :: rest := by
    cases hh : M.mag[q] with
    | nil => rw [hh] at h0; simp at h0
    | cons x rest => exact ⟨x, rest, rfl⟩
  have hx0 : M.mag[q][0] = x := by simp [hxr]
  have hd : M.mag[q].drop 1 = rest := by simp [hxr]
  have hxm : mxB M.font x = true := m3 _ (List.getElem_mem hq) x (by simp [hxr])
  have hm := mchB_eq hM (M.mag.set q (M.mag[q].drop 1)) M.spare x (magB_drop p1 hq) (by simp [pieceB, hxm])
  have ht : takeM M.font M.mag q = some (M.mag.set q rest, x) := by
    unfold takeM
    rw [if_pos ⟨p1, by omega, by omega⟩, Int.toNat_natCast, getD_at hq, hxr]
  have hs : inB M.spare 0 60 = true := by simp [inB]; omega
  unfold keyS
  rw [if_neg hc, h, ht, hx0, hd]
  rw [hd, hs, Bool.true_and] at hm
  simp only
  have e : ({ M with mag := M.mag.set q rest, line := M.line ++ [x] } : Mch) = { M with mag := M.mag.set q rest, spare := M.spare, line := M.line ++ [x] } := rfl
  rw [e, hm]
end Go.Proofs.Ytpenocegikjpaaa
