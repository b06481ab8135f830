/- Joined texts. -/
import Derived.Test.YtpenocegikjpaaaF2
/- Contracts: DropWaiting, both. -/
set_option linter.unusedSimpArgs false
set_option linter.unusedVariables false
set_option maxHeartbeats 1000000
namespace Go.Proofs.Ytpenocegikjpaaa
open Go.Ab
/-- Matrices fall, as long as they may: the magazine, how many. -/
def drops (F : Fnt) : List Mx → Nat → List (List Mx) → List (List Mx) × Nat
  | [], _, m => (m, 0)
  | _ :: _, 0, m => (m, 0)
  | x :: xs, n + 1, m => match dropM F m x with
    | none => (m, 0)
    | some (m', _) => ((drops F xs n m').1, (drops F xs n m').2 + 1)
theorem drops_zero (F : Fnt) (l : List Mx) (m : List (List Mx)) : drops F l 0 m = (m, 0) := by cases l <;> rfl
theorem drops_no {F : Fnt} {l : List Mx} {n k : Nat} {m : List (List Mx)} (hk : k < l.length) (h : dropM F m l[k] = none) : drops F (l.drop k) n m = (m, 0) := by
  rw [List.drop_eq_getElem_cons hk]
  cases n with
  | zero => rfl
  | succ n => simp only [drops, h]
theorem drops_yes {F : Fnt} {l : List Mx} {n k i : Nat} {m m' : List (List Mx)} (hk : k < l.length) (hn : k < n) (h : dropM F m l[k] = some (m', i)) : drops F (l.drop k) (n - k) m = ((drops F (l.drop (k + 1)) (n - (k + 1)) m').1, (drops F (l.drop (k + 1)) (n - (k + 1)) m').2 + 1) := by
  rw [List.drop_eq_getElem_cons hk, show n - k = (n - (k + 1)) + 1 by omega]
  simp only [drops, h]
/-- What DropWaiting answers. -/
def dropW (M : Mch) (n : Int) : Mch × Int :=
  if mchB M = true ∧ 0 ≤ n then ({ M with mag := (drops M.font M.wait n.toNat M.mag).1, wait := M.wait.drop (drops M.font M.wait n.toNat M.mag).2 }, (((drops M.font M.wait n.toNat M.mag).2 : Nat) : Int)) else (M0, -1)
theorem mch_parts (M : Mch) (m : List (List Mx)) (q : List Mx) : ({ M with mag := m, wait := q } : Mch).font = M.font := rfl
/-- The answer's cells are written. -/
theorem ans_fin {n n0 z : Nat} {g : Heap} {M : Mch} {vW vC vM vL vQ : Value} {LW LC LM LL LQ : List Nat} {c : List Value} (r : RM true g M vW vC vM vL vQ LW LC LM LL LQ) (nd : (LW ++ LC ++ LM ++ LL ++ LQ).Nodup) (ge : ∀ i ∈ LW ++ LC ++ LM ++ LL ++ LQ, n0 ≤ i)
    (bZ : hob g z = some ⟨c, 10, true⟩) (hc : c.length = 10) (hz : z < n0) (hn : n ≤ n0) :
    ∃ g', strV 10 (.pointer (some ⟨z, 0, none⟩)) (.agg (mcells M vW vC vM vL vQ).toArray) g = some ([z], undef, g') ∧ hcs g' z 0 10 = some (mcells M vW vC vM vL vQ) ∧ MN n g' (mcells M vW vC vM vL vQ) M (LW ++ LC ++ LM ++ LL ++ LQ) := by
  have o : oneAll (mcells M vW vC vM vL vQ) = true := by simp [mcells, r.rW.one, r.rC.one, r.rM.one, r.rL.one, r.rQ.one]
  obtain ⟨g', e, b, k, _⟩ := strV_full bZ hc (l := mcells M vW vC vM vL vQ) rfl o
  refine ⟨g', e, hcs_full b rfl, ⟨_, _, _, _, _, _, _, _, _, _, rfl, r.kp k fun i hi hn => ?_, rfl⟩, nd, fun i hi => Nat.le_trans hn (ge i hi)⟩
  have := ge i hi; simp at hn; omega
section
variable {w : Bool} {h : Heap} {M : Mch} {vW vC vM vL vQ : Value} {LW LC LM LL LQ : List Nat}
theorem specDropW_ac (r : RM w h M vW vC vM vL vQ LW LC LM LL LQ) (hl : szM M ≤ 1048576) (n : Int) :
    AC Try.prog 49 [mval M vW vC vM vL vQ, .int .i64 n] h [] fun r h' => TupM h.length h' r (dropW M n).1 (.int .i64 (dropW M n).2) := by
  refine ac49 (by simp [p49]) ?_
  have kb : Kp [] h (h ++ [some ⟨mcells M vW vC vM vL vQ, 10, true⟩, some ⟨zcells, 10, true⟩]) := .app [] h _
  have r1 := r.kp0 kb
  have bV : hob (h ++ [some ⟨mcells M vW vC vM vL vQ, 10, true⟩, some ⟨zcells, 10, true⟩]) h.length = some ⟨mcells M vW vC vM vL vQ, 10, true⟩ := by simp [hob]
  have bZ : hob (h ++ [some ⟨mcells M vW vC vM vL vQ, 10, true⟩, some ⟨zcells, 10, true⟩]) (h.length + 1) = some ⟨zcells, 10, true⟩ := by simp [hob]
  have kl := kb.1
  have gl : (h ++ [some (⟨mcells M vW vC vM vL vQ, 10, true⟩ : AObj), some ⟨zcells, 10, true⟩]).length = h.length + 2 := by simp
  simp -implicitDefEqProofs [p49, mval, mcells, zcells, r.rW.one, r.rC.one, r.rM.one, r.rL.one, r.rQ.one]
  simp only [mcells, zcells] at kb r1 bV bZ kl gl
  generalize h ++ [some (⟨[.string M.font.letters, vW, vC, vM, .int .i64 M.spare, .int .i64 M.msr.width, .int .i64 M.msr.thin, .int .i64 M.msr.thick, vL, vQ], 10, true⟩ : AObj), some ⟨[.string ⟨#[]⟩, .slice none 0 0, .slice none 0 0, .slice none 0 0, .int .i64 0, .int .i64 0, .int .i64 0, .int .i64 0, .slice none 0 0, .slice none 0 0], 10, true⟩] = g0 at kb r1 bV bZ kl gl ⊢
  have mV : MT [] h h.length := .inr (Nat.le_refl _)
  have mZ : MT [] h (h.length + 1) := .inr (by omega)
  refine call1 (specMachineOk_ac r1 (by unfold szM at hl; omega)) ?_
  obtain ⟨gz, ez, bz, kz, _⟩ := strV_full bZ rfl (l := [.string ⟨#[]⟩, .slice none 0 0, .slice none 0 0, .slice none 0 0, .int .i64 0, .int .i64 0, .int .i64 0, .int .i64 0, .slice none 0 0, .slice none 0 0]) rfl (by simp)
  have hcz := hcs_full bz rfl
  cases hM : mchB M
  · have hn : dropW M n = (M0, -1) := by unfold dropW; rw [hM]; simp
    rw [hn]
    simp -implicitDefEqProofs [bldV, fillA, ez, mZ, resA_2, resA1, hcz]
    exact ⟨zcells, [], rfl, .zero _ _⟩
  by_cases n0 : n < 0
  · have hn : dropW M n = (M0, -1) := by unfold dropW; rw [if_neg (by omega)]
    rw [hn]
    simp -implicitDefEqProofs [n0, bldV, fillA, ez, mZ, resA_2, resA1, hcz]
    exact ⟨zcells, [], rfl, .zero _ _⟩
  obtain ⟨N, rfl⟩ : ∃ N : Nat, n = N := ⟨n.toNat, by omega⟩
  have hn : dropW M N = ({ M with mag := (drops M.font M.wait N M.mag).1, wait := M.wait.drop (drops M.font M.wait N M.mag).2 }, (((drops M.font M.wait N M.mag).2 : Nat) : Int)) := by
    unfold dropW; rw [if_pos ⟨hM, by omega⟩]; rfl
  rw [hn]
  have hcV := hcs_full bV rfl
  simp -implicitDefEqProofs [n0, hcV]
  refine call0 (specCopy_ac r1 hl) ?_
  rintro _ g2 ⟨vW', vC', vM', vL', vQ', LW', LC', LM', LL', LQ', rfl, rc, ndc, gec⟩ k2
  replace r1 := r1.kp0 k2; replace bV := hob_kp k2 bV (by simp); replace bZ := hob_kp k2 bZ (by simp)
  have kl2 := k2.1
  have ltc := rc.lt
  have o1 : oneAll [.string M.font.letters, vW', vC', vM', .int .i64 M.spare, .int .i64 M.msr.width, .int .i64 M.msr.thin, .int .i64 M.msr.thick, vL', vQ'] = true := by simp [rc.rW.one, rc.rC.one, rc.rM.one, rc.rL.one, rc.rQ.one]
  have ev : strV 10 (.pointer (some ⟨g2.length, 0, none⟩)) (.agg (List.toArray [.string M.font.letters, vW', vC', vM', .int .i64 M.spare, .int .i64 M.msr.width, .int .i64 M.msr.thin, .int .i64 M.msr.thick, vL', vQ'])) (g2 ++ [some ⟨[.string ⟨#[]⟩, .slice none 0 0, .slice none 0 0, .slice none 0 0, .int .i64 0, .int .i64 0, .int .i64 0, .int .i64 0, .slice none 0 0, .slice none 0 0], 10, true⟩]) = some ([g2.length], undef, g2 ++ [some ⟨[.string M.font.letters, vW', vC', vM', .int .i64 M.spare, .int .i64 M.msr.width, .int .i64 M.msr.thin, .int .i64 M.msr.thick, vL', vQ'], 10, true⟩]) := strV_var rfl rfl o1
  have ka : Kp [] g2 (g2 ++ [some ⟨[.string M.font.letters, vW', vC', vM', .int .i64 M.spare, .int .i64 M.msr.width, .int .i64 M.msr.thin, .int .i64 M.msr.thick, vL', vQ'], 10, true⟩]) := .app _ _ _
  have gla : (g2 ++ [some (⟨[.string M.font.letters, vW', vC', vM', .int .i64 M.spare, .int .i64 M.msr.width, .int .i64 M.msr.thin, .int .i64 M.msr.thick, vL', vQ'], 10, true⟩ : AObj)]).length = g2.length + 1 := by simp
  have ba : hob (g2 ++ [some ⟨[.string M.font.letters, vW', vC', vM', .int .i64 M.spare, .int .i64 M.msr.width, .int .i64 M.msr.thin, .int .i64 M.msr.thick, vL', vQ'], 10, true⟩]) g2.length = some ⟨[.string M.font.letters, vW', vC', vM', .int .i64 M.spare, .int .i64 M.msr.width, .int .i64 M.msr.thin, .int .i64 M.msr.thick, vL', vQ'], 10, true⟩ := by simp [hob]
  replace bZ := hob_kp ka bZ (by simp); replace bV := hob_kp ka bV (by simp); replace rc := rc.kp0 ka; replace r1 := r1.kp0 ka
  have c9 : hc1 (g2 ++ [some ⟨[.string M.font.letters, vW', vC', vM', .int .i64 M.spare, .int .i64 M.msr.width, .int .i64 M.msr.thin, .int .i64 M.msr.thick, vL', vQ'], 10, true⟩]) h.length 9 = some vQ := by rw [hc1_hob bV]; rfl
  have m2 : MT [] h g2.length := .inr (by omega)
  simp -implicitDefEqProofs [mval, mcells, ev, m2, c9, r1.rQ.len]
  generalize g2 ++ [some (⟨[.string M.font.letters, vW', vC', vM', .int .i64 M.spare, .int .i64 M.msr.width, .int .i64 M.msr.thin, .int .i64 M.msr.thick, vL', vQ'], 10, true⟩ : AObj)] = ga at ka ba bV bZ r1 rc gla ev c9 ⊢
  have kga : Kp [] h ga := (kb.trans k2 (by simp)).trans ka (by simp)
  have oQ : ∀ i ∈ LQ, i < g2.length := fun i hi => by have := (r.rQ.lt i hi); omega
  refine range r49_0 kga M.wait.length r1.rQ.bd (by simp) (by simp)
    (fun k s h1 => k ≤ N ∧ ∃ m vX vY LX, hob h1 g2.length = some ⟨[.string M.font.letters, vW', vC', vX, .int .i64 M.spare, .int .i64 M.msr.width, .int .i64 M.msr.thin, .int .i64 M.msr.thick, vL', vY], 10, true⟩ ∧ RM true h1 { M with mag := m, wait := M.wait.drop k } vW' vC' vX vL' vY LW' LC' LX LL' LQ' ∧ (LW' ++ LC' ++ LX ++ LL' ++ LQ').Nodup ∧ (∀ i ∈ LW' ++ LC' ++ LX ++ LL' ++ LQ', g0.length ≤ i ∧ i ≠ g2.length) ∧
      hob h1 h.length = some ⟨[.string M.font.letters, vW, vC, vM, .int .i64 M.spare, .int .i64 M.msr.width, .int .i64 M.msr.thin, .int .i64 M.msr.thick, vL, vQ], 10, true⟩ ∧ hob h1 (h.length + 1) = some ⟨[.string ⟨#[]⟩, .slice none 0 0, .slice none 0 0, .slice none 0 0, .int .i64 0, .int .i64 0, .int .i64 0, .int .i64 0, .slice none 0 0, .slice none 0 0], 10, true⟩ ∧ RL w EX h1 vQ M.wait LQ ∧ (∀ i ∈ LX, i ∈ LM' ∨ ga.length ≤ i) ∧
      drops M.font M.wait N M.mag = ((drops M.font (M.wait.drop k) (N - k) m).1, (drops M.font (M.wait.drop k) (N - k) m).2 + k))
    ⟨by omega, M.mag, vM', vQ', LM', ba, rc, ndc, fun i hi => ⟨gec i hi, by have := ltc i hi; omega⟩, bV, bZ, r1.rQ, fun i hi => .inl hi, by simp⟩ ?_ ?_
  · rintro k s h1 hk hi ⟨hkN, m, vX, vY, LX, bM, rr, nd, ge, bV, bZ, rQ, hX, heq⟩ kp
    obtain ⟨i', o', ea, la, _⟩ := rQ.atX hk
    have hge := kp.1
    have hgl : ga.length ≤ h1.length := by have := hob_lt bM; omega
    have kx : Kp [] h1 (h1 ++ [some ⟨[.int .i64 M.wait[k].1, .int .i64 M.wait[k].2], 2, true⟩]) := .app [] h1 _
    replace rr := rr.kp0 kx; replace bM := hob_kp kx bM (by simp); replace bV := hob_kp kx bV (by simp); replace bZ := hob_kp kx bZ (by simp); replace rQ := rQ.kp0 kx
    have lx : (h1 ++ [some (⟨[.int .i64 M.wait[k].1, .int .i64 M.wait[k].2], 2, true⟩ : AObj)]).length = h1.length + 1 := by simp
    have hcM := hcs_full bM rfl
    have hcx : hcs (h1 ++ [some ⟨[.int .i64 M.wait[k].1, .int .i64 M.wait[k].2], 2, true⟩]) h1.length 0 2 = some [.int .i64 M.wait[k].1, .int .i64 M.wait[k].2] := hcs_var rfl
    have hc3 : hcs (h1 ++ [some ⟨[.int .i64 M.wait[k].1, .int .i64 M.wait[k].2], 2, true⟩]) g2.length 0 3 = some [.string M.font.letters, vW', vC'] := by rw [hcs_hob bM]; rfl
    have c3 : hc1 (h1 ++ [some ⟨[.int .i64 M.wait[k].1, .int .i64 M.wait[k].2], 2, true⟩]) g2.length 3 = some vX := by rw [hc1_hob bM]; rfl
    obtain ⟨gf, ef, hf, mf⟩ := ans_fin (n := h.length) (n0 := g0.length) rr nd (fun i hi => (ge i hi).1) bZ rfl (by omega) (by omega)
    simp only [mcells] at ef hf
    by_cases hkn : (k : Int) = N
    · have hkn' : k = N := by omega
      subst hkn'
      rw [Nat.sub_self, drops_zero] at heq
      rw [heq]
      simp -implicitDefEqProofs [b49_0, L49_0, hi, ea, la, strV_new, mt_ge hge, hcM, ef, hf, mZ, resA_2, resA1]
      simpa using ⟨_, _, rfl, mf⟩
    simp -implicitDefEqProofs [b49_0, L49_0, hi, ea, la, strV_new, mt_ge hge, hkn, hcM, hc3, c3, hcx]
    generalize h1 ++ [some (⟨[.int .i64 M.wait[k].1, .int .i64 M.wait[k].2], 2, true⟩ : AObj)] = hx at kx rr bM bV bZ rQ lx hcM hcx hc3 c3 ef ⊢
    refine call0 (specDrop_ac (F := M.font) rr.rF rr.rM M.wait[k]) ?_
    rintro _ h2 hd kd
    have lkd := kd.1
    have hgf := hob_lt bM
    have rlt := rr.lt
    replace rr := rr.kp0 kd; replace bM := hob_kp kd bM (by simp); replace bV := hob_kp kd bV (by simp); replace bZ := hob_kp kd bZ (by simp); replace rQ := rQ.kp0 kd
    cases hdm : dropM M.font m M.wait[k] with
    | none =>
      rw [hdm] at hd
      simp only [DropR] at hd
      subst hd
      rw [drops_no hk hdm] at heq
      rw [heq]
      have hcM2 := hcs_full bM rfl
      obtain ⟨gf, ef, hf, mf⟩ := ans_fin (n := h.length) (n0 := g0.length) rr nd (fun i hi => (ge i hi).1) bZ rfl (by omega) (by omega)
      simp only [mcells] at ef hf
      simp -implicitDefEqProofs [hcM2, ef, hf, mZ, resA_2, resA1]
      simpa using ⟨_, _, rfl, mf⟩
    | some y =>
      obtain ⟨m', q⟩ := y
      rw [hdm] at hd
      simp only [DropR] at hd
      obtain ⟨vN, rfl, LN, rN, ndN, geN⟩ := hd
      have ltN := rN.lt
      obtain ⟨h3, e3, b3, k3, n3⟩ := strV_cell (j := 3) bM (by simp) rN.cells rN.one
      replace b3 : hob h3 g2.length = some ⟨[.string M.font.letters, vW', vC', vN, .int .i64 M.spare, .int .i64 M.msr.width, .int .i64 M.msr.thin, .int .i64 M.msr.thick, vL', vY], 10, true⟩ := b3
      have dis : ∀ i ∈ LW' ++ LC' ++ LX ++ LL' ++ LQ', i ∉ [g2.length] := fun i hi hn => by simp at hn; exact (ge i hi).2 hn
      replace rr := rr.kp k3 dis
      replace rN := rN.kp k3 (fun i hi hn => by have := geN i hi; simp at hn; omega)
      replace bV := hob_kp k3 bV (by simp; omega); replace bZ := hob_kp k3 bZ (by simp; omega)
      replace rQ := rQ.kp k3 (fun i hi hn => by have := r1.rQ.lt i hi; have := oQ i hi; simp at hn; omega)
      have c9 : hc1 h3 g2.length 9 = some vY := by rw [hc1_hob b3]; rfl
      obtain ⟨vY2, es, rY2⟩ := rr.rQ.sub rr.rQ.fit (lo := some (.int .i64 1)) (hi := none) (a := 1) (b := (M.wait.drop k).length) rfl rfl (by simp; omega) (Nat.le_refl _)
      have hY2 : List.take ((M.wait.drop k).length - 1) (List.drop 1 (M.wait.drop k)) = M.wait.drop (k + 1) := by
        rw [List.take_of_length_le (by simp; omega), List.drop_drop, Nat.add_comm]
      rw [hY2] at rY2
      obtain ⟨h4, e4, b4, k4, n4⟩ := strV_cell (j := 9) b3 (by simp) rY2.cells rY2.one
      replace b4 : hob h4 g2.length = some ⟨[.string M.font.letters, vW', vC', vN, .int .i64 M.spare, .int .i64 M.msr.width, .int .i64 M.msr.thin, .int .i64 M.msr.thick, vL', vY2], 10, true⟩ := b4
      simp only [EX_es] at es
      simp -implicitDefEqProofs [e3, mt_ge, m2, c9, es, e4]
      have kx4 : Kp [g2.length] h3 h4 := k4
      refine ⟨by omega, m', vN, vY2, b4, LN, ⟨(rr.rW.kp k4 fun i hi => dis i (by simp [hi])), (rr.rC.kp k4 fun i hi => dis i (by simp [hi])), rN.kp k4 (fun i hi hn => by have := geN i hi; simp at hn; omega), (rr.rL.kp k4 fun i hi => dis i (by simp [hi])), (rY2.kp k4 fun i hi => dis i (by simp [hi]))⟩, ?_, ?_, hob_kp k4 bV (by simp; omega), hob_kp k4 bZ (by simp; omega),
        rQ.kp k4 (fun i hi hn => by have := oQ i hi; simp at hn; omega), fun i hi => .inr (by have := geN i hi; omega), ?_⟩
      · have hp : ∀ {X : List Nat}, (LW' ++ LC' ++ X ++ LL' ++ LQ').Perm (X ++ ((LW' ++ LC') ++ (LL' ++ LQ'))) := fun {X} => by
          rw [← List.append_assoc X, List.append_assoc (LW' ++ LC' ++ X)]
          exact List.Perm.append_right _ List.perm_append_comm
        have nd1 := (hp (X := LX)).nodup_iff.1 nd
        have hfin := (hp (X := LN)).nodup_iff.2 (List.nodup_append.2 ⟨ndN, (List.nodup_append.1 nd1).2.1, fun a ha b hb e => by
          have h1 := geN a ha
          have h2 := rlt b (by simp only [List.mem_append] at hb ⊢; rcases hb with (hb | hb) | (hb | hb) <;> simp [hb])
          omega⟩)
        simpa only [List.append_assoc] using hfin
      · have hge : ∀ i ∈ LW' ++ LC' ++ LN ++ LL' ++ LQ', g0.length ≤ i ∧ i ≠ g2.length := by
          intro i hi
          simp only [List.mem_append] at hi
          rcases hi with (((hi | hi) | hi) | hi) | hi
          · exact ge i (by simp [hi])
          · exact ge i (by simp [hi])
          · have := geN i hi; omega
          · exact ge i (by simp [hi])
          · exact ge i (by simp [hi])
        simpa using hge
      · rw [drops_yes hk (by omega) hdm] at heq
        rw [heq]; simp; omega
  · rintro s h1 hi ⟨hkN, m, vX, vY, LX, bM, rr, nd, ge, bV, bZ, rQ, hX, heq⟩ kp
    rw [List.drop_length] at heq
    have hd0 : drops M.font [] (N - M.wait.length) m = (m, 0) := rfl
    rw [hd0] at heq
    rw [heq]
    have hcM := hcs_full bM rfl
    have c9 : hc1 h1 h.length 9 = some vQ := by rw [hc1_hob bV]; rfl
    obtain ⟨gf, ef, hf, mf⟩ := ans_fin (n := h.length) (n0 := g0.length) rr nd (fun i hi => (ge i hi).1) bZ rfl (by omega) (by omega)
    simp only [mcells] at ef hf
    simp -implicitDefEqProofs [L49_0, hcM, c9, rQ.len, ef, hf, mZ, resA_2, resA1]
    exact ⟨_, LW' ++ LC' ++ LX ++ LL' ++ LQ', rfl, by simpa [mcells] using mf⟩
theorem implDropW_ac (r : RM w h M vW vC vM vL vQ LW LC LM LL LQ) (hl : szM M ≤ 1048576) (n : Int) :
    AC Try.prog 16 [mval M vW vC vM vL vQ, .int .i64 n] h [] fun r h' => TupM h.length h' r (dropW M n).1 (.int .i64 (dropW M n).2) := by
  refine ac16 (by simp [p16]) ?_
  have kb : Kp [] h (h ++ [some ⟨mcells M vW vC vM vL vQ, 10, true⟩, some ⟨zcells, 10, true⟩]) := .app [] h _
  have r1 := r.kp0 kb
  have bV : hob (h ++ [some ⟨mcells M vW vC vM vL vQ, 10, true⟩, some ⟨zcells, 10, true⟩]) h.length = some ⟨mcells M vW vC vM vL vQ, 10, true⟩ := by simp [hob]
  have bZ : hob (h ++ [some ⟨mcells M vW vC vM vL vQ, 10, true⟩, some ⟨zcells, 10, true⟩]) (h.length + 1) = some ⟨zcells, 10, true⟩ := by simp [hob]
  have kl := kb.1
  have gl : (h ++ [some (⟨mcells M vW vC vM vL vQ, 10, true⟩ : AObj), some ⟨zcells, 10, true⟩]).length = h.length + 2 := by simp
  simp -implicitDefEqProofs [p16, mval, mcells, zcells, r.rW.one, r.rC.one, r.rM.one, r.rL.one, r.rQ.one]
  simp only [mcells, zcells] at kb r1 bV bZ kl gl
  generalize h ++ [some (⟨[.string M.font.letters, vW, vC, vM, .int .i64 M.spare, .int .i64 M.msr.width, .int .i64 M.msr.thin, .int .i64 M.msr.thick, vL, vQ], 10, true⟩ : AObj), some ⟨[.string ⟨#[]⟩, .slice none 0 0, .slice none 0 0, .slice none 0 0, .int .i64 0, .int .i64 0, .int .i64 0, .int .i64 0, .slice none 0 0, .slice none 0 0], 10, true⟩] = g0 at kb r1 bV bZ kl gl ⊢
  have mV : MT [] h h.length := .inr (Nat.le_refl _)
  have mZ : MT [] h (h.length + 1) := .inr (by omega)
  refine call1 (implMachineOk_ac r1) ?_
  obtain ⟨gz, ez, bz, kz, _⟩ := strV_full bZ rfl (l := [.string ⟨#[]⟩, .slice none 0 0, .slice none 0 0, .slice none 0 0, .int .i64 0, .int .i64 0, .int .i64 0, .int .i64 0, .slice none 0 0, .slice none 0 0]) rfl (by simp)
  have hcz := hcs_full bz rfl
  cases hM : mchB M
  · have hn : dropW M n = (M0, -1) := by unfold dropW; rw [hM]; simp
    rw [hn]
    simp -implicitDefEqProofs [bldV, fillA, ez, mZ, resA_2, resA1, hcz]
    exact ⟨zcells, [], rfl, .zero _ _⟩
  by_cases n0 : n < 0
  · have hn : dropW M n = (M0, -1) := by unfold dropW; rw [if_neg (by omega)]
    rw [hn]
    simp -implicitDefEqProofs [n0, bldV, fillA, ez, mZ, resA_2, resA1, hcz]
    exact ⟨zcells, [], rfl, .zero _ _⟩
  obtain ⟨N, rfl⟩ : ∃ N : Nat, n = N := ⟨n.toNat, by omega⟩
  have hn : dropW M N = ({ M with mag := (drops M.font M.wait N M.mag).1, wait := M.wait.drop (drops M.font M.wait N M.mag).2 }, (((drops M.font M.wait N M.mag).2 : Nat) : Int)) := by
    unfold dropW; rw [if_pos ⟨hM, by omega⟩]; rfl
  rw [hn]
  have hcV := hcs_full bV rfl
  simp -implicitDefEqProofs [n0, hcV]
  refine call0 (implCopy_ac r1 hl) ?_
  rintro _ g2 ⟨vW', vC', vM', vL', vQ', LW', LC', LM', LL', LQ', rfl, rc, ndc, gec⟩ k2
  replace bV := hob_kp k2 bV (by simp); replace bZ := hob_kp k2 bZ (by simp)
  have kl2 := k2.1
  have o1 : oneAll [.string M.font.letters, vW', vC', vM', .int .i64 M.spare, .int .i64 M.msr.width, .int .i64 M.msr.thin, .int .i64 M.msr.thick, vL', vQ'] = true := by simp [rc.rW.one, rc.rC.one, rc.rM.one, rc.rL.one, rc.rQ.one]
  obtain ⟨ga, ev, ba, ka, na⟩ := strV_full bV rfl (l := [.string M.font.letters, vW', vC', vM', .int .i64 M.spare, .int .i64 M.msr.width, .int .i64 M.msr.thin, .int .i64 M.msr.thick, vL', vQ']) rfl o1
  replace bZ := hob_kp ka bZ (by simp)
  replace rc := rc.kp ka (fun i hi hn => by have := gec i hi; simp at hn; omega)
  simp -implicitDefEqProofs [mval, mcells, ev, mV]
  have kga : Kp [] h ga := (kb.trans k2 (by simp)).trans ka (by simp)
  refine loopK g16_0 kga (fun c s h1 => ∃ k : Nat, c = M.wait.length - k ∧ k ≤ M.wait.length ∧ k ≤ N ∧ s 6 = .int .i64 k ∧ ∃ m vX vY LX, hob h1 h.length = some ⟨[.string M.font.letters, vW', vC', vX, .int .i64 M.spare, .int .i64 M.msr.width, .int .i64 M.msr.thin, .int .i64 M.msr.thick, vL', vY], 10, true⟩ ∧ RM true h1 { M with mag := m, wait := M.wait.drop k } vW' vC' vX vL' vY LW' LC' LX LL' LQ' ∧ (LW' ++ LC' ++ LX ++ LL' ++ LQ').Nodup ∧ (∀ i ∈ LW' ++ LC' ++ LX ++ LL' ++ LQ', g0.length ≤ i) ∧
      hob h1 (h.length + 1) = some ⟨[.string ⟨#[]⟩, .slice none 0 0, .slice none 0 0, .slice none 0 0, .int .i64 0, .int .i64 0, .int .i64 0, .int .i64 0, .slice none 0 0, .slice none 0 0], 10, true⟩ ∧
      drops M.font M.wait N M.mag = ((drops M.font (M.wait.drop k) (N - k) m).1, (drops M.font (M.wait.drop k) (N - k) m).2 + k)) M.wait.length
    ⟨0, by simp, by simp, by omega, by simp, M.mag, vM', vQ', LM', ba, rc, ndc, gec, bZ, by simp⟩ ?_
  rintro c s h1 ⟨k, rfl, hk, hkN, h6, m, vX, vY, LX, bM, rr, nd, ge, bZ, heq⟩ kp
  have hlen : (M.wait.drop k).length = M.wait.length - k := by simp
  have hcM := hcs_full bM rfl
  have hc3 : hcs h1 h.length 0 3 = some [.string M.font.letters, vW', vC'] := by rw [hcs_hob bM]; rfl
  have c3 : hc1 h1 h.length 3 = some vX := by rw [hc1_hob bM]; rfl
  have c9 : hc1 h1 h.length 9 = some vY := by rw [hc1_hob bM]; rfl
  have hlv : lenV vY h1 = some ([], .int .i64 (M.wait.length - k : Nat), h1) := by rw [← hlen]; exact rr.rQ.len h1
  by_cases hkn : k = N
  · subst hkn
    rw [Nat.sub_self, drops_zero] at heq
    rw [heq]
    obtain ⟨gf, ef, hf, mf⟩ := ans_fin (n := h.length) (n0 := g0.length) rr nd ge bZ rfl (by omega) (by omega)
    simp only [mcells] at ef hf
    simp -implicitDefEqProofs [l16_0, a16_0, h6, hcM, ef, hf, mZ, resA_2, resA1]
    simpa using ⟨_, _, rfl, mf⟩
  have hkn' : k < N := by omega
  by_cases hke : k = M.wait.length
  · subst hke
    rw [List.drop_length] at heq
    have hd0 : drops M.font [] (N - M.wait.length) m = (m, 0) := rfl
    rw [hd0] at heq
    rw [heq]
    obtain ⟨gf, ef, hf, mf⟩ := ans_fin (n := h.length) (n0 := g0.length) rr nd ge bZ rfl (by omega) (by omega)
    simp only [mcells] at ef hf
    simp -implicitDefEqProofs [l16_0, a16_0, h6, hkn', c9, hlv, hcM, ef, hf, mZ, resA_2, resA1]
    exact ⟨_, LW' ++ LC' ++ LX ++ LL' ++ LQ', rfl, by simpa [mcells] using mf⟩
  have hk' : k < M.wait.length := by omega
  obtain ⟨i', o', ea, la, _⟩ := RL.atX rr.rQ (k := 0) (by simp; omega)
  have hat : (M.wait.drop k)[0]'(by simp; omega) = M.wait[k] := by simp
  simp only [hat] at la
  have ea0 : ∀ h', ixaV 2 vY (.int .i64 0) h' = some ([], .pointer (some ⟨i', o', none⟩), h') := ea
  simp -implicitDefEqProofs [l16_0, a16_0, h6, hkn', c9, hlv, show (0 : Int) < ((M.wait.length - k : Nat) : Int) by omega, show 0 < M.wait.length - k by omega, show k < M.wait.length by omega, hc3, c3, ea0, la]
  refine call0 (implDrop_ac (F := M.font) rr.rF rr.rM M.wait[k]) ?_
  rintro _ h2 hd kd
  have lkd := kd.1
  have lkp := kp.1
  have hgf := hob_lt bM
  have hgz := hob_lt bZ
  have rlt := rr.lt
  replace rr := rr.kp0 kd; replace bM := hob_kp kd bM (by simp); replace bZ := hob_kp kd bZ (by simp)
  cases hdm : dropM M.font m M.wait[k] with
  | none =>
    rw [hdm] at hd
    simp only [DropR] at hd
    subst hd
    rw [drops_no hk' hdm] at heq
    rw [heq]
    have hcM2 := hcs_full bM rfl
    obtain ⟨gf, ef, hf, mf⟩ := ans_fin (n := h.length) (n0 := g0.length) rr nd ge bZ rfl (by omega) (by omega)
    simp only [mcells] at ef hf
    simp -implicitDefEqProofs [h6, hcM2, ef, hf, mZ, resA_2, resA1]
    simpa using ⟨_, _, rfl, mf⟩
  | some y =>
    obtain ⟨m', q⟩ := y
    rw [hdm] at hd
    simp only [DropR] at hd
    obtain ⟨vN, rfl, LN, rN, ndN, geN⟩ := hd
    have ltN := rN.lt
    have c92 : hc1 h2 h.length 9 = some vY := by rw [hc1_hob bM]; rfl
    obtain ⟨vY2, es, rY2⟩ := rr.rQ.sub rr.rQ.fit (lo := some (.int .i64 1)) (hi := none) (a := 1) (b := (M.wait.drop k).length) rfl rfl (by simp; omega) (Nat.le_refl _)
    have hY2 : List.take ((M.wait.drop k).length - 1) (List.drop 1 (M.wait.drop k)) = M.wait.drop (k + 1) := by
      rw [List.take_of_length_le (by simp; omega), List.drop_drop, Nat.add_comm]
    rw [hY2] at rY2
    simp only [EX_es] at es
    obtain ⟨h3, e3, b3, k3, n3⟩ := strV_cell (j := 3) bM (by simp) rN.cells rN.one
    replace b3 : hob h3 h.length = some ⟨[.string M.font.letters, vW', vC', vN, .int .i64 M.spare, .int .i64 M.msr.width, .int .i64 M.msr.thin, .int .i64 M.msr.thick, vL', vY], 10, true⟩ := b3
    have dis : ∀ i ∈ LW' ++ LC' ++ LX ++ LL' ++ LQ', i ∉ [h.length] := fun i hi hn => by have := ge i hi; simp at hn; omega
    have disN : ∀ i ∈ LN, i ∉ [h.length] := fun i hi hn => by have := geN i hi; simp at hn; omega
    replace rY2 := rY2.kp k3 (fun i hi => dis i (by simp [hi]))
    obtain ⟨h4, e4, b4, k4, n4⟩ := strV_cell (j := 9) b3 (by simp) rY2.cells rY2.one
    replace b4 : hob h4 h.length = some ⟨[.string M.font.letters, vW', vC', vN, .int .i64 M.spare, .int .i64 M.msr.width, .int .i64 M.msr.thin, .int .i64 M.msr.thick, vL', vY2], 10, true⟩ := b4
    have k34 : Kp [h.length] h2 h4 := k3.trans k4 (by simp)
    have w1 : IntKind.wrap .i64 ((k : Int) + 1) = k + 1 := by
      have := rr.rQ.bd
      have hb := r.rQ.bd
      unfold big at hb
      exact wrap_in (by omega)
    simp -implicitDefEqProofs [e3, mV, c92, es, e4, h6, w1]
    refine ⟨M.wait.length - (k + 1), by omega, k + 1, rfl, by omega, by omega, by simp, m', vN, vY2, b4, LN, ⟨(rr.rW.kp k34 fun i hi => dis i (by simp [hi])), (rr.rC.kp k34 fun i hi => dis i (by simp [hi])), rN.kp k34 disN, (rr.rL.kp k34 fun i hi => dis i (by simp [hi])), (rY2.kp k4 fun i hi => dis i (by simp [hi]))⟩, ?_, ?_, hob_kp k34 bZ (by simp), ?_⟩
    · have hp : ∀ {X : List Nat}, (LW' ++ LC' ++ X ++ LL' ++ LQ').Perm (X ++ ((LW' ++ LC') ++ (LL' ++ LQ'))) := fun {X} => by
        rw [← List.append_assoc X, List.append_assoc (LW' ++ LC' ++ X)]
        exact List.Perm.append_right _ List.perm_append_comm
      have nd1 := (hp (X := LX)).nodup_iff.1 nd
      have hfin := (hp (X := LN)).nodup_iff.2 (List.nodup_append.2 ⟨ndN, (List.nodup_append.1 nd1).2.1, fun a ha b hb e => by
        have h1 := geN a ha
        have h2 := rlt b (by simp only [List.mem_append] at hb ⊢; rcases hb with (hb | hb) | (hb | hb) <;> simp [hb])
        omega⟩)
      simpa only [List.append_assoc] using hfin
    · have hge : ∀ i ∈ LW' ++ LC' ++ LN ++ LL' ++ LQ', g0.length ≤ i := by
        intro i hi
        simp only [List.mem_append] at hi
        rcases hi with (((hi | hi) | hi) | hi) | hi
        · exact ge i (by simp [hi])
        · exact ge i (by simp [hi])
        · have := geN i hi; omega
        · exact ge i (by simp [hi])
        · exact ge i (by simp [hi])
      simpa using hge
    · rw [drops_yes hk' hkn' hdm] at heq
      rw [heq]; simp; omega
end
end Go.Proofs.Ytpenocegikjpaaa

/- The law of DropWaiting. -/
set_option linter.unusedSimpArgs false
set_option linter.unusedVariables false
set_option maxHeartbeats 1000000
namespace Go.Proofs.Ytpenocegikjpaaa
open Go.Ab
theorem sz_grow (m : List (List Mx)) (q : Nat) (x : Mx) : szXX (m.set q (m.getD q [] ++ [x])) ≤ szXX m + 1 := by
  induction m generalizing q with
  | nil => simp [szXX]
  | cons a m ih =>
    cases q with
    | zero => simp [szXX]; omega
    | succ q =>
      have := ih q
      simp only [List.set_cons_succ, List.getD_cons_succ, szXX, List.map_cons, List.sum_cons, List.length_cons] at this ⊢
      omega
theorem dropM_sz {F : Fnt} {m m' : List (List Mx)} {x : Mx} {i : Nat} (h : dropM F m x = some (m', i)) : szXX m' ≤ szXX m + 1 := by
  unfold dropM at h
  split at h
  · injection h with h; injection h with h1 h2; subst h1
    exact sz_grow _ _ _
  · cases h
theorem drops_sz {F : Fnt} {l : List Mx} : ∀ {n : Nat} {m : List (List Mx)}, szXX (drops F l n m).1 ≤ szXX m + l.length := by
  induction l with
  | nil => intro n m; simp [drops]
  | cons x l ih =>
    intro n m
    cases n with
    | zero => simp [drops]
    | succ n =>
      cases hd : dropM F m x with
      | none => simp [drops, hd]
      | some y =>
        obtain ⟨m', i⟩ := y
        have h1 := dropM_sz hd
        have h2 := ih (n := n) (m := m')
        simp only [drops, hd, List.length_cons]
        omega
theorem dropW_sz (M : Mch) (n : Int) : szM (dropW M n).1 ≤ 2 * szM M := by
  unfold dropW
  split
  · have h1 := drops_sz (F := M.font) (l := M.wait) (n := n.toNat) (m := M.mag)
    have h2 : (M.wait.drop (drops M.font M.wait n.toNat M.mag).2).length ≤ M.wait.length := by simp
    simp only [szM] at h1 h2 ⊢
    omega
  · simp [sz_zero]
section
variable {w : Bool} {h : Heap} {l : List Value} {M : Mch} {L : List Nat}
theorem specDropA_ac (r : MV w h l M L) (hl : szM M ≤ 1048576) (n : Int) : AC Try.prog 49 [.agg l.toArray, .int .i64 n] h [] fun r h' => TupM h.length h' r (dropW M n).1 (.int .i64 (dropW M n).2) := by
  obtain ⟨vW, vC, vM, vL, vQ, LW, LC, LM, LL, LQ, rfl, r, rfl⟩ := r
  exact specDropW_ac r hl n
theorem implDropA_ac (r : MV w h l M L) (hl : szM M ≤ 1048576) (n : Int) : AC Try.prog 16 [.agg l.toArray, .int .i64 n] h [] fun r h' => TupM h.length h' r (dropW M n).1 (.int .i64 (dropW M n).2) := by
  obtain ⟨vW, vC, vM, vL, vQ, LW, LC, LM, LL, LQ, rfl, r, rfl⟩ := r
  exact implDropW_ac r hl n
theorem dropLaw (r0 : MV false h l M L) (hs : M.font.letters.size ≤ maxLen) (n : Int) : AC Try.prog 9 [.agg l.toArray, .int .i64 n] h [] fun r _ => r = .bool true := by
  have hspec : ∀ {w : Bool} {h : Heap} {l : List Value} {L : List Nat}, MV w h l M L → szM M ≤ 1048576 → _ := fun {w h l L} r hl => specDropA_ac (w := w) (h := h) (l := l) (L := L) r hl n
  have himpl : ∀ {w : Bool} {h : Heap} {l : List Value} {L : List Nat}, MV w h l M L → szM M ≤ 1048576 → _ := fun {w h l L} r hl => implDropA_ac (w := w) (h := h) (l := l) (L := L) r hl n
  have hcw : szM M ≤ 1048576 → cntM (dropW M n).1 ≤ 4611686018427387900 := fun hz => by have := dropW_sz M n; have := cntM_le (dropW M n).1; omega
  generalize (dropW M n).1 = W at hspec himpl hcw
  generalize (dropW M n).2 = b at hspec himpl
  have hlen0 := r0.len
  have hone0 := r0.one
  have lt0 := r0.lt
  have ht0 : l.take 10 = l := List.take_of_length_le (by omega)
  refine ac9 (by simp [p9]) ?_
  simp -implicitDefEqProofs [p9, hlen0, hone0, ht0]
  have k1 : Kp [] h (h ++ [some (⟨l, 10, true⟩ : AObj)]) := .app _ _ _
  have e0 : hcs (h ++ [some (⟨l, 10, true⟩ : AObj)]) h.length 0 10 = some l := hcs_var hlen0
  have qk1 : h.length < (h ++ [some (⟨l, 10, true⟩ : AObj)]).length := by simp
  have lk1 := k1.1
  replace r0 := r0.kp0 k1
  generalize h ++ [some (⟨l, 10, true⟩ : AObj)] = g2 at k1 lk1 qk1 r0 e0 ⊢
  refine call1 (szM_ac r0 hs) ?_
  by_cases hz : (1048576 : Int) < szM M
  · simp -implicitDefEqProofs [hz]
  have hsz : szM M ≤ 1048576 := by omega
  have hcn : cntM M ≤ 4611686018427387900 := by have := cntM_le M; omega
  have hcw := hcw hsz
  simp -implicitDefEqProofs [hz, show ¬ ((1048576 : Int) - szM M < 0) by omega, e0]
  refine call0 (toM_ac r0 hsz) ?_
  rintro _ h4 ⟨lA, LA, rfl, rA, ndA, geA⟩ k3
  have lk3 := k3.1
  replace r0 := r0.kp0 k3
  replace e0 := hcs_kp0 k3 e0
  have ltA := rA.lt
  have hlenA := rA.len
  have honeA := rA.one
  have htA : lA.take 10 = lA := List.take_of_length_le (by omega)
  simp -implicitDefEqProofs
  refine call0 (hspec rA hsz) ?_
  rintro _ h6 ⟨lS, LS, rfl, rS, ndS, geS⟩ k5
  have lk5 := k5.1
  replace r0 := r0.kp0 k5
  replace e0 := hcs_kp0 k5 e0
  replace rA := rA.kp0 k5
  have ltS := rS.lt
  have hlenS := rS.len
  have honeS := rS.one
  have htS : lS.take 10 = lS := List.take_of_length_le (by omega)
  have e0a : ∀ t, hcs (h6 ++ t) _ 0 10 = _ := fun t => hcs_kp0 (Kp.app [] h6 t) e0
  simp -implicitDefEqProofs [strV_var, hlenS, honeS, htS, mt_ge (show h.length ≤ h6.length by omega), e0a]
  have k7 : Kp [] h6 (h6 ++ [some (⟨lS, 10, true⟩ : AObj)]) := .app _ _ _
  have eS : hcs (h6 ++ [some (⟨lS, 10, true⟩ : AObj)]) h6.length 0 10 = some lS := hcs_var hlenS
  have qk7 : h6.length < (h6 ++ [some (⟨lS, 10, true⟩ : AObj)]).length := by simp
  have lk7 := k7.1
  replace r0 := r0.kp0 k7
  replace e0 := hcs_kp0 k7 e0
  replace rA := rA.kp0 k7
  replace rS := rS.kp0 k7
  generalize h6 ++ [some (⟨lS, 10, true⟩ : AObj)] = g8 at k7 lk7 qk7 r0 e0 rA rS eS ⊢
  refine call0 (toM_ac r0 hsz) ?_
  rintro _ h10 ⟨lB, LB, rfl, rB, ndB, geB⟩ k9
  have lk9 := k9.1
  replace r0 := r0.kp0 k9
  replace e0 := hcs_kp0 k9 e0
  replace rA := rA.kp0 k9
  replace rS := rS.kp0 k9
  replace eS := hcs_kp0 k9 eS
  have ltB := rB.lt
  have hlenB := rB.len
  have honeB := rB.one
  have htB : lB.take 10 = lB := List.take_of_length_le (by omega)
  have e0a : ∀ t, hcs (h10 ++ t) _ 0 10 = _ := fun t => hcs_kp0 (Kp.app [] h10 t) e0
  have eSa : ∀ t, hcs (h10 ++ t) _ 0 10 = _ := fun t => hcs_kp0 (Kp.app [] h10 t) eS
  simp -implicitDefEqProofs [strV_var, hlenB, honeB, htB, mt_ge (show h.length ≤ h10.length by omega), e0a, eSa]
  have k11 : Kp [] h10 (h10 ++ [some (⟨lB, 10, true⟩ : AObj)]) := .app _ _ _
  have eB : hcs (h10 ++ [some (⟨lB, 10, true⟩ : AObj)]) h10.length 0 10 = some lB := hcs_var hlenB
  have qk11 : h10.length < (h10 ++ [some (⟨lB, 10, true⟩ : AObj)]).length := by simp
  have lk11 := k11.1
  replace r0 := r0.kp0 k11
  replace e0 := hcs_kp0 k11 e0
  replace rA := rA.kp0 k11
  replace rS := rS.kp0 k11
  replace eS := hcs_kp0 k11 eS
  replace rB := rB.kp0 k11
  generalize h10 ++ [some (⟨lB, 10, true⟩ : AObj)] = g12 at k11 lk11 qk11 r0 e0 rA rS eS rB eB ⊢
  refine call0 (himpl rB hsz) ?_
  rintro _ h14 ⟨lR, LR, rfl, rR, ndR, geR⟩ k13
  have lk13 := k13.1
  replace r0 := r0.kp0 k13
  replace e0 := hcs_kp0 k13 e0
  replace rA := rA.kp0 k13
  replace rS := rS.kp0 k13
  replace eS := hcs_kp0 k13 eS
  replace rB := rB.kp0 k13
  replace eB := hcs_kp0 k13 eB
  have ltR := rR.lt
  have hlenR := rR.len
  have honeR := rR.one
  have htR : lR.take 10 = lR := List.take_of_length_le (by omega)
  have e0a : ∀ t, hcs (h14 ++ t) _ 0 10 = _ := fun t => hcs_kp0 (Kp.app [] h14 t) e0
  have eSa : ∀ t, hcs (h14 ++ t) _ 0 10 = _ := fun t => hcs_kp0 (Kp.app [] h14 t) eS
  have eBa : ∀ t, hcs (h14 ++ t) _ 0 10 = _ := fun t => hcs_kp0 (Kp.app [] h14 t) eB
  simp -implicitDefEqProofs [strV_var, hlenR, honeR, htR, mt_ge (show h.length ≤ h14.length by omega), e0a, eSa, eBa]
  have k15 : Kp [] h14 (h14 ++ [some (⟨lR, 10, true⟩ : AObj)]) := .app _ _ _
  have eR : hcs (h14 ++ [some (⟨lR, 10, true⟩ : AObj)]) h14.length 0 10 = some lR := hcs_var hlenR
  have qk15 : h14.length < (h14 ++ [some (⟨lR, 10, true⟩ : AObj)]).length := by simp
  have lk15 := k15.1
  replace r0 := r0.kp0 k15
  replace e0 := hcs_kp0 k15 e0
  replace rA := rA.kp0 k15
  replace rS := rS.kp0 k15
  replace eS := hcs_kp0 k15 eS
  replace rB := rB.kp0 k15
  replace eB := hcs_kp0 k15 eB
  replace rR := rR.kp0 k15
  generalize h14 ++ [some (⟨lR, 10, true⟩ : AObj)] = g16 at k15 lk15 qk15 r0 e0 rA rS eS rB eB rR eR ⊢
  refine call1 (eqM_ac rR rS) ?_
  simp -implicitDefEqProofs [eB, e0]
  refine call0 (toM_ac r0 hsz) ?_
  rintro _ h18 ⟨lC, LC, rfl, rC, ndC, geC⟩ k17
  have lk17 := k17.1
  replace r0 := r0.kp0 k17
  replace e0 := hcs_kp0 k17 e0
  replace rA := rA.kp0 k17
  replace rS := rS.kp0 k17
  replace eS := hcs_kp0 k17 eS
  replace rB := rB.kp0 k17
  replace eB := hcs_kp0 k17 eB
  replace rR := rR.kp0 k17
  replace eR := hcs_kp0 k17 eR
  have ltC := rC.lt
  have hlenC := rC.len
  have honeC := rC.one
  have htC : lC.take 10 = lC := List.take_of_length_le (by omega)
  simp -implicitDefEqProofs
  refine call1 (eqM_ac rB rC) ?_
  simp -implicitDefEqProofs [eB]
  refine callK (markM_ac rB ndB hcn) (fun i hi => .inr (by have := geB i hi; omega)) ?_
  rintro _ h20 ⟨rfl, mB⟩ k19
  have lk19 := k19.1
  replace r0 := r0.kp k19 (fun i hi hn => by have := geB i hn; have := ltB i hn; have := lt0 i hi; omega)
  replace e0 := hcs_kp k19 e0 (fun hn => by have := geB _ hn; have := ltB _ hn; omega)
  replace rA := rA.kp k19 (fun i hi hn => by have := geB i hn; have := ltB i hn; have := ltA i hi; have := geA i hi; omega)
  replace rS := rS.kp k19 (fun i hi hn => by have := geB i hn; have := ltB i hn; have := ltS i hi; have := geS i hi; omega)
  replace eS := hcs_kp k19 eS (fun hn => by have := geB _ hn; have := ltB _ hn; omega)
  replace eB := hcs_kp k19 eB (fun hn => by have := geB _ hn; have := ltB _ hn; omega)
  replace rR := rR.kp k19 (fun i hi hn => by have := geB i hn; have := ltB i hn; have := ltR i hi; have := geR i hi; omega)
  replace eR := hcs_kp k19 eR (fun hn => by have := geB _ hn; have := ltB _ hn; omega)
  replace rC := rC.kp k19 (fun i hi hn => by have := geB i hn; have := ltB i hn; have := ltC i hi; have := geC i hi; omega)
  simp -implicitDefEqProofs [show ¬ (1 + (cntM M : Int) < 0) by omega, eR, eS]
  refine call1 (eqM_ac rR rS) ?_
  simp -implicitDefEqProofs [eR]
  refine callK (markM_ac rR ndR hcw) (fun i hi => .inr (by have := geR i hi; omega)) ?_
  rintro _ h22 ⟨rfl, mR⟩ k21
  have lk21 := k21.1
  replace r0 := r0.kp k21 (fun i hi hn => by have := geR i hn; have := ltR i hn; have := lt0 i hi; omega)
  replace e0 := hcs_kp k21 e0 (fun hn => by have := geR _ hn; have := ltR _ hn; omega)
  replace rA := rA.kp k21 (fun i hi hn => by have := geR i hn; have := ltR i hn; have := ltA i hi; have := geA i hi; omega)
  replace rS := rS.kp k21 (fun i hi hn => by have := geR i hn; have := ltR i hn; have := ltS i hi; have := geS i hi; omega)
  replace eS := hcs_kp k21 eS (fun hn => by have := geR _ hn; have := ltR _ hn; omega)
  replace eB := hcs_kp k21 eB (fun hn => by have := geR _ hn; have := ltR _ hn; omega)
  replace eR := hcs_kp k21 eR (fun hn => by have := geR _ hn; have := ltR _ hn; omega)
  replace rC := rC.kp k21 (fun i hi hn => by have := geR i hn; have := ltR i hn; have := ltC i hi; have := geC i hi; omega)
  replace mB := mB.kp k21 (fun i hi hn => by have := geR i hn; have := ltR i hn; have := ltB i hi; have := geB i hi; omega)
  simp -implicitDefEqProofs [eR]
  refine call1 (heldM_ac mR hcw) ?_
  simp -implicitDefEqProofs [show ¬ (1 + (cntM W : Int) < 0) by omega, e0]
  refine call0 (toM_ac r0 hsz) ?_
  rintro _ h24 ⟨lD, LD, rfl, rD, ndD, geD⟩ k23
  have lk23 := k23.1
  replace r0 := r0.kp0 k23
  replace e0 := hcs_kp0 k23 e0
  replace rA := rA.kp0 k23
  replace rS := rS.kp0 k23
  replace eS := hcs_kp0 k23 eS
  replace eB := hcs_kp0 k23 eB
  replace eR := hcs_kp0 k23 eR
  replace rC := rC.kp0 k23
  replace mB := mB.kp0 k23
  replace mR := mR.kp0 k23
  have ltD := rD.lt
  have hlenD := rD.len
  have honeD := rD.one
  have htD : lD.take 10 = lD := List.take_of_length_le (by omega)
  simp -implicitDefEqProofs
  refine call0 (himpl rD hsz) ?_
  rintro _ h26 ⟨lQ, LQ, rfl, rQ, ndQ, geQ⟩ k25
  have lk25 := k25.1
  replace r0 := r0.kp0 k25
  replace e0 := hcs_kp0 k25 e0
  replace rA := rA.kp0 k25
  replace rS := rS.kp0 k25
  replace eS := hcs_kp0 k25 eS
  replace eB := hcs_kp0 k25 eB
  replace eR := hcs_kp0 k25 eR
  replace rC := rC.kp0 k25
  replace mB := mB.kp0 k25
  replace mR := mR.kp0 k25
  replace rD := rD.kp0 k25
  have ltQ := rQ.lt
  have hlenQ := rQ.len
  have honeQ := rQ.one
  have htQ : lQ.take 10 = lQ := List.take_of_length_le (by omega)
  have e0a : ∀ t, hcs (h26 ++ t) _ 0 10 = _ := fun t => hcs_kp0 (Kp.app [] h26 t) e0
  have eSa : ∀ t, hcs (h26 ++ t) _ 0 10 = _ := fun t => hcs_kp0 (Kp.app [] h26 t) eS
  have eBa : ∀ t, hcs (h26 ++ t) _ 0 10 = _ := fun t => hcs_kp0 (Kp.app [] h26 t) eB
  have eRa : ∀ t, hcs (h26 ++ t) _ 0 10 = _ := fun t => hcs_kp0 (Kp.app [] h26 t) eR
  simp -implicitDefEqProofs [strV_var, hlenQ, honeQ, htQ, mt_ge (show h.length ≤ h26.length by omega), e0a, eSa, eBa, eRa]
  have k27 : Kp [] h26 (h26 ++ [some (⟨lQ, 10, true⟩ : AObj)]) := .app _ _ _
  have eQ : hcs (h26 ++ [some (⟨lQ, 10, true⟩ : AObj)]) h26.length 0 10 = some lQ := hcs_var hlenQ
  have qk27 : h26.length < (h26 ++ [some (⟨lQ, 10, true⟩ : AObj)]).length := by simp
  have lk27 := k27.1
  replace r0 := r0.kp0 k27
  replace e0 := hcs_kp0 k27 e0
  replace rA := rA.kp0 k27
  replace rS := rS.kp0 k27
  replace eS := hcs_kp0 k27 eS
  replace eB := hcs_kp0 k27 eB
  replace eR := hcs_kp0 k27 eR
  replace rC := rC.kp0 k27
  replace mB := mB.kp0 k27
  replace mR := mR.kp0 k27
  replace rD := rD.kp0 k27
  replace rQ := rQ.kp0 k27
  generalize h26 ++ [some (⟨lQ, 10, true⟩ : AObj)] = g28 at k27 lk27 qk27 r0 e0 rA rS eS eB eR rC mB mR rD rQ eQ ⊢
  refine call1 (eqM_ac rQ rS) ?_
  simp -implicitDefEqProofs [eR]
  refine call1 (heldM_ac mR hcw) ?_
  simp -implicitDefEqProofs [show ¬ (1 + (cntM W : Int) < 0) by omega]
end
theorem fnExactDropWaiting_ac {h : Heap} {M : Mch} {vW vC vM vL vQ : Value} {LW LC LM LL LQ : List Nat} {n : Int} (r : RM false h M vW vC vM vL vQ LW LC LM LL LQ) (hs : M.font.letters.size ≤ maxLen)
    (_ : (Lit.int .i64 n).wf = true) : AC Try.prog 9 [mval M vW vC vM vL vQ, .int .i64 n] h [] fun r _ => r = .bool true :=
  dropLaw ⟨_, _, _, _, _, _, _, _, _, _, rfl, r, rfl⟩ hs n
end Go.Proofs.Ytpenocegikjpaaa
