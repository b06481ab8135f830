/- Joined texts. -/
import Derived.Test.YtpenocegikjpaaaF4
/- The first matrix of a channel goes, in place; a matrix appended by way of a row that reads so. -/
set_option linter.unusedSimpArgs false
set_option linter.unusedVariables false
namespace Go.Ab
theorem mag_drop {H : Heap} {M : Mch} {vW vC vM vL vQ : Value} {LW LC LM LL LQ : List Nat} (r : RM true H M vW vC vM vL vQ LW LC LM LL LQ) (nd : (LW ++ LC ++ LM ++ LL ++ LQ).Nodup) {k : Nat} (hk : k < M.mag.length) (h0 : 0 < M.mag[k].length) :
    ∃ i o u u' H', (∀ h', ixaV 1 vM (.int .i64 k) h' = some ([], .pointer (some ⟨i, o, none⟩), h')) ∧ hc1 H i o = some u ∧ slV 2 u (some (.int .i64 1)) none none H = some ([], u', H) ∧
      strV 1 (.pointer (some ⟨i, o, none⟩)) u' H = some ([i], undef, H') ∧ RM true H' { M with mag := M.mag.set k (M.mag[k].drop 1) } vW vC vM vL vQ LW LC LM LL LQ ∧ Kp [i] H H' ∧ i ∈ LM ∧ H'.length = H.length := by
  obtain ⟨n1, nQ, dQ⟩ := List.nodup_append.1 nd
  obtain ⟨n2, nL, dL⟩ := List.nodup_append.1 n1
  obtain ⟨n3, nM, dM⟩ := List.nodup_append.1 n2
  obtain ⟨rW, rC, ⟨vs, L0, Ls, r1, r2, rfl⟩, rL, rQ⟩ := r
  obtain ⟨h1, h2, h3⟩ := r2.at hk
  obtain ⟨i, o, e1, e2, rfl⟩ := r1.atV h1
  obtain ⟨u', es, rs⟩ := h3.sub h3.fit (lo := some (.int .i64 1)) (hi := none) (a := 1) (b := M.mag[k].length) rfl rfl h0 (Nat.le_refl _)
  have hd : List.take (M.mag[k].length - 1) (List.drop 1 M.mag[k]) = M.mag[k].drop 1 := List.take_of_length_le (by simp)
  rw [hd] at rs
  simp only [EX_es] at es
  obtain ⟨i', o', H', f1, f2, f3, f4, f5, f6⟩ := r1.putV h1 u' rs.cells rs.one
  have := (e1 H).symm.trans (f1 H)
  simp only [Option.some.injEq, Prod.mk.injEq, Value.pointer.injEq, Addr.mk.injEq, true_and, and_true] at this
  obtain ⟨rfl, rfl⟩ := this
  obtain ⟨m1, m2, m3⟩ := List.nodup_append.1 nM
  have hset : Ls.set k Ls[k] = Ls := List.set_getElem_self h2
  have r2' := r2.set k rs
  rw [hset] at r2'
  refine ⟨i, o, vs[k], u', H', e1, e2, es, f2, ⟨rW.kp f4 ?_, rC.kp f4 ?_, ⟨vs.set k u', [i], Ls, f3, r2'.kp f4 ?_, rfl⟩, rL.kp f4 ?_, rQ.kp f4 ?_⟩, f4, by simp, f6⟩
  · intro j hj hn; simp at hn; subst hn; exact dM j (by simp [hj]) j (by simp) rfl
  · intro j hj hn; simp at hn; subst hn; exact dM j (by simp [hj]) j (by simp) rfl
  · intro j hj hn; simp at hn; subst hn; exact m3 j (by simp) j hj rfl
  · intro j hj hn; simp at hn; subst hn; exact dL j (by simp) j hj rfl
  · intro j hj hn; simp at hn; subst hn; exact dQ j (by simp) j hj rfl
/-- A line in memory of its own, made of another and a matrix that has been laid in a row before. -/
theorem RL.more {h g : Heap} {v : Value} {l : List Mx} {L : List Nat} (r : RL true EX g v l L) (x : Mx) {j : Nat} (hb : l.length ≤ 1048576) (b : hob g j = some ⟨[.int .i64 x.1, .int .i64 x.2], 2, true⟩) :
    ∃ T v' h' L', appV 2 16 v (.slice (some ⟨j, 0, none⟩) 1 1) g = some (T, v', h') ∧ RL true EX h' v' (l ++ [x]) L' ∧ Kp L g h' ∧ (∀ i ∈ T, i ∈ L) ∧ (∀ i ∈ L', i ∈ L ∨ g.length ≤ i) := by
  have s : srcA g 2 (.slice (some ⟨j, 0, none⟩) 1 1) = some (1, EX.cs [x]) := by
    simp only [srcA, hcs, b, Option.bind_some]
    rw [if_pos (by simp)]
    simp
  obtain ⟨T, v', h', L', e, q, k, t, l'⟩ := r.app (L2 := []) (m := [x]) (by_ := 16) s (by simp; unfold big; omega) (by omega) (by simp) (by simp)
  exact ⟨T, v', h', L', e, q, k, t, l'⟩
end Go.Ab

/- A machine's variable: the line's cell written. -/
set_option linter.unusedSimpArgs false
set_option linter.unusedVariables false
namespace Go.Ab
theorem line_set {H : Heap} {M : Mch} {i6 : Nat} {vW vC vM vL vQ : Value} {LW LC LM LL LQ : List Nat} (r : RM true H M vW vC vM vL vQ LW LC LM LL LQ) (nd : (LW ++ LC ++ LM ++ LL ++ LQ).Nodup) (hi : ∀ i ∈ LW ++ LC ++ LM ++ LL ++ LQ, i ≠ i6)
    (b : hob H i6 = some ⟨mcells M vW vC vM vL vQ, 10, true⟩) {vN : Value} {l' : List Mx} {LN : List Nat} (x : RL true EX H vN l' LN) (hx : ∀ i ∈ LN, i ≠ i6) (dis : ∀ a ∈ LN, ∀ b ∈ LW ++ LC ++ LM ++ LL ++ LQ, a ≠ b) :
    ∃ H2, strV 1 (.pointer (some ⟨i6, 8, none⟩)) vN H = some ([i6], undef, H2) ∧ Kp [i6] H H2 ∧ H2.length = H.length ∧ hob H2 i6 = some ⟨mcells { M with line := l' } vW vC vM vN vQ, 10, true⟩ ∧ RM true H2 { M with line := l' } vW vC vM vN vQ LW LC LM LN LQ ∧
      (LW ++ LC ++ LM ++ LN ++ LQ).Nodup := by
  obtain ⟨H2, e2, b2, k2, n2⟩ := strV_cell (j := 8) b (by simp [mcells]) x.cells x.one
  have cc : ∀ {L : List Nat}, (∀ i ∈ L, i ≠ i6) → ∀ i ∈ L, i ∉ [i6] := fun a i hi hn => by simp at hn; exact a i hi hn
  refine ⟨H2, e2, k2, n2, b2, ⟨r.rW.kp k2 (cc fun i h => hi i (by simp [h])), r.rC.kp k2 (cc fun i h => hi i (by simp [h])), r.rM.kp k2 (cc fun i h => hi i (by simp [h])), x.kp k2 (cc hx), r.rQ.kp k2 (cc fun i h => hi i (by simp [h]))⟩, nodup_D nd x.nd dis⟩
end Go.Ab

/- Contracts: KeyText (the program's). -/
set_option linter.unusedSimpArgs false
set_option linter.unusedVariables false
set_option maxHeartbeats 1000000
namespace Go.Proofs.Ytpenocegikjpaaa
open Go.Ab
theorem idxI_lt {α : Type} {l : List α} {p : α → Bool} {q : Nat} (h : idxI l p = q) : q < l.length := by
  unfold idxI at h
  cases ha : l.any p with
  | true =>
    rw [ha] at h
    simp only at h
    obtain ⟨x, hx, hp⟩ := List.any_eq_true.1 ha
    have := List.findIdx_lt_length_of_exists ⟨x, hx, hp⟩
    omega
  | false => rw [ha] at h; simp only at h; omega
section
variable {w : Bool} {h : Heap} {l : List Value} {M : Mch} {L : List Nat}
theorem implOkA_ac (r : MV w h l M L) : AC Try.prog 22 [.agg l.toArray] h [] fun r h' => r = .bool (mchB M) ∧ h' = h := by
  obtain ⟨vW, vC, vM, vL, vQ, LW, LC, LM, LL, LQ, rfl, r, rfl⟩ := r
  exact implMachineOk_ac r
theorem implCopyA_ac (r : MV w h l M L) (hl : szM M ≤ 1048576) : AC Try.prog 63 [.agg l.toArray] h [] fun r h' => ∃ l' L', r = .agg l'.toArray ∧ MN h.length h' l' M L' := by
  obtain ⟨vW, vC, vM, vL, vQ, LW, LC, LM, LL, LQ, rfl, r, rfl⟩ := r
  exact AC_mono (implCopy_ac r hl) fun r h' x => x.mn
theorem implKeyTextA_ac (r : MV w h l M L) (hl : szM M ≤ 1048576) (t : ByteArray) (ht : t.size ≤ 1048576) :
    AC Try.prog 23 [.agg l.toArray, .string t] h [] fun r h' => TupM h.length h' r (keyT M t).1 (.int .i64 (keyT M t).2) := by
  have hlen := r.len
  have hone := r.one
  have htk : l.take 10 = l := List.take_of_length_le (by omega)
  have hls : t.data.toList.length = t.size := Array.length_toList
  refine ac23 (by simp [p23]) ?_
  have kb : Kp [] h (h ++ [some ⟨l, 10, true⟩, some ⟨zcells, 10, true⟩]) := .app [] h _
  have r1 := r.kp0 kb
  have bV : hob (h ++ [some ⟨l, 10, true⟩, some ⟨zcells, 10, true⟩]) h.length = some ⟨l, 10, true⟩ := by simp [hob]
  have bZ : hob (h ++ [some ⟨l, 10, true⟩, some ⟨zcells, 10, true⟩]) (h.length + 1) = some ⟨zcells, 10, true⟩ := by simp [hob]
  have gl : (h ++ [some (⟨l, 10, true⟩ : AObj), some ⟨zcells, 10, true⟩]).length = h.length + 2 := by simp
  simp -implicitDefEqProofs [p23, hlen, hone, htk]
  simp only [zcells] at kb r1 bV bZ gl
  generalize h ++ [some (⟨l, 10, true⟩ : AObj), some ⟨[.string ⟨#[]⟩, .slice none 0 0, .slice none 0 0, .slice none 0 0, .int .i64 0, .int .i64 0, .int .i64 0, .int .i64 0, .slice none 0 0, .slice none 0 0], 10, true⟩] = g0 at kb r1 bV bZ gl ⊢
  have kl := kb.1
  have mV : MT [] h h.length := .inr (Nat.le_refl _)
  have mZ : MT [] h (h.length + 1) := .inr (by omega)
  refine call1 (implOkA_ac r1) ?_
  cases hM : mchB M
  · have hn : keyT M t = (M0, -1) := by unfold keyT; rw [hM]; rfl
    obtain ⟨gz, ez, bz, hcz, mz, _⟩ := mn_put (MN.zero (h.length + 2) g0) bZ rfl (by omega)
    simp only [zcells] at ez hcz
    rw [hn]
    simp -implicitDefEqProofs [bldV, fillA, ez, mZ, resA_2, resA1, hcz]
    exact ⟨zcells, [], rfl, .zero _ _⟩
  have hn : keyT M t = ((keysS M t.data.toList).1, (((keysS M t.data.toList).2 : Nat) : Int)) := by unfold keyT; rw [hM]; rfl
  rw [hn]
  have hcV := hcs_full bV hlen
  simp -implicitDefEqProofs [hcV]
  refine call0 (implCopyA_ac r1 hl) ?_
  rintro _ g2 ⟨lc, Lc, rfl, xc⟩ k2
  replace bV := hob_kp k2 bV (by simp); replace bZ := hob_kp k2 bZ (by simp)
  have kl2 := k2.1
  obtain ⟨ga, ev, ba, _, xa, ka, na⟩ := mn_put xc bV hlen (by omega)
  replace bZ := hob_kp ka bZ (by simp)
  have hN : t.size ≤ big := by unfold big; omega
  have hts : (t.data.size : Int) = t.size := rfl
  simp -implicitDefEqProofs [ev, mV]
  have kga : Kp [] h ga := (kb.trans k2 (by simp)).trans ka (by simp)
  refine range r23_0 kga t.size hN (by simp) (by simp)
    (fun k s h1 => g0.length ≤ h1.length ∧ ∃ Mk vW vC vM vL vQ LW LC LM LL LQ, hob h1 h.length = some ⟨mcells Mk vW vC vM vL vQ, 10, true⟩ ∧ RM true h1 Mk vW vC vM vL vQ LW LC LM LL LQ ∧ (LW ++ LC ++ LM ++ LL ++ LQ).Nodup ∧ (∀ i ∈ LW ++ LC ++ LM ++ LL ++ LQ, g0.length ≤ i) ∧ mchB Mk = true ∧ hob h1 (h.length + 1) = some ⟨[.string ⟨#[]⟩, .slice none 0 0, .slice none 0 0, .slice none 0 0, .int .i64 0, .int .i64 0, .int .i64 0, .int .i64 0, .slice none 0 0, .slice none 0 0], 10, true⟩ ∧
      keysS M t.data.toList = ((keysS Mk (t.data.toList.drop k)).1, (keysS Mk (t.data.toList.drop k)).2 + k))
    ⟨by omega, by
      obtain ⟨⟨vW, vC, vM, vL, vQ, LW, LC, LM, LL, LQ, rfl, rr, rfl⟩, nd, ge⟩ := xa
      exact ⟨M, vW, vC, vM, vL, vQ, LW, LC, LM, LL, LQ, ba, rr, nd, fun i hi => by have := ge i hi; omega, hM, bZ, by simp⟩⟩ ?_ ?_
  · rintro k s h1 hk hi ⟨lg, Mk, vW, vC, vM, vL, vQ, LW, LC, LM, LL, LQ, bk, rk, nd, ge, ok, bz, heq⟩ kp
    have hk1 : k < t.data.toList.length := by omega
    have hk2 : t.data.toList[k] = t.data[k]'hk := Array.getElem_toList _
    have es := ixs_at Try.underlying9 hk1
    have lkp := kp.1
    have kx : Kp [] h1 (h1 ++ [some ⟨[.int .i64 (-1), .int .i64 0], 2, true⟩]) := .app _ _ _
    have b7 : hob (h1 ++ [some ⟨[.int .i64 (-1), .int .i64 0], 2, true⟩]) h1.length = some ⟨[.int .i64 (-1), .int .i64 0], 2, true⟩ := by simp [hob]
    have lx : (h1 ++ [some (⟨[.int .i64 (-1), .int .i64 0], 2, true⟩ : AObj)]).length = h1.length + 1 := by simp
    have bk1 := bk; have bz1 := bz; have rk1 := rk
    replace bk := hob_kp kx bk (by simp); replace bz := hob_kp kx bz (by simp); replace rk := rk.kp0 kx
    have hlt := rk.lt
    have hck := hcs_full bk rfl
    have c4 : hc1 (h1 ++ [some ⟨[.int .i64 (-1), .int .i64 0], 2, true⟩]) h.length 4 = some (.int .i64 Mk.spare) := by rw [hc1_hob bk]; rfl
    have c8 : hc1 (h1 ++ [some ⟨[.int .i64 (-1), .int .i64 0], 2, true⟩]) h.length 8 = some vL := by rw [hc1_hob bk]; rfl
    have hc7 := hcs_full b7 rfl
    obtain ⟨gf, ef, bf, hf, xf, _⟩ := mn_put ⟨⟨_, _, _, _, _, _, _, _, _, _, rfl, rk, rfl⟩, nd, ge⟩ bz rfl (by omega)
    simp only [mcells] at hck ef hf
    have m7 := mt_ge (T := []) (show h.length ≤ h1.length by omega)
    obtain ⟨p1, p2, p3, p4, p5, p6⟩ := mchB_parts ok
    have hln := mchB_line ok
    by_cases h32 : (t.data[k].toNat : Int) = 32
    · by_cases h0 : Mk.spare = 0
      · have hs : keyS Mk (t.data[k].toNat : Nat) = none := by rw [h32, keyS_space ok, if_neg (fun a => a.1 h0)]
        rw [keysS_no hk1 (by rw [hk2]; exact hs)] at heq
        rw [heq]
        simp only [h0] at hck ef hf c4
        simp -implicitDefEqProofs [b23_0, L23_0, hi, es, bldV, fillA, strV_new, m7, h32, c4, hck, ef, hf, mZ, resA_2, resA1]
        exact ⟨_, _, by simp [mcells, h0], xf.mono (by omega)⟩
      simp -implicitDefEqProofs [b23_0, L23_0, hi, es, bldV, fillA, strV_new, m7, h32, c4, h0, c8, hc7]
      generalize h1 ++ [some (⟨[.int .i64 (-1), .int .i64 0], 2, true⟩ : AObj)] = hX at kx b7 lx bk bz rk hlt hck c4 c8 hc7 ef ⊢
      have hpx : (Mk.line ++ [((-1, 0) : Mx)]).all (pieceB Mk.font) = true := by simp only [List.all_append, p4, List.all_cons, List.all_nil]; simp [pieceB, bandB]
      refine XPl_bc2 ?_ ?_
      · simp -implicitDefEqProofs
        refine call0 (cloneX_ac rk.rL (by omega)) ?_
        rintro v1 gC ⟨L1, q1, _, g1⟩ kC
        obtain ⟨T, vN, H1, LN, e1, q2, k2, t2, l2, n2, lt2⟩ := q1.app1 (by_ := 16) (-1, 0) (by unfold big; omega) (by omega) EX_one
        simp only [EX_es, EX_e] at e1
        have lC := kC.1
        have mtT : (∀ i, i ∈ T → MT [] h i) = True := eq_true (fun i hi => .inr (by have := g1 i (t2 i hi); omega))
        have kk : Kp [] hX H1 := kC.trans k2 (fun i hi => .inr (g1 i hi))
        have geN : ∀ i ∈ LN, hX.length ≤ i := fun i hi => by have := l2 i hi; omega
        have lenH := kk.1
        replace bk := hob_kp kk bk (by simp); replace bz := hob_kp kk bz (by simp); replace rk := rk.kp0 kk
        have c5 : hcs H1 h.length 5 3 = some [.int .i64 Mk.msr.width, .int .i64 Mk.msr.thin, .int .i64 Mk.msr.thick] := by rw [hcs_hob bk]; rfl
        have c0 : hcs H1 h.length 0 3 = some [.string Mk.font.letters, vW, vC] := by rw [hcs_hob bk]; rfl
        simp -implicitDefEqProofs [e1, mtT, c5, c0]
        refine call0 (implItems_ac (F := Mk.font) (fontB_n (magB_fn p1)).2.2.1 rk.rF q2 hpx (by simp; omega)) ?_
        rintro vI H2 ⟨LI, qi, _, _⟩ kI
        have lenI := kI.1
        replace bk := hob_kp kI bk (by simp); replace bz := hob_kp kI bz (by simp); replace rk := rk.kp0 kI; replace q2 := q2.kp0 kI
        have hck2 := hcs_full bk rfl
        obtain ⟨gf2, ef2, bf2, hf2, xf2, _⟩ := mn_put ⟨⟨_, _, _, _, _, _, _, _, _, _, rfl, rk, rfl⟩, nd, ge⟩ bz rfl (by omega)
        simp only [mcells] at hck2 ef2 hf2
        simp -implicitDefEqProofs
        refine call1 (fits_ac Mk.msr qi) ?_
        cases hfit : fitsB Mk.msr (itemsL Mk.font (Mk.line ++ [(-1, 0)]))
        · have hs : keyS Mk (t.data[k].toNat : Nat) = none := by rw [h32, keyS_space ok, if_neg (fun a => by rw [hfit] at a; exact absurd a.2 (by simp))]
          rw [keysS_no hk1 (by rw [hk2]; exact hs)] at heq
          rw [heq]
          simp -implicitDefEqProofs [hi, hck2, ef2, hf2, mZ, resA_2, resA1]
          exact ⟨_, _, by simp [mcells], xf2.mono (by omega)⟩
        · have hs : keyS Mk (t.data[k].toNat : Nat) = some { Mk with spare := Mk.spare - 1, line := Mk.line ++ [(-1, 0)] } := by rw [h32, keyS_space ok, if_pos ⟨h0, hfit⟩]
          rw [keysS_yes hk1 (by rw [hk2]; exact hs)] at heq
          have hne : ∀ i ∈ LW ++ LC ++ LM ++ LL ++ LQ, i ≠ h.length := fun i hi => by have := ge i hi; omega
          have c4b : hc1 H2 h.length 4 = some (.int .i64 Mk.spare) := by rw [hc1_hob bk]; rfl
          have w1 : IntKind.wrap .i64 (Mk.spare - 1) = Mk.spare - 1 := wrap_in (by omega)
          obtain ⟨H3, e3, k3, n3, b3, r3⟩ := spare_set rk hne bk (Mk.spare - 1)
          have nd3 := nd
          have ld : ∀ i ∈ LN, i ≠ h.length := fun i hi => by have := geN i hi; omega
          replace q2 := q2.kp k3 (fun i hi hn => by simp at hn; exact ld i hi hn)
          obtain ⟨H4, e4, k4, n4, b4, r4, nd4⟩ := line_set r3 nd3 hne b3 q2 ld (fun a ha b hb => by have := geN a ha; have := hlt b hb; omega)
          replace bz := hob_kp k4 (hob_kp k3 bz (by simp)) (by simp)
          simp -implicitDefEqProofs [c4b, w1, e3, e4, mV]
          have hge4 : ∀ i ∈ LW ++ LC ++ LM ++ LN ++ LQ, g0.length ≤ i := by
            intro i hi
            simp only [List.mem_append] at hi
            rcases hi with (((hi | hi) | hi) | hi) | hi
            · exact ge i (by simp [hi])
            · exact ge i (by simp [hi])
            · exact ge i (by simp [hi])
            · have := geN i hi; omega
            · exact ge i (by simp [hi])
          exact ⟨by omega, _, vW, vC, vM, vN, vQ, b4, LW, LC, LM, LN, LQ, r4, by simpa only [List.append_assoc] using nd4, by simpa using hge4, keyS_ok hs, bz, by rw [heq]; simp; omega⟩
      · simp -implicitDefEqProofs
        have kB : Kp [] hX (hX ++ [some ⟨[.int .i64 (-1), .int .i64 0], 2, true⟩]) := .app _ _ _
        have bB : hob (hX ++ [some ⟨[.int .i64 (-1), .int .i64 0], 2, true⟩]) hX.length = some ⟨[.int .i64 (-1), .int .i64 0], 2, true⟩ := by simp [hob]
        have lB := kB.1
        refine call0 (cloneX_ac (rk.rL.kp0 kB) (by omega)) ?_
        rintro v1 gC ⟨L1, q1, _, g1⟩ kC
        have lC := kC.1
        obtain ⟨T, vN, H1, LN, e1, q2, k2, t2, l2⟩ := q1.more (h := hX) (-1, 0) (by omega) (hob_kp kC bB (by simp))
        have mtT : (∀ i, i ∈ T → MT [] h i) = True := eq_true (fun i hi => .inr (by have := g1 i (t2 i hi); omega))
        have kk : Kp [] hX H1 := (kB.trans kC (by simp)).trans k2 (fun i hi => .inr (by have := g1 i hi; omega))
        have geN : ∀ i ∈ LN, hX.length ≤ i := fun i hi => (l2 i hi).elim (fun h' => by have := g1 i h'; omega) (fun h' => by omega)
        have lenH := kk.1
        replace bk := hob_kp kk bk (by simp); replace bz := hob_kp kk bz (by simp); replace rk := rk.kp0 kk
        have c5 : hcs H1 h.length 5 3 = some [.int .i64 Mk.msr.width, .int .i64 Mk.msr.thin, .int .i64 Mk.msr.thick] := by rw [hcs_hob bk]; rfl
        have c0 : hcs H1 h.length 0 3 = some [.string Mk.font.letters, vW, vC] := by rw [hcs_hob bk]; rfl
        simp -implicitDefEqProofs [e1, mtT, c5, c0]
        refine call0 (implItems_ac (F := Mk.font) (fontB_n (magB_fn p1)).2.2.1 rk.rF q2 hpx (by simp; omega)) ?_
        rintro vI H2 ⟨LI, qi, _, _⟩ kI
        have lenI := kI.1
        replace bk := hob_kp kI bk (by simp); replace bz := hob_kp kI bz (by simp); replace rk := rk.kp0 kI; replace q2 := q2.kp0 kI
        have hck2 := hcs_full bk rfl
        obtain ⟨gf2, ef2, bf2, hf2, xf2, _⟩ := mn_put ⟨⟨_, _, _, _, _, _, _, _, _, _, rfl, rk, rfl⟩, nd, ge⟩ bz rfl (by omega)
        simp only [mcells] at hck2 ef2 hf2
        simp -implicitDefEqProofs
        refine call1 (fits_ac Mk.msr qi) ?_
        cases hfit : fitsB Mk.msr (itemsL Mk.font (Mk.line ++ [(-1, 0)]))
        · have hs : keyS Mk (t.data[k].toNat : Nat) = none := by rw [h32, keyS_space ok, if_neg (fun a => by rw [hfit] at a; exact absurd a.2 (by simp))]
          rw [keysS_no hk1 (by rw [hk2]; exact hs)] at heq
          rw [heq]
          simp -implicitDefEqProofs [hi, hck2, ef2, hf2, mZ, resA_2, resA1]
          exact ⟨_, _, by simp [mcells], xf2.mono (by omega)⟩
        · have hs : keyS Mk (t.data[k].toNat : Nat) = some { Mk with spare := Mk.spare - 1, line := Mk.line ++ [(-1, 0)] } := by rw [h32, keyS_space ok, if_pos ⟨h0, hfit⟩]
          rw [keysS_yes hk1 (by rw [hk2]; exact hs)] at heq
          have hne : ∀ i ∈ LW ++ LC ++ LM ++ LL ++ LQ, i ≠ h.length := fun i hi => by have := ge i hi; omega
          have c4b : hc1 H2 h.length 4 = some (.int .i64 Mk.spare) := by rw [hc1_hob bk]; rfl
          have w1 : IntKind.wrap .i64 (Mk.spare - 1) = Mk.spare - 1 := wrap_in (by omega)
          obtain ⟨H3, e3, k3, n3, b3, r3⟩ := spare_set rk hne bk (Mk.spare - 1)
          have nd3 := nd
          have ld : ∀ i ∈ LN, i ≠ h.length := fun i hi => by have := geN i hi; omega
          replace q2 := q2.kp k3 (fun i hi hn => by simp at hn; exact ld i hi hn)
          obtain ⟨H4, e4, k4, n4, b4, r4, nd4⟩ := line_set r3 nd3 hne b3 q2 ld (fun a ha b hb => by have := geN a ha; have := hlt b hb; omega)
          replace bz := hob_kp k4 (hob_kp k3 bz (by simp)) (by simp)
          simp -implicitDefEqProofs [c4b, w1, e3, e4, mV]
          have hge4 : ∀ i ∈ LW ++ LC ++ LM ++ LN ++ LQ, g0.length ≤ i := by
            intro i hi
            simp only [List.mem_append] at hi
            rcases hi with (((hi | hi) | hi) | hi) | hi
            · exact ge i (by simp [hi])
            · exact ge i (by simp [hi])
            · exact ge i (by simp [hi])
            · have := geN i hi; omega
            · exact ge i (by simp [hi])
          exact ⟨by omega, _, vW, vC, vM, vN, vQ, b4, LW, LC, LM, LN, LQ, r4, by simpa only [List.append_assoc] using nd4, by simpa using hge4, keyS_ok hs, bz, by rw [heq]; simp; omega⟩
    · have c03 : hcs (h1 ++ [some ⟨[.int .i64 (-1), .int .i64 0], 2, true⟩]) h.length 0 3 = some [.string Mk.font.letters, vW, vC] := by rw [hcs_hob bk]; rfl
      have c3 : hc1 (h1 ++ [some ⟨[.int .i64 (-1), .int .i64 0], 2, true⟩]) h.length 3 = some vM := by rw [hc1_hob bk]; rfl
      have hfn := fontB_n (magB_fn p1)
      obtain ⟨m1, m2, m3⟩ := magB_mem p1
      simp -implicitDefEqProofs [b23_0, L23_0, hi, es, bldV, fillA, strV_new, m7, h32, c03, cnvB]
      refine call1 (implKey_ac (F := Mk.font) rk.rF (by have := hfn.2.1; unfold Fnt.n at this; omega) _) ?_
      by_cases hq0 : idxI Mk.font.ls (keyP (t.data[k].toNat : Nat)) < 0
      · have hs : keyS Mk (t.data[k].toNat : Nat) = none := keyS_none h32 hq0
        rw [keysS_no hk1 (by rw [hk2]; exact hs)] at heq
        rw [heq]
        simp -implicitDefEqProofs [hq0, hi, hck, ef, hf, mZ, resA_2, resA1]
        exact ⟨_, _, by simp [mcells], xf.mono (by omega)⟩
      obtain ⟨q, hqe⟩ : ∃ q : Nat, idxI Mk.font.ls (keyP (t.data[k].toNat : Nat)) = q := ⟨(idxI Mk.font.ls (keyP (t.data[k].toNat : Nat))).toNat, by omega⟩
      have hq : q < Mk.mag.length := by
        have hlt := idxI_lt hqe
        rw [Mk.font.ls_len] at hlt; rw [m1]; exact hlt
      obtain ⟨i8, o8, u8, L8, ea8, la8, ru8, _⟩ := rk.rM.at hq
      have hq20 := m2 _ (List.getElem_mem hq)
      by_cases h00 : Mk.mag[q].length = 0
      · have hs : keyS Mk (t.data[k].toNat : Nat) = none := keyS_empty h32 hqe hq h00
        rw [keysS_no hk1 (by rw [hk2]; exact hs)] at heq
        rw [heq]
        simp -implicitDefEqProofs [hqe, show ¬ ((q : Nat) : Int) < 0 by omega, c3, ea8, la8, ru8.len, h00, hi, hck, ef, hf, mZ, resA_2, resA1]
        exact ⟨_, _, by simp [mcells], xf.mono (by omega)⟩
      have h0 : 0 < Mk.mag[q].length := by omega
      obtain ⟨i9, o9, ec9, lc9, _⟩ := ru8.atX (k := 0) h0
      have ec90 : ∀ h', ixaV 2 u8 (.int .i64 0) h' = some ([], .pointer (some ⟨i9, o9, none⟩), h') := ec9
      have hxm : mxB Mk.font Mk.mag[q][0] = true := m3 _ (List.getElem_mem hq) _ (List.getElem_mem h0)
      have kx2 : Kp [] h1 (h1 ++ [some ⟨[.int .i64 Mk.mag[q][0].1, .int .i64 Mk.mag[q][0].2], 2, true⟩]) := .app _ _ _
      have b72 : hob (h1 ++ [some ⟨[.int .i64 Mk.mag[q][0].1, .int .i64 Mk.mag[q][0].2], 2, true⟩]) h1.length = some ⟨[.int .i64 Mk.mag[q][0].1, .int .i64 Mk.mag[q][0].2], 2, true⟩ := by simp [hob]
      have lx2 : (h1 ++ [some (⟨[.int .i64 Mk.mag[q][0].1, .int .i64 Mk.mag[q][0].2], 2, true⟩ : AObj)]).length = h1.length + 1 := by simp
      replace bk1 := hob_kp kx2 bk1 (by simp); replace bz1 := hob_kp kx2 bz1 (by simp); replace rk1 := rk1.kp0 kx2
      have c82 : hc1 (h1 ++ [some ⟨[.int .i64 Mk.mag[q][0].1, .int .i64 Mk.mag[q][0].2], 2, true⟩]) h.length 8 = some vL := by rw [hc1_hob bk1]; rfl
      have hc72 := hcs_full b72 rfl
      simp -implicitDefEqProofs [hqe, show ¬ ((q : Nat) : Int) < 0 by omega, c3, ea8, la8, ru8.len, h00, show ¬ ((Mk.mag[q].length : Int) = 0) by omega, ec90, lc9, strV_new, m7, c82, hc72]
      clear bk bz rk hlt hck c4 c8 hc7 ef c03 c3 la8 ru8 lc9
      have bk := bk1; have bz := bz1; have rk := rk1; have lx := lx2
      have hlt := rk.lt
      generalize h1 ++ [some (⟨[.int .i64 Mk.mag[q][0].1, .int .i64 Mk.mag[q][0].2], 2, true⟩ : AObj)] = hX at kx2 b72 lx lx2 bk bz rk bk1 bz1 rk1 hlt c82 hc72 ⊢
      have hpx : (Mk.line ++ [Mk.mag[q][0]]).all (pieceB Mk.font) = true := by simp only [List.all_append, p4, List.all_cons, List.all_nil]; simp [pieceB, hxm]
      refine XPl_bc2 ?_ ?_
      · simp -implicitDefEqProofs
        refine call0 (cloneX_ac rk.rL (by omega)) ?_
        rintro v1 gC ⟨L1, q1, _, g1⟩ kC
        obtain ⟨T, vN, H1, LN, e1, q2, k2, t2, l2, n2, lt2⟩ := q1.app1 (by_ := 16) Mk.mag[q][0] (by unfold big; omega) (by omega) EX_one
        simp only [EX_es, EX_e] at e1
        have lC := kC.1
        have mtT : (∀ i, i ∈ T → MT [] h i) = True := eq_true (fun i hi => .inr (by have := g1 i (t2 i hi); omega))
        have kk : Kp [] hX H1 := kC.trans k2 (fun i hi => .inr (g1 i hi))
        have geN : ∀ i ∈ LN, hX.length ≤ i := fun i hi => by have := l2 i hi; omega
        have lenH := kk.1
        replace bk := hob_kp kk bk (by simp); replace bz := hob_kp kk bz (by simp); replace rk := rk.kp0 kk
        have c5 : hcs H1 h.length 5 3 = some [.int .i64 Mk.msr.width, .int .i64 Mk.msr.thin, .int .i64 Mk.msr.thick] := by rw [hcs_hob bk]; rfl
        have c0 : hcs H1 h.length 0 3 = some [.string Mk.font.letters, vW, vC] := by rw [hcs_hob bk]; rfl
        simp -implicitDefEqProofs [e1, mtT, c5, c0]
        refine call0 (implItems_ac (F := Mk.font) (fontB_n (magB_fn p1)).2.2.1 rk.rF q2 hpx (by simp; omega)) ?_
        rintro vI H2 ⟨LI, qi, _, _⟩ kI
        have lenI := kI.1
        replace bk := hob_kp kI bk (by simp); replace bz := hob_kp kI bz (by simp); replace rk := rk.kp0 kI; replace q2 := q2.kp0 kI
        have hck2 := hcs_full bk rfl
        obtain ⟨gf2, ef2, bf2, hf2, xf2, _⟩ := mn_put ⟨⟨_, _, _, _, _, _, _, _, _, _, rfl, rk, rfl⟩, nd, ge⟩ bz rfl (by omega)
        simp only [mcells] at hck2 ef2 hf2
        simp -implicitDefEqProofs
        refine call1 (fits_ac Mk.msr qi) ?_
        cases hfit : fitsB Mk.msr (itemsL Mk.font (Mk.line ++ [Mk.mag[q][0]]))
        · have hs : keyS Mk (t.data[k].toNat : Nat) = none := by rw [keyS_letter ok h32 hqe hq h0, if_neg (by rw [hfit]; simp)]
          rw [keysS_no hk1 (by rw [hk2]; exact hs)] at heq
          rw [heq]
          simp -implicitDefEqProofs [hi, hck2, ef2, hf2, mZ, resA_2, resA1]
          exact ⟨_, _, by simp [mcells], xf2.mono (by omega)⟩
        · have hs : keyS Mk (t.data[k].toNat : Nat) = some { Mk with mag := Mk.mag.set q (Mk.mag[q].drop 1), line := Mk.line ++ [Mk.mag[q][0]] } := by rw [keyS_letter ok h32 hqe hq h0, if_pos hfit]
          rw [keysS_yes hk1 (by rw [hk2]; exact hs)] at heq
          have hne : ∀ i ∈ LW ++ LC ++ LM ++ LL ++ LQ, i ≠ h.length := fun i hi => by have := ge i hi; omega
          have c3b : hc1 H2 h.length 3 = some vM := by rw [hc1_hob bk]; rfl
          obtain ⟨i5, o5, u5, u6, H3, f1, f2, f3, f4, r3, k3, i5m, n3⟩ := mag_drop rk nd hq h0
          have b3 := hob_kp k3 bk (by simp; exact fun h => hne i5 (by simp [i5m]) h.symm)
          have m5 : MT [] h i5 := .inr (by have := ge i5 (by simp [i5m]); omega)
          have nd3 := nd
          have ld : ∀ i ∈ LN, i ≠ h.length := fun i hi => by have := geN i hi; omega
          replace q2 := q2.kp k3 (fun i hi hn => by simp at hn; have := geN i hi; have := hlt i5 (by simp [i5m]); omega)
          obtain ⟨H4, e4, k4, n4, b4, r4, nd4⟩ := line_set r3 nd3 hne b3 q2 ld (fun a ha b hb => by have := geN a ha; have := hlt b hb; omega)
          replace bz := hob_kp k4 (hob_kp k3 bz (by simp; have := ge i5 (by simp [i5m]); omega)) (by simp)
          simp -implicitDefEqProofs [show ¬ ((q : Nat) : Int) < 0 by omega, c3b, f1, f2, f3, f4, m5, e4, mV]
          have hge4 : ∀ i ∈ LW ++ LC ++ LM ++ LN ++ LQ, g0.length ≤ i := by
            intro i hi
            simp only [List.mem_append] at hi
            rcases hi with (((hi | hi) | hi) | hi) | hi
            · exact ge i (by simp [hi])
            · exact ge i (by simp [hi])
            · exact ge i (by simp [hi])
            · have := geN i hi; omega
            · exact ge i (by simp [hi])
          exact ⟨by omega, _, vW, vC, vM, vN, vQ, b4, LW, LC, LM, LN, LQ, r4, by simpa only [List.append_assoc] using nd4, by simpa using hge4, keyS_ok hs, bz, by rw [heq]; simp; omega⟩
      · simp -implicitDefEqProofs
        have kB : Kp [] hX (hX ++ [some ⟨[.int .i64 Mk.mag[q][0].1, .int .i64 Mk.mag[q][0].2], 2, true⟩]) := .app _ _ _
        have bB : hob (hX ++ [some ⟨[.int .i64 Mk.mag[q][0].1, .int .i64 Mk.mag[q][0].2], 2, true⟩]) hX.length = some ⟨[.int .i64 Mk.mag[q][0].1, .int .i64 Mk.mag[q][0].2], 2, true⟩ := by simp [hob]
        have lB := kB.1
        refine call0 (cloneX_ac (rk.rL.kp0 kB) (by omega)) ?_
        rintro v1 gC ⟨L1, q1, _, g1⟩ kC
        have lC := kC.1
        obtain ⟨T, vN, H1, LN, e1, q2, k2, t2, l2⟩ := q1.more (h := hX) Mk.mag[q][0] (by omega) (hob_kp kC bB (by simp))
        have mtT : (∀ i, i ∈ T → MT [] h i) = True := eq_true (fun i hi => .inr (by have := g1 i (t2 i hi); omega))
        have kk : Kp [] hX H1 := (kB.trans kC (by simp)).trans k2 (fun i hi => .inr (by have := g1 i hi; omega))
        have geN : ∀ i ∈ LN, hX.length ≤ i := fun i hi => (l2 i hi).elim (fun h' => by have := g1 i h'; omega) (fun h' => by omega)
        have lenH := kk.1
        replace bk := hob_kp kk bk (by simp); replace bz := hob_kp kk bz (by simp); replace rk := rk.kp0 kk
        have c5 : hcs H1 h.length 5 3 = some [.int .i64 Mk.msr.width, .int .i64 Mk.msr.thin, .int .i64 Mk.msr.thick] := by rw [hcs_hob bk]; rfl
        have c0 : hcs H1 h.length 0 3 = some [.string Mk.font.letters, vW, vC] := by rw [hcs_hob bk]; rfl
        simp -implicitDefEqProofs [e1, mtT, c5, c0]
        refine call0 (implItems_ac (F := Mk.font) (fontB_n (magB_fn p1)).2.2.1 rk.rF q2 hpx (by simp; omega)) ?_
        rintro vI H2 ⟨LI, qi, _, _⟩ kI
        have lenI := kI.1
        replace bk := hob_kp kI bk (by simp); replace bz := hob_kp kI bz (by simp); replace rk := rk.kp0 kI; replace q2 := q2.kp0 kI
        have hck2 := hcs_full bk rfl
        obtain ⟨gf2, ef2, bf2, hf2, xf2, _⟩ := mn_put ⟨⟨_, _, _, _, _, _, _, _, _, _, rfl, rk, rfl⟩, nd, ge⟩ bz rfl (by omega)
        simp only [mcells] at hck2 ef2 hf2
        simp -implicitDefEqProofs
        refine call1 (fits_ac Mk.msr qi) ?_
        cases hfit : fitsB Mk.msr (itemsL Mk.font (Mk.line ++ [Mk.mag[q][0]]))
        · have hs : keyS Mk (t.data[k].toNat : Nat) = none := by rw [keyS_letter ok h32 hqe hq h0, if_neg (by rw [hfit]; simp)]
          rw [keysS_no hk1 (by rw [hk2]; exact hs)] at heq
          rw [heq]
          simp -implicitDefEqProofs [hi, hck2, ef2, hf2, mZ, resA_2, resA1]
          exact ⟨_, _, by simp [mcells], xf2.mono (by omega)⟩
        · have hs : keyS Mk (t.data[k].toNat : Nat) = some { Mk with mag := Mk.mag.set q (Mk.mag[q].drop 1), line := Mk.line ++ [Mk.mag[q][0]] } := by rw [keyS_letter ok h32 hqe hq h0, if_pos hfit]
          rw [keysS_yes hk1 (by rw [hk2]; exact hs)] at heq
          have hne : ∀ i ∈ LW ++ LC ++ LM ++ LL ++ LQ, i ≠ h.length := fun i hi => by have := ge i hi; omega
          have c3b : hc1 H2 h.length 3 = some vM := by rw [hc1_hob bk]; rfl
          obtain ⟨i5, o5, u5, u6, H3, f1, f2, f3, f4, r3, k3, i5m, n3⟩ := mag_drop rk nd hq h0
          have b3 := hob_kp k3 bk (by simp; exact fun h => hne i5 (by simp [i5m]) h.symm)
          have m5 : MT [] h i5 := .inr (by have := ge i5 (by simp [i5m]); omega)
          have nd3 := nd
          have ld : ∀ i ∈ LN, i ≠ h.length := fun i hi => by have := geN i hi; omega
          replace q2 := q2.kp k3 (fun i hi hn => by simp at hn; have := geN i hi; have := hlt i5 (by simp [i5m]); omega)
          obtain ⟨H4, e4, k4, n4, b4, r4, nd4⟩ := line_set r3 nd3 hne b3 q2 ld (fun a ha b hb => by have := geN a ha; have := hlt b hb; omega)
          replace bz := hob_kp k4 (hob_kp k3 bz (by simp; have := ge i5 (by simp [i5m]); omega)) (by simp)
          simp -implicitDefEqProofs [show ¬ ((q : Nat) : Int) < 0 by omega, c3b, f1, f2, f3, f4, m5, e4, mV]
          have hge4 : ∀ i ∈ LW ++ LC ++ LM ++ LN ++ LQ, g0.length ≤ i := by
            intro i hi
            simp only [List.mem_append] at hi
            rcases hi with (((hi | hi) | hi) | hi) | hi
            · exact ge i (by simp [hi])
            · exact ge i (by simp [hi])
            · exact ge i (by simp [hi])
            · have := geN i hi; omega
            · exact ge i (by simp [hi])
          exact ⟨by omega, _, vW, vC, vM, vN, vQ, b4, LW, LC, LM, LN, LQ, r4, by simpa only [List.append_assoc] using nd4, by simpa using hge4, keyS_ok hs, bz, by rw [heq]; simp; omega⟩
  · rintro s h1 hi ⟨lg, Mk, vW, vC, vM, vL, vQ, LW, LC, LM, LL, LQ, bk, rk, nd, ge, ok, bz, heq⟩ kp
    have hd : t.data.toList.drop t.size = [] := List.drop_of_length_le (by omega)
    rw [hd] at heq
    have hd0 : keysS Mk [] = (Mk, 0) := rfl
    rw [hd0] at heq
    rw [heq]
    have hck := hcs_full bk rfl
    obtain ⟨gf, ef, bf, hf, xf, _⟩ := mn_put ⟨⟨_, _, _, _, _, _, _, _, _, _, rfl, rk, rfl⟩, nd, ge⟩ bz rfl (by omega)
    simp -implicitDefEqProofs [L23_0, hck, ef, hf, mZ, resA_2, resA1]
    exact ⟨_, _, by simp, xf.mono (by omega)⟩
end
end Go.Proofs.Ytpenocegikjpaaa

/- The law of KeyText. -/
set_option linter.unusedSimpArgs false
set_option linter.unusedVariables false
set_option maxHeartbeats 1000000
namespace Go.Proofs.Ytpenocegikjpaaa
open Go.Ab
theorem keysS_ok {l : List UInt8} : ∀ {M : Mch}, mchB M = true → mchB (keysS M l).1 = true := by
  induction l with
  | nil => intro M h; exact h
  | cons b l ih =>
    intro M h
    cases hk : keyS M b.toNat with
    | none => simp only [keysS, hk]; exact h
    | some M' => simp only [keysS, hk]; exact ih (keyS_ok hk)
theorem keyT_sz (M : Mch) (s : ByteArray) : szM (keyT M s).1 ≤ 2000 := by
  unfold keyT
  split
  · rename_i h; exact szM_ok (keysS_ok h)
  · simp [sz_zero]
section
variable {w : Bool} {h : Heap} {l : List Value} {M : Mch} {L : List Nat}
theorem keyLaw (r0 : MV false h l M L) (hs : M.font.letters.size ≤ maxLen) (t : ByteArray) : AC Try.prog 10 [.agg l.toArray, .string t] h [] fun r _ => r = .bool true := by
  have hspec : ∀ {w : Bool} {h : Heap} {l : List Value} {L : List Nat}, MV w h l M L → szM M ≤ 1048576 → t.size ≤ 1048576 → _ := fun {w h l L} r hl ht => specKeyTextA_ac (w := w) (h := h) (l := l) (L := L) r hl t ht
  have himpl : ∀ {w : Bool} {h : Heap} {l : List Value} {L : List Nat}, MV w h l M L → szM M ≤ 1048576 → t.size ≤ 1048576 → _ := fun {w h l L} r hl ht => implKeyTextA_ac (w := w) (h := h) (l := l) (L := L) r hl t ht
  have hcw : szM M ≤ 1048576 → cntM (keyT M t).1 ≤ 4611686018427387900 := fun hz => by have := keyT_sz M t; have := cntM_le (keyT M t).1; omega
  generalize (keyT M t).1 = W at hspec himpl hcw
  generalize (keyT M t).2 = b at hspec himpl
  have hlen0 := r0.len
  have hone0 := r0.one
  have lt0 := r0.lt
  have ht0 : l.take 10 = l := List.take_of_length_le (by omega)
  refine ac10 (by simp [p10]) ?_
  by_cases ht2 : (1048576 : Int) < (t.size : Nat)
  · simp -implicitDefEqProofs [p10, hlen0, hone0, ht0, ht2]
  have ht3 : t.size ≤ 1048576 := by omega
  simp -implicitDefEqProofs [p10, hlen0, hone0, ht0, ht2]
  have k1 : Kp [] h (h ++ [some (⟨l, 10, true⟩ : AObj)]) := .app _ _ _
  have e0 : hcs (h ++ [some (⟨l, 10, true⟩ : AObj)]) h.length 0 10 = some l := hcs_var hlen0
  have qk1 : h.length < (h ++ [some (⟨l, 10, true⟩ : AObj)]).length := by simp
  have lk1 := k1.1
  replace r0 := r0.kp0 k1
  generalize h ++ [some (⟨l, 10, true⟩ : AObj)] = g2 at k1 lk1 qk1 r0 e0 ⊢
  refine call1 (szM_ac r0 hs) ?_
  by_cases hz : (1048576 : Int) < szM M
  · simp -implicitDefEqProofs [hz]
  have hsz : szM M ≤ 1048576 := by omega
  have hcn : cntM M ≤ 4611686018427387900 := by have := cntM_le M; omega
  have hcw := hcw hsz
  simp -implicitDefEqProofs [hz, show ¬ ((1048576 : Int) - szM M < 0) by omega, e0]
  refine call0 (toM_ac r0 hsz) ?_
  rintro _ h4 ⟨lA, LA, rfl, rA, ndA, geA⟩ k3
  have lk3 := k3.1
  replace r0 := r0.kp0 k3
  replace e0 := hcs_kp0 k3 e0
  have ltA := rA.lt
  have hlenA := rA.len
  have honeA := rA.one
  have htA : lA.take 10 = lA := List.take_of_length_le (by omega)
  simp -implicitDefEqProofs
  refine call0 (hspec rA hsz ht3) ?_
  rintro _ h6 ⟨lS, LS, rfl, rS, ndS, geS⟩ k5
  have lk5 := k5.1
  replace r0 := r0.kp0 k5
  replace e0 := hcs_kp0 k5 e0
  replace rA := rA.kp0 k5
  have ltS := rS.lt
  have hlenS := rS.len
  have honeS := rS.one
  have htS : lS.take 10 = lS := List.take_of_length_le (by omega)
  have e0a : ∀ t, hcs (h6 ++ t) _ 0 10 = _ := fun t => hcs_kp0 (Kp.app [] h6 t) e0
  simp -implicitDefEqProofs [strV_var, hlenS, honeS, htS, mt_ge (show h.length ≤ h6.length by omega), e0a]
  have k7 : Kp [] h6 (h6 ++ [some (⟨lS, 10, true⟩ : AObj)]) := .app _ _ _
  have eS : hcs (h6 ++ [some (⟨lS, 10, true⟩ : AObj)]) h6.length 0 10 = some lS := hcs_var hlenS
  have qk7 : h6.length < (h6 ++ [some (⟨lS, 10, true⟩ : AObj)]).length := by simp
  have lk7 := k7.1
  replace r0 := r0.kp0 k7
  replace e0 := hcs_kp0 k7 e0
  replace rA := rA.kp0 k7
  replace rS := rS.kp0 k7
  generalize h6 ++ [some (⟨lS, 10, true⟩ : AObj)] = g8 at k7 lk7 qk7 r0 e0 rA rS eS ⊢
  refine call0 (toM_ac r0 hsz) ?_
  rintro _ h10 ⟨lB, LB, rfl, rB, ndB, geB⟩ k9
  have lk9 := k9.1
  replace r0 := r0.kp0 k9
  replace e0 := hcs_kp0 k9 e0
  replace rA := rA.kp0 k9
  replace rS := rS.kp0 k9
  replace eS := hcs_kp0 k9 eS
  have ltB := rB.lt
  have hlenB := rB.len
  have honeB := rB.one
  have htB : lB.take 10 = lB := List.take_of_length_le (by omega)
  have e0a : ∀ t, hcs (h10 ++ t) _ 0 10 = _ := fun t => hcs_kp0 (Kp.app [] h10 t) e0
  have eSa : ∀ t, hcs (h10 ++ t) _ 0 10 = _ := fun t => hcs_kp0 (Kp.app [] h10 t) eS
  simp -implicitDefEqProofs [strV_var, hlenB, honeB, htB, mt_ge (show h.length ≤ h10.length by omega), e0a, eSa]
  have k11 : Kp [] h10 (h10 ++ [some (⟨lB, 10, true⟩ : AObj)]) := .app _ _ _
  have eB : hcs (h10 ++ [some (⟨lB, 10, true⟩ : AObj)]) h10.length 0 10 = some lB := hcs_var hlenB
  have qk11 : h10.length < (h10 ++ [some (⟨lB, 10, true⟩ : AObj)]).length := by simp
  have lk11 := k11.1
  replace r0 := r0.kp0 k11
  replace e0 := hcs_kp0 k11 e0
  replace rA := rA.kp0 k11
  replace rS := rS.kp0 k11
  replace eS := hcs_kp0 k11 eS
  replace rB := rB.kp0 k11
  generalize h10 ++ [some (⟨lB, 10, true⟩ : AObj)] = g12 at k11 lk11 qk11 r0 e0 rA rS eS rB eB ⊢
  refine call0 (himpl rB hsz ht3) ?_
  rintro _ h14 ⟨lR, LR, rfl, rR, ndR, geR⟩ k13
  have lk13 := k13.1
  replace r0 := r0.kp0 k13
  replace e0 := hcs_kp0 k13 e0
  replace rA := rA.kp0 k13
  replace rS := rS.kp0 k13
  replace eS := hcs_kp0 k13 eS
  replace rB := rB.kp0 k13
  replace eB := hcs_kp0 k13 eB
  have ltR := rR.lt
  have hlenR := rR.len
  have honeR := rR.one
  have htR : lR.take 10 = lR := List.take_of_length_le (by omega)
  have e0a : ∀ t, hcs (h14 ++ t) _ 0 10 = _ := fun t => hcs_kp0 (Kp.app [] h14 t) e0
  have eSa : ∀ t, hcs (h14 ++ t) _ 0 10 = _ := fun t => hcs_kp0 (Kp.app [] h14 t) eS
  have eBa : ∀ t, hcs (h14 ++ t) _ 0 10 = _ := fun t => hcs_kp0 (Kp.app [] h14 t) eB
  simp -implicitDefEqProofs [strV_var, hlenR, honeR, htR, mt_ge (show h.length ≤ h14.length by omega), e0a, eSa, eBa]
  have k15 : Kp [] h14 (h14 ++ [some (⟨lR, 10, true⟩ : AObj)]) := .app _ _ _
  have eR : hcs (h14 ++ [some (⟨lR, 10, true⟩ : AObj)]) h14.length 0 10 = some lR := hcs_var hlenR
  have qk15 : h14.length < (h14 ++ [some (⟨lR, 10, true⟩ : AObj)]).length := by simp
  have lk15 := k15.1
  replace r0 := r0.kp0 k15
  replace e0 := hcs_kp0 k15 e0
  replace rA := rA.kp0 k15
  replace rS := rS.kp0 k15
  replace eS := hcs_kp0 k15 eS
  replace rB := rB.kp0 k15
  replace eB := hcs_kp0 k15 eB
  replace rR := rR.kp0 k15
  generalize h14 ++ [some (⟨lR, 10, true⟩ : AObj)] = g16 at k15 lk15 qk15 r0 e0 rA rS eS rB eB rR eR ⊢
  refine call1 (eqM_ac rR rS) ?_
  simp -implicitDefEqProofs [eB, e0]
  refine call0 (toM_ac r0 hsz) ?_
  rintro _ h18 ⟨lC, LC, rfl, rC, ndC, geC⟩ k17
  have lk17 := k17.1
  replace r0 := r0.kp0 k17
  replace e0 := hcs_kp0 k17 e0
  replace rA := rA.kp0 k17
  replace rS := rS.kp0 k17
  replace eS := hcs_kp0 k17 eS
  replace rB := rB.kp0 k17
  replace eB := hcs_kp0 k17 eB
  replace rR := rR.kp0 k17
  replace eR := hcs_kp0 k17 eR
  have ltC := rC.lt
  have hlenC := rC.len
  have honeC := rC.one
  have htC : lC.take 10 = lC := List.take_of_length_le (by omega)
  simp -implicitDefEqProofs
  refine call1 (eqM_ac rB rC) ?_
  simp -implicitDefEqProofs [eB]
  refine callK (markM_ac rB ndB hcn) (fun i hi => .inr (by have := geB i hi; omega)) ?_
  rintro _ h20 ⟨rfl, mB⟩ k19
  have lk19 := k19.1
  replace r0 := r0.kp k19 (fun i hi hn => by have := geB i hn; have := ltB i hn; have := lt0 i hi; omega)
  replace e0 := hcs_kp k19 e0 (fun hn => by have := geB _ hn; have := ltB _ hn; omega)
  replace rA := rA.kp k19 (fun i hi hn => by have := geB i hn; have := ltB i hn; have := ltA i hi; have := geA i hi; omega)
  replace rS := rS.kp k19 (fun i hi hn => by have := geB i hn; have := ltB i hn; have := ltS i hi; have := geS i hi; omega)
  replace eS := hcs_kp k19 eS (fun hn => by have := geB _ hn; have := ltB _ hn; omega)
  replace eB := hcs_kp k19 eB (fun hn => by have := geB _ hn; have := ltB _ hn; omega)
  replace rR := rR.kp k19 (fun i hi hn => by have := geB i hn; have := ltB i hn; have := ltR i hi; have := geR i hi; omega)
  replace eR := hcs_kp k19 eR (fun hn => by have := geB _ hn; have := ltB _ hn; omega)
  replace rC := rC.kp k19 (fun i hi hn => by have := geB i hn; have := ltB i hn; have := ltC i hi; have := geC i hi; omega)
  simp -implicitDefEqProofs [show ¬ (1 + (cntM M : Int) < 0) by omega, eR, eS]
  refine call1 (eqM_ac rR rS) ?_
  simp -implicitDefEqProofs [eR]
  refine callK (markM_ac rR ndR hcw) (fun i hi => .inr (by have := geR i hi; omega)) ?_
  rintro _ h22 ⟨rfl, mR⟩ k21
  have lk21 := k21.1
  replace r0 := r0.kp k21 (fun i hi hn => by have := geR i hn; have := ltR i hn; have := lt0 i hi; omega)
  replace e0 := hcs_kp k21 e0 (fun hn => by have := geR _ hn; have := ltR _ hn; omega)
  replace rA := rA.kp k21 (fun i hi hn => by have := geR i hn; have := ltR i hn; have := ltA i hi; have := geA i hi; omega)
  replace rS := rS.kp k21 (fun i hi hn => by have := geR i hn; have := ltR i hn; have := ltS i hi; have := geS i hi; omega)
  replace eS := hcs_kp k21 eS (fun hn => by have := geR _ hn; have := ltR _ hn; omega)
  replace eB := hcs_kp k21 eB (fun hn => by have := geR _ hn; have := ltR _ hn; omega)
  replace eR := hcs_kp k21 eR (fun hn => by have := geR _ hn; have := ltR _ hn; omega)
  replace rC := rC.kp k21 (fun i hi hn => by have := geR i hn; have := ltR i hn; have := ltC i hi; have := geC i hi; omega)
  replace mB := mB.kp k21 (fun i hi hn => by have := geR i hn; have := ltR i hn; have := ltB i hi; have := geB i hi; omega)
  simp -implicitDefEqProofs [eR]
  refine call1 (heldM_ac mR hcw) ?_
  simp -implicitDefEqProofs [show ¬ (1 + (cntM W : Int) < 0) by omega, e0]
  refine call0 (toM_ac r0 hsz) ?_
  rintro _ h24 ⟨lD, LD, rfl, rD, ndD, geD⟩ k23
  have lk23 := k23.1
  replace r0 := r0.kp0 k23
  replace e0 := hcs_kp0 k23 e0
  replace rA := rA.kp0 k23
  replace rS := rS.kp0 k23
  replace eS := hcs_kp0 k23 eS
  replace eB := hcs_kp0 k23 eB
  replace eR := hcs_kp0 k23 eR
  replace rC := rC.kp0 k23
  replace mB := mB.kp0 k23
  replace mR := mR.kp0 k23
  have ltD := rD.lt
  have hlenD := rD.len
  have honeD := rD.one
  have htD : lD.take 10 = lD := List.take_of_length_le (by omega)
  simp -implicitDefEqProofs
  refine call0 (himpl rD hsz ht3) ?_
  rintro _ h26 ⟨lQ, LQ, rfl, rQ, ndQ, geQ⟩ k25
  have lk25 := k25.1
  replace r0 := r0.kp0 k25
  replace e0 := hcs_kp0 k25 e0
  replace rA := rA.kp0 k25
  replace rS := rS.kp0 k25
  replace eS := hcs_kp0 k25 eS
  replace eB := hcs_kp0 k25 eB
  replace eR := hcs_kp0 k25 eR
  replace rC := rC.kp0 k25
  replace mB := mB.kp0 k25
  replace mR := mR.kp0 k25
  replace rD := rD.kp0 k25
  have ltQ := rQ.lt
  have hlenQ := rQ.len
  have honeQ := rQ.one
  have htQ : lQ.take 10 = lQ := List.take_of_length_le (by omega)
  have e0a : ∀ t, hcs (h26 ++ t) _ 0 10 = _ := fun t => hcs_kp0 (Kp.app [] h26 t) e0
  have eSa : ∀ t, hcs (h26 ++ t) _ 0 10 = _ := fun t => hcs_kp0 (Kp.app [] h26 t) eS
  have eBa : ∀ t, hcs (h26 ++ t) _ 0 10 = _ := fun t => hcs_kp0 (Kp.app [] h26 t) eB
  have eRa : ∀ t, hcs (h26 ++ t) _ 0 10 = _ := fun t => hcs_kp0 (Kp.app [] h26 t) eR
  simp -implicitDefEqProofs [strV_var, hlenQ, honeQ, htQ, mt_ge (show h.length ≤ h26.length by omega), e0a, eSa, eBa, eRa]
  have k27 : Kp [] h26 (h26 ++ [some (⟨lQ, 10, true⟩ : AObj)]) := .app _ _ _
  have eQ : hcs (h26 ++ [some (⟨lQ, 10, true⟩ : AObj)]) h26.length 0 10 = some lQ := hcs_var hlenQ
  have qk27 : h26.length < (h26 ++ [some (⟨lQ, 10, true⟩ : AObj)]).length := by simp
  have lk27 := k27.1
  replace r0 := r0.kp0 k27
  replace e0 := hcs_kp0 k27 e0
  replace rA := rA.kp0 k27
  replace rS := rS.kp0 k27
  replace eS := hcs_kp0 k27 eS
  replace eB := hcs_kp0 k27 eB
  replace eR := hcs_kp0 k27 eR
  replace rC := rC.kp0 k27
  replace mB := mB.kp0 k27
  replace mR := mR.kp0 k27
  replace rD := rD.kp0 k27
  replace rQ := rQ.kp0 k27
  generalize h26 ++ [some (⟨lQ, 10, true⟩ : AObj)] = g28 at k27 lk27 qk27 r0 e0 rA rS eS eB eR rC mB mR rD rQ eQ ⊢
  refine call1 (eqM_ac rQ rS) ?_
  simp -implicitDefEqProofs [eR]
  refine call1 (heldM_ac mR hcw) ?_
  simp -implicitDefEqProofs [show ¬ (1 + (cntM W : Int) < 0) by omega]
end
theorem fnExactKeyText_ac {h : Heap} {M : Mch} {vW vC vM vL vQ : Value} {LW LC LM LL LQ : List Nat} {t : ByteArray} (r : RM false h M vW vC vM vL vQ LW LC LM LL LQ) (hs : M.font.letters.size ≤ maxLen)
    (_ : t.size ≤ big) : AC Try.prog 10 [mval M vW vC vM vL vQ, .string t] h [] fun r _ => r = .bool true :=
  keyLaw ⟨_, _, _, _, _, _, _, _, _, _, rfl, r, rfl⟩ hs t
end Go.Proofs.Ytpenocegikjpaaa
