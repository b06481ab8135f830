/- Each operation that is no call does in the world what the calculus says of it (third part). -/
import Derived.Test.YtpenocegikjpaaaAb4
set_option linter.unusedSimpArgs false
set_option linter.unusedVariables false
namespace Go.Ab
section
variable {P : Program} {ρ : Rho} {tm : Nat → Value} {h h' : Heap} {w : World} {g : Operand → Value} {o : Oper} {po : POp} {T : List Nat} {v : Value}

theorem pOs_rel : ∀ {xs : List Operand} {ps : List PO}, pOs xs = some ps → GV ρ tm g → VRL ρ (ps.map (·.ev tm)) (xs.map g)
  | [], ps, e, _ => by simp [pOs] at e; subst e; exact .nil ρ
  | x :: xs, ps, e, hg => by
    simp [pOs, Option.bind_eq_some_iff] at e
    obtain ⟨p, h1, ps', h2, rfl⟩ := e
    exact .cons (hg x p h1) (pOs_rel (by simpa [pOs] using h2) hg)

theorem s_mki {t : TypeId} {x : Operand} (ho : o.op = .makeInterface t x) (hp : prepOp P o.op = some po) (ha : aop P tm h po = some (T, v, h')) (hg : GV ρ tm g) : OutQ P (execOp g o) ρ v ∧ T = [] ∧ h' = h := by
  rw [ho] at hp
  simp only [prepOp, bind, Option.bind_eq_some_iff] at hp
  obtain ⟨p, h1, hp⟩ := hp
  cases hu : P.underlying t with
  | none => simp [hu] at hp
  | some d =>
    have : po = .mki t p ∧ ∀ w, (execOp g o).run P w = .ok (.value (.iface t (g x))) w := by
      cases d <;> simp [hu] at hp <;> exact ⟨hp.symm, fun w => by simp [execOp, ho, Instr.makeInterface, run_underlying hu]⟩
    obtain ⟨rfl, hr⟩ := this
    simp [aop] at ha
    obtain ⟨rfl, rfl, rfl⟩ := ha
    exact Q3 hr (.iface (hg x p h1))

theorem s_mkf {fn : Fn} {xs ys : Array Operand} (ho : o.op = .makeFunc fn xs ys) (hp : prepOp P o.op = some po) (ha : aop P tm h po = some (T, v, h')) (hg : GV ρ tm g) : OutQ P (execOp g o) ρ v ∧ T = [] ∧ h' = h := by
  rw [ho] at hp
  simp only [prepOp, bind, Option.bind_eq_some_iff] at hp
  obtain ⟨px, h1, py, h2, hp⟩ := hp
  injection hp with hp; subst hp
  simp only [aop, Option.some.injEq, Prod.mk.injEq] at ha
  obtain ⟨rfl, rfl, rfl⟩ := ha
  refine Q3 (rv := .func fn (xs.map g) (ys.map g)) (fun w => ?_) (.func_iff (by simpa using pOs_rel h1 hg) (by simpa using pOs_rel h2 hg))
  simp [execOp, ho, Instr.makeFunc]

theorem s_ext {x : Operand} {j : Nat} (ho : o.op = .extract x j) (hp : prepOp P o.op = some po) (ha : aop P tm h po = some (T, v, h')) (hg : GV ρ tm g) : OutQ P (execOp g o) ρ v ∧ T = [] ∧ h' = h := by
  rw [ho] at hp
  simp only [prepOp, bind, Option.bind_eq_some_iff] at hp
  obtain ⟨p, h1, hp⟩ := hp
  injection hp with hp; subst hp
  have hv := hg x p h1
  simp only [aop] at ha
  split at ha
  · rename_i vs e
    rw [e] at hv
    obtain ⟨us, hgx, hl⟩ := hv.tuple_list
    simp only [Option.map_eq_some_iff, Prod.mk.injEq] at ha
    obtain ⟨u, hj, rfl, rfl, rfl⟩ := ha
    obtain ⟨rv, hr, hvr⟩ := hl.sm (j := j) (by simpa using hj)
    refine Q3 (rv := rv) (fun w => ?_) hvr
    have hr' : us[j]? = some rv := by simpa using hr
    simp [execOp, ho, Instr.extract, hgx, hr']
  · cases ha

theorem s_fa {t : TypeId} {x : Operand} {f : Nat} (ho : o.op = .fieldAddr t x f) (hp : prepOp P o.op = some po) (ha : aop P tm h po = some (T, v, h')) (hg : GV ρ tm g) : OutQ P (execOp g o) ρ v ∧ T = [] ∧ h' = h := by
  rw [ho] at hp
  simp only [prepOp, bind, Option.bind_eq_some_iff] at hp
  obtain ⟨p, h1, hp⟩ := hp
  have hv := hg x p h1
  split at hp
  · rename_i fs hu
    simp only [Option.bind_eq_some_iff] at hp
    obtain ⟨fd, hf, n, hn, hp⟩ := hp
    obtain ⟨i, hi, hsz⟩ := szOf_some hn
    split at hp
    · cases hp
    · rename_i hn0
      injection hp with hp; subst hp
      simp only [aop] at ha
      split at ha
      · rename_i j ofs e
        rw [e] at hv
        obtain ⟨k, hk, hgx⟩ := ptr_inv hv
        injection ha with ha; injection ha with e1 e2; injection e2 with e2 e3; subst e1; subst e2; subst e3
        refine Q3 (rv := .pointer (some ⟨k.b, k.base + (ofs + fd.offset), none⟩)) (fun w => ?_) (.ptr hk)
        simp [execOp, ho, Instr.fieldAt, run_underlying hu, hf, hgx, Instr.sureAddr, fieldPlace, sizeOf, typeInfo, hi, hsz, hn0, add_plain, Nat.add_assoc]
      · cases ha
  · cases hp

theorem part_run {t : TypeId} {n : Nat} {b : Bool} (hn : szOf P t = some n) (hb : aggOf P t = some b) (cs : Array Value) (ofs : Nat) : (part t cs ofs).run P w =
    if b = true then .ok (.agg (cs.extract ofs (ofs + n))) w else (match cs[ofs]? with | some v => .ok v w | none => .halt (.stuck "part: no such cell") w) := by
  obtain ⟨i, hi, hsz⟩ := szOf_some hn
  unfold aggOf at hb
  cases hu : P.underlying t with
  | none => simp [hu] at hb
  | some d =>
    have hag : ∀ w, (isAgg t).run P w = .ok b w := by
      intro w
      simp only [hu, Option.map_some, Option.some.injEq] at hb
      subst hb
      simp only [isAgg, underlying, Sem.run_bind, run_program, Result.andThen_ok, hu]
      cases d <;> rfl
    simp only [part, Sem.run_bind, hag, Result.andThen_ok]
    cases b
    · simp
      cases cs[ofs]? <;> rfl
    · simp [sizeOf, typeInfo, hi, hsz]

theorem VRL.extract {xs ys : Array Value} (hl : VRL ρ xs.toList ys.toList) (a b : Nat) : VRL ρ (xs.extract a b).toList (ys.extract a b).toList := by
  have := (hl.drop a).take (b - a)
  simpa [Array.toList_extract, List.extract_eq_take_drop] using this

theorem s_fld {t : TypeId} {x : Operand} {f : Nat} (ho : o.op = .field t x f) (hp : prepOp P o.op = some po) (ha : aop P tm h po = some (T, v, h')) (hg : GV ρ tm g) : OutQ P (execOp g o) ρ v ∧ T = [] ∧ h' = h := by
  rw [ho] at hp
  simp only [prepOp, bind, Option.bind_eq_some_iff] at hp
  obtain ⟨p, h1, hp⟩ := hp
  have hv := hg x p h1
  split at hp
  · rename_i fs hu
    simp only [Option.bind_eq_some_iff] at hp
    obtain ⟨fd, hf, n, hn, b, hb, hp⟩ := hp
    injection hp with hp; subst hp
    simp only [aop] at ha
    split at ha
    · rename_i cs e
      rw [e] at hv
      obtain ⟨us, hgx, hl⟩ := hv.agg_list
      have hpt := fun w => part_run (w := w) hn hb us fd.offset
      cases b with
      | true =>
        simp at ha
        obtain ⟨rfl, rfl, rfl⟩ := ha
        refine Q3 (rv := .agg (us.extract fd.offset (fd.offset + n))) (fun w => ?_) (.agg_iff (VRL.extract hl _ _))
        simp [execOp, ho, Instr.field, run_underlying hu, hf, hgx, asAgg, hpt]
      | false =>
        simp only [Bool.false_eq_true, if_false, Option.map_eq_some_iff, Prod.mk.injEq] at ha
        obtain ⟨u, hj, rfl, rfl, rfl⟩ := ha
        obtain ⟨rv, hr, hvr⟩ := hl.sm (j := fd.offset) (by simpa using hj)
        refine Q3 (rv := rv) (fun w => ?_) hvr
        have hr' : us[fd.offset]? = some rv := by simpa using hr
        simp [execOp, ho, Instr.field, run_underlying hu, hf, hgx, asAgg, hpt, hr']
    · cases ha
  · cases hp

theorem s_ixa {t : TypeId} {x i : Operand} (ho : o.op = .indexAddr t x i) (hp : prepOp P o.op = some po) (ha : aop P tm h po = some (T, v, h')) (hg : GV ρ tm g) : OutQ P (execOp g o) ρ v ∧ T = [] ∧ h' = h := by
  rw [ho] at hp
  simp only [prepOp, bind, Option.bind_eq_some_iff] at hp
  obtain ⟨p, h1, q, h2, hp⟩ := hp
  have hv := hg x p h1
  have hvi := hg i q h2
  split at hp
  · rename_i e hu
    simp only [Option.bind_eq_some_iff] at hp
    obtain ⟨n, hn, hp⟩ := hp
    injection hp with hp; subst hp
    obtain ⟨ti, hi, hsz⟩ := szOf_some hn
    simp only [aop] at ha
    split at ha
    · rename_i j ofs len c ik m ex ei
      rw [ex] at hv; rw [ei] at hvi
      have hgi := int_inv hvi
      obtain ⟨k, ra, rc, hgx, hk, hle, _, hadr, _⟩ := sl_inv hv
      split at ha
      · rename_i hb
        injection ha with ha; injection ha with e1 e2; injection e2 with e2 e3; subst e1; subst e2; subst e3
        have := hadr (by omega)
        subst this
        refine Q3 (rv := .pointer (some ⟨k.b, k.base + (ofs + m.toNat * n), none⟩)) (fun w => ?_) (.ptr hk)
        simp [execOp, ho, Instr.indexAt, run_underlying hu, hgx, hgi, asIntOf, sizeOf, typeInfo, hi, hsz, hb, add_plain, Nat.add_assoc]
      · cases ha
    · cases ha
  · rename_i len e hu
    simp only [Option.bind_eq_some_iff] at hp
    obtain ⟨n, hn, hp⟩ := hp
    injection hp with hp; subst hp
    obtain ⟨ti, hi, hsz⟩ := szOf_some hn
    simp only [aop] at ha
    split at ha
    · rename_i j ofs ik m ex ei
      rw [ex] at hv; rw [ei] at hvi
      have hgi := int_inv hvi
      obtain ⟨k, hk, hgx⟩ := ptr_inv hv
      split at ha
      · rename_i hb
        injection ha with ha; injection ha with e1 e2; injection e2 with e2 e3; subst e1; subst e2; subst e3
        refine Q3 (rv := .pointer (some ⟨k.b, k.base + (ofs + m.toNat * n), none⟩)) (fun w => ?_) (.ptr hk)
        simp [execOp, ho, Instr.indexAt, run_underlying hu, hgx, hgi, asIntOf, Instr.sureAddr, sizeOf, typeInfo, hi, hsz, hb, add_plain, Nat.add_assoc]
      · cases ha
    · cases ha
  · cases hp

theorem s_ixs {t : TypeId} {x i : Operand} (ho : o.op = .index t x i) (hp : prepOp P o.op = some po) (ha : aop P tm h po = some (T, v, h')) (hg : GV ρ tm g) : OutQ P (execOp g o) ρ v ∧ T = [] ∧ h' = h := by
  rw [ho] at hp
  simp only [prepOp, bind, Option.bind_eq_some_iff] at hp
  obtain ⟨p, h1, q, h2, hp⟩ := hp
  have hv := hg x p h1
  have hvi := hg i q h2
  split at hp
  · rename_i hu
    injection hp with hp; subst hp
    simp only [aop] at ha
    split at ha
    · rename_i hc
      simp only [Bool.and_eq_true] at hc
      rw [← closed_eq hc.1 hv, ← closed_eq hc.2 hvi] at ha
      simp only [Option.map_eq_some_iff, Prod.mk.injEq] at ha
      obtain ⟨u, hpv, rfl, rfl, rfl⟩ := ha
      exact s_pure hpv (fun w => by simp [execOp, ho])
    · cases ha
  · cases hp

theorem pOo_some {x : Option Operand} {p : Option PO} (e : pOo x = some p) : (x = none ∧ p = none) ∨ ∃ y q, x = some y ∧ p = some q ∧ pO y = some q := by
  cases x with
  | none => simp [pOo] at e; exact .inl ⟨rfl, e.symm⟩
  | some y =>
    simp [pOo] at e
    obtain ⟨q, h1, rfl⟩ := e
    exact .inr ⟨y, q, rfl, rfl, h1⟩

theorem bnd_rel {x : Option Operand} {p : Option PO} (e : pOo x = some p) (hg : GV ρ tm g) (d l : Int) (hb : bndA d (p.map (·.ev tm)) = some l) :
    (x = none ∧ p = none ∧ l = d) ∨ ∃ y k, x = some y ∧ p.isSome ∧ g y = .int k l := by
  rcases pOo_some e with ⟨rfl, rfl⟩ | ⟨y, q, rfl, rfl, h1⟩
  · simp [bndA] at hb; exact .inl ⟨rfl, rfl, hb.symm⟩
  · have hv := hg y q h1
    simp only [Option.map_some, bndA] at hb
    unfold intOfV at hb
    split at hb
    · rename_i k n ex
      rw [ex] at hv
      injection hb with hb; subst hb
      exact .inr ⟨y, k, rfl, rfl, int_inv hv⟩
    · cases hb

theorem run_bound {k : IntKind} {i : Int} {y : Nat} {c : BoundsCode} (h0 : 0 ≤ i) (h1 : i ≤ y) : (Instr.sliceBound (.int k i) y c).run P w = .ok i.toNat w := by
  simp [Instr.sliceBound, asIntOf, h0, h1]

theorem s_ssl {t : TypeId} {x : Operand} {lo hi mx : Option Operand} (ho : o.op = .slice t x lo hi mx) (hp : prepOp P o.op = some po) (ha : aop P tm h po = some (T, v, h')) (hg : GV ρ tm g) (hs : Sim ρ h w) : OutQ P (execOp g o) ρ v ∧ T = [] ∧ h' = h := by
  rw [ho] at hp
  simp only [prepOp, bind, Option.bind_eq_some_iff] at hp
  obtain ⟨p, h1, pl, hlo, ph, hhi, pm, hmx, hp⟩ := hp
  have hv := hg x p h1
  split at hp
  · rename_i hu
    injection hp with hp; subst hp
    have hm : mx = none := by
      rcases pOo_some hmx with ⟨rfl, _⟩ | ⟨y, q, _, h, _⟩
      · rfl
      · cases h
    subst hm
    simp only [aop] at ha
    split at ha
    · rename_i hc
      simp only [Bool.and_eq_true] at hc
      obtain ⟨⟨c1, c2⟩, c3⟩ := hc
      have hl : (pl.map (·.ev tm)) = lo.map g := by
        rcases pOo_some hlo with ⟨rfl, rfl⟩ | ⟨y, q, rfl, rfl, hy⟩
        · rfl
        · simp at c2 ⊢; exact (closed_eq c2 (hg y q hy)).symm
      have hh : (ph.map (·.ev tm)) = hi.map g := by
        rcases pOo_some hhi with ⟨rfl, rfl⟩ | ⟨y, q, rfl, rfl, hy⟩
        · rfl
        · simp at c3 ⊢; exact (closed_eq c3 (hg y q hy)).symm
      rw [← closed_eq c1 hv, hl, hh] at ha
      simp only [Option.map_eq_some_iff, Prod.mk.injEq] at ha
      obtain ⟨u, hpv, rfl, rfl, rfl⟩ := ha
      exact s_pure hpv (fun w => by simp [execOp, ho, Instr.sliceAt, run_underlying hu])
    · cases ha
  · rename_i pm _ _ e hu
    simp only [Option.bind_eq_some_iff] at hp
    obtain ⟨n, hn, hp⟩ := hp
    injection hp with hp; subst hp
    obtain ⟨ti, hti, hsz⟩ := szOf_some hn
    simp only [aop] at ha
    split at ha
    · rename_i ex
      rw [ex] at hv
      have hgx := nils_inv hv
      split at ha
      · rename_i hc
        obtain ⟨cl, ch, cm, cmh⟩ := hc
        injection ha with ha; injection ha with e1 e2; injection e2 with e2 e3; subst e1; subst e2; subst e3
        refine Q3 (rv := .slice none 0 0) (fun w => ?_) .nils
        rcases bnd_rel hlo hg 0 0 cl with ⟨rfl, rfl, _⟩ | ⟨yl, kl, rfl, hpl, gl⟩ <;> rcases bnd_rel hhi hg 0 0 ch with ⟨rfl, rfl, _⟩ | ⟨yh, kh, rfl, hph, gh⟩ <;>
          rcases bnd_rel hmx hg 0 0 cm with ⟨rfl, rfl, _⟩ | ⟨ym, km, rfl, hpm, gm⟩ <;>
          first
            | (exfalso; have := cmh hpm; simp at this; done)
            | simp [execOp, ho, Instr.sliceAt, Instr.slice, Instr.sliceBounds, run_underlying hu, hgx, sizeOf, typeInfo, hti, *, run_bound]
      · cases ha
    · rename_i j ofs len c ex
      rw [ex] at hv
      obtain ⟨k, ra, rc, hgx, hk, hle, hfull, hadr, hsp⟩ := sl_inv hv
      simp only [Option.bind_eq_some_iff] at ha
      obtain ⟨ob, hob', l, hl, u, hu', ha⟩ := ha
      split at ha
      · rename_i hc
        obtain ⟨hes, h0, hlu, hun⟩ := hc
        obtain ⟨k2, rcs, t2, fr, hk2, _, hown, hownb, _⟩ := hs.obj j ob (hob_eq.1 hob')
        rw [hk] at hk2; injection hk2 with hk2; subst hk2
        have hke : k.own = true → k.es = n := fun hko => by
          have : ob.own = true := by rw [← hown]; exact hko
          rw [(hownb this).2.2.1, hes this]
        have hlt : l.toNat ≤ rc := by omega
        have base : ∀ (N C m : Nat), N ≤ m - l.toNat → (C = N → m - l.toNat = N) → m ≤ rc → l.toNat ≤ m → VR ρ (.slice (some ⟨j, ofs + l.toNat * n, none⟩) N C) (.slice (some (if m = l.toNat then ra else ra.add (l.toNat * n))) N (m - l.toNat)) := by
          intro N C m hN hC hm hlm
          refine .sl hk hN hC ?_ ?_
          · intro hne
            have : m ≠ l.toNat := by omega
            rw [if_neg this, hadr (by omega), add_plain]; simp [Nat.add_assoc]
          · intro hko
            have := hsp hko
            rw [hke hko] at this ⊢
            have hx : l.toNat * n + (m - l.toNat) * n = m * n := by rw [← Nat.add_mul]; congr 1; omega
            have hy : m * n ≤ rc * n := Nat.mul_le_mul_right _ hm
            omega
        have hlo' : ∃ f : Option Value → Prop, True := ⟨fun _ => True, trivial⟩
        cases pm with
        | none =>
          simp only [Option.some.injEq, Prod.mk.injEq] at ha
          obtain ⟨rfl, rfl, rfl⟩ := ha
          have hmn : mx = none := by
            rcases pOo_some hmx with ⟨h, _⟩ | ⟨y, q, _, h, _⟩
            · exact h
            · cases h
          subst hmn
          refine Q3 (rv := .slice (some (if rc = l.toNat then ra else ra.add (l.toNat * n))) (u.toNat - l.toNat) (rc - l.toNat)) (fun w => ?_) (base _ _ rc (by omega) (by split <;> omega) (Nat.le_refl _) hlt)
          rcases bnd_rel hlo hg 0 l hl with ⟨rfl, rfl, rfl⟩ | ⟨yl, kl, rfl, hpl, gl⟩ <;> rcases bnd_rel hhi hg len u hu' with ⟨rfl, rfl, rfl⟩ | ⟨yh, kh, rfl, hph, gh⟩
          · simp [execOp, ho, Instr.sliceAt, Instr.slice, Instr.sliceBounds, run_underlying hu, hgx, sizeOf, typeInfo, hti, hsz]
            split <;> simp_all
          · simp [execOp, ho, Instr.sliceAt, Instr.slice, Instr.sliceBounds, run_underlying hu, hgx, sizeOf, typeInfo, hti, hsz, gh, run_bound (P := P) (w := w) (k := kh) (i := u) (y := rc) (c := .sliceAcap) (by omega) (by omega)]
            split <;> simp_all
          · simp [execOp, ho, Instr.sliceAt, Instr.slice, Instr.sliceBounds, run_underlying hu, hgx, sizeOf, typeInfo, hti, hsz, gl, run_bound (P := P) (w := w) (k := kl) (i := l) (y := len) (c := .sliceB) (by omega) (by omega)]
            split <;> simp_all
          · simp [execOp, ho, Instr.sliceAt, Instr.slice, Instr.sliceBounds, run_underlying hu, hgx, sizeOf, typeInfo, hti, hsz, gl, gh, run_bound (P := P) (w := w) (k := kh) (i := u) (y := rc) (c := .sliceAcap) (by omega) (by omega),
              run_bound (P := P) (w := w) (k := kl) (i := l) (y := u.toNat) (c := .sliceB) (by omega) (by omega)]
            split <;> simp_all
        | some q =>
          simp only at ha
          split at ha
          · rename_i m hm
            split at ha
            · rename_i hc2
              obtain ⟨hum, hmn, hhs⟩ := hc2
              simp only [Option.some.injEq, Prod.mk.injEq] at ha
              obtain ⟨rfl, rfl, rfl⟩ := ha
              refine Q3 (rv := .slice (some (if m.toNat = l.toNat then ra else ra.add (l.toNat * n))) (u.toNat - l.toNat) (m.toNat - l.toNat)) (fun w => ?_) (base _ _ m.toNat (by omega) (by omega) (by omega) (by omega))
              rcases bnd_rel hmx hg 0 m (by simpa [bndA] using hm) with ⟨_, h, _⟩ | ⟨ym, km, rfl, hpm, gm⟩
              · cases h
              rcases bnd_rel hhi hg len u hu' with ⟨rfl, rfl, rfl⟩ | ⟨yh, kh, rfl, hph, gh⟩
              · simp at hhs
              rcases bnd_rel hlo hg 0 l hl with ⟨rfl, rfl, rfl⟩ | ⟨yl, kl, rfl, hpl, gl⟩
              · simp [execOp, ho, Instr.sliceAt, Instr.slice, Instr.sliceBounds, run_underlying hu, hgx, sizeOf, typeInfo, hti, hsz, gh, gm, run_bound (P := P) (w := w) (k := km) (i := m) (y := rc) (c := .slice3Acap) (by omega) (by omega),
                  run_bound (P := P) (w := w) (k := kh) (i := u) (y := m.toNat) (c := .slice3B) (by omega) (by omega)]
                split <;> simp_all
              · simp [execOp, ho, Instr.sliceAt, Instr.slice, Instr.sliceBounds, run_underlying hu, hgx, sizeOf, typeInfo, hti, hsz, gh, gm, gl, run_bound (P := P) (w := w) (k := km) (i := m) (y := rc) (c := .slice3Acap) (by omega) (by omega),
                  run_bound (P := P) (w := w) (k := kh) (i := u) (y := m.toNat) (c := .slice3B) (by omega) (by omega), run_bound (P := P) (w := w) (k := kl) (i := l) (y := u.toNat) (c := .slice3C) (by omega) (by omega)]
                split <;> simp_all
            · cases ha
          · cases ha
      · cases ha
    · cases ha
  · cases hp
end
end Go.Ab
