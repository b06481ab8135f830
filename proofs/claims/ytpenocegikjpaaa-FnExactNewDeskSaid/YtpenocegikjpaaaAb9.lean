/- Regions: in the text's order, and in whatever order. -/
import Derived.Test.YtpenocegikjpaaaAb8
import Derived.OrdersHeld
set_option linter.unusedSimpArgs false
set_option linter.unusedVariables false
namespace Go.Ab

structure SimA (n : Nat) (ρ : Rho) (tm : Nat → Value) (a : Act) : Prop where
  size : a.tmps.size = n
  vals : ∀ t, VR ρ (tm t) (a.tmps.getD t undef)
  dfr : a.defers = []

theorem SimA.mono {n : Nat} {ρ ρ' : Rho} {tm : Nat → Value} {a : Act} (s : SimA n ρ tm a) (he : Ext ρ ρ') : SimA n ρ' tm a := ⟨s.size, fun t => (s.vals t).mono he, s.dfr⟩

theorem SimA.gv {n : Nat} {ρ : Rho} {tm : Nat → Value} {a : Act} (s : SimA n ρ tm a) : GV ρ tm a.eval := by
  intro x p e
  cases x with
  | tmp t => simp [pO] at e; subst e; exact s.vals t
  | const v =>
    simp only [pO] at e
    split at e
    · rename_i hc; injection e with e; subst e; exact closed_refl hc
    · cases e
  | func f => simp [pO] at e; subst e; exact atom_refl rfl
  | global g => simp [pO] at e

theorem SimA.put {n : Nat} {ρ : Rho} {tm : Nat → Value} {a : Act} (s : SimA n ρ tm a) {d : Option Nat} (hd : (d.all fun d => d < n) = true) {v rv : Value} (hv : VR ρ v rv) : SimA n ρ (put tm d v) (a.put d rv) := by
  cases d with
  | none => exact s
  | some d =>
    simp at hd
    refine ⟨by simp [Act.put, s.size], fun t => ?_, s.dfr⟩
    simp only [Ab.put, upd, Act.put]
    by_cases ht : t = d
    · subst ht
      simp [Array.getD_eq_getD_getElem?, Array.getElem?_setIfInBounds, s.size, hd, hv]
    · have := s.vals t
      rw [if_neg ht]
      simpa [Array.getD_eq_getD_getElem?, Array.getElem?_setIfInBounds, Ne.symm ht, fun e : d = t => ht e.symm] using this

theorem want_eq {P : Program} {n : Nat} {ρ : Rho} {tm : Nat → Value} {a : Act} {ops : Array Oper} {o : Oper} {g : Option (Nat × Bool)} (s : SimA n ρ tm a) (hg : prepG ops o.guard = some g) : Region.wanted o (yielded ops a.tmps) = wantA tm g := by
  unfold Region.wanted
  cases ho : o.guard with
  | none => rw [ho] at hg; simp [prepG] at hg; subst hg; rfl
  | some jb =>
    obtain ⟨j, b⟩ := jb
    rw [ho] at hg
    simp only [prepG, bind, Option.bind_eq_some_iff] at hg
    obtain ⟨oj, h1, d, h2, hg⟩ := hg
    injection hg with hg; subst hg
    simp only [wantA, yielded, h1, h2, Option.bind_some]
    have hv := s.vals d
    rw [Array.getD_eq_getD_getElem?] at hv
    cases ht : a.tmps[d]? with
    | none =>
      rw [ht] at hv
      simp only [Option.getD_none, undef] at hv
      generalize tm d = x at hv
      cases hv
      simp
    | some u =>
      rw [ht] at hv
      simp only [Option.getD_some] at hv
      generalize tm d = x at hv
      cases hv <;> simp

/-- What a state of the calculus and a state of the machine share, since the function began. -/
structure Ok (n : Nat) (T : List Nat) (ρ0 : Rho) (h0 : Heap) (w0 : World) (ρ : Rho) (st : St) (a : Act) (w : World) : Prop where
  sa : SimA n ρ st.tm a
  sh : Sim ρ st.h w
  stp : Stp T ρ0 h0 w0 ρ st.h w

def Plain : Exit → Prop
  | .normal | .exit _ | .ret => True
  | _ => False

def Post (n : Nat) (T : List Nat) (ρ0 : Rho) (h0 : Heap) (w0 : World) (Q : Exit → St → Prop) (e : Exit) (a : Act) (w : World) : Prop := Plain e ∧ ∃ ρ st, Q e st ∧ Ok n T ρ0 h0 w0 ρ st a w

def MT (T : List Nat) (h0 : Heap) : Nat → Prop := fun i => i ∈ T ∨ h0.length ≤ i

section
variable {P : Program} {n : Nat} {T : List Nat} {ρ0 : Rho} {h0 : Heap} {w0 : World}

/-- One step of a region. -/
theorem step_sound {ops : Array Oper} {o : Oper} {s : PS} {ρ : Rho} {st : St} {a : Act} {w : World} {K : List Nat → St → Prop} {next : Act → World → Prop} {Q : Exit → Act → World → Prop} (s0 : Sim ρ0 h0 w0) (hp : prepS P n ops o = some s) (ok : Ok n T ρ0 h0 w0 ρ st a w)
    (hx : XS P (MT T h0) s st K)
    (hk : ∀ T2 st' ρ' a' w', K T2 st' → Ok n T ρ0 h0 w0 ρ' st' a' w' → Stp T2 ρ st.h w ρ' st'.h w' → next a' w') :
    if Region.wanted o (yielded ops a.tmps) then o.wp P a w next Q ∨ (o.asks P a w ∧ LetsOut Q) else next (a.put o.dst undef) w := by
  simp only [prepS, bind, Option.bind_eq_some_iff] at hp
  obtain ⟨g, hg, hp⟩ := hp
  have hwant := want_eq (P := P) ok.sa hg
  split at hp
  · rename_i hd
    have skip : ∀ (hw : wantA st.tm g = false), K [] ⟨put st.tm o.dst undef, st.h⟩ → next (a.put o.dst undef) w := fun _ hK =>
      hk [] _ ρ _ w hK ⟨ok.sa.put hd (.undef ρ), ok.sh, ok.stp⟩ (.refl [] ρ st.h w)
    cases hc : calOf o.op with
    | some fx =>
      obtain ⟨f', xs'⟩ := fx
      simp only [hc, Option.bind_eq_some_iff] at hp
      obtain ⟨f, h1, xs, h2, hp⟩ := hp
      injection hp with hp; subst hp
      simp only [XS] at hx
      rw [hwant]
      split at hx
      · rename_i hw
        rw [if_pos hw]
        obtain ⟨fn, ys, zs, T2, Q2, hf, hT2, ⟨⟨fd, hfd, hbody, hname⟩, hac⟩, hq⟩ := hx
        obtain ⟨rargs, hrun, hargs⟩ := call_sound (w := w) hc h1 h2 ok.sa.gv hf hfd hbody hname
        refine .inl ?_
        unfold Oper.wp
        rw [hrun]
        simp only [Oper.upon]
        refine (hac ρ w rargs ok.sh hargs).mono ?_
        rintro e w' ⟨rv, r, h', ρ', rfl, hQ, hv, hs', hst⟩
        exact hk T2 _ ρ' _ w' (hq r h' hQ) ⟨(ok.sa.mono hst.ext).put hd hv, hs', ok.stp.trans s0 ok.sh hst hT2⟩ hst
      · rename_i hw
        rw [if_neg hw]
        exact skip (by simpa using hw) hx
    | none =>
      simp only [hc, Option.bind_eq_some_iff] at hp
      obtain ⟨po, h1, hp⟩ := hp
      injection hp with hp; subst hp
      simp only [XS] at hx
      rw [hwant]
      split at hx
      · rename_i hw
        rw [if_pos hw]
        obtain ⟨T2, v, h', ha, hT2, hK⟩ := hx
        obtain ⟨nx, w', ρ', rv, hrun, hnx, hv, hs', hst⟩ := op_sound (w := w) h1 ha ok.sa.gv ok.sh
        have fin := hk T2 _ ρ' (a.put o.dst rv) w' hK ⟨(ok.sa.mono hst.ext).put hd hv, hs', ok.stp.trans s0 ok.sh hst hT2⟩ hst
        refine .inl ?_
        unfold Oper.wp
        rw [hrun]
        rcases hnx with rfl | ⟨rfl, rfl⟩ <;> exact fin
      · rename_i hw
        rw [if_neg hw]
        exact skip (by simpa using hw) hx
  · cases hp

theorem rg_sound {ops : Array Oper} {Q : Exit → St → Prop} (s0 : Sim ρ0 h0 w0) : ∀ (ss : List PS) (k : Nat) (ρ : Rho) (st : St) (a : Act) (w : World),
    (∀ (j : Nat) s, ss[j]? = some s → ∃ o, ops[k + j]? = some o ∧ prepS P n ops o = some s) → Ok n T ρ0 h0 w0 ρ st a w → XR P (MT T h0) ss st (Q .normal) →
    wpOps P ops (Post n T ρ0 h0 w0 Q) (List.range' k ss.length) a w
  | [], k, ρ, st, a, w, _, ok, hx => ⟨trivial, ρ, st, hx, ok⟩
  | s :: ss, k, ρ, st, a, w, hs, ok, hx => by
    obtain ⟨o, ho, hp⟩ := hs 0 s rfl
    simp only [Nat.add_zero] at ho
    simp only [List.length_cons, List.range'_succ, wpOps, ho]
    have := step_sound (Q := Post n T ρ0 h0 w0 Q) (next := wpOps P ops (Post n T ρ0 h0 w0 Q) (List.range' (k + 1) ss.length)) s0 hp ok hx (fun T2 st' ρ' a' w' hK ok' _ =>
      rg_sound s0 ss (k + 1) ρ' st' a' w' (fun j s' hj => by
        obtain ⟨o', h1, h2⟩ := hs (j + 1) s' (by simpa using hj)
        exact ⟨o', by rw [← h1]; congr 1; omega, h2⟩) ok' hK)
    exact this
end
end Go.Ab
