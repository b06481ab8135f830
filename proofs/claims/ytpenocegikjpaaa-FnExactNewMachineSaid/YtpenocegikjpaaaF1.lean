/- Joined texts. -/
import Derived.Test.YtpenocegikjpaaaChecked
import Derived.KernelRfl
import Derived.ChangeSame
import Derived.Shelf.Spec.SlicesGrow
import Derived.Test.YtpenocegikjpaaaP2
/- Contracts of the laws' helpers over rows. -/
set_option linter.unusedSimpArgs false
set_option linter.unusedVariables false
set_option maxHeartbeats 1000000
namespace Go.Proofs.Ytpenocegikjpaaa
open Go.Ab

theorem szIntS_ac {w : Bool} {h : Heap} {v : Value} {l : List Int} {L : List Nat} (r : RL w EI h v l L) (k : Int) (hk : 0 ≤ k ∧ k ≤ 1048576) : AC Try.prog 96 [v, .int .i64 k] h [] fun r h' => r = .int .i64 (if k < l.length then -1 else k - l.length) ∧ h' = h := by
  have hb := r.bd
  unfold big at hb
  refine ac96 (by simp -implicitDefEqProofs [p96]) ?_
  simp -implicitDefEqProofs [p96, r.len]
  rw [wrap_in (by omega)]
  refine cdK_of ?_ ?_
  · intro hn
    simp at hn
    simp [show k < l.length by omega]
  · intro hn
    simp at hn
    simp [show ¬ k < l.length by omega]

theorem szMatrixS_ac {w : Bool} {h : Heap} {v : Value} {l : List Mx} {L : List Nat} (r : RL w EX h v l L) (k : Int) (hk : 0 ≤ k ∧ k ≤ 1048576) : AC Try.prog 85 [v, .int .i64 k] h [] fun r h' => r = .int .i64 (if k < l.length then -1 else k - l.length) ∧ h' = h := by
  have hb := r.bd
  unfold big at hb
  refine ac85 (by simp -implicitDefEqProofs [p85]) ?_
  simp -implicitDefEqProofs [p85, r.len]
  rw [wrap_in (by omega)]
  refine cdK_of ?_ ?_
  · intro hn
    simp at hn
    simp [show k < l.length by omega]
  · intro hn
    simp at hn
    simp [show ¬ k < l.length by omega]

theorem eqIntS_ac {w w' : Bool} {h : Heap} {va vb : Value} {a b : List Int} {LA LB : List Nat} (ha : RL w EI h va a LA) (hb : RL w' EI h vb b LB) : AC Try.prog 29 [va, vb] h [] fun r h' => r = .bool (decide (a = b)) ∧ h' = h := by
  refine ac29 (by simp -implicitDefEqProofs [p29]) ?_
  simp -implicitDefEqProofs [p29, ha.len, hb.len]
  refine cdK_of ?_ ?_
  · intro hn
    simp at hn
    have : a ≠ b := fun e => hn (by rw [e])
    simp [this]
  intro hn
  simp at hn
  simp -implicitDefEqProofs
  refine forUp f29_0 (.refl _ _) a.length ha.bd (by simp) (fun k s h1 => h1 = h ∧ a.take k = b.take k) (by simp) ?_ ?_ ?_
  · rintro k s h1 hk hi ⟨rfl, _⟩ _
    simp -implicitDefEqProofs [C29_0, K29_0, L29_0, hi, ha.len]
  · rintro k s s2 h1 hlt hi ⟨rfl, heq⟩ _
    obtain ⟨i, o, ea, la, _⟩ := ha.atI hlt
    obtain ⟨j, p, eb, lb, _⟩ := hb.atI (k := k) (by omega)
    simp -implicitDefEqProofs [b29_0, K29_0, L29_0, hi, ea, eb, la, lb]
    refine cdK_of ?_ ?_
    · intro hne
      simp at hne
      have : a ≠ b := fun e => hne (by simp [e])
      simp [this]
    · intro he
      simp at he
      simp -implicitDefEqProofs
      exact take_step hlt (by omega) heq he
  · rintro s s2 h1 hi ⟨rfl, heq⟩ _
    have : a = b := by rw [List.take_length] at heq; rw [heq, show a.length = b.length by omega, List.take_length]
    simp [this]

theorem toIntS_ac {w : Bool} {h : Heap} {v : Value} {l : List Int} {L : List Nat} (r : RL w EI h v l L) (hl : l.length ≤ 1048576) : AC Try.prog 99 [v] h [] fun r h' => ∃ L', RL true EI h' r l L' ∧ L'.Nodup ∧ ∀ i ∈ L', h.length ≤ i := by
  refine ac99 (by simp -implicitDefEqProofs [p99]) ?_
  simp -implicitDefEqProofs [p99, r.len, mksV]
  rw [if_pos (by omega)]
  simp -implicitDefEqProofs
  have z : reps [Value.int .i64 0] l.length = EI.cs (List.replicate l.length 0) := flat_reps (E := EI) (a := 0) rfl _
  rw [z]
  have r0 := RL.new (E := EI) (h := h) (l := List.replicate l.length 0) (c := l.length) (by have := r.bd; simpa using this)
  simp at r0
  refine forUp f99_0 (.app _ _ _) l.length r.bd (by simp) (fun k s h1 => s 3 = .slice (some ⟨h.length, 0, none⟩) l.length l.length ∧ RL true EI h1 (.slice (some ⟨h.length, 0, none⟩) l.length l.length) (l.take k ++ List.replicate (l.length - k) 0) [h.length])
    (by simp; exact r0) ?_ ?_ ?_
  · rintro k s h1 hk hi ⟨h3, rr⟩ kp
    simp -implicitDefEqProofs [C99_0, K99_0, L99_0, hi, r.len]
  · rintro k s s2 h1 hlt hi ⟨h3, rr⟩ kp
    obtain ⟨i, o, ea, la, _⟩ := (r.kp0 kp).atI hlt
    obtain ⟨j, p, h2, eb, e1, e2, e3, ej, _⟩ := rr.putI (k := k) (by simp; omega) l[k]
    simp at ej
    subst ej
    simp -implicitDefEqProofs [b99_0, K99_0, L99_0, hi, ea, la, h3, eb, e1]
    rw [fill_step' hlt] at e2
    exact e2
  · rintro s s2 h1 hi ⟨h3, rr⟩ kp
    simp -implicitDefEqProofs [K99_0, L99_0, h3]
    simp at rr
    exact ⟨_, rr, by simp, by simp⟩

theorem markIntS_ac {h : Heap} {v : Value} {l : List Int} {L : List Nat} (r : RL true EI h v l L) (k0 : Int) (hk0 : 0 ≤ k0 ∧ k0 + l.length ≤ 4611686018427387904) : AC Try.prog 32 [v, .int .i64 k0] h L fun r h' => r = .int .i64 (k0 + l.length) ∧ RL true EI h' v (iota k0 l.length) L := by
  refine ac32 (by simp -implicitDefEqProofs [p32]) ?_
  simp -implicitDefEqProofs [p32]
  refine forUp f32_0 (.refl _ _) l.length r.bd (by simp) (fun k s h1 => s 1 = .int .i64 (k0 + k) ∧ RL true EI h1 v ((iota k0 l.length).take k ++ l.drop k) L) (by simpa using r) ?_ ?_ ?_
  · rintro k s h1 hk hi ⟨h2, rr⟩ _
    have e : ((iota k0 l.length).take k ++ l.drop k).length = l.length := by simp; omega
    simp -implicitDefEqProofs [C32_0, K32_0, L32_0, hi, rr.len]
    omega
  · rintro k s s2 h1 hlt hi ⟨hs1, rr⟩ kp
    obtain ⟨i, o, h2, e1, e2, e3, e4, e5, _⟩ := rr.putI (k := k) (by simp; omega) (k0 + k)
    subst e5
    simp -implicitDefEqProofs [b32_0, K32_0, L32_0, hi, hs1, e1, e2]
    refine ⟨.inl (by simp), ?_, ?_⟩
    · rw [wrap_in (by omega)]; omega
    · have := over_step (l := l) (m := iota k0 l.length) (by simp) hlt
      rw [iota_at] at this
      rw [← this]; exact e3
  · rintro s s2 h1 hi ⟨hs1, rr⟩ kp
    simp at rr
    simp -implicitDefEqProofs [K32_0, L32_0, hs1]
    rw [List.take_of_length_le (by simp)] at rr
    exact rr

theorem heldIntS_ac {w : Bool} {h : Heap} {v : Value} {n : Nat} {k0 : Int} {L : List Nat} (r : RL w EI h v (iota k0 n) L) (hk0 : 0 ≤ k0 ∧ k0 + n ≤ 4611686018427387904) : AC Try.prog 33 [v, .int .i64 k0] h [] fun r h' => r = .int .i64 (k0 + n) ∧ h' = h := by
  refine ac33 (by simp -implicitDefEqProofs [p33]) ?_
  simp -implicitDefEqProofs [p33]
  refine forUp f33_0 (.refl _ _) n (by have := r.bd; simpa using this) (by simp) (fun k s h1 => s 1 = .int .i64 (k0 + k) ∧ h1 = h) (by simp) ?_ ?_ ?_
  · rintro k s h1 hk hi ⟨h2, rfl⟩ _
    simp -implicitDefEqProofs [C33_0, K33_0, L33_0, hi, r.len]
  · rintro k s s2 h1 hlt hi ⟨hs1, rfl⟩ kp
    obtain ⟨i, o, e1, e2, _⟩ := r.atI (k := k) (by simpa using hlt)
    simp -implicitDefEqProofs [b33_0, K33_0, L33_0, hi, hs1, e1, e2, iota_at]
    rw [wrap_in (by omega)]; omega
  · rintro s s2 h1 hi ⟨hs1, rfl⟩ kp
    simp -implicitDefEqProofs [K33_0, L33_0, hs1]
end Go.Proofs.Ytpenocegikjpaaa

/- Contracts of the laws' helpers over rows of pairs. -/
set_option linter.unusedSimpArgs false
set_option linter.unusedVariables false
set_option maxHeartbeats 1000000
namespace Go.Proofs.Ytpenocegikjpaaa
open Go.Ab

theorem toMatrix_ac {h : Heap} (a b : Int) : AC Try.prog 132 [.agg #[.int .i64 a, .int .i64 b]] h [] fun r h' => r = .agg #[.int .i64 a, .int .i64 b] ∧ h' = h := by
  refine AC_v rfl ?_
  refine ac132 (by simp -implicitDefEqProofs [p132]) ?_
  simp -implicitDefEqProofs [p132, strV, resA1]

theorem toMatrixS_ac {w : Bool} {h : Heap} {v : Value} {l : List Mx} {L : List Nat} (r : RL w EX h v l L) (hl : l.length ≤ 1048576) : AC Try.prog 88 [v] h [] fun r h' => ∃ L', RL true EX h' r l L' ∧ L'.Nodup ∧ ∀ i ∈ L', h.length ≤ i := by
  refine ac88 (by simp -implicitDefEqProofs [p88]) ?_
  simp -implicitDefEqProofs [p88, r.len, mksV]
  rw [if_pos (by omega)]
  simp -implicitDefEqProofs
  have z : reps [Value.int .i64 0, .int .i64 0] l.length = EX.cs (List.replicate l.length (0, 0)) := flat_reps (E := EX) (a := (0, 0)) rfl _
  rw [z]
  have r0 := RL.new (E := EX) (h := h) (l := List.replicate l.length (0, 0)) (c := l.length) (by have := r.bd; simpa using this)
  simp at r0
  refine forUp f88_0 (.app _ _ _) l.length r.bd (by simp) (fun k s h1 => s 3 = .slice (some ⟨h.length, 0, none⟩) l.length l.length ∧ RL true EX h1 (.slice (some ⟨h.length, 0, none⟩) l.length l.length) (l.take k ++ List.replicate (l.length - k) (0, 0)) [h.length])
    (by simp; exact r0) ?_ ?_ ?_
  · rintro k s h1 hk hi ⟨h3, rr⟩ kp
    simp -implicitDefEqProofs [C88_0, K88_0, L88_0, hi, r.len]
  · rintro k s s2 h1 hlt hi ⟨h3, rr⟩ kp
    obtain ⟨i, o, ea, la, _⟩ := (r.kp0 kp).atX hlt
    obtain ⟨j, p, h2, eb, e1, e2, e3, ej, _⟩ := rr.putX (k := k) (by simp; omega) l[k].1 l[k].2
    simp at ej
    subst ej
    simp -implicitDefEqProofs [b88_0, K88_0, L88_0, hi, ea, la, h3]
    refine call1 (toMatrix_ac _ _) ?_
    simp [eb, e1, h3]
    rw [fill_step' hlt] at e2
    exact e2
  · rintro s s2 h1 hi ⟨h3, rr⟩ kp
    simp -implicitDefEqProofs [K88_0, L88_0, h3]
    simp at rr
    exact ⟨_, rr, by simp, by simp⟩

theorem eqMatrix_ac {h : Heap} (a b c d : Int) : AC Try.prog 134 [.agg #[.int .i64 a, .int .i64 b], .agg #[.int .i64 c, .int .i64 d]] h [] fun r h' => r = .bool (decide ((a, b) = (c, d))) ∧ h' = h := by
  refine AC_v rfl ?_
  refine ac134 (by simp -implicitDefEqProofs [p134]) ?_
  simp -implicitDefEqProofs [p134]
  refine cdK_of ?_ ?_
  · intro hn
    simp at hn
    simp [hn]
  intro hn
  simp at hn
  simp -implicitDefEqProofs
  refine cdK_of ?_ ?_
  · intro hn
    simp at hn
    simp [hn]
  · intro hm
    simp at hm
    simp [hm, hn]

theorem eqMatrixS_ac {w w' : Bool} {h : Heap} {va vb : Value} {a b : List Mx} {LA LB : List Nat} (ha : RL w EX h va a LA) (hb : RL w' EX h vb b LB) : AC Try.prog 93 [va, vb] h [] fun r h' => r = .bool (decide (a = b)) ∧ h' = h := by
  refine ac93 (by simp -implicitDefEqProofs [p93]) ?_
  simp -implicitDefEqProofs [p93, ha.len, hb.len]
  refine cdK_of ?_ ?_
  · intro hn
    simp at hn
    have : a ≠ b := fun e => hn (by rw [e])
    simp [this]
  intro hn
  simp at hn
  simp -implicitDefEqProofs
  refine forUp f93_0 (.refl _ _) a.length ha.bd (by simp) (fun k s h1 => h1 = h ∧ a.take k = b.take k) (by simp) ?_ ?_ ?_
  · rintro k s h1 hk hi ⟨rfl, _⟩ _
    simp -implicitDefEqProofs [C93_0, K93_0, L93_0, hi, ha.len]
  · rintro k s s2 h1 hlt hi ⟨rfl, heq⟩ _
    obtain ⟨i, o, ea, la, _⟩ := ha.atX hlt
    obtain ⟨j, p, eb, lb, _⟩ := hb.atX (k := k) (by omega)
    simp -implicitDefEqProofs [b93_0, K93_0, L93_0, hi, ea, eb, la, lb]
    refine call1 (eqMatrix_ac _ _ _ _) ?_
    simp -implicitDefEqProofs
    refine cdK_of ?_ ?_
    · intro hne
      simp at hne
      have : a ≠ b := fun e => by subst e; simp at hne
      simp [this]
    · intro he
      simp at he
      simp -implicitDefEqProofs
      exact take_step hlt (by omega) heq (Prod.ext he.1 he.2)
  · rintro s s2 h1 hi ⟨rfl, heq⟩ _
    have : a = b := by rw [List.take_length] at heq; rw [heq, show a.length = b.length by omega, List.take_length]
    simp [this]

theorem eqMatrixSS_ac {w w' : Bool} {h : Heap} {va vb : Value} {a b : List (List Mx)} {LA LB : List Nat} (ha : RXX w h va a LA) (hb : RXX w' h vb b LB) : AC Try.prog 91 [va, vb] h [] fun r h' => r = .bool (decide (a = b)) ∧ h' = h := by
  refine ac91 (by simp -implicitDefEqProofs [p91]) ?_
  simp -implicitDefEqProofs [p91, ha.len, hb.len]
  refine cdK_of ?_ ?_
  · intro hn
    simp at hn
    have : a ≠ b := fun e => hn (by rw [e])
    simp [this]
  intro hn
  simp at hn
  simp -implicitDefEqProofs
  refine forUp f91_0 (.refl _ _) a.length ha.bd (by simp) (fun k s h1 => h1 = h ∧ a.take k = b.take k) (by simp) ?_ ?_ ?_
  · rintro k s h1 hk hi ⟨rfl, _⟩ _
    simp -implicitDefEqProofs [C91_0, K91_0, L91_0, hi, ha.len]
  · rintro k s s2 h1 hlt hi ⟨rfl, heq⟩ _
    obtain ⟨i, o, u, _, ea, la, ru, _⟩ := ha.at hlt
    obtain ⟨j, p, u', _, eb, lb, ru', _⟩ := hb.at (k := k) (by omega)
    simp -implicitDefEqProofs [b91_0, K91_0, L91_0, hi, ea, eb, la, lb]
    refine call1 (eqMatrixS_ac ru ru') ?_
    simp -implicitDefEqProofs
    refine cdK_of ?_ ?_
    · intro hne
      simp at hne
      have : a ≠ b := fun e => by subst e; simp at hne
      simp [this]
    · intro he
      simp at he
      simp -implicitDefEqProofs
      exact take_step hlt (by omega) heq he
  · rintro s s2 h1 hi ⟨rfl, heq⟩ _
    have : a = b := by rw [List.take_length] at heq; rw [heq, show a.length = b.length by omega, List.take_length]
    simp [this]

theorem markMatrixS_ac {h : Heap} {v : Value} {l : List Mx} {L : List Nat} (r : RL true EX h v l L) (k0 : Int) (hk0 : 0 ≤ k0 ∧ k0 + 2 * l.length ≤ 4611686018427387904) : AC Try.prog 95 [v, .int .i64 k0] h L fun r h' => r = .int .i64 (k0 + 2 * l.length) ∧ RL true EX h' v (iotaX k0 l.length) L := by
  refine ac95 (by simp -implicitDefEqProofs [p95]) ?_
  simp -implicitDefEqProofs [p95]
  refine forUp f95_0 (.refl _ _) l.length r.bd (by simp) (fun k s h1 => s 1 = .int .i64 (k0 + 2 * k) ∧ RL true EX h1 v ((iotaX k0 l.length).take k ++ l.drop k) L) (by simpa using r) ?_ ?_ ?_
  · rintro k s h1 hk hi ⟨h2, rr⟩ _
    have e : ((iotaX k0 l.length).take k ++ l.drop k).length = l.length := by simp; omega
    simp -implicitDefEqProofs [C95_0, K95_0, L95_0, hi, rr.len]
    omega
  · rintro k s s2 h1 hlt hi ⟨hs1, rr⟩ kp
    obtain ⟨i, o, h2, e1, e2, e3, e4, e5, _⟩ := rr.putX0 (k := k) (by simp; omega) (k0 + 2 * k)
    obtain ⟨i', o', h3, f1, f2, f3, f4, f5, _⟩ := e3.putX1 (k := k) (by simp; omega) (k0 + 2 * k + 1)
    subst e5
    simp at f5
    subst f5
    have : o' = o := by
      have := (e1 h1).symm.trans (f1 h1)
      simpa using this.symm
    subst this
    have w1 : IntKind.wrap .i64 (k0 + 2 * (k : Int) + 1) = k0 + 2 * k + 1 := wrap_in (by omega)
    have w2 : IntKind.wrap .i64 (k0 + 2 * (k : Int) + 1 + 1) = k0 + 2 * k + 2 := by rw [wrap_in (by omega)]; omega
    simp -implicitDefEqProofs [b95_0, K95_0, L95_0, hi, hs1, e1, e2, w1, f2, w2]
    refine ⟨.inl (by simp), by omega, ?_⟩
    have := over_step (l := l) (m := iotaX k0 l.length) (by simp) hlt
    rw [iotaX_at] at this
    rw [← this]; simpa using f3
  · rintro s s2 h1 hi ⟨hs1, rr⟩ kp
    simp at rr
    simp -implicitDefEqProofs [K95_0, L95_0, hs1]
    rw [List.take_of_length_le (by simp)] at rr
    exact rr

theorem heldMatrixS_ac {w : Bool} {h : Heap} {v : Value} {n : Nat} {k0 : Int} {L : List Nat} (r : RL w EX h v (iotaX k0 n) L) (hk0 : 0 ≤ k0 ∧ k0 + 2 * n ≤ 4611686018427387904) : AC Try.prog 103 [v, .int .i64 k0] h [] fun r h' => r = .int .i64 (k0 + 2 * n) ∧ h' = h := by
  refine ac103 (by simp -implicitDefEqProofs [p103]) ?_
  simp -implicitDefEqProofs [p103]
  refine forUp f103_0 (.refl _ _) n (by have := r.bd; simpa using this) (by simp) (fun k s h1 => s 1 = .int .i64 (k0 + 2 * k) ∧ h1 = h) (by simp) ?_ ?_ ?_
  · rintro k s h1 hk hi ⟨h2, rfl⟩ _
    simp -implicitDefEqProofs [C103_0, K103_0, L103_0, hi, r.len]
  · rintro k s s2 h1 hlt hi ⟨hs1, rfl⟩ kp
    obtain ⟨i, o, e1, _, e2, e3, _⟩ := r.atX (k := k) (by simpa using hlt)
    have w1 : IntKind.wrap .i64 (k0 + 2 * (k : Int) + 1) = k0 + 2 * k + 1 := wrap_in (by omega)
    have w2 : IntKind.wrap .i64 (k0 + 2 * (k : Int) + 1 + 1) = k0 + 2 * k + 2 := by rw [wrap_in (by omega)]; omega
    simp -implicitDefEqProofs [b103_0, K103_0, L103_0, hi, hs1, e1, e2, e3, iotaX_at, w1, w2]
    omega
  · rintro s s2 h1 hi ⟨hs1, rfl⟩ kp
    simp -implicitDefEqProofs [K103_0, L103_0, hs1]
end Go.Proofs.Ytpenocegikjpaaa

/- Contracts of the laws' helpers over fonts and machines. -/
set_option linter.unusedSimpArgs false
set_option linter.unusedVariables false
set_option maxHeartbeats 1000000
namespace Go.Proofs.Ytpenocegikjpaaa
open Go.Ab

theorem szMatrixSS_ac {w : Bool} {h : Heap} {v : Value} {l : List (List Mx)} {L : List Nat} (r : RXX w h v l L) (k : Int) (hk : 0 ≤ k ∧ k ≤ 1048576) : AC Try.prog 84 [v, .int .i64 k] h [] fun r h' => r = .int .i64 (if k < szXX l then -1 else k - szXX l) ∧ h' = h := by
  have hb := r.bd
  unfold big at hb
  refine ac84 (by simp [p84]) ?_
  simp -implicitDefEqProofs [p84, r.len]
  rw [wrap_in (by omega)]
  refine cdK_of ?_ ?_
  · intro hn
    simp at hn
    have : k < szXX l := by unfold szXX; omega
    simp -implicitDefEqProofs [this]
  intro hn
  simp at hn
  simp -implicitDefEqProofs
  refine forUp f84_0 (.refl _ _) l.length r.bd (by simp) (fun j s h1 => h1 = h ∧ s 1 = .int .i64 (k - l.length - ((l.map List.length).take j).sum) ∧ (0 : Int) ≤ k - l.length - ((l.map List.length).take j).sum) (by simp; omega) ?_ ?_ ?_
  · rintro j s h1 hj hi ⟨rfl, h2, _⟩ _
    simp -implicitDefEqProofs [C84_0, K84_0, L84_0, hi, r.len]
  · rintro j s s2 h1 hlt hi ⟨rfl, h2, h3⟩ _
    obtain ⟨i, o, u, _, ea, la, ru, _⟩ := r.at hlt
    have hs := sum_take_succ (l.map List.length) (k := j) (by simpa using hlt)
    simp only [List.getElem_map] at hs
    simp -implicitDefEqProofs [b84_0, K84_0, L84_0, hi, ea, la, h2]
    refine call1 (szMatrixS_ac ru _ ⟨h3, by omega⟩) ?_
    simp -implicitDefEqProofs
    have hle := sum_take_le (l.map List.length) (j + 1)
    refine cdK_of ?_ ?_
    · intro hne
      simp only [decide_eq_true_eq] at hne
      have : k < szXX l := by
        unfold szXX
        split at hne <;> omega
      simp -implicitDefEqProofs [this]
    · intro he
      simp only [decide_eq_false_iff_not] at he
      split at he
      · omega
      · rename_i hx
        simp -implicitDefEqProofs
        rw [if_neg hx, hs]
        omega
  · rintro s s2 h1 hi ⟨rfl, h2, h3⟩ _
    rw [List.take_of_length_le (by simp)] at h2 h3
    have : ¬ k < szXX l := by unfold szXX; omega
    simp -implicitDefEqProofs [K84_0, L84_0, h2, this]
    unfold szXX; omega

theorem szFont_ac {w : Bool} {h : Heap} {F : Fnt} {vW vC : Value} {LW LC : List Nat} (r : RF w h F vW vC LW LC) (k : Int) (hk : 0 ≤ k ∧ k ≤ 1048576) (hs : F.letters.size ≤ 9223372036854775807) : AC Try.prog 34 [fval F vW vC, .int .i64 k] h [] fun r h' => r = .int .i64 (if k < szF F then -1 else k - szF F) ∧ h' = h := by
  refine AC_v rfl ?_
  refine ac34 (by simp [p34]) ?_
  simp -implicitDefEqProofs [p34, fval, fcells, r.rW.one, r.rC.one]
  rw [wrap_in (by omega)]
  refine cdK_of ?_ ?_
  · intro hn
    simp at hn
    have : k < szF F := by unfold szF; omega
    simp -implicitDefEqProofs [this]
  intro hn
  simp at hn
  simp -implicitDefEqProofs
  refine call1 (szIntS_ac (r.kp0 (.app _ _ _)).rW _ (by omega)) ?_
  simp -implicitDefEqProofs
  refine cdK_of ?_ ?_
  · intro hn
    simp only [decide_eq_true_eq] at hn
    have : k < szF F := by unfold szF; split at hn <;> omega
    simp -implicitDefEqProofs [this]
  intro hn
  simp only [decide_eq_false_iff_not] at hn
  split at hn
  · omega
  rename_i hx
  simp -implicitDefEqProofs [hx]
  refine call1 (szIntS_ac (r.kp0 (.app _ _ _)).rC _ (by omega)) ?_
  simp -implicitDefEqProofs
  refine cdK_of ?_ ?_
  · intro hn
    simp only [decide_eq_true_eq] at hn
    have : k < szF F := by unfold szF; split at hn <;> omega
    simp -implicitDefEqProofs [this]
  intro hn
  simp only [decide_eq_false_iff_not] at hn
  split at hn
  · omega
  rename_i hy
  have : ¬ k < szF F := by unfold szF; omega
  simp -implicitDefEqProofs [this, hx, hy]
  unfold szF; omega

theorem szMachine_ac {w : Bool} {h : Heap} {M : Mch} {vW vC vM vL vQ : Value} {LW LC LM LL LQ : List Nat} (r : RM w h M vW vC vM vL vQ LW LC LM LL LQ) (k : Int) (hk : 0 ≤ k ∧ k ≤ 1048576) (hs : M.font.letters.size ≤ 9223372036854775807) : AC Try.prog 25 [mval M vW vC vM vL vQ, .int .i64 k] h [] fun r h' => r = .int .i64 (if k < szM M then -1 else k - szM M) ∧ h' = h := by
  refine AC_v rfl ?_
  refine ac25 (by simp [p25]) ?_
  simp -implicitDefEqProofs [p25, mval, mcells, r.rW.one, r.rC.one, r.rM.one, r.rL.one, r.rQ.one]
  have r' := r.kp0 (.app [] h [some ⟨mcells M vW vC vM vL vQ, 10, true⟩])
  refine call1 (szFont_ac r'.rF k hk hs) ?_
  simp -implicitDefEqProofs
  refine cdK_of ?_ ?_
  · intro hn
    simp only [decide_eq_true_eq] at hn
    have : k < szM M := by unfold szM; split at hn <;> omega
    simp -implicitDefEqProofs [this]
  intro hn
  simp only [decide_eq_false_iff_not] at hn
  split at hn
  · omega
  rename_i hx
  simp -implicitDefEqProofs [hx]
  refine call1 (szMatrixSS_ac r'.rM _ (by omega)) ?_
  simp -implicitDefEqProofs
  refine cdK_of ?_ ?_
  · intro hn
    simp only [decide_eq_true_eq] at hn
    have : k < szM M := by unfold szM; split at hn <;> omega
    simp -implicitDefEqProofs [this]
  intro hn
  simp only [decide_eq_false_iff_not] at hn
  split at hn
  · omega
  rename_i hy
  simp -implicitDefEqProofs [hy]
  refine call1 (szMatrixS_ac r'.rL _ (by omega)) ?_
  simp -implicitDefEqProofs
  refine cdK_of ?_ ?_
  · intro hn
    simp only [decide_eq_true_eq] at hn
    have : k < szM M := by unfold szM; split at hn <;> omega
    simp -implicitDefEqProofs [this]
  intro hn
  simp only [decide_eq_false_iff_not] at hn
  split at hn
  · omega
  rename_i hz
  simp -implicitDefEqProofs [hz]
  refine call1 (szMatrixS_ac r'.rQ _ (by omega)) ?_
  simp -implicitDefEqProofs
  refine cdK_of ?_ ?_
  · intro hn
    simp only [decide_eq_true_eq] at hn
    have : k < szM M := by unfold szM; split at hn <;> omega
    simp -implicitDefEqProofs [this]
  intro hn
  simp only [decide_eq_false_iff_not] at hn
  split at hn
  · omega
  rename_i hq
  have : ¬ k < szM M := by unfold szM; omega
  simp -implicitDefEqProofs [this, hq]
  unfold szM; omega

theorem toMeasure_ac {h : Heap} (S : Msr) : AC Try.prog 37 [S.v] h [] fun r h' => r = S.v ∧ h' = h := by
  refine AC_v rfl ?_
  refine ac37 (by simp [p37]) ?_
  simp -implicitDefEqProofs [p37, strV, resA1, Msr.v]

theorem eqMeasure_ac {h : Heap} (S S' : Msr) : AC Try.prog 92 [S.v, S'.v] h [] fun r h' => r = .bool (decide (S = S')) ∧ h' = h := by
  refine AC_v rfl ?_
  refine ac92 (by simp [p92]) ?_
  simp -implicitDefEqProofs [p92, Msr.v]
  refine cdK_of ?_ ?_
  · intro hn
    simp at hn
    have : S ≠ S' := fun e => hn (by rw [e])
    simp -implicitDefEqProofs [this]
  intro h1
  simp at h1
  simp -implicitDefEqProofs
  refine cdK_of ?_ ?_
  · intro hn
    simp at hn
    have : S ≠ S' := fun e => hn (by rw [e])
    simp -implicitDefEqProofs [this]
  intro h2
  simp at h2
  simp -implicitDefEqProofs
  refine cdK_of ?_ ?_
  · intro hn
    simp at hn
    have : S ≠ S' := fun e => hn (by rw [e])
    simp -implicitDefEqProofs [this]
  intro h3
  simp at h3
  have : S = S' := by cases S; cases S'; simp_all
  simp -implicitDefEqProofs [this]

theorem eqFont_ac {w w' : Bool} {h : Heap} {F F' : Fnt} {vW vC vW' vC' : Value} {LW LC LW' LC' : List Nat} (r : RF w h F vW vC LW LC) (r' : RF w' h F' vW' vC' LW' LC') :
    AC Try.prog 39 [fval F vW vC, fval F' vW' vC'] h [] fun r h' => r = .bool (decide (F = F')) ∧ h' = h := by
  refine AC_v rfl ?_
  refine ac39 (by simp [p39]) ?_
  simp -implicitDefEqProofs [p39, fval, fcells, r.rW.one, r.rC.one, r'.rW.one, r'.rC.one]
  refine cdK_of ?_ ?_
  · intro hn
    simp at hn
    have : F ≠ F' := fun e => hn (by rw [e])
    simp -implicitDefEqProofs [this]
  intro h1
  simp at h1
  simp -implicitDefEqProofs
  refine call1 (eqIntS_ac (r.kp0 (.app _ _ _)).rW (r'.kp0 (.app _ _ _)).rW) ?_
  simp -implicitDefEqProofs
  refine cdK_of ?_ ?_
  · intro hn
    simp at hn
    have : F ≠ F' := fun e => hn (by rw [e])
    simp -implicitDefEqProofs [this]
  intro h2
  simp at h2
  simp -implicitDefEqProofs
  refine call1 (eqIntS_ac (r.kp0 (.app _ _ _)).rC (r'.kp0 (.app _ _ _)).rC) ?_
  simp -implicitDefEqProofs
  refine cdK_of ?_ ?_
  · intro hn
    simp at hn
    have : F ≠ F' := fun e => hn (by rw [e])
    simp -implicitDefEqProofs [this]
  intro h3
  simp at h3
  have : F = F' := by cases F; cases F'; simp_all
  simp -implicitDefEqProofs [this]

theorem eqMachine_ac {w w' : Bool} {h : Heap} {M M' : Mch} {vW vC vM vL vQ vW' vC' vM' vL' vQ' : Value} {LW LC LM LL LQ LW' LC' LM' LL' LQ' : List Nat} (r : RM w h M vW vC vM vL vQ LW LC LM LL LQ) (r' : RM w' h M' vW' vC' vM' vL' vQ' LW' LC' LM' LL' LQ') :
    AC Try.prog 30 [mval M vW vC vM vL vQ, mval M' vW' vC' vM' vL' vQ'] h [] fun r h' => r = .bool (decide (M = M')) ∧ h' = h := by
  refine AC_v rfl ?_
  refine ac30 (by simp [p30]) ?_
  simp -implicitDefEqProofs [p30, mval, mcells, r.rW.one, r.rC.one, r.rM.one, r.rL.one, r.rQ.one, r'.rW.one, r'.rC.one, r'.rM.one, r'.rL.one, r'.rQ.one]
  have q := r.kp0 (.app [] h [some ⟨mcells M vW vC vM vL vQ, 10, true⟩, some ⟨mcells M' vW' vC' vM' vL' vQ', 10, true⟩])
  have q' := r'.kp0 (.app [] h [some ⟨mcells M vW vC vM vL vQ, 10, true⟩, some ⟨mcells M' vW' vC' vM' vL' vQ', 10, true⟩])
  refine call1 (eqFont_ac q.rF q'.rF) ?_
  simp -implicitDefEqProofs
  refine cdK_of ?_ ?_
  · intro hn
    simp at hn
    have : M ≠ M' := fun e => hn (by rw [e])
    simp -implicitDefEqProofs [this]
  intro h1
  simp at h1
  simp -implicitDefEqProofs
  refine call1 (eqMatrixSS_ac q.rM q'.rM) ?_
  simp -implicitDefEqProofs
  refine cdK_of ?_ ?_
  · intro hn
    simp at hn
    have : M ≠ M' := fun e => hn (by rw [e])
    simp -implicitDefEqProofs [this]
  intro h2
  simp at h2
  simp -implicitDefEqProofs
  refine cdK_of ?_ ?_
  · intro hn
    simp at hn
    have : M ≠ M' := fun e => hn (by rw [e])
    simp -implicitDefEqProofs [this]
  intro h3
  simp at h3
  simp -implicitDefEqProofs
  refine call1 (eqMeasure_ac M.msr M'.msr) ?_
  simp -implicitDefEqProofs
  refine cdK_of ?_ ?_
  · intro hn
    simp at hn
    have : M ≠ M' := fun e => hn (by rw [e])
    simp -implicitDefEqProofs [this]
  intro h4
  simp at h4
  simp -implicitDefEqProofs
  refine call1 (eqMatrixS_ac q.rL q'.rL) ?_
  simp -implicitDefEqProofs
  refine cdK_of ?_ ?_
  · intro hn
    simp at hn
    have : M ≠ M' := fun e => hn (by rw [e])
    simp -implicitDefEqProofs [this]
  intro h5
  simp at h5
  simp -implicitDefEqProofs
  refine call1 (eqMatrixS_ac q.rQ q'.rQ) ?_
  simp -implicitDefEqProofs
  refine cdK_of ?_ ?_
  · intro hn
    simp at hn
    have : M ≠ M' := fun e => hn (by rw [e])
    simp -implicitDefEqProofs [this]
  intro h6
  simp at h6
  have : M = M' := by cases M; cases M'; simp_all
  simp -implicitDefEqProofs [this]
end Go.Proofs.Ytpenocegikjpaaa

/- Contracts of the laws' helpers: copies, marks. -/
set_option linter.unusedSimpArgs false
set_option linter.unusedVariables false
set_option maxHeartbeats 1000000
namespace Go.Proofs.Ytpenocegikjpaaa
open Go.Ab

theorem toMatrixSS_ac {w : Bool} {h : Heap} {v : Value} {ll : List (List Mx)} {L : List Nat} (r : RXX w h v ll L) (hl : szXX ll ≤ 1048576) : AC Try.prog 87 [v] h [] fun r h' => NX h.length h' r ll := by
  have hln : ll.length ≤ 1048576 := by unfold szXX at hl; omega
  refine ac87 (by simp [p87]) ?_
  simp -implicitDefEqProofs [p87, r.len, mksV]
  rw [if_pos (by omega)]
  simp -implicitDefEqProofs
  have z : reps [Value.slice none 0 0] ll.length = EV.cs (List.replicate ll.length (.slice none 0 0)) := flat_reps (E := EV) (a := .slice none 0 0) rfl _
  rw [z]
  have r0 := RL.new (E := EV) (h := h) (l := List.replicate ll.length (.slice none 0 0)) (c := ll.length) (by have := r.bd; simpa using this)
  simp only [EV_es, List.length_replicate] at r0
  refine forUp f87_0 (.app _ _ _) ll.length r.bd (by simp) (fun k s h1 => s 3 = .slice (some ⟨h.length, 0, none⟩) ll.length ll.length ∧
      ∃ vs Ls, RL true EV h1 (.slice (some ⟨h.length, 0, none⟩) ll.length ll.length) (vs ++ List.replicate (ll.length - k) (.slice none 0 0)) [h.length] ∧ RLs true h1 vs (ll.take k) Ls ∧ Ls.flatten.Nodup ∧ ∀ i ∈ Ls.flatten, h.length < i)
    ⟨by simp, [], [], by simpa using r0, by simpa using RLs.nil, by simp, by simp⟩ ?_ ?_ ?_
  · rintro k s h1 hk hi ⟨h3, rr⟩ kp
    simp -implicitDefEqProofs [C87_0, K87_0, L87_0, hi, r.len]
  · rintro k s s2 h1 hlt hi ⟨h3, vs, Ls, rr, rs, nd, gt⟩ kp
    obtain ⟨i, o, u, L1, ea, la, ru, _⟩ := (r.kp0 kp).at hlt
    have hv : vs.length = k := by rw [rs.len.1]; simp; omega
    have hn1 := rr.lt h.length (by simp)
    simp -implicitDefEqProofs [b87_0, K87_0, L87_0, hi, ea, la, h3]
    refine call0 (toMatrixS_ac ru (Nat.le_trans (le_szXX hlt) hl)) ?_
    rintro r' h2 ⟨L', rr', nd', ge'⟩ kp2
    obtain ⟨j, p, h4, eb, e1, e2, e3, ej, _⟩ := (rr.kp0 kp2).putV (k := k) (by simp; omega) r' rr'.cells rr'.one
    simp at ej
    subst ej
    simp -implicitDefEqProofs [eb, e1, h3]
    rw [fill_app hv hlt] at e2
    refine ⟨_, e2, Ls ++ [L'], ?_, ?_, ?_⟩
    · rw [take_snoc hlt]
      exact ((rs.kp0' kp2).kp e3 fun i hi => by have := gt i hi; simp; omega).snoc (rr'.kp e3 fun i hi => by have := ge' i hi; simp; omega)
    · rw [flat_snoc]
      exact nodup_app nd nd' rs.lt ge'
    · intro i X hX hi
      rcases List.mem_append.1 hX with hX | hX
      · exact gt i (List.mem_flatten.2 ⟨_, hX, hi⟩)
      · simp at hX; subst hX; have := ge' i hi; omega
  · rintro s s2 h1 hi ⟨h3, vs, Ls, rr, rs, nd, gt⟩ kp
    simp -implicitDefEqProofs [K87_0, L87_0, h3]
    rw [List.take_length] at rs
    rw [Nat.sub_self, List.replicate_zero, List.append_nil] at rr
    refine ⟨[h.length] ++ Ls.flatten, ⟨vs, _, _, rr, rs, rfl⟩, ?_, ?_⟩
    · exact nodup_app (n := h.length + 1) (by simp) nd (by simp) gt
    · intro i hi
      rcases List.mem_append.1 hi with hi | hi
      · simp at hi; omega
      · have := gt i hi; omega

theorem markMatrixSS_ac {h : Heap} {v : Value} {ll : List (List Mx)} {L : List Nat} (r : RXX true h v ll L) (nd : L.Nodup) (k0 : Int) (hk0 : 0 ≤ k0 ∧ k0 + cntXX ll ≤ 4611686018427387904) :
    AC Try.prog 94 [v, .int .i64 k0] h L fun r h' => r = .int .i64 (k0 + cntXX ll) ∧ RXX true h' v (iotaXX k0 ll) L := by
  obtain ⟨vs, L0, Ls, r1, r2, rfl⟩ := r
  have hlen := r2.len
  rw [List.nodup_append] at nd
  obtain ⟨nd0, nds, dis⟩ := nd
  refine ac94 (by simp [p94]) ?_
  simp -implicitDefEqProofs [p94]
  refine forUp f94_0 (.refl _ _) ll.length (by rw [← hlen.1]; exact r1.bd) (by simp) (fun k s h1 => s 1 = .int .i64 (k0 + 2 * (((ll.map List.length).take k).sum : Nat)) ∧ RL true EV h1 v vs L0 ∧ RLs true h1 vs ((iotaXX k0 ll).take k ++ ll.drop k) Ls) (by simpa using ⟨r1, r2⟩) ?_ ?_ ?_
  · rintro k s h1 hk hi ⟨h2, rr, rs⟩ _
    simp -implicitDefEqProofs [C94_0, K94_0, L94_0, hi, rr.len, hlen.1]
  · rintro k s s2 h1 hlt hi ⟨hs1, rr, rs⟩ kp
    have hkv : k < vs.length := by omega
    have hkl : k < Ls.length := by omega
    obtain ⟨i, o, e1, e2, e3⟩ := rr.atV hkv
    have hat := rs.at (k := k) (by simp; omega)
    obtain ⟨_, _, hat⟩ := hat
    have hel : ((iotaXX k0 ll).take k ++ ll.drop k)[k]'(by simp; omega) = ll[k] := by
      rw [List.getElem_append_right (by simp; omega)]; simp [Nat.min_eq_left (Nat.le_of_lt hlt)]
    rw [hel] at hat
    have hs := sum_take_succ (ll.map List.length) (k := k) (by simpa using hlt)
    simp only [List.getElem_map] at hs
    have hle := sum_take_le (ll.map List.length) (k + 1)
    unfold cntXX at hk0
    simp -implicitDefEqProofs [b94_0, K94_0, L94_0, hi, hs1, e1, e2]
    refine callK (markMatrixS_ac hat _ ⟨by omega, by omega⟩) (fun i hi => .inl (List.mem_append_right _ (List.mem_flatten.2 ⟨_, List.getElem_mem hkl, hi⟩))) ?_
    rintro r' h2 ⟨rfl, hat2⟩ kp2
    simp -implicitDefEqProofs
    refine ⟨by rw [hs]; omega, rr.kp kp2 fun i hi hn => dis i hi i (List.mem_flatten.2 ⟨_, List.getElem_mem hkl, hn⟩) rfl, ?_⟩
    have := rs.upd nds (k := k) (by simp; omega) (v' := vs[k]) (L' := Ls[k]) (List.getElem?_eq_getElem hkv) (List.getElem?_eq_getElem hkl) kp2 hat2
    rw [← iotaXX_at, over_step (by simp) hlt] at this
    exact this
  · rintro s s2 h1 hi ⟨hs1, rr, rs⟩ kp
    rw [List.take_of_length_le (by simp)] at hs1
    rw [List.take_of_length_le (by simp), List.drop_length, List.append_nil] at rs
    simp -implicitDefEqProofs [K94_0, L94_0, hs1]
    exact ⟨by unfold cntXX; omega, vs, L0, Ls, rr, rs, rfl⟩

theorem heldMatrixSS_ac {w : Bool} {h : Heap} {v : Value} {ll : List (List Mx)} {k0 : Int} {L : List Nat} (r : RXX w h v (iotaXX k0 ll) L) (hk0 : 0 ≤ k0 ∧ k0 + cntXX ll ≤ 4611686018427387904) :
    AC Try.prog 102 [v, .int .i64 k0] h [] fun r h' => r = .int .i64 (k0 + cntXX ll) ∧ h' = h := by
  refine ac102 (by simp [p102]) ?_
  simp -implicitDefEqProofs [p102]
  refine forUp f102_0 (.refl _ _) ll.length (by have := r.bd; simpa using this) (by simp) (fun k s h1 => s 1 = .int .i64 (k0 + 2 * (((ll.map List.length).take k).sum : Nat)) ∧ h1 = h) (by simp) ?_ ?_ ?_
  · rintro k s h1 hk hi ⟨h2, rfl⟩ _
    simp -implicitDefEqProofs [C102_0, K102_0, L102_0, hi, r.len]
  · rintro k s s2 h1 hlt hi ⟨hs1, rfl⟩ kp
    obtain ⟨i, o, u, L1, e1, e2, ru, _⟩ := r.at (k := k) (by simpa using hlt)
    rw [iotaXX_at _ _ hlt] at ru
    have hs := sum_take_succ (ll.map List.length) (k := k) (by simpa using hlt)
    simp only [List.getElem_map] at hs
    have hle := sum_take_le (ll.map List.length) (k + 1)
    unfold cntXX at hk0
    simp -implicitDefEqProofs [b102_0, K102_0, L102_0, hi, hs1, e1, e2]
    refine call1 (heldMatrixS_ac ru ⟨by omega, by omega⟩) ?_
    simp -implicitDefEqProofs
    rw [show decide (k0 + 2 * (((ll.map List.length).take k).sum : Nat) + 2 * (ll[k].length : Int) < 0) = false by simp; omega]
    simp -implicitDefEqProofs
    rw [hs]; omega
  · rintro s s2 h1 hi ⟨hs1, rfl⟩ kp
    rw [List.take_of_length_le (by simp)] at hs1
    simp -implicitDefEqProofs [K102_0, L102_0, hs1]
    unfold cntXX; omega
end Go.Proofs.Ytpenocegikjpaaa

/- Contracts of the laws' helpers: copies of fonts and machines; marks. -/
set_option linter.unusedSimpArgs false
set_option linter.unusedVariables false
set_option maxHeartbeats 1000000
namespace Go.Proofs.Ytpenocegikjpaaa
open Go.Ab

theorem toFont_ac {w : Bool} {h : Heap} {F : Fnt} {vW vC : Value} {LW LC : List Nat} (r : RF w h F vW vC LW LC) (hl : szF F ≤ 1048576) : AC Try.prog 36 [fval F vW vC] h [] fun r h' => NF h.length h' r F := by
  have hl1 : F.widths.length ≤ 1048576 := by unfold szF at hl; omega
  have hl2 : F.codes.length ≤ 1048576 := by unfold szF at hl; omega
  refine ac36 (by simp [p36]) ?_
  simp -implicitDefEqProofs [p36, fval, fcells, r.rW.one, r.rC.one, strV]
  refine call0 (toIntS_ac (r.kp0 (.app _ _ _)).rW hl1) ?_
  rintro r1 h1 ⟨L1, rr1, nd1, ge1⟩ k1
  obtain ⟨t1, rfl⟩ := k1.ex
  simp -implicitDefEqProofs [strV, rr1.one, rr1.cells]
  refine call0 (toIntS_ac (r.kp0 (.app _ _ _)).rC hl2) ?_
  rintro r2 h2 ⟨L2, rr2, nd2, ge2⟩ k2
  obtain ⟨t2, rfl⟩ := k2.ex
  simp -implicitDefEqProofs [strV, rr1.one, rr1.cells, rr2.one, rr2.cells, resA1]
  refine ⟨r1, r2, L1, L2, rfl, ⟨rr1.tail (u := t2) ge1 (by simp) (by simp), rr2.tail (u := []) ge2 (by simp) (by simp)⟩, nodup_app nd1 nd2 rr1.lt (fun i hi => by have := ge2 i hi; simp at this ⊢; omega), ?_⟩
  intro i hi
  rcases List.mem_append.1 hi with hi | hi
  · have := ge1 i hi; simp at this; omega
  · have := ge2 i hi; simp at this; omega

theorem toMachine_ac {w : Bool} {h : Heap} {M : Mch} {vW vC vM vL vQ : Value} {LW LC LM LL LQ : List Nat} (r : RM w h M vW vC vM vL vQ LW LC LM LL LQ) (hl : szM M ≤ 1048576) : AC Try.prog 27 [mval M vW vC vM vL vQ] h [] fun r h' => NM h.length h' r M := by
  have hl1 : szF M.font ≤ 1048576 := by unfold szM at hl; omega
  have hl2 : szXX M.mag ≤ 1048576 := by unfold szM at hl; omega
  have hl3 : M.line.length ≤ 1048576 := by unfold szM at hl; omega
  have hl4 : M.wait.length ≤ 1048576 := by unfold szM at hl; omega
  refine ac27 (by simp [p27]) ?_
  simp -implicitDefEqProofs [p27, mval, mcells, r.rW.one, r.rC.one, r.rM.one, r.rL.one, r.rQ.one, strV]
  refine call0 (toFont_ac (r.kp0 (.app _ _ _)).rF hl1) ?_
  rintro _ h1 ⟨vW', vC', LW', LC', rfl, rf, ndF, geF⟩ k1
  obtain ⟨t1, rfl⟩ := k1.ex
  simp -implicitDefEqProofs [strV, fval, fcells, rf.rW.one, rf.rC.one]
  refine call0 (toMatrixSS_ac (r.kp0 (.app _ _ _)).rM hl2) ?_
  rintro vM' h2 ⟨LM', rm, ndM, geM⟩ k2
  obtain ⟨t2, rfl⟩ := k2.ex
  simp -implicitDefEqProofs [strV, rf.rW.one, rf.rC.one, rm.one, rm.cells]
  refine call1 (toMeasure_ac M.msr) ?_
  simp -implicitDefEqProofs [strV, Msr.v]
  refine call0 (toMatrixS_ac (r.kp0 (.app _ _ _)).rL hl3) ?_
  rintro vL' h3 ⟨LL', rl, ndL, geL⟩ k3
  obtain ⟨t3, rfl⟩ := k3.ex
  simp -implicitDefEqProofs [strV, rl.one, rl.cells]
  refine call0 (toMatrixS_ac (r.kp0 (.app _ _ _)).rQ hl4) ?_
  rintro vQ' h4 ⟨LQ', rq, ndQ, geQ⟩ k4
  obtain ⟨t4, rfl⟩ := k4.ex
  simp -implicitDefEqProofs [strV, rf.rW.one, rf.rC.one, rm.one, rl.one, rq.one, rq.cells, resA1]
  have f1 := rf.rW.lt
  have f2 := rf.rC.lt
  have f3 := rm.lt
  have f4 := rl.lt
  have f5 := rq.lt
  refine ⟨vW', vC', vM', vL', vQ', LW', LC', LM', LL', LQ', rfl, ⟨rf.rW.tail (u := t2 ++ (t3 ++ t4)) (fun i hi => geF i (by simp [hi])) (by simp) (by simp), rf.rC.tail (u := t2 ++ (t3 ++ t4)) (fun i hi => geF i (by simp [hi])) (by simp) (by simp),
    rm.tail (u := t3 ++ t4) geM (by simp) (by simp), rl.tail (u := t4) geL (by simp) (by simp), rq.tail (u := []) geQ (by simp) (by simp)⟩, ?_, ?_⟩
  · refine nodup_app (nodup_app (nodup_app ndF ndM ?_ geM) ndL ?_ geL) ndQ ?_ geQ
    · intro i hi
      simp only [List.mem_append] at hi
      rcases hi with hi | hi
      · have := f1 i hi; simp at this ⊢; omega
      · have := f2 i hi; simp at this ⊢; omega
    · intro i hi
      simp only [List.mem_append] at hi
      rcases hi with (hi | hi) | hi
      · have := f1 i hi; simp at this ⊢; omega
      · have := f2 i hi; simp at this ⊢; omega
      · have := f3 i hi; simp at this ⊢; omega
    · intro i hi
      simp only [List.mem_append] at hi
      rcases hi with ((hi | hi) | hi) | hi
      · have := f1 i hi; simp at this ⊢; omega
      · have := f2 i hi; simp at this ⊢; omega
      · have := f3 i hi; simp at this ⊢; omega
      · have := f4 i hi; simp at this ⊢; omega
  · intro i hi
    simp only [List.mem_append] at hi
    rcases hi with (((hi | hi) | hi) | hi) | hi
    · have := geF i (by simp [hi]); simp at this; omega
    · have := geF i (by simp [hi]); simp at this; omega
    · have := geM i hi; simp at this; omega
    · have := geL i hi; simp at this; omega
    · have := geQ i hi; simp at this; omega

theorem markFont_ac {h : Heap} {F : Fnt} {vW vC : Value} {LW LC : List Nat} (r : RF true h F vW vC LW LC) (nd : (LW ++ LC).Nodup) (k0 : Int) (hk0 : 0 ≤ k0 ∧ k0 + cntF F ≤ 4611686018427387904) :
    AC Try.prog 40 [fval F vW vC, .int .i64 k0] h (LW ++ LC) fun r h' => r = .int .i64 (k0 + cntF F) ∧ RF true h' (mkF k0 F) vW vC LW LC := by
  obtain ⟨nW, nC, dis⟩ := List.nodup_append.1 nd
  have hF : (cntF F : Int) = F.widths.length + F.codes.length := by unfold cntF; omega
  refine ac40 (by simp [p40]) ?_
  simp -implicitDefEqProofs [p40, fval, fcells, r.rW.one, r.rC.one]
  refine callK (markIntS_ac (r.kp0 (.app _ _ _)).rW k0 ⟨by omega, by omega⟩) (fun i hi => .inl (by simp [hi])) ?_
  rintro _ h1 ⟨rfl, rw1⟩ k1
  have hb : hob h1 h.length = some ⟨[.string F.letters, vW, vC], 3, true⟩ := hob_kp k1 (by simp) fun hn => by have := r.rW.lt _ hn; omega
  simp -implicitDefEqProofs [hc1, hb]
  have rC1 := (r.kp0 (.app [] h [some ⟨[.string F.letters, vW, vC], 3, true⟩])).rC.kp k1 fun i hi hn => dis i hn i hi rfl
  refine callK (markIntS_ac rC1 _ ⟨by omega, by omega⟩) (fun i hi => .inl (by simp [hi])) ?_
  rintro _ h2 ⟨rfl, rw2⟩ k2
  simp -implicitDefEqProofs
  exact ⟨by omega, rw1.kp k2 fun i hi hn => dis i hi i hn rfl, rw2⟩

theorem heldFont_ac {w : Bool} {h : Heap} {F : Fnt} {vW vC : Value} {LW LC : List Nat} (k0 : Int) (r : RF w h (mkF k0 F) vW vC LW LC) (hk0 : 0 ≤ k0 ∧ k0 + cntF F ≤ 4611686018427387904) :
    AC Try.prog 101 [fval (mkF k0 F) vW vC, .int .i64 k0] h [] fun r h' => r = .int .i64 (k0 + cntF F) ∧ h' = h := by
  have hF : (cntF F : Int) = F.widths.length + F.codes.length := by unfold cntF; omega
  refine AC_v rfl ?_
  refine ac101 (by simp [p101]) ?_
  simp -implicitDefEqProofs [p101, fval, fcells, r.rW.one, r.rC.one]
  refine call1 (heldIntS_ac (r.kp0 (.app _ _ _)).rW ⟨by omega, by omega⟩) ?_
  simp -implicitDefEqProofs
  rw [show decide (k0 + (F.widths.length : Int) < 0) = false by simp; omega]
  simp -implicitDefEqProofs
  refine call1 (heldIntS_ac (r.kp0 (.app _ _ _)).rC ⟨by omega, by omega⟩) ?_
  simp -implicitDefEqProofs
  rw [show decide (k0 + (F.widths.length : Int) + F.codes.length < 0) = false by simp; omega]
  simp -implicitDefEqProofs
  omega

theorem markMachine_ac {h : Heap} {M : Mch} {vW vC vM vL vQ : Value} {LW LC LM LL LQ : List Nat} (r : RM true h M vW vC vM vL vQ LW LC LM LL LQ) (nd : (LW ++ LC ++ LM ++ LL ++ LQ).Nodup) (k0 : Int) (hk0 : 0 ≤ k0 ∧ k0 + cntM M ≤ 4611686018427387904) :
    AC Try.prog 31 [mval M vW vC vM vL vQ, .int .i64 k0] h (LW ++ LC ++ LM ++ LL ++ LQ) fun r h' => r = .int .i64 (k0 + cntM M) ∧ RM true h' (mkM k0 M) vW vC vM vL vQ LW LC LM LL LQ := by
  obtain ⟨n1, nQ, disQ⟩ := List.nodup_append.1 nd
  obtain ⟨n2, nL, disL⟩ := List.nodup_append.1 n1
  obtain ⟨nF, nM, disM⟩ := List.nodup_append.1 n2
  have hM : (cntM M : Int) = cntF M.font + cntXX M.mag + 2 * M.line.length + 2 * M.wait.length := by unfold cntM; omega
  have hlt : ∀ i ∈ LW ++ LC ++ LM ++ LL ++ LQ, i < h.length := by
    intro i hi
    simp only [List.mem_append] at hi
    rcases hi with (((hi | hi) | hi) | hi) | hi
    · exact r.rW.lt i hi
    · exact r.rC.lt i hi
    · exact r.rM.lt i hi
    · exact r.rL.lt i hi
    · exact r.rQ.lt i hi
  refine ac31 (by simp [p31]) ?_
  simp -implicitDefEqProofs [p31, mval, mcells, r.rW.one, r.rC.one, r.rM.one, r.rL.one, r.rQ.one]
  have r0 := r.kp0 (.app [] h [some ⟨mcells M vW vC vM vL vQ, 10, true⟩])
  refine callK (markFont_ac r0.rF nF k0 ⟨by omega, by omega⟩) (fun i hi => .inl (by rcases List.mem_append.1 hi with hi | hi <;> simp [hi])) ?_
  rintro _ h1 ⟨rfl, rf⟩ k1
  have hb1 : hob h1 h.length = some ⟨mcells M vW vC vM vL vQ, 10, true⟩ := hob_kp k1 (by simp [mcells]) fun hn => by have := hlt h.length (List.mem_append_left _ (List.mem_append_left _ (List.mem_append_left _ hn))); omega
  simp -implicitDefEqProofs [hc1, hcs, hb1, mcells]
  have rM1 := r0.rM.kp k1 fun i hi hn => disM i hn i hi rfl
  have rL1 := r0.rL.kp k1 fun i hi hn => disL i (List.mem_append_left _ hn) i hi rfl
  have rQ1 := r0.rQ.kp k1 fun i hi hn => disQ i (List.mem_append_left _ (List.mem_append_left _ hn)) i hi rfl
  refine callK (markMatrixSS_ac rM1 nM _ ⟨by omega, by omega⟩) (fun i hi => .inl (by simp [hi])) ?_
  rintro _ h2 ⟨rfl, rm⟩ k2
  have hb2 : hob h2 h.length = some ⟨mcells M vW vC vM vL vQ, 10, true⟩ := hob_kp k2 hb1 fun hn => by have := hlt h.length (List.mem_append_left _ (List.mem_append_left _ (List.mem_append_right _ hn))); omega
  simp -implicitDefEqProofs [hc1, hcs, hb2, mcells]
  have rL2 := rL1.kp k2 fun i hi hn => disL i (List.mem_append_right _ hn) i hi rfl
  have rQ2 := rQ1.kp k2 fun i hi hn => disQ i (List.mem_append_left _ (List.mem_append_right _ hn)) i hi rfl
  refine callK (markMatrixS_ac rL2 _ ⟨by omega, by omega⟩) (fun i hi => .inl (by simp [hi])) ?_
  rintro _ h3 ⟨rfl, rl⟩ k3
  have hb3 : hob h3 h.length = some ⟨mcells M vW vC vM vL vQ, 10, true⟩ := hob_kp k3 hb2 fun hn => by have := hlt h.length (List.mem_append_left _ (List.mem_append_right _ hn)); omega
  simp -implicitDefEqProofs [hc1, hcs, hb3, mcells]
  have rQ3 := rQ2.kp k3 fun i hi hn => disQ i (List.mem_append_right _ hn) i hi rfl
  refine callK (markMatrixS_ac rQ3 _ ⟨by omega, by omega⟩) (fun i hi => .inl (by simp [hi])) ?_
  rintro _ h4 ⟨rfl, rq⟩ k4
  simp -implicitDefEqProofs
  refine ⟨by omega, ?_, ?_, ?_, ?_, ?_⟩
  · exact ((rf.rW.kp k2 fun i hi hn => disM i (List.mem_append_left _ hi) i hn rfl).kp k3 fun i hi hn => disL i (List.mem_append_left _ (List.mem_append_left _ hi)) i hn rfl).kp k4 fun i hi hn => disQ i (List.mem_append_left _ (List.mem_append_left _ (List.mem_append_left _ hi))) i hn rfl
  · exact ((rf.rC.kp k2 fun i hi hn => disM i (List.mem_append_right _ hi) i hn rfl).kp k3 fun i hi hn => disL i (List.mem_append_left _ (List.mem_append_right _ hi)) i hn rfl).kp k4 fun i hi hn => disQ i (List.mem_append_left _ (List.mem_append_left _ (List.mem_append_right _ hi))) i hn rfl
  · exact (rm.kp k3 fun i hi hn => disL i (List.mem_append_right _ hi) i hn rfl).kp k4 fun i hi hn => disQ i (List.mem_append_left _ (List.mem_append_right _ hi)) i hn rfl
  · exact rl.kp k4 fun i hi hn => disQ i (List.mem_append_right _ hi) i hn rfl
  · exact rq

theorem heldMachine_ac {w : Bool} {h : Heap} {M : Mch} {vW vC vM vL vQ : Value} {LW LC LM LL LQ : List Nat} (k0 : Int) (r : RM w h (mkM k0 M) vW vC vM vL vQ LW LC LM LL LQ) (hk0 : 0 ≤ k0 ∧ k0 + cntM M ≤ 4611686018427387904) :
    AC Try.prog 41 [mval (mkM k0 M) vW vC vM vL vQ, .int .i64 k0] h [] fun r h' => r = .int .i64 (k0 + cntM M) ∧ h' = h := by
  have hM : (cntM M : Int) = cntF M.font + cntXX M.mag + 2 * M.line.length + 2 * M.wait.length := by unfold cntM; omega
  refine AC_v rfl ?_
  refine ac41 (by simp [p41]) ?_
  simp -implicitDefEqProofs [p41, mval, mcells, r.rW.one, r.rC.one, r.rM.one, r.rL.one, r.rQ.one]
  have r0 := r.kp0 (.app [] h [some ⟨mcells (mkM k0 M) vW vC vM vL vQ, 10, true⟩])
  refine call1 (heldFont_ac k0 r0.rF ⟨by omega, by omega⟩) ?_
  simp -implicitDefEqProofs
  rw [show decide (k0 + (cntF M.font : Int) < 0) = false by simp; omega]
  simp -implicitDefEqProofs
  refine call1 (heldMatrixSS_ac r0.rM ⟨by omega, by omega⟩) ?_
  simp -implicitDefEqProofs
  rw [show decide (k0 + (cntF M.font : Int) + cntXX M.mag < 0) = false by simp; omega]
  simp -implicitDefEqProofs
  refine call1 (heldMatrixS_ac r0.rL ⟨by omega, by omega⟩) ?_
  simp -implicitDefEqProofs
  rw [show decide (k0 + (cntF M.font : Int) + cntXX M.mag + 2 * M.line.length < 0) = false by simp; omega]
  simp -implicitDefEqProofs
  refine call1 (heldMatrixS_ac r0.rQ ⟨by omega, by omega⟩) ?_
  simp -implicitDefEqProofs
  rw [show decide (k0 + (cntF M.font : Int) + cntXX M.mag + 2 * M.line.length + 2 * M.wait.length < 0) = false by simp; omega]
  simp -implicitDefEqProofs
  omega
end Go.Proofs.Ytpenocegikjpaaa

/- What comes in: this program's types. -/
set_option linter.unusedSimpArgs false
set_option linter.unusedVariables false
set_option maxHeartbeats 1000000
set_option maxRecDepth 100000
namespace Go.Proofs.Ytpenocegikjpaaa
open Go.Ab Go.ChangeShapes
section
variable {H : Type} {enc : TypeId × Value → H} {w : World}
theorem cellsInt : Try.prog.cellsOf 3 = 1 := by kernel_rfl
theorem cellsStr : Try.prog.cellsOf 9 = 1 := by kernel_rfl
theorem cellsInts : Try.prog.cellsOf 23 = 1 := by kernel_rfl
theorem cellsMx : Try.prog.cellsOf 138 = 2 := by kernel_rfl
theorem cellsMxS : Try.prog.cellsOf 51 = 1 := by kernel_rfl
theorem cellsMxSS : Try.prog.cellsOf 49 = 1 := by kernel_rfl
theorem cellsFnt : Try.prog.cellsOf 48 = 3 := by kernel_rfl
theorem cellsMsr : Try.prog.cellsOf 50 = 3 := by kernel_rfl
theorem cellsMch : Try.prog.cellsOf 53 = 10 := by kernel_rfl
theorem bytesInt : 0 < Try.prog.bytesOf 3 := by rw [show Try.prog.bytesOf 3 = 8 by kernel_rfl]; omega
theorem bytesMx : 0 < Try.prog.bytesOf 138 := by rw [show Try.prog.bytesOf 138 = 16 by kernel_rfl]; omega
theorem bytesMxS : 0 < Try.prog.bytesOf 51 := by rw [show Try.prog.bytesOf 51 = 24 by kernel_rfl]; omega

theorem eltInt : Elt enc Try.prog w EI 3 fun n => (Lit.int .i64 n).wf = true where
  cells := cellsInt
  bytes := bytesInt
  rd := fun n cs x h => by
    obtain ⟨k, rfl, _, hw⟩ := DataW.trod_int Try.underlying3 h
    exact ⟨k, rfl, hw⟩
  closed := by simp [closedB, atomB]
  one := by simp
theorem eltMx : Elt enc Try.prog w EX 138 fun _ => True where
  cells := cellsMx
  bytes := bytesMx
  rd := fun n cs x h => by
    obtain ⟨y0, y1, m, _, hl, h0, h1⟩ := trod_struct2 Try.underlying138 h
    rw [cellsMx] at hl
    obtain ⟨c0, c1, rfl⟩ := list2 hl
    simp only [cellsInt, List.drop_zero, List.take_succ_cons, List.take_zero, List.drop_succ_cons] at h0 h1
    obtain ⟨a, e0, _, _⟩ := DataW.trod_int Try.underlying3 h0
    obtain ⟨b, e1, _, _⟩ := DataW.trod_int Try.underlying3 h1
    simp only [List.cons.injEq, and_true] at e0 e1
    subst e0; subst e1
    exact ⟨(a, b), rfl, trivial⟩
  closed := by simp [closedB, atomB]
  one := by simp

theorem openFnt {fuel : Nat} {cs : List Value} {d : DataW H} {p : List MemPlace} (h : tr enc Try.prog w fuel 48 cs = some (d, p)) (hz : ∀ n ∈ d.weights Try.prog 48, n ≤ reachBytes)
    (hB : ∀ a n c, Value.slice (some a) n c ∈ cs → HasB w) : Opn w cs fun h l => ∃ F vW vC LW LC, l = fcells F vW vC ∧ RF false h F vW vC LW LC ∧ F.letters.size ≤ maxLen := by
  obtain ⟨xs, n, _, hx, hl, hxl, hf⟩ := DataW.trod_struct Try.underlying48 h
  rw [cellsFnt] at hl
  obtain ⟨c0, c1, c2, rfl⟩ := list3 hl
  obtain ⟨x0, x1, x2, rfl⟩ := list3 hxl
  have h0 := hf 0 _ rfl
  have h1 := hf 1 _ rfl
  have h2 := hf 2 _ rfl
  simp only [cellsStr, cellsInts, List.drop_zero, List.take_succ_cons, List.take_zero, List.drop_succ_cons, List.getElem?_cons_zero, List.getElem?_cons_succ, List.getElem_toArray, List.getElem_cons_zero, List.getElem_cons_succ] at h0 h1 h2
  simp only [Prod.mk.injEq] at hx
  obtain ⟨rfl, _⟩ := hx
  simp only [DataW.weights, Try.underlying48, List.map_cons, List.map_nil, DataW.weightsEach, List.mem_append, List.not_mem_nil, or_false] at hz
  obtain ⟨s, e0, _, hs⟩ := DataW.trod_string Try.underlying9 h0
  simp only [List.cons.injEq, and_true] at e0
  subst e0
  have nn : ∀ {c : Value} {x : DataW H × List MemPlace}, c ∈ [Value.string s, c1, c2] → tr enc Try.prog w n 23 [c] = some x → c ≠ .slice none 0 0 → HasB w := by
    intro c x hc hr hne
    rcases Deep.open_slice Try.underlying23 hr with ⟨hv, _⟩ | ⟨a, len, cap, _, _, _, _, hv, _⟩
    · injection hv with hv _; exact absurd hv hne
    · injection hv with hv _; subst hv; exact hB a len cap hc
  have o1 := Opn.flat (α := Int) eltInt Try.underlying23 (d := x1.1) (p := x1.2) h1 (fun n hn => hz n (.inr (.inl hn))) (nn (by simp) h1)
  have o2 := Opn.flat (α := Int) eltInt Try.underlying23 (d := x2.1) (p := x2.2) h2 (fun n hn => hz n (.inr (.inr hn))) (nn (by simp) h2)
  have o0 : Opn w [Value.string s] fun _ l => l = [Value.string s] := Opn.closed (by simp)
  have m1 : ∀ (h h' : Heap) (l : List Value), Kp [] h h' → (∃ u xs L, l = [u] ∧ RL false EI h u xs L ∧ ∀ x ∈ xs, (Lit.int .i64 x).wf = true) → ∃ u xs L, l = [u] ∧ RL false EI h' u xs L ∧ ∀ x ∈ xs, (Lit.int .i64 x).wf = true := by
    rintro h h' l k ⟨u, xs, L, rfl, r, g⟩; exact ⟨u, xs, L, rfl, r.kp0 k, g⟩
  refine (Opn.app o0 (Opn.app o1 o2 m1) (by rintro h h' l _ rfl; rfl)).mono ?_
  rintro h l ⟨_, _, rfl, rfl, _, _, rfl, ⟨u1, xs1, L1, rfl, r1, _⟩, u2, xs2, L2, rfl, r2, _⟩
  exact ⟨⟨s, xs1, xs2⟩, u1, u2, L1, L2, rfl, ⟨r1, r2⟩, hs⟩

theorem openMsr {fuel : Nat} {cs : List Value} {d : DataW H} {p : List MemPlace} (h : tr enc Try.prog w fuel 50 cs = some (d, p)) : ∃ S : Msr, cs = scells S := by
  obtain ⟨xs, n, _, hx, hl, hxl, hf⟩ := DataW.trod_struct Try.underlying50 h
  rw [cellsMsr] at hl
  obtain ⟨c0, c1, c2, rfl⟩ := list3 hl
  obtain ⟨x0, x1, x2, rfl⟩ := list3 hxl
  have h0 := hf 0 _ rfl
  have h1 := hf 1 _ rfl
  have h2 := hf 2 _ rfl
  simp only [cellsInt, List.drop_zero, List.take_succ_cons, List.take_zero, List.drop_succ_cons, List.getElem?_cons_zero, List.getElem?_cons_succ, List.getElem_toArray, List.getElem_cons_zero, List.getElem_cons_succ] at h0 h1 h2
  obtain ⟨a, e0, _, _⟩ := DataW.trod_int Try.underlying3 h0
  obtain ⟨b, e1, _, _⟩ := DataW.trod_int Try.underlying3 h1
  obtain ⟨c, e2, _, _⟩ := DataW.trod_int Try.underlying3 h2
  simp only [List.cons.injEq, and_true] at e0 e1 e2
  subst e0; subst e1; subst e2
  exact ⟨⟨a, b, c⟩, rfl⟩

theorem openMch {fuel : Nat} {cs : List Value} {d : DataW H} {p : List MemPlace} (h : tr enc Try.prog w fuel 53 cs = some (d, p)) (hz : ∀ n ∈ d.weights Try.prog 53, n ≤ reachBytes)
    (hB : ∀ a n c, Value.slice (some a) n c ∈ cs → HasB w) : Opn w cs fun h l => ∃ M vW vC vM vL vQ LW LC LM LL LQ, l = mcells M vW vC vM vL vQ ∧ RM false h M vW vC vM vL vQ LW LC LM LL LQ ∧ M.font.letters.size ≤ maxLen := by
  obtain ⟨xs, n, _, hx, hl, hxl, hf⟩ := DataW.trod_struct Try.underlying53 h
  rw [cellsMch] at hl
  obtain ⟨c0, c1, c2, c3, c4, c5, c6, c7, c8, c9, rfl⟩ := list10 hl
  obtain ⟨x0, x1, x2, x3, x4, x5, rfl⟩ := list6 hxl
  have h0 := hf 0 _ rfl
  have h1 := hf 1 _ rfl
  have h2 := hf 2 _ rfl
  have h3 := hf 3 _ rfl
  have h4 := hf 4 _ rfl
  have h5 := hf 5 _ rfl
  simp only [cellsInt, cellsFnt, cellsMsr, cellsMxS, cellsMxSS, List.drop_zero, List.take_succ_cons, List.take_zero, List.drop_succ_cons, List.getElem?_cons_zero, List.getElem?_cons_succ, List.getElem_toArray, List.getElem_cons_zero, List.getElem_cons_succ] at h0 h1 h2 h3 h4 h5
  simp only [Prod.mk.injEq] at hx
  obtain ⟨rfl, _⟩ := hx
  simp only [DataW.weights, Try.underlying53, List.map_cons, List.map_nil, DataW.weightsEach, List.mem_append, List.not_mem_nil, or_false] at hz
  obtain ⟨sp, e2, _, _⟩ := DataW.trod_int Try.underlying3 h2
  simp only [List.cons.injEq, and_true] at e2
  subst e2
  obtain ⟨S, eS⟩ := openMsr (p := x3.2) (d := x3.1) h3
  simp only [scells, List.cons.injEq, and_true] at eS
  obtain ⟨rfl, rfl, rfl⟩ := eS
  have nn : ∀ {c : Value} {t e : TypeId} {x : DataW H × List MemPlace}, c ∈ [c0, c1, c2, c3, .int .i64 sp, .int .i64 S.width, .int .i64 S.thin, .int .i64 S.thick, c8, c9] → Try.prog.underlying t = some (.slice e) → tr enc Try.prog w n t [c] = some x → c ≠ .slice none 0 0 → HasB w := by
    intro c t e x hc ht hr hne
    rcases Deep.open_slice ht hr with ⟨hv, _⟩ | ⟨a, len, cap, _, _, _, _, hv, _⟩
    · injection hv with hv _; exact absurd hv hne
    · injection hv with hv _; subst hv; exact hB a len cap hc
  have oF := openFnt (d := x0.1) (p := x0.2) h0 (fun n hn => hz n (.inl hn)) (fun a n c hm => hB a n c (by
    simp only [List.mem_cons, List.not_mem_nil, or_false] at hm ⊢
    rcases hm with hm | hm | hm <;> simp [hm]))
  have oM := Opn.rows eltMx Try.underlying49 Try.underlying51 cellsMxS bytesMxS (d := x1.1) (p := x1.2) h1 (fun n hn => hz n (.inr (.inl hn))) (nn (by simp) Try.underlying49 h1)
  have oL := Opn.flat (α := Mx) eltMx Try.underlying51 (d := x4.1) (p := x4.2) h4 (fun n hn => hz n (.inr (.inr (.inr (.inr (.inl hn)))))) (nn (by simp) Try.underlying51 h4)
  have oQ := Opn.flat (α := Mx) eltMx Try.underlying51 (d := x5.1) (p := x5.2) h5 (fun n hn => hz n (.inr (.inr (.inr (.inr (.inr hn)))))) (nn (by simp) Try.underlying51 h5)
  have oC : Opn w [Value.int .i64 sp, .int .i64 S.width, .int .i64 S.thin, .int .i64 S.thick] fun _ l => l = [Value.int .i64 sp, .int .i64 S.width, .int .i64 S.thin, .int .i64 S.thick] := Opn.closed (by simp)
  have o := Opn.app oF (Opn.app oM (Opn.app oC (Opn.app oL oQ (by
      rintro h h' l k ⟨u, xs, L, rfl, r, g⟩; exact ⟨u, xs, L, rfl, r.kp0 k, g⟩)) (by rintro h h' l _ rfl; rfl)) (by
      rintro h h' l k ⟨u, ll, L, rfl, r⟩; exact ⟨u, ll, L, rfl, r.kp0 k⟩)) (by
      rintro h h' l k ⟨F, vW, vC, LW, LC, rfl, r, g⟩; exact ⟨F, vW, vC, LW, LC, rfl, r.kp0 k, g⟩)
  refine o.mono ?_
  rintro h l ⟨_, _, rfl, ⟨F, vW, vC, LW, LC, rfl, r, g⟩, _, _, rfl, ⟨vM, ll, LM, rfl, rm⟩, _, _, rfl, rfl, _, _, rfl, ⟨vL, xl, LL, rfl, rl, _⟩, vQ, xq, LQ, rfl, rq, _⟩
  exact ⟨⟨F, ll, sp, S, xl, xq⟩, vW, vC, vM, vL, vQ, LW, LC, LM, LL, LQ, rfl, ⟨r.rW, r.rC, rm, rl, rq⟩, g⟩

theorem argMch {base : Nat} {v : Value} {d : DataW H} {p : List MemPlace} (hv : Value.okWide Try.prog w .any base 53 v) (h : DataW.Trod enc Try.prog w 0 (fun _ => true) true 53 v d p) (hz : ∀ n ∈ d.weights Try.prog 53, n ≤ reachBytes) :
    Opn w [v] fun h l => ∃ M vW vC vM vL vQ LW LC LM LL LQ, l = [mval M vW vC vM vL vQ] ∧ RM false h M vW vC vM vL vQ LW LC LM LL LQ ∧ M.font.letters.size ≤ maxLen := by
  obtain ⟨cs, rfl, hrow⟩ := okAgg Try.underlying53 hv
  obtain ⟨fuel, hf⟩ := h
  refine (Opn.agg (openMch hf hz fun a n c hm => hasB_row hrow hm)).mono ?_
  rintro h l ⟨l0, rfl, M, vW, vC, vM, vL, vQ, LW, LC, LM, LL, LQ, rfl, r, g⟩
  exact ⟨M, vW, vC, vM, vL, vQ, LW, LC, LM, LL, LQ, rfl, r, g⟩
theorem argFnt {base : Nat} {v : Value} {d : DataW H} {p : List MemPlace} (hv : Value.okWide Try.prog w .any base 48 v) (h : DataW.Trod enc Try.prog w 0 (fun _ => true) true 48 v d p) (hz : ∀ n ∈ d.weights Try.prog 48, n ≤ reachBytes) :
    Opn w [v] fun h l => ∃ F vW vC LW LC, l = [fval F vW vC] ∧ RF false h F vW vC LW LC ∧ F.letters.size ≤ maxLen := by
  obtain ⟨cs, rfl, hrow⟩ := okAgg Try.underlying48 hv
  obtain ⟨fuel, hf⟩ := h
  refine (Opn.agg (openFnt hf hz fun a n c hm => hasB_row hrow hm)).mono ?_
  rintro h l ⟨l0, rfl, F, vW, vC, LW, LC, rfl, r, g⟩
  exact ⟨F, vW, vC, LW, LC, rfl, r, g⟩
theorem argMsr {base : Nat} {v : Value} {d : DataW H} {p : List MemPlace} (hv : Value.okWide Try.prog w .any base 50 v) (h : DataW.Trod enc Try.prog w 0 (fun _ => true) true 50 v d p) :
    Opn w [v] fun _ l => ∃ S : Msr, l = [S.v] := by
  obtain ⟨cs, rfl, hrow⟩ := okAgg Try.underlying50 hv
  obtain ⟨fuel, hf⟩ := h
  obtain ⟨S, hS⟩ := openMsr hf
  have : cs.toList = scells S := by simpa using hS
  have o : Opn w cs.toList fun _ l => l = scells S := by rw [this]; exact Opn.closed (by simp [scells])
  refine (Opn.agg o).mono ?_
  rintro h l ⟨l0, rfl, rfl⟩
  exact ⟨S, rfl⟩
end
end Go.Proofs.Ytpenocegikjpaaa

/- Contracts: sets, bars (the reference's and the program's). -/
set_option linter.unusedSimpArgs false
set_option linter.unusedVariables false
set_option maxHeartbeats 1000000
namespace Go.Proofs.Ytpenocegikjpaaa
open Go.Ab

theorem l1In_ac {h : Heap} (x a b : Int) : AC Try.prog 65 [.int .i64 x, .int .i64 a, .int .i64 b] h [] fun r h' => r = .bool (inB x a b) ∧ h' = h := by
  refine ac65 (by simp [p65]) ?_
  simp -implicitDefEqProofs [p65]
  by_cases h1 : a ≤ x <;> simp -implicitDefEqProofs [h1, inB]
theorem l1Set_ac {h : Heap} (x : Int) : AC Try.prog 121 [.int .i64 x] h [] fun r h' => r = .bool (setB x) ∧ h' = h := by
  refine ac121 (by simp [p121]) ?_
  simp -implicitDefEqProofs [p121]
  refine call1 (l1In_ac _ _ _) ?_
  simp -implicitDefEqProofs [setB]
theorem l1Part_ac {h : Heap} (a b : Int) : AC Try.prog 122 [.int .i64 a, .int .i64 b] h [] fun r h' => r = .bool (partB a b) ∧ h' = h := by
  refine ac122 (by simp [p122]) ?_
  simp -implicitDefEqProofs [p122, partB]
theorem isSet_ac {h : Heap} (x : Int) : AC Try.prog 126 [.int .i64 x] h [] fun r h' => r = .bool (setB x) ∧ h' = h := by
  refine ac126 (by simp [p126]) ?_
  simp -implicitDefEqProofs [p126]
  by_cases h1 : 0 ≤ x <;> simp -implicitDefEqProofs [h1, setB, inB]
theorem part_ac {h : Heap} (a b : Int) : AC Try.prog 127 [.int .i64 a, .int .i64 b] h [] fun r h' => r = .bool (partB a b) ∧ h' = h := by
  refine ac127 (by simp [p127]) ?_
  simp -implicitDefEqProofs [p127, partB]

section
variable {w : Bool} {h : Heap} {v : Value} {l : List Int} {L : List Nat}
theorem specIsBar_ac (r : RL w EI h v l L) : AC Try.prog 159 [v] h [] fun r h' => r = .bool (barB l) ∧ h' = h := by
  refine ac159 (by simp [p159]) ?_
  simp -implicitDefEqProofs [p159, r.len]
  refine range r159_0 (.refl _ _) l.length r.bd (by simp) (by simp) (fun k s h1 => h1 = h ∧ AllTo setB l k) ⟨rfl, .zero⟩ ?_ ?_
  · rintro k s h1 hk hi ⟨rfl, ha⟩ _
    obtain ⟨i, o, ea, la, _⟩ := r.atI hk
    simp -implicitDefEqProofs [b159_0, L159_0, hi, ea, la]
    refine call1 (l1Set_ac _) ?_
    cases hs : setB l[k]
    · simp -implicitDefEqProofs [barB, all_not hk hs]
    · simp -implicitDefEqProofs
      exact ha.step hk hs
  · rintro s h1 hi ⟨rfl, ha⟩ _
    simp -implicitDefEqProofs [L159_0, r.len]
    refine call1 (l1In_ac _ _ _) ?_
    simp -implicitDefEqProofs [barB, ha.done]

theorem l1Fall_ac (r : RL w EI h v l L) (x : Int) : AC Try.prog 138 [v, .int .i64 x] h [] fun r h' => r = .int .i64 (fallN l x) ∧ h' = h := by
  refine ac138 (by simp [p138]) ?_
  simp -implicitDefEqProofs [p138, r.len]
  refine range r138_0 (.refl _ _) l.length r.bd (by simp) (by simp) (fun k s h1 => h1 = h ∧ NoneTo (partB x) l k) ⟨rfl, .zero⟩ ?_ ?_
  · rintro k s h1 hk hi ⟨rfl, ha⟩ _
    obtain ⟨i, o, ea, la, _⟩ := r.atI hk
    simp -implicitDefEqProofs [b138_0, L138_0, hi, ea, la]
    refine call1 (l1Part_ac _ _) ?_
    cases hs : partB x l[k]
    · simp -implicitDefEqProofs
      exact ha.step hk hs
    · simp -implicitDefEqProofs [fallN, ha.idx hk hs]
  · rintro s h1 hi ⟨rfl, ha⟩ _
    simp -implicitDefEqProofs [L138_0, r.len, fallN, ha.len]
theorem fall_ac (r : RL w EI h v l L) (x : Int) : AC Try.prog 73 [v, .int .i64 x] h [] fun r h' => r = .int .i64 (fallN l x) ∧ h' = h := by
  refine ac73 (by simp [p73]) ?_
  simp -implicitDefEqProofs [p73, r.len]
  refine range r73_0 (.refl _ _) l.length r.bd (by simp) (by simp) (fun k s h1 => h1 = h ∧ NoneTo (partB x) l k) ⟨rfl, .zero⟩ ?_ ?_
  · rintro k s h1 hk hi ⟨rfl, ha⟩ _
    obtain ⟨i, o, ea, la, _⟩ := r.atI hk
    simp -implicitDefEqProofs [b73_0, L73_0, hi, ea, la]
    refine call1 (part_ac _ _) ?_
    cases hs : partB x l[k]
    · simp -implicitDefEqProofs
      exact ha.step hk hs
    · simp -implicitDefEqProofs [fallN, ha.idx hk hs]
  · rintro s h1 hi ⟨rfl, ha⟩ _
    simp -implicitDefEqProofs [L73_0, r.len, fallN, ha.len]

/-- The first element of which a function says yes. -/
theorem IndexI_ac (r : RL w EI h v l L) {g : FuncId} {ys zs : Array Value} {p : Int → Bool} (hp : ∀ x ∈ l, AC Try.prog g (ys.toList ++ [.int .i64 x] ++ zs.toList) h [] fun r h' => r = .bool (p x) ∧ h' = h) :
    AC Try.prog 166 [v, .func (.func g) ys zs] h [] fun r h' => r = .int .i64 (idxI l p) ∧ h' = h := by
  refine ac166 (by simp [p166]) ?_
  simp -implicitDefEqProofs [p166, r.len]
  refine range r166_0 (.refl _ _) l.length r.bd (by simp) (by simp) (fun k s h1 => h1 = h ∧ NoneTo p l k) ⟨rfl, .zero⟩ ?_ ?_
  · rintro k s h1 hk hi ⟨rfl, ha⟩ _
    obtain ⟨i, o, ea, la, _⟩ := r.atI hk
    simp -implicitDefEqProofs [b166_0, L166_0, hi, ea, la]
    refine callF1 (hp _ (List.getElem_mem hk)) ?_
    cases hs : p l[k]
    · simp -implicitDefEqProofs
      exact ha.step hk hs
    · simp -implicitDefEqProofs [ha.idxI hk hs]
  · rintro s h1 hi ⟨rfl, ha⟩ _
    simp -implicitDefEqProofs [L166_0, ha.noIdx]
theorem ContainsI_ac (r : RL w EI h v l L) {g : FuncId} {ys zs : Array Value} {p : Int → Bool} (hp : ∀ x ∈ l, AC Try.prog g (ys.toList ++ [.int .i64 x] ++ zs.toList) h [] fun r h' => r = .bool (p x) ∧ h' = h) :
    AC Try.prog 160 [v, .func (.func g) ys zs] h [] fun r h' => r = .bool (l.any p) ∧ h' = h := by
  refine ac160 (by simp [p160]) ?_
  simp -implicitDefEqProofs [p160]
  refine call1 (IndexI_ac r hp) ?_
  simp -implicitDefEqProofs [idxI_ge]
theorem isBar1_ac (x : Int) : AC Try.prog 167 [.int .i64 x] h [] fun r h' => r = .bool (!setB x) ∧ h' = h := by
  refine ac167 (by simp [p167]) ?_
  simp -implicitDefEqProofs [p167]
  refine call1 (isSet_ac _) ?_
  simp -implicitDefEqProofs
theorem implIsBar_ac (r : RL w EI h v l L) : AC Try.prog 162 [v] h [] fun r h' => r = .bool (barB l) ∧ h' = h := by
  refine ac162 (by simp [p162]) ?_
  simp -implicitDefEqProofs [p162, r.len]
  by_cases h1 : (1 : Int) ≤ l.length
  · by_cases h2 : (l.length : Int) ≤ 40
    · simp -implicitDefEqProofs [h1, h2, r.len]
      refine call1 (ContainsI_ac r (ys := #[]) (zs := #[]) (p := fun x => !setB x) fun x _ => by simpa using isBar1_ac x) ?_
      simp -implicitDefEqProofs [barB, inB, h1, h2, any_not_all]
    · simp -implicitDefEqProofs [h1, h2, barB, inB, r.len]
  · simp -implicitDefEqProofs [h1, barB, inB]

theorem sortsFrom_spec {bar : List Int} : ∀ {r : List Int} {i : Nat}, sortsFrom bar r i = true ↔ ∀ k (hk : k < r.length), fallN bar r[k] = i + k
  | [], i => by simp [sortsFrom]
  | s :: r, i => by
    simp only [sortsFrom, Bool.and_eq_true, decide_eq_true_eq, sortsFrom_spec]
    constructor
    · rintro ⟨h1, h2⟩ k hk
      cases k with
      | zero => simpa using h1
      | succ k =>
        have := h2 k (by simpa using hk)
        simp only [List.getElem_cons_succ]; omega
    · intro hh
      refine ⟨hh 0 (by simp), fun k hk => ?_⟩
      have := hh (k + 1) (by simpa using hk)
      simp only [List.getElem_cons_succ] at this; omega
theorem sortsFrom_not {bar : List Int} {k : Nat} (hk : k < bar.length) (h : fallN bar bar[k] ≠ k) : sortsFrom bar bar 0 = false := by
  cases hs : sortsFrom bar bar 0
  · rfl
  · have := sortsFrom_spec.1 hs k hk
    omega
theorem sortsFrom_yes {bar : List Int} (h : ∀ k (hk : k < bar.length), fallN bar bar[k] = k) : sortsFrom bar bar 0 = true := sortsFrom_spec.2 fun k hk => by rw [h k hk]; omega

theorem specSorts_ac (r : RL w EI h v l L) : AC Try.prog 151 [v] h [] fun r h' => r = .bool (sortsB l) ∧ h' = h := by
  refine ac151 (by simp [p151]) ?_
  simp -implicitDefEqProofs [p151, r.len]
  refine range r151_0 (.refl _ _) l.length r.bd (by simp) (by simp) (fun k s h1 => h1 = h ∧ OwnTo l k) ⟨rfl, .zero⟩ ?_ ?_
  · rintro k s h1 hk hi ⟨rfl, ha⟩ _
    obtain ⟨i, o, ea, la, _⟩ := r.atI hk
    simp -implicitDefEqProofs [b151_0, L151_0, hi, ea, la]
    refine call1 (l1Fall_ac r _) ?_
    by_cases hs : fallN l l[k] = k
    · simp -implicitDefEqProofs [hs]
      exact ha.step hk hs
    · have : ¬ (fallN l l[k] : Int) = k := by omega
      simp -implicitDefEqProofs [this, sortsB, sortsFrom_not hk hs]
  · rintro s h1 hi ⟨rfl, ha⟩ _
    simp -implicitDefEqProofs [L151_0]
    refine call1 (specIsBar_ac r) ?_
    simp -implicitDefEqProofs [sortsB, sortsFrom_yes fun k hk => ha k hk hk]
theorem implSorts_ac (r : RL w EI h v l L) : AC Try.prog 153 [v] h [] fun r h' => r = .bool (sortsB l) ∧ h' = h := by
  refine ac153 (by simp [p153]) ?_
  simp -implicitDefEqProofs [p153]
  refine call1 (implIsBar_ac r) ?_
  cases hb : barB l
  · simp -implicitDefEqProofs [sortsB, hb]
  simp -implicitDefEqProofs [r.len]
  refine range r153_0 (.refl _ _) l.length r.bd (by simp) (by simp) (fun k s h1 => h1 = h ∧ OwnTo l k) ⟨rfl, .zero⟩ ?_ ?_
  · rintro k s h1 hk hi ⟨rfl, ha⟩ _
    obtain ⟨i, o, ea, la, _⟩ := r.atI hk
    simp -implicitDefEqProofs [b153_0, L153_0, hi, ea, la]
    refine call1 (fall_ac r _) ?_
    by_cases hs : fallN l l[k] = k
    · simp -implicitDefEqProofs [hs]
      exact ha.step hk hs
    · have : ¬ (fallN l l[k] : Int) = k := by omega
      simp -implicitDefEqProofs [this, sortsB, sortsFrom_not hk hs]
  · rintro s h1 hi ⟨rfl, ha⟩ _
    simp -implicitDefEqProofs [L153_0, sortsB, hb, sortsFrom_yes fun k hk => ha k hk hk]
end
end Go.Proofs.Ytpenocegikjpaaa

/- Contracts: fonts (the reference's and the program's). -/
set_option linter.unusedSimpArgs false
set_option linter.unusedVariables false
set_option maxHeartbeats 1000000
namespace Go.Proofs.Ytpenocegikjpaaa
open Go.Ab

/-- The letters before the k-th are in range, their widths too, and each is none of those before it. -/
def FontTo (F : Fnt) (k : Nat) : Prop := ∀ i (h1 : i < F.ls.length) (h2 : i < F.widths.length), i < k → letB F.ls[i] = true ∧ inB F.widths[i] 1 60 = true ∧ ∀ j (hj : j < i), F.ls[j] ≠ F.ls[i]
def DiffTo (F : Fnt) (k j : Nat) : Prop := ∀ i (h1 : i < F.ls.length) (h2 : k < F.ls.length), i < j → i < k → F.ls[i] ≠ F.ls[k]
theorem FontTo.fontB {F : Fnt} (h1 : inB F.n 1 40 = true) (h2 : F.widths.length = F.n) (h3 : F.codes.length = F.n) (h4 : sortsB F.codes = true) (h : FontTo F F.n) : fontB F = true := by
  have hl : F.ls.length = F.n := F.ls_len
  have e1 : F.ls.all letB = true := by
    rw [List.all_eq_true]; intro x hx
    obtain ⟨i, hi, rfl⟩ := List.getElem_of_mem hx
    exact (h i hi (by omega) (by omega)).1
  have e2 : (F.widths.all (inB · 1 60)) = true := by
    rw [List.all_eq_true]; intro x hx
    obtain ⟨i, hi, rfl⟩ := List.getElem_of_mem hx
    exact (h i (by omega) hi (by omega)).2.1
  have e3 : F.ls.Nodup := List.pairwise_iff_getElem.2 fun i j hi hj hij => (h j hj (by omega) (by omega)).2.2 i hij
  simp [Ab.fontB, h1, h2, h3, h4, e3, e1, e2]
theorem fontB_let {F : Fnt} {k : Nat} (hk : k < F.ls.length) (h : letB F.ls[k] = false) : fontB F = false := by
  have := all_not hk h
  unfold fontB; rw [this]; simp
theorem fontB_wid {F : Fnt} {k : Nat} (hk : k < F.widths.length) (h : inB F.widths[k] 1 60 = false) : fontB F = false := by
  have := all_not (p := (inB · 1 60)) hk h
  unfold fontB; rw [this]; simp
theorem fontB_dup {F : Fnt} {j k : Nat} (hk : k < F.ls.length) (hj : j < k) (h : F.ls[j] = F.ls[k]) : fontB F = false := by
  have : ¬ F.ls.Nodup := fun hn => List.pairwise_iff_getElem.1 hn j k (by omega) hk hj h
  unfold fontB; simp [this]

theorem specFontOk_ac {w : Bool} {h : Heap} {F : Fnt} {vW vC : Value} {LW LC : List Nat} (r : RF w h F vW vC LW LC) : AC Try.prog 120 [fval F vW vC] h [] fun r h' => r = .bool (fontB F) ∧ h' = h := by
  refine AC_v rfl ?_
  refine ac120 (by simp [p120]) ?_
  have r' := r.kp0 (.app [] h [some ⟨fcells F vW vC, 3, true⟩])
  unfold fcells at r'
  simp -implicitDefEqProofs [p120, fval, fcells, r.rW.one, r.rC.one]
  refine call1 (l1In_ac _ _ _) ?_
  have hn : (F.letters.size : Int) = F.n := rfl
  cases h1 : inB F.n 1 40
  · simp -implicitDefEqProofs [hn, h1, fontB]
  simp -implicitDefEqProofs [hn, h1, r'.rW.len]
  by_cases h2 : F.widths.length = F.n
  case neg =>
    have : ¬ (F.widths.length : Int) = F.n := by omega
    simp -implicitDefEqProofs [this, fontB, h2]
  simp -implicitDefEqProofs [h2, r'.rC.len]
  by_cases h3 : F.codes.length = F.n
  case neg =>
    have : ¬ (F.codes.length : Int) = F.n := by omega
    simp -implicitDefEqProofs [this, fontB, h3]
  simp -implicitDefEqProofs [h3]
  refine call1 (specSorts_ac r'.rC) ?_
  cases h4 : sortsB F.codes
  · simp -implicitDefEqProofs [fontB, h4]
  simp -implicitDefEqProofs
  have hN : F.n ≤ big := by
    have : inB F.n 1 40 = true := h1
    simp [inB] at this; unfold big; omega
  refine forUp f120_1 (.app _ _ _) F.n hN (by simp) (fun k s h' => h' = h ++ [some ⟨[.string F.letters, vW, vC], 3, true⟩] ∧ FontTo F k) ⟨rfl, fun i _ _ h => by omega⟩ ?_ ?_ ?_
  · rintro k s h' hk hi ⟨rfl, _⟩ _
    simp -implicitDefEqProofs [C120_1, K120_1, L120_1, hi]
  · rintro k s s2 h' hlt hi ⟨rfl, ha⟩ _
    have hk1 : k < F.ls.length := by rw [F.ls_len]; exact hlt
    have hk2 : k < F.widths.length := by omega
    have ek : F.letters.data.toList[k] = F.ls[k] := rfl
    have es := ixs_at Try.underlying9 hk1
    obtain ⟨i, o, ea, la, _⟩ := r'.rW.atI hk2
    simp -implicitDefEqProofs [b120_1, K120_1, L120_1, hi, es, ek]
    by_cases c1 : (F.ls[k].toNat : Int) < 33
    · have : letB F.ls[k] = false := by simp [letB]; omega
      simp -implicitDefEqProofs [c1, fontB_let hk1 this]
    simp -implicitDefEqProofs [c1, hi, es, ek]
    by_cases c2 : 126 < (F.ls[k].toNat : Int)
    · have : letB F.ls[k] = false := by simp [letB]; omega
      simp -implicitDefEqProofs [c2, hi, es, ek, fontB_let hk1 this]
    have hl : letB F.ls[k] = true := by simp [letB]; omega
    simp -implicitDefEqProofs [c2, hi, es, ek, ea, la]
    refine call1 (l1In_ac _ _ _) ?_
    cases hw : inB F.widths[k] 1 60
    · simp -implicitDefEqProofs [fontB_wid hk2 hw]
    simp -implicitDefEqProofs
    refine forUp f120_0 (.app _ _ _) k (by omega) (by simp) (fun j s h' => h' = h ++ [some ⟨[.string F.letters, vW, vC], 3, true⟩] ∧ DiffTo F k j) ⟨rfl, fun i _ _ h => by omega⟩ ?_ ?_ ?_
    · rintro j s h' hj hij ⟨rfl, _⟩ _
      simp -implicitDefEqProofs [C120_0, K120_0, L120_0, hij, hi, K120_1, L120_1]
    · rintro j s' s2' h' hj hij ⟨rfl, hd⟩ _
      have ej := ixs_at Try.underlying9 (s := F.letters) (k := j) (show j < F.ls.length by omega)
      have ek' : F.letters.data.toList[j]'(show j < F.ls.length by omega) = F.ls[j] := rfl
      simp -implicitDefEqProofs [b120_0, K120_0, L120_0, hij, hi, K120_1, L120_1, es, ej, ek, ek']
      by_cases c3 : F.ls[j] = F.ls[k]
      · have : decide ((F.ls[k].toNat : Int) = F.ls[j].toNat) = true := by simp [c3]
        simp -implicitDefEqProofs [this, fontB_dup hk1 hj c3]
      · have : decide ((F.ls[k].toNat : Int) = F.ls[j].toNat) = false := by
          simp only [decide_eq_false_iff_not]
          intro e
          exact c3 (UInt8.toNat_inj.1 (by omega)).symm
        simp -implicitDefEqProofs [this]
        intro i h1 h2 h3 h4
        rcases Nat.lt_or_ge i j with h' | h'
        · exact hd i h1 h2 h' h4
        · have : i = j := by omega
          subst this; exact c3
    · rintro s' s2' h' hij ⟨rfl, hd⟩ _
      simp -implicitDefEqProofs
      intro i h1 h2 h3
      rcases Nat.lt_or_ge i k with h' | h'
      · exact ha i h1 h2 h'
      · have : i = k := by omega
        subst this
        exact ⟨hl, hw, fun j hj => hd j (by omega) h1 hj hj⟩
  · rintro s s2 h' hi ⟨rfl, ha⟩ _
    simp -implicitDefEqProofs [ha.fontB h1 h2 h3 h4]
end Go.Proofs.Ytpenocegikjpaaa

/- Contracts: the program's fonts; matrices (both). -/
set_option linter.unusedSimpArgs false
set_option linter.unusedVariables false
set_option maxHeartbeats 1000000
namespace Go.Proofs.Ytpenocegikjpaaa
open Go.Ab

theorem between1_ac {h : Heap} {i j o p : Nat} {a b : Int} (ha : hc1 h i o = some (.int .i64 a)) (hb : hc1 h j p = some (.int .i64 b)) (x : Int) :
    AC Try.prog 161 [.int .i64 x, .pointer (some ⟨i, o, none⟩), .pointer (some ⟨j, p, none⟩)] h [] fun r h' => r = .bool (!inB x a b) ∧ h' = h := by
  refine ac161 (by simp [p161]) ?_
  simp -implicitDefEqProofs [p161, ha, hb]
  by_cases h1 : x < a
  · have : inB x a b = false := by simp [inB]; omega
    simp -implicitDefEqProofs [h1, this]
  · by_cases h2 : b < x
    · have : inB x a b = false := by simp [inB]; omega
      simp -implicitDefEqProofs [h1, h2, hb, this]
    · have : inB x a b = true := by simp [inB]; omega
      simp -implicitDefEqProofs [h1, h2, hb, this]
theorem between_ac {w : Bool} {h : Heap} {v : Value} {l : List Int} {L : List Nat} (r : RL w EI h v l L) (a b : Int) : AC Try.prog 152 [v, .int .i64 a, .int .i64 b] h [] fun r h' => r = .bool (l.all (inB · a b)) ∧ h' = h := by
  refine AC_v rfl ?_
  refine ac152 (by simp [p152]) ?_
  simp -implicitDefEqProofs [p152, boxV]
  refine call1 (ContainsI_ac (r.kp0 (.app _ _ _)) (p := fun x => !inB x a b) fun x _ => by simpa using between1_ac (h := h ++ [some ⟨[.int .i64 a], 1, true⟩, some ⟨[.int .i64 b], 1, true⟩]) (i := h.length) (o := 0) (j := h.length + 1) (p := 0) (a := a) (b := b) (by simp) (by simp) x) ?_
  simp -implicitDefEqProofs [any_not_all]

/-- Which bytes have been seen: those of l. -/
def SeenL (cells : List Value) (l : List UInt8) : Prop := cells.length = 256 ∧ ∀ b (hb : b < cells.length), cells[b] = .bool (decide (∃ x ∈ l, x.toNat = b))
theorem SeenL.none : SeenL (manyV 256 (.bool false)) [] := by
  refine ⟨manyV_len _ _, fun b hb => ?_⟩
  have : (manyV 256 (Value.bool false))[b] = .bool false := by unfold manyV; exact List.getElem_replicate _
  rw [this]
  congr 1
theorem SeenL.at {cells : List Value} {l : List UInt8} (h : SeenL cells l) (x : UInt8) : cells[x.toNat]? = some (.bool (decide (x ∈ l))) := by
  have hx : x.toNat < cells.length := by rw [h.1]; exact UInt8.toNat_lt x
  rw [List.getElem?_eq_getElem hx, h.2 _ hx]
  congr 2
  have : (∃ y ∈ l, y.toNat = x.toNat) ↔ x ∈ l := ⟨fun ⟨y, hy, e⟩ => by rw [← UInt8.toNat_inj.1 e]; exact hy, fun hy => ⟨x, hy, rfl⟩⟩
  exact decide_eq_decide.2 this
theorem SeenL.snoc {cells : List Value} {l : List UInt8} (h : SeenL cells l) (x : UInt8) : SeenL (cells.set x.toNat (.bool true)) (l ++ [x]) := by
  refine ⟨by simpa using h.1, fun b hb => ?_⟩
  rw [List.getElem_set]
  split
  · rename_i e; simp [e]
  · rename_i e
    rw [h.2 b (by simpa using hb)]
    congr 2
    simp [e]
/-- The state of the loop over the letters. -/
def LetTo (F : Fnt) (k : Nat) (H : Heap) (n : Nat) (box : AObj) : Prop := hob H n = some box ∧ (∃ cells, hob H (n + 1) = some ⟨cells, 256, true⟩ ∧ SeenL cells (F.ls.take k)) ∧ AllTo letB F.ls k ∧ (F.ls.take k).Nodup

theorem implFontOk_ac {w : Bool} {h : Heap} {F : Fnt} {vW vC : Value} {LW LC : List Nat} (r : RF w h F vW vC LW LC) : AC Try.prog 125 [fval F vW vC] h [] fun r h' => r = .bool (fontB F) ∧ h' = h := by
  refine AC_v rfl ?_
  refine ac125 (by simp [p125]) ?_
  have r' := r.kp0 (.app [] h [some ⟨fcells F vW vC, 3, true⟩])
  unfold fcells at r'
  simp -implicitDefEqProofs [p125, fval, fcells, r.rW.one, r.rC.one]
  have hn : (F.letters.size : Int) = F.n := rfl
  by_cases h1 : (F.n : Int) < 1
  · have : inB F.n 1 40 = false := by simp [inB]; omega
    simp -implicitDefEqProofs [hn, h1, fontB, this]
  simp -implicitDefEqProofs [hn, h1]
  by_cases h2 : 40 < (F.n : Int)
  · have : inB F.n 1 40 = false := by simp [inB]; omega
    simp -implicitDefEqProofs [hn, h2, fontB, this]
  have hin : inB F.n 1 40 = true := by simp [inB]; omega
  simp -implicitDefEqProofs [hn, h2, r'.rW.len]
  by_cases h3 : F.widths.length = F.n
  case neg =>
    have : ¬ (F.widths.length : Int) = F.n := by omega
    simp -implicitDefEqProofs [this, fontB, h3]
  simp -implicitDefEqProofs [h3, hn, r'.rC.len]
  by_cases h4 : F.codes.length = F.n
  case neg =>
    have : ¬ (F.codes.length : Int) = F.n := by omega
    simp -implicitDefEqProofs [this, fontB, h4]
  simp -implicitDefEqProofs [h4, manyV_len]
  have hLT : LetTo F 0 (h ++ [some ⟨[.string F.letters, vW, vC], 3, true⟩, some ⟨manyV 256 (.bool false), 256, true⟩]) h.length ⟨[.string F.letters, vW, vC], 3, true⟩ :=
    ⟨by simp, ⟨_, by simp; rfl, by simpa using SeenL.none⟩, .zero, by simp⟩
  generalize hH : h ++ [some (⟨[.string F.letters, vW, vC], 3, true⟩ : AObj), some ⟨manyV 256 (.bool false), 256, true⟩] = H at hLT ⊢
  have hkp : Kp [] h H := by rw [← hH]; exact .app _ _ _
  have hN : F.n ≤ big := by unfold big; omega
  refine range r125_0 hkp F.n hN (by simp [hn]) (by simp) (fun k s h' => LetTo F k h' h.length ⟨[.string F.letters, vW, vC], 3, true⟩ ∧ Kp [] h h') ⟨hLT, hkp⟩ ?_ ?_
  · rintro k s h' hlt hi ⟨⟨hb, ⟨cells, hcl, hsn⟩, ha, hnd⟩, hkp'⟩ _
    have hk1 : k < F.ls.length := by rw [F.ls_len]; exact hlt
    have ek : F.letters.data.toList[k] = F.ls[k] := rfl
    have es := ixs_at Try.underlying9 hk1
    simp -implicitDefEqProofs [b125_0, L125_0, hi, hc1, hb, es, ek]
    by_cases c1 : (F.ls[k].toNat : Int) < 33
    · have : letB F.ls[k] = false := by simp [letB]; omega
      simp -implicitDefEqProofs [c1, fontB_let hk1 this]
    simp -implicitDefEqProofs [c1]
    by_cases c2 : 126 < (F.ls[k].toNat : Int)
    · have : letB F.ls[k] = false := by simp [letB]; omega
      simp -implicitDefEqProofs [c2, fontB_let hk1 this]
    have hl : letB F.ls[k] = true := by simp [letB]; omega
    have hlt256 : (F.ls[k].toNat : Int) < 256 := by have := UInt8.toNat_lt F.ls[k]; omega
    simp -implicitDefEqProofs [c2, ixfV, hlt256, hc1, hcl, hsn.at]
    by_cases c3 : F.ls[k] ∈ F.ls.take k
    · obtain ⟨j, hj, e⟩ := List.getElem_of_mem c3
      have hj' : j < k := by simp at hj; omega
      rw [List.getElem_take] at e
      simp -implicitDefEqProofs [c3, fontB_dup hk1 hj' e]
    have hlen : F.ls[k].toNat < cells.length := by rw [hsn.1]; omega
    have hone : oneAll [Value.bool true] = true := rfl
    simp -implicitDefEqProofs [c3, strV, hcl, hlen, hb, ixfV, hlt256]
    rw [if_pos (by omega)]
    simp -implicitDefEqProofs
    have hi1 := hob_lt hcl
    refine ⟨⟨by rw [hob_set_ne (by omega)]; exact hb, ⟨_, hob_set hi1, ?_⟩, ha.step hk1 hl, ?_⟩, hkp'.trans (Kp.set _ _ _) (by simp)⟩
    · have := hsn.snoc F.ls[k]
      rw [List.set_eq_take_append_cons_drop, if_pos hlen] at this
      rw [take_snoc hk1]; exact this
    · rw [take_snoc hk1]
      exact List.nodup_append.2 ⟨hnd, by simp, fun a h1 b h2 e => by simp at h2; subst h2; subst e; exact c3 h1⟩
  · rintro s h' hi ⟨⟨hb, _, ha, hnd⟩, hkp'⟩ _
    have hle : F.ls.length = F.n := F.ls_len
    rw [← hle] at ha hnd
    rw [List.take_length] at hnd
    simp -implicitDefEqProofs [L125_0, hc1, hb]
    refine call1 (between_ac (r.kp0 hkp').rW _ _) ?_
    cases h5 : (F.widths.all (inB · 1 60))
    · simp -implicitDefEqProofs [fontB, h5]
    simp -implicitDefEqProofs [hc1, hb]
    refine call1 (implSorts_ac (r.kp0 hkp').rC) ?_
    have e := ha.done
    simp -implicitDefEqProofs [fontB, h5, hin, h3, h4, hnd, e]
end Go.Proofs.Ytpenocegikjpaaa

/- Contracts: matrices, magazines, measures, lines (both). -/
set_option linter.unusedSimpArgs false
set_option linter.unusedVariables false
set_option maxHeartbeats 1000000
namespace Go.Proofs.Ytpenocegikjpaaa
open Go.Ab

section
set_option maxRecDepth 100000
theorem stoodMx : Try.prog.stoodInHeld 42 = false := by kernel_rfl
theorem eqInt_pv (d : Nat) (x y : Int) : pv Try.prog (Op.equalIn (d + 1) 3 (.int .i64 x) (.int .i64 y)) = some (x == y) := by
  simp [Op.equalIn, underlying, program, bind, Sem.bind, pv, Try.underlying3, pure]
theorem partInt_pv {cs : Array Value} {j : Nat} {x : Int} (h : cs[j]? = some (.int .i64 x)) : pv Try.prog (part 3 cs j) = some (.int .i64 x) := by
  simp [part, isAgg, underlying, program, bind, Sem.bind, pv, Try.underlying3, pure, h]
theorem eqMx_pv (a b c d : Int) : pv Try.prog (Op.equal 42 (.agg #[.int .i64 a, .int .i64 b]) (.agg #[.int .i64 c, .int .i64 d])) = some (a == c && b == d) := by
  have e2 : ∀ (x y : Int), pv Try.prog (part 3 #[.int .i64 x, .int .i64 y] 0) = some (.int .i64 x) := fun x y => partInt_pv rfl
  have e3 : ∀ (x y : Int), pv Try.prog (part 3 #[.int .i64 x, .int .i64 y] 1) = some (.int .i64 y) := fun x y => partInt_pv rfl
  have e4 : ∀ (x y : Int), pv Try.prog (Op.equalIn 9999 3 (.int .i64 x) (.int .i64 y)) = some (x == y) := eqInt_pv 9998
  unfold Op.equal Op.maxDepth
  rw [show 10000 = 9999 + 1 from rfl]
  unfold Op.equalIn
  simp only [underlying, program, bind, Sem.bind, pv, Try.underlying42, pure, stoodMx]
  simp [pv_bind, e2, e3, e4, pv, List.forIn_toArray, List.forIn_cons, bind, pure]
  by_cases h1 : a = c <;> by_cases h2 : b = d <;> simp [h1, h2, pv, pv_bind, Sem.bind, e2, e3, e4]
theorem bin_eqMx {h : Heap} (a b c d : Int) : binV Try.prog .eql 42 (.agg #[.int .i64 a, .int .i64 b]) (.agg #[.int .i64 c, .int .i64 d]) h = some ([], .bool (decide ((a, b) = (c, d))), h) := by
  have : pvc Try.prog (binOp .eql 42 (.agg #[.int .i64 a, .int .i64 b]) (.agg #[.int .i64 c, .int .i64 d])) = some (.bool (decide ((a, b) = (c, d)))) := by
    show (pv Try.prog ((Op.equal 42 (.agg #[.int .i64 a, .int .i64 b]) (.agg #[.int .i64 c, .int .i64 d])).bind fun r => Sem.pure (Value.bool r))).bind _ = _
    rw [pv_bind, eqMx_pv]
    by_cases h1 : a = c <;> by_cases h2 : b = d <;> simp [pv, h1, h2]
  unfold binV
  rw [this]
  simp [closedB, atomB, notNilI]
theorem bin_neMx {h : Heap} (a b c d : Int) : binV Try.prog .neq 42 (.agg #[.int .i64 a, .int .i64 b]) (.agg #[.int .i64 c, .int .i64 d]) h = some ([], .bool (!decide ((a, b) = (c, d))), h) := by
  have : pvc Try.prog (binOp .neq 42 (.agg #[.int .i64 a, .int .i64 b]) (.agg #[.int .i64 c, .int .i64 d])) = some (.bool (!decide ((a, b) = (c, d)))) := by
    show (pv Try.prog ((Op.equal 42 (.agg #[.int .i64 a, .int .i64 b]) (.agg #[.int .i64 c, .int .i64 d])).bind fun r => Sem.pure (Value.bool (!r)))).bind _ = _
    rw [pv_bind, eqMx_pv]
    by_cases h1 : a = c <;> by_cases h2 : b = d <;> simp [pv, h1, h2]
  unfold binV
  rw [this]
  simp [closedB, atomB, notNilI]
end
theorem isBand_ac {h : Heap} (a b : Int) : AC Try.prog 79 [.agg #[.int .i64 a, .int .i64 b]] h [] fun r h' => r = .bool (bandB (a, b)) ∧ h' = h := by
  refine AC_v rfl ?_
  refine ac79 (by simp [p79]) ?_
  simp -implicitDefEqProofs [p79, bldV, bin_eqMx]
  simp [bandB]

section
variable {w : Bool} {h : Heap} {F : Fnt} {vW vC : Value} {LW LC : List Nat}
theorem l2Matrix_ac (hF : fontB F = true) (r : RF w h F vW vC LW LC) (a b : Int) : AC Try.prog 67 [fval F vW vC, .agg #[.int .i64 a, .int .i64 b]] h [] fun r h' => r = .bool (mxB F (a, b)) ∧ h' = h := by
  obtain ⟨n1, n2, n3, n4⟩ := fontB_n hF
  refine AC_v rfl ?_
  refine ac67 (by simp [p67]) ?_
  have r' := r.kp0 (.app [] h [some ⟨[.string F.letters, vW, vC], 3, true⟩, some ⟨[.int .i64 a, .int .i64 b], 2, true⟩])
  have hn : (F.letters.size : Int) = F.n := rfl
  have hw : IntKind.wrap .i64 ((F.n : Int) - 1) = F.n - 1 := wrap_in (by omega)
  simp -implicitDefEqProofs [p67, fval, fcells, r.rW.one, r.rC.one, hn, hw]
  refine call1 (l1In_ac _ _ _) ?_
  by_cases h1 : 0 ≤ a ∧ a < F.n
  case neg =>
    have : inB a 0 (F.n - 1) = false := by simp [inB]; omega
    simp -implicitDefEqProofs [this, mxB_out h1]
  have hin : inB a 0 (F.n - 1) = true := by simp [inB]; omega
  obtain ⟨k, rfl⟩ : ∃ k : Nat, a = k := ⟨a.toNat, by omega⟩
  have hk : k < F.codes.length := by omega
  simp -implicitDefEqProofs [hin]
  refine call1 (l1Set_ac _) ?_
  rw [mxB_eq hF hk]
  cases h2 : setB b
  · simp -implicitDefEqProofs
  obtain ⟨i, o, ea, la, _⟩ := r'.rC.atI hk
  simp -implicitDefEqProofs [ea, la]
  refine call1 (l1Part_ac _ _) ?_
  simp -implicitDefEqProofs
theorem ofFont_ac (hF : fontB F = true) (r : RF w h F vW vC LW LC) (a b : Int) : AC Try.prog 72 [fval F vW vC, .agg #[.int .i64 a, .int .i64 b]] h [] fun r h' => r = .bool (mxB F (a, b)) ∧ h' = h := by
  obtain ⟨n1, n2, n3, n4⟩ := fontB_n hF
  refine AC_v rfl ?_
  refine ac72 (by simp [p72]) ?_
  have r' := r.kp0 (.app [] h [some ⟨[.string F.letters, vW, vC], 3, true⟩, some ⟨[.int .i64 a, .int .i64 b], 2, true⟩])
  have hn : (F.letters.size : Int) = F.n := rfl
  simp -implicitDefEqProofs [p72, fval, fcells, r.rW.one, r.rC.one, hn]
  by_cases h0 : 0 ≤ a
  case neg => simp -implicitDefEqProofs [h0, mxB_out (F := F) (a := a) (b := b) (by omega)]
  by_cases h1 : a < F.n
  case neg => simp -implicitDefEqProofs [h0, h1, hn, mxB_out (F := F) (a := a) (b := b) (by omega)]
  obtain ⟨k, rfl⟩ : ∃ k : Nat, a = k := ⟨a.toNat, by omega⟩
  have hk : k < F.codes.length := by omega
  have h1' : k < F.n := by omega
  simp -implicitDefEqProofs [h0, h1, h1', hn]
  refine call1 (isSet_ac _) ?_
  rw [mxB_eq hF hk]
  cases h2 : setB b
  · simp -implicitDefEqProofs
  obtain ⟨i, o, ea, la, _⟩ := r'.rC.atI hk
  simp -implicitDefEqProofs [ea, la]
  refine call1 (part_ac _ _) ?_
  simp -implicitDefEqProofs
end
end Go.Proofs.Ytpenocegikjpaaa

/- Contracts: magazines, measures, lines (both). -/
set_option linter.unusedSimpArgs false
set_option linter.unusedVariables false
set_option maxHeartbeats 1000000
namespace Go.Proofs.Ytpenocegikjpaaa
open Go.Ab

section
variable {w : Bool} {h : Heap} {v : Value} {l : List Mx} {L : List Nat}
theorem IndexX_ac (r : RL w EX h v l L) {g : FuncId} {ys zs : Array Value} {p : Mx → Bool} (hp : ∀ x ∈ l, AC Try.prog g (ys.toList ++ [.agg #[.int .i64 x.1, .int .i64 x.2]] ++ zs.toList) h [] fun r h' => r = .bool (p x) ∧ h' = h) :
    AC Try.prog 130 [v, .func (.func g) ys zs] h [] fun r h' => r = .int .i64 (idxI l p) ∧ h' = h := by
  refine ac130 (by simp [p130]) ?_
  simp -implicitDefEqProofs [p130, r.len]
  refine range r130_0 (.refl _ _) l.length r.bd (by simp) (by simp) (fun k s h1 => h1 = h ∧ NoneTo p l k) ⟨rfl, .zero⟩ ?_ ?_
  · rintro k s h1 hk hi ⟨rfl, ha⟩ _
    obtain ⟨i, o, ea, la, _⟩ := r.atX hk
    simp -implicitDefEqProofs [b130_0, L130_0, hi, ea, la]
    refine callF1 (hp _ (List.getElem_mem hk)) ?_
    cases hs : p l[k]
    · simp -implicitDefEqProofs
      exact ha.step hk hs
    · simp -implicitDefEqProofs [ha.idxI hk hs]
  · rintro s h1 hi ⟨rfl, ha⟩ _
    simp -implicitDefEqProofs [L130_0, ha.noIdx]
theorem ContainsX_ac (r : RL w EX h v l L) {g : FuncId} {ys zs : Array Value} {p : Mx → Bool} (hp : ∀ x ∈ l, AC Try.prog g (ys.toList ++ [.agg #[.int .i64 x.1, .int .i64 x.2]] ++ zs.toList) h [] fun r h' => r = .bool (p x) ∧ h' = h) :
    AC Try.prog 77 [v, .func (.func g) ys zs] h [] fun r h' => r = .bool (l.any p) ∧ h' = h := by
  refine ac77 (by simp [p77]) ?_
  simp -implicitDefEqProofs [p77]
  refine call1 (IndexX_ac r hp) ?_
  simp -implicitDefEqProofs [idxI_ge]
end
section
variable {w : Bool} {h : Heap} {F : Fnt} {vW vC : Value} {LW LC : List Nat}
theorem allOf1_ac (hF : fontB F = true) (r : RF w h F vW vC LW LC) {i : Nat} (hi : hob h i = some ⟨fcells F vW vC, 3, true⟩) (a b : Int) :
    AC Try.prog 129 [.agg #[.int .i64 a, .int .i64 b], .pointer (some ⟨i, 0, none⟩)] h [] fun r h' => r = .bool (!mxB F (a, b)) ∧ h' = h := by
  refine AC_v rfl ?_
  refine ac129 (by simp [p129]) ?_
  have hi' : hob (h ++ [some ⟨[.int .i64 a, .int .i64 b], 2, true⟩]) i = some ⟨fcells F vW vC, 3, true⟩ := hob_kp (.app [] _ _) hi (by simp)
  unfold fcells at hi'
  simp -implicitDefEqProofs [p129, hcs, hi']
  refine call1 (ofFont_ac hF (r.kp0 (.app [] _ _)) a b) ?_
  simp -implicitDefEqProofs
theorem allOf_ac (hF : fontB F = true) (r : RF w h F vW vC LW LC) {w' : Bool} {v : Value} {l : List Mx} {L : List Nat} (rl : RL w' EX h v l L) :
    AC Try.prog 76 [fval F vW vC, v] h [] fun r h' => r = .bool (l.all (mxB F)) ∧ h' = h := by
  refine AC_v rfl ?_
  refine ac76 (by simp [p76]) ?_
  simp -implicitDefEqProofs [p76, fval, fcells, r.rW.one, r.rC.one]
  refine call1 (ContainsX_ac (rl.kp0 (.app _ _ _)) (ys := #[]) (p := fun x => !mxB F x) fun x _ => by
    simpa using allOf1_ac hF (r.kp0 (.app [] h [some ⟨[.string F.letters, vW, vC], 3, true⟩])) (i := h.length) (by simp [fcells]) x.1 x.2) ?_
  simp -implicitDefEqProofs [any_not_all]
theorem implMagOk_ac (r : RF w h F vW vC LW LC) {w' : Bool} {v : Value} {m : List (List Mx)} {L : List Nat} (rm : RXX w' h v m L) :
    AC Try.prog 71 [fval F vW vC, v] h [] fun r h' => r = .bool (magB F m) ∧ h' = h := by
  refine AC_v rfl ?_
  refine ac71 (by simp [p71]) ?_
  have r' := r.kp0 (.app [] h [some ⟨[.string F.letters, vW, vC], 3, true⟩])
  have rm' := rm.kp0 (.app [] h [some ⟨[.string F.letters, vW, vC], 3, true⟩])
  have hn : (F.letters.size : Int) = F.n := rfl
  simp -implicitDefEqProofs [p71, fval, fcells, r.rW.one, r.rC.one]
  refine call1 (implFontOk_ac r') ?_
  cases hF : fontB F
  · simp -implicitDefEqProofs [magB, hF]
  simp -implicitDefEqProofs [rm.len, hn]
  by_cases h2 : m.length = F.n
  case neg =>
    have : ¬ (m.length : Int) = F.n := by omega
    simp -implicitDefEqProofs [this, magB, h2]
  simp -implicitDefEqProofs [h2, rm.len]
  refine range r71_0 (.app _ _ _) m.length rm.bd (by simp [h2]) (by simp) (fun k s h1 => h1 = h ++ [some ⟨[.string F.letters, vW, vC], 3, true⟩] ∧ AllTo (chanB F) m k) ⟨rfl, .zero⟩ ?_ ?_
  · rintro k s h1 hk hi ⟨rfl, ha⟩ _
    obtain ⟨i, o, u, L1, ea, la, ru, _⟩ := rm'.at hk
    simp -implicitDefEqProofs [b71_0, L71_0, hi, ea, la, ru.len]
    by_cases c1 : (20 : Int) < m[k].length
    · have : chanB F m[k] = false := by simp [chanB]; intro h; omega
      simp -implicitDefEqProofs [c1, magB, all_not hk this]
    simp -implicitDefEqProofs [c1]
    refine call1 (allOf_ac hF r' ru) ?_
    cases c2 : m[k].all (mxB F)
    · have : chanB F m[k] = false := by simp only [chanB, c2, Bool.and_false]
      simp -implicitDefEqProofs [magB, all_not hk this]
    have : chanB F m[k] = true := by simp only [chanB, c2, Bool.and_true, decide_eq_true_eq]; omega
    simp -implicitDefEqProofs
    exact ha.step hk this
  · rintro s h1 hi ⟨rfl, ha⟩ _
    simp -implicitDefEqProofs [L71_0, magB, hF, h2, ha.done]
theorem specMagOk_ac (r : RF w h F vW vC LW LC) {w' : Bool} {v : Value} {m : List (List Mx)} {L : List Nat} (rm : RXX w' h v m L) :
    AC Try.prog 64 [fval F vW vC, v] h [] fun r h' => r = .bool (magB F m) ∧ h' = h := by
  refine AC_v rfl ?_
  refine ac64 (by simp [p64]) ?_
  have r' := r.kp0 (.app [] h [some ⟨[.string F.letters, vW, vC], 3, true⟩])
  have rm' := rm.kp0 (.app [] h [some ⟨[.string F.letters, vW, vC], 3, true⟩])
  have hb0 : hob (h ++ [some (⟨[.string F.letters, vW, vC], 3, true⟩ : AObj)]) h.length = some ⟨[.string F.letters, vW, vC], 3, true⟩ := by simp
  have hn : (F.letters.size : Int) = F.n := rfl
  simp -implicitDefEqProofs [p64, fval, fcells, r.rW.one, r.rC.one]
  refine call1 (specFontOk_ac r') ?_
  cases hF : fontB F
  · simp -implicitDefEqProofs [magB, hF]
  simp -implicitDefEqProofs [rm.len, hn]
  by_cases h2 : m.length = F.n
  case neg =>
    have : ¬ (m.length : Int) = F.n := by omega
    simp -implicitDefEqProofs [this, magB, h2]
  simp -implicitDefEqProofs [h2, rm.len]
  refine range r64_1 (.app _ _ _) m.length rm.bd (by simp [h2]) (by simp) (fun k s h1 => Kp [] (h ++ [some ⟨[.string F.letters, vW, vC], 3, true⟩]) h1 ∧ AllTo (chanB F) m k) ⟨.refl _ _, .zero⟩ ?_ ?_
  · rintro k s h1 hk hi ⟨kp, ha⟩ kp1
    obtain ⟨i, o, u, L1, ea, la, ru, _⟩ := (rm'.kp0 kp).at hk
    simp -implicitDefEqProofs [b64_1, L64_1, hi, ea, la, ru.len]
    by_cases c1 : (20 : Int) < m[k].length
    · have : chanB F m[k] = false := by simp [chanB]; intro h; omega
      simp -implicitDefEqProofs [c1, magB, all_not hk this]
    simp -implicitDefEqProofs [c1, ru.len]
    refine range r64_0 kp1 m[k].length ru.bd (by simp) (by simp) (fun j s h2 => Kp [] h1 h2 ∧ AllTo (mxB F) m[k] j) ⟨.refl _ _, .zero⟩ ?_ ?_
    · rintro j s' h3 hj hij ⟨kq, hb⟩ kq1
      obtain ⟨i', o', ea', la', _⟩ := (ru.kp0 kq).atX hj
      have hob3 := hob_kp kq (hob_kp kp hb0 (by simp)) (by simp)
      have hl3 := hob_lt hob3
      have hob4 : hob (h3 ++ [some ⟨[.int .i64 m[k][j].1, .int .i64 m[k][j].2], 2, true⟩]) h.length = some ⟨[.string F.letters, vW, vC], 3, true⟩ := hob_kp (.app [] _ _) hob3 (by simp)
      have hge : h.length ≤ h3.length := by omega
      simp -implicitDefEqProofs [b64_0, L64_0, L64_1, hij, ea', la', strV, mt_ge hge, hcs_hob hob4]
      refine call1 (l2Matrix_ac hF (r.kp0 (kq1.then0 (.app _ _ _))) _ _) ?_
      cases c2 : mxB F m[k][j]
      · have : chanB F m[k] = false := by simp only [chanB, all_not hj c2, Bool.and_false]
        simp -implicitDefEqProofs [magB, all_not hk this, c2]
      simp -implicitDefEqProofs [c2]
      exact ⟨kq.then0 (.app _ _ _), hb.step hj c2⟩
    · rintro s' h3 hij ⟨kq, hb⟩ kq1
      have : chanB F m[k] = true := by simp only [chanB, hb.done, Bool.and_true, decide_eq_true_eq]; omega
      simp -implicitDefEqProofs [L64_0, L64_1]
      exact ⟨kp.then0 kq, ha.step hk this⟩
  · rintro s h1 hi ⟨kp, ha⟩ _
    simp -implicitDefEqProofs [L64_1, magB, hF, h2, ha.done]
end
end Go.Proofs.Ytpenocegikjpaaa

/- Contracts: measures and lines (both). -/
set_option linter.unusedSimpArgs false
set_option linter.unusedVariables false
set_option maxHeartbeats 1000000
namespace Go.Proofs.Ytpenocegikjpaaa
open Go.Ab

theorem implMsrOk_ac {h : Heap} (S : Msr) : AC Try.prog 142 [S.v] h [] fun r h' => r = .bool (msrB S) ∧ h' = h := by
  refine AC_v rfl ?_
  refine ac142 (by simp [p142]) ?_
  simp -implicitDefEqProofs [p142, Msr.v]
  have key : ∀ b : Bool, (msrB S = b) = (msrB S = b) := fun _ => rfl
  by_cases h1 : 1 ≤ S.width
  case neg => simp -implicitDefEqProofs [h1, msrB, inB]
  simp -implicitDefEqProofs [h1]
  by_cases h2 : S.width ≤ 2000
  case neg => simp -implicitDefEqProofs [h2, msrB, inB]
  simp -implicitDefEqProofs [h2]
  by_cases h3 : 1 ≤ S.thin
  case neg => simp -implicitDefEqProofs [h3, msrB, inB]
  simp -implicitDefEqProofs [h3]
  by_cases h4 : S.thin ≤ 100
  case neg => simp -implicitDefEqProofs [h4, msrB, inB]
  simp -implicitDefEqProofs [h4]
  by_cases h5 : S.thin ≤ S.thick
  case neg => simp -implicitDefEqProofs [h5, msrB, inB]
  simp -implicitDefEqProofs [h5]
  simp -implicitDefEqProofs [msrB, inB, h1, h2, h3, h4, h5]
theorem specMsrOk_ac {h : Heap} (S : Msr) : AC Try.prog 66 [S.v] h [] fun r h' => r = .bool (msrB S) ∧ h' = h := by
  refine AC_v rfl ?_
  refine ac66 (by simp [p66]) ?_
  simp -implicitDefEqProofs [p66, Msr.v]
  refine call1 (l1In_ac _ _ _) ?_
  cases h1 : inB S.width 1 2000
  · simp -implicitDefEqProofs [msrB, h1]
  simp -implicitDefEqProofs
  refine call1 (l1In_ac _ _ _) ?_
  cases h2 : inB S.thin 1 100
  · simp -implicitDefEqProofs [msrB, h2]
  simp -implicitDefEqProofs
  refine call1 (l1In_ac _ _ _) ?_
  simp -implicitDefEqProofs [msrB, h1, h2]

section
variable {w : Bool} {h : Heap} {v : Value} {l : List Int} {L : List Nat}
theorem implLineOk_ac (r : RL w EI h v l L) : AC Try.prog 143 [v] h [] fun r h' => r = .bool (lineB l) ∧ h' = h := by
  refine ac143 (by simp [p143]) ?_
  simp -implicitDefEqProofs [p143, r.len]
  by_cases h1 : (l.length : Int) ≤ 120
  case neg =>
    have : lineB l = false := by unfold lineB; rw [show decide (l.length ≤ 120) = false by simp; omega]; rfl
    simp -implicitDefEqProofs [h1, this]
  have hd : decide (l.length ≤ 120) = true := by simp; omega
  simp -implicitDefEqProofs [h1]
  refine call1 (between_ac r _ _) ?_
  simp -implicitDefEqProofs [lineB, hd]
theorem specLineOk_ac (r : RL w EI h v l L) : AC Try.prog 124 [v] h [] fun r h' => r = .bool (lineB l) ∧ h' = h := by
  refine ac124 (by simp [p124]) ?_
  simp -implicitDefEqProofs [p124, r.len]
  refine range r124_0 (.refl _ _) l.length r.bd (by simp) (by simp) (fun k s h1 => h1 = h ∧ AllTo (inB · 0 60) l k) ⟨rfl, .zero⟩ ?_ ?_
  · rintro k s h1 hk hi ⟨rfl, ha⟩ _
    obtain ⟨i, o, ea, la, _⟩ := r.atI hk
    simp -implicitDefEqProofs [b124_0, L124_0, hi, ea, la]
    refine call1 (l1In_ac _ _ _) ?_
    cases hs : inB l[k] 0 60
    · have := all_not (p := (inB · 0 60)) hk hs
      simp -implicitDefEqProofs [lineB, this]
    · simp -implicitDefEqProofs
      exact ha.step hk hs
  · rintro s h1 hi ⟨rfl, ha⟩ _
    have e := ha.done
    have hd : decide ((l.length : Int) ≤ 120) = decide (l.length ≤ 120) := decide_eq_decide.2 (by omega)
    simp -implicitDefEqProofs [L124_0, r.len, lineB, e, hd]

def pairV (a b : Int) : Value := .tuple #[.int .i64 a, .int .i64 b]
theorem implSum_ac (r : RL w EI h v l L) : AC Try.prog 141 [v] h [] fun r h' => r = pairV (sumW l) (bandsN l) ∧ h' = h := by
  refine ac141 (by simp [p141]) ?_
  simp -implicitDefEqProofs [p141, r.len]
  refine range r141_0 (.refl _ _) l.length r.bd (by simp) (by simp) (fun k s h1 => h1 = h ∧ s 4 = .int .i64 (sumW (l.take k)) ∧ s 5 = .int .i64 (bandsN (l.take k))) (by simp [sumW, bandsN]) ?_ ?_
  · rintro k s h1 hk hi ⟨rfl, h4, h5⟩ _
    obtain ⟨i, o, ea, la, _⟩ := r.atI hk
    have hb := bandsN_le (l.take k)
    have hbd := r.bd
    unfold big at hbd
    simp at hb
    simp -implicitDefEqProofs [b141_0, L141_0, hi, ea, la, h4, h5]
    rw [take_snoc hk, sumW_snoc, bandsN_snoc]
    by_cases hz : l[k] = 0
    · have : IntKind.wrap .i64 ((bandsN (l.take k) : Int) + 1) = bandsN (l.take k) + 1 := wrap_in (by omega)
      simp -implicitDefEqProofs [hz, h5, this]
    · simp -implicitDefEqProofs [hz, h5]
  · rintro s h1 hi ⟨rfl, h4, h5⟩ _
    rw [List.take_length] at h4 h5
    simp -implicitDefEqProofs [L141_0, h4, h5, resA_2, pairV]
theorem specSum_ac (r : RL w EI h v l L) : AC Try.prog 123 [v] h [] fun r h' => r = pairV (sumW l) (bandsN l) ∧ h' = h := by
  refine ac123 (by simp [p123]) ?_
  simp -implicitDefEqProofs [p123, r.len]
  refine range r123_0 (.refl _ _) l.length r.bd (by simp) (by simp) (fun k s h1 => h1 = h ∧ s 4 = .int .i64 (sumW (l.take k)) ∧ s 5 = .int .i64 (bandsN (l.take k))) (by simp [sumW, bandsN]) ?_ ?_
  · rintro k s h1 hk hi ⟨rfl, h4, h5⟩ _
    obtain ⟨i, o, ea, la, _⟩ := r.atI hk
    have hb := bandsN_le (l.take k)
    have hbd := r.bd
    unfold big at hbd
    simp at hb
    simp -implicitDefEqProofs [b123_0, L123_0, hi, ea, la, h4, h5]
    rw [take_snoc hk, sumW_snoc, bandsN_snoc]
    by_cases hz : l[k] = 0
    · have : IntKind.wrap .i64 ((bandsN (l.take k) : Int) + 1) = bandsN (l.take k) + 1 := wrap_in (by omega)
      simp -implicitDefEqProofs [hz, h5, this]
    · simp -implicitDefEqProofs [hz, h5]
  · rintro s h1 hi ⟨rfl, h4, h5⟩ _
    rw [List.take_length] at h4 h5
    simp -implicitDefEqProofs [L123_0, h4, h5, resA_2, pairV]

/-- Whether a line fits a measure, as the reference's helper tells it: the measure itself is not looked at. -/
theorem l3Fits_ac {S : Msr} (hS : msrB S = true) (r : RL w EI h v l L) : AC Try.prog 68 [S.v, v] h [] fun r h' => r = .bool (fitsB S l) ∧ h' = h := by
  refine AC_v rfl ?_
  refine ac68 (by simp [p68]) ?_
  simp -implicitDefEqProofs [p68, Msr.v]
  have r' := r.kp0 (.app [] h [some ⟨[.int .i64 S.width, .int .i64 S.thin, .int .i64 S.thick], 3, true⟩])
  refine call1 (specSum_ac r') ?_
  simp -implicitDefEqProofs [pairV]
  refine call1 (specLineOk_ac r') ?_
  cases hl : lineB l
  · simp -implicitDefEqProofs [fitsB, hl]
  have b1 := line_bd hl
  have b2 := msrB_bd hS
  have b3 := mul_bd (a := (bandsN l : Int)) (b := S.thin) (by omega) (by omega)
  rw [sumW_eq hl]
  have w1 : IntKind.wrap .i64 ((bandsN l : Int) * S.thin) = bandsN l * S.thin := wrap_in (by omega)
  have w2 : IntKind.wrap .i64 (l.sum + (bandsN l : Int) * S.thin) = l.sum + bandsN l * S.thin := wrap_in (by omega)
  simp -implicitDefEqProofs [w1, w2, fitsB, hl, hS]

theorem spread_ac {S : Msr} (hS : msrB S = true) {a b : Int} (ha : 0 ≤ a ∧ a ≤ 100000) (hb : 0 ≤ b ∧ b ≤ 120) : AC Try.prog 154 [S.v, .int .i64 a, .int .i64 b] h [] fun r h' => r = tripleV (spreadT S a b) ∧ h' = h := by
  have b2 := msrB_bd hS
  have b3 := mul_bd (a := b) (b := S.thin) (by omega) (by omega)
  refine AC_v rfl ?_
  refine ac154 (by simp [p154]) ?_
  have w0 : IntKind.wrap .i64 (S.width - a) = S.width - a := wrap_in (by omega)
  have w1 : IntKind.wrap .i64 (b * S.thin) = b * S.thin := wrap_in (by omega)
  have w2 : IntKind.wrap .i64 (S.width - a - b * S.thin) = S.width - a - b * S.thin := wrap_in (by omega)
  simp -implicitDefEqProofs [p154, Msr.v, w0, w1, w2]
  by_cases hf : S.width - a - b * S.thin < 0
  · simp -implicitDefEqProofs [hf, resA_2, tripleV, spreadT]
  simp -implicitDefEqProofs [hf]
  by_cases hb0 : 0 < b
  · have w3 : IntKind.wrap .i64 (S.thick - S.thin) = S.thick - S.thin := wrap_in (by omega)
    have hq : (S.width - a - b * S.thin).tdiv b = (S.width - a - b * S.thin) / b := Int.tdiv_eq_ediv_of_nonneg (by omega)
    have hq1 : 0 ≤ (S.width - a - b * S.thin) / b := Int.ediv_nonneg (by omega) (by omega)
    have hq2 : (S.width - a - b * S.thin) / b ≤ S.width - a - b * S.thin := Int.ediv_le_self _ (by omega)
    have w4 : IntKind.wrap .i64 ((S.width - a - b * S.thin) / b) = (S.width - a - b * S.thin) / b := wrap_in (by omega)
    have hm : 0 ≤ min (S.thick - S.thin) ((S.width - a - b * S.thin) / b) ∧ min (S.thick - S.thin) ((S.width - a - b * S.thin) / b) ≤ 100 := by omega
    have b4 := mul_bd (a := b) (b := min (S.thick - S.thin) ((S.width - a - b * S.thin) / b)) (by omega) hm
    have w5 : IntKind.wrap .i64 (b * min (S.thick - S.thin) ((S.width - a - b * S.thin) / b)) = b * min (S.thick - S.thin) ((S.width - a - b * S.thin) / b) := wrap_in (by omega)
    have w6 : IntKind.wrap .i64 (S.width - a - b * S.thin - b * min (S.thick - S.thin) ((S.width - a - b * S.thin) / b)) = S.width - a - b * S.thin - b * min (S.thick - S.thin) ((S.width - a - b * S.thin) / b) := wrap_in (by omega)
    simp -implicitDefEqProofs [hb0, w3, bin_quo (show b ≠ 0 by omega), hq, w4, w5, w6, resA_2, tripleV, spreadT, hf]
  · have hb1 : b = 0 := by omega
    subst hb1
    have w6 : IntKind.wrap .i64 (S.width - a) = S.width - a := wrap_in (by omega)
    simp -implicitDefEqProofs [resA_2, tripleV, spreadT, w6, show IntKind.wrap .i64 0 = 0 from rfl]
    simp at hf
    rw [if_neg (by omega)]
    simp
theorem SpreadLine_ac (S : Msr) (r : RL w EI h v l L) : AC Try.prog 131 [S.v, v] h [] fun r h' => r = tripleV (spreadL S l) ∧ h' = h := by
  refine AC_v rfl ?_
  refine ac131 (by simp [p131]) ?_
  simp -implicitDefEqProofs [p131, Msr.v]
  have r' := r.kp0 (.app [] h [some ⟨[.int .i64 S.width, .int .i64 S.thin, .int .i64 S.thick], 3, true⟩])
  refine call1 (implMsrOk_ac S) ?_
  cases hS : msrB S
  · simp -implicitDefEqProofs [resA_2, tripleV, spreadL, hS]
  simp -implicitDefEqProofs
  refine call1 (implLineOk_ac r') ?_
  cases hl : lineB l
  · simp -implicitDefEqProofs [resA_2, tripleV, spreadL, hS, hl]
  simp -implicitDefEqProofs
  refine call1 (implSum_ac r') ?_
  simp -implicitDefEqProofs [pairV]
  have b1 := line_bd hl
  rw [sumW_eq hl]
  refine call1 (spread_ac hS (a := l.sum) (b := bandsN l) (by omega) (by omega)) ?_
  simp -implicitDefEqProofs [resA_2, tripleV, spreadL, hS, hl]
theorem fits_ac (S : Msr) (r : RL w EI h v l L) : AC Try.prog 80 [S.v, v] h [] fun r h' => r = .bool (fitsB S l) ∧ h' = h := by
  refine AC_v rfl ?_
  refine ac80 (by simp [p80]) ?_
  simp -implicitDefEqProofs [p80, Msr.v]
  have r' := r.kp0 (.app [] h [some ⟨[.int .i64 S.width, .int .i64 S.thin, .int .i64 S.thick], 3, true⟩])
  refine call1 (SpreadLine_ac S r') ?_
  simp -implicitDefEqProofs [tripleV, spreadL_fits]
end
end Go.Proofs.Ytpenocegikjpaaa

/- Contracts: items, machines (both). -/
set_option linter.unusedSimpArgs false
set_option linter.unusedVariables false
set_option maxHeartbeats 1000000
namespace Go.Proofs.Ytpenocegikjpaaa
open Go.Ab

theorem pieceB_neg {F : Fnt} {x : Mx} (h : pieceB F x = true) : bandB x = decide (x.1 < 0) := by
  simp only [pieceB, Bool.or_eq_true] at h
  rcases h with h | h
  · rw [h]
    simp only [bandB, decide_eq_true_eq] at h
    subst h; rfl
  · have := mxB_in h
    have h1 : bandB x = false := by
      simp only [bandB, decide_eq_false_iff_not]
      rintro rfl; simp at this
    rw [h1]; simp; omega
theorem pieceB_in {F : Fnt} {x : Mx} (h : pieceB F x = true) (hn : ¬ x.1 < 0) : 0 ≤ x.1 ∧ x.1 < F.n := by
  simp only [pieceB, Bool.or_eq_true] at h
  rcases h with h | h
  · simp only [bandB, decide_eq_true_eq] at h
    subst h; simp at hn
  · exact mxB_in h

theorem wid_at {F : Fnt} {x : Mx} {q : Nat} (hq : x.1 = q) (hl : q < F.widths.length) : wid F x = F.widths[q] := by
  unfold wid
  rw [if_neg (by omega), hq, Int.toNat_natCast, List.getD_eq_getElem?_getD, List.getElem?_eq_getElem hl]; rfl
theorem itemsL_snoc (F : Fnt) (l : List Mx) (x : Mx) : itemsL F (l ++ [x]) = itemsL F l ++ [wid F x] := by simp [itemsL]
section
variable {w w' : Bool} {h : Heap} {F : Fnt} {vW vC v : Value} {LW LC L : List Nat} {l : List Mx}
theorem specItems_ac (hF : F.widths.length = F.n) (r : RF w h F vW vC LW LC) (rl : RL w' EX h v l L) (hp : l.all (pieceB F) = true) (hl : l.length ≤ 16777216) :
    AC Try.prog 69 [fval F vW vC, v] h [] fun r h' => ∃ L', RL true EI h' r (itemsL F l) L' ∧ L'.Nodup ∧ ∀ i ∈ L', h.length ≤ i := by
  refine ac69 (by simp [p69]) ?_
  simp -implicitDefEqProofs [p69, fval, fcells, r.rW.one, r.rC.one, bslV, rl.len]
  have hb0 : hob (h ++ [some ⟨[.string F.letters, vW, vC], 3, true⟩, some ⟨[], 1, true⟩]) h.length = some ⟨[.string F.letters, vW, vC], 3, true⟩ := by simp
  have r0 : RL true EI (h ++ [some ⟨[.string F.letters, vW, vC], 3, true⟩, some ⟨[], 1, true⟩]) (.slice (some ⟨h.length + 1, 0, none⟩) 0 0) [] [h.length + 1] := by
    have := RL.newN (E := EI) (h := h ++ [some ⟨[.string F.letters, vW, vC], 3, true⟩]) (l := []) (c := 0) (n := 0) rfl (by simp)
    simpa using this
  refine range r69_0 (.app _ _ _) l.length rl.bd (by simp) (by simp) (fun k s h1 => hob h1 h.length = some ⟨[.string F.letters, vW, vC], 3, true⟩ ∧ ∃ L', RL true EI h1 (s 5) (itemsL F (l.take k)) L' ∧ L'.Nodup ∧ Ge (h.length + 1) L')
    ⟨hb0, [h.length + 1], by simpa [itemsL] using r0, by simp, by intro i hi; simp at hi; omega⟩ ?_ ?_
  · rintro k s h1 hk hi ⟨hb, L', rr, nd, ge⟩ kp
    obtain ⟨i, o, ea, la, _⟩ := (rl.kp0 kp).atX hk
    have hpk : pieceB F l[k] = true := List.all_eq_true.1 hp _ (List.getElem_mem hk)
    have hge := hob_lt hb
    have hge' : h.length ≤ h1.length := by omega
    have hlen : (itemsL F (l.take k)).length = k := by simp [itemsL]; omega
    have hb' : hob (h1 ++ [some ⟨[.int .i64 l[k].1, .int .i64 l[k].2], 2, true⟩]) h.length = some ⟨[.string F.letters, vW, vC], 3, true⟩ := hob_kp (.app [] _ _) hb (by simp)
    simp -implicitDefEqProofs [b69_0, L69_0, hi, ea, la, strV, mt_ge hge']
    obtain ⟨T, v', h2, L2, e1, e2, e3, e4, e5, e6, e7⟩ := (rr.kp0 (.app [] h1 [some ⟨[.int .i64 l[k].1, .int .i64 l[k].2], 2, true⟩])).app1 (by_ := 8) (wid F l[k]) (by rw [hlen]; unfold big; omega) (by omega) EI_one
    have hT : ∀ i ∈ T, MT [] h i := fun i hi => .inr (by have := ge i (e4 i hi); omega)
    have fin : hob h2 h.length = some ⟨[.string F.letters, vW, vC], 3, true⟩ ∧ ∃ L', RL true EI h2 v' (itemsL F (l.take (k + 1))) L' ∧ L'.Nodup ∧ Ge (h.length + 1) L' := by
      refine ⟨hob_kp e3 hb' fun hn => by have := ge _ hn; omega, L2, ?_, e6, fun i hi => ?_⟩
      · rw [take_snoc hk, itemsL_snoc]; exact e2
      · have := e5 i hi; simp at this; omega
    by_cases hn : l[k].1 < 0
    · have hw : wid F l[k] = 0 := by simp [wid, hn]
      rw [hw] at e1
      simp at e1
      simp -implicitDefEqProofs [hn, e1]
      exact ⟨by simpa using hT, fin⟩
    · obtain ⟨p1, p2⟩ := pieceB_in hpk hn
      obtain ⟨q, hq⟩ : ∃ q : Nat, l[k].1 = q := ⟨l[k].1.toNat, by omega⟩
      have hqw : q < F.widths.length := by omega
      have hw : wid F l[k] = F.widths[q] := wid_at hq hqw
      rw [hw] at e1
      simp at e1
      obtain ⟨i', o', ea', la', _⟩ := (r.kp0 (kp.then0 (.app [] h1 [some ⟨[.int .i64 l[k].1, .int .i64 l[k].2], 2, true⟩]))).rW.atI hqw
      rw [← hq] at ea'
      simp -implicitDefEqProofs [hn, hc1_hob hb', ea', la', e1]
      exact ⟨by simpa using hT, fin⟩
  · rintro s h1 hi ⟨hb, L', rr, nd, ge⟩ kp
    rw [List.take_length] at rr
    simp -implicitDefEqProofs [L69_0]
    exact ⟨L', rr, nd, ge.mono (by omega)⟩
theorem implItems_ac (hF : F.widths.length = F.n) (r : RF w h F vW vC LW LC) (rl : RL w' EX h v l L) (hp : l.all (pieceB F) = true) (hl : l.length ≤ 16777216) :
    AC Try.prog 81 [fval F vW vC, v] h [] fun r h' => ∃ L', RL true EI h' r (itemsL F l) L' ∧ L'.Nodup ∧ ∀ i ∈ L', h.length ≤ i := by
  refine ac81 (by simp [p81]) ?_
  simp -implicitDefEqProofs [p81, fval, fcells, r.rW.one, r.rC.one, bslV, rl.len]
  have hb0 : hob (h ++ [some ⟨[.string F.letters, vW, vC], 3, true⟩, some ⟨[], 1, true⟩]) h.length = some ⟨[.string F.letters, vW, vC], 3, true⟩ := by simp
  have r0 : RL true EI (h ++ [some ⟨[.string F.letters, vW, vC], 3, true⟩, some ⟨[], 1, true⟩]) (.slice (some ⟨h.length + 1, 0, none⟩) 0 0) [] [h.length + 1] := by
    have := RL.newN (E := EI) (h := h ++ [some ⟨[.string F.letters, vW, vC], 3, true⟩]) (l := []) (c := 0) (n := 0) rfl (by simp)
    simpa using this
  refine range r81_0 (.app _ _ _) l.length rl.bd (by simp) (by simp) (fun k s h1 => hob h1 h.length = some ⟨[.string F.letters, vW, vC], 3, true⟩ ∧ ∃ L', RL true EI h1 (s 5) (itemsL F (l.take k)) L' ∧ L'.Nodup ∧ Ge (h.length + 1) L')
    ⟨hb0, [h.length + 1], by simpa [itemsL] using r0, by simp, by intro i hi; simp at hi; omega⟩ ?_ ?_
  · rintro k s h1 hk hi ⟨hb, L', rr, nd, ge⟩ kp
    obtain ⟨i, o, ea, la, _⟩ := (rl.kp0 kp).atX hk
    have hpk : pieceB F l[k] = true := List.all_eq_true.1 hp _ (List.getElem_mem hk)
    have hge := hob_lt hb
    have hge' : h.length ≤ h1.length := by omega
    have hlen : (itemsL F (l.take k)).length = k := by simp [itemsL]; omega
    have hb' : hob (h1 ++ [some ⟨[.int .i64 l[k].1, .int .i64 l[k].2], 2, true⟩]) h.length = some ⟨[.string F.letters, vW, vC], 3, true⟩ := hob_kp (.app [] _ _) hb (by simp)
    simp -implicitDefEqProofs [b81_0, L81_0, hi, ea, la, strV, mt_ge hge']
    obtain ⟨T, v', h2, L2, e1, e2, e3, e4, e5, e6, e7⟩ := (rr.kp0 (.app [] h1 [some ⟨[.int .i64 l[k].1, .int .i64 l[k].2], 2, true⟩])).app1 (by_ := 8) (wid F l[k]) (by rw [hlen]; unfold big; omega) (by omega) EI_one
    have hT : ∀ i ∈ T, MT [] h i := fun i hi => .inr (by have := ge i (e4 i hi); omega)
    have fin : hob h2 h.length = some ⟨[.string F.letters, vW, vC], 3, true⟩ ∧ ∃ L', RL true EI h2 v' (itemsL F (l.take (k + 1))) L' ∧ L'.Nodup ∧ Ge (h.length + 1) L' := by
      refine ⟨hob_kp e3 hb' fun hn => by have := ge _ hn; omega, L2, ?_, e6, fun i hi => ?_⟩
      · rw [take_snoc hk, itemsL_snoc]; exact e2
      · have := e5 i hi; simp at this; omega
    refine call1 (isBand_ac _ _) ?_
    rw [pieceB_neg hpk]
    by_cases hn : l[k].1 < 0
    · have hw : wid F l[k] = 0 := by simp [wid, hn]
      rw [hw] at e1
      simp at e1
      simp -implicitDefEqProofs [hn, e1]
      exact ⟨by simpa using hT, fin⟩
    · obtain ⟨p1, p2⟩ := pieceB_in hpk hn
      obtain ⟨q, hq⟩ : ∃ q : Nat, l[k].1 = q := ⟨l[k].1.toNat, by omega⟩
      have hqw : q < F.widths.length := by omega
      have hw : wid F l[k] = F.widths[q] := wid_at hq hqw
      rw [hw] at e1
      simp at e1
      obtain ⟨i', o', ea', la', _⟩ := (r.kp0 (kp.then0 (.app [] h1 [some ⟨[.int .i64 l[k].1, .int .i64 l[k].2], 2, true⟩]))).rW.atI hqw
      rw [← hq] at ea'
      simp -implicitDefEqProofs [hn, hc1_hob hb', ea', la', e1]
      exact ⟨by simpa using hT, fin⟩
  · rintro s h1 hi ⟨hb, L', rr, nd, ge⟩ kp
    rw [List.take_length] at rr
    simp -implicitDefEqProofs [L81_0]
    exact ⟨L', rr, nd, ge.mono (by omega)⟩
end
end Go.Proofs.Ytpenocegikjpaaa

/- Contracts: machines (both). -/
set_option linter.unusedSimpArgs false
set_option linter.unusedVariables false
set_option maxHeartbeats 1000000
namespace Go.Proofs.Ytpenocegikjpaaa
open Go.Ab

section
variable {w : Bool} {h : Heap} {M : Mch} {vW vC vM vL vQ : Value} {LW LC LM LL LQ : List Nat}
theorem magB_font {F : Fnt} {m : List (List Mx)} (h : magB F m = true) : fontB F = true := by
  simp only [magB, Bool.and_eq_true] at h; exact h.1.1
theorem specMachineOk_ac (r : RM w h M vW vC vM vL vQ LW LC LM LL LQ) (hl : M.line.length ≤ 16777216) : AC Try.prog 17 [mval M vW vC vM vL vQ] h [] fun r h' => r = .bool (mchB M) ∧ h' = h := by
  refine AC_v rfl ?_
  refine ac17 (by simp [p17]) ?_
  simp -implicitDefEqProofs [p17, mval, mcells, r.rW.one, r.rC.one, r.rM.one, r.rL.one, r.rQ.one]
  have r' := r.kp0 (.app [] h [some ⟨mcells M vW vC vM vL vQ, 10, true⟩])
  have hb0 : hob (h ++ [some (⟨mcells M vW vC vM vL vQ, 10, true⟩ : AObj)]) h.length = some ⟨mcells M vW vC vM vL vQ, 10, true⟩ := by simp
  unfold mcells at r' hb0
  refine call1 (specMagOk_ac r'.rF r'.rM) ?_
  cases h1 : magB M.font M.mag
  · simp -implicitDefEqProofs [mchB, h1]
  have hF := magB_font h1
  obtain ⟨n1, n2, n3, n4⟩ := fontB_n hF
  simp -implicitDefEqProofs
  refine call1 (l1In_ac _ _ _) ?_
  cases h2 : inB M.spare 0 60
  · simp -implicitDefEqProofs [mchB, h2]
  simp -implicitDefEqProofs
  refine call1 (specMsrOk_ac M.msr) ?_
  cases h3 : msrB M.msr
  · simp -implicitDefEqProofs [mchB, fitsB, h3]
  simp -implicitDefEqProofs [r.rQ.len]
  by_cases h4 : (240 : Int) < M.wait.length
  · have : decide (M.wait.length ≤ 240) = false := by simp; omega
    have : mchB M = false := by unfold mchB; rw [this]; simp
    simp -implicitDefEqProofs [h4, this]
  have h4' : decide (M.wait.length ≤ 240) = true := by simp; omega
  simp -implicitDefEqProofs [h4, r.rL.len]
  refine range r17_0 (.app _ _ _) M.line.length r.rL.bd (by simp) (by simp) (fun k s h1 => hob h1 h.length = some ⟨[.string M.font.letters, vW, vC, vM, .int .i64 M.spare, .int .i64 M.msr.width, .int .i64 M.msr.thin, .int .i64 M.msr.thick, vL, vQ], 10, true⟩ ∧ AllTo (pieceB M.font) M.line k) ⟨by simp, .zero⟩ ?_ ?_
  · rintro k s g hk hi ⟨hb, ha⟩ kp
    obtain ⟨i, o, ea, la, _⟩ := (r.rL.kp0 kp).atX hk
    have hge := hob_lt hb
    have hb' : hob (g ++ [some ⟨[.int .i64 M.line[k].1, .int .i64 M.line[k].2], 2, true⟩]) h.length = some ⟨[.string M.font.letters, vW, vC, vM, .int .i64 M.spare, .int .i64 M.msr.width, .int .i64 M.msr.thin, .int .i64 M.msr.thick, vL, vQ], 10, true⟩ := hob_kp (.app [] _ _) hb (by simp)
    simp -implicitDefEqProofs [b17_0, L17_0, hi, ea, la, strV, mt_ge (Nat.le_of_lt hge), hcs_hob hb']
    refine call1 (l2Matrix_ac hF (r.kp0 (kp.then0 (.app _ _ _))).rF _ _) ?_
    cases c1 : mxB M.font M.line[k]
    · simp -implicitDefEqProofs [c1]
      by_cases c2 : M.line[k].1 = -1
      · by_cases c3 : M.line[k].2 = 0
        · simp -implicitDefEqProofs [c2, c3]
          exact ⟨hob_kp (.app [] _ _) hb (by simp), ha.step hk (by simp [pieceB, bandB, Prod.ext_iff, c2, c3])⟩
        · have : pieceB M.font M.line[k] = false := by simp [pieceB, c1, bandB, Prod.ext_iff, c3]
          have : mchB M = false := by unfold mchB; rw [all_not hk this]; simp
          simp -implicitDefEqProofs [c2, c3, this]
      · have : pieceB M.font M.line[k] = false := by simp [pieceB, c1, bandB, Prod.ext_iff, c2]
        have : mchB M = false := by unfold mchB; rw [all_not hk this]; simp
        simp -implicitDefEqProofs [c2, this]
    · simp -implicitDefEqProofs [c1]
      exact ⟨hob_kp (.app [] _ _) hb (by simp), ha.step hk (by simp [pieceB, c1])⟩
  · rintro s g hi ⟨hb, ha⟩ kp
    have hline := ha.done
    simp -implicitDefEqProofs [L17_0, hc1_hob hb, r.rQ.len]
    refine range r17_1 kp M.wait.length r.rQ.bd (by simp) (by simp) (fun k s h1 => hob h1 h.length = some ⟨[.string M.font.letters, vW, vC, vM, .int .i64 M.spare, .int .i64 M.msr.width, .int .i64 M.msr.thin, .int .i64 M.msr.thick, vL, vQ], 10, true⟩ ∧ AllTo (mxB M.font) M.wait k) ⟨hb, .zero⟩ ?_ ?_
    · rintro k s' g hk hi ⟨hb, ha⟩ kp
      obtain ⟨i, o, ea, la, _⟩ := (r.rQ.kp0 kp).atX hk
      have hge := hob_lt hb
      have hb' : hob (g ++ [some ⟨[.int .i64 M.wait[k].1, .int .i64 M.wait[k].2], 2, true⟩]) h.length = some ⟨[.string M.font.letters, vW, vC, vM, .int .i64 M.spare, .int .i64 M.msr.width, .int .i64 M.msr.thin, .int .i64 M.msr.thick, vL, vQ], 10, true⟩ := hob_kp (.app [] _ _) hb (by simp)
      simp -implicitDefEqProofs [b17_1, L17_0, L17_1, hi, ea, la, strV, mt_ge (Nat.le_of_lt hge), hcs_hob hb']
      refine call1 (l2Matrix_ac hF (r.kp0 (kp.then0 (.app _ _ _))).rF _ _) ?_
      cases c1 : mxB M.font M.wait[k]
      · have : mchB M = false := by unfold mchB; rw [all_not hk c1]; simp
        simp -implicitDefEqProofs [c1, this]
      · simp -implicitDefEqProofs [c1]
        exact ⟨hob_kp (.app [] _ _) hb (by simp), ha.step hk c1⟩
    · rintro s' g hi ⟨hb, ha⟩ kp
      have hwait := ha.done
      simp -implicitDefEqProofs [L17_0, L17_1, hc1_hob hb, hcs_hob hb]
      refine call0 (specItems_ac n3 (r.kp0 kp).rF (r.kp0 kp).rL hline hl) ?_
      rintro v' g2 ⟨L', rr, _, _⟩ kp2
      simp -implicitDefEqProofs
      refine call1 (l3Fits_ac h3 rr) ?_
      simp -implicitDefEqProofs [mchB, h1, h2, h4', hline, hwait]
theorem machineOk1_ac (r : RM w h M vW vC vM vL vQ LW LC LM LL LQ) (hF : fontB M.font = true) {i : Nat} (hi : hob h i = some ⟨mcells M vW vC vM vL vQ, 10, true⟩) (a b : Int) :
    AC Try.prog 78 [.agg #[.int .i64 a, .int .i64 b], .pointer (some ⟨i, 0, none⟩)] h [] fun r h' => r = .bool (!pieceB M.font (a, b)) ∧ h' = h := by
  refine AC_v rfl ?_
  refine ac78 (by simp [p78]) ?_
  have hi' : hob (h ++ [some ⟨[.int .i64 a, .int .i64 b], 2, true⟩]) i = some ⟨mcells M vW vC vM vL vQ, 10, true⟩ := hob_kp (.app [] _ _) hi (by simp)
  unfold mcells at hi'
  simp -implicitDefEqProofs [p78]
  refine call1 (isBand_ac _ _) ?_
  cases h1 : bandB (a, b)
  · simp -implicitDefEqProofs [hcs_hob hi', pieceB, h1]
    refine call1 (ofFont_ac hF (r.kp0 (.app [] _ _)).rF a b) ?_
    simp -implicitDefEqProofs
  · simp -implicitDefEqProofs [pieceB, h1]
theorem implMachineOk_ac (r : RM w h M vW vC vM vL vQ LW LC LM LL LQ) : AC Try.prog 22 [mval M vW vC vM vL vQ] h [] fun r h' => r = .bool (mchB M) ∧ h' = h := by
  refine AC_v rfl ?_
  refine ac22 (by simp [p22]) ?_
  simp -implicitDefEqProofs [p22, mval, mcells, r.rW.one, r.rC.one, r.rM.one, r.rL.one, r.rQ.one]
  have r' := r.kp0 (.app [] h [some ⟨mcells M vW vC vM vL vQ, 10, true⟩])
  have hb0 : hob (h ++ [some (⟨mcells M vW vC vM vL vQ, 10, true⟩ : AObj)]) h.length = some ⟨mcells M vW vC vM vL vQ, 10, true⟩ := by simp
  unfold mcells at r'
  refine call1 (implMagOk_ac r'.rF r'.rM) ?_
  cases h1 : magB M.font M.mag
  · simp -implicitDefEqProofs [mchB, h1]
  have hF := magB_font h1
  obtain ⟨n1, n2, n3, n4⟩ := fontB_n hF
  simp -implicitDefEqProofs
  by_cases h2 : M.spare < 0
  · have : inB M.spare 0 60 = false := by simp [inB]; omega
    simp -implicitDefEqProofs [h2, mchB, this]
  simp -implicitDefEqProofs [h2]
  by_cases h3 : 60 < M.spare
  · have : inB M.spare 0 60 = false := by simp [inB]; omega
    simp -implicitDefEqProofs [h3, mchB, this]
  have hsp : inB M.spare 0 60 = true := by simp [inB]; omega
  simp -implicitDefEqProofs [h3, r.rL.len]
  by_cases h4 : (120 : Int) < M.line.length
  · have : lineB (itemsL M.font M.line) = false := by
      unfold lineB
      rw [show decide ((itemsL M.font M.line).length ≤ 120) = false by simp [itemsL]; omega]; rfl
    simp -implicitDefEqProofs [h4, mchB, fitsB, this]
  simp -implicitDefEqProofs [h4, r.rQ.len]
  by_cases h5 : (240 : Int) < M.wait.length
  · have : decide (M.wait.length ≤ 240) = false := by simp; omega
    have : mchB M = false := by unfold mchB; rw [this]; simp
    simp -implicitDefEqProofs [h5, this]
  have h5' : decide (M.wait.length ≤ 240) = true := by simp; omega
  simp -implicitDefEqProofs [h5]
  refine call1 (allOf_ac hF r'.rF r'.rQ) ?_
  cases h6 : M.wait.all (mxB M.font)
  · simp -implicitDefEqProofs [mchB, h6]
  simp -implicitDefEqProofs
  refine call1 (ContainsX_ac r'.rL (ys := #[]) (p := fun x => !pieceB M.font x) fun x _ => by
    simpa using machineOk1_ac r' hF (i := h.length) (by simp [mcells]) x.1 x.2) ?_
  rw [any_not_all]
  cases h7 : M.line.all (pieceB M.font)
  · simp -implicitDefEqProofs [mchB, h7]
  simp -implicitDefEqProofs
  refine call0 (implItems_ac n3 r'.rF r'.rL h7 (by omega)) ?_
  rintro v' g2 ⟨L', rr, _, _⟩ kp2
  simp -implicitDefEqProofs
  refine call1 (fits_ac M.msr rr) ?_
  simp -implicitDefEqProofs [mchB, h1, hsp, h5', h6, h7]
end
end Go.Proofs.Ytpenocegikjpaaa

/- Contracts: counting (both). -/
set_option linter.unusedSimpArgs false
set_option linter.unusedVariables false
set_option maxHeartbeats 1000000
namespace Go.Proofs.Ytpenocegikjpaaa
open Go.Ab

section
variable {w : Bool} {h : Heap} {F : Fnt} {vW vC v : Value} {LW LC L : List Nat} {m : List (List Mx)}
theorem specKinds_ac (hm : magB F m = true) (r : RF w h F vW vC LW LC) (rm : RXX w h v m L) :
    AC Try.prog 86 [fval F vW vC, v] h [] fun r h' => ∃ L', RL true EI h' r (kindsL m) L' ∧ L'.Nodup ∧ ∀ i ∈ L', h.length ≤ i := by
  obtain ⟨hmn, hm20, hmx⟩ := magB_mem hm
  obtain ⟨n1, n2, n3, n4⟩ := fontB_n (magB_fn hm)
  refine ac86 (by simp [p86]) ?_
  simp -implicitDefEqProofs [p86, fval, fcells, r.rW.one, r.rC.one]
  refine call1 (specMagOk_ac (r.kp0 (.app _ _ _)) (rm.kp0 (.app _ _ _))) ?_
  simp -implicitDefEqProofs [hm, rm.len, mksV]
  rw [if_pos (by omega)]
  have z : reps [Value.int .i64 0] m.length = EI.cs (List.replicate m.length 0) := flat_reps (E := EI) (a := 0) rfl _
  simp -implicitDefEqProofs [z, rm.len]
  have r0 := RL.new (E := EI) (h := h ++ [some ⟨[.string F.letters, vW, vC], 3, true⟩]) (l := List.replicate m.length 0) (c := m.length) (by simp; unfold big; omega)
  simp at r0
  refine range r86_1 (.app _ _ _) m.length rm.bd (by simp) (by simp) (fun k s h1 => RL true EI h1 (.slice (some ⟨h.length + 1, 0, none⟩) m.length m.length) ((m.take k).flatten.foldl bump (List.replicate m.length 0)) [h.length + 1]) (by simpa using r0) ?_ ?_
  · rintro k s h1 hk hi rr kp
    obtain ⟨i, o, u, L1, ea, la, ru, hsub⟩ := (rm.kp0 kp).at hk
    have hold := (rm.lt)
    simp -implicitDefEqProofs [b86_1, L86_1, hi, ea, la, ru.len]
    refine range r86_0 kp m[k].length ru.bd (by simp) (by simp) (fun j s h2 => RL true EI h2 (.slice (some ⟨h.length + 1, 0, none⟩) m.length m.length) (((m.take k).flatten ++ m[k].take j).foldl bump (List.replicate m.length 0)) [h.length + 1] ∧ RL w EX h2 u m[k] L1) ⟨by simpa using rr, ru⟩ ?_ ?_
    · rintro j s' g hj hij ⟨rg, rug⟩ kg
      obtain ⟨i', o', ea', la', _⟩ := rug.atX hj
      have hx := hmx _ (List.getElem_mem hk) _ (List.getElem_mem hj)
      obtain ⟨q1, q2⟩ := mxB_in hx
      obtain ⟨q, hq⟩ : ∃ q : Nat, m[k][j].1 = q := ⟨m[k][j].1.toNat, by omega⟩
      have hglt := rg.lt (h.length + 1) (by simp)
      have hge : h.length ≤ g.length := by omega
      have hlen : (((m.take k).flatten ++ m[k].take j).foldl bump (List.replicate m.length 0)).length = m.length := by rw [bumps_len]; simp
      have hqc : q < (((m.take k).flatten ++ m[k].take j).foldl bump (List.replicate m.length 0)).length := by omega
      have hfl : (((m.take k).flatten ++ m[k].take j)).length ≤ 1000 := by
        have h1 := flat_len (m := m.take k) (c := 20) fun l hl => hm20 l (List.mem_of_mem_take hl)
        have h2 := hm20 _ (List.getElem_mem hk)
        simp at h1 ⊢; omega
      have hbd := bumps_bd ((m.take k).flatten ++ m[k].take j) (zeros_bd m.length) (by omega) _ (List.getElem_mem hqc)
      generalize hc : ((m.take k).flatten ++ m[k].take j).foldl bump (List.replicate m.length 0) = cur at rg hqc hlen hbd
      have rg' := rg.kp0 (.app [] g [some ⟨[.int .i64 m[k][j].1, .int .i64 m[k][j].2], 2, true⟩])
      obtain ⟨j2, p2, g2, eb, lb, e1, e2, e3, ej, _⟩ := rg'.modI hqc (cur[q] + 1)
      simp at ej
      subst ej
      have w1 : IntKind.wrap .i64 (cur[q] + 1) = cur[q] + 1 := wrap_in (by omega)
      rw [← bump_at hq hqc, ← hc, ← foldl_snoc, List.append_assoc, ← take_snoc hj, List.foldl_append] at e2
      rw [← hq] at eb
      simp -implicitDefEqProofs [b86_0, L86_0, L86_1, hij, ea', la', strV_new, mt_ge hge, eb, lb, w1, e1]
      exact ⟨e2, rug.kp ((Kp.app [h.length + 1] _ _).trans e3 (by simp)) fun i hi hn => by have := hold i (hsub i hi); simp at hn; omega⟩
    · rintro s' g hij ⟨rg, rug⟩ kg
      rw [List.take_length, ← flat_take_snoc hk] at rg
      simp -implicitDefEqProofs [L86_0, L86_1]
      exact rg
  · rintro s h1 hi rr kp
    rw [List.take_length] at rr
    simp -implicitDefEqProofs [L86_1]
    exact ⟨_, rr, by simp, by simp⟩
theorem implKinds_ac (hm : magB F m = true) (r : RF w h F vW vC LW LC) (rm : RXX w h v m L) :
    AC Try.prog 89 [fval F vW vC, v] h [] fun r h' => ∃ L', RL true EI h' r (kindsL m) L' ∧ L'.Nodup ∧ ∀ i ∈ L', h.length ≤ i := by
  obtain ⟨hmn, hm20, hmx⟩ := magB_mem hm
  obtain ⟨n1, n2, n3, n4⟩ := fontB_n (magB_fn hm)
  refine ac89 (by simp [p89]) ?_
  simp -implicitDefEqProofs [p89, fval, fcells, r.rW.one, r.rC.one]
  refine call1 (implMagOk_ac (r.kp0 (.app _ _ _)) (rm.kp0 (.app _ _ _))) ?_
  simp -implicitDefEqProofs [hm, rm.len, mksV]
  rw [if_pos (by omega)]
  have z : reps [Value.int .i64 0] m.length = EI.cs (List.replicate m.length 0) := flat_reps (E := EI) (a := 0) rfl _
  simp -implicitDefEqProofs [z, rm.len]
  have r0 := RL.new (E := EI) (h := h ++ [some ⟨[.string F.letters, vW, vC], 3, true⟩]) (l := List.replicate m.length 0) (c := m.length) (by simp; unfold big; omega)
  simp at r0
  refine range r89_1 (.app _ _ _) m.length rm.bd (by simp) (by simp) (fun k s h1 => RL true EI h1 (.slice (some ⟨h.length + 1, 0, none⟩) m.length m.length) ((m.take k).flatten.foldl bump (List.replicate m.length 0)) [h.length + 1]) (by simpa using r0) ?_ ?_
  · rintro k s h1 hk hi rr kp
    obtain ⟨i, o, u, L1, ea, la, ru, hsub⟩ := (rm.kp0 kp).at hk
    have hold := (rm.lt)
    simp -implicitDefEqProofs [b89_1, L89_1, hi, ea, la, ru.len]
    refine range r89_0 kp m[k].length ru.bd (by simp) (by simp) (fun j s h2 => RL true EI h2 (.slice (some ⟨h.length + 1, 0, none⟩) m.length m.length) (((m.take k).flatten ++ m[k].take j).foldl bump (List.replicate m.length 0)) [h.length + 1] ∧ RL w EX h2 u m[k] L1) ⟨by simpa using rr, ru⟩ ?_ ?_
    · rintro j s' g hj hij ⟨rg, rug⟩ kg
      obtain ⟨i', o', ea', la', _⟩ := rug.atX hj
      have hx := hmx _ (List.getElem_mem hk) _ (List.getElem_mem hj)
      obtain ⟨q1, q2⟩ := mxB_in hx
      obtain ⟨q, hq⟩ : ∃ q : Nat, m[k][j].1 = q := ⟨m[k][j].1.toNat, by omega⟩
      have hglt := rg.lt (h.length + 1) (by simp)
      have hge : h.length ≤ g.length := by omega
      have hlen : (((m.take k).flatten ++ m[k].take j).foldl bump (List.replicate m.length 0)).length = m.length := by rw [bumps_len]; simp
      have hqc : q < (((m.take k).flatten ++ m[k].take j).foldl bump (List.replicate m.length 0)).length := by omega
      have hfl : (((m.take k).flatten ++ m[k].take j)).length ≤ 1000 := by
        have h1 := flat_len (m := m.take k) (c := 20) fun l hl => hm20 l (List.mem_of_mem_take hl)
        have h2 := hm20 _ (List.getElem_mem hk)
        simp at h1 ⊢; omega
      have hbd := bumps_bd ((m.take k).flatten ++ m[k].take j) (zeros_bd m.length) (by omega) _ (List.getElem_mem hqc)
      generalize hc : ((m.take k).flatten ++ m[k].take j).foldl bump (List.replicate m.length 0) = cur at rg hqc hlen hbd
      have rg' := rg.kp0 (.app [] g [some ⟨[.int .i64 m[k][j].1, .int .i64 m[k][j].2], 2, true⟩])
      obtain ⟨j2, p2, g2, eb, lb, e1, e2, e3, ej, _⟩ := rg'.modI hqc (cur[q] + 1)
      simp at ej
      subst ej
      have w1 : IntKind.wrap .i64 (cur[q] + 1) = cur[q] + 1 := wrap_in (by omega)
      rw [← bump_at hq hqc, ← hc, ← foldl_snoc, List.append_assoc, ← take_snoc hj, List.foldl_append] at e2
      rw [← hq] at eb
      simp -implicitDefEqProofs [b89_0, L89_0, L89_1, hij, ea', la', strV_new, mt_ge hge, eb, lb, w1, e1]
      exact ⟨e2, rug.kp ((Kp.app [h.length + 1] _ _).trans e3 (by simp)) fun i hi hn => by have := hold i (hsub i hi); simp at hn; omega⟩
    · rintro s' g hij ⟨rg, rug⟩ kg
      rw [List.take_length, ← flat_take_snoc hk] at rg
      simp -implicitDefEqProofs [L89_0, L89_1]
      exact rg
  · rintro s h1 hi rr kp
    rw [List.take_length] at rr
    simp -implicitDefEqProofs [L89_1]
    exact ⟨_, rr, by simp, by simp⟩
end
end Go.Proofs.Ytpenocegikjpaaa

/- Contracts: CountAll (the reference's). -/
set_option linter.unusedSimpArgs false
set_option linter.unusedVariables false
set_option maxHeartbeats 1000000
namespace Go.Proofs.Ytpenocegikjpaaa
open Go.Ab

/-- The counts behind the first k of a row (bands are passed by). -/
def countTo (M : Mch) (k : Nat) : List Int := (((M.line ++ M.wait).take k).filter fun x => !bandB x).foldl bump (kindsL M.mag)
theorem countTo_zero (M : Mch) : countTo M 0 = kindsL M.mag := rfl
theorem countTo_done {M : Mch} (h : mchB M = true) : countTo M (M.line ++ M.wait).length = countL M := by
  unfold countTo countL
  rw [List.take_length, if_pos h]
theorem countTo_len (M : Mch) (k : Nat) : (countTo M k).length = M.mag.length := by
  unfold countTo kindsL
  rw [bumps_len, bumps_len]; simp
theorem countTo_bd {M : Mch} (h : mchB M = true) (k : Nat) : ∀ v ∈ countTo M k, 0 ≤ v ∧ v ≤ 2000 := by
  obtain ⟨h1, h2, h3, h4, h5, h6⟩ := mchB_parts h
  obtain ⟨m1, m2, m3⟩ := magB_mem h1
  obtain ⟨n1, n2, n3, n4⟩ := fontB_n (magB_fn h1)
  have hl := mchB_line h
  have a1 := flat_len m2
  have a2 := bumps_bd M.mag.flatten (zeros_bd M.mag.length) (by omega)
  have a3 := bumps_bd (((M.line ++ M.wait).take k).filter fun x => !bandB x) (out := kindsL M.mag) (n := 0 + M.mag.flatten.length) a2 (by omega)
  have a4 : (((M.line ++ M.wait).take k).filter fun x => !bandB x).length ≤ M.line.length + M.wait.length := by
    refine Nat.le_trans (List.length_filter_le _ _) ?_
    simp; omega
  intro v hv
  have := a3 v hv
  omega
theorem countTo_band {M : Mch} {k : Nat} (hk : k < (M.line ++ M.wait).length) (hb : bandB (M.line ++ M.wait)[k] = true) : countTo M (k + 1) = countTo M k := by
  unfold countTo
  rw [take_snoc hk, List.filter_append]; simp [hb]
theorem countTo_step {M : Mch} {k : Nat} (hk : k < (M.line ++ M.wait).length) (hb : bandB (M.line ++ M.wait)[k] = false) : countTo M (k + 1) = bump (countTo M k) (M.line ++ M.wait)[k] := by
  unfold countTo
  rw [take_snoc hk, List.filter_append]
  simp only [List.filter_cons, hb, List.filter_nil]
  rw [List.foldl_append]; rfl
theorem pieces_of {M : Mch} (h : mchB M = true) : ∀ x ∈ M.line ++ M.wait, pieceB M.font x = true := by
  obtain ⟨h1, h2, h3, h4, h5, h6⟩ := mchB_parts h
  intro x hx
  rcases List.mem_append.1 hx with hx | hx
  · exact List.all_eq_true.1 h4 x hx
  · simp [pieceB, List.all_eq_true.1 h5 x hx]

section
variable {w : Bool} {h : Heap} {M : Mch} {vW vC vM vL vQ : Value} {LW LC LM LL LQ : List Nat}
theorem specCountAll_ac (r : RM w h M vW vC vM vL vQ LW LC LM LL LQ) (hl : M.line.length ≤ 16777216) :
    AC Try.prog 26 [mval M vW vC vM vL vQ] h [] fun r h' => ∃ L', RL true EI h' r (countL M) L' ∧ L'.Nodup ∧ ∀ i ∈ L', h.length ≤ i := by
  refine ac26 (by simp [p26]) ?_
  simp -implicitDefEqProofs [p26, mval, mcells, r.rW.one, r.rC.one, r.rM.one, r.rL.one, r.rQ.one]
  have r' := r.kp0 (.app [] h [some ⟨mcells M vW vC vM vL vQ, 10, true⟩])
  unfold mcells at r'
  refine call1 (specMachineOk_ac r' hl) ?_
  cases hM : mchB M
  · simp -implicitDefEqProofs [countL, hM]
    exact ⟨[], .nil, by simp, by simp⟩
  obtain ⟨h1, h2, h3, h4, h5, h6⟩ := mchB_parts hM
  obtain ⟨m1, m2, m3⟩ := magB_mem h1
  have hline := mchB_line hM
  simp -implicitDefEqProofs
  refine call0 (specKinds_ac h1 r'.rF r'.rM) ?_
  rintro vO g ⟨LO, ro, ndo, geo⟩ kp
  have r1 := r'.kp0 kp
  have hb1 : hob g h.length = some ⟨[.string M.font.letters, vW, vC, vM, .int .i64 M.spare, .int .i64 M.msr.width, .int .i64 M.msr.thin, .int .i64 M.msr.thick, vL, vQ], 10, true⟩ := hob_kp kp (by simp) (by simp)
  simp -implicitDefEqProofs [hc1_hob hb1, bslV]
  have r2 : RL true EX (g ++ [some ⟨[], 2, true⟩]) (.slice (some ⟨g.length, 0, none⟩) 0 0) [] [g.length] := by
    have := RL.newN (E := EX) (h := g) (l := []) (c := 0) (n := 0) rfl (by simp)
    simpa using this
  have ho : ∀ l : List Mx, ∀ a ∈ l, oneAll (EX.e a) = true := fun l a _ => by simp
  obtain ⟨T1, v1, g1, L1, e1, q1, k1, t1, l1⟩ := r2.app (L2 := []) (by_ := 16) ((r1.rL.kp0 (.app [] g _)).src) (by simp; unfold big; omega) (by omega) (ho _) (ho _)
  simp only [EX_es, List.nil_append] at e1 q1
  simp -implicitDefEqProofs [e1]
  have hg : h.length < g.length := by have := kp.1; simp at this; omega
  have hT1 : ∀ i ∈ T1, g.length ≤ i := fun i hi => by have := t1 i hi; simp at this; omega
  have hL1 : ∀ i ∈ L1, g.length ≤ i := fun i hi => by have := l1 i hi; simp at this; omega
  have hg1 : g.length < g1.length := by have := k1.1; simp at this; omega
  have rQ1 : RL w EX g1 vQ M.wait LQ := (r1.rQ.kp0 (.app [] g _)).kp k1 (fun i hi hn => by have := r1.rQ.lt i hi; simp at hn; omega)
  obtain ⟨T2, v2, g2, L2, e2, q2, k2, t2, l2⟩ := q1.app (L2 := []) (by_ := 16) rQ1.src (by unfold big; omega) (by omega) (ho _) (ho _)
  simp only [EX_es] at e2
  have hL2 : ∀ i ∈ L2, g.length ≤ i := fun i hi => by
    rcases l2 i hi with hi | hi
    · exact hL1 i hi
    · omega
  have rO2 : RL true EI g2 vO (kindsL M.mag) LO := ((ro.kp0 (.app [] g _)).kp k1 (fun i hi hn => by have := ro.lt i hi; simp at hn; omega)).kp k2 (fun i hi hn => by have := ro.lt i hi; have := hL1 i hn; omega)
  have kg2 : Kp [] h g2 := (((Kp.app [] h _).trans kp (by simp)).trans (Kp.app [] _ _) (by simp)).trans (k1.trans k2 (U := L1) (T := [g.length]) (fun i hi => (l1 i hi).elim .inl .inr)) (fun i hi => by simp at hi; omega)
  refine ⟨fun i hi => .inr (by have := hT1 i hi; omega), fun hn => by have := hT1 _ hn; omega, ?_⟩
  simp -implicitDefEqProofs [e2]
  refine ⟨fun i hi => .inr (by have := hL1 i (t2 i hi); omega), ?_⟩
  simp -implicitDefEqProofs [q2.len]
  have hlO : ∀ i ∈ LO, i < g.length := ro.lt
  refine range r26_0 kg2 (M.line ++ M.wait).length q2.bd (by simp) (by simp) (fun k s h1 => RL true EI h1 vO (countTo M k) LO ∧ RL true EX h1 v2 (M.line ++ M.wait) L2) ⟨by simpa [countTo_zero] using rO2, q2⟩ ?_ ?_
  · rintro k s h1 hk hi ⟨rr, rx⟩ kp'
    obtain ⟨i', o', ea', la', _⟩ := rx.atX hk
    have hp := pieces_of hM _ (List.getElem_mem hk)
    have hge : h.length ≤ h1.length := kp'.1
    by_cases hb : bandB (M.line ++ M.wait)[k] = true
    · have hb' : (M.line ++ M.wait)[k].1 < 0 := by have := of_decide_eq_true hb; rw [this]; decide
      simp -implicitDefEqProofs [b26_0, L26_0, hi, ea', la', strV_new, mt_ge hge, show ¬ (0 ≤ (M.line ++ M.wait)[k].1) by omega]
      rw [countTo_band hk hb]
      exact ⟨rr.kp0 (.app [] _ _), rx.kp0 (.app [] _ _)⟩
    · have hb0 : bandB (M.line ++ M.wait)[k] = false := by simpa using hb
      have hx : mxB M.font (M.line ++ M.wait)[k] = true := by simpa [pieceB, hb0] using hp
      obtain ⟨q1', q2'⟩ := mxB_in hx
      obtain ⟨q, hq⟩ : ∃ q : Nat, (M.line ++ M.wait)[k].1 = q := ⟨(M.line ++ M.wait)[k].1.toNat, by omega⟩
      have hlen := countTo_len M k
      have hqc : q < (countTo M k).length := by omega
      have hbd := countTo_bd hM k _ (List.getElem_mem hqc)
      have rr' := rr.kp0 (.app [] h1 [some ⟨[.int .i64 (M.line ++ M.wait)[k].1, .int .i64 (M.line ++ M.wait)[k].2], 2, true⟩])
      obtain ⟨j2, p2, g3, eb, lb, f1, f2, f3, ej, _⟩ := rr'.modI hqc ((countTo M k)[q] + 1)
      have w1 : IntKind.wrap .i64 ((countTo M k)[q] + 1) = (countTo M k)[q] + 1 := wrap_in (by omega)
      have hj2 : h.length ≤ j2 := by have := geo j2 (by rw [ej]; simp); simp at this; omega
      rw [← bump_at hq hqc, ← countTo_step hk hb0] at f2
      rw [← hq] at eb
      simp -implicitDefEqProofs [b26_0, L26_0, hi, ea', la', strV_new, mt_ge hge, show (0 ≤ (M.line ++ M.wait)[k].1) by omega, eb, lb, w1, f1]
      exact ⟨.inr hj2, f2, rx.kp ((Kp.app LO _ _).trans f3 (fun i hi => .inl hi)) fun i hi hn => by have := hL2 i hi; have := hlO i hn; omega⟩
  · rintro s h1 hi ⟨rr, rx⟩ kp'
    rw [countTo_done hM] at rr
    simp -implicitDefEqProofs [L26_0]
    exact ⟨_, rr, ndo, fun i hi => by have := geo i hi; simp at this; omega⟩
end
end Go.Proofs.Ytpenocegikjpaaa

/- Contracts: slices.Grow (by the kit's), slices.Concat, CountAll (the program's). -/
set_option linter.unusedSimpArgs false
set_option linter.unusedVariables false
set_option maxHeartbeats 1000000
set_option maxRecDepth 100000
namespace Go.Proofs.Ytpenocegikjpaaa
open Go.Ab

def growRen : Go.Shelf.Ren := ⟨fun f => if f = 4 then 133 else f, fun t => if t = 22 then 29 else if t = 25 then 42 else t, fun g => g⟩
theorem growLays : Go.Proofs.Lays8.n4 Try.prog growRen where
  mixed := mixed
  f4 := ⟨Try.f133.name, by kernel_rfl, Try.func133.trans (by kernel_rfl)⟩
  t0 := Try.underlying0
  a0 := Try.isAgg0
  z0 := Try.sizeOf0
  v0 := Try.zeroValue0
  t3 := Try.underlying3
  a3 := Try.isAgg3
  z3 := Try.sizeOf3
  v3 := Try.zeroValue3
  t4 := Try.underlying4
  a4 := Try.isAgg4
  z4 := Try.sizeOf4
  v4 := Try.zeroValue4
  t9 := Try.underlying9
  a9 := Try.isAgg9
  z9 := Try.sizeOf9
  v9 := Try.zeroValue9
  t20 := Try.underlying20
  a20 := Try.isAgg20
  z20 := Try.sizeOf20
  v20 := Try.zeroValue20
  t22 := Try.underlying29
  a22 := Try.isAgg29
  z22 := Try.sizeOf29
  v22 := Try.zeroValue29
theorem growInfo : ∃ i0, Try.prog.info? (growRen.t 25) = some i0 ∧ i0.zero = some (.agg #[.int .i64 0, .int .i64 0]) ∧ i0.size = 2 ∧ i0.bytes = 16 := by
  have h : (Try.prog.info? 42).map (fun i => (i.zero, i.size, i.bytes)) = some (some (.agg #[.int .i64 0, .int .i64 0]), 2, 16) := by kernel_rfl
  show ∃ i0, Try.prog.info? 42 = some i0 ∧ _
  cases hi : Try.prog.info? 42 with
  | none => rw [hi] at h; cases h
  | some i =>
    rw [hi] at h
    simp only [Option.map_some, Option.some.injEq, Prod.mk.injEq] at h
    exact ⟨i, rfl, h.1, h.2.1, h.2.2⟩
theorem growX_ac {h : Heap} (n : Nat) (hn : n ≤ 1000000) : AC Try.prog 133 [.slice none 0 0, .int .i64 n] h [] fun r h' => ∃ L', RL true EX h' r [] L' ∧ L'.Nodup ∧ ∀ i ∈ L', h.length ≤ i := by
  refine ⟨⟨_, Try.func133, by kernel_rfl, by decide +kernel⟩, fun ρ w rargs s hr => ?_⟩
  obtain ⟨v0, v1, e0⟩ : ∃ v0 v1, rargs.toList = [v0, v1] := by
    exact list2 hr.1.symm
  rw [e0] at hr
  have h0 : VR ρ (.slice none 0 0) v0 := by simpa using hr.2 0 (by simp)
  have h1 : VR ρ (.int .i64 n) v1 := by simpa using hr.2 1 (by simp)
  cases h0
  cases h1
  have er : rargs = #[.slice none 0 0, .int .i64 n] := by rw [← Array.toList_inj, e0]
  subst er
  by_cases hz : n = 0
  · subst hz
    refine (Any8.slices_Grow_room growLays none 0 0 0 w (by omega) (by omega) (by omega) (by omega)).mono ?_
    rintro e w' ⟨rfl, rfl⟩
    exact ⟨_, _, h, ρ, rfl, ⟨[], .nil, by simp, by simp⟩, .nils, s, .refl _ _ _ _⟩
  · obtain ⟨i0, hi, hz0, hs0, hb0⟩ := growInfo
    refine (Any8.slices_Grow_grow growLays i0 _ hi hz0 (by omega) none 0 0 n [] w (by omega) (by omega) (by rw [hb0]; omega) (by omega) (by simp) (by simp) (by simp)).mono ?_
    rintro e w' ⟨rfl, rfl⟩
    have hge := grownCap_ge w (0 + n) 0 (growRen.t 25)
    generalize hG : grownCap w (0 + n) 0 (growRen.t 25) = G at hge ⊢
    obtain ⟨s1, st1⟩ := s.new (w' := w.drew.alloc (.cells (#[] ++ Builtin.zeroCells (Value.agg #[.int .i64 0, .int .i64 0]).cells (0 + n - 0) ++ Builtin.zeroCells (Value.agg #[.int .i64 0, .int .i64 0]).cells (G - (0 + n))) (growRen.t 25)))
      (l := []) (rc := (#[] ++ Builtin.zeroCells (Value.agg #[.int .i64 0, .int .i64 0]).cells (0 + n - 0) ++ Builtin.zeroCells (Value.agg #[.int .i64 0, .int .i64 0]).cells (G - (0 + n)))) (t := growRen.t 25) 2 ⟨rfl, rfl, rfl⟩ rfl (by simp) (by simp) (by simp)
    have hsz : (#[] ++ Builtin.zeroCells (Value.agg #[.int .i64 0, .int .i64 0]).cells (0 + n - 0) ++ Builtin.zeroCells (Value.agg #[.int .i64 0, .int .i64 0]).cells (G - (0 + n))).size = G * 2 := by
      simp only [Array.size_append, size_zeroCells, show (Value.agg #[.int .i64 0, .int .i64 0]).cells.size = 2 from rfl]
      simp; omega
    refine ⟨_, .slice (some ⟨h.length, 0, none⟩) 0 1, _, _, rfl, ⟨[h.length], ?_, by simp, by simp⟩, ?_, s1, st1⟩
    · have := RL.newN (E := EX) (h := h) (l := []) (c := 1) (n := 0) rfl (by simp)
      simpa [newO] using this
    · refine VR.sl (k := ⟨w.heap.size, 0, _, 2, true⟩) (if_pos rfl) (by omega) (fun h => by cases h) (fun _ => rfl) (fun _ => ?_)
      simp only [hsz]; omega

theorem RL_nd {α : Type} {w : Bool} {E : Enc α} {h : Heap} {v : Value} {l : List α} {L : List Nat} (r : RL w E h v l L) : L.Nodup := by
  rcases r with ⟨_, _, rfl⟩ | ⟨i, o, c, ob, _, rfl, _⟩ <;> simp
theorem lens_le {ll : List (List Mx)} (k : Nat) : ((ll.map List.length).take k).sum ≤ (ll.map List.length).sum := by
  have : ll.map List.length = (ll.map List.length).take k ++ (ll.map List.length).drop k := (List.take_append_drop _ _).symm
  conv => rhs; rw [this]
  rw [List.sum_append]; omega
theorem lens_step {ll : List (List Mx)} {k : Nat} (hk : k < ll.length) : ((ll.map List.length).take (k + 1)).sum = ((ll.map List.length).take k).sum + ll[k].length := by
  rw [take_snoc (by simpa using hk), List.sum_append]; simp
theorem lens_flat (ll : List (List Mx)) : ll.flatten.length = (ll.map List.length).sum := by simp
section
variable {w : Bool} {h : Heap} {v : Value} {L : List Nat} {ll : List (List Mx)}
theorem concatX_ac (r : RXX w h v ll L) (hs : (ll.map List.length).sum ≤ 1000000) :
    AC Try.prog 90 [v] h [] fun r h' => ∃ L', RL true EX h' r ll.flatten L' ∧ L'.Nodup ∧ ∀ i ∈ L', h.length ≤ i := by
  refine ac90 (by simp [p90]) ?_
  simp -implicitDefEqProofs [p90, r.len]
  refine range r90_0 (.refl _ _) ll.length r.bd (by simp) (by simp) (fun k s h1 => s 3 = .int .i64 (((ll.map List.length).take k).sum : Nat) ∧ h1 = h) (by simp) ?_ ?_
  · rintro k s h1 hk hi ⟨h3, rfl⟩ kp
    obtain ⟨i, o, u, L1, ea, la, ru, hsub⟩ := r.at hk
    have hl := lens_le (ll := ll) k
    have hl2 := lens_le (ll := ll) (k + 1)
    have hst := lens_step hk
    have w1 : IntKind.wrap .i64 ((((ll.map List.length).take k).sum : Nat) + (ll[k].length : Nat) : Int) = (((ll.map List.length).take (k + 1)).sum : Nat) := by
      rw [wrap_in (by omega), hst]; omega
    simp -implicitDefEqProofs [b90_0, L90_0, hi, h3, ea, la, ru.len, w1, show ¬ ((((ll.map List.length).take (k + 1)).sum : Nat) : Int) < 0 by omega]
  · rintro s h1 hi ⟨h3, rfl⟩ kp
    rw [List.take_of_length_le (by simp)] at h3
    simp -implicitDefEqProofs [L90_0, h3]
    refine call0 (growX_ac _ hs) ?_
    rintro vr g ⟨L0, r0, _, g0⟩ kg
    have rg := r.kp0 kg
    simp -implicitDefEqProofs [rg.len]
    refine range r90_1 kg ll.length r.bd (by simp) (by simp) (fun k s h2 => ∃ L', RL true EX h2 (s 6) (ll.take k).flatten L' ∧ (∀ i ∈ L', h1.length ≤ i) ∧ RXX w h2 v ll L) ⟨L0, by simpa using r0, g0, rg⟩ ?_ ?_
    · rintro k s h2 hk hi ⟨L', rr, gr, rv⟩ kp'
      obtain ⟨i, o, u, L1, ea, la, ru, hsub⟩ := rv.at hk
      have hl2 := lens_le (ll := ll) (k + 1)
      have hst := lens_step hk
      have hfl : (ll.take k).flatten.length = ((ll.map List.length).take k).sum := by simp
      have hlt := r.lt
      obtain ⟨T, v', h3, L3, e1, e2, e3, e4, e5⟩ := rr.app (L2 := []) (by_ := 16) ru.src (by rw [hfl]; unfold big; omega) (by omega) (by simp) (by simp)
      simp only [EX_es] at e1
      rw [← flat_take_snoc hk] at e2
      generalize hs6 : s 6 = v6 at *
      simp -implicitDefEqProofs [b90_1, L90_1, hi, hs6, ea, la, e1]
      have hge := kp'.1
      refine ⟨fun i hi => .inr (gr i (e4 i hi)), L3, e2, fun i hi => ?_, rv.kp e3 fun i hi hn => by have := hlt i hi; have := gr i hn; omega⟩
      rcases e5 i hi with hi | hi
      · exact gr i hi
      · omega
    · rintro s h2 hi ⟨L', rr, gr, rv⟩ kp'
      rw [List.take_length] at rr
      simp -implicitDefEqProofs [L90_1]
      exact ⟨L', rr, RL_nd rr, gr⟩
end
section
variable {w : Bool} {h : Heap} {M : Mch} {vW vC vM vL vQ : Value} {LW LC LM LL LQ : List Nat}
theorem implCountAll_ac (r : RM w h M vW vC vM vL vQ LW LC LM LL LQ) :
    AC Try.prog 28 [mval M vW vC vM vL vQ] h [] fun r h' => ∃ L', RL true EI h' r (countL M) L' ∧ L'.Nodup ∧ ∀ i ∈ L', h.length ≤ i := by
  refine ac28 (by simp [p28]) ?_
  simp -implicitDefEqProofs [p28, mval, mcells, r.rW.one, r.rC.one, r.rM.one, r.rL.one, r.rQ.one]
  have r' := r.kp0 (.app [] h [some ⟨mcells M vW vC vM vL vQ, 10, true⟩])
  unfold mcells at r'
  refine call1 (implMachineOk_ac r') ?_
  cases hM : mchB M
  · simp -implicitDefEqProofs [countL, hM]
    exact ⟨[], .nil, by simp, by simp⟩
  obtain ⟨h1, h2, h3, h4, h5, h6⟩ := mchB_parts hM
  have hline := mchB_line hM
  simp -implicitDefEqProofs
  refine call0 (implKinds_ac h1 r'.rF r'.rM) ?_
  rintro vO g ⟨LO, ro, ndo, geo⟩ kp
  have r1 := r'.kp0 kp
  have hb1 : hob g h.length = some ⟨[.string M.font.letters, vW, vC, vM, .int .i64 M.spare, .int .i64 M.msr.width, .int .i64 M.msr.thin, .int .i64 M.msr.thick, vL, vQ], 10, true⟩ := hob_kp kp (by simp) (by simp)
  have hs1 : vL.cells.size = 1 := by rw [← Array.length_toList, r1.rL.cells]; rfl
  have hs2 : vQ.cells.size = 1 := by rw [← Array.length_toList, r1.rQ.cells]; rfl
  simp -implicitDefEqProofs [hc1_hob hb1, bslV, r1.rL.cells, r1.rQ.cells, r1.rL.one, r1.rQ.one, hs1, hs2]
  have r2 := r1.kp0 (.app [] g [some ⟨[vL, vQ], 1, true⟩])
  have rr : RXX false (g ++ [some ⟨[vL, vQ], 1, true⟩]) (.slice (some ⟨g.length, 0, none⟩) 2 2) [M.line, M.wait] ([g.length] ++ [LL, LQ].flatten) :=
    ⟨[vL, vQ], [g.length], [LL, LQ], (by have := RL.newN (E := EV) (h := g) (l := [vL, vQ]) (c := 2) (n := 2) rfl (by simp [big]); simp at this; exact this.weak), .cons r2.rL.weak (.cons r2.rQ.weak .nil), rfl⟩
  refine call0 (concatX_ac rr (by simp; omega)) ?_
  rintro vX g1 ⟨LX, rx, _, gx⟩ kx
  simp only [List.flatten_cons, List.flatten_nil, List.append_nil] at rx
  have hg : h.length < g.length := by have := kp.1; simp at this; omega
  have ro1 := (ro.kp0 (.app [] g [some ⟨[vL, vQ], 1, true⟩])).kp0 kx
  simp -implicitDefEqProofs [rx.len]
  have hlO : ∀ i ∈ LO, i < g.length := ro.lt
  have kg2 : Kp [] h g1 := (((Kp.app [] h _).trans kp (by simp)).trans (Kp.app [] _ _) (by simp)).trans kx (by simp)
  refine range r28_0 kg2 (M.line ++ M.wait).length rx.bd (by simp) (by simp) (fun k s h1 => RL true EI h1 vO (countTo M k) LO ∧ RL true EX h1 vX (M.line ++ M.wait) LX) ⟨by simpa [countTo_zero] using ro1, rx⟩ ?_ ?_
  · rintro k s h1 hk hi ⟨rr, rx⟩ kp'
    obtain ⟨i', o', ea', la', _⟩ := rx.atX hk
    have hp := pieces_of hM _ (List.getElem_mem hk)
    have hge : h.length ≤ h1.length := kp'.1
    simp -implicitDefEqProofs [b28_0, L28_0, hi, ea', la', strV_new, mt_ge hge]
    refine call1 (isBand_ac _ _) ?_
    have rr' := rr.kp0 (.app [] h1 [some ⟨[.int .i64 (M.line ++ M.wait)[k].1, .int .i64 (M.line ++ M.wait)[k].2], 2, true⟩])
    by_cases hb : bandB (M.line ++ M.wait)[k] = true
    · simp -implicitDefEqProofs [hb]
      rw [countTo_band hk hb]
      exact ⟨rr', rx.kp0 (.app [] _ _)⟩
    · have hb0 : bandB (M.line ++ M.wait)[k] = false := by simpa using hb
      have hx : mxB M.font (M.line ++ M.wait)[k] = true := by simpa [pieceB, hb0] using hp
      obtain ⟨q1', q2'⟩ := mxB_in hx
      obtain ⟨q, hq⟩ : ∃ q : Nat, (M.line ++ M.wait)[k].1 = q := ⟨(M.line ++ M.wait)[k].1.toNat, by omega⟩
      obtain ⟨m1, m2, m3⟩ := magB_mem (by assumption : magB M.font M.mag = true)
      have hlen := countTo_len M k
      have hqc : q < (countTo M k).length := by omega
      have hbd := countTo_bd hM k _ (List.getElem_mem hqc)
      obtain ⟨j2, p2, g3, eb, lb, f1, f2, f3, ej, _⟩ := rr'.modI hqc ((countTo M k)[q] + 1)
      have w1 : IntKind.wrap .i64 ((countTo M k)[q] + 1) = (countTo M k)[q] + 1 := wrap_in (by omega)
      have hj2 : h.length ≤ j2 := by have := geo j2 (by rw [ej]; simp); simp at this; omega
      rw [← bump_at hq hqc, ← countTo_step hk hb0] at f2
      rw [← hq] at eb
      simp -implicitDefEqProofs [hb0, eb, lb, w1, f1]
      exact ⟨.inr hj2, f2, rx.kp ((Kp.app LO _ _).trans f3 (fun i hi => .inl hi)) fun i hi hn => by have := gx i hi; have := hlO i hn; simp at *; omega⟩
  · rintro s h1 hi ⟨rr, rx⟩ kp'
    rw [countTo_done hM] at rr
    simp -implicitDefEqProofs [L28_0]
    exact ⟨_, rr, ndo, fun i hi => by have := geo i hi; simp at this; omega⟩
end
end Go.Proofs.Ytpenocegikjpaaa

/- Machines in variables: the contracts once more. -/
set_option linter.unusedSimpArgs false
set_option linter.unusedVariables false
namespace Go.Proofs.Ytpenocegikjpaaa
open Go.Ab
section
variable {w w' : Bool} {h : Heap} {l l' : List Value} {M M' : Mch} {L L' : List Nat}
theorem szM_ac (r : MV w h l M L) (hs : M.font.letters.size ≤ maxLen) :
    AC Try.prog 25 [.agg l.toArray, .int .i64 1048576] h [] fun r h' => r = .int .i64 (if (1048576 : Int) < szM M then -1 else (1048576 : Int) - szM M) ∧ h' = h := by
  obtain ⟨vW, vC, vM, vL, vQ, LW, LC, LM, LL, LQ, rfl, r, rfl⟩ := r
  exact szMachine_ac r 1048576 (by omega) (by unfold maxLen at hs; omega)
theorem toM_ac (r : MV w h l M L) (hl : szM M ≤ 1048576) : AC Try.prog 27 [.agg l.toArray] h [] fun r h' => ∃ l' L', r = .agg l'.toArray ∧ MN h.length h' l' M L' := by
  obtain ⟨vW, vC, vM, vL, vQ, LW, LC, LM, LL, LQ, rfl, r, rfl⟩ := r
  exact AC_mono (toMachine_ac r hl) fun r h' x => x.mn
theorem eqM_ac (r : MV w h l M L) (r' : MV w' h l' M' L') : AC Try.prog 30 [.agg l.toArray, .agg l'.toArray] h [] fun r h' => r = .bool (decide (M = M')) ∧ h' = h := by
  obtain ⟨vW, vC, vM, vL, vQ, LW, LC, LM, LL, LQ, rfl, r, rfl⟩ := r
  obtain ⟨vW', vC', vM', vL', vQ', LW', LC', LM', LL', LQ', rfl, r', rfl⟩ := r'
  exact eqMachine_ac r r'
theorem markM_ac (r : MV true h l M L) (nd : L.Nodup) (hk0 : cntM M ≤ 4611686018427387900) :
    AC Try.prog 31 [.agg l.toArray, .int .i64 1] h L fun r h' => r = .int .i64 (1 + cntM M) ∧ MV true h' l (mkM 1 M) L := by
  obtain ⟨vW, vC, vM, vL, vQ, LW, LC, LM, LL, LQ, rfl, r, rfl⟩ := r
  exact AC_mono (markMachine_ac r nd 1 (by omega)) fun r h' ⟨e, x⟩ => ⟨e, _, _, _, _, _, _, _, _, _, _, rfl, x, rfl⟩
theorem heldM_ac (r : MV w h l (mkM 1 M) L) (hk0 : cntM M ≤ 4611686018427387900) :
    AC Try.prog 41 [.agg l.toArray, .int .i64 1] h [] fun r h' => r = .int .i64 (1 + cntM M) ∧ h' = h := by
  obtain ⟨vW, vC, vM, vL, vQ, LW, LC, LM, LL, LQ, rfl, r, rfl⟩ := r
  exact heldMachine_ac 1 r (by omega)
end
end Go.Proofs.Ytpenocegikjpaaa

/- The law of CountAll. -/
set_option linter.unusedSimpArgs false
set_option linter.unusedVariables false
set_option maxHeartbeats 1000000
namespace Go.Proofs.Ytpenocegikjpaaa
open Go.Ab
section
variable {w : Bool} {h : Heap} {l : List Value} {M : Mch} {L : List Nat}
theorem specCountA_ac (r : MV w h l M L) (hl : szM M ≤ 1048576) : AC Try.prog 26 [.agg l.toArray] h [] fun r h' => ∃ L', RL true EI h' r (countL M) L' ∧ L'.Nodup ∧ ∀ i ∈ L', h.length ≤ i := by
  obtain ⟨vW, vC, vM, vL, vQ, LW, LC, LM, LL, LQ, rfl, r, rfl⟩ := r
  exact specCountAll_ac r (by unfold szM at hl; omega)
theorem implCountA_ac (r : MV w h l M L) : AC Try.prog 28 [.agg l.toArray] h [] fun r h' => ∃ L', RL true EI h' r (countL M) L' ∧ L'.Nodup ∧ ∀ i ∈ L', h.length ≤ i := by
  obtain ⟨vW, vC, vM, vL, vQ, LW, LC, LM, LL, LQ, rfl, r, rfl⟩ := r
  exact implCountAll_ac r
theorem countL_len (M : Mch) : (countL M).length ≤ M.mag.length := by
  unfold countL
  split
  · rw [bumps_len]; unfold kindsL; rw [bumps_len]; simp
  · simp
/-- The law, of a machine in cells. -/
theorem countLaw (r0 : MV false h l M L) (hs : M.font.letters.size ≤ maxLen) : AC Try.prog 5 [.agg l.toArray] h [] fun r _ => r = .bool true := by
  have hlen0 := r0.len
  have hone0 := r0.one
  have lt0 := r0.lt
  have ht0 : l.take 10 = l := List.take_of_length_le (by omega)
  refine ac5 (by simp [p5]) ?_
  simp -implicitDefEqProofs [p5, hlen0, hone0, ht0]
  have k1 : Kp [] h (h ++ [some (⟨l, 10, true⟩ : AObj)]) := .app _ _ _
  have e0 : hcs (h ++ [some (⟨l, 10, true⟩ : AObj)]) h.length 0 10 = some l := hcs_var hlen0
  have qk1 : h.length < (h ++ [some (⟨l, 10, true⟩ : AObj)]).length := by simp
  have lk1 := k1.1
  replace r0 := r0.kp0 k1
  generalize h ++ [some (⟨l, 10, true⟩ : AObj)] = g2 at k1 lk1 qk1 r0 e0 ⊢
  refine call1 (szM_ac r0 hs) ?_
  by_cases hz : (1048576 : Int) < szM M
  · simp -implicitDefEqProofs [hz]
  have hsz : szM M ≤ 1048576 := by omega
  have hcn : cntM M ≤ 4611686018427387900 := by have := cntM_le M; omega
  simp -implicitDefEqProofs [hz, show ¬ ((1048576 : Int) - szM M < 0) by omega, e0]
  refine call0 (toM_ac r0 hsz) ?_
  rintro _ h4 ⟨lA, LA, rfl, rA, ndA, geA⟩ k3
  have lk3 := k3.1
  replace r0 := r0.kp0 k3
  replace e0 := hcs_kp0 k3 e0
  have ltA := rA.lt
  have hlenA := rA.len
  have honeA := rA.one
  have htA : lA.take 10 = lA := List.take_of_length_le (by omega)
  simp -implicitDefEqProofs
  refine call0 (specCountA_ac rA hsz) ?_
  rintro vS h6 ⟨LS, rS, ndS, geS⟩ k5
  have lk5 := k5.1
  replace r0 := r0.kp0 k5
  replace e0 := hcs_kp0 k5 e0
  replace rA := rA.kp0 k5
  have ltS := rS.lt
  simp -implicitDefEqProofs [e0]
  refine call0 (toM_ac r0 hsz) ?_
  rintro _ h8 ⟨lB, LB, rfl, rB, ndB, geB⟩ k7
  have lk7 := k7.1
  replace r0 := r0.kp0 k7
  replace e0 := hcs_kp0 k7 e0
  replace rA := rA.kp0 k7
  replace rS := rS.kp0 k7
  have ltB := rB.lt
  have hlenB := rB.len
  have honeB := rB.one
  have htB : lB.take 10 = lB := List.take_of_length_le (by omega)
  simp -implicitDefEqProofs [strV_var, hlenB, honeB, htB, mt_ge (show h.length ≤ h8.length by omega)]
  have k9 : Kp [] h8 (h8 ++ [some (⟨lB, 10, true⟩ : AObj)]) := .app _ _ _
  have eB : hcs (h8 ++ [some (⟨lB, 10, true⟩ : AObj)]) h8.length 0 10 = some lB := hcs_var hlenB
  have qk9 : h8.length < (h8 ++ [some (⟨lB, 10, true⟩ : AObj)]).length := by simp
  have lk9 := k9.1
  replace r0 := r0.kp0 k9
  replace e0 := hcs_kp0 k9 e0
  replace rA := rA.kp0 k9
  replace rS := rS.kp0 k9
  replace rB := rB.kp0 k9
  generalize h8 ++ [some (⟨lB, 10, true⟩ : AObj)] = g10 at k9 lk9 qk9 r0 e0 rA rS rB eB ⊢
  refine call0 (implCountA_ac rB) ?_
  rintro vI h12 ⟨LI, rI, ndI, geI⟩ k11
  have lk11 := k11.1
  replace r0 := r0.kp0 k11
  replace e0 := hcs_kp0 k11 e0
  replace rA := rA.kp0 k11
  replace rS := rS.kp0 k11
  replace rB := rB.kp0 k11
  replace eB := hcs_kp0 k11 eB
  have ltI := rI.lt
  simp -implicitDefEqProofs
  refine call1 (eqIntS_ac rI rS) ?_
  simp -implicitDefEqProofs [eB, e0]
  refine call0 (toM_ac r0 hsz) ?_
  rintro _ h14 ⟨lC, LC, rfl, rC, ndC, geC⟩ k13
  have lk13 := k13.1
  replace r0 := r0.kp0 k13
  replace e0 := hcs_kp0 k13 e0
  replace rA := rA.kp0 k13
  replace rS := rS.kp0 k13
  replace rB := rB.kp0 k13
  replace eB := hcs_kp0 k13 eB
  replace rI := rI.kp0 k13
  have ltC := rC.lt
  have hlenC := rC.len
  have honeC := rC.one
  have htC : lC.take 10 = lC := List.take_of_length_le (by omega)
  simp -implicitDefEqProofs
  refine call1 (eqM_ac rB rC) ?_
  simp -implicitDefEqProofs [eB]
  refine callK (markM_ac rB ndB hcn) (fun i hi => .inr (by have := geB i hi; omega)) ?_
  rintro _ h16 ⟨rfl, mB⟩ k15
  have lk15 := k15.1
  replace r0 := r0.kp k15 (fun i hi hn => by have := geB i hn; have := ltB i hn; have := lt0 i hi; omega)
  replace e0 := hcs_kp k15 e0 (fun hn => by have := geB _ hn; have := ltB _ hn; omega)
  replace rA := rA.kp k15 (fun i hi hn => by have := geB i hn; have := ltB i hn; have := ltA i hi; have := geA i hi; omega)
  replace rS := rS.kp k15 (fun i hi hn => by have := geB i hn; have := ltB i hn; have := ltS i hi; have := geS i hi; omega)
  replace eB := hcs_kp k15 eB (fun hn => by have := geB _ hn; have := ltB _ hn; omega)
  replace rI := rI.kp k15 (fun i hi hn => by have := geB i hn; have := ltB i hn; have := ltI i hi; have := geI i hi; omega)
  replace rC := rC.kp k15 (fun i hi hn => by have := geB i hn; have := ltB i hn; have := ltC i hi; have := geC i hi; omega)
  simp -implicitDefEqProofs [show ¬ (1 + (cntM M : Int) < 0) by omega]
  refine call1 (eqIntS_ac rI rS) ?_
  simp -implicitDefEqProofs
  have hci : (countL M).length ≤ 4611686018427387900 := by have := rI.bd; unfold big at this; omega
  refine callK (markIntS_ac rI 1 (by omega)) (fun i hi => .inr (by have := geI i hi; omega)) ?_
  rintro _ h18 ⟨rfl, mI⟩ k17
  have lk17 := k17.1
  replace r0 := r0.kp k17 (fun i hi hn => by have := geI i hn; have := ltI i hn; have := lt0 i hi; omega)
  replace e0 := hcs_kp k17 e0 (fun hn => by have := geI _ hn; have := ltI _ hn; omega)
  replace rA := rA.kp k17 (fun i hi hn => by have := geI i hn; have := ltI i hn; have := ltA i hi; have := geA i hi; omega)
  replace rS := rS.kp k17 (fun i hi hn => by have := geI i hn; have := ltI i hn; have := ltS i hi; have := geS i hi; omega)
  replace eB := hcs_kp k17 eB (fun hn => by have := geI _ hn; have := ltI _ hn; omega)
  replace rC := rC.kp k17 (fun i hi hn => by have := geI i hn; have := ltI i hn; have := ltC i hi; have := geC i hi; omega)
  replace mB := mB.kp k17 (fun i hi hn => by have := geI i hn; have := ltI i hn; have := ltB i hi; have := geB i hi; omega)
  simp -implicitDefEqProofs
  refine call1 (heldIntS_ac mI (by omega)) ?_
  simp -implicitDefEqProofs [show ¬ (1 + ((countL M).length : Int) < 0) by omega, e0]
  refine call0 (toM_ac r0 hsz) ?_
  rintro _ h20 ⟨lD, LD, rfl, rD, ndD, geD⟩ k19
  have lk19 := k19.1
  replace r0 := r0.kp0 k19
  replace e0 := hcs_kp0 k19 e0
  replace rA := rA.kp0 k19
  replace rS := rS.kp0 k19
  replace eB := hcs_kp0 k19 eB
  replace rC := rC.kp0 k19
  replace mB := mB.kp0 k19
  replace mI := mI.kp0 k19
  have ltD := rD.lt
  have hlenD := rD.len
  have honeD := rD.one
  have htD : lD.take 10 = lD := List.take_of_length_le (by omega)
  simp -implicitDefEqProofs
  refine call0 (implCountA_ac rD) ?_
  rintro vJ h22 ⟨LJ, rJ, ndJ, geJ⟩ k21
  have lk21 := k21.1
  replace r0 := r0.kp0 k21
  replace e0 := hcs_kp0 k21 e0
  replace rA := rA.kp0 k21
  replace rS := rS.kp0 k21
  replace eB := hcs_kp0 k21 eB
  replace rC := rC.kp0 k21
  replace mB := mB.kp0 k21
  replace mI := mI.kp0 k21
  replace rD := rD.kp0 k21
  have ltJ := rJ.lt
  simp -implicitDefEqProofs
  refine call1 (eqIntS_ac rJ rS) ?_
  simp -implicitDefEqProofs
  refine call1 (heldIntS_ac mI (by omega)) ?_
  simp -implicitDefEqProofs [show ¬ (1 + ((countL M).length : Int) < 0) by omega]
end
theorem fnExactCountAll_ac {h : Heap} {M : Mch} {vW vC vM vL vQ : Value} {LW LC LM LL LQ : List Nat} (r : RM false h M vW vC vM vL vQ LW LC LM LL LQ) (hs : M.font.letters.size ≤ maxLen) :
    AC Try.prog 5 [mval M vW vC vM vL vQ] h [] fun r _ => r = .bool true :=
  countLaw ⟨_, _, _, _, _, _, _, _, _, _, rfl, r, rfl⟩ hs
end Go.Proofs.Ytpenocegikjpaaa
