/- How the relation between abstract heap and world goes through reads, new blocks and writes. -/
import Derived.Test.YtpenocegikjpaaaAb1
set_option linter.unusedSimpArgs false
set_option linter.unusedVariables false
namespace Go.Ab

theorem hob_eq {h : Heap} {i : Nat} {o : AObj} : hob h i = some o ↔ h[i]? = some (some o) := by
  unfold hob; split
  · rename_i o' e; simp [e]
  · rename_i hn; constructor
    · intro e; cases e
    · intro e; exact absurd e (hn o)

theorem Sim.blk {ρ : Rho} {h : Heap} {w : World} (s : Sim ρ h w) {i : Nat} {o : AObj} (e : hob h i = some o) : ∃ k, ρ i = some k := by
  obtain ⟨k, _, _, _, hk, _⟩ := s.obj i o (hob_eq.1 e); exact ⟨k, hk⟩

theorem Sim.cell {ρ : Rho} {h : Heap} {w : World} (s : Sim ρ h w) {i o : Nat} {v : Value} {k : Blk} (e : hc1 h i o = some v) (hk : ρ i = some k) :
    ∃ rv, w.cell? ⟨k.b, k.base + o, none⟩ = some rv ∧ VR ρ v rv ∧ v.oneCell' = true := by
  unfold hc1 at e
  cases hb : hob h i with
  | none => simp [hb] at e
  | some ob =>
    simp [hb] at e
    obtain ⟨k', rc, t, fr, hk', hh, _, _, hc⟩ := s.obj i ob (hob_eq.1 hb)
    rw [hk] at hk'; injection hk' with hk'; subst hk'
    obtain ⟨rv, hr, hv, h1⟩ := hc o v e
    exact ⟨rv, by simp [World.cell?, hh, hr], hv, h1⟩

theorem hcs_get {h : Heap} {i o n : Nat} {l : List Value} (e : hcs h i o n = some l) : l.length = n ∧ ∀ j v, l[j]? = some v → hc1 h i (o + j) = some v := by
  unfold hcs at e
  cases hb : hob h i with
  | none => simp [hb] at e
  | some ob =>
    simp only [hb, Option.bind_some] at e
    split at e
    · rename_i hle
      injection e with e; subst e
      refine ⟨by simp; omega, fun j v hj => ?_⟩
      rw [List.getElem?_take] at hj
      split at hj
      · simp only [hc1, hb, Option.bind_some]
        rw [List.getElem?_drop] at hj; exact hj
      · cases hj
    · cases e

theorem Sim.cells {ρ : Rho} {h : Heap} {w : World} (s : Sim ρ h w) {i o n : Nat} {l : List Value} {k : Blk} (e : hcs h i o n = some l) (hk : ρ i = some k) :
    ∃ rl : List Value, rl.length = n ∧ VRL ρ l rl ∧ (∀ j v, rl[j]? = some v → w.cell? ⟨k.b, k.base + o + j, none⟩ = some v) ∧ ∀ v ∈ l, v.oneCell' = true := by
  obtain ⟨hl, hg⟩ := hcs_get e
  have hx : ∀ j, ∃ rv, j < n → w.cell? ⟨k.b, k.base + o + j, none⟩ = some rv ∧ VR ρ (l.getD j undef) rv ∧ (l.getD j undef).oneCell' = true := by
    intro j
    by_cases hj : j < n
    · have hj' : j < l.length := by omega
      obtain ⟨rv, h1, h2, h3⟩ := s.cell (hg j l[j] (List.getElem?_eq_getElem hj')) hk
      exact ⟨rv, fun _ => ⟨by rw [Nat.add_assoc]; exact h1, by simpa [List.getD_eq_getElem?_getD, List.getElem?_eq_getElem hj'] using h2, by simpa [List.getD_eq_getElem?_getD, List.getElem?_eq_getElem hj'] using h3⟩⟩
    · exact ⟨undef, fun h => absurd h hj⟩
  obtain ⟨f, hf⟩ := Classical.axiomOfChoice hx
  refine ⟨(List.range n).map f, by simp, ⟨by simp [hl], fun j hj => ?_⟩, fun j v hj => ?_, fun v hv => ?_⟩
  · have hj' : j < n := by omega
    have := (hf j hj').2.1
    simpa [List.getD_eq_getElem?_getD, hj'] using this
  · by_cases hj' : j < n
    · have := (hf j hj').1
      simp [hj'] at hj; rw [← hj]; exact this
    · simp [hj'] at hj
  · obtain ⟨j, hj, rfl⟩ := List.getElem_of_mem hv
    have := (hf j (by omega)).2.2
    simpa [List.getD_eq_getElem?_getD, List.getElem?_eq_getElem hj] using this

theorem oneAll_mem {l : List Value} (h : oneAll l = true) : ∀ v ∈ l, v.oneCell' = true := by simpa [oneAll] using h
theorem VRL.one {ρ : Rho} {l rl : List Value} (h : VRL ρ l rl) (h1 : ∀ v ∈ l, v.oneCell' = true) : ∀ v ∈ rl, v.oneCell' = true := by
  intro v hv
  obtain ⟨j, hj, rfl⟩ := List.getElem_of_mem hv
  have hj' : j < l.length := by rw [h.1]; exact hj
  have := h.2 j hj'
  simp only [List.getD_eq_getElem?_getD, List.getElem?_eq_getElem hj, List.getElem?_eq_getElem hj', Option.getD_some] at this
  rw [this.one]; exact h1 _ (List.getElem_mem hj')

/-- A world that differs in nothing but its blocks. -/
structure Like (w w' : World) : Prop where
  os : w'.os = w.os
  tape : w'.tape = w.tape
  output : w'.output = w.output

def rset (ρ : Rho) (i : Nat) (k : Blk) : Rho := fun j => if j = i then some k else ρ j

theorem rset_ext {ρ : Rho} {h : Heap} {w : World} (s : Sim ρ h w) (k : Blk) : Ext ρ (rset ρ h.length k) := by
  intro j k' hj
  have := (s.dom j k' hj).1
  simp [rset, Nat.ne_of_lt this, hj]

/-- A new block, a new object. -/
theorem Sim.new {ρ : Rho} {h : Heap} {w w' : World} (s : Sim ρ h w) {l : List Value} {rc : Array Value} {t : TypeId} (es : Nat)
    (hl : Like w w') (hw : w'.heap = w.heap.push (.cells rc t (0, 0))) (h1 : ∀ v ∈ l, v.oneCell' = true) (hz : l.length ≤ rc.size)
    (hr : ∀ (j : Nat) (v : Value), l[j]? = some v → ∃ rv, rc[j]? = some rv ∧ VR ρ v rv) :
    Sim (rset ρ h.length ⟨w.heap.size, 0, rc.size, es, true⟩) (newO h l es) w' ∧ Stp [] ρ h w (rset ρ h.length ⟨w.heap.size, 0, rc.size, es, true⟩) (newO h l es) w' := by
  have he := rset_ext s ⟨w.heap.size, 0, rc.size, es, true⟩
  have hsz : w'.heap.size = w.heap.size + 1 := by rw [hw]; simp
  have hold : ∀ b, b < w.heap.size → w'.heap[b]? = w.heap[b]? := fun b hb => by
    rw [hw, Array.getElem?_push, if_neg (by omega)]
  have hnew : w'.heap[w.heap.size]? = some (.cells rc t (0, 0)) := by rw [hw]; simp
  have hget : ∀ i o, (newO h l es)[i]? = some (some o) → (i < h.length ∧ h[i]? = some (some o)) ∨ (i = h.length ∧ o = ⟨l, es, true⟩) := by
    intro i o e
    unfold newO at e
    by_cases hi : i < h.length
    · rw [List.getElem?_append_left hi] at e; exact .inl ⟨hi, e⟩
    · rw [List.getElem?_append_right (by omega)] at e
      by_cases h0 : i - h.length = 0
      · rw [h0] at e; simp at e; exact .inr ⟨by omega, e.symm⟩
      · rw [List.getElem?_eq_none (by simp; omega)] at e; cases e
  refine ⟨⟨?_, ?_, ?_⟩, ⟨he, hl.os, hl.tape, hl.output, by omega, by simp [newO], fun b hb _ => hold b hb, fun i hi _ => by unfold newO; rw [List.getElem?_append_left hi], ?_, ?_⟩⟩
  · intro i k hk
    unfold rset at hk
    split at hk
    · rename_i e; injection hk with hk; subst hk; subst e
      exact ⟨by simp [newO], by show w.heap.size < w'.heap.size; omega⟩
    · have := s.dom i k hk
      exact ⟨by simp [newO]; omega, by omega⟩
  · intro i o e
    rcases hget i o e with ⟨hi, e'⟩ | ⟨rfl, rfl⟩
    · obtain ⟨k, rc', t', fr, hk, hh, ho, hown, hc⟩ := s.obj i o e'
      refine ⟨k, rc', t', fr, he _ _ hk, by rw [hold _ (s.dom i k hk).2]; exact hh, ho, hown, fun j v hv => ?_⟩
      obtain ⟨rv, a, b, c⟩ := hc j v hv
      exact ⟨rv, a, b.mono he, c⟩
    · refine ⟨⟨w.heap.size, 0, rc.size, es, true⟩, rc, t, (0, 0), by simp [rset], hnew, rfl, fun _ => ⟨rfl, rfl, rfl, by simpa using hz⟩, fun j v hv => ?_⟩
      obtain ⟨rv, a, b⟩ := hr j v hv
      exact ⟨rv, by simpa using a, b.mono he, h1 v (List.mem_of_getElem? hv)⟩
  · intro i j oi oj ki kj hi hj hki hkj ho hne
    rcases hget i oi hi with ⟨hi1, hi2⟩ | ⟨rfl, rfl⟩ <;> rcases hget j oj hj with ⟨hj1, hj2⟩ | ⟨rfl, rfl⟩
    · obtain ⟨k1, _, _, _, hk1, _⟩ := s.obj i oi hi2
      obtain ⟨k2, _, _, _, hk2, _⟩ := s.obj j oj hj2
      have e1 := he _ _ hk1; have e2 := he _ _ hk2
      rw [hki] at e1; rw [hkj] at e2; injection e1 with e1; injection e2 with e2; subst e1; subst e2
      exact s.inj i j oi oj _ _ hi2 hj2 hk1 hk2 ho hne
    · obtain ⟨k1, _, _, _, hk1, _⟩ := s.obj i oi hi2
      have e1 := he _ _ hk1
      rw [hki] at e1; injection e1 with e1; subst e1
      simp [rset] at hkj; subst hkj
      exact Nat.ne_of_lt (s.dom i _ hk1).2
    · obtain ⟨k2, _, _, _, hk2, _⟩ := s.obj j oj hj2
      have e2 := he _ _ hk2
      rw [hkj] at e2; injection e2 with e2; subst e2
      simp [rset] at hki; subst hki
      exact Nat.ne_of_gt (s.dom j _ hk2).2
    · exact absurd rfl hne
  · intro i o' hi e
    rcases hget i o' e with ⟨_, e'⟩ | ⟨rfl, _⟩
    · exact ⟨o', e', rfl⟩
    · omega
  · intro i o k hi e ho hk
    rcases hget i o e with ⟨hi', _⟩ | ⟨rfl, rfl⟩
    · omega
    · simp [rset] at hk; subst hk; exact .inl (Nat.le_refl _)

/-- An own object's cells are written. -/
theorem Sim.upd {ρ : Rho} {h : Heap} {w w' : World} (s : Sim ρ h w) {i : Nat} {ob : AObj} {k : Blk} {l : List Value} {rc' : Array Value} {t : TypeId}
    (hi : hob h i = some ob) (ho : ob.own = true) (hk : ρ i = some k) (hl : Like w w') (hsz : w'.heap.size = w.heap.size)
    (hw : w'.heap[k.b]? = some (.cells rc' t (0, 0))) (hoth : ∀ b, b ≠ k.b → w'.heap[b]? = w.heap[b]?) (hrs : rc'.size = k.sz) (hle : k.base + l.length ≤ k.sz)
    (hr : ∀ (j : Nat) (v : Value), l[j]? = some v → ∃ rv, rc'[k.base + j]? = some rv ∧ VR ρ v rv ∧ v.oneCell' = true) :
    Sim ρ (h.set i (some { ob with cells := l })) w' ∧ Stp [i] ρ h w ρ (h.set i (some { ob with cells := l })) w' := by
  have hi' := hob_eq.1 hi
  have hlt : i < h.length := (List.getElem?_eq_some_iff.1 hi').1
  have hget : ∀ j o, (h.set i (some { ob with cells := l }))[j]? = some (some o) → (j = i ∧ o = { ob with cells := l }) ∨ (j ≠ i ∧ h[j]? = some (some o)) := by
    intro j o e
    by_cases hj : j = i
    · subst hj; rw [List.getElem?_set_self hlt] at e; injection e with e; injection e with e; exact .inl ⟨rfl, e.symm⟩
    · rw [List.getElem?_set_ne (fun x => hj x.symm)] at e; exact .inr ⟨hj, e⟩
  obtain ⟨k0, rc0, t0, fr0, hk0, hh0, ho0, hown0, _⟩ := s.obj i ob hi'
  rw [hk] at hk0; injection hk0 with hk0; subst hk0
  refine ⟨⟨?_, ?_, ?_⟩, ⟨.refl ρ, hl.os, hl.tape, hl.output, by omega, by simp, ?_, fun j _ hn => List.getElem?_set_ne (fun e => hn (by simp [e])), ?_, ?_⟩⟩
  · intro j kj hj
    have := s.dom j kj hj
    exact ⟨by simpa using this.1, by omega⟩
  · intro j o e
    rcases hget j o e with ⟨rfl, rfl⟩ | ⟨hne, e'⟩
    · exact ⟨k, rc', t, (0, 0), hk, hw, ho0, fun _ => ⟨rfl, hrs, (hown0 ho).2.2.1, hle⟩, hr⟩
    · obtain ⟨kj, rc, tj, fr, hkj, hh, hoj, hown, hc⟩ := s.obj j o e'
      have hne' : kj.b ≠ k.b := fun x => s.inj i j ob o k kj hi' e' hk hkj ho (fun y => hne y.symm) x.symm
      exact ⟨kj, rc, tj, fr, hkj, by rw [hoth _ hne']; exact hh, hoj, hown, hc⟩
  · intro a b oa ob' ka kb ha hb hka hkb hoa hne
    have ha' : ∃ o', h[a]? = some (some o') ∧ o'.own = oa.own := by
      rcases hget a oa ha with ⟨rfl, rfl⟩ | ⟨_, e⟩
      · exact ⟨ob, hi', rfl⟩
      · exact ⟨oa, e, rfl⟩
    have hb' : ∃ o', h[b]? = some (some o') := by
      rcases hget b ob' hb with ⟨rfl, rfl⟩ | ⟨_, e⟩
      · exact ⟨ob, hi'⟩
      · exact ⟨ob', e⟩
    obtain ⟨oa', ea, hoa'⟩ := ha'
    obtain ⟨ob'', eb⟩ := hb'
    exact s.inj a b oa' ob'' ka kb ea eb hka hkb (by rw [hoa']; exact hoa) hne
  · intro b hb hn
    refine hoth b fun x => hn ?_
    subst x
    exact ⟨i, ob, k, by simp, hi', ho, hk, rfl⟩
  · intro j o' hj e
    rcases hget j o' e with ⟨rfl, rfl⟩ | ⟨_, e'⟩
    · exact ⟨ob, hi', rfl⟩
    · exact ⟨o', e', rfl⟩
  · intro j o kj hj e
    rw [List.getElem?_eq_none (by simpa using hj)] at e; cases e

/-- An own object is appended to in its place: it dies, a new object takes its block. -/
theorem Sim.move {ρ : Rho} {h : Heap} {w w' : World} (s : Sim ρ h w) {i o : Nat} {ob : AObj} {k : Blk} {l : List Value} {rc' : Array Value} {t : TypeId}
    (hi : hob h i = some ob) (ho : ob.own = true) (hk : ρ i = some k) (hl : Like w w') (hsz : w'.heap.size = w.heap.size)
    (hw : w'.heap[k.b]? = some (.cells rc' t (0, 0))) (hoth : ∀ b, b ≠ k.b → w'.heap[b]? = w.heap[b]?) (hrs : rc'.size = k.sz) (hle : k.base + o + l.length ≤ k.sz)
    (hr : ∀ (j : Nat) (v : Value), l[j]? = some v → ∃ rv, rc'[k.base + o + j]? = some rv ∧ VR ρ v rv ∧ v.oneCell' = true) :
    Sim (rset ρ h.length ⟨k.b, k.base + o, k.sz, k.es, true⟩) (newO (h.set i none) l k.es) w' ∧
      Stp [i] ρ h w (rset ρ h.length ⟨k.b, k.base + o, k.sz, k.es, true⟩) (newO (h.set i none) l k.es) w' := by
  have hi' := hob_eq.1 hi
  have hlt : i < h.length := (List.getElem?_eq_some_iff.1 hi').1
  have he := rset_ext s ⟨k.b, k.base + o, k.sz, k.es, true⟩
  have hget : ∀ j o', (newO (h.set i none) l k.es)[j]? = some (some o') → (j ≠ i ∧ j < h.length ∧ h[j]? = some (some o')) ∨ (j = h.length ∧ o' = ⟨l, k.es, true⟩) := by
    intro j o' e
    unfold newO at e
    by_cases hj : j < h.length
    · rw [List.getElem?_append_left (by simpa using hj)] at e
      by_cases hji : j = i
      · subst hji; rw [List.getElem?_set_self hlt] at e; simp at e
      · rw [List.getElem?_set_ne (fun x => hji x.symm)] at e; exact .inl ⟨hji, hj, e⟩
    · rw [List.getElem?_append_right (by simp; omega)] at e
      by_cases h0 : j - (h.set i none).length = 0
      · rw [h0] at e; simp at e; exact .inr ⟨by simp at h0; omega, e.symm⟩
      · rw [List.getElem?_eq_none (by simp at h0 ⊢; omega)] at e; cases e
  refine ⟨⟨?_, ?_, ?_⟩, ⟨he, hl.os, hl.tape, hl.output, by omega, by simp [newO], ?_, fun j hj hn => by unfold newO; rw [List.getElem?_append_left (by simpa using hj), List.getElem?_set_ne (fun e => hn (by simp [e]))], ?_, ?_⟩⟩
  · intro j kj hj
    unfold rset at hj
    split at hj
    · rename_i e; injection hj with hj; subst hj; subst e
      exact ⟨by simp [newO], by have := (s.dom i k hk).2; show k.b < _; omega⟩
    · have := s.dom j kj hj
      exact ⟨by simp [newO]; omega, by omega⟩
  · intro j o' e
    rcases hget j o' e with ⟨hne, _, e'⟩ | ⟨rfl, rfl⟩
    · obtain ⟨kj, rc, tj, fr, hkj, hh, hoj, hown, hc⟩ := s.obj j o' e'
      have hne' : kj.b ≠ k.b := fun x => s.inj i j ob o' k kj hi' e' hk hkj ho (fun y => hne y.symm) x.symm
      refine ⟨kj, rc, tj, fr, he _ _ hkj, by rw [hoth _ hne']; exact hh, hoj, hown, fun a v hv => ?_⟩
      obtain ⟨rv, x, y, z⟩ := hc a v hv
      exact ⟨rv, x, y.mono he, z⟩
    · refine ⟨⟨k.b, k.base + o, k.sz, k.es, true⟩, rc', t, (0, 0), by simp [rset], hw, rfl, fun _ => ⟨rfl, hrs, rfl, hle⟩, fun j v hv => ?_⟩
      obtain ⟨rv, x, y, z⟩ := hr j v hv
      exact ⟨rv, x, y.mono he, z⟩
  · intro a b oa ob' ka kb ha hb hka hkb hoa hne
    rcases hget a oa ha with ⟨hai, _, ea⟩ | ⟨rfl, rfl⟩ <;> rcases hget b ob' hb with ⟨hbi, _, eb⟩ | ⟨rfl, rfl⟩
    · obtain ⟨k1, _, _, _, hk1, _⟩ := s.obj a oa ea
      obtain ⟨k2, _, _, _, hk2, _⟩ := s.obj b ob' eb
      have e1 := he _ _ hk1; have e2 := he _ _ hk2
      rw [hka] at e1; rw [hkb] at e2; injection e1 with e1; injection e2 with e2; subst e1; subst e2
      exact s.inj a b oa ob' _ _ ea eb hk1 hk2 hoa hne
    · obtain ⟨k1, _, _, _, hk1, _⟩ := s.obj a oa ea
      have e1 := he _ _ hk1
      rw [hka] at e1; injection e1 with e1; subst e1
      simp [rset] at hkb; subst hkb
      exact fun x => s.inj i a ob oa k _ hi' ea hk hk1 ho (fun y => hai y.symm) x.symm
    · obtain ⟨k2, _, _, _, hk2, _⟩ := s.obj b ob' eb
      have e2 := he _ _ hk2
      rw [hkb] at e2; injection e2 with e2; subst e2
      simp [rset] at hka; subst hka
      exact s.inj i b ob ob' k _ hi' eb hk hk2 ho (fun y => hbi y.symm)
    · exact absurd rfl hne
  · intro b hb hn
    refine hoth b fun x => hn ?_
    subst x
    exact ⟨i, ob, k, by simp, hi', ho, hk, rfl⟩
  · intro j o' hj e
    rcases hget j o' e with ⟨_, _, e'⟩ | ⟨rfl, _⟩
    · exact ⟨o', e', rfl⟩
    · omega
  · intro j o' kj hj e ho' hkj
    rcases hget j o' e with ⟨_, h2, _⟩ | ⟨rfl, rfl⟩
    · omega
    · simp [rset] at hkj; subst hkj
      exact .inr ⟨i, ob, k, by simp, hi', ho, hk, rfl⟩

/-- An object is forgotten. -/
theorem Sim.kill {ρ : Rho} {h : Heap} {w : World} (s : Sim ρ h w) {i : Nat} {ob : AObj} (hi : hob h i = some ob) : Sim ρ (h.set i none) w := by
  have hget : ∀ (j : Nat) (o' : AObj), (h.set i none)[j]? = some (some o') → h[j]? = some (some o') := by
    intro j o' e
    by_cases hj : i = j
    · subst hj
      have hlt := (List.getElem?_eq_some_iff.1 (hob_eq.1 hi)).1
      rw [List.getElem?_set_self hlt] at e; simp at e
    · rwa [List.getElem?_set_ne hj] at e
  refine ⟨fun j k hj => by simpa using s.dom j k hj, fun j o' e => s.obj j o' (hget j o' e), fun a b oa ob' ka kb ha hb => s.inj a b oa ob' ka kb (hget a oa ha) (hget b ob' hb)⟩
theorem Stp.kill {T : List Nat} {ρ ρ' : Rho} {h h' h'' : Heap} {w w' : World} (s : Stp T ρ h w ρ' h' w') {i : Nat} (e : h'.set i none = h'') : Stp (i :: T) ρ h w ρ' h'' w' := by
  subst e
  have hget : ∀ (j : Nat) (o' : AObj), (h'.set i none)[j]? = some (some o') → h'[j]? = some (some o') := by
    intro j o' e
    by_cases hj : i = j
    · subst hj
      by_cases hlt : i < h'.length
      · rw [List.getElem?_set_self hlt] at e; simp at e
      · rw [List.getElem?_eq_none (by simp; omega)] at e; cases e
    · rwa [List.getElem?_set_ne hj] at e
  have s' := s.mono (T' := i :: T) (fun _ h => List.mem_cons_of_mem _ h)
  exact ⟨s'.ext, s'.os, s'.tape, s'.output, s'.size, by simpa using s'.len, s'.frame, fun j hj hn => by
    have hji : i ≠ j := fun e => hn (by simp [e])
    rw [List.getElem?_set_ne hji]; exact s'.same j hj hn, fun j o' hj e => s'.live j o' hj (hget j o' e), fun j o' k hj e => s'.back j o' k hj (hget j o' e)⟩
end Go.Ab
