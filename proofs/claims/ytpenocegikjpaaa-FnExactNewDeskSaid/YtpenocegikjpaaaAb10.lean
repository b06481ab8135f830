/- A region that draws its order: whatever order comes up, what the plan says holds behind it. -/
import Derived.Test.YtpenocegikjpaaaAb9
set_option linter.unusedSimpArgs false
set_option linter.unusedVariables false
namespace Go.Ab
section
variable {P : Program} {ρ : Rho} {tm : Nat → Value} {h h' : Heap} {w : World} {g : Operand → Value} {o : Oper} {po : POp} {T : List Nat} {v : Value}

theorem cell_block {w w' : World} {b o : Nat} (e : w'.heap[b]? = w.heap[b]?) : w'.cell? ⟨b, o, none⟩ = w.cell? ⟨b, o, none⟩ := by simp [World.cell?, e]

/-- A load yields the same in every world in which its block is as it is. -/
theorem load_any {t : TypeId} {x : Operand} (ho : o.op = .load t x) (hp : prepOp P o.op = some po) (ha : aop P tm h po = some (T, v, h')) (hg : GV ρ tm g) (hs : Sim ρ h w) :
    T = [] ∧ h' = h ∧ ∃ i k rv, readId tm po = some i ∧ (∃ ob, h[i]? = some (some ob)) ∧ ρ i = some k ∧ VR ρ v rv ∧ ∀ w', w'.heap[k.b]? = w.heap[k.b]? → (execOp g o).run P w' = .ok (.value rv) w' := by
  rw [ho] at hp
  simp only [prepOp, bind, Option.bind_eq_some_iff] at hp
  obtain ⟨p, h1, n, hn, b, hb, hp⟩ := hp
  obtain ⟨i, hi, hsz⟩ := szOf_some hn
  unfold aggOf at hb
  cases hu : P.underlying t with
  | none => simp [hu] at hb
  | some d =>
    have hag : ∀ w, (isAgg t).run P w = .ok b w := by
      intro w
      simp only [hu, Option.map_some, Option.some.injEq] at hb
      subst hb
      simp only [isAgg, underlying, Sem.run_bind, run_program, Result.andThen_ok, hu]
      cases d <;> rfl
    have hv := hg x p h1
    cases b with
    | true =>
      simp at hp; subst hp
      simp only [aop] at ha
      split at ha
      · rename_i j ofs e
        rw [e] at hv
        obtain ⟨k, hk, hgx⟩ := ptr_inv hv
        cases hc : hcs h j ofs n with
        | none => simp [hc] at ha
        | some l =>
          simp [hc] at ha
          obtain ⟨rfl, rfl, rfl⟩ := ha
          have hlive : ∃ ob, h[j]? = some (some ob) := by
            unfold hcs at hc
            cases hob' : hob h j with
            | none => simp [hob'] at hc
            | some ob => exact ⟨ob, hob_eq.1 hob'⟩
          obtain ⟨rl, hrl, hvr, hcell, _⟩ := hs.cells hc hk
          refine ⟨rfl, rfl, j, k, .agg rl.toArray, by simp [readId, e], hlive, hk, VR.agg_iff (by simpa using hvr), fun w' hw' => ?_⟩
          have hl := run_loadCells_list (P := P) w' ⟨k.b, k.base + ofs, none⟩ rl (fun j v hj => by rw [add_plain, cell_block hw']; exact hcell j v hj)
          rw [hrl] at hl
          simp [execOp, ho, Instr.loadAt, Instr.sureAddr, hgx, loadVar, hag, sizeOf, typeInfo, hi, hsz, hl]
      · cases ha
    | false =>
      simp at hp; subst hp
      simp only [aop] at ha
      split at ha
      · rename_i j ofs e
        rw [e] at hv
        obtain ⟨k, hk, hgx⟩ := ptr_inv hv
        cases hc : hc1 h j ofs with
        | none => simp [hc] at ha
        | some u =>
          simp [hc] at ha
          obtain ⟨rfl, rfl, rfl⟩ := ha
          have hlive : ∃ ob, h[j]? = some (some ob) := by
            unfold hc1 at hc
            cases hob' : hob h j with
            | none => simp [hob'] at hc
            | some ob => exact ⟨ob, hob_eq.1 hob'⟩
          obtain ⟨rv, hcell, hvr, _⟩ := hs.cell hc hk
          refine ⟨rfl, rfl, j, k, rv, by simp [readId, e], hlive, hk, hvr, fun w' hw' => ?_⟩
          simp [execOp, ho, Instr.loadAt, Instr.sureAddr, hgx, loadVar, hag, run_load, cell_block hw', hcell]
      · cases ha

theorem readId_reads {tm : Nat → Value} {po : POp} {i : Nat} (e : readId tm po = some i) : readsB po = true := by
  cases po <;> simp [readId] at e <;> rfl

/-- What a quiet operation does, whatever the world. -/
theorem quiet_sound (hp : prepOp P o.op = some po) (hq : quietB po = true) (ha : aop P tm h po = some (T, v, h')) (hg : GV ρ tm g) (hs : Sim ρ h w) :
    (OutQ P (execOp g o) ρ v ∧ T = [] ∧ h' = h) ∨
    (T = [] ∧ h' = h ∧ ∃ i k rv, readId tm po = some i ∧ (∃ ob, h[i]? = some (some ob)) ∧ ρ i = some k ∧ VR ρ v rv ∧ ∀ w', w'.heap[k.b]? = w.heap[k.b]? → (execOp g o).run P w' = .ok (.value rv) w') := by
  cases hop : o.op with
  | load t a => exact .inr (load_any hop hp ha hg hs)
  | move x => exact .inl (s_move (.inl hop) hp ha hg)
  | assign x => exact .inl (s_move (.inr hop) hp ha hg)
  | pick c a b => exact .inl (s_pick hop hp ha hg)
  | build t ps => exact .inl (s_build hop hp ha hg)
  | nilCheck x => exact .inl (s_nilCheck hop hp ha hg)
  | binOp op t x y t' => exact .inl (s_bin hop hp ha hg)
  | unOp op t x => exact .inl (s_un hop hp ha hg)
  | convert s d x =>
    have : ∃ p, po = .cnv s d p := by
      rw [hop] at hp
      simp only [prepOp, bind, Option.bind_eq_some_iff] at hp
      obtain ⟨p, h1, hp⟩ := hp
      split at hp
      · split at hp
        · injection hp with hp; subst hp; simp [quietB] at hq
        · cases hp
      · injection hp with hp; exact ⟨p, hp.symm⟩
    obtain ⟨p, rfl⟩ := this
    exact .inl (s_cnv hop hp ha hg)
  | makeInterface t x => exact .inl (s_mki hop hp ha hg)
  | makeFunc f xs ys => exact .inl (s_mkf hop hp ha hg)
  | slice t x lo hi mx => exact .inl (s_ssl hop hp ha hg hs)
  | fieldAddr t x f => exact .inl (s_fa hop hp ha hg)
  | field t x f => exact .inl (s_fld hop hp ha hg)
  | indexAddr t x i => exact .inl (s_ixa hop hp ha hg)
  | index t x i => exact .inl (s_ixs hop hp ha hg)
  | extract x j => exact .inl (s_ext hop hp ha hg)
  | alloc t =>
    rw [hop] at hp
    simp [prepOp, Option.bind_eq_some_iff] at hp
    obtain ⟨z, _, rfl⟩ := hp
    simp [quietB] at hq
  | box t x =>
    rw [hop] at hp
    simp [prepOp] at hp
    obtain ⟨z, _, rfl⟩ := hp
    simp [quietB] at hq
  | store t a x =>
    rw [hop] at hp
    simp only [prepOp, bind, Option.bind_eq_some_iff] at hp
    obtain ⟨n, _, p, _, q, _, hp⟩ := hp
    injection hp with hp; subst hp
    simp [quietB] at hq
  | buildSlice t n ps =>
    rw [hop] at hp
    simp only [prepOp] at hp
    split at hp
    · simp only [bind, Option.bind_eq_some_iff] at hp
      obtain ⟨n, _, z, _, ps, _, hp⟩ := hp
      split at hp
      · injection hp with hp; subst hp; simp [quietB] at hq
      · cases hp
    · cases hp
  | makeSlice t l c =>
    rw [hop] at hp
    simp only [prepOp] at hp
    split at hp
    · simp only [bind, Option.bind_eq_some_iff] at hp
      obtain ⟨n, _, b, _, z, _, p, _, hp⟩ := hp
      split at hp
      · injection hp with hp; subst hp; simp [quietB] at hq
      · cases hp
    · cases hp
  | call c =>
    obtain ⟨cal, xs, ts⟩ := c
    cases cal with
    | value f => rw [hop] at hp; simp [prepOp] at hp
    | invoke r m => rw [hop] at hp; simp [prepOp] at hp
    | builtin b =>
      cases b with
      | len => exact .inl (s_len hop hp ha hg)
      | append =>
        rw [hop] at hp
        simp only [prepOp] at hp
        split at hp
        · simp only [bind, Option.bind_eq_some_iff] at hp
          obtain ⟨p, _, q, _, hp⟩ := hp
          split at hp
          · simp only [Option.bind_eq_some_iff] at hp
            obtain ⟨n, _, b, _, z, _, hp⟩ := hp
            split at hp
            · injection hp with hp; subst hp; simp [quietB] at hq
            · cases hp
          · cases hp
        · cases hp
      | copy =>
        rw [hop] at hp
        simp only [prepOp] at hp
        split at hp
        · simp only [bind, Option.bind_eq_some_iff] at hp
          obtain ⟨p, _, q, _, hp⟩ := hp
          split at hp
          · simp only [Option.bind_eq_some_iff] at hp
            obtain ⟨n, _, hp⟩ := hp
            injection hp with hp; subst hp; simp [quietB] at hq
          · cases hp
        · cases hp
      | min => exact .inl (s_mnx (mx := false) hop hp ha hg)
      | max => exact .inl (s_mnx (mx := true) hop hp ha hg)
      | panic => rw [hop] at hp; simp [prepOp] at hp; subst hp; simp [aop] at ha
      | _ => rw [hop] at hp; simp [prepOp] at hp
  | panic x => rw [hop] at hp; simp [prepOp] at hp; subst hp; simp [aop] at ha
  | _ => rw [hop] at hp; simp [prepOp] at hp
end

/-! ### the orders -/
section
variable {P : Program} {ops : Array Oper} {Q : Exit → Act → World → Prop}

/-- What is listed has all that it waits for listed. -/
def DC (ops : Array Oper) (L : Array Bool) : Prop := ∀ j o, L.getD j false = true → ops[j]? = some o → ∀ e ∈ o.after, Region.binds .any e = true → L.getD e.on false = true

theorem DC.set {L : Array Bool} (d : DC ops L) {i : Nat} (hi : i ∈ Region.ready .any ops L) : DC ops (L.setIfInBounds i true) := by
  intro j o hj ho e he hb
  refine getD_set_true ?_
  by_cases hij : i = j
  · subst hij
    obtain ⟨_, o', ho', hall⟩ := mem_ready.1 hi
    rw [ho] at ho'; injection ho' with ho'; subst ho'
    exact hall e he hb
  · rw [getD_set_ne false hij] at hj
    exact d j o hj ho e he hb

theorem DC.bit {L : Array Bool} (d : DC ops L) (hs : L.size = ops.size) {bef : Array Nat} (hm : maskOk ops bef = true) : ∀ j i, L.getD j false = true → (bef.getD j 0).testBit i = true → i < ops.size → L.getD i false = true := by
  intro j
  induction j using Nat.strongRecOn with
  | _ j ih =>
    intro i hj hbit hi
    have hjlt : j < ops.size := by
      rcases Nat.lt_or_ge j ops.size with h | h
      · exact h
      · rw [Array.getD_eq_getD_getElem?, Array.getElem?_eq_none (by omega)] at hj; cases hj
    have := List.all_eq_true.1 (List.all_eq_true.1 hm j (List.mem_range.2 hjlt)) i (List.mem_range.2 hi)
    rw [hbit] at this
    simp only [Bool.not_true, Bool.false_or] at this
    cases ho : ops[j]? with
    | none => rw [ho] at this; cases this
    | some o =>
      rw [ho] at this
      obtain ⟨e, he, hc⟩ := Array.any_eq_true'.1 this
      simp only [Bool.and_eq_true, decide_eq_true_eq, Bool.or_eq_true, beq_iff_eq] at hc
      obtain ⟨⟨hb, hlt⟩, hc⟩ := hc
      have hL := d j o hj ho e he hb
      rcases hc with rfl | hc
      · exact hL
      · exact ih e.on hlt i hL hc hi

/-- Whatever order is picked from here on; S holds behind every operation. -/
def wpAnyS (P : Program) (ops : Array Oper) (Q : Exit → Act → World → Prop) (S : Array Bool → World → Prop) : Nat → Array Bool → Act → World → Prop
  | 0, L, a, w => Region.ready .any ops L = [] ∧ Q .normal a w
  | fuel + 1, L, a, w =>
    (Region.ready .any ops L = [] → Q .normal a w) ∧
    ∀ i ∈ Region.ready .any ops L, wpOp P ops Q i (fun a' w' => S (L.setIfInBounds i true) w' ∧ wpAnyS P ops Q S fuel (L.setIfInBounds i true) a' w') a w

theorem wpAnyS.any {S : Array Bool → World → Prop} : ∀ (fuel : Nat) (L : Array Bool) (a : Act) (w : World), wpAnyS P ops Q S fuel L a w → wpAny P .any ops Q fuel L a w
  | 0, _, _, _, h => h
  | fuel + 1, _, _, _, h => ⟨h.1, fun i hi => wpOp_mono (fun a' w' h' => wpAnyS.any fuel _ a' w' h'.2) (h.2 i hi)⟩

theorem wpAnyS.mono {S S' : Array Bool → World → Prop} (hS : ∀ L w, S L w → S' L w) : ∀ (fuel : Nat) (L : Array Bool) (a : Act) (w : World), wpAnyS P ops Q S fuel L a w → wpAnyS P ops Q S' fuel L a w
  | 0, _, _, _, h => h
  | fuel + 1, _, _, _, h => ⟨h.1, fun i hi => wpOp_mono (fun a' w' h' => ⟨hS _ _ h'.1, wpAnyS.mono hS fuel _ a' w' h'.2⟩) (h.2 i hi)⟩

/-- An operation that yields its value as long as S0 holds may be taken first. -/
theorem wpAnyS.first {S S' : Array Bool → World → Prop} {S0 : World → Prop} {i : Nat} {oi : Oper} {v : Value} (hi : ops[i]? = some oi) (hsel : ∀ (j : Nat) (o : Oper) cs b, ops[j]? = some o → o.op ≠ .select cs b)
    (hQ : ∀ c a w, Q (.panic c) (a.put oi.dst v) w → Q (.panic c) a w)
    (hSS : ∀ L w, DC ops L → L.size = ops.size → L.getD i true = false → S (L.setIfInBounds i true) w → S0 w ∧ S' L w) (hS : ∀ L w, S L w → S' L w) :
    ∀ (fuel : Nat) (L : Array Bool) (a : Act) (w : World), DC ops L → L.size = ops.size →
      (∀ j oj, ops[j]? = some oj → j ≠ i → L.getD j true = false → (∀ e ∈ oj.after, Region.binds .any e = true → e.on ≠ i) → oi.apart ops oj = true) →
      i ∈ Region.ready .any ops L → YieldsIf P ops S0 oi v a → S0 w → S' (L.setIfInBounds i true) w →
      wpAnyS P ops Q S fuel (L.setIfInBounds i true) (a.put oi.dst v) w → wpAnyS P ops Q S' (fuel + 1) L a w := by
  intro fuel
  induction fuel with
  | zero =>
    intro L a w hdc hsz _ hr hy hS0 hS' H
    refine ⟨fun h => (by rw [h] at hr; cases hr), fun j hj => ?_⟩
    by_cases hji : j = i
    · subst hji; exact hy.wpOp hi hS0 ⟨hS', H⟩
    · have := ready_mono hj hji
      rw [H.1] at this
      cases this
  | succ fuel ih =>
    intro L a w hdc hsz hfree hr hy hS0 hS' H
    refine ⟨fun h => (by rw [h] at hr; cases hr), fun j hj => ?_⟩
    by_cases hji : j = i
    · subst hji; exact hy.wpOp hi hS0 ⟨hS', wpAnyS.mono hS _ _ _ _ H⟩
    · have h1 := H.2 j (ready_mono hj hji)
      obtain ⟨hjun, oj, hoj, hall⟩ := mem_ready.1 hj
      have hiun := (mem_ready.1 hr).1
      have hnot : ∀ e ∈ oj.after, Region.binds .any e = true → e.on ≠ i := fun e he hb heq => by
        have h1 := hall e he hb
        rw [heq] at h1
        rcases Nat.lt_or_ge i L.size with h' | h'
        · simp [h'] at hiun h1; rw [hiun] at h1; cases h1
        · simp [Array.getElem?_eq_none h'] at h1
      have h2 := wpOp_putIf (S := S0) hoj (hfree j oj hoj hji hjun hnot) (fun cs b => hsel i oi cs b hi) (fun cs b => hsel j oj cs b hoj) hQ hy h1
      have hfree' : ∀ k ok, ops[k]? = some ok → k ≠ i → (L.setIfInBounds j true).getD k true = false →
          (∀ e ∈ ok.after, Region.binds .any e = true → e.on ≠ i) → oi.apart ops ok = true := fun k ok hk hki hun hno => by
        refine hfree k ok hk hki ?_ hno
        by_cases hjk : j = k
        · subst hjk; exact hjun
        · rw [getD_set_ne true hjk] at hun; exact hun
      refine wpOp_mono (fun a' w' h3 => ?_) h2
      obtain ⟨h31, h32, h33⟩ := h3
      rw [Array.setIfInBounds_comm _ _ (Ne.symm hji)] at h32 h33
      obtain ⟨q1, q2⟩ := hSS (L.setIfInBounds j true) w' (hdc.set hj) (by simpa using hsz) (by rw [getD_set_ne true hji]; exact hiun) h32
      exact ⟨q2, ih (L.setIfInBounds j true) a' w' (hdc.set hj) (by simpa using hsz) hfree' (ready_mono hr (Ne.symm hji)) h31 q1 (hS _ _ h32) h33⟩
end
end Go.Ab
