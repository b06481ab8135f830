/- A plan holds for every order; a code's calculus holds for the machine; a function's contract out of its code. -/
import Derived.Test.YtpenocegikjpaaaAb10
set_option linter.unusedSimpArgs false
set_option linter.unusedVariables false
namespace Go.Ab

structure Hd where
  i : Nat
  b : Nat
  c : Option Obj

section
variable {P : Program} {n : Nat} {T : List Nat} {ρ0 : Rho} {h0 : Heap} {w0 : World} {ops : Array Oper} {bef : Array Nat}

def effB (P : Program) (n : Nat) (ops : Array Oper) (e : Nat) : Bool := match (ops[e]?).bind (prepS P n ops) with
  | some s => !quietS s
  | none => true

def Prem (P : Program) (n : Nat) (ops : Array Oper) (bef : Array Nat) (L : Array Bool) (i : Nat) : Prop := ∀ e, L.getD e false = true → effB P n ops e = true → (bef.getD e 0).testBit i = false

def SH (P : Program) (n : Nat) (ops : Array Oper) (bef : Array Nat) (hr : List Hd) (L : Array Bool) (w : World) : Prop := ∀ x ∈ hr, Prem P n ops bef L x.i → w.heap[x.b]? = x.c

def RelH (P : Program) (n : Nat) (ops : Array Oper) (bef : Array Nat) (ha : List (Nat × Nat)) (hr : List Hd) (taken : List Nat) (L : Array Bool) (ρ : Rho) (h : Heap) : Prop :=
  ∀ x ∈ hr, x.i ∈ taken ∧ (Prem P n ops bef L x.i → ∃ j k ob, (x.i, j) ∈ ha ∧ ρ j = some k ∧ k.b = x.b ∧ h[j]? = some (some ob))

theorem Prem.set {L : Array Bool} {i x : Nat} (hp : Prem P n ops bef L x) (he : effB P n ops i = false) : Prem P n ops bef (L.setIfInBounds i true) x := by
  intro e hL heff
  by_cases hie : i = e
  · subst hie; rw [he] at heff; cases heff
  · rw [getD_set_ne false hie] at hL; exact hp e hL heff
theorem Prem.of_set {L : Array Bool} {i x : Nat} (hp : Prem P n ops bef (L.setIfInBounds i true) x) : Prem P n ops bef L x :=
  fun e hL heff => hp e (getD_set_true hL) heff

theorem firstFree_spec {L : Array Bool} {f : Nat → Option PS} : ∀ {l : List Nat} {i : Nat} {s : PS}, firstFree ops L l none f = some (i, s) → i ∈ l ∧ f i = some s ∧ quietS s = true ∧ Region.free .any ops L i = true
  | [], i, s, h => by simp [firstFree] at h
  | j :: l, i, s, h => by
    simp only [firstFree] at h
    split at h
    · rename_i s' hs
      split at h
      · rename_i hc
        injection h with h; injection h with h1 h2; subst h1; subst h2
        simp only [Bool.and_eq_true] at hc
        exact ⟨List.mem_cons_self .., hs, hc.1, hc.2⟩
      · obtain ⟨a, b⟩ := firstFree_spec h
        exact ⟨List.mem_cons_of_mem _ a, b⟩
    · obtain ⟨a, b⟩ := firstFree_spec h
      exact ⟨List.mem_cons_of_mem _ a, b⟩

theorem count_set {L : Array Bool} {i : Nat} (hi : L.getD i true = false) : (L.setIfInBounds i true).toList.count false + 1 = L.toList.count false := by
  have hlt : i < L.size := by
    rcases Nat.lt_or_ge i L.size with h | h
    · exact h
    · rw [Array.getD_eq_getD_getElem?, Array.getElem?_eq_none h] at hi; cases hi
  have hv : L.toList[i]'(by simpa using hlt) = false := by
    rw [Array.getD_eq_getD_getElem?, Array.getElem?_eq_getElem hlt] at hi; simpa using hi
  have hpos : 0 < L.toList.count false := List.count_pos_iff.2 (hv ▸ List.getElem_mem _)
  have hcs := List.count_set (a := true) (b := false) (l := L.toList) (i := i) (by simpa using hlt)
  rw [hv] at hcs
  simp only [show (true == false) = false from rfl, show (false == false) = true from rfl, if_true, Bool.false_eq_true, if_false, Nat.add_zero] at hcs
  rw [Array.toList_setIfInBounds, hcs]
  omega

theorem Post.nopanic {Q : Exit → St → Prop} {d : Option Tmp} {v : Value} : ∀ c a w, Post n T ρ0 h0 w0 Q (.panic c) (a.put d v) w → Post n T ρ0 h0 w0 Q (.panic c) a w := fun _ _ _ h => h.1.elim

theorem chain_spec {L : Array Bool} {taken : List Nat} {fuel : Nat} {held : List (Nat × Nat)} {st : St} {M : Nat → Prop} {Q : St → Prop} : ∀ {l : List Nat} {p : Plan},
    l.foldr (fun i acc => do
          let more ← acc
          let o ← ops[i]?
          let s ← prepS P n ops o
          if quietS s then none else
          let p ← mkPlan P n ops bef fuel (L.setIfInBounds i true) taken
          some (.br i (taken.filter fun l => !(bef.getD i 0).testBit l) s p more)) (some Plan.ed) = some p → XPl P M p held st Q →
    ∀ i ∈ l, ∃ o s p', ops[i]? = some o ∧ prepS P n ops o = some s ∧ quietS s = false ∧ mkPlan P n ops bef fuel (L.setIfInBounds i true) taken = some p' ∧
      XS P M s st (fun T st' => (∀ x ∈ held, x.1 ∈ (taken.filter fun l => !(bef.getD i 0).testBit l) → x.2 ∉ T) ∧ XPl P M p' (held.filter fun x => (taken.filter fun l => !(bef.getD i 0).testBit l).contains x.1) st' Q)
  | [], p, _, _, i, hi => by cases hi
  | j :: l, p, h, hx, i, hi => by
    simp only [List.foldr_cons, bind, Option.bind_eq_some_iff] at h
    obtain ⟨more, hm, o, ho, s, hs, h⟩ := h
    split at h
    · cases h
    · rename_i hq
      simp only [Option.bind_eq_some_iff] at h
      obtain ⟨p', hp', h⟩ := h
      injection h with h; subst h
      simp only [XPl] at hx
      rcases List.mem_cons.1 hi with rfl | hi
      · exact ⟨o, s, p', ho, hs, by simpa using hq, hp', hx.1⟩
      · exact chain_spec (by simpa only [bind] using hm) hx.2 i hi

theorem plan_sound {Q : Exit → St → Prop} (s0 : Sim ρ0 h0 w0) (hm : maskOk ops bef = true) (hns : Region.noSelect ops = true) :
    ∀ (fuel : Nat) (L : Array Bool) (taken : List Nat) (p : Plan) (ha : List (Nat × Nat)) (hr : List Hd) (ρ : Rho) (st : St) (a : Act) (w : World) (F : Nat),
      mkPlan P n ops bef fuel L taken = some p → XPl P (MT T h0) p ha st (Q .normal) → Ok n T ρ0 h0 w0 ρ st a w → DC ops L → L.size = ops.size → RelH P n ops bef ha hr taken L ρ st.h → SH P n ops bef hr L w →
      L.toList.count false ≤ F → wpAnyS P ops (Post n T ρ0 h0 w0 Q) (SH P n ops bef hr) F L a w := by
  intro fuel
  induction fuel with
  | zero => intro L taken p ha hr ρ st a w F hp; simp [mkPlan] at hp
  | succ fuel ih =>
    intro L taken p ha hr ρ st a w F hp hx ok hdc hsz hrel hsh hF
    simp only [mkPlan] at hp
    split at hp
    · rename_i hready
      injection hp with hp; subst hp
      simp only [XPl] at hx
      have hQ : Post n T ρ0 h0 w0 Q .normal a w := ⟨trivial, ρ, st, hx, ok⟩
      cases F with
      | zero => exact ⟨hready, hQ⟩
      | succ F => exact ⟨fun _ => hQ, by rw [hready]; intro i hi; cases hi⟩
    · rename_i r rs hready
      have hFpos : ∃ F', F = F' + 1 := by
        have : r ∈ Region.ready .any ops L := by rw [hready]; exact List.mem_cons_self ..
        have hun := (mem_ready.1 this).1
        have := count_set hun
        exact ⟨F - 1, by omega⟩
      obtain ⟨F, rfl⟩ := hFpos
      split at hp
      · rename_i i s hff
        obtain ⟨hmem, hfs, hqs, hfree⟩ := firstFree_spec hff
        simp only [bind, Option.bind_eq_some_iff] at hp
        obtain ⟨p', hp', hp⟩ := hp
        injection hp with hp; subst hp
        have hready' : i ∈ Region.ready .any ops L := by rw [hready]; exact hmem
        have hiun := (mem_ready.1 hready').1
        have hdc' := hdc.set hready'
        have hsz' : (L.setIfInBounds i true).size = ops.size := by simpa using hsz
        have hF' : (L.setIfInBounds i true).toList.count false ≤ F := by have := count_set hiun; omega
        obtain ⟨oi, hoi, hps⟩ := Option.bind_eq_some_iff.1 hfs
        have hilt : i < ops.size := (Array.getElem?_eq_some_iff.1 hoi).1
        have heff : effB P n ops i = false := by unfold effB; rw [hfs]; simp [hqs]
        have hps0 := hps
        cases s with
        | c d g f xs => simp [quietS] at hqs
        | o d g op =>
          simp only [prepS, bind, Option.bind_eq_some_iff] at hps
          obtain ⟨g', hg', hps⟩ := hps
          split at hps
          · rename_i hd
            cases hcal : calOf oi.op with
            | some fx => obtain ⟨f, xs⟩ := fx; simp [hcal, Option.bind_eq_some_iff] at hps
            | none =>
              simp only [hcal, Option.bind_eq_some_iff] at hps
              obtain ⟨op', hop, hps⟩ := hps
              injection hps with hps; injection hps with e1 e2 e3; subst e1; subst e2; subst e3
              have hwant := want_eq (P := P) (ops := ops) (o := oi) ok.sa hg'
              simp only [XPl] at hx
              -- a step that only puts a value
              have plain : ∀ (v rv : Value) (ha' : List (Nat × Nat)), (∀ y ∈ ha, y ∈ ha') → VR ρ v rv → YieldsIf P ops (fun _ => True) oi rv a →
                  XPl P (MT T h0) p' ha' ⟨put st.tm oi.dst v, st.h⟩ (Q .normal) → wpAnyS P ops (Post n T ρ0 h0 w0 Q) (SH P n ops bef hr) (F + 1) L a w := by
                intro v rv ha' hsub hv hy hx'
                refine wpAnyS.first (S := SH P n ops bef hr) (S0 := fun _ => True) hoi (Region.noSelect_spec hns) Post.nopanic ?_ (fun _ _ h => h) F L a w hdc hsz (Region.free_spec hoi hfree) hready' hy trivial ?_ ?_
                · intro L' w' hdcL hszL hi' hS
                  exact ⟨trivial, fun x hxm hpr => hS x hxm (hpr.set heff)⟩
                · exact fun x hxm hpr => hsh x hxm hpr.of_set
                · refine ih _ _ p' ha' hr ρ _ _ w F hp' hx' ⟨ok.sa.put hd hv, ok.sh, ok.stp⟩ hdc' hsz' ?_ (fun x hxm hpr => hsh x hxm hpr.of_set) hF'
                  intro x hxm
                  obtain ⟨t1, t2⟩ := hrel x hxm
                  refine ⟨by split <;> simp [t1], fun hpr => ?_⟩
                  obtain ⟨j, k, ob, q1, q2⟩ := t2 hpr.of_set
                  exact ⟨j, k, ob, hsub _ q1, q2⟩
              split at hx
              · rename_i hw
                obtain ⟨v, hav, hx⟩ := hx
                rcases quiet_sound (w := w) hop (by simpa [quietS] using hqs) hav ok.sa.gv ok.sh with ⟨⟨rv, hv, hrun⟩, _, _⟩ | ⟨_, _, j, k, rv, hrid, ⟨ob, hob'⟩, hk, hv, hrun⟩
                · refine plain v rv _ ?_ hv (.inl ⟨by rw [hwant]; exact hw, fun w _ => hrun w⟩) hx
                  intro y hy
                  split
                  · exact List.mem_cons_of_mem _ hy
                  · exact hy
                · rw [hrid] at hx
                  simp only at hx
                  have hrd : readsS (.o oi.dst g' op') = true := readId_reads hrid
                  rw [if_pos hrd] at hp'
                  refine wpAnyS.first (S := SH P n ops bef (⟨i, k.b, w.heap[k.b]?⟩ :: hr)) (S0 := fun w' => w'.heap[k.b]? = w.heap[k.b]?) hoi (Region.noSelect_spec hns) Post.nopanic ?_ (fun L w h x hxm => h x (List.mem_cons_of_mem _ hxm)) F L a w hdc hsz
                    (Region.free_spec hoi hfree) hready' (.inl ⟨by rw [hwant]; exact hw, fun w' hw' => hrun w' hw'⟩) rfl (fun x hxm hpr => hsh x hxm hpr.of_set) ?_
                  · intro L' w' hdcL hszL hi' hS
                    refine ⟨hS ⟨i, k.b, w.heap[k.b]?⟩ (List.mem_cons_self ..) ?_, fun x hxm hpr => hS x (List.mem_cons_of_mem _ hxm) (hpr.set heff)⟩
                    intro e hL he
                    by_cases hie : i = e
                    · subst hie; rw [heff] at he; cases he
                    · rw [getD_set_ne false hie] at hL
                      cases hbit : (bef.getD e 0).testBit i with
                      | false => rfl
                      | true =>
                        have := hdcL.bit hszL hm e i hL hbit hilt
                        exfalso
                        rw [Array.getD_eq_getD_getElem?] at this hi'
                        cases hq : L'[i]? with
                        | none => rw [hq] at this; cases this
                        | some b => rw [hq] at this hi'; simp at this hi'; rw [this] at hi'; cases hi'
                  · refine ih _ _ p' _ _ ρ _ _ w F hp' hx ⟨ok.sa.put hd hv, ok.sh, ok.stp⟩ hdc' hsz' ?_ ?_ hF'
                    · intro x hxm
                      rcases List.mem_cons.1 hxm with rfl | hxm
                      · exact ⟨List.mem_cons_self .., fun _ => ⟨j, k, ob, List.mem_cons_self .., hk, rfl, hob'⟩⟩
                      · obtain ⟨t1, t2⟩ := hrel x hxm
                        refine ⟨List.mem_cons_of_mem _ t1, fun hpr => ?_⟩
                        obtain ⟨j, k, ob, q1, q2⟩ := t2 hpr.of_set
                        exact ⟨j, k, ob, List.mem_cons_of_mem _ q1, q2⟩
                    · intro x hxm hpr
                      rcases List.mem_cons.1 hxm with rfl | hxm
                      · rfl
                      · exact hsh x hxm hpr.of_set
              · rename_i hw
                exact plain undef undef ha (fun _ h => h) (.undef ρ) (.inr ⟨by rw [hwant]; simpa using hw, rfl⟩) hx
          · cases hps
      · refine ⟨fun h => (by rw [hready] at h; cases h), fun i hi => ?_⟩
        have hiun := (mem_ready.1 hi).1
        have hdc' := hdc.set hi
        have hsz' : (L.setIfInBounds i true).size = ops.size := by simpa using hsz
        have hF' : (L.setIfInBounds i true).toList.count false ≤ F := by have := count_set hiun; omega
        rw [hready] at hi
        obtain ⟨o, s, p', ho, hs, hq, hp', hxs⟩ := chain_spec hp hx i hi
        have heff : effB P n ops i = true := by unfold effB; rw [ho, Option.bind_some, hs]; simp [hq]
        unfold wpOp
        simp only [ho]
        refine step_sound s0 hs ok hxs ?_
        rintro T2 st' ρ' a' w' ⟨hT2, hx'⟩ ok' hst
        have hkeep : ∀ x ∈ hr, Prem P n ops bef (L.setIfInBounds i true) x.i → ∃ j k ob, (x.i, j) ∈ ha ∧ x.i ∈ (taken.filter fun l => !(bef.getD i 0).testBit l) ∧ j ∉ T2 ∧ ρ j = some k ∧ k.b = x.b ∧ st.h[j]? = some (some ob) := by
          intro x hxm hpr
          obtain ⟨t1, t2⟩ := hrel x hxm
          obtain ⟨j, k, ob, q1, q2, q3, q4⟩ := t2 hpr.of_set
          have hlt : i < L.size := by
            rcases Nat.lt_or_ge i L.size with h | h
            · exact h
            · rw [Array.getD_eq_getD_getElem?, Array.getElem?_eq_none h] at hiun; cases hiun
          have hbit := hpr i (by simp [Array.getD_eq_getD_getElem?, Array.getElem?_setIfInBounds, hlt]) heff
          have hu : x.i ∈ (taken.filter fun l => !(bef.getD i 0).testBit l) := by
            rw [List.mem_filter]; exact ⟨t1, by rw [hbit]; rfl⟩
          exact ⟨j, k, ob, q1, hu, hT2 _ q1 hu, q2, q3, q4⟩
        refine ⟨fun x hxm hpr => ?_, ih _ _ p' _ hr ρ' st' a' w' F hp' hx' ok' hdc' hsz' ?_ ?_ hF'⟩
        all_goals
          have hblk : ∀ x ∈ hr, Prem P n ops bef (L.setIfInBounds i true) x.i → w'.heap[x.b]? = x.c := by
            intro x hxm hpr
            obtain ⟨j, k, ob, q1, q2, q3, q4, q5, q6⟩ := hkeep x hxm hpr
            rw [← hsh x hxm hpr.of_set]
            refine hst.frame x.b (by rw [← q5]; exact (ok.sh.dom j k q4).2) ?_
            rintro ⟨i', o', k', r1, r2, r3, r4, r5⟩
            exact ok.sh.inj i' j o' ob k' k r2 q6 r4 q4 r3 (fun e => q3 (e ▸ r1)) (by rw [r5, q5])
        · exact hblk x hxm hpr
        · intro x hxm
          refine ⟨(hrel x hxm).1, fun hpr => ?_⟩
          obtain ⟨j, k, ob, q1, q2, q3, q4, q5, q6⟩ := hkeep x hxm hpr
          refine ⟨j, k, ob, List.mem_filter.2 ⟨q1, by simpa using q2⟩, hst.ext _ _ q4, q5, ?_⟩
          rw [hst.same j (ok.sh.dom j k q4).1 q3]; exact q6
        · exact hblk
end

section
variable {P : Program} {n : Nat} {T : List Nat} {ρ0 : Rho} {h0 : Heap} {w0 : World}

theorem XP_sound (hmix : P.follows .mixedOrders = true) (s0 : Sim ρ0 h0 w0) : ∀ (c : Code) (pc : PCode), prepC P n c = some pc → ∀ (ρ : Rho) (st : St) (a : Act) (w : World) (Q : Exit → St → Prop), Ok n T ρ0 h0 w0 ρ st a w →
    XP P (MT T h0) pc st Q → c.wp P (Post n T ρ0 h0 w0 Q) a w := by
  intro c
  induction c with
  | skip =>
    intro pc hp ρ st a w Q ok hx
    simp [prepC] at hp; subst hp
    exact wp_skip ⟨trivial, ρ, st, hx, ok⟩
  | region id ops draw =>
    intro pc hp ρ st a w Q ok hx
    cases draw with
    | false =>
      simp only [prepC, Option.map_eq_some_iff] at hp
      obtain ⟨ss, hss, rfl⟩ := hp
      simp only [XP] at hx
      obtain ⟨hl, hrel⟩ := mapM_rel hss
      refine wp_region ?_
      have := rg_sound (T := T) (ops := ops) s0 ss 0 ρ st a w (fun j s hj => by
        have hj2 := (List.getElem?_eq_some_iff.1 hj).1
        have hj3 : j < ops.size := by simp at hl; omega
        refine ⟨ops[j], by rw [Nat.zero_add]; exact Array.getElem?_eq_getElem hj3, ?_⟩
        exact hrel j ops[j] s (by simp [hj3]) hj) ok hx
      rw [List.range_eq_range', show ops.size = ss.length by simpa using hl]
      exact this
    | true =>
      simp only [prepC] at hp
      split at hp
      · rename_i hc
        simp only [Bool.and_eq_true] at hc
        simp only [Option.map_eq_some_iff] at hp
        obtain ⟨p, hpl, rfl⟩ := hp
        simp only [XP] at hx
        refine wp_region_any hmix (wpAnyS.any (S := SH P n ops (Region.before ops) []) _ _ _ _ ?_)
        refine plan_sound (Q := Q) s0 hc.2 hc.1 _ _ [] p [] [] ρ st a _ _ hpl hx ⟨ok.sa, ok.sh.drew _, ?_⟩ ?_ (by simp) (fun x hx => by cases hx) (fun x hx => by cases hx) (by simp)
        · exact ok.stp.trans s0 ok.sh (Stp.drew [] ρ st.h w _) (fun i hi => by cases hi)
        · intro j o hj
          simp [Array.getD_eq_getD_getElem?, Array.getElem?_replicate] at hj
          split at hj <;> simp at hj
      · cases hp
  | seq x y ihx ihy =>
    intro pc hp ρ st a w Q ok hx
    simp only [prepC, bind, Option.bind_eq_some_iff] at hp
    obtain ⟨px, h1, py, h2, hp⟩ := hp
    injection hp with hp; subst hp
    simp only [XP] at hx
    refine wp_seq (wp_mono (ihx px h1 ρ st a w _ ok hx) ?_)
    rintro e a' w' ⟨hpl, ρ', st', hq, ok'⟩
    cases e with
    | normal => exact ihy py h2 ρ' st' a' w' Q ok' hq
    | exit id => exact ⟨hpl, ρ', st', hq, ok'⟩
    | ret => exact ⟨hpl, ρ', st', hq, ok'⟩
    | goto l => exact hpl.elim
    | panic c => exact hpl.elim
    | outgrown => exact hpl.elim
  | cond c x y ihx ihy =>
    intro pc hp ρ st a w Q ok hx
    simp only [prepC, bind, Option.bind_eq_some_iff] at hp
    obtain ⟨p, h0', px, h1, py, h2, hp⟩ := hp
    injection hp with hp; subst hp
    simp only [XP] at hx
    have hv := ok.sa.gv c p h0'
    split at hx
    · rename_i b e
      rw [e] at hv
      have hb := bool_inv hv
      refine wp_cond hb ?_
      cases b with
      | true => simp only [if_true] at hx ⊢; exact ihx px h1 ρ st a w Q ok hx
      | false => simp only [Bool.false_eq_true, if_false] at hx ⊢; exact ihy py h2 ρ st a w Q ok hx
    · exact hx.elim
  | block id x ih =>
    intro pc hp ρ st a w Q ok hx
    simp only [prepC, Option.map_eq_some_iff] at hp
    obtain ⟨px, h1, rfl⟩ := hp
    simp only [XP] at hx
    refine wp_block (wp_mono (ih px h1 ρ st a w _ ok hx) ?_)
    rintro e a' w' ⟨hpl, ρ', st', hq, ok'⟩
    cases e with
    | normal => exact ⟨hpl, ρ', st', hq, ok'⟩
    | exit id' =>
      simp only [Exit.inBlock]
      simp only at hq
      split
      · rename_i he; rw [if_pos he] at hq; exact ⟨trivial, ρ', st', hq, ok'⟩
      · rename_i he; rw [if_neg he] at hq; exact ⟨trivial, ρ', st', hq, ok'⟩
    | ret => exact ⟨hpl, ρ', st', hq, ok'⟩
    | goto l => exact hpl.elim
    | panic c => exact hpl.elim
    | outgrown => exact hpl.elim
  | loop x ih =>
    intro pc hp ρ st a w Q ok hx
    simp only [prepC, Option.map_eq_some_iff] at hp
    obtain ⟨px, h1, rfl⟩ := hp
    simp only [XP] at hx
    obtain ⟨I, k, hI, hround⟩ := hx
    refine wp_loop_ghost (fun k a w => ∃ ρ st, I k st ∧ Ok n T ρ0 h0 w0 ρ st a w) k ⟨ρ, st, hI, ok⟩ ?_
    rintro k a w ⟨ρ, st, hI, ok⟩
    refine wp_mono (ih px h1 ρ st a w _ ok (hround k st hI)) ?_
    rintro e a' w' ⟨hpl, ρ', st', hq, ok'⟩
    cases e with
    | normal =>
      obtain ⟨k', hlt, hI'⟩ := hq
      exact ⟨k', hlt, ρ', st', hI', ok'⟩
    | exit id => exact ⟨hpl, ρ', st', hq, ok'⟩
    | ret => exact ⟨hpl, ρ', st', hq, ok'⟩
    | goto l => exact hpl.elim
    | panic c => exact hpl.elim
    | outgrown => exact hpl.elim
  | exit id =>
    intro pc hp ρ st a w Q ok hx
    simp [prepC] at hp; subst hp
    exact wp_exit ⟨trivial, ρ, st, hx, ok⟩
  | ret =>
    intro pc hp ρ st a w Q ok hx
    simp [prepC] at hp; subst hp
    exact wp_ret ⟨trivial, ρ, st, hx, ok⟩
  | rangeFunc _ _ _ _ => intro pc hp; simp [prepC] at hp
  | scope _ => intro pc hp; simp [prepC] at hp
  | label _ => intro pc hp; simp [prepC] at hp
  | goto _ => intro pc hp; simp [prepC] at hp
  | refuse _ => intro pc hp; simp [prepC] at hp

def resSem (tmps : Array Value) : ResultVar → Sem Value
  | .tmp t => pure (tmps.getD t undef)
  | .cell x t => do loadVar t (← asAddr (tmps.getD x undef))

theorem res_run {ρ : Rho} {st : St} {a : Act} {w : World} (sa : SimA n ρ st.tm a) (sh : Sim ρ st.h w) : ∀ {rs : List ResultVar} {ps : List PRes} {vs : List Value}, rs.mapM (prepR P) = some ps → resAs st.tm st.h ps = some vs →
    ∃ rvs : List Value, Sem.run P (rs.mapM (resSem a.tmps)) w = Result.ok rvs w ∧ VRL ρ vs rvs
  | [], ps, vs, h1, h2 => by
    simp at h1; subst h1; simp [resAs] at h2; subst h2
    exact ⟨[], rfl, .nil ρ⟩
  | r :: rs, ps, vs, h1, h2 => by
    simp [Option.bind_eq_some_iff] at h1
    obtain ⟨p, hp, ps', hps, rfl⟩ := h1
    simp only [resAs, Option.bind_eq_some_iff, Option.map_eq_some_iff] at h2
    obtain ⟨v, hv, vs', hvs, rfl⟩ := h2
    obtain ⟨rvs, hr, hrel⟩ := res_run sa sh (by simpa using hps) hvs
    cases r with
    | tmp t =>
      simp [prepR] at hp; subst hp
      simp [resA1] at hv; subst hv
      refine ⟨a.tmps.getD t undef :: rvs, ?_, .cons (sa.vals t) hrel⟩
      simp [List.mapM_cons, resSem, hr]
    | cell x t =>
      simp only [prepR, bind, Option.bind_eq_some_iff] at hp
      obtain ⟨m, hm, b, hb, hp⟩ := hp
      have hcr : ∃ rv, (do loadVar t (← asAddr (a.tmps.getD x undef)) : Sem Value).run P w = .ok rv w ∧ VR ρ v rv := by
        let o : Oper := ⟨none, .load t (.tmp x), 0, "", #[], none⟩
        have hq : ∀ po, prepOp P o.op = some po → aop P st.tm st.h po = some ([], v, st.h) → ∃ rv, (do loadVar t (← asAddr (a.tmps.getD x undef)) : Sem Value).run P w = .ok rv w ∧ VR ρ v rv := by
          intro po hpo hav
          obtain ⟨_, _, _, _, rv, _, _, _, hvr, hrun⟩ := load_any (w := w) (o := o) rfl hpo hav sa.gv sh
          have := hrun w rfl
          refine ⟨rv, ?_, hvr⟩
          simp only [execOp, o, Instr.loadAt, Sem.run_bind] at this
          have hev : a.eval (.tmp x) = a.tmps.getD x undef := rfl
          rw [hev] at this
          cases hgx : a.tmps.getD x undef with
          | pointer ad =>
            cases ad with
            | none => rw [hgx] at this; simp [Instr.sureAddr] at this
            | some ad =>
              rw [hgx] at this
              simp [Instr.sureAddr, asAddr] at this ⊢
              cases hl : (loadVar t ad).run P w with
              | ok u w' => rw [hl] at this; simp at this; obtain ⟨rfl, rfl⟩ := this; rfl
              | halt x w' => rw [hl] at this; simp at this
          | _ => rw [hgx] at this; simp [Instr.sureAddr] at this
        cases b with
        | true =>
          simp at hp; subst hp
          refine hq (.ldn m (.t x)) ?_ ?_
          · simp [prepOp, o, pO, hm, hb]
          · simp only [resA1] at hv
            simp only [aop, PO.ev]
            split at hv
            · rename_i i ofs e
              try rw [e]
              simp only [Option.map_eq_some_iff] at hv ⊢
              obtain ⟨l, h1, rfl⟩ := hv
              exact ⟨l, h1, rfl⟩
            · cases hv
        | false =>
          simp at hp; subst hp
          refine hq (.ld (.t x)) ?_ ?_
          · simp [prepOp, o, pO, hm, hb]
          · simp only [resA1] at hv
            simp only [aop, PO.ev]
            split at hv
            · rename_i i ofs e
              try rw [e]
              simp [hv]
            · cases hv
      obtain ⟨rv, hrv, hvr⟩ := hcr
      refine ⟨rv :: rvs, ?_, .cons hvr hrel⟩
      have hrv' : (resSem a.tmps (.cell x t)).run P w = .ok rv w := hrv
      rw [List.mapM_cons]
      simp only [Sem.run_bind, hrv', Result.andThen_ok, hr, Sem.run_pure]
end

/-- **A function's contract out of its code.** -/
theorem AC_of {P : Program} (hmix : P.follows .mixedOrders = true) {f : FuncId} {fd : Func} {pf : PFn} (hfd : P.funcs[f]? = some fd) (hname : fd.name ≠ "runtime.NumGoroutine") (hp : prepF P fd = some pf) {args : List Value} {h : Heap} {T : List Nat} {Q : Value → Heap → Prop}
    (hlen : args.length ≤ pf.nt) (hx : XP P (MT T h) pf.body ⟨tmOf args, h⟩ fun e st => (e = .normal ∨ e = .ret) ∧ ∃ r, resA st.tm st.h pf.res = some r ∧ Q r st.h) : AC P f args h T Q := by
  simp only [prepF, bind, Option.bind_eq_some_iff] at hp
  obtain ⟨b, hb, c, hc, rs, hrs, hp⟩ := hp
  injection hp with hp; subst hp
  refine ⟨⟨fd, hfd, by rw [hb]; rfl, hname⟩, fun ρ w rargs hs hargs => ?_⟩
  refine calls_of_wp hfd hb ?_
  have hra : rargs.size = args.length := by have := hargs.1; simp at this; omega
  simp only at hlen hx
  have ok : Ok fd.ntmps T ρ h w ρ ⟨tmOf args, h⟩ { tmps := rargs ++ Array.replicate (fd.ntmps - rargs.size) undef, defers := [] } w := by
    refine ⟨⟨by simp; omega, fun t => ?_, rfl⟩, hs, .refl T ρ h w⟩
    have := hargs.get t
    simp only [tmOf, Array.getD_eq_getD_getElem?, Array.getElem?_append]
    split
    · rename_i hlt
      simpa [List.getD_eq_getElem?_getD] using this
    · rename_i hlt
      have h1 : args.getD t undef = undef := by
        rw [List.getD_eq_getElem?_getD, List.getElem?_eq_none (by omega)]; rfl
      have h2 : ((Array.replicate (fd.ntmps - rargs.size) undef)[t - rargs.size]?).getD undef = undef := by
        rw [Array.getElem?_replicate]; split <;> rfl
      rw [h1, h2]; exact .undef ρ
  refine wp_mono (XP_sound hmix hs b c hc ρ _ _ w _ ok hx) ?_
  rintro e a' w' ⟨hpl, ρ', st', ⟨he, r, hr, hQ⟩, ok'⟩
  have fin : a'.defers = [] ∧ ∃ v, (results fd a'.tmps).run P w' = .ok v w' ∧ ∃ rv r h' ρ', Ending.returned v = .returned rv ∧ Q r h' ∧ VR ρ' r rv ∧ Sim ρ' h' w' ∧ Stp T ρ h w ρ' h' w' := by
    refine ⟨ok'.sa.dfr, ?_⟩
    simp only [resA, Option.map_eq_some_iff] at hr
    obtain ⟨vs, hvs, hr⟩ := hr
    obtain ⟨rvs, hrun, hrel⟩ := res_run (P := P) ok'.sa ok'.sh hrs hvs
    have hres : (results fd a'.tmps).run P w' = .ok (if h : rvs.toArray.size = 1 then rvs.toArray[0] else .tuple rvs.toArray) w' := by
      have hdef : results fd a'.tmps = (do let vs ← fd.results.mapM (resSem a'.tmps); pure (if h : vs.size = 1 then vs[0] else .tuple vs)) := by
        unfold results
        congr 1
      rw [hdef, Array.mapM_eq_mapM_toList]
      simp only [Sem.run_bind, Sem.run_map, hrun, Result.andThen_ok, Sem.run_pure]
    refine ⟨_, hres, _, r, st'.h, ρ', rfl, hQ, ?_, ok'.sh, ok'.stp⟩
    split at hr
    · rename_i v
      subst hr
      have hl1 : rvs.length = 1 := by have := hrel.1; simp at this; omega
      have hv := hrel.2 0 (by simp)
      rw [dif_pos (by simpa using hl1)]
      simp [List.getD_eq_getElem?_getD, List.getElem?_eq_getElem (show 0 < rvs.length by omega)] at hv
      simpa using hv
    · rename_i vs' hne
      subst hr
      have hl1 : rvs.toArray.size ≠ 1 := by
        intro h1
        have : vs.length = 1 := by have := hrel.1; simp at h1; omega
        obtain ⟨x, rfl⟩ := List.length_eq_one_iff.1 this
        exact hne x rfl
      rw [dif_neg hl1]
      exact .tuple_iff (by simpa using hrel)
  rcases he with rfl | rfl
  · exact fin
  · exact fin
end Go.Ab
