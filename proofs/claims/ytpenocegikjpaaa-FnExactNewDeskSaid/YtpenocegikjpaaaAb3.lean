/- Each operation that is no call does in the world what the calculus says of it (first part). -/
import Derived.Test.YtpenocegikjpaaaAb2
set_option linter.unusedSimpArgs false
set_option linter.unusedVariables false
namespace Go.Ab

theorem atom_cases {v : Value} (h : atomB v = true) : (∃ b, v = .bool b) ∨ (∃ k n, v = .int k n) ∨ (∃ s, v = .string s) ∨ v = .pointer none ∨ v = .slice none 0 0 ∨ v = .nilFunc ∨ v = .nilIface ∨ ∃ f, v = .func (.func f) #[] #[] := by
  unfold atomB at h
  split at h
  · exact .inl ⟨_, rfl⟩
  · exact .inr (.inl ⟨_, _, rfl⟩)
  · exact .inr (.inr (.inl ⟨_, rfl⟩))
  · exact .inr (.inr (.inr (.inl rfl)))
  · exact .inr (.inr (.inr (.inr (.inl rfl))))
  · exact .inr (.inr (.inr (.inr (.inr (.inl rfl)))))
  · exact .inr (.inr (.inr (.inr (.inr (.inr (.inl rfl))))))
  · rename_i f xs ys
    simp at h
    obtain ⟨h1, h2⟩ := h
    subst h1; subst h2
    exact .inr (.inr (.inr (.inr (.inr (.inr (.inr ⟨_, rfl⟩))))))
  · cases h

theorem atom_eq {ρ : Rho} {v v' : Value} (h : atomB v = true) (r : VR ρ v v') : v' = v := by
  rcases atom_cases h with ⟨_, rfl⟩ | ⟨_, _, rfl⟩ | ⟨_, rfl⟩ | rfl | rfl | rfl | rfl | ⟨_, rfl⟩
  all_goals first
    | (cases r; rfl)
    | (obtain ⟨xs, ys, rfl, hx, hy⟩ := r.func_list
       have h1 : xs = #[] := by have := hx.1; simp at this; exact Array.eq_empty_of_size_eq_zero this.symm
       have h2 : ys = #[] := by have := hy.1; simp at this; exact Array.eq_empty_of_size_eq_zero this.symm
       rw [h1, h2])

theorem atom_refl {ρ : Rho} {v : Value} (h : atomB v = true) : VR ρ v v := by
  rcases atom_cases h with ⟨_, rfl⟩ | ⟨_, _, rfl⟩ | ⟨_, rfl⟩ | rfl | rfl | rfl | rfl | ⟨_, rfl⟩
  · exact .bool _
  · exact .int _ _
  · exact .str _
  · exact .nilp
  · exact .nils
  · exact .nilf
  · exact .nili
  · exact .func rfl rfl (fun j hj => absurd hj (Nat.not_lt_zero j)) (fun j hj => absurd hj (Nat.not_lt_zero j))

theorem atom_one {v : Value} (h : atomB v = true) : v.oneCell' = true := by
  rcases atom_cases h with ⟨_, rfl⟩ | ⟨_, _, rfl⟩ | ⟨_, rfl⟩ | rfl | rfl | rfl | rfl | ⟨_, rfl⟩ <;> rfl

theorem atoms_refl {ρ : Rho} {l : List Value} (h : l.all atomB = true) : VRL ρ l l := by
  induction l with
  | nil => exact .nil ρ
  | cons x l ih => simp at h; exact .cons (atom_refl h.1) (ih (by simpa using h.2))
theorem atoms_eq {ρ : Rho} {l l' : List Value} (h : l.all atomB = true) (r : VRL ρ l l') : l' = l := by
  induction l generalizing l' with
  | nil => exact List.eq_nil_of_length_eq_zero (by simpa using r.1.symm)
  | cons x l ih =>
    cases l' with
    | nil => simp [VRL] at r
    | cons y l' =>
      simp at h
      have hx : VR ρ x y := by simpa using r.2 0 (by simp)
      have hs : VRL ρ l l' := ⟨by simpa using r.1, fun j hj => by simpa using r.2 (j + 1) (by simpa using hj)⟩
      rw [atom_eq h.1 hx, ih (by simpa using h.2) hs]

theorem closed_eq {ρ : Rho} {v v' : Value} (h : closedB v = true) (r : VR ρ v v') : v' = v := by
  unfold closedB at h
  split at h
  · obtain ⟨xs, rfl, hx⟩ := r.agg_list
    rw [Array.toList_inj.1 (atoms_eq h hx)]
  · obtain ⟨xs, rfl, hx⟩ := r.tuple_list
    rw [Array.toList_inj.1 (atoms_eq h hx)]
  · exact atom_eq h r
theorem closed_refl {ρ : Rho} {v : Value} (h : closedB v = true) : VR ρ v v := by
  unfold closedB at h
  split at h
  · exact VR.agg_iff (atoms_refl h)
  · exact VR.tuple_iff (atoms_refl h)
  · exact atom_refl h

theorem bool_inv {ρ : Rho} {b : Bool} {v : Value} (r : VR ρ (.bool b) v) : v = .bool b := by cases r; rfl
theorem int_inv {ρ : Rho} {k : IntKind} {n : Int} {v : Value} (r : VR ρ (.int k n) v) : v = .int k n := by cases r; rfl
theorem str_inv {ρ : Rho} {s : ByteArray} {v : Value} (r : VR ρ (.string s) v) : v = .string s := by cases r; rfl
theorem nils_inv {ρ : Rho} {v : Value} (r : VR ρ (.slice none 0 0) v) : v = .slice none 0 0 := by cases r; rfl

theorem pv_run {P : Program} {α : Type} : ∀ (s : Sem α) {a : α}, pv P s = some a → ∀ w, s.run P w = .ok a w
  | .pure _, _, h, w => by simp [pv] at h; subst h; rfl
  | .program k, _, h, w => by simp only [pv] at h; simp only [Sem.run]; exact pv_run (k P) h w
  | .load .., _, h, _ | .store .., _, h, _ | .new .., _, h, _ | .shape .., _, h, _ | .freeze .., _, h, _ | .frozen .., _, h, _ | .getObj .., _, h, _ | .setObj .., _, h, _ | .choose .., _, h, _ | .sys .., _, h, _ | .mark .., _, h, _ | .halt .., _, h, _ => by simp [pv] at h

/-- The operands' real values. -/
def GV (ρ : Rho) (tm : Nat → Value) (g : Operand → Value) : Prop := ∀ x p, pO x = some p → VR ρ (p.ev tm) (g x)

/-- What an operation does to the world. -/
def Out (P : Program) (s : Sem Next) (ρ : Rho) (h : Heap) (w : World) (T : List Nat) (v : Value) (h' : Heap) : Prop :=
  ∃ nx w' ρ' rv, s.run P w = .ok nx w' ∧ (nx = .value rv ∨ (nx = .skip ∧ rv = undef)) ∧ VR ρ' v rv ∧ Sim ρ' h' w' ∧ Stp T ρ h w ρ' h' w'

/-- What a quiet operation does, in whatever world. -/
def OutQ (P : Program) (s : Sem Next) (ρ : Rho) (v : Value) : Prop := ∃ rv, VR ρ v rv ∧ ∀ w, s.run P w = .ok (.value rv) w

theorem Out.quiet {P : Program} {s : Sem Next} {ρ : Rho} {h : Heap} {w : World} {v rv : Value} (hs : Sim ρ h w) (hr : s.run P w = .ok (.value rv) w) (hv : VR ρ v rv) : Out P s ρ h w [] v h :=
  ⟨_, w, ρ, rv, hr, .inl rfl, hv, hs, .refl [] ρ h w⟩

theorem OutQ.out {P : Program} {s : Sem Next} {ρ : Rho} {h : Heap} {w : World} {v : Value} (q : OutQ P s ρ v) (hs : Sim ρ h w) : Out P s ρ h w [] v h := by
  obtain ⟨rv, hv, hr⟩ := q
  exact .quiet hs (hr w) hv

section
variable {P : Program} {ρ : Rho} {tm : Nat → Value} {h h' : Heap} {w : World} {g : Operand → Value} {o : Oper} {po : POp} {T : List Nat} {v : Value}

theorem Q3 {s : Sem Next} {rv : Value} {h : Heap} (hr : ∀ w, s.run P w = .ok (.value rv) w) (hv : VR ρ v rv) : OutQ P s ρ v ∧ ([] : List Nat) = [] ∧ h = h := ⟨⟨rv, hv, hr⟩, rfl, rfl⟩

theorem zeroOf_some {t : TypeId} {z : List Value} (e : zeroOf P t = some z) : ∃ i zv, P.info? t = some i ∧ i.zero = some zv ∧ zv.cells.toList = z ∧ closedB zv = true ∧ z.all atomB = true := by
  unfold zeroOf at e
  cases hi : P.info? t with
  | none => simp [hi] at e
  | some i =>
    simp only [hi, Option.bind_some] at e
    cases hz : i.zero with
    | none => simp [hz] at e
    | some zv =>
      simp only [hz, Option.bind_some] at e
      split at e
      · rename_i hc
        injection e with e; subst e
        simp only [Bool.and_eq_true] at hc
        exact ⟨i, zv, rfl, hz, rfl, hc.1, hc.2⟩
      · cases e
theorem szOf_some {t : TypeId} {n : Nat} (e : szOf P t = some n) : ∃ i, P.info? t = some i ∧ i.size = n := by
  unfold szOf at e
  cases hi : P.info? t with
  | none => simp [hi] at e
  | some i => simp [hi] at e; exact ⟨i, rfl, e⟩
theorem byOf_some {t : TypeId} {n : Nat} (e : byOf P t = some n) : ∃ i, P.info? t = some i ∧ i.bytes = n := by
  unfold byOf at e
  cases hi : P.info? t with
  | none => simp [hi] at e
  | some i => simp [hi] at e; exact ⟨i, rfl, e⟩

theorem newVar_out {ws rs : List Value} {rc : Array Value} {t : TypeId} (es : Nat) (hs : Sim ρ h w) (hv : VRL ρ ws rs) (h1 : oneAll ws = true) (he : rc.toList = rs) (s : Sem Next) (f : Addr → Value) (vv : Value)
    (hrun : s.run P w = .ok (.value (f ⟨w.heap.size, 0, none⟩)) (w.alloc (.cells rc t)))
    (hf : VR (rset ρ h.length ⟨w.heap.size, 0, rc.size, es, true⟩) vv (f ⟨w.heap.size, 0, none⟩)) : Out P s ρ h w [] vv (newO h ws es) := by
  have hn := hs.new (w' := w.alloc (.cells rc t)) (l := ws) (rc := rc) (t := t) es ⟨rfl, rfl, rfl⟩ rfl (oneAll_mem h1) (by have := hv.1; subst he; simp at this; omega)
    (fun j x hj => by obtain ⟨y, hy, r⟩ := hv.sm hj; exact ⟨y, by subst he; simpa using hy, r⟩)
  exact ⟨_, _, _, _, hrun, .inl rfl, hf, hn.1, hn.2⟩

theorem s_move {x : Operand} (ho : o.op = .move x ∨ o.op = .assign x) (hp : prepOp P o.op = some po) (ha : aop P tm h po = some (T, v, h')) (hg : GV ρ tm g) : OutQ P (execOp g o) ρ v ∧ T = [] ∧ h' = h := by
  have : ∃ p, pO x = some p ∧ po = .mov p := by
    rcases ho with ho | ho <;> rw [ho] at hp <;> simp [prepOp] at hp <;> obtain ⟨p, h1, h2⟩ := hp <;> exact ⟨p, h1, h2.symm⟩
  obtain ⟨p, h1, rfl⟩ := this
  simp [aop] at ha
  obtain ⟨rfl, rfl, rfl⟩ := ha
  refine Q3 (rv := g x) (fun w => ?_) (hg x p h1)
  rcases ho with ho | ho <;> simp [execOp, ho]

theorem s_pick {c a b : Operand} (ho : o.op = .pick c a b) (hp : prepOp P o.op = some po) (ha : aop P tm h po = some (T, v, h')) (hg : GV ρ tm g) : OutQ P (execOp g o) ρ v ∧ T = [] ∧ h' = h := by
  rw [ho] at hp
  simp [prepOp, Option.bind_eq_some_iff] at hp
  obtain ⟨pc, hc, pa, ha', pb, hb, rfl⟩ := hp
  have vc := hg _ _ hc
  simp only [aop] at ha
  split at ha
  · rename_i x e
    rw [e] at vc
    injection ha with ha; injection ha with h1 h2; injection h2 with h2 h3; subst h1; subst h2; subst h3
    have hgc : g c = .bool x := bool_inv vc
    refine Q3 (rv := if x then g a else g b) (fun w => ?_) ?_
    · simp [execOp, ho, hgc, asBool]
    · cases x
      · exact hg _ _ hb
      · exact hg _ _ ha'
  · cases ha

theorem s_alloc {t : TypeId} (ho : o.op = .alloc t) (hp : prepOp P o.op = some po) (ha : aop P tm h po = some (T, v, h')) (hs : Sim ρ h w) : Out P (execOp g o) ρ h w T v h' := by
  rw [ho] at hp
  simp [prepOp, Option.bind_eq_some_iff] at hp
  obtain ⟨z, hz, rfl⟩ := hp
  obtain ⟨i, zv, hi, hzv, rfl, _, hall⟩ := zeroOf_some hz
  simp [aop] at ha
  obtain ⟨rfl, rfl, rfl⟩ := ha
  refine newVar_out (rc := zv.cells) (t := t) _ hs (atoms_refl hall) ?_ rfl _ (fun a => .pointer (some a)) _ ?_ ?_
  · simp only [oneAll, List.all_eq_true] at hall ⊢; exact fun x hx => atom_one (hall x hx)
  · simp [execOp, ho, Instr.alloc, zeroValue, typeInfo, hi, hzv, newVar, newRow]
  · have := VR.ptr (ρ := rset ρ h.length ⟨w.heap.size, 0, zv.cells.size, zv.cells.toList.length, true⟩) (i := h.length) (o := 0) (k := ⟨w.heap.size, 0, zv.cells.size, zv.cells.toList.length, true⟩) (by simp [rset])
    simpa using this

theorem s_box {t : TypeId} {x : Operand} (ho : o.op = .box t x) (hp : prepOp P o.op = some po) (ha : aop P tm h po = some (T, v, h')) (hg : GV ρ tm g) (hs : Sim ρ h w) : Out P (execOp g o) ρ h w T v h' := by
  rw [ho] at hp
  simp [prepOp] at hp
  obtain ⟨p, h1, rfl⟩ := hp
  simp only [aop] at ha
  split at ha
  · rename_i hone
    injection ha with ha; injection ha with e1 e2; injection e2 with e2 e3; subst e1; subst e2; subst e3
    have hv := (hg x p h1).cells
    refine newVar_out (rc := (g x).cells) (t := t) _ hs hv hone rfl _ (fun a => .pointer (some a)) _ ?_ ?_
    · simp [execOp, ho, Instr.box, newVar, newRow]
    · have := VR.ptr (ρ := rset ρ h.length ⟨w.heap.size, 0, (g x).cells.size, (p.ev tm).cells.toList.length, true⟩) (i := h.length) (o := 0) (k := ⟨w.heap.size, 0, (g x).cells.size, (p.ev tm).cells.toList.length, true⟩) (by simp [rset])
      simpa using this
  · cases ha

theorem ptr_inv {i ofs : Nat} {v : Value} (r : VR ρ (.pointer (some ⟨i, ofs, none⟩)) v) : ∃ k, ρ i = some k ∧ v = .pointer (some ⟨k.b, k.base + ofs, none⟩) := by
  cases r with
  | ptr h => exact ⟨_, h, rfl⟩

theorem add_plain (b n m : Nat) : (⟨b, n, none⟩ : Addr).add m = ⟨b, n + m, none⟩ := by
  unfold Addr.add; split
  · rename_i e; subst e; rfl
  · rfl

theorem s_load {t : TypeId} {x : Operand} (ho : o.op = .load t x) (hp : prepOp P o.op = some po) (ha : aop P tm h po = some (T, v, h')) (hg : GV ρ tm g) (hs : Sim ρ h w) : Out P (execOp g o) ρ h w T v h' := by
  rw [ho] at hp
  simp only [prepOp, bind, Option.bind_eq_some_iff] at hp
  obtain ⟨p, h1, n, hn, b, hb, hp⟩ := hp
  obtain ⟨i, hi, hsz⟩ := szOf_some hn
  unfold aggOf at hb
  cases hu : P.underlying t with
  | none => simp [hu] at hb
  | some d =>
    have hag : ∀ w, (isAgg t).run P w = .ok b w := by
      intro w
      simp only [hu, Option.map_some, Option.some.injEq] at hb
      subst hb
      simp only [isAgg, underlying, Sem.run_bind, run_program, Result.andThen_ok, hu]
      cases d <;> rfl
    have hv := hg x p h1
    cases b with
    | true =>
      simp at hp; subst hp
      simp only [aop] at ha
      split at ha
      · rename_i j ofs e
        rw [e] at hv
        obtain ⟨k, hk, hgx⟩ := ptr_inv hv
        cases hc : hcs h j ofs n with
        | none => simp [hc] at ha
        | some l =>
          simp [hc] at ha
          obtain ⟨rfl, rfl, rfl⟩ := ha
          obtain ⟨rl, hrl, hvr, hcell, _⟩ := hs.cells hc hk
          have hl := run_loadCells_list (P := P) w ⟨k.b, k.base + ofs, none⟩ rl (fun j v hj => by rw [add_plain]; exact hcell j v hj)
          refine .quiet hs (rv := .agg rl.toArray) ?_ (VR.agg_iff (by simpa using hvr))
          rw [hrl] at hl
          simp [execOp, ho, Instr.loadAt, Instr.sureAddr, hgx, loadVar, hag, sizeOf, typeInfo, hi, hsz, hl]
      · cases ha
    | false =>
      simp at hp; subst hp
      simp only [aop] at ha
      split at ha
      · rename_i j ofs e
        rw [e] at hv
        obtain ⟨k, hk, hgx⟩ := ptr_inv hv
        cases hc : hc1 h j ofs with
        | none => simp [hc] at ha
        | some u =>
          simp [hc] at ha
          obtain ⟨rfl, rfl, rfl⟩ := ha
          obtain ⟨rv, hcell, hvr, _⟩ := hs.cell hc hk
          refine .quiet hs (rv := rv) ?_ hvr
          simp [execOp, ho, Instr.loadAt, Instr.sureAddr, hgx, loadVar, hag, run_load, hcell]
      · cases ha
end
end Go.Ab
