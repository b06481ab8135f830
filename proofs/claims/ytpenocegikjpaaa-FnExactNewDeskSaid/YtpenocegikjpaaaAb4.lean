/- Each operation that is no call does in the world what the calculus says of it (second part). -/
import Derived.Test.YtpenocegikjpaaaAb3
import Derived.Laws.Cover3
import Derived.Laws.BytesArg
set_option linter.unusedSimpArgs false
set_option linter.unusedVariables false
namespace Go.Ab
theorem pvc_some {P : Program} {s : Sem Value} {u : Value} (e : pvc P s = some u) : pv P s = some u ∧ closedB u = true := by
  unfold pvc at e
  cases hp : pv P s with
  | none => simp [hp] at e
  | some a =>
    simp only [hp, Option.bind_some] at e
    split at e
    · rename_i hc; injection e with e; subst e; exact ⟨rfl, hc⟩
    · cases e
section
variable {P : Program} {ρ : Rho} {tm : Nat → Value} {h h' : Heap} {w : World} {g : Operand → Value} {o : Oper} {po : POp} {T : List Nat} {v : Value}

theorem s_nilCheck {x : Operand} (ho : o.op = .nilCheck x) (hp : prepOp P o.op = some po) (ha : aop P tm h po = some (T, v, h')) (hg : GV ρ tm g) : OutQ P (execOp g o) ρ v ∧ T = [] ∧ h' = h := by
  rw [ho] at hp
  simp [prepOp] at hp
  obtain ⟨p, h1, rfl⟩ := hp
  have hv := hg x p h1
  simp only [aop] at ha
  split at ha
  · rename_i a e
    rw [e] at hv
    injection ha with ha; injection ha with e1 e2; injection e2 with e2 e3; subst e1; subst e2; subst e3
    obtain ⟨i, ofs, sp⟩ := a
    cases sp with
    | some _ => exact absurd hv (by intro r; cases r)
    | none =>
      obtain ⟨k, hk, hgx⟩ := ptr_inv hv
      refine Q3 (rv := g x) (fun w => ?_) (by rw [hgx]; exact .ptr hk)
      simp [execOp, ho, hgx]
  · rename_i f xs ys e
    rw [e] at hv
    injection ha with ha; injection ha with e1 e2; injection e2 with e2 e3; subst e1; subst e2; subst e3
    obtain ⟨xs', ys', hgx, _, _⟩ := hv.func_list
    refine Q3 (rv := g x) (fun w => ?_) hv
    simp [execOp, ho, hgx]
  · cases ha

/-- A pure operation over values without addresses. -/
theorem s_pure {s : Sem Value} {u : Value} {h : Heap} (e : pvc P s = some u) (hx : ∀ w, (execOp g o).run P w = (s.run P w).andThen fun a w' => .ok (.value a) w') : OutQ P (execOp g o) ρ u ∧ ([] : List Nat) = [] ∧ h = h := by
  obtain ⟨e1, e2⟩ := pvc_some e
  refine Q3 (rv := u) (fun w => ?_) (closed_refl e2)
  rw [hx, pv_run s e1 w]; rfl

theorem sl_inv {i ofs n c : Nat} {u : Value} (r : VR ρ (.slice (some ⟨i, ofs, none⟩) n c) u) : ∃ k ra rc, u = .slice (some ra) n rc ∧ ρ i = some k ∧ n ≤ rc ∧ (c = n → rc = n) ∧
    (rc ≠ 0 → ra = ⟨k.b, k.base + ofs, none⟩) ∧ (k.own = true → k.base + ofs + rc * k.es ≤ k.sz) := by
  cases r with
  | sl h hn hc ha hs => exact ⟨_, _, _, rfl, h, hn, hc, ha, hs⟩

theorem eqGuard_ok {op : BinOp} {t : TypeId} {x y : Operand} {a b : Value} (hsc : P.eqGuardType P.depth t = false) (hnil : a ≠ .nilIface) : (eqGuard op t x y a b).run P w = .ok () w := by
  cases op <;> simp only [eqGuard, Bool.not_true, Bool.not_false, Bool.false_eq_true, if_false, if_true, Sem.run_pure]
  all_goals (first | rfl | skip)
  all_goals
    cases a <;> first
      | exact absurd rfl hnil
      | rfl
      | (cases b <;> first | rfl | simp [hsc])

theorem s_bin {op : BinOp} {t t' : TypeId} {x y : Operand} (ho : o.op = .binOp op t x y t') (hp : prepOp P o.op = some po) (ha : aop P tm h po = some (T, v, h')) (hg : GV ρ tm g) : OutQ P (execOp g o) ρ v ∧ T = [] ∧ h' = h := by
  rw [ho] at hp
  simp only [prepOp, bind, Option.bind_eq_some_iff] at hp
  obtain ⟨px, hx, py, hy, hp⟩ := hp
  have vx := hg x px hx
  have vy := hg y py hy
  have snil : ∀ neg, (op = if neg then .neq else .eql) → (∃ e, P.underlying t = some (.slice e)) → py = .c (.slice none 0 0) → po = .snl neg px → OutQ P (execOp g o) ρ v ∧ T = [] ∧ h' = h := by
    rintro neg hop ⟨e, hu⟩ hpy rfl
    subst hpy
    have hgy : g y = .slice none 0 0 := nils_inv vy
    have hgd : ∀ a : Value, a ≠ .nilIface → (∃ p l c, a = .slice p l c) → ∀ w, (eqGuard op t x y a (.slice none 0 0)).run P w = .ok () w := by
      rintro a _ ⟨p, l, c, rfl⟩ w
      cases neg <;> subst hop <;> simp [eqGuard]
    simp only [aop] at ha
    split at ha
    · rename_i ex
      rw [ex] at vx
      injection ha with ha; injection ha with e1 e2; injection e2 with e2 e3; subst e1; subst e2; subst e3
      have hgx := nils_inv vx
      refine Q3 (rv := .bool (!neg)) (fun w => ?_) (.bool _)
      have hq := hgd _ (by simp) ⟨none, 0, 0, rfl⟩ w
      cases neg <;> subst hop <;> simp only [Bool.false_eq_true, if_false, if_true] at hq ho <;> simp [execOp, ho, hgx, hgy, hq, binOp, run_equal_slice_nil _ t e _ _ _ hu]
    · rename_i a n c ex
      rw [ex] at vx
      injection ha with ha; injection ha with e1 e2; injection e2 with e2 e3; subst e1; subst e2; subst e3
      obtain ⟨ra, rc, hgx⟩ : ∃ ra rc, g x = .slice (some ra) n rc := by
        generalize g x = gx at vx
        cases vx
        exact ⟨_, _, rfl⟩
      refine Q3 (rv := .bool neg) (fun w => ?_) (.bool _)
      have hq := hgd _ (by simp) ⟨some ra, n, rc, rfl⟩ w
      cases neg <;> subst hop <;> simp only [Bool.false_eq_true, if_false, if_true] at hq ho <;> simp [execOp, ho, hgx, hgy, hq, binOp, run_equal_slice_nil _ t e _ _ _ hu]
    · cases ha
  split at hp
  · rename_i hu; injection hp with hp; exact snil false rfl ⟨_, hu⟩ rfl hp.symm
  · rename_i hu; injection hp with hp; exact snil true rfl ⟨_, hu⟩ rfl hp.symm
  · split at hp
    · cases hp
    · rename_i hge
      injection hp with hp; subst hp
      simp only [aop] at ha
      split at ha
      · rename_i hc
        simp only [Bool.and_eq_true] at hc
        obtain ⟨⟨c1, c2⟩, c3⟩ := hc
        rw [← closed_eq c1 vx, ← closed_eq c2 vy] at ha
        simp only [Option.map_eq_some_iff, Prod.mk.injEq] at ha
        obtain ⟨u, hpv, rfl, rfl, rfl⟩ := ha
        have hn : g x ≠ .nilIface := by
          rw [closed_eq c1 vx]; intro e; rw [e] at c3; simp [notNilI] at c3
        exact s_pure hpv (fun w => by simp [execOp, ho, eqGuard_ok (P := P) (w := w) (x := x) (y := y) (b := g y) (by simpa using hge) hn])
      · cases ha

theorem s_un {op : UnOp} {t : TypeId} {x : Operand} (ho : o.op = .unOp op t x) (hp : prepOp P o.op = some po) (ha : aop P tm h po = some (T, v, h')) (hg : GV ρ tm g) : OutQ P (execOp g o) ρ v ∧ T = [] ∧ h' = h := by
  rw [ho] at hp
  simp [prepOp] at hp
  obtain ⟨p, h1, rfl⟩ := hp
  have hv := hg x p h1
  simp only [aop] at ha
  split at ha
  · rename_i hc
    rw [← closed_eq hc hv] at ha
    cases hpv : pvc P (Op.unary op (g x)) with
    | none => simp [hpv] at ha
    | some u =>
      simp [hpv] at ha
      obtain ⟨rfl, rfl, rfl⟩ := ha
      exact s_pure hpv (fun w => by simp [execOp, ho])
  · cases ha

theorem bytesOfV_spec : ∀ {l : List Value} {b : List UInt8}, bytesOfV l = some b → ∃ xs : List Int, l = xs.map (Value.int .u8) ∧ b = xs.map fun n => UInt8.ofNat n.toNat
  | [], b, e => by simp [bytesOfV] at e; exact ⟨[], rfl, by simp [e]⟩
  | .int .u8 n :: r, b, e => by
    simp only [bytesOfV, Option.map_eq_some_iff] at e
    obtain ⟨b', h1, rfl⟩ := e
    obtain ⟨xs, rfl, rfl⟩ := bytesOfV_spec h1
    exact ⟨n :: xs, rfl, rfl⟩
  | .int .i8 _ :: _, _, e | .int .i16 _ :: _, _, e | .int .i32 _ :: _, _, e | .int .i64 _ :: _, _, e | .int .u16 _ :: _, _, e | .int .u32 _ :: _, _, e | .int .u64 _ :: _, _, e => by simp [bytesOfV] at e
  | .bool _ :: _, _, e | .float .. :: _, _, e | .complex .. :: _, _, e | .string _ :: _, _, e | .pointer _ :: _, _, e | .slice .. :: _, _, e | .map _ :: _, _, e | .chan _ :: _, _, e | .func .. :: _, _, e | .nilFunc :: _, _, e | .iface .. :: _, _, e | .nilIface :: _, _, e | .agg _ :: _, _, e | .tuple _ :: _, _, e => by simp [bytesOfV] at e

theorem ints_eq {ρ : Rho} {xs : List Int} {rl : List Value} (hv : VRL ρ (xs.map (Value.int .u8)) rl) : rl = xs.map (Value.int .u8) :=
  atoms_eq (by simp [atomB]) hv

theorem s_conv {s d : TypeId} {x : Operand} (ho : o.op = .convert s d x) (hp : prepOp P o.op = some po) (ha : aop P tm h po = some (T, v, h')) (hg : GV ρ tm g) (hs : Sim ρ h w) : Out P (execOp g o) ρ h w T v h' := by
  rw [ho] at hp
  simp only [prepOp, bind, Option.bind_eq_some_iff] at hp
  obtain ⟨p, h1, hp⟩ := hp
  have hv := hg x p h1
  split at hp
  · rename_i e hu hd
    split at hp
    · rename_i hue
      have hue' : P.underlying e = some (.int .u8) := by
        revert hue; cases P.underlying e with
        | none => simp
        | some t => cases t <;> simp
      injection hp with hp; subst hp
      simp only [aop] at ha
      split at ha
      · rename_i ex
        rw [ex] at hv
        injection ha with ha; injection ha with e1 e2; injection e2 with e2 e3; subst e1; subst e2; subst e3
        refine .quiet hs (rv := .string .empty) ?_ (.str _)
        simp [execOp, ho, nils_inv hv, run_convert_bytes_nil w s e hu hue' 0 0 d hd]
      · rename_i i ofs n c ex
        rw [ex] at hv
        cases hc : hcs h i ofs n with
        | none => simp [hc] at ha
        | some l =>
          simp only [hc, Option.bind_some] at ha
          cases hb : bytesOfV l with
          | none => simp [hb] at ha
          | some b =>
            simp [hb] at ha
            obtain ⟨rfl, rfl, rfl⟩ := ha
            obtain ⟨xs, rfl, rfl⟩ := bytesOfV_spec hb
            obtain ⟨k, ra, rc, hgx, hk, hn, _, hadr, _⟩ := sl_inv hv
            · obtain ⟨rl, hrl, hvr, hcell, _⟩ := hs.cells hc hk
              have hxs := ints_eq hvr
              subst hxs
              have hlen : xs.length = n := by simpa using hrl
              by_cases h0 : n = 0
              · subst h0
                have : xs = [] := List.eq_nil_of_length_eq_zero hlen
                subst this
                obtain ⟨rb, ro, rs⟩ := ra
                refine .quiet hs (rv := .string ⟨#[]⟩) ?_ (.str _)
                have hl := run_loadCells_list (P := P) w ⟨rb, ro, rs⟩ [] (by simp)
                simp at hl
                rw [show (execOp g o).run P w = ((convert s d (.slice (some ⟨rb, ro, rs⟩) 0 rc)).run P w).andThen fun a w' => .ok (.value a) w' by simp [execOp, ho, hgx]]
                rw [run_convert_bytes_string w s d e _ 0 rc hu hue' hd]
                simp [Conv.bytesToString, hl]
                rfl
              · have := hadr (by omega)
                subst this
                refine .quiet hs (rv := .string ⟨(xs.map fun n => UInt8.ofNat n.toNat).toArray⟩) ?_ (.str _)
                have hr := run_convert_bytes_arg w s e hu hue' k.b (k.base + ofs) n rc xs hlen (fun i hi => by
                  refine hcell i _ ?_
                  simp [List.getElem?_eq_getElem (show i < xs.length by omega), List.getD_eq_getElem?_getD]) d hd
                simp [execOp, ho, hgx, hr, strOfNums]
      · cases ha
    · cases hp
  · injection hp with hp; subst hp
    simp only [aop] at ha
    split at ha
    · rename_i hc
      rw [← closed_eq hc hv] at ha
      cases hpv : pvc P (convert s d (g x)) with
      | none => simp [hpv] at ha
      | some u =>
        simp [hpv] at ha
        obtain ⟨rfl, rfl, rfl⟩ := ha
        exact (s_pure (h := h) hpv (fun w => by simp [execOp, ho])).1.out hs
    · cases ha

theorem s_cnv {s d : TypeId} {x : Operand} {p : PO} (ho : o.op = .convert s d x) (hp : prepOp P o.op = some (.cnv s d p)) (ha : aop P tm h (.cnv s d p) = some (T, v, h')) (hg : GV ρ tm g) : OutQ P (execOp g o) ρ v ∧ T = [] ∧ h' = h := by
  rw [ho] at hp
  simp only [prepOp, bind, Option.bind_eq_some_iff] at hp
  obtain ⟨p', h1, hp⟩ := hp
  have hv := hg x p' h1
  have : p' = p := by
    split at hp
    · split at hp <;> first | (cases hp; done) | (injection hp with hp; cases hp)
    · injection hp with hp; injection hp
  subst this
  simp only [aop] at ha
  split at ha
  · rename_i hc
    rw [← closed_eq hc hv] at ha
    cases hpv : pvc P (convert s d (g x)) with
    | none => simp [hpv] at ha
    | some u =>
      simp [hpv] at ha
      obtain ⟨rfl, rfl, rfl⟩ := ha
      exact s_pure hpv (fun w => by simp [execOp, ho])
  · cases ha
end
end Go.Ab
