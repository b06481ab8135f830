/- Each operation that is no call does in the world what the calculus says of it (fourth part): memory. -/
import Derived.Test.YtpenocegikjpaaaAb5
set_option linter.unusedSimpArgs false
set_option linter.unusedVariables false
namespace Go.Ab
section
variable {P : Program} {ρ : Rho} {tm : Nat → Value} {h h' : Heap} {w : World} {g : Operand → Value} {o : Oper} {po : POp} {T : List Nat} {v : Value}

theorem splice_rel {base ofs n : Nat} {cells l rl : List Value} {rc : Array Value} (hc : ∀ (j : Nat) (v : Value), cells[j]? = some v → ∃ rv, rc[base + j]? = some rv ∧ VR ρ v rv ∧ v.oneCell' = true)
    (hl : VRL ρ l rl) (h1 : ∀ v ∈ l, v.oneCell' = true) (hn : l.length = n) (hle : ofs + n ≤ cells.length) (hsz : base + cells.length ≤ rc.size) (j : Nat) (v : Value)
    (hj : (cells.take ofs ++ (l ++ cells.drop (ofs + n)))[j]? = some v) :
    ∃ rv, (rc.toList.take (base + ofs) ++ rl ++ rc.toList.drop (base + ofs + rl.length)).toArray[base + j]? = some rv ∧ VR ρ v rv ∧ v.oneCell' = true := by
  have hrl : rl.length = n := by rw [← hl.1]; exact hn
  have ht : (rc.toList.take (base + ofs)).length = base + ofs := by simp; omega
  have htc : (cells.take ofs).length = ofs := by simp; omega
  rw [List.getElem?_toArray, List.append_assoc]
  by_cases a : j < ofs
  · rw [List.getElem?_append_left (by omega), List.getElem?_take, if_pos a] at hj
    obtain ⟨rv, x, y, z⟩ := hc j v hj
    refine ⟨rv, ?_, y, z⟩
    rw [List.getElem?_append_left (by omega), List.getElem?_take, if_pos (by omega)]
    simpa using x
  · rw [List.getElem?_append_right (by omega), htc] at hj
    rw [List.getElem?_append_right (by omega), ht]
    by_cases b : j < ofs + n
    · rw [List.getElem?_append_left (by omega)] at hj
      obtain ⟨rv, x, y⟩ := hl.sm hj
      refine ⟨rv, ?_, y, h1 v (List.mem_of_getElem? hj)⟩
      rw [List.getElem?_append_left (by omega), show base + j - (base + ofs) = j - ofs by omega]
      exact x
    · rw [List.getElem?_append_right (by omega), List.getElem?_drop] at hj
      obtain ⟨rv, x, y, z⟩ := hc _ v hj
      refine ⟨rv, ?_, y, z⟩
      rw [List.getElem?_append_right (by omega), List.getElem?_drop]
      have : base + ofs + rl.length + (base + j - (base + ofs) - rl.length) = base + (ofs + n + (j - ofs - l.length)) := by omega
      rw [this]
      simpa using x

theorem splice_size {k : Nat} {rl : List Value} {rc : Array Value} (hk : k + rl.length ≤ rc.size) : (rc.toList.take k ++ rl ++ rc.toList.drop (k + rl.length)).toArray.size = rc.size := by
  simp; omega

theorem Sim.own_row (hs : Sim ρ h w) {i : Nat} {ob : AObj} (hi : hob h i = some ob) (ho : ob.own = true) : ∃ k rc t, ρ i = some k ∧ w.heap[k.b]? = some (.cells rc t (0, 0)) ∧ k.own = true ∧ rc.size = k.sz ∧ k.es = ob.es ∧ k.base + ob.cells.length ≤ k.sz ∧
    ∀ (j : Nat) (v : Value), ob.cells[j]? = some v → ∃ rv, rc[k.base + j]? = some rv ∧ VR ρ v rv ∧ v.oneCell' = true := by
  obtain ⟨k, rc, t, fr, hk, hh, ho', hown, hc⟩ := hs.obj i ob (hob_eq.1 hi)
  obtain ⟨rfl, a, b, c⟩ := hown ho
  exact ⟨k, rc, t, hk, hh, by rw [ho']; exact ho, a, b, c, hc⟩

theorem storeRow (hs : Sim ρ h w) {i ofs n : Nat} {ob : AObj} {l rl : List Value} (hi : hob h i = some ob) (ho : ob.own = true) (hl : VRL ρ l rl) (h1 : oneAll l = true) (hn : l.length = n) (hle : ofs + n ≤ ob.cells.length)
    {k : Blk} (hk : ρ i = some k) : ∃ w', (storeCells ⟨k.b, k.base + ofs, none⟩ rl).run P w = .ok () w' ∧
    Sim ρ (h.set i (some { ob with cells := ob.cells.take ofs ++ (l ++ ob.cells.drop (ofs + n)) })) w' ∧ Stp [i] ρ h w ρ (h.set i (some { ob with cells := ob.cells.take ofs ++ (l ++ ob.cells.drop (ofs + n)) })) w' := by
  obtain ⟨k', rc, t, hk', hh, hko, hrs, hes, hcs, hc⟩ := hs.own_row hi ho
  rw [hk] at hk'; injection hk' with hk'; subst hk'
  have hrl : rl.length = n := by rw [← hl.1]; exact hn
  have hst := run_storeCells_at P k.b (k.base + ofs) t rl 0 rc w hh (by omega) (hl.one (oneAll_mem h1))
  simp only [Nat.add_zero] at hst
  refine ⟨_, hst, ?_⟩
  exact hs.upd hi ho hk ⟨rfl, rfl, rfl⟩ (by simp) (setRow_heap w k.b rc _ t (0, 0) hh) (fun b hb => setRow_other w k.b b _ hb) (by rw [splice_size (by omega)]; exact hrs) (by simp; omega)
    (splice_rel hc hl (oneAll_mem h1) hn hle (by omega))

theorem s_store {t : TypeId} {a x : Operand} (ho : o.op = .store t a x) (hp : prepOp P o.op = some po) (ha : aop P tm h po = some (T, v, h')) (hg : GV ρ tm g) (hs : Sim ρ h w) : Out P (execOp g o) ρ h w T v h' := by
  rw [ho] at hp
  simp only [prepOp, bind, Option.bind_eq_some_iff] at hp
  obtain ⟨n, hn, p, h1, q, h2, hp⟩ := hp
  injection hp with hp; subst hp
  obtain ⟨ti, hti, hsz⟩ := szOf_some hn
  have hv := hg a p h1
  have hx := (hg x q h2).cells
  simp only [aop] at ha
  split at ha
  · rename_i i ofs e
    rw [e] at hv
    obtain ⟨k, hk, hga⟩ := ptr_inv hv
    simp only [Option.bind_eq_some_iff] at ha
    obtain ⟨ob, hob', ha⟩ := ha
    split at ha
    · rename_i hc
      obtain ⟨c1, c2, c3, c4⟩ := hc
      simp only [Option.some.injEq, Prod.mk.injEq] at ha
      obtain ⟨rfl, rfl, rfl⟩ := ha
      obtain ⟨w', hr, s', st⟩ := storeRow (P := P) hs hob' c1 hx c3 c2 c4 hk
      refine ⟨.skip, w', ρ, undef, ?_, .inr ⟨rfl, rfl⟩, .undef ρ, s', st⟩
      have hsz2 : (g x).cells.size = n := by have := hx.1; simp at this c2; omega
      simp [execOp, ho, Instr.storeAt, hga, Instr.sureAddr, storeVar, sizeOf, typeInfo, hti, hsz, hsz2, hr]
    · cases ha
  · cases ha

theorem reps_length (z : List Value) : ∀ n, (reps z n).length = n * z.length
  | 0 => by simp [reps]
  | n + 1 => by simp [reps, reps_length z n, Nat.add_mul]; omega
theorem reps_get {z : List Value} (hz : 0 < z.length) : ∀ (n j : Nat), j < n * z.length → (reps z n)[j]? = z[j % z.length]?
  | 0, j, h => by simp at h
  | n + 1, j, h => by
    simp only [reps]
    by_cases a : j < z.length
    · rw [List.getElem?_append_left a, Nat.mod_eq_of_lt a]
    · rw [List.getElem?_append_right (by omega), reps_get hz n (j - z.length) (by rw [Nat.add_mul] at h; omega)]
      rw [Nat.mod_eq_sub_mod (a := j) (by omega)]
theorem reps_eq {z : Array Value} (hz : 0 < z.size) (n : Nat) : ((Array.range (n * z.size)).map (fun i => z[i % z.size]!)).toList = reps z.toList n := by
  apply List.ext_getElem?
  intro j
  by_cases a : j < n * z.size
  · rw [reps_get (by simpa using hz) n j (by simpa using a)]
    have hm : j % z.size < z.size := Nat.mod_lt _ hz
    simp [a, hm]
  · rw [List.getElem?_eq_none (by simp; omega), List.getElem?_eq_none (by rw [reps_length]; simp; omega)]

theorem fill_one {cells vs : Array Value} : ∀ (k : Nat), True := fun _ => trivial

theorem foldl_set (ofs : Nat) : ∀ (vs : List Value) (k : Nat) (cs : Array Value), ofs + k + vs.length ≤ cs.size →
    ((vs.zipIdx k).foldl (fun cs (p : Value × Nat) => cs.setIfInBounds (ofs + p.2) p.1) cs).toList = cs.toList.take (ofs + k) ++ (vs ++ cs.toList.drop (ofs + k + vs.length))
  | [], k, cs, _ => by simp
  | v :: vs, k, cs, h => by
    simp only [List.zipIdx_cons, List.foldl_cons]
    rw [foldl_set ofs vs (k + 1) _ (by simp at h ⊢; omega)]
    simp only [Array.toList_setIfInBounds, List.length_cons]
    have hlt : ofs + k < cs.toList.length := by simp at h ⊢; omega
    rw [List.set_eq_take_append_cons_drop, if_pos hlt]
    have e1 : ofs + (k + 1) = ofs + k + 1 := by omega
    have hl : (cs.toList.take (ofs + k)).length = ofs + k := by simp at hlt ⊢; omega
    rw [e1]
    have t1 : (cs.toList.take (ofs + k) ++ v :: cs.toList.drop (ofs + k + 1)).take (ofs + k + 1) = cs.toList.take (ofs + k) ++ [v] := by
      rw [List.take_append, hl]
      simp [List.take_of_length_le (show (cs.toList.take (ofs + k)).length ≤ ofs + k + 1 by omega)]
    have t2 : (cs.toList.take (ofs + k) ++ v :: cs.toList.drop (ofs + k + 1)).drop (ofs + k + 1 + vs.length) = cs.toList.drop (ofs + k + (vs.length + 1)) := by
      rw [List.drop_append, hl, List.drop_eq_nil_of_le (by omega)]
      rw [show ofs + k + 1 + vs.length - (ofs + k) = vs.length + 1 by omega]
      simp only [List.nil_append, List.drop_succ_cons, List.drop_drop]
      congr 1
      omega
    rw [t1, t2]
    simp

theorem fill_rel (place : Nat → Option (Nat × Nat)) : ∀ (ps : List (Nat × Value)) (qs : List (Nat × List Value)) (z l : List Value) (rz : Array Value),
    ps.length = qs.length → (∀ (j : Nat) p q, ps[j]? = some p → qs[j]? = some q → ∃ n, place p.1 = some (q.1, n) ∧ p.2.cells.size = n ∧ VRL ρ q.2 p.2.cells.toList) →
    VRL ρ z rz.toList → fillA z qs = some l → ∃ rl, Instr.fill place rz ps = some rl ∧ VRL ρ l rl.toList
  | [], [], z, l, rz, _, _, hz, e => by simp [fillA] at e; subst e; exact ⟨rz, rfl, hz⟩
  | p :: ps, q :: qs, z, l, rz, hlen, hr, hz, e => by
    obtain ⟨n, h1, h2, h3⟩ := hr 0 p q rfl rfl
    obtain ⟨i, pv⟩ := p
    obtain ⟨ofs, vs⟩ := q
    simp only at h1 h2 h3
    simp only [fillA] at e
    split at e
    · rename_i hle
      have hsz : rz.size = z.length := by have := hz.1; simp at this; omega
      have hvs : pv.cells.size = vs.length := by have := h3.1; simp at this; omega
      have hz' : VRL ρ (z.take ofs ++ (vs ++ z.drop (ofs + vs.length))) (pv.cells.zipIdx.foldl (fun cs (c : Value × Nat) => cs.setIfInBounds (ofs + c.2) c.1) rz).toList := by
        have := foldl_set ofs pv.cells.toList 0 rz (by simp; omega)
        rw [← Array.foldl_toList, Array.toList_zipIdx, this]
        simp only [Nat.add_zero]
        refine (hz.take ofs).append (h3.append ?_)
        have hd := hz.drop (ofs + vs.length)
        rw [show pv.cells.toList.length = vs.length by simpa using hvs]
        exact hd
      obtain ⟨rl, a, b⟩ := fill_rel place ps qs _ l _ (by simpa using hlen) (fun j p q hp hq => hr (j + 1) p q (by simpa using hp) (by simpa using hq)) hz' e
      refine ⟨rl, ?_, b⟩
      simp only [Instr.fill, h1]
      rw [if_neg (by simp [h2]; omega)]
      exact a
    · cases e
  | [], _ :: _, _, _, _, hlen, _, _, _ => by simp at hlen
  | _ :: _, [], _, _, _, hlen, _, _, _ => by simp at hlen

theorem mapM_rel {α β : Type} {f : α → Option β} : ∀ {xs : List α} {ys : List β}, xs.mapM f = some ys → xs.length = ys.length ∧ ∀ (j : Nat) x y, xs[j]? = some x → ys[j]? = some y → f x = some y
  | [], ys, e => by simp at e; subst e; exact ⟨rfl, fun j x y h => by simp at h⟩
  | x :: xs, ys, e => by
    simp [Option.bind_eq_some_iff] at e
    obtain ⟨y, h1, ys', h2, rfl⟩ := e
    obtain ⟨a, b⟩ := mapM_rel h2
    refine ⟨by simp [a], fun j u v hu hv => ?_⟩
    cases j with
    | zero => simp at hu hv; subst hu; subst hv; exact h1
    | succ j => exact b j u v (by simpa using hu) (by simpa using hv)

theorem s_bsl {t : TypeId} {len : Nat} {parts : Array (Nat × Operand)} (ho : o.op = .buildSlice t len parts) (hp : prepOp P o.op = some po) (ha : aop P tm h po = some (T, v, h')) (hg : GV ρ tm g) (hs : Sim ρ h w) : Out P (execOp g o) ρ h w T v h' := by
  rw [ho] at hp
  simp only [prepOp] at hp
  split at hp
  · rename_i e hu
    simp only [bind, Option.bind_eq_some_iff] at hp
    obtain ⟨n, hn, z, hz, ps, hps, hp⟩ := hp
    split at hp
    · rename_i hc
      obtain ⟨c1, c2, c3⟩ := hc
      injection hp with hp; subst hp
      obtain ⟨ti, zv, hti, hzv, rfl, _, hzall⟩ := zeroOf_some hz
      obtain ⟨ti', hti', hsz⟩ := szOf_some hn
      rw [hti] at hti'; injection hti' with hti'; subst hti'
      simp only [aop] at ha
      split at ha
      · rename_i hall
        simp only [Option.map_eq_some_iff, Prod.mk.injEq] at ha
        obtain ⟨l, hl, rfl, rfl, rfl⟩ := ha
        have hzs : zv.cells.size = n := by simpa using c2
        have hzr : VRL ρ (reps zv.cells.toList len) ((Array.range (len * n)).map (fun i => zv.cells[i % zv.cells.size]!)).toList := by
          rw [← hzs, reps_eq (by omega)]
          refine atoms_refl ?_
          have : ∀ m, (reps zv.cells.toList m).all atomB = true := by
            intro m; induction m with
            | zero => rfl
            | succ m ih => rw [reps, List.all_append, ih, hzall]; rfl
          exact this len
        obtain ⟨hlen, hrel⟩ := mapM_rel hps
        have hall' : ∀ p ∈ ps, (p.2.ev tm).cells.size = n ∧ oneAll (p.2.ev tm).cells.toList = true := by
          intro p hp; have := List.all_eq_true.1 hall p hp; simpa using this
        obtain ⟨rl, hf, hvr⟩ := fill_rel (ρ := ρ) (fun i => some (i * n, n)) (parts.map fun (i, x) => (i, g x)).toList (ps.map fun p => (p.1 * n, (p.2.ev tm).cells.toList)) _ l _ (by simp at hlen ⊢; exact hlen)
          (fun j p q hp hq => by
            simp only [Array.toList_map, List.getElem?_map, Option.map_eq_some_iff] at hp hq
            obtain ⟨⟨i, x⟩, hx, rfl⟩ := hp
            obtain ⟨⟨i', px⟩, hpx, rfl⟩ := hq
            have hfx := hrel j _ _ hx hpx
            simp only [Option.bind_eq_some_iff, Option.some.injEq, Prod.mk.injEq] at hfx
            obtain ⟨y, hy, rfl, rfl⟩ := hfx
            have hcv := (hg x y hy).cells
            have := (hall' _ (List.mem_of_getElem? hpx)).1
            refine ⟨n, rfl, ?_, hcv⟩
            have h0 := hcv.1
            simp only [Array.length_toList] at h0
            simp only at this
            show (g x).cells.size = n
            omega) hzr hl
        have hone : oneAll l = true := by
          have : ∀ (qs : List (Nat × List Value)) (z l : List Value), (∀ q ∈ qs, oneAll q.2 = true) → oneAll z = true → fillA z qs = some l → oneAll l = true := by
            intro qs
            induction qs with
            | nil => intro z l _ hz e; simp [fillA] at e; subst e; exact hz
            | cons q qs ih =>
              intro z l hq hz e
              simp only [fillA] at e
              split at e
              · refine ih _ l (fun q' hq' => hq q' (List.mem_cons_of_mem _ hq')) ?_ e
                have h0 := hq q (List.mem_cons_self ..)
                simp only [oneAll, List.all_append, Bool.and_eq_true, List.all_eq_true] at hz h0 ⊢
                exact ⟨fun x hx => hz x (List.mem_of_mem_take hx), h0, fun x hx => hz x (List.mem_of_mem_drop hx)⟩
              · cases e
          refine this _ _ l ?_ ?_ hl
          · intro q hq
            simp only [List.mem_map] at hq
            obtain ⟨p, hp, rfl⟩ := hq
            exact (hall' p hp).2
          · have : ∀ m, oneAll (reps zv.cells.toList m) = true := by
              intro m; induction m with
              | zero => rfl
              | succ m ih =>
                simp only [oneAll, reps, List.all_append, Bool.and_eq_true, List.all_eq_true] at ih ⊢
                exact ⟨fun x hx => atom_one (List.all_eq_true.1 hzall x hx), ih⟩
            exact this len
        refine newVar_out (rc := rl) (t := e) n hs hvr hone rfl _ (fun a => .slice (some a) len len) _ ?_ ?_
        · have hbig : ¬ (2 ^ 24 < len * n) := by omega
          by_cases h0 : len * n = 0
          · rw [h0] at hf
            simp only [execOp, ho, Instr.buildSlice]
            simp [run_underlying hu, sizeOf, typeInfo, hti, hsz, h0]
            simp only [show Array.range 0 = (#[] : Array Nat) from rfl, Array.map_empty] at hf ⊢
            simp at hf
            rw [hf]
            simp [newRow]
          · simp only [execOp, ho, Instr.buildSlice]
            simp [run_underlying hu, sizeOf, typeInfo, hti, hsz, h0, hbig, zeroValue, hzv, newRow] at hf ⊢
            simp [hf]
        · refine VR.sl (k := ⟨w.heap.size, 0, rl.size, n, true⟩) (by simp [rset]) (Nat.le_refl _) (fun _ => rfl) (fun _ => rfl) (fun _ => ?_)
          have h1 := hvr.1
          have : ∀ (qs : List (Nat × List Value)) (z l : List Value), fillA z qs = some l → l.length = z.length := by
            intro qs
            induction qs with
            | nil => intro z l e; simp [fillA] at e; subst e; rfl
            | cons q qs ih =>
              intro z l e
              simp only [fillA] at e
              split at e
              · rw [ih _ l e]; simp; omega
              · cases e
          have h2 := this _ _ l hl
          rw [reps_length] at h2
          simp only [Array.length_toList] at h1 h2
          show 0 + 0 + len * n ≤ rl.size
          rw [hzs] at h2
          omega
      · cases ha
    · cases hp
  · cases hp

theorem i64_wrap {n : Int} (h1 : -9223372036854775808 ≤ n) (h2 : n ≤ 9223372036854775807) : IntKind.i64.wrap n = n := by
  show (if (IntKind.signed .i64 && decide (n % (2 ^ IntKind.bits .i64 : Int) ≥ (2 ^ (IntKind.bits .i64 - 1) : Int))) = true then n % (2 ^ IntKind.bits .i64 : Int) - (2 ^ IntKind.bits .i64 : Int) else n % (2 ^ IntKind.bits .i64 : Int)) = n
  have e1 : (2 ^ IntKind.bits .i64 : Int) = 18446744073709551616 := rfl
  have e2 : (2 ^ (IntKind.bits .i64 - 1) : Int) = 9223372036854775808 := rfl
  have e3 : IntKind.signed .i64 = true := rfl
  simp only [e1, e2, e3, Bool.true_and, decide_eq_true_eq]
  split <;> omega

theorem s_mks {t : TypeId} {lo co : Operand} (ho : o.op = .makeSlice t lo co) (hp : prepOp P o.op = some po) (ha : aop P tm h po = some (T, v, h')) (hg : GV ρ tm g) (hs : Sim ρ h w) (hgt : ∀ i j : Nat, i = j → g (.tmp i) = g (.tmp j)) : Out P (execOp g o) ρ h w T v h' := by
  rw [ho] at hp
  simp only [prepOp] at hp
  split at hp
  · rename_i e hu
    simp only [bind, Option.bind_eq_some_iff] at hp
    obtain ⟨n, hn, b, hb, z, hz, p, h1, hp⟩ := hp
    split at hp
    · rename_i hc
      obtain ⟨c1, c2, c3⟩ := hc
      injection hp with hp; subst hp
      obtain ⟨ti, zv, hti, hzv, rfl, _, hzall⟩ := zeroOf_some hz
      obtain ⟨ti', hti', hsz⟩ := szOf_some hn
      rw [hti] at hti'; injection hti' with hti'; subst hti'
      obtain ⟨ti', hti', hby⟩ := byOf_some hb
      rw [hti] at hti'; injection hti' with hti'; subst hti'
      have hv := hg lo p h1
      simp only [aop] at ha
      split at ha
      · rename_i k m em
        rw [em] at hv
        have hgl := int_inv hv
        have hgc : ∃ k', g co = .int k' m := by
          unfold sameOp at c3
          split at c3
          · rename_i i j
            simp at c3; subst c3
            exact ⟨k, hgl⟩
          · rename_i k1 n1 k2 n2
            simp at c3
            obtain ⟨rfl, rfl⟩ := c3
            simp [pO, closedB, atomB] at h1
            subst h1
            have hx := hg (.const (.int k1 n1)) (.c (.int k1 n1)) (by simp [pO, closedB, atomB])
            simp only [PO.ev] at em
            injection em with e1 e2; subst e1; subst e2
            exact ⟨k1, int_inv hx⟩
          · cases c3
        obtain ⟨k', hgc⟩ := hgc
        split at ha
        · rename_i hc2
          obtain ⟨d1, d2, d3⟩ := hc2
          injection ha with ha; injection ha with e1 e2; injection e2 with e2 e3; subst e1; subst e2; subst e3
          have hzs : zv.cells.size = n := by simpa using c1
          have hone : oneAll (reps zv.cells.toList m.toNat) = true := by
            have : ∀ q, oneAll (reps zv.cells.toList q) = true := by
              intro q; induction q with
              | zero => rfl
              | succ q ih =>
                simp only [oneAll, reps, List.all_append, Bool.and_eq_true, List.all_eq_true] at ih ⊢
                exact ⟨fun x hx => atom_one (List.all_eq_true.1 hzall x hx), ih⟩
            exact this _
          have hall : (reps zv.cells.toList m.toNat).all atomB = true := by
            have : ∀ q, (reps zv.cells.toList q).all atomB = true := by
              intro q; induction q with
              | zero => rfl
              | succ q ih => rw [reps, List.all_append, ih, hzall]; rfl
            exact this _
          have hrc : ((Array.range (m.toNat * n)).map (fun i => zv.cells[i % zv.cells.size]!)).toList = reps zv.cells.toList m.toNat := by
            rw [← hzs]; exact reps_eq (by omega) _
          refine newVar_out (rc := (Array.range (m.toNat * n)).map (fun i => zv.cells[i % zv.cells.size]!)) (t := e) n hs (by rw [hrc]; exact atoms_refl hall) hone rfl _ (fun a => .slice (some a) m.toNat m.toNat) _ ?_ ?_
          · have hw : IntKind.i64.wrap m = m := by
              exact i64_wrap (by omega) (by omega)
            have hneg : ¬ (m < 0) := by omega
            have hbig : ¬ ((281474976710656 : Int) < (b : Int) * m) := by rw [Int.mul_comm]; omega
            by_cases h0 : m.toNat * n = 0
            · simp only [execOp, ho, Instr.makeSlice, hgl, hgc]
              simp [run_underlying hu, asInt, asIntOf, sizeOf, typeInfo, hti, hsz, hby, hw, hneg, hbig, h0, newRow]
              simp [show Array.range 0 = (#[] : Array Nat) from rfl]
            · simp only [execOp, ho, Instr.makeSlice, hgl, hgc]
              simp [run_underlying hu, asInt, asIntOf, sizeOf, typeInfo, hti, hsz, hby, hw, hneg, hbig, h0, zeroValue, hzv, newRow]
          · refine VR.sl (k := ⟨w.heap.size, 0, ((Array.range (m.toNat * n)).map (fun i => zv.cells[i % zv.cells.size]!)).size, n, true⟩) (by simp [rset]) (Nat.le_refl _) (fun _ => rfl) (fun _ => rfl) (fun _ => ?_)
            simp
        · cases ha
      · cases ha
    · cases hp
  · cases hp
end
end Go.Ab
