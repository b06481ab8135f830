/- Each operation that is no call does in the world what the calculus says of it (fifth part): append, copy, len, min, max. -/
import Derived.Test.YtpenocegikjpaaaAb6
set_option linter.unusedSimpArgs false
set_option linter.unusedVariables false
namespace Go.Ab
section
variable {P : Program} {ρ : Rho} {tm : Nat → Value} {h h' : Heap} {w : World} {g : Operand → Value} {o : Oper} {po : POp} {T : List Nat} {v : Value}

theorem exec_builtin {b : Builtin} {xs : Array Operand} {ts : Array TypeId} (ho : o.op = .call { callee := .builtin b, args := xs, argTypes := ts }) :
    ∃ cs, ∀ w, (execOp g o).run P w = (builtin b ts o.type cs (xs.map g)).run P w := by
  simp only [execOp, ho, resolve, invoke, Sem.run_bind, Sem.run_pure, Result.andThen_ok]
  exact ⟨_, fun _ => rfl⟩

theorem s_len {xs : Array Operand} {ts : Array TypeId} (ho : o.op = .call { callee := .builtin .len, args := xs, argTypes := ts }) (hp : prepOp P o.op = some po) (ha : aop P tm h po = some (T, v, h')) (hg : GV ρ tm g) : OutQ P (execOp g o) ρ v ∧ T = [] ∧ h' = h := by
  obtain ⟨cs, hx⟩ := exec_builtin (P := P) (g := g) ho
  rw [ho] at hp
  simp only [prepOp] at hp
  split at hp
  · rename_i x t ex et
    have hxs : xs = #[x] := Array.toList_inj.1 ex
    have hts : ts = #[t] := Array.toList_inj.1 et
    subst hxs; subst hts
    simp only [bind, Option.bind_eq_some_iff] at hp
    obtain ⟨p, h1, hp⟩ := hp
    have hv := hg x p h1
    split at hp
    · rename_i hu
      injection hp with hp; subst hp
      simp only [aop] at ha
      split at ha
      · rename_i s e
        rw [e] at hv
        have hgx := str_inv hv
        injection ha with ha; injection ha with e1 e2; injection e2 with e2 e3; subst e1; subst e2; subst e3
        refine Q3 (rv := .int .i64 s.size) (fun w => ?_) (.int _ _)
        rw [hx]; simp [builtin, Builtin.len_, run_underlying hu, hgx, goInt]
      · cases ha
    · rename_i e' hu
      injection hp with hp; subst hp
      simp only [aop] at ha
      split at ha
      · rename_i a n c e
        rw [e] at hv
        injection ha with ha; injection ha with e1 e2; injection e2 with e2 e3; subst e1; subst e2; subst e3
        have hgx : ∃ ra rc, g x = .slice ra n rc := by
          generalize g x = gx at hv
          cases hv with
          | nils => exact ⟨_, _, rfl⟩
          | sl => exact ⟨_, _, rfl⟩
        obtain ⟨ra, rc, hgx⟩ := hgx
        refine Q3 (rv := .int .i64 n) (fun w => ?_) (.int _ _)
        rw [hx]; simp [builtin, Builtin.len_, run_underlying hu, hgx, goInt]
      · cases ha
    · cases hp
  · cases hp

theorem s_mnx {mx : Bool} {xs : Array Operand} {ts : Array TypeId} (ho : o.op = .call { callee := .builtin (if mx then .max else .min), args := xs, argTypes := ts }) (hp : prepOp P o.op = some po) (ha : aop P tm h po = some (T, v, h')) (hg : GV ρ tm g) : OutQ P (execOp g o) ρ v ∧ T = [] ∧ h' = h := by
  obtain ⟨cs, hx⟩ := exec_builtin (P := P) (g := g) ho
  rw [ho] at hp
  have : ∃ ps, pOs xs.toList = some ps ∧ po = .mnx mx ps := by
    cases mx <;> simp [prepOp, Option.bind_eq_some_iff] at hp <;> obtain ⟨ps, a, b⟩ := hp <;> exact ⟨ps, a, b.symm⟩
  obtain ⟨ps, hps, rfl⟩ := this
  have hr := pOs_rel hps hg
  simp only [aop] at ha
  split at ha
  · rename_i k a k' b e
    rw [e] at hr
    split at ha
    · rename_i hk; subst hk
      injection ha with ha; injection ha with e1 e2; injection e2 with e2 e3; subst e1; subst e2; subst e3
      have hl := atoms_eq (by simp [atomB]) hr
      have hargs : xs.map g = #[.int k a, .int k b] := Array.toList_inj.1 (by simpa using hl)
      refine Q3 (rv := .int k (if mx then max a b else min a b)) (fun w => ?_) (.int _ _)
      rw [hx, hargs]
      cases mx
      · simp [builtin, Builtin.min_, Builtin.min2]; omega
      · simp [builtin, Builtin.max_, Builtin.max2]; omega
    · cases ha
  · cases ha

theorem src_rel {es m : Nat} {u x : Value} {news : List Value} (hs : Sim ρ h w) (hv : VR ρ u x) (e : srcA h es u = some (m, news)) :
    ∃ a c rl, x = .slice a m c ∧ rl.length = m * es ∧ VRL ρ news rl ∧ (∀ v ∈ news, v.oneCell' = true) ∧ (m ≠ 0 → ∃ b, a = some b ∧ ∀ j v, rl[j]? = some v → w.cell? (b.add j) = some v) := by
  unfold srcA at e
  split at e
  · injection e with e; injection e with e1 e2; subst e1; subst e2
    exact ⟨none, 0, [], nils_inv hv, by simp, .nil ρ, by simp, fun h => absurd rfl h⟩
  · rename_i i ofs n c
    simp only [Option.map_eq_some_iff, Prod.mk.injEq] at e
    obtain ⟨l, hl, rfl, rfl⟩ := e
    obtain ⟨k, ra, rc, rfl, hk, hle, _, hadr, _⟩ := sl_inv hv
    obtain ⟨rl, h1, h2, h3, h4⟩ := hs.cells hl hk
    refine ⟨some ra, rc, rl, rfl, h1, h2, h4, fun hn => ⟨ra, rfl, fun j v hj => ?_⟩⟩
    rw [hadr (by omega), add_plain]; exact h3 j v hj
  · cases e

theorem run_append_zero {t ty e : TypeId} (ht : P.underlying t = some (.slice e)) {i : TypeInfo} (hi : P.info? e = some i) (base : Option Addr) (n cap : Nat) (hn : n ≤ cap) (a : Option Addr) (c : Nat) :
    (Builtin.append_ #[t, t] ty #[.slice base n cap, .slice a 0 c]).run P w = .ok (.slice base n cap) w := by
  cases a <;> cases base <;> simp [Builtin.append_, run_underlying ht, sizeOf, typeInfo, hi, Builtin.lenOf, hn, Builtin.firstCells, loadCells, loadCellsFrom, storeCells]

theorem run_append_inplace {t ty e : TypeId} (ht : P.underlying t = some (.slice e)) {i : TypeInfo} (hi : P.info? e = some i) {b ofs n cap : Nat} {cur : Array Value} {et : TypeId} (hb : w.heap[b]? = some (.cells cur et (0, 0)))
    {a : Addr} {m c : Nat} {news : List Value} (hl : news.length = m * i.size) (hnews : ∀ j v, news[j]? = some v → w.cell? (a.add j) = some v) (h1 : ∀ v ∈ news, v.oneCell' = true)
    (hroom : n + m ≤ cap) (hfit : ofs + n * i.size + news.length ≤ cur.size) :
    (Builtin.append_ #[t, t] ty #[.slice (some ⟨b, ofs, none⟩) n cap, .slice (some a) m c]).run P w =
      .ok (.slice (some ⟨b, ofs, none⟩) (n + m) cap) (w.setRow b (cur.toList.take (ofs + n * i.size) ++ news ++ cur.toList.drop (ofs + n * i.size + news.length)).toArray) := by
  have hf := run_firstCells_some (P := P) w i.size m a m c news hl hnews
  have hst := run_storeCells_at P b (ofs + n * i.size) et news 0 cur w hb (by omega) h1
  simp only [Nat.add_zero] at hst
  simp [Builtin.append_, run_underlying ht, sizeOf, typeInfo, hi, Builtin.lenOf, hroom, hf, add_plain, hst]

theorem zeroCells_size (z : Array Value) (n : Nat) : (Builtin.zeroCells z n).size = n * z.size := by simp [Builtin.zeroCells]

theorem newSlice_out {s : Sem Next} {need es cap : Nat} {l rl : List Value} {rest : Array Value} {e : TypeId} (hs : Sim ρ h w) (hl : VRL ρ l rl) (h1 : ∀ v ∈ l, v.oneCell' = true) (hn : need ≤ cap) (hsz : (rl.toArray ++ rest).size = cap * es)
    (hr : s.run P w = .ok (.value (.slice (some ⟨w.heap.size, 0, none⟩) need cap)) (w.drew.alloc (.cells (rl.toArray ++ rest) e))) :
    Out P s ρ h w [] (.slice (some ⟨h.length, 0, none⟩) need (need + 1)) (newO h l es) := by
  have hlen := hl.1
  have hn' := hs.new (w' := w.drew.alloc (.cells (rl.toArray ++ rest) e)) (l := l) (rc := rl.toArray ++ rest) (t := e) es ⟨rfl, rfl, rfl⟩ rfl h1 (by simp; omega)
    (fun j x hj => by
      obtain ⟨y, hy, r⟩ := hl.sm hj
      refine ⟨y, ?_, r⟩
      rw [Array.getElem?_append_left (by have := (List.getElem?_eq_some_iff.1 hy).1; simpa using this)]
      simpa using hy)
  refine ⟨_, _, _, _, hr, .inl rfl, ?_, hn'.1, hn'.2⟩
  refine VR.sl (k := ⟨w.heap.size, 0, (rl.toArray ++ rest).size, es, true⟩) (by simp [rset]) hn (fun h => by omega) (fun _ => rfl) (fun _ => ?_)
  show 0 + 0 + cap * es ≤ (rl.toArray ++ rest).size
  omega

theorem s_app {xs : Array Operand} {ts : Array TypeId} (ho : o.op = .call { callee := .builtin .append, args := xs, argTypes := ts }) (hp : prepOp P o.op = some po) (ha : aop P tm h po = some (T, v, h')) (hg : GV ρ tm g) (hs : Sim ρ h w) : Out P (execOp g o) ρ h w T v h' := by
  obtain ⟨cs, hx⟩ := exec_builtin (P := P) (g := g) ho
  rw [ho] at hp
  simp only [prepOp] at hp
  split at hp
  · rename_i s x t u exs ets
    have hxs : xs = #[s, x] := Array.toList_inj.1 exs
    have hts : ts = #[t, u] := Array.toList_inj.1 ets
    subst hxs; subst hts
    simp only [bind, Option.bind_eq_some_iff] at hp
    obtain ⟨p, h1, q, h2, hp⟩ := hp
    split at hp
    · rename_i e e' hu hu'
      simp only [Option.bind_eq_some_iff] at hp
      obtain ⟨n, hn, b, hb, z, hz, hp⟩ := hp
      split at hp
      · rename_i hc
        obtain ⟨c1, c2, c3, c4⟩ := hc
        subst c4
        injection hp with hp; subst hp
        obtain ⟨ti, zv, hti, hzv, rfl, _, hzall⟩ := zeroOf_some hz
        obtain ⟨ti', hti', hsz⟩ := szOf_some hn
        rw [hti] at hti'; injection hti' with hti'; subst hti'
        obtain ⟨ti', hti', hby⟩ := byOf_some hb
        rw [hti] at hti'; injection hti' with hti'; subst hti'
        subst hsz; subst hby
        have hzs : zv.cells.size = ti.size := by simpa using c1
        have hvs := hg s p h1
        have hvx := hg x q h2
        have hx' : (execOp g o).run P w = ((Builtin.append_ #[t, t] o.type #[g s, g x]).run P w).andThen fun a w' => .ok (.value a) w' := by rw [hx]; simp [builtin]
        simp only [aop, Option.bind_eq_some_iff] at ha
        obtain ⟨⟨m, news⟩, hsrc, ha⟩ := ha
        obtain ⟨a, c, rl, hgx, hrl, hvr, hone, hcell⟩ := src_rel hs hvx hsrc
        simp only at ha
        split at ha
        · rename_i es
          rw [es] at hvs
          have hgs := nils_inv hvs
          split at ha
          · rename_i hm; subst hm
            injection ha with ha; injection ha with e1 e2; injection e2 with e2 e3; subst e1; subst e2; subst e3
            refine .quiet hs (rv := .slice none 0 0) ?_ .nils
            rw [hx', hgs, hgx, run_append_zero hu hti none 0 0 (Nat.le_refl _) a c]; rfl
          · rename_i hm
            split at ha
            · rename_i hc
              injection ha with ha; injection ha with e1 e2; injection e2 with e2 e3; subst e1; subst e2; subst e3
              obtain ⟨ad, rfl, hcl⟩ := hcell hm
              have hmb : m ≤ m * ti.bytes := Nat.le_mul_of_pos_right _ c3
              have hr := run_append_nil (P := P) w t o.type e ti zv hu hti hzv ad m c rl hrl hcl (by omega) (by omega) (by omega)
              refine newSlice_out hs hvr hone (grownCap_ge w m 0 e) ?_ (by rw [hx', hgs, hgx, hr]; rfl)
              have hge := grownCap_ge w m 0 e
              simp only [Array.size_append, List.size_toArray, zeroCells_size, hzs, hrl, ← Nat.add_mul]
              congr 1; omega
            · cases ha
        · rename_i i ofs len cc es
          rw [es] at hvs
          obtain ⟨k, ra, rc, hgs, hk, hle, hfull, hadr, hsp⟩ := sl_inv hvs
          split at ha
          · rename_i hm; subst hm
            injection ha with ha; injection ha with e1 e2; injection e2 with e2 e3; subst e1; subst e2; subst e3
            refine .quiet hs (rv := g s) ?_ hvs
            rw [hx', hgs, hgx, run_append_zero hu hti (some ra) len rc hle a c]; rfl
          · rename_i hm
            simp only [Option.bind_eq_some_iff] at ha
            obtain ⟨ob, hob', old, hold, ha⟩ := ha
            split at ha
            · rename_i hc
              obtain ⟨d1, d2, d3⟩ := hc
              obtain ⟨ad, rfl, hcl⟩ := hcell hm
              obtain ⟨rold, hro, hvo, hco, hoo⟩ := hs.cells hold hk
              have hmb : len + m ≤ (len + m) * ti.bytes := Nat.le_mul_of_pos_right _ c3
              have hall : ∀ v ∈ old ++ news, v.oneCell' = true := by
                intro v hv; rcases List.mem_append.1 hv with h | h
                · exact hoo v h
                · exact hone v h
              have grow : rc < len + m → Out P (execOp g o) ρ h w [] (.slice (some ⟨h.length, 0, none⟩) (len + m) (len + m + 1)) (newO h (old ++ news) ti.size) := by
                intro hlt
                have hold' : ∀ (j : Nat) (v : Value), rold[j]? = some v → w.cell? (ra.add j) = some v := by
                  intro j v hj
                  have hj2 := (List.getElem?_eq_some_iff.1 hj).1
                  have : rc ≠ 0 := by
                    intro h0; subst h0
                    have : len = 0 := by omega
                    subst this; simp at hro; subst hro; simp at hj2
                  rw [hadr this, add_plain]; exact hco j v hj
                have hr := run_append_grow (P := P) w t o.type e ti zv hu hti hzv ra len rc rold (by omega) hold' ad m c rl hrl hcl hlt (by omega) (growslice_fits hlt d1)
                have hge := grownCap_ge w (len + m) rc e
                refine newSlice_out (rl := rold ++ rl) (rest := Builtin.zeroCells zv.cells (grownCap w (len + m) rc e - (len + m))) (e := e) hs (hvo.append hvr) hall hge ?_ (by rw [hx', hgs, hgx, hr]; simp)
                have : (rold ++ rl).length = (len + m) * ti.size := by rw [List.length_append, hro, hrl, Nat.add_mul]
                simp only [Array.size_append, List.size_toArray, zeroCells_size, hzs, this, ← Nat.add_mul]
                congr 1; omega
              split at ha
              · rename_i hcf
                injection ha with ha; injection ha with e1 e2; injection e2 with e2 e3; subst e1; subst e2; subst e3
                have := hfull hcf
                exact grow (by omega)
              · rename_i hcf
                split at ha
                · rename_i hown
                  injection ha with ha; injection ha with e1 e2; injection e2 with e2 e3; subst e1; subst e2; subst e3
                  obtain ⟨k', rcs, et, hk', hh, hko, hrs, hes, hcs, hcc⟩ := hs.own_row hob' hown.1
                  rw [hk] at hk'; injection hk' with hk'; subst hk'
                  have hke : k.es = ti.size := by rw [hes]; exact hown.2
                  have hcap := hsp hko
                  rw [hke] at hcap
                  by_cases hroom : len + m ≤ rc
                  · have hra := hadr (by omega)
                    subst hra
                    have hmul : (len + m) * ti.size ≤ rc * ti.size := Nat.mul_le_mul_right _ hroom
                    have hsplit : (len + m) * ti.size = len * ti.size + m * ti.size := Nat.add_mul ..
                    have hr := run_append_inplace (P := P) (w := w) (ty := o.type) hu hti (cap := rc) hh hrl hcl (hvr.one hone) hroom (ofs := k.base + ofs) (n := len) (m := m) (c := c) (by omega)
                    have hmv := hs.move (o := ofs) (w' := w.setRow k.b (rcs.toList.take (k.base + ofs + len * ti.size) ++ rl ++ rcs.toList.drop (k.base + ofs + len * ti.size + rl.length)).toArray)
                      (l := old ++ news) hob' hown.1 hk ⟨rfl, rfl, rfl⟩ (by simp) (setRow_heap w k.b rcs _ et (0, 0) hh) (fun b hb => setRow_other w k.b b _ hb)
                      (by rw [splice_size (by omega)]; exact hrs) (by rw [List.length_append, (hcs_get hold).1, hvr.1]; omega)
                      (fun j v hj => by
                        have hlo : old.length = len * ti.size := (hcs_get hold).1
                        have htl : (rcs.toList.take (k.base + ofs + len * ti.size)).length = k.base + ofs + len * ti.size := by simp; omega
                        rw [List.getElem?_toArray, List.append_assoc]
                        by_cases hj1 : j < len * ti.size
                        · rw [List.getElem?_append_left (by omega)] at hj
                          obtain ⟨rv, y1, y2⟩ := hvo.sm hj
                          refine ⟨rv, ?_, y2, hoo v (List.mem_of_getElem? hj)⟩
                          rw [List.getElem?_append_left (by omega), List.getElem?_take, if_pos (by omega)]
                          have := hco j rv y1
                          simp [World.cell?, hh] at this
                          simpa using this
                        · rw [List.getElem?_append_right (by omega), hlo] at hj
                          obtain ⟨rv, y1, y2⟩ := hvr.sm hj
                          refine ⟨rv, ?_, y2, hone v (List.mem_of_getElem? hj)⟩
                          have hjl := (List.getElem?_eq_some_iff.1 y1).1
                          rw [List.getElem?_append_right (by omega), htl, List.getElem?_append_left (by omega), show k.base + ofs + j - (k.base + ofs + len * ti.size) = j - len * ti.size by omega]
                          exact y1)
                    rw [hke] at hmv
                    refine ⟨_, _, _, .slice (some ⟨k.b, k.base + ofs, none⟩) (len + m) rc, by rw [hx', hgs, hgx, hr]; rfl, .inl rfl, ?_, hmv.1, hmv.2⟩
                    refine VR.sl (k := ⟨k.b, k.base + ofs, k.sz, ti.size, true⟩) (by simp [rset]) hroom (fun h => by omega) (fun _ => by simp) (fun _ => ?_)
                    show k.base + ofs + 0 + rc * ti.size ≤ k.sz
                    omega
                  · have hgr := grow (by omega)
                    obtain ⟨nx, w', ρ', rv, r1, r2, r3, r4, r5⟩ := hgr
                    have hkill := r4.kill (i := i) (ob := ob) (by
                      have hlt := (List.getElem?_eq_some_iff.1 (hob_eq.1 hob')).1
                      rw [hob_eq]; unfold newO; rw [List.getElem?_append_left hlt]; exact hob_eq.1 hob')
                    have heq : (newO h (old ++ news) ti.size).set i none = newO (h.set i none) (old ++ news) ti.size := by
                      have hlt := (List.getElem?_eq_some_iff.1 (hob_eq.1 hob')).1
                      unfold newO; rw [List.set_append_left _ _ hlt]
                    rw [heq] at hkill
                    exact ⟨nx, w', ρ', rv, r1, r2, r3, hkill, r5.kill heq⟩
                · cases ha
            · cases ha
        · cases ha
      · cases hp
    · cases hp
  · cases hp
end
end Go.Ab
