/- Joined texts. -/
import Derived.Test.YtpenocegikjpaaaF1
/- Rows of rows grow. -/
set_option linter.unusedSimpArgs false
set_option linter.unusedVariables false
namespace Go.Ab
theorem RL.nd {α : Type} {w : Bool} {E : Enc α} {h : Heap} {v : Value} {l : List α} {L : List Nat} (r : RL w E h v l L) : L.Nodup := by
  rcases r with ⟨_, _, rfl⟩ | ⟨i, o, c, ob, _, rfl, _⟩ <;> simp
/-- An append of one value, by way of a row of one. -/
theorem RL.appV1 {h : Heap} {v : Value} {l : List Value} {L : List Nat} {by_ : Nat} (r : RL true EV h v l L) (a : Value) (hb : (l.length + 1) * by_ ≤ big) (hp : 0 < by_) (h1 : oneAll l = true) (h2 : a.oneCell' = true) :
    ∃ T v' h' L', appV 1 by_ v (.slice (some ⟨h.length, 0, none⟩) 1 1) (h ++ [some ⟨[a], 1, true⟩]) = some (T, v', h') ∧ RL true EV h' v' (l ++ [a]) L' ∧ Kp L h h' ∧ (∀ i ∈ T, i ∈ L) ∧ (∀ i ∈ L', h.length ≤ i) ∧ L'.Nodup ∧ h.length < h'.length := by
  have hs : srcA (h ++ [some ⟨[a], 1, true⟩]) 1 (.slice (some ⟨h.length, 0, none⟩) 1 1) = some (1, [a]) := by
    simp only [srcA, hcs_tail0, hcs_zero]
    rw [if_pos (by simp)]
    simp
  have hone : oneAll [a] = true := by simp [h2]
  have hbig : l.length + 1 ≤ big := Nat.le_trans (Nat.le_mul_of_pos_right _ hp) hb
  rcases r with ⟨rfl, rfl, rfl⟩ | ⟨i, o, c, ob, rfl, rfl, h3, h4, h5, h6, h7⟩
  · refine ⟨[], _, _, [h.length + 1], by simp only [appV, hs, Option.bind_some]; rw [if_neg (by omega), if_pos ⟨by simpa using hb, hone⟩], ?_, ?_, by simp, by simp, by simp, by simp <;> omega⟩
    · have := RL.newN (E := EV) (h := h ++ [some ⟨[a], 1, true⟩]) (l := [a]) (c := 2) (n := 1) rfl (by simp [big])
      simpa using this
    · exact (Kp.app [] _ _).trans (Kp.app [] _ _) (by simp)
  · have hil : i < h.length := hob_lt h4
    have h4' : hob (h ++ [some ⟨[a], 1, true⟩]) i = some ob := hob_kp (.app [] _ _) h4 (by simp)
    simp only [EV_es, Nat.mul_one, EV_cs] at h5 h6
    have hcs' : hcs (h ++ [some ⟨[a], 1, true⟩]) i o (l.length * 1) = some l := by
      simp only [hcs, h4', Option.bind_some, Nat.mul_one]; rw [if_pos h5, h6]
    obtain ⟨ho, he⟩ := h7 rfl
    by_cases hc : c = l.length
    · refine ⟨[], _, _, [h.length + 1], by simp only [appV, hs, h4', hcs', Option.bind_some]; rw [if_neg (by omega), if_pos ⟨hb, hone, h1⟩, if_pos hc], ?_, ?_, by simp, by simp, by simp, by simp <;> omega⟩
      · have := RL.newN (E := EV) (h := h ++ [some ⟨[a], 1, true⟩]) (l := l ++ [a]) (c := l.length + 1 + 1) (n := l.length + 1) (by simp) (by simpa using hbig)
        simpa using this
      · exact (Kp.app _ _ _).trans (Kp.app [] _ _) (by simp)
    · refine ⟨[i], _, _, [h.length + 1], by simp only [appV, hs, h4', hcs', Option.bind_some]; rw [if_neg (by omega), if_pos ⟨hb, hone, h1⟩, if_neg hc, if_pos ⟨ho, he⟩], ?_, ?_, by simp, by simp, by simp, by simp <;> omega⟩
      · have := RL.newN (E := EV) (h := List.set (h ++ [some (⟨[a], 1, true⟩ : AObj)]) i none) (l := l ++ [a]) (c := l.length + 1 + 1) (n := l.length + 1) (by simp) (by simpa using hbig)
        simpa using this
      · exact ((Kp.app [i] _ _).trans (Kp.set _ i none) (by simp)).trans (Kp.app [] _ _) (by simp)
/-- A row more. -/
theorem NX.push {n : Nat} {h h' : Heap} {v u : Value} {ll : List (List Mx)} {l : List Mx} {Lu : List Nat} (x : NX n h v ll) (k : Kp [] h h') (r : RL true EX h' u l Lu) (g : ∀ i ∈ Lu, h.length ≤ i) (hb : (ll.length + 1) * 24 ≤ big) (hn : n ≤ h.length) :
    ∃ T v' h'' U, appV 1 24 v (.slice (some ⟨h'.length, 0, none⟩) 1 1) (h' ++ [some ⟨[u], 1, true⟩]) = some (T, v', h'') ∧ NX n h'' v' (ll ++ [l]) ∧ (∀ i ∈ T, n ≤ i) ∧ Kp U h' h'' ∧ (∀ i ∈ U, n ≤ i) := by
  obtain ⟨L, ⟨vs, L0, Ls, r1, r2, rfl⟩, nd, ge⟩ := x
  have r1' := r1.kp0 k
  have r2' := r2.kp0' k
  have hln := r2.len.1
  have hk := k.1
  obtain ⟨T, v', h'', L', e1, q, kk, t, l', nd', lt⟩ := r1'.appV1 (by_ := 24) u (by rw [hln]; exact hb) (by omega) r2.one r.one
  obtain ⟨n1, n2, n3⟩ := List.nodup_append.1 nd
  have l1 := r1.lt
  have l2 := r2.lt
  have l3 := r.lt
  refine ⟨T, v', h'', L0, e1, ⟨L' ++ (Ls ++ [Lu]).flatten, ⟨vs ++ [u], L', Ls ++ [Lu], q, (r2'.snoc r).kp kk ?_, rfl⟩, ?_, ?_⟩, fun i hi => ge i (by simp [t i hi]), kk, fun i hi => ge i (by simp [hi])⟩
  · intro i hi hn0
    rw [flat_snoc] at hi
    rcases List.mem_append.1 hi with hi | hi
    · exact n3 i hn0 i hi rfl
    · have := g i hi; have := l1 i hn0; omega
  · rw [flat_snoc]
    refine List.nodup_append.2 ⟨nd', nodup_app n2 r.nd l2 g, fun a ha b hb' e => ?_⟩
    have := l' a ha
    rcases List.mem_append.1 hb' with hb' | hb'
    · have := l2 b hb'; omega
    · have := l3 b hb'; omega
  · intro i hi
    rw [flat_snoc] at hi
    rcases List.mem_append.1 hi with hi | hi
    · have := l' i hi; omega
    · rcases List.mem_append.1 hi with hi | hi
      · exact ge i (by simp [hi])
      · have := g i hi; omega
theorem NX.kp {n : Nat} {T : List Nat} {h h' : Heap} {v : Value} {ll : List (List Mx)} (x : NX n h v ll) (k : Kp T h h') (hd : ∀ i ∈ T, i < n) : NX n h' v ll := by
  obtain ⟨L, r, nd, ge⟩ := x
  exact ⟨L, r.kp k fun i hi hn => by have := ge i hi; have := hd i hn; omega, nd, ge⟩
theorem NX.kp0 {n : Nat} {h h' : Heap} {v : Value} {ll : List (List Mx)} (x : NX n h v ll) (k : Kp [] h h') : NX n h' v ll := x.kp k (by simp)
theorem NX.nilV {n : Nat} {h : Heap} (hn : n ≤ h.length) : NX n (h ++ [some ⟨[], 1, true⟩]) (.slice (some ⟨h.length, 0, none⟩) 0 0) [] := by
  have := RL.newN (E := EV) (h := h) (l := []) (c := 0) (n := 0) rfl (by simp)
  refine ⟨[h.length], ⟨[], [h.length], [], by simpa using this, .nil, rfl⟩, by simp, by simpa using hn⟩
end Go.Ab

/- Cells of variables written; rows cloned. -/
set_option linter.unusedSimpArgs false
set_option linter.unusedVariables false
namespace Go.Ab
theorem strV_cell {g : Heap} {i j n : Nat} {c : List Value} {v : Value} (b : hob g i = some ⟨c, n, true⟩) (hj : j < c.length) (hv : v.cells.toList = [v]) (ho : v.oneCell' = true) :
    ∃ g', strV 1 (.pointer (some ⟨i, j, none⟩)) v g = some ([i], undef, g') ∧ hob g' i = some ⟨c.set j v, n, true⟩ ∧ Kp [i] g g' ∧ g'.length = g.length := by
  refine ⟨_, by unfold strV; simp only [b, Option.bind_some, hv]; rw [if_pos (by simp [ho]; omega)], ?_, Kp.set _ _ _, by simp⟩
  rw [hob_set (hob_lt b)]
  have : c.take j ++ ([v] ++ c.drop (j + 1)) = c.set j v := by
    rw [List.set_eq_take_append_cons_drop, if_pos hj]; rfl
  simp only [this]
theorem strV_full {g : Heap} {i n : Nat} {c l : List Value} (b : hob g i = some ⟨c, n, true⟩) (hc : c.length = n) (hl : l.length = n) (ho : oneAll l = true) :
    ∃ g', strV n (.pointer (some ⟨i, 0, none⟩)) (.agg l.toArray) g = some ([i], undef, g') ∧ hob g' i = some ⟨l, n, true⟩ ∧ Kp [i] g g' ∧ g'.length = g.length := by
  have hcl : (Value.agg l.toArray).cells.toList = l := by simp
  refine ⟨_, by unfold strV; simp only [b, Option.bind_some, hcl]; rw [if_pos (by simp [ho, hl, hc])], ?_, Kp.set _ _ _, by simp⟩
  rw [hob_set (hob_lt b)]
  simp [← hc]
theorem hcs_full {g : Heap} {i n : Nat} {c : List Value} (b : hob g i = some ⟨c, n, true⟩) (hc : c.length = n) : hcs g i 0 n = some c := by
  unfold hcs
  rw [b, Option.bind_some, if_pos (by simp [hc])]
  simp [← hc]
/-- A row appended to a new row of none. -/
theorem RL.clone {α : Type} {E : Enc α} {w : Bool} {h : Heap} {v : Value} {l : List α} {L : List Nat} {by_ : Nat} (r : RL w E h v l L) (hb : l.length * by_ ≤ big) (hp : 0 < by_) (h1 : ∀ a ∈ l, oneAll (E.e a) = true) :
    ∃ T v' h' L', appV E.es by_ (.slice (some ⟨h.length, 0, none⟩) 0 0) v (h ++ [some ⟨[], E.es, true⟩]) = some (T, v', h') ∧ RL true E h' v' l L' ∧ Kp [] h h' ∧ (∀ i ∈ T, h.length ≤ i) ∧ (∀ i ∈ L', h.length ≤ i) := by
  have r2 : RL true E (h ++ [some ⟨[], E.es, true⟩]) (.slice (some ⟨h.length, 0, none⟩) 0 0) [] [h.length] := by
    have := RL.newN (E := E) (h := h) (l := []) (c := 0) (n := 0) rfl (by simp)
    simpa using this
  obtain ⟨T1, v1, g1, L1, e1, q1, k1, t1, l1⟩ := r2.app (L2 := []) (by_ := by_) ((r.kp0 (.app [] h _)).src) (by simpa using hb) hp (by simp) h1
  simp only [List.nil_append] at q1
  exact ⟨T1, v1, g1, L1, e1, q1, (Kp.app [] h _).trans k1 (by simp), fun i hi => by have := t1 i hi; simp at this; omega, fun i hi => by have := l1 i hi; simp at this; omega⟩
theorem szXX_mem {ll : List (List Mx)} {l : List Mx} (h : l ∈ ll) : l.length ≤ szXX ll := by
  have : l.length ≤ (ll.map List.length).sum := by
    induction ll with
    | nil => cases h
    | cons a ll ih =>
      rcases List.mem_cons.1 h with rfl | h
      · simp
      · have := ih h; simp only [List.map_cons, List.sum_cons]; omega
  unfold szXX; omega
end Go.Ab

/- A row of rows, of which one row changes. -/
set_option linter.unusedSimpArgs false
set_option linter.unusedVariables false
namespace Go.Ab
theorem flat_set {Ls : List (List Nat)} {k n : Nat} {A B : List Nat} (nd : Ls.flatten.Nodup) (hk : Ls[k]? = some A) (hb : B.Nodup) (hn : ∀ j ∈ B, j ∈ A ∨ n ≤ j) (hl : ∀ j ∈ Ls.flatten, j < n) :
    (Ls.set k B).flatten.Nodup ∧ ∀ j ∈ (Ls.set k B).flatten, j ∈ Ls.flatten ∨ n ≤ j := by
  induction Ls generalizing k with
  | nil => simp at hk
  | cons C Ls ih =>
    rw [List.flatten_cons] at nd hl
    obtain ⟨n1, n2, n3⟩ := List.nodup_append.1 nd
    cases k with
    | zero =>
      simp at hk; subst hk
      rw [List.set_cons_zero, List.flatten_cons, List.flatten_cons]
      refine ⟨List.nodup_append.2 ⟨hb, n2, fun a ha b hb' e => ?_⟩, fun j hj => ?_⟩
      · rcases hn a ha with h | h
        · exact n3 a h b hb' e
        · have := hl b (List.mem_append_right _ hb'); omega
      · rcases List.mem_append.1 hj with hj | hj
        · rcases hn j hj with h | h
          · exact .inl (List.mem_append_left _ h)
          · exact .inr h
        · exact .inl (List.mem_append_right _ hj)
    | succ k =>
      simp at hk
      obtain ⟨i1, i2⟩ := ih (k := k) n2 hk fun j hj => hl j (List.mem_append_right _ hj)
      rw [List.set_cons_succ, List.flatten_cons, List.flatten_cons]
      refine ⟨List.nodup_append.2 ⟨n1, i1, fun a ha b hb' e => ?_⟩, fun j hj => ?_⟩
      · rcases i2 b hb' with h | h
        · exact n3 a ha b h e
        · have := hl a (List.mem_append_left _ ha); omega
      · rcases List.mem_append.1 hj with hj | hj
        · exact .inl (List.mem_append_left _ hj)
        · rcases i2 j hj with h | h
          · exact .inl (List.mem_append_right _ h)
          · exact .inr h
theorem RLs.upd' {w : Bool} {h h' : Heap} {vs : List Value} {ll : List (List Mx)} {Ls : List (List Nat)} (r : RLs w h vs ll Ls) (nd : Ls.flatten.Nodup) {k : Nat} {l' : List Mx} {v' : Value} {L L' : List Nat} (hL : Ls[k]? = some L) (kp : Kp L h h') (r1 : RL w EX h' v' l' L') :
    RLs w h' (vs.set k v') (ll.set k l') (Ls.set k L') := by
  induction r generalizing k with
  | nil => simp at hL
  | cons r rs ih =>
    simp only [List.flatten_cons, List.nodup_append] at nd
    obtain ⟨n1, n2, n3⟩ := nd
    cases k with
    | zero =>
      simp at hL
      subst hL
      exact .cons r1 (rs.kp kp fun i hi hn => n3 i hn i hi rfl)
    | succ k =>
      simp at hL
      refine .cons (r.kp kp fun i hi hn => ?_) (ih n2 hL)
      have : i ∈ (List.flatten _) := List.mem_flatten.2 ⟨L, List.mem_of_getElem? hL, hn⟩
      exact n3 i hi i this rfl
theorem NX.put {n : Nat} {h : Heap} {v : Value} {ll : List (List Mx)} (x : NX n h v ll) {k : Nat} (hk : k < ll.length) :
    ∃ i o u Lu, (∀ h', ixaV 1 v (.int .i64 k) h' = some ([], .pointer (some ⟨i, o, none⟩), h')) ∧ hc1 h i o = some u ∧ RL true EX h u ll[k] Lu ∧ (∀ j ∈ Lu, n ≤ j) ∧ n ≤ i ∧ i < h.length ∧ i ∉ Lu ∧
      ∀ h' u' l' Lu', Kp Lu h h' → RL true EX h' u' l' Lu' → (∀ j ∈ Lu', j ∈ Lu ∨ h.length ≤ j) →
        ∃ h'', strV 1 (.pointer (some ⟨i, o, none⟩)) u' h' = some ([i], undef, h'') ∧ NX n h'' v (ll.set k l') ∧ Kp [i] h' h'' := by
  obtain ⟨L, ⟨vs, L0, Ls, r1, r2, rfl⟩, nd, ge⟩ := x
  obtain ⟨h1, h2, h3⟩ := r2.at hk
  obtain ⟨i, o, e1, e2, rfl⟩ := r1.atV h1
  obtain ⟨n1, n2, n3⟩ := List.nodup_append.1 nd
  have hi := r1.lt i (by simp)
  have l2 := r2.lt
  have hLk : Ls[k]? = some Ls[k] := List.getElem?_eq_getElem h2
  have hsub : ∀ j ∈ Ls[k], j ∈ Ls.flatten := fun j hj => List.mem_flatten.2 ⟨_, List.getElem_mem h2, hj⟩
  have hni : i ∉ Ls[k] := fun hn => n3 i (by simp) i (hsub i hn) rfl
  have hnn := ge i (by simp)
  refine ⟨i, o, vs[k], Ls[k], e1, e2, h3, fun j hj => ge j (List.mem_append_right _ (hsub j hj)), hnn, hi, hni, ?_⟩
  intro h' u' l' Lu' kp ru hu
  have hlen : h.length ≤ h'.length := kp.1
  have r1' := r1.kp kp (fun j hj hn => by simp at hj; subst hj; exact hni hn)
  obtain ⟨i', o', h'', f1, f2, f3, f4, f5, _⟩ := r1'.putV h1 u' ru.cells ru.one
  have := (e1 h').symm.trans (f1 h')
  simp only [Option.some.injEq, Prod.mk.injEq, Value.pointer.injEq, Addr.mk.injEq, true_and, and_true] at this
  obtain ⟨rfl, rfl⟩ := this
  obtain ⟨s1, s2⟩ := flat_set n2 hLk ru.nd hu l2
  have hno : ∀ j ∈ (Ls.set k Lu').flatten, j ∉ [i] := by
    intro j hj hn
    simp at hn; subst hn
    rcases s2 j hj with h | h
    · exact n3 j (by simp) j h rfl
    · omega
  refine ⟨h'', f2, ⟨[i] ++ (Ls.set k Lu').flatten, ⟨vs.set k u', [i], Ls.set k Lu', f3, (r2.upd' n2 hLk kp ru).kp f4 hno, rfl⟩, ?_, ?_⟩, f4⟩
  · refine List.nodup_append.2 ⟨by simp, s1, fun a ha b hb e => hno b hb (by rw [← e]; exact ha)⟩
  · intro j hj
    rcases List.mem_append.1 hj with hj | hj
    · simp at hj; subst hj; exact hnn
    · rcases s2 j hj with h | h
      · exact ge j (List.mem_append_right _ h)
      · omega
end Go.Ab

/- A matrix of a magazine changes in place; worn settings. -/
set_option linter.unusedSimpArgs false
set_option linter.unusedVariables false
namespace Go.Ab
theorem RL.modX1 {h : Heap} {v : Value} {L : List Nat} {k : Nat} {l : List Mx} (r : RL true EX h v l L) (hk : k < l.length) (a : Int) :
    ∃ i o h', (∀ h', ixaV 2 v (.int .i64 k) h' = some ([], .pointer (some ⟨i, o, none⟩), h')) ∧ hc1 h i (o + 1) = some (.int .i64 l[k].2) ∧ strV 1 (.pointer (some ⟨i, o + 1, none⟩)) (.int .i64 a) h = some ([i], undef, h') ∧ RL true EX h' v (l.set k (l[k].1, a)) L ∧ Kp L h h' ∧ L = [i] := by
  obtain ⟨i, o, e1, e2, e3, e4, _⟩ := r.atX hk
  obtain ⟨i', o', h', f1, f2, f3, f4, f5, _⟩ := r.putX1 hk a
  have := (e1 h).symm.trans (f1 h)
  simp only [Option.some.injEq, Prod.mk.injEq, Value.pointer.injEq, Addr.mk.injEq, true_and, and_true] at this
  obtain ⟨rfl, rfl⟩ := this
  exact ⟨i, o, h', e1, e4, f2, f3, f4, f5⟩
theorem NX.mod1 {n : Nat} {h : Heap} {v : Value} {ll : List (List Mx)} (x : NX n h v ll) {k d : Nat} (hk : k < ll.length) (hd : d < ll[k].length) (a : Int) :
    ∃ i o u i2 o2 h', (∀ h', ixaV 1 v (.int .i64 k) h' = some ([], .pointer (some ⟨i, o, none⟩), h')) ∧ hc1 h i o = some u ∧ (∀ h', ixaV 2 u (.int .i64 d) h' = some ([], .pointer (some ⟨i2, o2, none⟩), h')) ∧ hc1 h i2 (o2 + 1) = some (.int .i64 ll[k][d].2) ∧
      strV 1 (.pointer (some ⟨i2, o2 + 1, none⟩)) (.int .i64 a) h = some ([i2], undef, h') ∧ NX n h' v (ll.set k (ll[k].set d (ll[k][d].1, a))) ∧ n ≤ i2 ∧ Kp [i2] h h' := by
  obtain ⟨L, ⟨vs, L0, Ls, r1, r2, rfl⟩, nd, ge⟩ := x
  obtain ⟨h1, h2, h3⟩ := r2.at hk
  obtain ⟨i, o, e1, e2, rfl⟩ := r1.atV h1
  obtain ⟨n1, n2, n3⟩ := List.nodup_append.1 nd
  have hLk : Ls[k]? = some Ls[k] := List.getElem?_eq_getElem h2
  have hvk : vs[k]? = some vs[k] := List.getElem?_eq_getElem h1
  have hsub : ∀ j ∈ Ls[k], j ∈ Ls.flatten := fun j hj => List.mem_flatten.2 ⟨_, List.getElem_mem h2, hj⟩
  obtain ⟨i2, o2, h', f1, f2, f3, f4, f5, f6⟩ := h3.modX1 hd a
  refine ⟨i, o, vs[k], i2, o2, h', e1, e2, f1, f2, f3, ⟨[i] ++ Ls.flatten, ⟨vs, [i], Ls, r1.kp f5 fun j hj hn => n3 j hj j (hsub j hn) rfl, r2.upd n2 hk hvk hLk f5 f4, rfl⟩, nd, ge⟩, ge i2 (List.mem_append_right _ (hsub i2 (by rw [f6]; simp))), by rw [← f6]; exact f5⟩
/-- A set tooth goes: as the reference takes it away and as the program does. -/
theorem worn {s p : Int} (hs : setB s = true) (hp : 0 ≤ p ∧ p ≤ 6) (hb : andI (shrI s p) 1 ≠ 0) : andNotI s (shlI 1 p) = s - shlI 1 p ∧ 1 ≤ shlI 1 p ∧ shlI 1 p ≤ 64 := by
  have hs' : 0 ≤ s ∧ s ≤ 127 := by simpa [setB, inB] using hs
  have key : ∀ (a : Fin 128) (b : Fin 7), andI (shrI (a.val : Int) (b.val : Int)) 1 ≠ 0 → andNotI (a.val : Int) (shlI 1 (b.val : Int)) = (a.val : Int) - shlI 1 (b.val : Int) ∧ 1 ≤ shlI 1 (b.val : Int) ∧ shlI 1 (b.val : Int) ≤ 64 := by decide +kernel
  obtain ⟨a, rfl⟩ : ∃ a : Nat, s = a := ⟨s.toNat, by omega⟩
  obtain ⟨b, rfl⟩ : ∃ b : Nat, p = b := ⟨p.toNat, by omega⟩
  exact key ⟨a, by omega⟩ ⟨b, by omega⟩ hb
end Go.Ab

/- Machines put together; the machine of none. -/
set_option linter.unusedSimpArgs false
set_option linter.unusedVariables false
namespace Go.Ab
/-- The zero machine. -/
def M0 : Mch := ⟨⟨⟨#[]⟩, [], []⟩, [], 0, ⟨0, 0, 0⟩, [], []⟩
def zcells : List Value := [.string ⟨#[]⟩, .slice none 0 0, .slice none 0 0, .slice none 0 0, .int .i64 0, .int .i64 0, .int .i64 0, .int .i64 0, .slice none 0 0, .slice none 0 0]
theorem MN.zero (n : Nat) (h : Heap) : MN n h zcells M0 [] :=
  ⟨⟨_, _, _, _, _, [], [], [], [], [], rfl, ⟨.nil, .nil, .nil, .nil, .nil⟩, rfl⟩, by simp, by simp⟩
/-- A machine, and something beside it. -/
def TupM (n : Nat) (h : Heap) (r : Value) (M : Mch) (b : Value) : Prop := ∃ l L, r = .tuple #[.agg l.toArray, b] ∧ MN n h l M L
theorem nodup5 {A B C D E X : List Nat} {n : Nat} (nd : (A ++ B ++ C ++ D ++ E).Nodup) (hx : X.Nodup) (ge : ∀ i ∈ A ++ B ++ C ++ D ++ E, n ≤ i) (lt : ∀ i ∈ X, i < n) : (A ++ B ++ X ++ D ++ E).Nodup := by
  have h1 : (X ++ ((A ++ B) ++ (D ++ E))).Nodup := by
    refine nodup_app hx ?_ lt fun i hi => ge i ?_
    · have : ((A ++ B) ++ (D ++ E)).Sublist (A ++ B ++ C ++ D ++ E) := by
        rw [List.append_assoc (A ++ B ++ C), List.append_assoc (A ++ B)]
        exact List.Sublist.append (List.Sublist.refl _) (List.sublist_append_right _ _)
      exact nd.sublist this
    · simp only [List.mem_append] at hi ⊢
      rcases hi with (hi | hi) | (hi | hi) <;> simp [hi]
  have h2 : (X ++ ((A ++ B) ++ (D ++ E))).Perm (A ++ B ++ X ++ D ++ E) := by
    rw [← List.append_assoc X, List.append_assoc (A ++ B ++ X)]
    exact List.Perm.append_right _ List.perm_append_comm
  exact h2.nodup_iff.1 h1
theorem mn_mag {n n1 : Nat} {h : Heap} {M : Mch} {vW vC vM vL vQ vX : Value} {LW LC LM LL LQ LX : List Nat} {m' : List (List Mx)} (r : RM true h M vW vC vM vL vQ LW LC LM LL LQ) (nd : (LW ++ LC ++ LM ++ LL ++ LQ).Nodup) (ge : ∀ i ∈ LW ++ LC ++ LM ++ LL ++ LQ, n1 ≤ i)
    (x : RXX true h vX m' LX) (ndX : LX.Nodup) (geX : ∀ i ∈ LX, n ≤ i) (ltX : ∀ i ∈ LX, i < n1) (hn : n ≤ n1) : MN n h (mcells { M with mag := m' } vW vC vX vL vQ) { M with mag := m' } (LW ++ LC ++ LX ++ LL ++ LQ) := by
  refine ⟨⟨_, _, _, _, _, _, _, _, _, _, rfl, ⟨r.rW, r.rC, x, r.rL, r.rQ⟩, rfl⟩, nodup5 nd ndX ge ltX, fun i hi => ?_⟩
  simp only [List.mem_append] at hi ge
  rcases hi with (((hi | hi) | hi) | hi) | hi
  · have := ge i (by simp [hi]); omega
  · have := ge i (by simp [hi]); omega
  · exact geX i hi
  · have := ge i (by simp [hi]); omega
  · have := ge i (by simp [hi]); omega
theorem MN.mono {n n1 : Nat} {h : Heap} {l : List Value} {M : Mch} {L : List Nat} (x : MN n1 h l M L) (hn : n ≤ n1) : MN n h l M L := ⟨x.1, x.2.1, fun i hi => Nat.le_trans hn (x.2.2 i hi)⟩
theorem MN.kp {n : Nat} {T : List Nat} {h h' : Heap} {l : List Value} {M : Mch} {L : List Nat} (x : MN n h l M L) (k : Kp T h h') (hd : ∀ i ∈ L, i ∉ T) : MN n h' l M L := ⟨x.1.kp k hd, x.2.1, x.2.2⟩
theorem RM.lt {w : Bool} {h : Heap} {M : Mch} {vW vC vM vL vQ : Value} {LW LC LM LL LQ : List Nat} (r : RM w h M vW vC vM vL vQ LW LC LM LL LQ) : ∀ i ∈ LW ++ LC ++ LM ++ LL ++ LQ, i < h.length :=
  MV.lt (M := M) ⟨_, _, _, _, _, _, _, _, _, _, rfl, r, rfl⟩
end Go.Ab

/- Contracts: clones and copies. -/
set_option linter.unusedSimpArgs false
set_option linter.unusedVariables false
set_option maxHeartbeats 1000000
namespace Go.Proofs.Ytpenocegikjpaaa
open Go.Ab
section
variable {w : Bool} {h : Heap} {v : Value} {L : List Nat}
theorem cloneX_ac {l : List Mx} (r : RL w EX h v l L) (hl : l.length ≤ 1048576) : AC Try.prog 83 [v] h [] fun r h' => ∃ L', RL true EX h' r l L' ∧ L'.Nodup ∧ ∀ i ∈ L', h.length ≤ i := by
  refine ac83 (by simp [p83]) ?_
  have r2 : RL true EX (h ++ [some ⟨[], 2, true⟩]) (.slice (some ⟨h.length, 0, none⟩) 0 0) [] [h.length] := by
    have := RL.newN (E := EX) (h := h) (l := []) (c := 0) (n := 0) rfl (by simp)
    simpa using this
  obtain ⟨T1, v1, g1, L1, e1, q1, k1, t1, l1⟩ := r2.app (L2 := []) (by_ := 16) ((r.kp0 (.app [] h _)).src) (by simp; unfold big; omega) (by omega) (by simp) (by simp)
  simp only [EX_es, List.nil_append] at e1 q1
  have hT : ∀ i ∈ T1, MT [] h i := fun i hi => .inr (by have := t1 i hi; simp at this; omega)
  have hL : ∀ i ∈ L1, h.length ≤ i := fun i hi => by have := l1 i hi; simp at this; omega
  rcases r with ⟨rfl, rfl, rfl⟩ | ⟨i, o, c, ob, rfl, rfl, h3, h4, h5, h6, h7⟩
  · simp -implicitDefEqProofs [p83, snlV]
    exact ⟨[], .nil, by simp, by simp⟩
  · simp -implicitDefEqProofs [p83, snlV, bslV, e1]
    exact ⟨hT, L1, q1, q1.nd, hL⟩
theorem cloneI_ac {l : List Int} (r : RL w EI h v l L) (hl : l.length ≤ 1048576) : AC Try.prog 119 [v] h [] fun r h' => ∃ L', RL true EI h' r l L' ∧ L'.Nodup ∧ ∀ i ∈ L', h.length ≤ i := by
  refine ac119 (by simp [p119]) ?_
  have r2 : RL true EI (h ++ [some ⟨[], 1, true⟩]) (.slice (some ⟨h.length, 0, none⟩) 0 0) [] [h.length] := by
    have := RL.newN (E := EI) (h := h) (l := []) (c := 0) (n := 0) rfl (by simp)
    simpa using this
  obtain ⟨T1, v1, g1, L1, e1, q1, k1, t1, l1⟩ := r2.app (L2 := []) (by_ := 8) ((r.kp0 (.app [] h _)).src) (by simp; unfold big; omega) (by omega) (by simp) (by simp)
  simp only [EI_es, List.nil_append] at e1 q1
  have hT : ∀ i ∈ T1, MT [] h i := fun i hi => .inr (by have := t1 i hi; simp at this; omega)
  have hL : ∀ i ∈ L1, h.length ≤ i := fun i hi => by have := l1 i hi; simp at this; omega
  rcases r with ⟨rfl, rfl, rfl⟩ | ⟨i, o, c, ob, rfl, rfl, h3, h4, h5, h6, h7⟩
  · simp -implicitDefEqProofs [p119, snlV]
    exact ⟨[], .nil, by simp, by simp⟩
  · simp -implicitDefEqProofs [p119, snlV, bslV, e1]
    exact ⟨hT, L1, q1, q1.nd, hL⟩
theorem implCopyMag_ac {ll : List (List Mx)} (r : RXX w h v ll L) (hl : ll.length ≤ 1048576) (hll : ∀ l ∈ ll, l.length ≤ 1048576) : AC Try.prog 74 [v] h [] fun r h' => NX h.length h' r ll := by
  refine ac74 (by simp [p74]) ?_
  simp -implicitDefEqProofs [p74, bslV, r.len]
  have hlt := r.lt
  refine range r74_0 (.app _ _ _) ll.length r.bd (by simp) (by simp) (fun k s h1 => NX h.length h1 (s 3) (ll.take k) ∧ RXX w h1 v ll L) ⟨by simpa using NX.nilV (Nat.le_refl _), r.kp0 (.app _ _ _)⟩ ?_ ?_
  · rintro k s h1 hk hi ⟨x, rr⟩ kp
    obtain ⟨i, o, u, L1, ea, la, ru, hsub⟩ := rr.at hk
    have hge := kp.1
    generalize hs3 : s 3 = v3 at x
    simp -implicitDefEqProofs [b74_0, L74_0, hi, hs3, ea, la]
    refine call0 (cloneX_ac ru (hll _ (List.getElem_mem hk))) ?_
    rintro u' h2 ⟨Lu, r2, _, gu⟩ k2
    obtain ⟨T, v', h3, U, e1, q, t, k3, hu⟩ := x.push k2 r2 gu (by rw [List.length_take]; unfold big; omega) hge
    rw [← take_snoc hk] at q
    have hsz : u'.cells.size = 1 := by rw [← Array.length_toList, r2.cells]; rfl
    simp -implicitDefEqProofs [hsz, r2.one, r2.cells, e1]
    exact ⟨fun i hi => .inr (t i hi), q, (rr.kp0 k2).kp k3 fun i hi hn => by have := hlt i hi; have := hu i hn; omega⟩
  · rintro s h1 hi ⟨x, rr⟩ kp
    rw [List.take_length] at x
    simp -implicitDefEqProofs [L74_0]
    exact x
theorem specCopyMag_ac {ll : List (List Mx)} (r : RXX w h v ll L) (hl : ll.length ≤ 1048576) (hll : ∀ l ∈ ll, l.length ≤ 1048576) : AC Try.prog 135 [v] h [] fun r h' => NX h.length h' r ll := by
  refine ac135 (by simp [p135]) ?_
  simp -implicitDefEqProofs [p135, bslV, r.len]
  have hlt := r.lt
  refine range r135_0 (.app _ _ _) ll.length r.bd (by simp) (by simp) (fun k s h1 => NX h.length h1 (s 3) (ll.take k) ∧ RXX w h1 v ll L) ⟨by simpa using NX.nilV (Nat.le_refl _), r.kp0 (.app _ _ _)⟩ ?_ ?_
  · rintro k s h1 hk hi ⟨x, rr⟩ kp
    obtain ⟨i, o, u, L1, ea, la, ru, hsub⟩ := rr.at hk
    have hge := kp.1
    generalize hs3 : s 3 = v3 at x
    have r2 : RL true EX (h1 ++ [some ⟨[], 2, true⟩]) (.slice (some ⟨h1.length, 0, none⟩) 0 0) [] [h1.length] := by
      have := RL.newN (E := EX) (h := h1) (l := []) (c := 0) (n := 0) rfl (by simp)
      simpa using this
    obtain ⟨T1, u', g1, Lu, e1, q1, k1, t1, l1⟩ := r2.app (L2 := []) (by_ := 16) ((ru.kp0 (.app [] h1 _)).src) (by have := hll _ (List.getElem_mem hk); simp; unfold big; omega) (by omega) (by simp) (by simp)
    simp only [EX_es, List.nil_append] at e1 q1
    have hT : ∀ i ∈ T1, MT [] h i := fun i hi => .inr (by have := t1 i hi; simp at this; omega)
    have gu : ∀ i ∈ Lu, h1.length ≤ i := fun i hi => by have := l1 i hi; simp at this; omega
    have k2 : Kp [] h1 g1 := (Kp.app [] h1 _).trans k1 (by simp)
    obtain ⟨T, v', h3, U, e2, q, t, k3, hu⟩ := x.push k2 q1 gu (by rw [List.length_take]; unfold big; omega) hge
    rw [← take_snoc hk] at q
    have hsz : u'.cells.size = 1 := by rw [← Array.length_toList, q1.cells]; rfl
    simp -implicitDefEqProofs [b135_0, L135_0, hi, hs3, ea, la, bslV_1, bslV, e1, hsz, q1.one, q1.cells, e2]
    exact ⟨hT, fun i hi => .inr (t i hi), q, (rr.kp0 k2).kp k3 fun i hi hn => by have := hlt i hi; have := hu i hn; omega⟩
  · rintro s h1 hi ⟨x, rr⟩ kp
    rw [List.take_length] at x
    simp -implicitDefEqProofs [L135_0]
    exact x
end
end Go.Proofs.Ytpenocegikjpaaa

/- Contracts: copies of machines. -/
set_option linter.unusedSimpArgs false
set_option linter.unusedVariables false
set_option maxHeartbeats 1000000
namespace Go.Proofs.Ytpenocegikjpaaa
open Go.Ab
section
variable {w : Bool} {h : Heap} {M : Mch} {vW vC vM vL vQ : Value} {LW LC LM LL LQ : List Nat}
theorem specCopy_ac (r : RM w h M vW vC vM vL vQ LW LC LM LL LQ) (hl : szM M ≤ 1048576) : AC Try.prog 98 [mval M vW vC vM vL vQ] h [] fun r h' => NM h.length h' r M := by
  have hl1 : M.font.widths.length ≤ 1048576 := by unfold szM szF at hl; omega
  have hl2 : M.font.codes.length ≤ 1048576 := by unfold szM szF at hl; omega
  have hl3 : szXX M.mag ≤ 1048576 := by unfold szM at hl; omega
  have hl4 : M.line.length ≤ 1048576 := by unfold szM at hl; omega
  have hl5 : M.wait.length ≤ 1048576 := by unfold szM at hl; omega
  have ltW := r.rW.lt
  have rW := r.rW
  have ltC := r.rC.lt
  have rC := r.rC
  have ltM := r.rM.lt
  have rM := r.rM
  have ltL := r.rL.lt
  have rL := r.rL
  have ltQ := r.rQ.lt
  have rQ := r.rQ
  have geV : ∀ i ∈ [h.length], h.length ≤ i := by simp
  have ltV : ∀ i ∈ [h.length], i < h.length + 1 := by simp
  have geZ : ∀ i ∈ [h.length + 1], h.length + 1 ≤ i := by simp
  have ltZ : ∀ i ∈ [h.length + 1], i < h.length + 2 := by simp
  refine ac98 (by simp [p98]) ?_
  have k0 : Kp [] h (h ++ [some (⟨[.string M.font.letters, vW, vC, vM, .int .i64 M.spare, .int .i64 M.msr.width, .int .i64 M.msr.thin, .int .i64 M.msr.thick, vL, vQ], 10, true⟩ : AObj), some ⟨[.string ⟨#[]⟩, .slice none 0 0, .slice none 0 0, .slice none 0 0, .int .i64 0, .int .i64 0, .int .i64 0, .int .i64 0, .slice none 0 0, .slice none 0 0], 10, true⟩]) := .app _ _ _
  have bV : hob (h ++ [some (⟨[.string M.font.letters, vW, vC, vM, .int .i64 M.spare, .int .i64 M.msr.width, .int .i64 M.msr.thin, .int .i64 M.msr.thick, vL, vQ], 10, true⟩ : AObj), some ⟨[.string ⟨#[]⟩, .slice none 0 0, .slice none 0 0, .slice none 0 0, .int .i64 0, .int .i64 0, .int .i64 0, .int .i64 0, .slice none 0 0, .slice none 0 0], 10, true⟩]) h.length = some ⟨[.string M.font.letters, vW, vC, vM, .int .i64 M.spare, .int .i64 M.msr.width, .int .i64 M.msr.thin, .int .i64 M.msr.thick, vL, vQ], 10, true⟩ := by simp [hob]
  have bZ : hob (h ++ [some (⟨[.string M.font.letters, vW, vC, vM, .int .i64 M.spare, .int .i64 M.msr.width, .int .i64 M.msr.thin, .int .i64 M.msr.thick, vL, vQ], 10, true⟩ : AObj), some ⟨[.string ⟨#[]⟩, .slice none 0 0, .slice none 0 0, .slice none 0 0, .int .i64 0, .int .i64 0, .int .i64 0, .int .i64 0, .slice none 0 0, .slice none 0 0], 10, true⟩]) (h.length + 1) = some ⟨[.string ⟨#[]⟩, .slice none 0 0, .slice none 0 0, .slice none 0 0, .int .i64 0, .int .i64 0, .int .i64 0, .int .i64 0, .slice none 0 0, .slice none 0 0], 10, true⟩ := by simp [hob]
  have q0 : (h ++ [some (⟨[.string M.font.letters, vW, vC, vM, .int .i64 M.spare, .int .i64 M.msr.width, .int .i64 M.msr.thin, .int .i64 M.msr.thick, vL, vQ], 10, true⟩ : AObj), some ⟨[.string ⟨#[]⟩, .slice none 0 0, .slice none 0 0, .slice none 0 0, .int .i64 0, .int .i64 0, .int .i64 0, .int .i64 0, .slice none 0 0, .slice none 0 0], 10, true⟩]).length = h.length + 2 := by simp
  have lk0 := k0.1
  replace rW := rW.kp0 k0
  replace rC := rC.kp0 k0
  replace rM := rM.kp0 k0
  replace rL := rL.kp0 k0
  replace rQ := rQ.kp0 k0
  simp -implicitDefEqProofs [p98, mval, mcells, rW.one, rC.one, rM.one, rL.one, rQ.one, bslV]
  rw [show h ++ [some (⟨[.string M.font.letters, vW, vC, vM, .int .i64 M.spare, .int .i64 M.msr.width, .int .i64 M.msr.thin, .int .i64 M.msr.thick, vL, vQ], 10, true⟩ : AObj), some ⟨[.string ⟨#[]⟩, .slice none 0 0, .slice none 0 0, .slice none 0 0, .int .i64 0, .int .i64 0, .int .i64 0, .int .i64 0, .slice none 0 0, .slice none 0 0], 10, true⟩, some ⟨[], 1, true⟩] = (h ++ [some (⟨[.string M.font.letters, vW, vC, vM, .int .i64 M.spare, .int .i64 M.msr.width, .int .i64 M.msr.thin, .int .i64 M.msr.thick, vL, vQ], 10, true⟩ : AObj), some ⟨[.string ⟨#[]⟩, .slice none 0 0, .slice none 0 0, .slice none 0 0, .int .i64 0, .int .i64 0, .int .i64 0, .int .i64 0, .slice none 0 0, .slice none 0 0], 10, true⟩]) ++ [some ⟨[], 1, true⟩] by simp, show h.length + 2 = (h ++ [some (⟨[.string M.font.letters, vW, vC, vM, .int .i64 M.spare, .int .i64 M.msr.width, .int .i64 M.msr.thin, .int .i64 M.msr.thick, vL, vQ], 10, true⟩ : AObj), some ⟨[.string ⟨#[]⟩, .slice none 0 0, .slice none 0 0, .slice none 0 0, .int .i64 0, .int .i64 0, .int .i64 0, .int .i64 0, .slice none 0 0, .slice none 0 0], 10, true⟩]).length by simp]
  generalize h ++ [some (⟨[.string M.font.letters, vW, vC, vM, .int .i64 M.spare, .int .i64 M.msr.width, .int .i64 M.msr.thin, .int .i64 M.msr.thick, vL, vQ], 10, true⟩ : AObj), some ⟨[.string ⟨#[]⟩, .slice none 0 0, .slice none 0 0, .slice none 0 0, .int .i64 0, .int .i64 0, .int .i64 0, .int .i64 0, .slice none 0 0, .slice none 0 0], 10, true⟩] = g0 at k0 lk0 q0 rW rC rM rL rQ bV bZ ⊢
  have kpV : Kp [] h g0 := k0
  have c1 : hc1 (g0 ++ [some ⟨[], 1, true⟩]) h.length 1 = some vW := by rw [hc1_hob (hob_kp (.app [] _ _) bV (by simp))]; rfl
  obtain ⟨TW, vW', h1, LW', e1, rW', k1, tW, geW'⟩ := rW.clone (by_ := 8) (by unfold big; omega) (by omega) (fun a _ => EI_one a)
  simp only [EI_es, EX_es] at e1
  have mtW : (∀ i, i ∈ TW → MT [] h i) = True := eq_true (fun i hi => .inr (by have := tW i hi; omega))
  have lk1 := k1.1
  replace rW := rW.kp0 k1
  replace rC := rC.kp0 k1
  replace rM := rM.kp0 k1
  replace rL := rL.kp0 k1
  replace rQ := rQ.kp0 k1
  replace bV := hob_kp k1 bV (by simp)
  replace bZ := hob_kp k1 bZ (by simp)
  have ltW' := rW'.lt
  obtain ⟨h2, e2, bV', k2, n2⟩ := strV_cell (j := 1) bV (by simp) rW'.cells rW'.one
  have lk2 := k2.1
  replace rW := rW.kp k2 (fun i hi hn => by have := geV i hn; have := ltV i hn; have := ltW i hi; omega)
  replace rC := rC.kp k2 (fun i hi hn => by have := geV i hn; have := ltV i hn; have := ltC i hi; omega)
  replace rM := rM.kp k2 (fun i hi hn => by have := geV i hn; have := ltV i hn; have := ltM i hi; omega)
  replace rL := rL.kp k2 (fun i hi hn => by have := geV i hn; have := ltV i hn; have := ltL i hi; omega)
  replace rQ := rQ.kp k2 (fun i hi hn => by have := geV i hn; have := ltV i hn; have := ltQ i hi; omega)
  replace bZ := hob_kp k2 bZ (fun hn => by have := geV _ hn; have := ltV _ hn; omega)
  replace rW' := rW'.kp k2 (fun i hi hn => by have := geV i hn; have := ltV i hn; have := ltW' i hi; have := geW' i hi; omega)
  replace bV : hob h2 h.length = some ⟨[.string M.font.letters, vW', vC, vM, .int .i64 M.spare, .int .i64 M.msr.width, .int .i64 M.msr.thin, .int .i64 M.msr.thick, vL, vQ], 10, true⟩ := bV'
  clear bV'
  have c3 : hc1 (h2 ++ [some ⟨[], 1, true⟩]) h.length 2 = some vC := by rw [hc1_hob (hob_kp (.app [] _ _) bV (by simp))]; rfl
  obtain ⟨TC, vC', h3, LC', e3, rC', k3, tC, geC'⟩ := rC.clone (by_ := 8) (by unfold big; omega) (by omega) (fun a _ => EI_one a)
  simp only [EI_es, EX_es] at e3
  have mtC : (∀ i, i ∈ TC → MT [] h i) = True := eq_true (fun i hi => .inr (by have := tC i hi; omega))
  have lk3 := k3.1
  replace rW := rW.kp0 k3
  replace rC := rC.kp0 k3
  replace rM := rM.kp0 k3
  replace rL := rL.kp0 k3
  replace rQ := rQ.kp0 k3
  replace bZ := hob_kp k3 bZ (by simp)
  replace rW' := rW'.kp0 k3
  replace bV := hob_kp k3 bV (by simp)
  have ltC' := rC'.lt
  obtain ⟨h4, e4, bV', k4, n4⟩ := strV_cell (j := 2) bV (by simp) rC'.cells rC'.one
  have lk4 := k4.1
  replace rW := rW.kp k4 (fun i hi hn => by have := geV i hn; have := ltV i hn; have := ltW i hi; omega)
  replace rC := rC.kp k4 (fun i hi hn => by have := geV i hn; have := ltV i hn; have := ltC i hi; omega)
  replace rM := rM.kp k4 (fun i hi hn => by have := geV i hn; have := ltV i hn; have := ltM i hi; omega)
  replace rL := rL.kp k4 (fun i hi hn => by have := geV i hn; have := ltV i hn; have := ltL i hi; omega)
  replace rQ := rQ.kp k4 (fun i hi hn => by have := geV i hn; have := ltV i hn; have := ltQ i hi; omega)
  replace bZ := hob_kp k4 bZ (fun hn => by have := geV _ hn; have := ltV _ hn; omega)
  replace rW' := rW'.kp k4 (fun i hi hn => by have := geV i hn; have := ltV i hn; have := ltW' i hi; have := geW' i hi; omega)
  replace rC' := rC'.kp k4 (fun i hi hn => by have := geV i hn; have := ltV i hn; have := ltC' i hi; have := geC' i hi; omega)
  replace bV : hob h4 h.length = some ⟨[.string M.font.letters, vW', vC', vM, .int .i64 M.spare, .int .i64 M.msr.width, .int .i64 M.msr.thin, .int .i64 M.msr.thick, vL, vQ], 10, true⟩ := bV'
  clear bV'
  simp -implicitDefEqProofs [c1, e1, e2, c3, e3, e4, bslV, mtW, mtC, hc1_hob bV]
  refine call0 (specCopyMag_ac rM (by unfold szXX at hl3; omega) (fun l hl => by have := szXX_mem hl; omega)) ?_
  rintro vM' h5 ⟨LM', rM', ndM, geM'⟩ k5
  have lk5 := k5.1
  replace rW := rW.kp0 k5
  replace rC := rC.kp0 k5
  replace rM := rM.kp0 k5
  replace rL := rL.kp0 k5
  replace rQ := rQ.kp0 k5
  replace bZ := hob_kp k5 bZ (by simp)
  replace rW' := rW'.kp0 k5
  replace rC' := rC'.kp0 k5
  replace bV := hob_kp k5 bV (by simp)
  have ltM' := rM'.lt
  obtain ⟨h6, e6, bV', k6, n6⟩ := strV_cell (j := 3) bV (by simp) rM'.cells rM'.one
  have lk6 := k6.1
  replace rW := rW.kp k6 (fun i hi hn => by have := geV i hn; have := ltV i hn; have := ltW i hi; omega)
  replace rC := rC.kp k6 (fun i hi hn => by have := geV i hn; have := ltV i hn; have := ltC i hi; omega)
  replace rM := rM.kp k6 (fun i hi hn => by have := geV i hn; have := ltV i hn; have := ltM i hi; omega)
  replace rL := rL.kp k6 (fun i hi hn => by have := geV i hn; have := ltV i hn; have := ltL i hi; omega)
  replace rQ := rQ.kp k6 (fun i hi hn => by have := geV i hn; have := ltV i hn; have := ltQ i hi; omega)
  replace bZ := hob_kp k6 bZ (fun hn => by have := geV _ hn; have := ltV _ hn; omega)
  replace rW' := rW'.kp k6 (fun i hi hn => by have := geV i hn; have := ltV i hn; have := ltW' i hi; have := geW' i hi; omega)
  replace rC' := rC'.kp k6 (fun i hi hn => by have := geV i hn; have := ltV i hn; have := ltC' i hi; have := geC' i hi; omega)
  replace rM' := rM'.kp k6 (fun i hi hn => by have := geV i hn; have := ltV i hn; have := ltM' i hi; have := geM' i hi; omega)
  replace bV : hob h6 h.length = some ⟨[.string M.font.letters, vW', vC', vM', .int .i64 M.spare, .int .i64 M.msr.width, .int .i64 M.msr.thin, .int .i64 M.msr.thick, vL, vQ], 10, true⟩ := bV'
  clear bV'
  have c7 : hc1 (h6 ++ [some ⟨[], 2, true⟩]) h.length 8 = some vL := by rw [hc1_hob (hob_kp (.app [] _ _) bV (by simp))]; rfl
  obtain ⟨TL, vL', h7, LL', e7, rL', k7, tL, geL'⟩ := rL.clone (by_ := 16) (by unfold big; omega) (by omega) (fun a _ => EX_one a)
  simp only [EI_es, EX_es] at e7
  have mtL : (∀ i, i ∈ TL → MT [] h i) = True := eq_true (fun i hi => .inr (by have := tL i hi; omega))
  have lk7 := k7.1
  replace rW := rW.kp0 k7
  replace rC := rC.kp0 k7
  replace rM := rM.kp0 k7
  replace rL := rL.kp0 k7
  replace rQ := rQ.kp0 k7
  replace bZ := hob_kp k7 bZ (by simp)
  replace rW' := rW'.kp0 k7
  replace rC' := rC'.kp0 k7
  replace rM' := rM'.kp0 k7
  replace bV := hob_kp k7 bV (by simp)
  have ltL' := rL'.lt
  obtain ⟨h8, e8, bV', k8, n8⟩ := strV_cell (j := 8) bV (by simp) rL'.cells rL'.one
  have lk8 := k8.1
  replace rW := rW.kp k8 (fun i hi hn => by have := geV i hn; have := ltV i hn; have := ltW i hi; omega)
  replace rC := rC.kp k8 (fun i hi hn => by have := geV i hn; have := ltV i hn; have := ltC i hi; omega)
  replace rM := rM.kp k8 (fun i hi hn => by have := geV i hn; have := ltV i hn; have := ltM i hi; omega)
  replace rL := rL.kp k8 (fun i hi hn => by have := geV i hn; have := ltV i hn; have := ltL i hi; omega)
  replace rQ := rQ.kp k8 (fun i hi hn => by have := geV i hn; have := ltV i hn; have := ltQ i hi; omega)
  replace bZ := hob_kp k8 bZ (fun hn => by have := geV _ hn; have := ltV _ hn; omega)
  replace rW' := rW'.kp k8 (fun i hi hn => by have := geV i hn; have := ltV i hn; have := ltW' i hi; have := geW' i hi; omega)
  replace rC' := rC'.kp k8 (fun i hi hn => by have := geV i hn; have := ltV i hn; have := ltC' i hi; have := geC' i hi; omega)
  replace rM' := rM'.kp k8 (fun i hi hn => by have := geV i hn; have := ltV i hn; have := ltM' i hi; have := geM' i hi; omega)
  replace rL' := rL'.kp k8 (fun i hi hn => by have := geV i hn; have := ltV i hn; have := ltL' i hi; have := geL' i hi; omega)
  replace bV : hob h8 h.length = some ⟨[.string M.font.letters, vW', vC', vM', .int .i64 M.spare, .int .i64 M.msr.width, .int .i64 M.msr.thin, .int .i64 M.msr.thick, vL', vQ], 10, true⟩ := bV'
  clear bV'
  have c9 : hc1 (h8 ++ [some ⟨[], 2, true⟩]) h.length 9 = some vQ := by rw [hc1_hob (hob_kp (.app [] _ _) bV (by simp))]; rfl
  obtain ⟨TQ, vQ', h9, LQ', e9, rQ', k9, tQ, geQ'⟩ := rQ.clone (by_ := 16) (by unfold big; omega) (by omega) (fun a _ => EX_one a)
  simp only [EI_es, EX_es] at e9
  have mtQ : (∀ i, i ∈ TQ → MT [] h i) = True := eq_true (fun i hi => .inr (by have := tQ i hi; omega))
  have lk9 := k9.1
  replace rW := rW.kp0 k9
  replace rC := rC.kp0 k9
  replace rM := rM.kp0 k9
  replace rL := rL.kp0 k9
  replace rQ := rQ.kp0 k9
  replace bZ := hob_kp k9 bZ (by simp)
  replace rW' := rW'.kp0 k9
  replace rC' := rC'.kp0 k9
  replace rM' := rM'.kp0 k9
  replace rL' := rL'.kp0 k9
  replace bV := hob_kp k9 bV (by simp)
  have ltQ' := rQ'.lt
  obtain ⟨h10, e10, bV', k10, n10⟩ := strV_cell (j := 9) bV (by simp) rQ'.cells rQ'.one
  have lk10 := k10.1
  replace rW := rW.kp k10 (fun i hi hn => by have := geV i hn; have := ltV i hn; have := ltW i hi; omega)
  replace rC := rC.kp k10 (fun i hi hn => by have := geV i hn; have := ltV i hn; have := ltC i hi; omega)
  replace rM := rM.kp k10 (fun i hi hn => by have := geV i hn; have := ltV i hn; have := ltM i hi; omega)
  replace rL := rL.kp k10 (fun i hi hn => by have := geV i hn; have := ltV i hn; have := ltL i hi; omega)
  replace rQ := rQ.kp k10 (fun i hi hn => by have := geV i hn; have := ltV i hn; have := ltQ i hi; omega)
  replace bZ := hob_kp k10 bZ (fun hn => by have := geV _ hn; have := ltV _ hn; omega)
  replace rW' := rW'.kp k10 (fun i hi hn => by have := geV i hn; have := ltV i hn; have := ltW' i hi; have := geW' i hi; omega)
  replace rC' := rC'.kp k10 (fun i hi hn => by have := geV i hn; have := ltV i hn; have := ltC' i hi; have := geC' i hi; omega)
  replace rM' := rM'.kp k10 (fun i hi hn => by have := geV i hn; have := ltV i hn; have := ltM' i hi; have := geM' i hi; omega)
  replace rL' := rL'.kp k10 (fun i hi hn => by have := geV i hn; have := ltV i hn; have := ltL' i hi; have := geL' i hi; omega)
  replace rQ' := rQ'.kp k10 (fun i hi hn => by have := geV i hn; have := ltV i hn; have := ltQ' i hi; have := geQ' i hi; omega)
  replace bV : hob h10 h.length = some ⟨[.string M.font.letters, vW', vC', vM', .int .i64 M.spare, .int .i64 M.msr.width, .int .i64 M.msr.thin, .int .i64 M.msr.thick, vL', vQ'], 10, true⟩ := bV'
  clear bV'
  have hone : oneAll [.string M.font.letters, vW', vC', vM', .int .i64 M.spare, .int .i64 M.msr.width, .int .i64 M.msr.thin, .int .i64 M.msr.thick, vL', vQ'] = true := by simp [rW'.one, rC'.one, rM'.one, rL'.one, rQ'.one]
  have hcs0 := hcs_full bV rfl
  obtain ⟨h11, e11, bZ', k11, n11⟩ := strV_full bZ rfl (l := [.string M.font.letters, vW', vC', vM', .int .i64 M.spare, .int .i64 M.msr.width, .int .i64 M.msr.thin, .int .i64 M.msr.thick, vL', vQ']) rfl hone
  have lk11 := k11.1
  replace rW := rW.kp k11 (fun i hi hn => by have := geZ i hn; have := ltZ i hn; have := ltW i hi; omega)
  replace rC := rC.kp k11 (fun i hi hn => by have := geZ i hn; have := ltZ i hn; have := ltC i hi; omega)
  replace rM := rM.kp k11 (fun i hi hn => by have := geZ i hn; have := ltZ i hn; have := ltM i hi; omega)
  replace rL := rL.kp k11 (fun i hi hn => by have := geZ i hn; have := ltZ i hn; have := ltL i hi; omega)
  replace rQ := rQ.kp k11 (fun i hi hn => by have := geZ i hn; have := ltZ i hn; have := ltQ i hi; omega)
  replace rW' := rW'.kp k11 (fun i hi hn => by have := geZ i hn; have := ltZ i hn; have := ltW' i hi; have := geW' i hi; omega)
  replace rC' := rC'.kp k11 (fun i hi hn => by have := geZ i hn; have := ltZ i hn; have := ltC' i hi; have := geC' i hi; omega)
  replace rM' := rM'.kp k11 (fun i hi hn => by have := geZ i hn; have := ltZ i hn; have := ltM' i hi; have := geM' i hi; omega)
  replace rL' := rL'.kp k11 (fun i hi hn => by have := geZ i hn; have := ltZ i hn; have := ltL' i hi; have := geL' i hi; omega)
  replace rQ' := rQ'.kp k11 (fun i hi hn => by have := geZ i hn; have := ltZ i hn; have := ltQ' i hi; have := geQ' i hi; omega)
  replace bV := hob_kp k11 bV (fun hn => by have := geZ _ hn; have := ltZ _ hn; omega)
  have hcs1 := hcs_full bZ' rfl
  simp -implicitDefEqProofs [e6, c7, e7, e8, c9, e9, e10, bslV, mtL, mtQ, hcs0, e11, hcs1, resA1]
  refine ⟨_, _, _, _, _, LW', LC', LM', LL', LQ', rfl, ⟨rW', rC', rM', rL', rQ'⟩, ?_, ?_⟩
  · refine nodup_app (nodup_app (nodup_app (nodup_app rW'.nd rC'.nd ltW' (fun i hi => by have := geC' i hi; omega)) ndM (n := h4.length) (fun i hi => ?_) (fun i hi => geM' i hi)) rL'.nd (n := h6.length) (fun i hi => ?_) (fun i hi => geL' i hi)) rQ'.nd (n := h8.length) (fun i hi => ?_) (fun i hi => geQ' i hi)
    all_goals simp only [List.mem_append] at hi
    · rcases hi with hi | hi
      · have := ltW' i hi; omega
      · have := ltC' i hi; omega
    · rcases hi with (hi | hi) | hi
      · have := ltW' i hi; omega
      · have := ltC' i hi; omega
      · have := ltM' i hi; omega
    · rcases hi with ((hi | hi) | hi) | hi
      · have := ltW' i hi; omega
      · have := ltC' i hi; omega
      · have := ltM' i hi; omega
      · have := ltL' i hi; omega
  · intro i hi
    simp only [List.mem_append] at hi
    rcases hi with (((hi | hi) | hi) | hi) | hi
    · have := geW' i hi; omega
    · have := geC' i hi; omega
    · have := geM' i hi; omega
    · have := geL' i hi; omega
    · have := geQ' i hi; omega
theorem implCopy_ac (r : RM w h M vW vC vM vL vQ LW LC LM LL LQ) (hl : szM M ≤ 1048576) : AC Try.prog 63 [mval M vW vC vM vL vQ] h [] fun r h' => NM h.length h' r M := by
  have hl1 : M.font.widths.length ≤ 1048576 := by unfold szM szF at hl; omega
  have hl2 : M.font.codes.length ≤ 1048576 := by unfold szM szF at hl; omega
  have hl3 : szXX M.mag ≤ 1048576 := by unfold szM at hl; omega
  have hl4 : M.line.length ≤ 1048576 := by unfold szM at hl; omega
  have hl5 : M.wait.length ≤ 1048576 := by unfold szM at hl; omega
  have ltW := r.rW.lt
  have rW := r.rW
  have ltC := r.rC.lt
  have rC := r.rC
  have ltM := r.rM.lt
  have rM := r.rM
  have ltL := r.rL.lt
  have rL := r.rL
  have ltQ := r.rQ.lt
  have rQ := r.rQ
  have geV : ∀ i ∈ [h.length], h.length ≤ i := by simp
  have ltV : ∀ i ∈ [h.length], i < h.length + 1 := by simp
  have geZ : ∀ i ∈ [h.length + 1], h.length + 1 ≤ i := by simp
  have ltZ : ∀ i ∈ [h.length + 1], i < h.length + 2 := by simp
  refine ac63 (by simp [p63]) ?_
  have k0 : Kp [] h (h ++ [some (⟨[.string M.font.letters, vW, vC, vM, .int .i64 M.spare, .int .i64 M.msr.width, .int .i64 M.msr.thin, .int .i64 M.msr.thick, vL, vQ], 10, true⟩ : AObj), some ⟨[.string ⟨#[]⟩, .slice none 0 0, .slice none 0 0, .slice none 0 0, .int .i64 0, .int .i64 0, .int .i64 0, .int .i64 0, .slice none 0 0, .slice none 0 0], 10, true⟩]) := .app _ _ _
  have bV : hob (h ++ [some (⟨[.string M.font.letters, vW, vC, vM, .int .i64 M.spare, .int .i64 M.msr.width, .int .i64 M.msr.thin, .int .i64 M.msr.thick, vL, vQ], 10, true⟩ : AObj), some ⟨[.string ⟨#[]⟩, .slice none 0 0, .slice none 0 0, .slice none 0 0, .int .i64 0, .int .i64 0, .int .i64 0, .int .i64 0, .slice none 0 0, .slice none 0 0], 10, true⟩]) h.length = some ⟨[.string M.font.letters, vW, vC, vM, .int .i64 M.spare, .int .i64 M.msr.width, .int .i64 M.msr.thin, .int .i64 M.msr.thick, vL, vQ], 10, true⟩ := by simp [hob]
  have bZ : hob (h ++ [some (⟨[.string M.font.letters, vW, vC, vM, .int .i64 M.spare, .int .i64 M.msr.width, .int .i64 M.msr.thin, .int .i64 M.msr.thick, vL, vQ], 10, true⟩ : AObj), some ⟨[.string ⟨#[]⟩, .slice none 0 0, .slice none 0 0, .slice none 0 0, .int .i64 0, .int .i64 0, .int .i64 0, .int .i64 0, .slice none 0 0, .slice none 0 0], 10, true⟩]) (h.length + 1) = some ⟨[.string ⟨#[]⟩, .slice none 0 0, .slice none 0 0, .slice none 0 0, .int .i64 0, .int .i64 0, .int .i64 0, .int .i64 0, .slice none 0 0, .slice none 0 0], 10, true⟩ := by simp [hob]
  have q0 : (h ++ [some (⟨[.string M.font.letters, vW, vC, vM, .int .i64 M.spare, .int .i64 M.msr.width, .int .i64 M.msr.thin, .int .i64 M.msr.thick, vL, vQ], 10, true⟩ : AObj), some ⟨[.string ⟨#[]⟩, .slice none 0 0, .slice none 0 0, .slice none 0 0, .int .i64 0, .int .i64 0, .int .i64 0, .int .i64 0, .slice none 0 0, .slice none 0 0], 10, true⟩]).length = h.length + 2 := by simp
  have lk0 := k0.1
  replace rW := rW.kp0 k0
  replace rC := rC.kp0 k0
  replace rM := rM.kp0 k0
  replace rL := rL.kp0 k0
  replace rQ := rQ.kp0 k0
  simp -implicitDefEqProofs [p63, mval, mcells, rW.one, rC.one, rM.one, rL.one, rQ.one, bslV]
  generalize h ++ [some (⟨[.string M.font.letters, vW, vC, vM, .int .i64 M.spare, .int .i64 M.msr.width, .int .i64 M.msr.thin, .int .i64 M.msr.thick, vL, vQ], 10, true⟩ : AObj), some ⟨[.string ⟨#[]⟩, .slice none 0 0, .slice none 0 0, .slice none 0 0, .int .i64 0, .int .i64 0, .int .i64 0, .int .i64 0, .slice none 0 0, .slice none 0 0], 10, true⟩] = g0 at k0 lk0 q0 rW rC rM rL rQ bV bZ ⊢
  have kpV : Kp [] h g0 := k0
  refine call0 (cloneI_ac rW hl1) ?_
  rintro vW' h1 ⟨LW', rW', _, geW'⟩ k1
  have lk1 := k1.1
  replace rW := rW.kp0 k1
  replace rC := rC.kp0 k1
  replace rM := rM.kp0 k1
  replace rL := rL.kp0 k1
  replace rQ := rQ.kp0 k1
  replace bV := hob_kp k1 bV (by simp)
  replace bZ := hob_kp k1 bZ (by simp)
  have ltW' := rW'.lt
  simp -implicitDefEqProofs
  refine call0 (cloneI_ac rC hl2) ?_
  rintro vC' h2 ⟨LC', rC', _, geC'⟩ k2
  have lk2 := k2.1
  replace rW := rW.kp0 k2
  replace rC := rC.kp0 k2
  replace rM := rM.kp0 k2
  replace rL := rL.kp0 k2
  replace rQ := rQ.kp0 k2
  replace bV := hob_kp k2 bV (by simp)
  replace bZ := hob_kp k2 bZ (by simp)
  replace rW' := rW'.kp0 k2
  have ltC' := rC'.lt
  obtain ⟨h3, e3, bV', k3, n3⟩ := strV_cell (j := 1) bV (by simp) rW'.cells rW'.one
  have lk3 := k3.1
  replace rW := rW.kp k3 (fun i hi hn => by have := geV i hn; have := ltV i hn; have := ltW i hi; omega)
  replace rC := rC.kp k3 (fun i hi hn => by have := geV i hn; have := ltV i hn; have := ltC i hi; omega)
  replace rM := rM.kp k3 (fun i hi hn => by have := geV i hn; have := ltV i hn; have := ltM i hi; omega)
  replace rL := rL.kp k3 (fun i hi hn => by have := geV i hn; have := ltV i hn; have := ltL i hi; omega)
  replace rQ := rQ.kp k3 (fun i hi hn => by have := geV i hn; have := ltV i hn; have := ltQ i hi; omega)
  replace bZ := hob_kp k3 bZ (fun hn => by have := geV _ hn; have := ltV _ hn; omega)
  replace rW' := rW'.kp k3 (fun i hi hn => by have := geV i hn; have := ltV i hn; have := ltW' i hi; have := geW' i hi; omega)
  replace rC' := rC'.kp k3 (fun i hi hn => by have := geV i hn; have := ltV i hn; have := ltC' i hi; have := geC' i hi; omega)
  replace bV : hob h3 h.length = some ⟨[.string M.font.letters, vW', vC, vM, .int .i64 M.spare, .int .i64 M.msr.width, .int .i64 M.msr.thin, .int .i64 M.msr.thick, vL, vQ], 10, true⟩ := bV'
  clear bV'
  obtain ⟨h4, e4, bV', k4, n4⟩ := strV_cell (j := 2) bV (by simp) rC'.cells rC'.one
  have lk4 := k4.1
  replace rW := rW.kp k4 (fun i hi hn => by have := geV i hn; have := ltV i hn; have := ltW i hi; omega)
  replace rC := rC.kp k4 (fun i hi hn => by have := geV i hn; have := ltV i hn; have := ltC i hi; omega)
  replace rM := rM.kp k4 (fun i hi hn => by have := geV i hn; have := ltV i hn; have := ltM i hi; omega)
  replace rL := rL.kp k4 (fun i hi hn => by have := geV i hn; have := ltV i hn; have := ltL i hi; omega)
  replace rQ := rQ.kp k4 (fun i hi hn => by have := geV i hn; have := ltV i hn; have := ltQ i hi; omega)
  replace bZ := hob_kp k4 bZ (fun hn => by have := geV _ hn; have := ltV _ hn; omega)
  replace rW' := rW'.kp k4 (fun i hi hn => by have := geV i hn; have := ltV i hn; have := ltW' i hi; have := geW' i hi; omega)
  replace rC' := rC'.kp k4 (fun i hi hn => by have := geV i hn; have := ltV i hn; have := ltC' i hi; have := geC' i hi; omega)
  replace bV : hob h4 h.length = some ⟨[.string M.font.letters, vW', vC', vM, .int .i64 M.spare, .int .i64 M.msr.width, .int .i64 M.msr.thin, .int .i64 M.msr.thick, vL, vQ], 10, true⟩ := bV'
  clear bV'
  simp -implicitDefEqProofs [e3, e4, hc1_hob bV]
  refine call0 (implCopyMag_ac rM (by unfold szXX at hl3; omega) (fun l hl => by have := szXX_mem hl; omega)) ?_
  rintro vM' h5 ⟨LM', rM', ndM, geM'⟩ k5
  have lk5 := k5.1
  replace rW := rW.kp0 k5
  replace rC := rC.kp0 k5
  replace rM := rM.kp0 k5
  replace rL := rL.kp0 k5
  replace rQ := rQ.kp0 k5
  replace bZ := hob_kp k5 bZ (by simp)
  replace rW' := rW'.kp0 k5
  replace rC' := rC'.kp0 k5
  replace bV := hob_kp k5 bV (by simp)
  have ltM' := rM'.lt
  obtain ⟨h6, e6, bV', k6, n6⟩ := strV_cell (j := 3) bV (by simp) rM'.cells rM'.one
  have lk6 := k6.1
  replace rW := rW.kp k6 (fun i hi hn => by have := geV i hn; have := ltV i hn; have := ltW i hi; omega)
  replace rC := rC.kp k6 (fun i hi hn => by have := geV i hn; have := ltV i hn; have := ltC i hi; omega)
  replace rM := rM.kp k6 (fun i hi hn => by have := geV i hn; have := ltV i hn; have := ltM i hi; omega)
  replace rL := rL.kp k6 (fun i hi hn => by have := geV i hn; have := ltV i hn; have := ltL i hi; omega)
  replace rQ := rQ.kp k6 (fun i hi hn => by have := geV i hn; have := ltV i hn; have := ltQ i hi; omega)
  replace bZ := hob_kp k6 bZ (fun hn => by have := geV _ hn; have := ltV _ hn; omega)
  replace rW' := rW'.kp k6 (fun i hi hn => by have := geV i hn; have := ltV i hn; have := ltW' i hi; have := geW' i hi; omega)
  replace rC' := rC'.kp k6 (fun i hi hn => by have := geV i hn; have := ltV i hn; have := ltC' i hi; have := geC' i hi; omega)
  replace rM' := rM'.kp k6 (fun i hi hn => by have := geV i hn; have := ltV i hn; have := ltM' i hi; have := geM' i hi; omega)
  replace bV : hob h6 h.length = some ⟨[.string M.font.letters, vW', vC', vM', .int .i64 M.spare, .int .i64 M.msr.width, .int .i64 M.msr.thin, .int .i64 M.msr.thick, vL, vQ], 10, true⟩ := bV'
  clear bV'
  simp -implicitDefEqProofs [e6, hc1_hob bV]
  refine call0 (cloneX_ac rL hl4) ?_
  rintro vL' h7 ⟨LL', rL', _, geL'⟩ k7
  have lk7 := k7.1
  replace rW := rW.kp0 k7
  replace rC := rC.kp0 k7
  replace rM := rM.kp0 k7
  replace rL := rL.kp0 k7
  replace rQ := rQ.kp0 k7
  replace bZ := hob_kp k7 bZ (by simp)
  replace rW' := rW'.kp0 k7
  replace rC' := rC'.kp0 k7
  replace rM' := rM'.kp0 k7
  replace bV := hob_kp k7 bV (by simp)
  have ltL' := rL'.lt
  simp -implicitDefEqProofs
  refine call0 (cloneX_ac rQ hl5) ?_
  rintro vQ' h8 ⟨LQ', rQ', _, geQ'⟩ k8
  have lk8 := k8.1
  replace rW := rW.kp0 k8
  replace rC := rC.kp0 k8
  replace rM := rM.kp0 k8
  replace rL := rL.kp0 k8
  replace rQ := rQ.kp0 k8
  replace bZ := hob_kp k8 bZ (by simp)
  replace rW' := rW'.kp0 k8
  replace rC' := rC'.kp0 k8
  replace rM' := rM'.kp0 k8
  replace bV := hob_kp k8 bV (by simp)
  replace rL' := rL'.kp0 k8
  have ltQ' := rQ'.lt
  obtain ⟨h9, e9, bV', k9, n9⟩ := strV_cell (j := 8) bV (by simp) rL'.cells rL'.one
  have lk9 := k9.1
  replace rW := rW.kp k9 (fun i hi hn => by have := geV i hn; have := ltV i hn; have := ltW i hi; omega)
  replace rC := rC.kp k9 (fun i hi hn => by have := geV i hn; have := ltV i hn; have := ltC i hi; omega)
  replace rM := rM.kp k9 (fun i hi hn => by have := geV i hn; have := ltV i hn; have := ltM i hi; omega)
  replace rL := rL.kp k9 (fun i hi hn => by have := geV i hn; have := ltV i hn; have := ltL i hi; omega)
  replace rQ := rQ.kp k9 (fun i hi hn => by have := geV i hn; have := ltV i hn; have := ltQ i hi; omega)
  replace bZ := hob_kp k9 bZ (fun hn => by have := geV _ hn; have := ltV _ hn; omega)
  replace rW' := rW'.kp k9 (fun i hi hn => by have := geV i hn; have := ltV i hn; have := ltW' i hi; have := geW' i hi; omega)
  replace rC' := rC'.kp k9 (fun i hi hn => by have := geV i hn; have := ltV i hn; have := ltC' i hi; have := geC' i hi; omega)
  replace rM' := rM'.kp k9 (fun i hi hn => by have := geV i hn; have := ltV i hn; have := ltM' i hi; have := geM' i hi; omega)
  replace rL' := rL'.kp k9 (fun i hi hn => by have := geV i hn; have := ltV i hn; have := ltL' i hi; have := geL' i hi; omega)
  replace rQ' := rQ'.kp k9 (fun i hi hn => by have := geV i hn; have := ltV i hn; have := ltQ' i hi; have := geQ' i hi; omega)
  replace bV : hob h9 h.length = some ⟨[.string M.font.letters, vW', vC', vM', .int .i64 M.spare, .int .i64 M.msr.width, .int .i64 M.msr.thin, .int .i64 M.msr.thick, vL', vQ], 10, true⟩ := bV'
  clear bV'
  obtain ⟨h10, e10, bV', k10, n10⟩ := strV_cell (j := 9) bV (by simp) rQ'.cells rQ'.one
  have lk10 := k10.1
  replace rW := rW.kp k10 (fun i hi hn => by have := geV i hn; have := ltV i hn; have := ltW i hi; omega)
  replace rC := rC.kp k10 (fun i hi hn => by have := geV i hn; have := ltV i hn; have := ltC i hi; omega)
  replace rM := rM.kp k10 (fun i hi hn => by have := geV i hn; have := ltV i hn; have := ltM i hi; omega)
  replace rL := rL.kp k10 (fun i hi hn => by have := geV i hn; have := ltV i hn; have := ltL i hi; omega)
  replace rQ := rQ.kp k10 (fun i hi hn => by have := geV i hn; have := ltV i hn; have := ltQ i hi; omega)
  replace bZ := hob_kp k10 bZ (fun hn => by have := geV _ hn; have := ltV _ hn; omega)
  replace rW' := rW'.kp k10 (fun i hi hn => by have := geV i hn; have := ltV i hn; have := ltW' i hi; have := geW' i hi; omega)
  replace rC' := rC'.kp k10 (fun i hi hn => by have := geV i hn; have := ltV i hn; have := ltC' i hi; have := geC' i hi; omega)
  replace rM' := rM'.kp k10 (fun i hi hn => by have := geV i hn; have := ltV i hn; have := ltM' i hi; have := geM' i hi; omega)
  replace rL' := rL'.kp k10 (fun i hi hn => by have := geV i hn; have := ltV i hn; have := ltL' i hi; have := geL' i hi; omega)
  replace rQ' := rQ'.kp k10 (fun i hi hn => by have := geV i hn; have := ltV i hn; have := ltQ' i hi; have := geQ' i hi; omega)
  replace bV : hob h10 h.length = some ⟨[.string M.font.letters, vW', vC', vM', .int .i64 M.spare, .int .i64 M.msr.width, .int .i64 M.msr.thin, .int .i64 M.msr.thick, vL', vQ'], 10, true⟩ := bV'
  clear bV'
  have hone : oneAll [.string M.font.letters, vW', vC', vM', .int .i64 M.spare, .int .i64 M.msr.width, .int .i64 M.msr.thin, .int .i64 M.msr.thick, vL', vQ'] = true := by simp [rW'.one, rC'.one, rM'.one, rL'.one, rQ'.one]
  have hcs0 := hcs_full bV rfl
  obtain ⟨h11, e11, bZ', k11, n11⟩ := strV_full bZ rfl (l := [.string M.font.letters, vW', vC', vM', .int .i64 M.spare, .int .i64 M.msr.width, .int .i64 M.msr.thin, .int .i64 M.msr.thick, vL', vQ']) rfl hone
  have lk11 := k11.1
  replace rW := rW.kp k11 (fun i hi hn => by have := geZ i hn; have := ltZ i hn; have := ltW i hi; omega)
  replace rC := rC.kp k11 (fun i hi hn => by have := geZ i hn; have := ltZ i hn; have := ltC i hi; omega)
  replace rM := rM.kp k11 (fun i hi hn => by have := geZ i hn; have := ltZ i hn; have := ltM i hi; omega)
  replace rL := rL.kp k11 (fun i hi hn => by have := geZ i hn; have := ltZ i hn; have := ltL i hi; omega)
  replace rQ := rQ.kp k11 (fun i hi hn => by have := geZ i hn; have := ltZ i hn; have := ltQ i hi; omega)
  replace rW' := rW'.kp k11 (fun i hi hn => by have := geZ i hn; have := ltZ i hn; have := ltW' i hi; have := geW' i hi; omega)
  replace rC' := rC'.kp k11 (fun i hi hn => by have := geZ i hn; have := ltZ i hn; have := ltC' i hi; have := geC' i hi; omega)
  replace rM' := rM'.kp k11 (fun i hi hn => by have := geZ i hn; have := ltZ i hn; have := ltM' i hi; have := geM' i hi; omega)
  replace rL' := rL'.kp k11 (fun i hi hn => by have := geZ i hn; have := ltZ i hn; have := ltL' i hi; have := geL' i hi; omega)
  replace rQ' := rQ'.kp k11 (fun i hi hn => by have := geZ i hn; have := ltZ i hn; have := ltQ' i hi; have := geQ' i hi; omega)
  replace bV := hob_kp k11 bV (fun hn => by have := geZ _ hn; have := ltZ _ hn; omega)
  have hcs1 := hcs_full bZ' rfl
  simp -implicitDefEqProofs [e9, e10, hcs0, e11, hcs1, resA1]
  refine ⟨_, _, _, _, _, LW', LC', LM', LL', LQ', rfl, ⟨rW', rC', rM', rL', rQ'⟩, ?_, ?_⟩
  · refine nodup_app (nodup_app (nodup_app (nodup_app rW'.nd rC'.nd ltW' (fun i hi => by have := geC' i hi; omega)) ndM (n := h4.length) (fun i hi => ?_) (fun i hi => geM' i hi)) rL'.nd (n := h6.length) (fun i hi => ?_) (fun i hi => geL' i hi)) rQ'.nd (n := h7.length) (fun i hi => ?_) (fun i hi => geQ' i hi)
    all_goals simp only [List.mem_append] at hi
    · rcases hi with hi | hi
      · have := ltW' i hi; omega
      · have := ltC' i hi; omega
    · rcases hi with (hi | hi) | hi
      · have := ltW' i hi; omega
      · have := ltC' i hi; omega
      · have := ltM' i hi; omega
    · rcases hi with ((hi | hi) | hi) | hi
      · have := ltW' i hi; omega
      · have := ltC' i hi; omega
      · have := ltM' i hi; omega
      · have := ltL' i hi; omega
  · intro i hi
    simp only [List.mem_append] at hi
    rcases hi with (((hi | hi) | hi) | hi) | hi
    · have := geW' i hi; omega
    · have := geC' i hi; omega
    · have := geM' i hi; omega
    · have := geL' i hi; omega
    · have := geQ' i hi; omega
end
end Go.Proofs.Ytpenocegikjpaaa

/- Contracts: a matrix dropped into a magazine. -/
set_option linter.unusedSimpArgs false
set_option linter.unusedVariables false
set_option maxHeartbeats 1000000
namespace Go.Proofs.Ytpenocegikjpaaa
open Go.Ab
/-- A matrix falls into its channel. -/
def dropM (F : Fnt) (m : List (List Mx)) (x : Mx) : Option (List (List Mx) × Nat) :=
  if magB F m = true ∧ mxB F x = true ∧ (m.getD (fallN F.codes x.2) []).length ≠ 20 then some (m.set (fallN F.codes x.2) (m.getD (fallN F.codes x.2) [] ++ [x]), fallN F.codes x.2) else none
theorem fall_lt {F : Fnt} {m : List (List Mx)} {x : Mx} (hm : magB F m = true) (hx : mxB F x = true) : fallN F.codes x.2 < m.length := by
  obtain ⟨n1, n2, n3, n4⟩ := fontB_n (magB_fn hm)
  obtain ⟨m1, m2, m3⟩ := magB_mem hm
  simp only [mxB, Bool.and_eq_true, decide_eq_true_eq] at hx
  obtain ⟨⟨⟨h1, h2⟩, h3⟩, h4⟩ := hx
  have hq : x.1.toNat < F.codes.length := by omega
  have : F.codes.findIdx (partB x.2) < F.codes.length := by
    rw [List.findIdx_lt_length]
    refine ⟨F.codes[x.1.toNat], List.getElem_mem hq, ?_⟩
    rw [List.getD_eq_getElem?_getD, List.getElem?_eq_getElem hq] at h4
    exact h4
  unfold fallN
  omega
/-- What comes of it: the rows in memory of their own, the channel, whether. -/
def DropR (n : Nat) (o : Option (List (List Mx) × Nat)) (r : Value) (h' : Heap) : Prop := match o with
  | none => r = .tuple #[.slice none 0 0, .int .i64 0, .bool false]
  | some (m', i) => ∃ v, r = .tuple #[v, .int .i64 i, .bool true] ∧ NX n h' v m'
section
variable {w w' : Bool} {h : Heap} {F : Fnt} {vW vC vM : Value} {LW LC LM : List Nat} {m : List (List Mx)}
theorem specDrop_ac (r : RF w h F vW vC LW LC) (rm : RXX w' h vM m LM) (x : Mx) :
    AC Try.prog 109 [fval F vW vC, vM, .agg #[.int .i64 x.1, .int .i64 x.2]] h [] fun r h' => DropR h.length (dropM F m x) r h' := by
  refine ac109 (by simp [p109]) ?_
  simp -implicitDefEqProofs [p109, fval, fcells, r.rW.one, r.rC.one]
  refine call1 (specMagOk_ac (r.kp0 (.app _ _ _)) (rm.kp0 (.app _ _ _))) ?_
  cases hm : magB F m
  · simp -implicitDefEqProofs [resA_2, DropR, dropM, hm]
  obtain ⟨m1, m2, m3⟩ := magB_mem hm
  obtain ⟨n1, n2, n3, n4⟩ := fontB_n (magB_fn hm)
  simp -implicitDefEqProofs
  refine call1 (l2Matrix_ac (magB_fn hm) (r.kp0 (.app _ _ _)) _ _) ?_
  cases hx : mxB F (x.1, x.2)
  · simp -implicitDefEqProofs [resA_2, DropR, dropM, hm, hx]
  have hx' : mxB F x = true := hx
  have hf := fall_lt hm hx'
  have hd : dropM F m x = if m[fallN F.codes x.2].length ≠ 20 then some (m.set (fallN F.codes x.2) (m[fallN F.codes x.2] ++ [x]), fallN F.codes x.2) else none := by
    unfold dropM
    rw [List.getD_eq_getElem?_getD, List.getElem?_eq_getElem hf, Option.getD_some]
    simp only [hm, hx', true_and]
  rw [hd]
  simp -implicitDefEqProofs
  refine call1 (l1Fall_ac (r.rC.kp0 (.app _ _ _)) _) ?_
  generalize fallN F.codes x.2 = q at hf ⊢
  have kb : Kp [] h (h ++ [some ⟨[.string F.letters, vW, vC], 3, true⟩, some ⟨[.int .i64 x.1, .int .i64 x.2], 2, true⟩]) := .app [] h _
  have hcs : hcs (h ++ [some ⟨[.string F.letters, vW, vC], 3, true⟩, some ⟨[.int .i64 x.1, .int .i64 x.2], 2, true⟩]) (h.length + 1) 0 2 = some [.int .i64 x.1, .int .i64 x.2] := by simp
  have rm1 := rm.kp0 kb
  have kl := kb.1
  obtain ⟨i, o, u, L1, ea, la, ru, _⟩ := rm1.at hf
  by_cases h20 : m[q].length = 20
  · simp -implicitDefEqProofs [ea, la, ru.len, h20, resA_2, DropR]
  have h20' : ¬ ((m[q].length : Int) = 20) := by omega
  simp -implicitDefEqProofs [ea, la, ru.len, h20', h20]
  generalize h ++ [some (⟨[.string F.letters, vW, vC], 3, true⟩ : AObj), some ⟨[.int .i64 x.1, .int .i64 x.2], 2, true⟩] = g at kb hcs rm1 kl ⊢
  refine call0 (specCopyMag_ac rm1 (by omega) (fun l hl => by have := m2 l hl; omega)) ?_
  rintro vX g1 nx k1
  have nx' : NX h.length g1 vX m := by
    obtain ⟨L, a, b, c⟩ := nx
    exact ⟨L, a, b, fun i hi => by have := c i hi; omega⟩
  have hcs1 := hcs_kp0 k1 hcs
  obtain ⟨j, p, t, Lt, eb, lb, rt, gt, gj, jl, jn, put⟩ := nx'.put hf
  have hq20 := m2 _ (List.getElem_mem hf)
  obtain ⟨T, u', g2, L2, e1, q2, k2, t2, l2, n2', lt2⟩ := rt.app1 (by_ := 16) x (by unfold big; omega) (by omega) EX_one
  simp only [EX_es, EX_e] at e1
  obtain ⟨g3, e3, nx3, k3⟩ := put g2 u' _ L2 k2 q2 (fun i hi => .inr (l2 i hi))
  have mtT : (∀ i, i ∈ T → MT [] h i) = True := eq_true (fun i hi => .inr (gt i (t2 i hi)))
  have mtj : MT [] h j := .inr gj
  simp -implicitDefEqProofs [eb, lb, hcs1, e1, e3, mtT, mtj, resA_2, DropR]
  exact nx3
theorem implDrop_ac (r : RF w h F vW vC LW LC) (rm : RXX w' h vM m LM) (x : Mx) :
    AC Try.prog 20 [fval F vW vC, vM, .agg #[.int .i64 x.1, .int .i64 x.2]] h [] fun r h' => DropR h.length (dropM F m x) r h' := by
  refine ac20 (by simp [p20]) ?_
  simp -implicitDefEqProofs [p20, fval, fcells, r.rW.one, r.rC.one]
  refine call1 (implMagOk_ac (r.kp0 (.app _ _ _)) (rm.kp0 (.app _ _ _))) ?_
  cases hm : magB F m
  · simp -implicitDefEqProofs [resA_2, DropR, dropM, hm]
  obtain ⟨m1, m2, m3⟩ := magB_mem hm
  obtain ⟨n1, n2, n3, n4⟩ := fontB_n (magB_fn hm)
  simp -implicitDefEqProofs
  refine call1 (ofFont_ac (magB_fn hm) (r.kp0 (.app _ _ _)) _ _) ?_
  cases hx : mxB F (x.1, x.2)
  · simp -implicitDefEqProofs [resA_2, DropR, dropM, hm, hx]
  have hx' : mxB F x = true := hx
  have hf := fall_lt hm hx'
  have hd : dropM F m x = if m[fallN F.codes x.2].length ≠ 20 then some (m.set (fallN F.codes x.2) (m[fallN F.codes x.2] ++ [x]), fallN F.codes x.2) else none := by
    unfold dropM
    rw [List.getD_eq_getElem?_getD, List.getElem?_eq_getElem hf, Option.getD_some]
    simp only [hm, hx', true_and]
  rw [hd]
  simp -implicitDefEqProofs
  refine call1 (fall_ac (r.rC.kp0 (.app _ _ _)) _) ?_
  generalize fallN F.codes x.2 = q at hf ⊢
  have kb : Kp [] h (h ++ [some ⟨[.string F.letters, vW, vC], 3, true⟩, some ⟨[.int .i64 x.1, .int .i64 x.2], 2, true⟩]) := .app [] h _
  have hcs : hcs (h ++ [some ⟨[.string F.letters, vW, vC], 3, true⟩, some ⟨[.int .i64 x.1, .int .i64 x.2], 2, true⟩]) (h.length + 1) 0 2 = some [.int .i64 x.1, .int .i64 x.2] := by simp
  have rm1 := rm.kp0 kb
  have kl := kb.1
  obtain ⟨i, o, u, L1, ea, la, ru, _⟩ := rm1.at hf
  by_cases h20 : m[q].length = 20
  · simp -implicitDefEqProofs [ea, la, ru.len, h20, resA_2, DropR]
  have h20' : ¬ ((m[q].length : Int) = 20) := by omega
  simp -implicitDefEqProofs [ea, la, ru.len, h20', h20]
  generalize h ++ [some (⟨[.string F.letters, vW, vC], 3, true⟩ : AObj), some ⟨[.int .i64 x.1, .int .i64 x.2], 2, true⟩] = g at kb hcs rm1 kl ⊢
  refine call0 (implCopyMag_ac rm1 (by omega) (fun l hl => by have := m2 l hl; omega)) ?_
  rintro vX g1 nx k1
  have nx' : NX h.length g1 vX m := by
    obtain ⟨L, a, b, c⟩ := nx
    exact ⟨L, a, b, fun i hi => by have := c i hi; omega⟩
  have hcs1 := hcs_kp0 k1 hcs
  obtain ⟨j, p, t, Lt, eb, lb, rt, gt, gj, jl, jn, put⟩ := nx'.put hf
  have hq20 := m2 _ (List.getElem_mem hf)
  obtain ⟨T, u', g2, L2, e1, q2, k2, t2, l2, n2', lt2⟩ := rt.app1 (by_ := 16) x (by unfold big; omega) (by omega) EX_one
  simp only [EX_es, EX_e] at e1
  obtain ⟨g3, e3, nx3, k3⟩ := put g2 u' _ L2 k2 q2 (fun i hi => .inr (l2 i hi))
  have mtT : (∀ i, i ∈ T → MT [] h i) = True := eq_true (fun i hi => .inr (gt i (t2 i hi)))
  have mtj : MT [] h j := .inr gj
  simp -implicitDefEqProofs [eb, lb, hcs1, e1, e3, mtT, mtj, resA_2, DropR]
  exact nx3
end
end Go.Proofs.Ytpenocegikjpaaa

/- Contracts: a tooth worn off. -/
set_option linter.unusedSimpArgs false
set_option linter.unusedVariables false
set_option maxHeartbeats 1000000
namespace Go.Proofs.Ytpenocegikjpaaa
open Go.Ab
/-- A tooth of a matrix (channel c, place d, tooth p) goes. -/
def wearM (F : Fnt) (m : List (List Mx)) (c d p : Int) : Option (List (List Mx)) :=
  if magB F m = true ∧ (0 ≤ c ∧ c < m.length) ∧ (0 ≤ d ∧ d < (m.getD c.toNat []).length) ∧ (0 ≤ p ∧ p ≤ 6) ∧ andI (shrI ((m.getD c.toNat []).getD d.toNat (0, 0)).2 p) 1 ≠ 0 then
    some (m.set c.toNat ((m.getD c.toNat []).set d.toNat (((m.getD c.toNat []).getD d.toNat (0, 0)).1, ((m.getD c.toNat []).getD d.toNat (0, 0)).2 - shlI 1 p))) else none
def WearR (n : Nat) (o : Option (List (List Mx))) (r : Value) (h' : Heap) : Prop := match o with
  | none => r = .tuple #[.slice none 0 0, .bool false]
  | some m' => ∃ v, r = .tuple #[v, .bool true] ∧ NX n h' v m'
theorem getD_at {α : Type} {l : List α} {k : Nat} {z : α} (hk : k < l.length) : l.getD k z = l[k] := by
  rw [List.getD_eq_getElem?_getD, List.getElem?_eq_getElem hk]; rfl
section
variable {w w' : Bool} {h : Heap} {F : Fnt} {vW vC vM : Value} {LW LC LM : List Nat} {m : List (List Mx)}
theorem specWear_ac (r : RF w h F vW vC LW LC) (rm : RXX w' h vM m LM) (c d p : Int) :
    AC Try.prog 104 [fval F vW vC, vM, .int .i64 c, .int .i64 d, .int .i64 p] h [] fun r h' => WearR h.length (wearM F m c d p) r h' := by
  refine ac104 (by simp [p104]) ?_
  simp -implicitDefEqProofs [p104, fval, fcells, r.rW.one, r.rC.one]
  refine call1 (specMagOk_ac (r.kp0 (.app _ _ _)) (rm.kp0 (.app _ _ _))) ?_
  cases hm : magB F m
  · simp -implicitDefEqProofs [resA_2, WearR, wearM, hm]
  obtain ⟨m1, m2, m3⟩ := magB_mem hm
  obtain ⟨n1, n2, n3, n4⟩ := fontB_n (magB_fn hm)
  have w1 : IntKind.wrap .i64 ((m.length : Int) - 1) = m.length - 1 := wrap_in (by omega)
  simp -implicitDefEqProofs [rm.len, w1]
  refine call1 (l1In_ac _ _ _) ?_
  cases hc : inB c 0 (m.length - 1)
  · have hw : wearM F m c d p = none := if_neg fun ⟨_, a, _⟩ => by simp [inB] at hc; omega
    simp -implicitDefEqProofs [resA_2, WearR, hw]
  have hc' : 0 ≤ c ∧ c < m.length := by simp [inB] at hc; omega
  simp -implicitDefEqProofs
  refine call1 (l1In_ac _ _ _) ?_
  cases hp : inB p 0 6
  · have hw : wearM F m c d p = none := if_neg fun ⟨_, _, _, a, _⟩ => by simp [inB] at hp; omega
    simp -implicitDefEqProofs [resA_2, WearR, hw]
  have hp' : 0 ≤ p ∧ p ≤ 6 := by simp [inB] at hp; omega
  obtain ⟨q, rfl⟩ : ∃ q : Nat, c = q := ⟨c.toNat, by omega⟩
  have hq : q < m.length := by omega
  have hq20 := m2 _ (List.getElem_mem hq)
  have kb : Kp [] h (h ++ [some ⟨[.string F.letters, vW, vC], 3, true⟩]) := .app [] h _
  have rm1 := rm.kp0 kb
  obtain ⟨i, o, u, L1, ea, la, ru, _⟩ := rm1.at hq
  have w2 : IntKind.wrap .i64 ((m[q].length : Int) - 1) = m[q].length - 1 := wrap_in (by omega)
  have hgq : m.getD q [] = m[q] := getD_at hq
  simp -implicitDefEqProofs [ea, la, ru.len, w2]
  refine call1 (l1In_ac _ _ _) ?_
  cases hd : inB d 0 (m[q].length - 1)
  · have hw : wearM F m q d p = none := if_neg fun ⟨_, _, a, _⟩ => by rw [Int.toNat_natCast, hgq] at a; simp [inB] at hd; omega
    simp -implicitDefEqProofs [resA_2, WearR, hw]
  have hd' : 0 ≤ d ∧ d < m[q].length := by simp [inB] at hd; omega
  obtain ⟨e, rfl⟩ : ∃ e : Nat, d = e := ⟨d.toNat, by omega⟩
  have he : e < m[q].length := by omega
  have hge : m[q].getD e (0, 0) = m[q][e] := getD_at he
  obtain ⟨i2, o2, ec, _, _, lc, _⟩ := ru.atX he
  simp -implicitDefEqProofs [ea, la, ec, lc, bin_shr hp'.1]
  by_cases hb : andI (shrI m[q][e].2 p) 1 = 0
  · have hw : wearM F m q e p = none := if_neg fun ⟨_, _, _, _, a⟩ => by rw [Int.toNat_natCast, Int.toNat_natCast, hgq, hge] at a; exact a hb
    simp -implicitDefEqProofs [resA_2, WearR, hw, hb]
  have hw : wearM F m q e p = some (m.set q (m[q].set e (m[q][e].1, m[q][e].2 - shlI 1 p))) := by
    unfold wearM
    rw [Int.toNat_natCast, Int.toNat_natCast, hgq, hge, if_pos ⟨hm, hc', hd', hp', hb⟩]
  rw [hw]
  have hx := m3 _ (List.getElem_mem hq) _ (List.getElem_mem he)
  have hs : setB m[q][e].2 = true := by simp only [mxB, Bool.and_eq_true] at hx; exact hx.1.2
  obtain ⟨hw1, hw2, hw3⟩ := worn hs hp' hb
  have hs' : 0 ≤ m[q][e].2 ∧ m[q][e].2 ≤ 127 := by simpa [setB, inB] using hs
  have w3 : IntKind.wrap .i64 (m[q][e].2 - shlI 1 p) = m[q][e].2 - shlI 1 p := wrap_in (by omega)
  have kl := kb.1
  simp -implicitDefEqProofs [hb]
  generalize h ++ [some (⟨[.string F.letters, vW, vC], 3, true⟩ : AObj)] = g at kb rm1 kl ⊢
  refine call0 (specCopyMag_ac rm1 (by omega) (fun l hl => by have := m2 l hl; omega)) ?_
  rintro vX g1 nx k1
  have nx' : NX h.length g1 vX m := by
    obtain ⟨L, a, b, c⟩ := nx
    exact ⟨L, a, b, fun i hi => by have := c i hi; omega⟩
  obtain ⟨j, p1, t, j2, p2, g2, eb, lb, ed, ld, st, nx2, gj, k2⟩ := nx'.mod1 hq he (m[q][e].2 - shlI 1 p)
  have mtj : MT [] h j2 := .inr gj
  simp -implicitDefEqProofs [eb, lb, ed, ld, bin_shl hp'.1, w3, st, mtj, resA_2, WearR]
  exact nx2
theorem implWear_ac (r : RF w h F vW vC LW LC) (rm : RXX w' h vM m LM) (c d p : Int) :
    AC Try.prog 105 [fval F vW vC, vM, .int .i64 c, .int .i64 d, .int .i64 p] h [] fun r h' => WearR h.length (wearM F m c d p) r h' := by
  refine ac105 (by simp [p105]) ?_
  simp -implicitDefEqProofs [p105, fval, fcells, r.rW.one, r.rC.one]
  refine call1 (implMagOk_ac (r.kp0 (.app _ _ _)) (rm.kp0 (.app _ _ _))) ?_
  cases hm : magB F m
  · simp -implicitDefEqProofs [resA_2, WearR, wearM, hm]
  obtain ⟨m1, m2, m3⟩ := magB_mem hm
  obtain ⟨n1, n2, n3, n4⟩ := fontB_n (magB_fn hm)
  by_cases c0 : c < 0
  · have hw : wearM F m c d p = none := if_neg fun ⟨_, a, _⟩ => by omega
    simp -implicitDefEqProofs [resA_2, WearR, hw, c0]
  by_cases c1 : (m.length : Int) ≤ c
  · have hw : wearM F m c d p = none := if_neg fun ⟨_, a, _⟩ => by omega
    simp -implicitDefEqProofs [resA_2, WearR, hw, c0, rm.len, c1]
  have hc' : 0 ≤ c ∧ c < m.length := by omega
  obtain ⟨q, rfl⟩ : ∃ q : Nat, c = q := ⟨c.toNat, by omega⟩
  have hq : q < m.length := by omega
  have hq20 := m2 _ (List.getElem_mem hq)
  have kb : Kp [] h (h ++ [some ⟨[.string F.letters, vW, vC], 3, true⟩]) := .app [] h _
  have rm1 := rm.kp0 kb
  obtain ⟨i, o, u, L1, ea, la, ru, _⟩ := rm1.at hq
  have hgq : m.getD q [] = m[q] := getD_at hq
  have c1' : ¬ m.length ≤ q := by omega
  by_cases d0 : d < 0
  · have hw : wearM F m q d p = none := if_neg fun ⟨_, _, a, _⟩ => by omega
    simp -implicitDefEqProofs [resA_2, WearR, hw, c0, rm.len, c1', d0]
  by_cases d1 : (m[q].length : Int) ≤ d
  · have hw : wearM F m q d p = none := if_neg fun ⟨_, _, a, _⟩ => by rw [Int.toNat_natCast, hgq] at a; omega
    simp -implicitDefEqProofs [resA_2, WearR, hw, c0, rm.len, c1', d0, ea, la, ru.len, d1]
  have hd' : 0 ≤ d ∧ d < m[q].length := by omega
  obtain ⟨e, rfl⟩ : ∃ e : Nat, d = e := ⟨d.toNat, by omega⟩
  have he : e < m[q].length := by omega
  have hge : m[q].getD e (0, 0) = m[q][e] := getD_at he
  have d1' : ¬ m[q].length ≤ e := by omega
  obtain ⟨i2, o2, ec, _, _, lc, _⟩ := ru.atX he
  by_cases p0 : p < 0
  · have hw : wearM F m q e p = none := if_neg fun ⟨_, _, _, a, _⟩ => by omega
    simp -implicitDefEqProofs [resA_2, WearR, hw, c0, rm.len, c1', d0, ea, la, ru.len, d1', p0]
  by_cases p1 : 6 < p
  · have hw : wearM F m q e p = none := if_neg fun ⟨_, _, _, a, _⟩ => by omega
    simp -implicitDefEqProofs [resA_2, WearR, hw, c0, rm.len, c1', d0, ea, la, ru.len, d1', p0, p1]
  have hp' : 0 ≤ p ∧ p ≤ 6 := by omega
  by_cases hb : andI (shrI m[q][e].2 p) 1 = 0
  · have hw : wearM F m q e p = none := if_neg fun ⟨_, _, _, _, a⟩ => by rw [Int.toNat_natCast, Int.toNat_natCast, hgq, hge] at a; exact a hb
    simp -implicitDefEqProofs [resA_2, WearR, hw, c0, rm.len, c1', d0, ea, la, ru.len, d1', p0, p1, ec, lc, bin_shr hp'.1, hb]
  have hw : wearM F m q e p = some (m.set q (m[q].set e (m[q][e].1, m[q][e].2 - shlI 1 p))) := by
    unfold wearM
    rw [Int.toNat_natCast, Int.toNat_natCast, hgq, hge, if_pos ⟨hm, hc', hd', hp', hb⟩]
  rw [hw]
  have hx := m3 _ (List.getElem_mem hq) _ (List.getElem_mem he)
  have hs : setB m[q][e].2 = true := by simp only [mxB, Bool.and_eq_true] at hx; exact hx.1.2
  obtain ⟨hw1, hw2, hw3⟩ := worn hs hp' hb
  have kl := kb.1
  simp -implicitDefEqProofs [c0, rm.len, c1', d0, ea, la, ru.len, d1', p0, p1, ec, lc, bin_shr hp'.1, hb]
  generalize h ++ [some (⟨[.string F.letters, vW, vC], 3, true⟩ : AObj)] = g at kb rm1 kl ⊢
  refine call0 (implCopyMag_ac rm1 (by omega) (fun l hl => by have := m2 l hl; omega)) ?_
  rintro vX g1 nx k1
  have nx' : NX h.length g1 vX m := by
    obtain ⟨L, a, b, c⟩ := nx
    exact ⟨L, a, b, fun i hi => by have := c i hi; omega⟩
  obtain ⟨j, p1, t, j2, p2, g2, eb, lb, ed, ld, st, nx2, gj, k2⟩ := nx'.mod1 hq he (m[q][e].2 - shlI 1 p)
  have mtj : MT [] h j2 := .inr gj
  simp -implicitDefEqProofs [eb, lb, ed, ld, bin_shl hp'.1, hw1, st, mtj, resA_2, WearR]
  exact nx2
end
end Go.Proofs.Ytpenocegikjpaaa

/- Contracts: WearMachine, both. -/
set_option linter.unusedSimpArgs false
set_option linter.unusedVariables false
set_option maxHeartbeats 1000000
namespace Go.Proofs.Ytpenocegikjpaaa
open Go.Ab
def wearMM (M : Mch) (c d p : Int) : Option Mch := if mchB M then (wearM M.font M.mag c d p).map fun m => { M with mag := m } else none
section
variable {w : Bool} {h : Heap} {M : Mch} {vW vC vM vL vQ : Value} {LW LC LM LL LQ : List Nat}
theorem specWearM_ac (r : RM w h M vW vC vM vL vQ LW LC LM LL LQ) (hl : szM M ≤ 1048576) (c d p : Int) :
    AC Try.prog 42 [mval M vW vC vM vL vQ, .int .i64 c, .int .i64 d, .int .i64 p] h [] fun r h' => TupM h.length h' r ((wearMM M c d p).getD M0) (.bool (wearMM M c d p).isSome) := by
  refine ac42 (by simp [p42]) ?_
  have kb : Kp [] h (h ++ [some ⟨mcells M vW vC vM vL vQ, 10, true⟩, some ⟨zcells, 10, true⟩]) := .app [] h _
  have r1 := r.kp0 kb
  have bV : hob (h ++ [some ⟨mcells M vW vC vM vL vQ, 10, true⟩, some ⟨zcells, 10, true⟩]) h.length = some ⟨mcells M vW vC vM vL vQ, 10, true⟩ := by simp [hob]
  have bZ : hob (h ++ [some ⟨mcells M vW vC vM vL vQ, 10, true⟩, some ⟨zcells, 10, true⟩]) (h.length + 1) = some ⟨zcells, 10, true⟩ := by simp [hob]
  have kl := kb.1
  have gl : (h ++ [some (⟨mcells M vW vC vM vL vQ, 10, true⟩ : AObj), some ⟨zcells, 10, true⟩]).length = h.length + 2 := by simp
  simp -implicitDefEqProofs [p42, mval, mcells, zcells, r.rW.one, r.rC.one, r.rM.one, r.rL.one, r.rQ.one]
  simp only [mcells, zcells] at gl
  simp only [mcells, zcells] at kb r1 bV bZ kl
  generalize h ++ [some (⟨[.string M.font.letters, vW, vC, vM, .int .i64 M.spare, .int .i64 M.msr.width, .int .i64 M.msr.thin, .int .i64 M.msr.thick, vL, vQ], 10, true⟩ : AObj), some ⟨[.string ⟨#[]⟩, .slice none 0 0, .slice none 0 0, .slice none 0 0, .int .i64 0, .int .i64 0, .int .i64 0, .int .i64 0, .slice none 0 0, .slice none 0 0], 10, true⟩] = g0 at kb r1 bV bZ kl gl ⊢
  have mV : MT [] h h.length := .inr (Nat.le_refl _)
  have mZ : MT [] h (h.length + 1) := .inr (by omega)
  refine call0 (specWear_ac r1.rF r1.rM c d p) ?_
  rintro _ g1 hw k1
  replace r1 := r1.kp0 k1; replace bV := hob_kp k1 bV (by simp); replace bZ := hob_kp k1 bZ (by simp)
  have kl1 := k1.1
  have hcV := hcs_full bV rfl
  obtain ⟨gz, ez, bz, kz, _⟩ := strV_full bZ rfl (l := [.string ⟨#[]⟩, .slice none 0 0, .slice none 0 0, .slice none 0 0, .int .i64 0, .int .i64 0, .int .i64 0, .int .i64 0, .slice none 0 0, .slice none 0 0]) rfl (by simp)
  have hcz := hcs_full bz rfl
  cases hwe : wearM M.font M.mag c d p with
  | none =>
    rw [hwe] at hw
    simp only [WearR] at hw
    subst hw
    have hn : wearMM M c d p = none := by unfold wearMM; rw [hwe]; simp
    rw [hn]
    simp -implicitDefEqProofs [bldV, fillA, ez, mZ, resA_2, resA1, hcz]
    exact ⟨zcells, [], rfl, .zero _ _⟩
  | some m' =>
    rw [hwe] at hw
    simp only [WearR] at hw
    obtain ⟨vX, rfl, LX, rX, ndX, geX⟩ := hw
    have ltX := rX.lt
    simp -implicitDefEqProofs [hcV]
    refine call1 (specMachineOk_ac r1 (by unfold szM at hl; omega)) ?_
    cases hM : mchB M
    · have hn : wearMM M c d p = none := by unfold wearMM; rw [hM]; simp
      rw [hn]
      simp -implicitDefEqProofs [bldV, fillA, ez, mZ, resA_2, resA1, hcz]
      exact ⟨zcells, [], rfl, .zero _ _⟩
    have hn : wearMM M c d p = some { M with mag := m' } := by unfold wearMM; rw [hM, hwe]; simp
    rw [hn]
    simp -implicitDefEqProofs [hcV]
    refine call0 (specCopy_ac r1 hl) ?_
    rintro _ g2 ⟨vW', vC', vM', vL', vQ', LW', LC', LM', LL', LQ', rfl, rc, ndc, gec⟩ k2
    replace bV := hob_kp k2 bV (by simp); replace bZ := hob_kp k2 bZ (by simp); replace rX := rX.kp0 k2
    have kl2 := k2.1
    have ltc := rc.lt
    have o1 : oneAll [.string M.font.letters, vW', vC', vM', .int .i64 M.spare, .int .i64 M.msr.width, .int .i64 M.msr.thin, .int .i64 M.msr.thick, vL', vQ'] = true := by simp [rc.rW.one, rc.rC.one, rc.rM.one, rc.rL.one, rc.rQ.one]
    have o2 : oneAll [.string M.font.letters, vW', vC', vX, .int .i64 M.spare, .int .i64 M.msr.width, .int .i64 M.msr.thin, .int .i64 M.msr.thick, vL', vQ'] = true := by simp [rc.rW.one, rc.rC.one, rX.one, rc.rL.one, rc.rQ.one]
    have ev : strV 10 (.pointer (some ⟨g2.length, 0, none⟩)) (.agg (List.toArray [.string M.font.letters, vW', vC', vM', .int .i64 M.spare, .int .i64 M.msr.width, .int .i64 M.msr.thin, .int .i64 M.msr.thick, vL', vQ'])) (g2 ++ [some ⟨[.string ⟨#[]⟩, .slice none 0 0, .slice none 0 0, .slice none 0 0, .int .i64 0, .int .i64 0, .int .i64 0, .int .i64 0, .slice none 0 0, .slice none 0 0], 10, true⟩]) = some ([g2.length], undef, g2 ++ [some ⟨[.string M.font.letters, vW', vC', vM', .int .i64 M.spare, .int .i64 M.msr.width, .int .i64 M.msr.thin, .int .i64 M.msr.thick, vL', vQ'], 10, true⟩]) := strV_var rfl rfl o1
    have ka : Kp [] g2 (g2 ++ [some ⟨[.string M.font.letters, vW', vC', vM', .int .i64 M.spare, .int .i64 M.msr.width, .int .i64 M.msr.thin, .int .i64 M.msr.thick, vL', vQ'], 10, true⟩]) := .app _ _ _
    have gla : (g2 ++ [some (⟨[.string M.font.letters, vW', vC', vM', .int .i64 M.spare, .int .i64 M.msr.width, .int .i64 M.msr.thin, .int .i64 M.msr.thick, vL', vQ'], 10, true⟩ : AObj)]).length = g2.length + 1 := by simp
    have ba : hob (g2 ++ [some ⟨[.string M.font.letters, vW', vC', vM', .int .i64 M.spare, .int .i64 M.msr.width, .int .i64 M.msr.thin, .int .i64 M.msr.thick, vL', vQ'], 10, true⟩]) g2.length = some ⟨[.string M.font.letters, vW', vC', vM', .int .i64 M.spare, .int .i64 M.msr.width, .int .i64 M.msr.thin, .int .i64 M.msr.thick, vL', vQ'], 10, true⟩ := by simp [hob]
    replace bZ := hob_kp ka bZ (by simp); replace rX := rX.kp0 ka; replace rc := rc.kp0 ka
    have hcV2 := hcs_kp0 k2 hcV
    generalize g2 ++ [some (⟨[.string M.font.letters, vW', vC', vM', .int .i64 M.spare, .int .i64 M.msr.width, .int .i64 M.msr.thin, .int .i64 M.msr.thick, vL', vQ'], 10, true⟩ : AObj)] = ga at ka ba bZ rX rc gla ev
    obtain ⟨g3, ec, b3, k3, n3⟩ := strV_cell (j := 3) ba (by simp) rX.cells rX.one
    replace b3 : hob g3 g2.length = some ⟨[.string M.font.letters, vW', vC', vX, .int .i64 M.spare, .int .i64 M.msr.width, .int .i64 M.msr.thin, .int .i64 M.msr.thick, vL', vQ'], 10, true⟩ := b3
    have hc3 := hcs_full b3 rfl
    replace bZ := hob_kp k3 bZ (by simp; omega)
    obtain ⟨g4, ed, b4, k4, n4⟩ := strV_full bZ rfl (l := [.string M.font.letters, vW', vC', vX, .int .i64 M.spare, .int .i64 M.msr.width, .int .i64 M.msr.thin, .int .i64 M.msr.thick, vL', vQ']) rfl o2
    have hc4 := hcs_full b4 rfl
    have m2 : MT [] h g2.length := .inr (by omega)
    simp -implicitDefEqProofs [mval, mcells, ev, m2, ec, hc3, ed, mZ, resA_2, resA1, hc4]
    have kf : Kp [g2.length, h.length + 1] ga g4 := (k3.mono (U := [g2.length, h.length + 1]) (by simp)).trans k4 (by simp)
    refine ⟨_, _, rfl, mn_mag (rc.kp kf fun i hi hn => ?_) ndc gec (rX.kp kf fun i hi hn => ?_) ndX (fun i hi => by have := geX i hi; omega) ltX (by omega)⟩
    · have := gec i hi; have := ltc i hi; simp at hn; omega
    · have := geX i hi; have := ltX i hi; simp at hn; omega
theorem implWearM_ac (r : RM w h M vW vC vM vL vQ LW LC LM LL LQ) (hl : szM M ≤ 1048576) (c d p : Int) :
    AC Try.prog 43 [mval M vW vC vM vL vQ, .int .i64 c, .int .i64 d, .int .i64 p] h [] fun r h' => TupM h.length h' r ((wearMM M c d p).getD M0) (.bool (wearMM M c d p).isSome) := by
  refine ac43 (by simp [p43]) ?_
  have kb : Kp [] h (h ++ [some ⟨mcells M vW vC vM vL vQ, 10, true⟩, some ⟨zcells, 10, true⟩]) := .app [] h _
  have r1 := r.kp0 kb
  have bV : hob (h ++ [some ⟨mcells M vW vC vM vL vQ, 10, true⟩, some ⟨zcells, 10, true⟩]) h.length = some ⟨mcells M vW vC vM vL vQ, 10, true⟩ := by simp [hob]
  have bZ : hob (h ++ [some ⟨mcells M vW vC vM vL vQ, 10, true⟩, some ⟨zcells, 10, true⟩]) (h.length + 1) = some ⟨zcells, 10, true⟩ := by simp [hob]
  have kl := kb.1
  have gl : (h ++ [some (⟨mcells M vW vC vM vL vQ, 10, true⟩ : AObj), some ⟨zcells, 10, true⟩]).length = h.length + 2 := by simp
  simp -implicitDefEqProofs [p43, mval, mcells, zcells, r.rW.one, r.rC.one, r.rM.one, r.rL.one, r.rQ.one]
  simp only [mcells, zcells] at gl
  simp only [mcells, zcells] at kb r1 bV bZ kl
  generalize h ++ [some (⟨[.string M.font.letters, vW, vC, vM, .int .i64 M.spare, .int .i64 M.msr.width, .int .i64 M.msr.thin, .int .i64 M.msr.thick, vL, vQ], 10, true⟩ : AObj), some ⟨[.string ⟨#[]⟩, .slice none 0 0, .slice none 0 0, .slice none 0 0, .int .i64 0, .int .i64 0, .int .i64 0, .int .i64 0, .slice none 0 0, .slice none 0 0], 10, true⟩] = g0 at kb r1 bV bZ kl gl ⊢
  have mV : MT [] h h.length := .inr (Nat.le_refl _)
  have mZ : MT [] h (h.length + 1) := .inr (by omega)
  refine call1 (implMachineOk_ac r1) ?_
  cases hM : mchB M
  · have hn : wearMM M c d p = none := by unfold wearMM; rw [hM]; simp
    obtain ⟨gz, ez, bz, kz, _⟩ := strV_full bZ rfl (l := [.string ⟨#[]⟩, .slice none 0 0, .slice none 0 0, .slice none 0 0, .int .i64 0, .int .i64 0, .int .i64 0, .int .i64 0, .slice none 0 0, .slice none 0 0]) rfl (by simp)
    have hcz := hcs_full bz rfl
    rw [hn]
    simp -implicitDefEqProofs [bldV, fillA, ez, mZ, resA_2, resA1, hcz]
    exact ⟨zcells, [], rfl, .zero _ _⟩
  have hcV := hcs_full bV rfl
  have c3 : hc1 g0 h.length 3 = some vM := by rw [hc1_hob bV]; rfl
  have c03 : hcs g0 h.length 0 3 = some [.string M.font.letters, vW, vC] := by rw [hcs_hob bV]; rfl
  simp -implicitDefEqProofs [c3, c03]
  refine call0 (implWear_ac r1.rF r1.rM c d p) ?_
  rintro _ g1 hw k1
  replace r1 := r1.kp0 k1; replace bV := hob_kp k1 bV (by simp); replace bZ := hob_kp k1 bZ (by simp); replace hcV := hcs_kp0 k1 hcV
  have kl1 := k1.1
  obtain ⟨gz, ez, bz, kz, _⟩ := strV_full bZ rfl (l := [.string ⟨#[]⟩, .slice none 0 0, .slice none 0 0, .slice none 0 0, .int .i64 0, .int .i64 0, .int .i64 0, .int .i64 0, .slice none 0 0, .slice none 0 0]) rfl (by simp)
  have hcz := hcs_full bz rfl
  cases hwe : wearM M.font M.mag c d p with
  | none =>
    rw [hwe] at hw
    simp only [WearR] at hw
    subst hw
    have hn : wearMM M c d p = none := by unfold wearMM; rw [hwe]; simp
    rw [hn]
    simp -implicitDefEqProofs [bldV, fillA, ez, mZ, resA_2, resA1, hcz]
    exact ⟨zcells, [], rfl, .zero _ _⟩
  | some m' =>
    rw [hwe] at hw
    simp only [WearR] at hw
    obtain ⟨vX, rfl, LX, rX, ndX, geX⟩ := hw
    have ltX := rX.lt
    have hn : wearMM M c d p = some { M with mag := m' } := by unfold wearMM; rw [hM, hwe]; simp
    rw [hn]
    simp -implicitDefEqProofs [hcV]
    refine call0 (implCopy_ac r1 hl) ?_
    rintro _ g2 ⟨vW', vC', vM', vL', vQ', LW', LC', LM', LL', LQ', rfl, rc, ndc, gec⟩ k2
    replace bV := hob_kp k2 bV (by simp); replace bZ := hob_kp k2 bZ (by simp); replace rX := rX.kp0 k2
    have kl2 := k2.1
    have ltc := rc.lt
    have o1 : oneAll [.string M.font.letters, vW', vC', vM', .int .i64 M.spare, .int .i64 M.msr.width, .int .i64 M.msr.thin, .int .i64 M.msr.thick, vL', vQ'] = true := by simp [rc.rW.one, rc.rC.one, rc.rM.one, rc.rL.one, rc.rQ.one]
    have o2 : oneAll [.string M.font.letters, vW', vC', vX, .int .i64 M.spare, .int .i64 M.msr.width, .int .i64 M.msr.thin, .int .i64 M.msr.thick, vL', vQ'] = true := by simp [rc.rW.one, rc.rC.one, rX.one, rc.rL.one, rc.rQ.one]
    obtain ⟨g3, ev, b3, k3, n3⟩ := strV_full bV rfl (l := [.string M.font.letters, vW', vC', vM', .int .i64 M.spare, .int .i64 M.msr.width, .int .i64 M.msr.thin, .int .i64 M.msr.thick, vL', vQ']) rfl o1
    obtain ⟨g4, ec, b4, k4, n4⟩ := strV_cell (j := 3) b3 (by simp) rX.cells rX.one
    replace b4 : hob g4 h.length = some ⟨[.string M.font.letters, vW', vC', vX, .int .i64 M.spare, .int .i64 M.msr.width, .int .i64 M.msr.thin, .int .i64 M.msr.thick, vL', vQ'], 10, true⟩ := b4
    have hc4 := hcs_full b4 rfl
    replace bZ := hob_kp k4 (hob_kp k3 bZ (by simp)) (by simp)
    obtain ⟨g5, ed, b5, k5, n5⟩ := strV_full bZ rfl (l := [.string M.font.letters, vW', vC', vX, .int .i64 M.spare, .int .i64 M.msr.width, .int .i64 M.msr.thin, .int .i64 M.msr.thick, vL', vQ']) rfl o2
    have hc5 := hcs_full b5 rfl
    simp -implicitDefEqProofs [mval, mcells, ev, mV, ec, hc4, ed, mZ, resA_2, resA1, hc5]
    have kf : Kp [h.length, h.length + 1] g2 g5 := ((k3.mono (U := [h.length, h.length + 1]) (by simp)).trans k4 (by simp)).trans k5 (by simp)
    refine ⟨_, _, rfl, mn_mag (rc.kp kf fun i hi hn => ?_) ndc gec (rX.kp kf fun i hi hn => ?_) ndX (fun i hi => by have := geX i hi; omega) ltX (by omega)⟩
    · have := gec i hi; simp at hn; omega
    · have := geX i hi; simp at hn; omega
end
end Go.Proofs.Ytpenocegikjpaaa

/- The law of WearMachine. -/
set_option linter.unusedSimpArgs false
set_option linter.unusedVariables false
set_option maxHeartbeats 1000000
namespace Go.Proofs.Ytpenocegikjpaaa
open Go.Ab
section
set_option maxRecDepth 100000
theorem eqBool_pv0 (d : Nat) (x y : Bool) : pv Try.prog (Op.equalIn (d + 1) 4 (.bool x) (.bool y)) = some (x == y) := by
  simp [Op.equalIn, underlying, program, bind, Sem.bind, pv, Try.underlying4, pure]
theorem eqBool_pv (x y : Bool) : pv Try.prog (Op.equal 4 (.bool x) (.bool y)) = some (x == y) := eqBool_pv0 9999 x y
theorem bin_neB {h : Heap} (a b : Bool) : binV Try.prog .neq 4 (.bool a) (.bool b) h = some ([], .bool (!(a == b)), h) := by
  have : pvc Try.prog (binOp .neq 4 (.bool a) (.bool b)) = some (.bool (!(a == b))) := by
    show (pv Try.prog ((Op.equal 4 (.bool a) (.bool b)).bind fun r => Sem.pure (Value.bool (!r)))).bind _ = _
    rw [pv_bind, eqBool_pv]
    cases a <;> cases b <;> simp [pv]
  unfold binV
  rw [this]
  simp [closedB, atomB, notNilI]
end
theorem sz_zero : szM M0 = 0 := rfl
theorem wear_sz (M : Mch) (c d p : Int) : szM ((wearMM M c d p).getD M0) ≤ szM M := by
  unfold wearMM
  split
  · unfold wearM
    split
    · rename_i hc
      obtain ⟨_, h1, h2, _⟩ := hc
      obtain ⟨q, rfl⟩ : ∃ q : Nat, c = q := ⟨c.toNat, by omega⟩
      have hq : q < M.mag.length := by omega
      have hm : ∀ y, (M.mag.set q (M.mag[q].set d.toNat y)).map List.length = M.mag.map List.length := by
        intro y
        apply List.ext_getElem?
        intro i
        rw [List.getElem?_map, List.getElem?_map, List.getElem?_set]
        by_cases hi : q = i
        · subst hi; simp [hq]
        · simp [hi]
      simp only [Option.map_some, Option.getD_some, Int.toNat_natCast, getD_at hq]
      simp only [szM, szXX, hm]
      simp
    · simp [sz_zero]
  · simp [sz_zero]
section
variable {w : Bool} {h : Heap} {l : List Value} {M : Mch} {L : List Nat}
theorem specWearA_ac (r : MV w h l M L) (hl : szM M ≤ 1048576) (c d p : Int) : AC Try.prog 42 [.agg l.toArray, .int .i64 c, .int .i64 d, .int .i64 p] h [] fun r h' => TupM h.length h' r ((wearMM M c d p).getD M0) (.bool (wearMM M c d p).isSome) := by
  obtain ⟨vW, vC, vM, vL, vQ, LW, LC, LM, LL, LQ, rfl, r, rfl⟩ := r
  exact specWearM_ac r hl c d p
theorem implWearA_ac (r : MV w h l M L) (hl : szM M ≤ 1048576) (c d p : Int) : AC Try.prog 43 [.agg l.toArray, .int .i64 c, .int .i64 d, .int .i64 p] h [] fun r h' => TupM h.length h' r ((wearMM M c d p).getD M0) (.bool (wearMM M c d p).isSome) := by
  obtain ⟨vW, vC, vM, vL, vQ, LW, LC, LM, LL, LQ, rfl, r, rfl⟩ := r
  exact implWearM_ac r hl c d p
theorem wearLaw (r0 : MV false h l M L) (hs : M.font.letters.size ≤ maxLen) (c d p : Int) : AC Try.prog 7 [.agg l.toArray, .int .i64 c, .int .i64 d, .int .i64 p] h [] fun r _ => r = .bool true := by
  have hspec : ∀ {w : Bool} {h : Heap} {l : List Value} {L : List Nat}, MV w h l M L → szM M ≤ 1048576 → _ := fun {w h l L} r hl => specWearA_ac (w := w) (h := h) (l := l) (L := L) r hl c d p
  have himpl : ∀ {w : Bool} {h : Heap} {l : List Value} {L : List Nat}, MV w h l M L → szM M ≤ 1048576 → _ := fun {w h l L} r hl => implWearA_ac (w := w) (h := h) (l := l) (L := L) r hl c d p
  have hcw : szM M ≤ 1048576 → cntM ((wearMM M c d p).getD M0) ≤ 4611686018427387900 := fun hz => by have := wear_sz M c d p; have := cntM_le ((wearMM M c d p).getD M0); omega
  generalize (wearMM M c d p).getD M0 = W at hspec himpl hcw
  generalize (wearMM M c d p).isSome = b at hspec himpl
  have hlen0 := r0.len
  have hone0 := r0.one
  have lt0 := r0.lt
  have ht0 : l.take 10 = l := List.take_of_length_le (by omega)
  refine ac7 (by simp [p7]) ?_
  simp -implicitDefEqProofs [p7, hlen0, hone0, ht0]
  have k1 : Kp [] h (h ++ [some (⟨l, 10, true⟩ : AObj)]) := .app _ _ _
  have e0 : hcs (h ++ [some (⟨l, 10, true⟩ : AObj)]) h.length 0 10 = some l := hcs_var hlen0
  have qk1 : h.length < (h ++ [some (⟨l, 10, true⟩ : AObj)]).length := by simp
  have lk1 := k1.1
  replace r0 := r0.kp0 k1
  generalize h ++ [some (⟨l, 10, true⟩ : AObj)] = g2 at k1 lk1 qk1 r0 e0 ⊢
  refine call1 (szM_ac r0 hs) ?_
  by_cases hz : (1048576 : Int) < szM M
  · simp -implicitDefEqProofs [hz]
  have hsz : szM M ≤ 1048576 := by omega
  have hcn : cntM M ≤ 4611686018427387900 := by have := cntM_le M; omega
  have hcw := hcw hsz
  simp -implicitDefEqProofs [hz, show ¬ ((1048576 : Int) - szM M < 0) by omega, e0]
  refine call0 (toM_ac r0 hsz) ?_
  rintro _ h4 ⟨lA, LA, rfl, rA, ndA, geA⟩ k3
  have lk3 := k3.1
  replace r0 := r0.kp0 k3
  replace e0 := hcs_kp0 k3 e0
  have ltA := rA.lt
  have hlenA := rA.len
  have honeA := rA.one
  have htA : lA.take 10 = lA := List.take_of_length_le (by omega)
  simp -implicitDefEqProofs
  refine call0 (hspec rA hsz) ?_
  rintro _ h6 ⟨lS, LS, rfl, rS, ndS, geS⟩ k5
  have lk5 := k5.1
  replace r0 := r0.kp0 k5
  replace e0 := hcs_kp0 k5 e0
  replace rA := rA.kp0 k5
  have ltS := rS.lt
  have hlenS := rS.len
  have honeS := rS.one
  have htS : lS.take 10 = lS := List.take_of_length_le (by omega)
  have e0a : ∀ t, hcs (h6 ++ t) _ 0 10 = _ := fun t => hcs_kp0 (Kp.app [] h6 t) e0
  simp -implicitDefEqProofs [strV_var, hlenS, honeS, htS, mt_ge (show h.length ≤ h6.length by omega), e0a]
  have k7 : Kp [] h6 (h6 ++ [some (⟨lS, 10, true⟩ : AObj)]) := .app _ _ _
  have eS : hcs (h6 ++ [some (⟨lS, 10, true⟩ : AObj)]) h6.length 0 10 = some lS := hcs_var hlenS
  have qk7 : h6.length < (h6 ++ [some (⟨lS, 10, true⟩ : AObj)]).length := by simp
  have lk7 := k7.1
  replace r0 := r0.kp0 k7
  replace e0 := hcs_kp0 k7 e0
  replace rA := rA.kp0 k7
  replace rS := rS.kp0 k7
  generalize h6 ++ [some (⟨lS, 10, true⟩ : AObj)] = g8 at k7 lk7 qk7 r0 e0 rA rS eS ⊢
  refine call0 (toM_ac r0 hsz) ?_
  rintro _ h10 ⟨lB, LB, rfl, rB, ndB, geB⟩ k9
  have lk9 := k9.1
  replace r0 := r0.kp0 k9
  replace e0 := hcs_kp0 k9 e0
  replace rA := rA.kp0 k9
  replace rS := rS.kp0 k9
  replace eS := hcs_kp0 k9 eS
  have ltB := rB.lt
  have hlenB := rB.len
  have honeB := rB.one
  have htB : lB.take 10 = lB := List.take_of_length_le (by omega)
  have e0a : ∀ t, hcs (h10 ++ t) _ 0 10 = _ := fun t => hcs_kp0 (Kp.app [] h10 t) e0
  have eSa : ∀ t, hcs (h10 ++ t) _ 0 10 = _ := fun t => hcs_kp0 (Kp.app [] h10 t) eS
  simp -implicitDefEqProofs [strV_var, hlenB, honeB, htB, mt_ge (show h.length ≤ h10.length by omega), e0a, eSa]
  have k11 : Kp [] h10 (h10 ++ [some (⟨lB, 10, true⟩ : AObj)]) := .app _ _ _
  have eB : hcs (h10 ++ [some (⟨lB, 10, true⟩ : AObj)]) h10.length 0 10 = some lB := hcs_var hlenB
  have qk11 : h10.length < (h10 ++ [some (⟨lB, 10, true⟩ : AObj)]).length := by simp
  have lk11 := k11.1
  replace r0 := r0.kp0 k11
  replace e0 := hcs_kp0 k11 e0
  replace rA := rA.kp0 k11
  replace rS := rS.kp0 k11
  replace eS := hcs_kp0 k11 eS
  replace rB := rB.kp0 k11
  generalize h10 ++ [some (⟨lB, 10, true⟩ : AObj)] = g12 at k11 lk11 qk11 r0 e0 rA rS eS rB eB ⊢
  refine call0 (himpl rB hsz) ?_
  rintro _ h14 ⟨lR, LR, rfl, rR, ndR, geR⟩ k13
  have lk13 := k13.1
  replace r0 := r0.kp0 k13
  replace e0 := hcs_kp0 k13 e0
  replace rA := rA.kp0 k13
  replace rS := rS.kp0 k13
  replace eS := hcs_kp0 k13 eS
  replace rB := rB.kp0 k13
  replace eB := hcs_kp0 k13 eB
  have ltR := rR.lt
  have hlenR := rR.len
  have honeR := rR.one
  have htR : lR.take 10 = lR := List.take_of_length_le (by omega)
  have e0a : ∀ t, hcs (h14 ++ t) _ 0 10 = _ := fun t => hcs_kp0 (Kp.app [] h14 t) e0
  have eSa : ∀ t, hcs (h14 ++ t) _ 0 10 = _ := fun t => hcs_kp0 (Kp.app [] h14 t) eS
  have eBa : ∀ t, hcs (h14 ++ t) _ 0 10 = _ := fun t => hcs_kp0 (Kp.app [] h14 t) eB
  simp -implicitDefEqProofs [strV_var, hlenR, honeR, htR, mt_ge (show h.length ≤ h14.length by omega), e0a, eSa, eBa]
  have k15 : Kp [] h14 (h14 ++ [some (⟨lR, 10, true⟩ : AObj)]) := .app _ _ _
  have eR : hcs (h14 ++ [some (⟨lR, 10, true⟩ : AObj)]) h14.length 0 10 = some lR := hcs_var hlenR
  have qk15 : h14.length < (h14 ++ [some (⟨lR, 10, true⟩ : AObj)]).length := by simp
  have lk15 := k15.1
  replace r0 := r0.kp0 k15
  replace e0 := hcs_kp0 k15 e0
  replace rA := rA.kp0 k15
  replace rS := rS.kp0 k15
  replace eS := hcs_kp0 k15 eS
  replace rB := rB.kp0 k15
  replace eB := hcs_kp0 k15 eB
  replace rR := rR.kp0 k15
  generalize h14 ++ [some (⟨lR, 10, true⟩ : AObj)] = g16 at k15 lk15 qk15 r0 e0 rA rS eS rB eB rR eR ⊢
  refine call1 (eqM_ac rR rS) ?_
  simp -implicitDefEqProofs [eB, e0, bin_neB]
  refine call0 (toM_ac r0 hsz) ?_
  rintro _ h18 ⟨lC, LC, rfl, rC, ndC, geC⟩ k17
  have lk17 := k17.1
  replace r0 := r0.kp0 k17
  replace e0 := hcs_kp0 k17 e0
  replace rA := rA.kp0 k17
  replace rS := rS.kp0 k17
  replace eS := hcs_kp0 k17 eS
  replace rB := rB.kp0 k17
  replace eB := hcs_kp0 k17 eB
  replace rR := rR.kp0 k17
  replace eR := hcs_kp0 k17 eR
  have ltC := rC.lt
  have hlenC := rC.len
  have honeC := rC.one
  have htC : lC.take 10 = lC := List.take_of_length_le (by omega)
  simp -implicitDefEqProofs
  refine call1 (eqM_ac rB rC) ?_
  simp -implicitDefEqProofs [eB]
  refine callK (markM_ac rB ndB hcn) (fun i hi => .inr (by have := geB i hi; omega)) ?_
  rintro _ h20 ⟨rfl, mB⟩ k19
  have lk19 := k19.1
  replace r0 := r0.kp k19 (fun i hi hn => by have := geB i hn; have := ltB i hn; have := lt0 i hi; omega)
  replace e0 := hcs_kp k19 e0 (fun hn => by have := geB _ hn; have := ltB _ hn; omega)
  replace rA := rA.kp k19 (fun i hi hn => by have := geB i hn; have := ltB i hn; have := ltA i hi; have := geA i hi; omega)
  replace rS := rS.kp k19 (fun i hi hn => by have := geB i hn; have := ltB i hn; have := ltS i hi; have := geS i hi; omega)
  replace eS := hcs_kp k19 eS (fun hn => by have := geB _ hn; have := ltB _ hn; omega)
  replace eB := hcs_kp k19 eB (fun hn => by have := geB _ hn; have := ltB _ hn; omega)
  replace rR := rR.kp k19 (fun i hi hn => by have := geB i hn; have := ltB i hn; have := ltR i hi; have := geR i hi; omega)
  replace eR := hcs_kp k19 eR (fun hn => by have := geB _ hn; have := ltB _ hn; omega)
  replace rC := rC.kp k19 (fun i hi hn => by have := geB i hn; have := ltB i hn; have := ltC i hi; have := geC i hi; omega)
  simp -implicitDefEqProofs [show ¬ (1 + (cntM M : Int) < 0) by omega, eR, eS]
  refine call1 (eqM_ac rR rS) ?_
  simp -implicitDefEqProofs [eR, bin_neB]
  refine callK (markM_ac rR ndR hcw) (fun i hi => .inr (by have := geR i hi; omega)) ?_
  rintro _ h22 ⟨rfl, mR⟩ k21
  have lk21 := k21.1
  replace r0 := r0.kp k21 (fun i hi hn => by have := geR i hn; have := ltR i hn; have := lt0 i hi; omega)
  replace e0 := hcs_kp k21 e0 (fun hn => by have := geR _ hn; have := ltR _ hn; omega)
  replace rA := rA.kp k21 (fun i hi hn => by have := geR i hn; have := ltR i hn; have := ltA i hi; have := geA i hi; omega)
  replace rS := rS.kp k21 (fun i hi hn => by have := geR i hn; have := ltR i hn; have := ltS i hi; have := geS i hi; omega)
  replace eS := hcs_kp k21 eS (fun hn => by have := geR _ hn; have := ltR _ hn; omega)
  replace eB := hcs_kp k21 eB (fun hn => by have := geR _ hn; have := ltR _ hn; omega)
  replace eR := hcs_kp k21 eR (fun hn => by have := geR _ hn; have := ltR _ hn; omega)
  replace rC := rC.kp k21 (fun i hi hn => by have := geR i hn; have := ltR i hn; have := ltC i hi; have := geC i hi; omega)
  replace mB := mB.kp k21 (fun i hi hn => by have := geR i hn; have := ltR i hn; have := ltB i hi; have := geB i hi; omega)
  simp -implicitDefEqProofs [eR]
  refine call1 (heldM_ac mR hcw) ?_
  simp -implicitDefEqProofs [show ¬ (1 + (cntM W : Int) < 0) by omega, e0]
  refine call0 (toM_ac r0 hsz) ?_
  rintro _ h24 ⟨lD, LD, rfl, rD, ndD, geD⟩ k23
  have lk23 := k23.1
  replace r0 := r0.kp0 k23
  replace e0 := hcs_kp0 k23 e0
  replace rA := rA.kp0 k23
  replace rS := rS.kp0 k23
  replace eS := hcs_kp0 k23 eS
  replace eB := hcs_kp0 k23 eB
  replace eR := hcs_kp0 k23 eR
  replace rC := rC.kp0 k23
  replace mB := mB.kp0 k23
  replace mR := mR.kp0 k23
  have ltD := rD.lt
  have hlenD := rD.len
  have honeD := rD.one
  have htD : lD.take 10 = lD := List.take_of_length_le (by omega)
  simp -implicitDefEqProofs
  refine call0 (himpl rD hsz) ?_
  rintro _ h26 ⟨lQ, LQ, rfl, rQ, ndQ, geQ⟩ k25
  have lk25 := k25.1
  replace r0 := r0.kp0 k25
  replace e0 := hcs_kp0 k25 e0
  replace rA := rA.kp0 k25
  replace rS := rS.kp0 k25
  replace eS := hcs_kp0 k25 eS
  replace eB := hcs_kp0 k25 eB
  replace eR := hcs_kp0 k25 eR
  replace rC := rC.kp0 k25
  replace mB := mB.kp0 k25
  replace mR := mR.kp0 k25
  replace rD := rD.kp0 k25
  have ltQ := rQ.lt
  have hlenQ := rQ.len
  have honeQ := rQ.one
  have htQ : lQ.take 10 = lQ := List.take_of_length_le (by omega)
  have e0a : ∀ t, hcs (h26 ++ t) _ 0 10 = _ := fun t => hcs_kp0 (Kp.app [] h26 t) e0
  have eSa : ∀ t, hcs (h26 ++ t) _ 0 10 = _ := fun t => hcs_kp0 (Kp.app [] h26 t) eS
  have eBa : ∀ t, hcs (h26 ++ t) _ 0 10 = _ := fun t => hcs_kp0 (Kp.app [] h26 t) eB
  have eRa : ∀ t, hcs (h26 ++ t) _ 0 10 = _ := fun t => hcs_kp0 (Kp.app [] h26 t) eR
  simp -implicitDefEqProofs [strV_var, hlenQ, honeQ, htQ, mt_ge (show h.length ≤ h26.length by omega), e0a, eSa, eBa, eRa]
  have k27 : Kp [] h26 (h26 ++ [some (⟨lQ, 10, true⟩ : AObj)]) := .app _ _ _
  have eQ : hcs (h26 ++ [some (⟨lQ, 10, true⟩ : AObj)]) h26.length 0 10 = some lQ := hcs_var hlenQ
  have qk27 : h26.length < (h26 ++ [some (⟨lQ, 10, true⟩ : AObj)]).length := by simp
  have lk27 := k27.1
  replace r0 := r0.kp0 k27
  replace e0 := hcs_kp0 k27 e0
  replace rA := rA.kp0 k27
  replace rS := rS.kp0 k27
  replace eS := hcs_kp0 k27 eS
  replace eB := hcs_kp0 k27 eB
  replace eR := hcs_kp0 k27 eR
  replace rC := rC.kp0 k27
  replace mB := mB.kp0 k27
  replace mR := mR.kp0 k27
  replace rD := rD.kp0 k27
  replace rQ := rQ.kp0 k27
  generalize h26 ++ [some (⟨lQ, 10, true⟩ : AObj)] = g28 at k27 lk27 qk27 r0 e0 rA rS eS eB eR rC mB mR rD rQ eQ ⊢
  refine call1 (eqM_ac rQ rS) ?_
  simp -implicitDefEqProofs [eR, bin_neB]
  refine call1 (heldM_ac mR hcw) ?_
  simp -implicitDefEqProofs [show ¬ (1 + (cntM W : Int) < 0) by omega]
end
theorem fnExactWearMachine_ac {h : Heap} {M : Mch} {vW vC vM vL vQ : Value} {LW LC LM LL LQ : List Nat} {c d p : Int} (r : RM false h M vW vC vM vL vQ LW LC LM LL LQ) (hs : M.font.letters.size ≤ maxLen)
    (_ : (Lit.int .i64 c).wf = true) (_ : (Lit.int .i64 d).wf = true) (_ : (Lit.int .i64 p).wf = true) : AC Try.prog 7 [mval M vW vC vM vL vQ, .int .i64 c, .int .i64 d, .int .i64 p] h [] fun r _ => r = .bool true :=
  wearLaw ⟨_, _, _, _, _, _, _, _, _, _, rfl, r, rfl⟩ hs c d p
end Go.Proofs.Ytpenocegikjpaaa
