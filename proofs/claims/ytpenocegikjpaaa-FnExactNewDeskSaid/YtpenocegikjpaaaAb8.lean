/- Each operation that is no call does in the world what the calculus says of it: copy, and all of them together. -/
import Derived.Test.YtpenocegikjpaaaAb7
set_option linter.unusedSimpArgs false
set_option linter.unusedVariables false
namespace Go.Ab
section
variable {P : Program} {ρ : Rho} {tm : Nat → Value} {h h' : Heap} {w : World} {g : Operand → Value} {o : Oper} {po : POp} {T : List Nat} {v : Value}

theorem src_first {es m n : Nat} {u x : Value} {news : List Value} (hs : Sim ρ h w) (hv : VR ρ u x) (e : srcA h es u = some (m, news)) (hn : n ≤ m) :
    ∃ rl : List Value, (Builtin.lenOf x).run P w = .ok m w ∧ (Builtin.firstCells es n x).run P w = .ok rl.toArray w ∧ VRL ρ (news.take (n * es)) rl ∧ rl.length = n * es := by
  obtain ⟨a, c, rl, rfl, hrl, hvr, hone, hcell⟩ := src_rel hs hv e
  have hnm : n * es ≤ m * es := Nat.mul_le_mul_right _ hn
  refine ⟨rl.take (n * es), by simp [Builtin.lenOf], ?_, hvr.take _, by simp; omega⟩
  cases a with
  | none =>
    by_cases hm : m = 0
    · subst hm
      have : n = 0 := by omega
      subst this
      simp [Builtin.firstCells]
    · obtain ⟨b, hb, _⟩ := hcell hm; cases hb
  | some b =>
    by_cases hm : m = 0
    · subst hm
      have : n = 0 := by omega
      subst this
      simp [Builtin.firstCells, loadCells, loadCellsFrom]
    · obtain ⟨b', hb, hc⟩ := hcell hm
      injection hb with hb; subst hb
      exact run_firstCells_some w es n b m c _ (by simp; omega) (fun j v hj => by
        rw [List.getElem?_take] at hj
        split at hj
        · exact hc j v hj
        · cases hj)

theorem s_cpy {xs : Array Operand} {ts : Array TypeId} (ho : o.op = .call { callee := .builtin .copy, args := xs, argTypes := ts }) (hp : prepOp P o.op = some po) (ha : aop P tm h po = some (T, v, h')) (hg : GV ρ tm g) (hs : Sim ρ h w) : Out P (execOp g o) ρ h w T v h' := by
  obtain ⟨cs, hx⟩ := exec_builtin (P := P) (g := g) ho
  rw [ho] at hp
  simp only [prepOp] at hp
  split at hp
  · rename_i s x t u exs ets
    have hxs : xs = #[s, x] := Array.toList_inj.1 exs
    have hts : ts = #[t, u] := Array.toList_inj.1 ets
    subst hxs; subst hts
    simp only [bind, Option.bind_eq_some_iff] at hp
    obtain ⟨p, h1, q, h2, hp⟩ := hp
    split at hp
    · rename_i e e' hu hu'
      simp only [Option.bind_eq_some_iff] at hp
      obtain ⟨n, hn, hp⟩ := hp
      injection hp with hp; subst hp
      obtain ⟨ti, hti, hsz⟩ := szOf_some hn
      subst hsz
      have hvd := hg s p h1
      have hvs := hg x q h2
      simp only [aop, Option.bind_eq_some_iff] at ha
      obtain ⟨⟨m, l⟩, hsrc, ha⟩ := ha
      simp only at ha
      have hx' : (execOp g o).run P w = ((Builtin.copy_ #[t, u] o.type #[g s, g x]).run P w).andThen fun a w' => .ok (.value a) w' := by rw [hx]; simp [builtin]
      split at ha
      · rename_i es
        rw [es] at hvd
        have hgs := nils_inv hvd
        injection ha with ha; injection ha with e1 e2; injection e2 with e2 e3; subst e1; subst e2; subst e3
        obtain ⟨rl, r1, r2, _, _⟩ := src_first (P := P) (n := 0) hs hvs hsrc (by omega)
        refine .quiet hs (rv := .int .i64 0) ?_ (.int _ _)
        have r2' : (Builtin.firstCells ti.size (Nat.min m 0) (g x)).run P w = .ok rl.toArray w := by rw [show Nat.min m 0 = 0 from Nat.min_zero m]; exact r2
        rw [hx', hgs]
        simp [Builtin.copy_, run_underlying hu, sizeOf, typeInfo, hti, r1, r2, goInt]
      · rename_i i ofs len cc es
        rw [es] at hvd
        obtain ⟨k, ra, rc, hgs, hk, hle, hfull, hadr, hsp⟩ := sl_inv hvd
        simp only [Option.bind_eq_some_iff] at ha
        obtain ⟨ob, hob', ha⟩ := ha
        split at ha
        · rename_i hc
          obtain ⟨d1, d2, d3, d4⟩ := hc
          injection ha with ha; injection ha with e1 e2; injection e2 with e2 e3; subst e1; subst e2; subst e3
          obtain ⟨rl, r1, r2, r3, r4⟩ := src_first (P := P) (n := Nat.min m len) hs hvs hsrc (Nat.min_le_left ..)
          have hone : oneAll (l.take (Nat.min m len * ti.size)) = true := by
            simp only [oneAll, List.all_eq_true] at d3 ⊢
            exact fun v hv => d3 v (List.mem_of_mem_take hv)
          obtain ⟨w', hw, s', st⟩ := storeRow (P := P) hs hob' d1 r3 hone (by rw [r3.1]; exact r4) d4 hk
          by_cases hrc : rc = 0
          · have hl0 : len = 0 := by omega
            subst hl0
            simp only [Nat.min_eq_min, Nat.min_zero, Nat.zero_mul] at *
            have hrl : rl = [] := List.eq_nil_of_length_eq_zero r4
            subst hrl
            have hww : w' = w := by simp [storeCells] at hw; exact hw.symm
            subst hww
            refine ⟨.value (.int .i64 0), w', ρ, .int .i64 0, ?_, .inl rfl, .int _ _, s', st⟩
            rw [hx', hgs]
            simp [Builtin.copy_, run_underlying hu, sizeOf, typeInfo, hti, r1, r2, goInt, storeCells]
          · have := hadr hrc
            subst this
            refine ⟨.value (.int .i64 (Nat.min m len)), w', ρ, .int .i64 (Nat.min m len), ?_, .inl rfl, .int _ _, s', st⟩
            rw [hx', hgs]
            simp only [Nat.min_eq_min] at r2 hw ⊢
            simp [Builtin.copy_, run_underlying hu, sizeOf, typeInfo, hti, r1, r2, goInt, hw]
        · cases ha
      · cases ha
    · cases hp
  · cases hp

theorem fill_get (place : Nat → Option (Nat × Nat)) : True := trivial

theorem s_build {t : TypeId} {parts : Array (Nat × Operand)} (ho : o.op = .build t parts) (hp : prepOp P o.op = some po) (ha : aop P tm h po = some (T, v, h')) (hg : GV ρ tm g) : OutQ P (execOp g o) ρ v ∧ T = [] ∧ h' = h := by
  rw [ho] at hp
  simp only [prepOp, bind, Option.bind_eq_some_iff] at hp
  obtain ⟨z, hz, hp⟩ := hp
  split at hp
  · rename_i fs hu
    simp only [Option.bind_eq_some_iff] at hp
    obtain ⟨ps, hps, hp⟩ := hp
    split at hp
    · rename_i hall
      injection hp with hp; subst hp
      obtain ⟨ti, zv, hti, hzv, rfl, _, hzall⟩ := zeroOf_some hz
      simp only [aop] at ha
      split at ha
      · rename_i hsz
        simp only [Option.map_eq_some_iff, Prod.mk.injEq] at ha
        obtain ⟨l, hl, rfl, rfl, rfl⟩ := ha
        obtain ⟨hlen, hrel⟩ := mapM_rel hps
        have hplaces : ∀ w, (fs.mapM fun f => (do pure (f.offset, ← sizeOf f.type) : Sem (Nat × Nat))).run P w = .ok (fs.map fun f => (f.offset, (szOf P f.type).getD 0)) w := by
          intro w
          have key : ∀ (F : Field → Sem (Nat × Nat)) (G : Field → Nat × Nat) (l : List Field), (∀ f ∈ l, (F f).run P w = .ok (G f) w) → (l.mapM F).run P w = .ok (l.map G) w := by
            intro F G l
            induction l with
            | nil => intro _; rfl
            | cons f l ih =>
              intro hh
              have h1 := hh f (List.mem_cons_self ..)
              have h2 := ih (fun x hx => hh x (List.mem_cons_of_mem _ hx))
              simp [List.mapM_cons, h1, h2]
          rw [Array.mapM_eq_mapM_toList, Sem.run_map, key _ (fun f => (f.offset, (szOf P f.type).getD 0)) fs.toList (fun f hf => by
            obtain ⟨n, hn⟩ := Option.isSome_iff_exists.1 (List.all_eq_true.1 hall f hf)
            obtain ⟨i, hi, hsz⟩ := szOf_some hn
            simp [sizeOf, typeInfo, hi, hn, hsz])]
          simp only [Result.andThen]
          congr 1
          exact Array.toList_inj.1 (by simp)
        obtain ⟨rl, hf, hvr⟩ := fill_rel (ρ := ρ) (fun i => (fs.map fun f => (f.offset, (szOf P f.type).getD 0))[i]?) (parts.map fun (i, x) => (i, g x)).toList (ps.map fun p => (p.1, (p.2.2.ev tm).cells.toList)) _ l zv.cells (by simp at hlen ⊢; exact hlen)
          (fun j p q hp hq => by
            simp only [Array.toList_map, List.getElem?_map, Option.map_eq_some_iff] at hp hq
            obtain ⟨⟨i, x⟩, hx, rfl⟩ := hp
            obtain ⟨⟨ofs, sz, px⟩, hpx, rfl⟩ := hq
            have hfx := hrel j _ _ hx hpx
            simp only [Option.bind_eq_some_iff, Option.some.injEq, Prod.mk.injEq] at hfx
            obtain ⟨f, hf, n, hn, y, hy, rfl, rfl, rfl⟩ := hfx
            have hcv := (hg x y hy).cells
            have hq := List.all_eq_true.1 hsz _ (List.mem_of_getElem? hpx)
            simp only [beq_iff_eq] at hq
            refine ⟨n, by simp [hf, hn], ?_, hcv⟩
            have h0 := hcv.1
            simp only [Array.length_toList] at h0
            show (g x).cells.size = n
            omega) (atoms_refl hzall) hl
        refine Q3 (rv := .agg rl) (fun w => ?_) (.agg_iff (by simpa using hvr))
        simp only [execOp, ho, Instr.build, Sem.run_bind, run_underlying hu, Result.andThen_ok, zeroValue, typeInfo, run_program, hti, Sem.run_pure, hzv, hplaces, hf]
      · cases ha
    · cases hp
  · cases hp

theorem op_sound (hp : prepOp P o.op = some po) (ha : aop P tm h po = some (T, v, h')) (hg : GV ρ tm g) (hs : Sim ρ h w) : Out P (execOp g o) ρ h w T v h' := by
  cases hop : o.op with
  | move x => obtain ⟨q, rfl, rfl⟩ := s_move (.inl hop) hp ha hg; exact q.out hs
  | assign x => obtain ⟨q, rfl, rfl⟩ := s_move (.inr hop) hp ha hg; exact q.out hs
  | pick c a b => obtain ⟨q, rfl, rfl⟩ := s_pick hop hp ha hg; exact q.out hs
  | alloc t => exact s_alloc hop hp ha hs
  | box t x => exact s_box hop hp ha hg hs
  | build t ps => obtain ⟨q, rfl, rfl⟩ := s_build hop hp ha hg; exact q.out hs
  | buildSlice t n ps => exact s_bsl hop hp ha hg hs
  | load t a => exact s_load hop hp ha hg hs
  | store t a x => exact s_store hop hp ha hg hs
  | nilCheck x => obtain ⟨q, rfl, rfl⟩ := s_nilCheck hop hp ha hg; exact q.out hs
  | binOp op t x y t' => obtain ⟨q, rfl, rfl⟩ := s_bin hop hp ha hg; exact q.out hs
  | unOp op t x => obtain ⟨q, rfl, rfl⟩ := s_un hop hp ha hg; exact q.out hs
  | convert s d x => exact s_conv hop hp ha hg hs
  | makeInterface t x => obtain ⟨q, rfl, rfl⟩ := s_mki hop hp ha hg; exact q.out hs
  | makeFunc f xs ys => obtain ⟨q, rfl, rfl⟩ := s_mkf hop hp ha hg; exact q.out hs
  | makeSlice t l c => exact s_mks hop hp ha hg hs (fun i j e => by rw [e])
  | slice t x lo hi mx => obtain ⟨q, rfl, rfl⟩ := s_ssl hop hp ha hg hs; exact q.out hs
  | fieldAddr t x f => obtain ⟨q, rfl, rfl⟩ := s_fa hop hp ha hg; exact q.out hs
  | field t x f => obtain ⟨q, rfl, rfl⟩ := s_fld hop hp ha hg; exact q.out hs
  | indexAddr t x i => obtain ⟨q, rfl, rfl⟩ := s_ixa hop hp ha hg; exact q.out hs
  | index t x i => obtain ⟨q, rfl, rfl⟩ := s_ixs hop hp ha hg; exact q.out hs
  | extract x j => obtain ⟨q, rfl, rfl⟩ := s_ext hop hp ha hg; exact q.out hs
  | call c =>
    obtain ⟨cal, xs, ts⟩ := c
    cases cal with
    | value f => rw [hop] at hp; simp [prepOp] at hp
    | invoke r m => rw [hop] at hp; simp [prepOp] at hp
    | builtin b =>
      cases b with
      | len => obtain ⟨q, rfl, rfl⟩ := s_len hop hp ha hg; exact q.out hs
      | append => exact s_app hop hp ha hg hs
      | copy => exact s_cpy hop hp ha hg hs
      | min => obtain ⟨q, rfl, rfl⟩ := s_mnx (mx := false) hop hp ha hg; exact q.out hs
      | max => obtain ⟨q, rfl, rfl⟩ := s_mnx (mx := true) hop hp ha hg; exact q.out hs
      | panic => rw [hop] at hp; simp [prepOp] at hp; subst hp; simp [aop] at ha
      | _ => rw [hop] at hp; simp [prepOp] at hp
  | panic x => rw [hop] at hp; simp [prepOp] at hp; subst hp; simp [aop] at ha
  | _ => rw [hop] at hp; simp [prepOp] at hp

/-- A call of a function value. -/
theorem call_sound {f' : Operand} {xs' : Array Operand} {f : PO} {xs : List PO} (hc : calOf o.op = some (f', xs')) (h1 : pO f' = some f) (h2 : pOs xs'.toList = some xs) (hg : GV ρ tm g) {fn : FuncId} {ys zs : Array Value} (hf : f.ev tm = .func (.func fn) ys zs) {fd : Func}
    (hfd : P.funcs[fn]? = some fd) (hbody : fd.body.isSome = true) (hname : fd.name ≠ "runtime.NumGoroutine") :
    ∃ rargs, (execOp g o).run P w = .ok (.enter fn rargs) w ∧ VRL ρ (ys.toList ++ xs.map (·.ev tm) ++ zs.toList) rargs.toList := by
  have : ∃ ts, o.op = .call { callee := .value f', args := xs', argTypes := ts } := by
    unfold calOf at hc
    split at hc
    · rename_i fv as ts hop
      injection hc with hc; injection hc with e1 e2; subst e1; subst e2
      exact ⟨ts, hop⟩
    · cases hc
  obtain ⟨ts, hop⟩ := this
  have hv := hg f' f h1
  rw [hf] at hv
  obtain ⟨ys', zs', hgf, hy, hz⟩ := hv.func_list
  refine ⟨ys' ++ xs'.map g ++ zs', ?_, by simpa using (hy.append (pOs_rel h2 hg)).append hz⟩
  have hbn : fd.body ≠ none := by intro e; rw [e] at hbody; cases hbody
  simp [execOp, hop, resolve, invoke, hgf, Deferred.ofValue, callFunc, hfd, hname, hbn]
end
end Go.Ab
