/- Joined texts. -/
import Derived.Test.YtpenocegikjpaaaB2
/- Strings indexed; fonts. -/
set_option linter.unusedSimpArgs false
set_option linter.unusedVariables false
namespace Go.Ab
theorem ixs_at {P : Program} {t : TypeId} (hu : P.underlying t = some .string) {s : ByteArray} {k : Nat} (hk : k < s.data.toList.length) (h : Heap) : ixsV P t (.string s) (.int .i64 k) h = some ([], .int .u8 (s.data.toList[k]).toNat, h) := by
  have hk' : k < s.size := by rw [Array.length_toList] at hk; exact hk
  have e : s[k]? = some (s.data.toList[k]) := by
    rw [getElem?_pos s k hk']
    rfl
  simp only [ixsV, closed_str, closed_int, Bool.and_self, if_true]
  have : pvc P (Instr.index t (.string s) (.int .i64 k)) = some (.int .u8 (s.data.toList[k]).toNat) := by
    simp [pvc, pv, Instr.index, asIntOf, underlying, bind, Sem.bind, hu, e, pure, program]
  rw [this]; rfl
theorem fontB_n {F : Fnt} (h : fontB F = true) : 1 ≤ F.n ∧ F.n ≤ 40 ∧ F.widths.length = F.n ∧ F.codes.length = F.n := by
  simp only [fontB, inB, Bool.and_eq_true, decide_eq_true_eq] at h
  obtain ⟨⟨⟨⟨⟨⟨h1, h2⟩, h3⟩, _⟩, _⟩, _⟩, _⟩ := h
  exact ⟨by omega, by omega, h2, h3⟩
theorem mxB_in {F : Fnt} {x : Mx} (h : mxB F x = true) : 0 ≤ x.1 ∧ x.1 < F.n := by
  simp only [mxB, Bool.and_eq_true, decide_eq_true_eq] at h
  exact h.1.1
theorem mxB_eq {F : Fnt} (hF : fontB F = true) {k : Nat} {b : Int} (h1 : k < F.codes.length) : mxB F ((k : Int), b) = (setB b && partB b F.codes[k]) := by
  have := fontB_n hF
  have h2 : decide ((0 : Int) ≤ k ∧ (k : Int) < F.n) = true := by simp; omega
  unfold mxB
  simp only [h2, Int.toNat_natCast, List.getD_eq_getElem?_getD, List.getElem?_eq_getElem h1, Option.getD_some, Bool.true_and]
theorem mxB_out {F : Fnt} {a b : Int} (h : ¬ (0 ≤ a ∧ a < F.n)) : mxB F (a, b) = false := by
  unfold mxB
  simp only [h, decide_false, Bool.false_and]
theorem pv_bind {P : Program} {α β : Type} (x : Sem α) (f : α → Sem β) : pv P (x.bind f) = (pv P x).bind fun a => pv P (f a) := by
  induction x with
  | pure a => rfl
  | program k ih => exact ih P
  | _ => rfl
theorem sumW_snoc (l : List Int) (x : Int) : sumW (l ++ [x]) = IntKind.wrap .i64 (sumW l + x) := by simp [sumW, List.foldl_append]
theorem bandsN_snoc (l : List Int) (x : Int) : bandsN (l ++ [x]) = bandsN l + if x = 0 then 1 else 0 := by
  by_cases h : x = 0 <;> simp [bandsN, h]
theorem bandsN_le (l : List Int) : bandsN l ≤ l.length := List.length_filter_le _ _
theorem lineB_len {l : List Int} (h : lineB l = true) : l.length ≤ 120 := by simp only [lineB, Bool.and_eq_true, decide_eq_true_eq] at h; exact h.1
theorem lineB_mem {l : List Int} (h : lineB l = true) : ∀ x ∈ l, 0 ≤ x ∧ x ≤ 60 := by
  simp only [lineB, Bool.and_eq_true, List.all_eq_true, inB, decide_eq_true_eq] at h; exact h.2
theorem sum_bd {l : List Int} (h : ∀ x ∈ l, 0 ≤ x ∧ x ≤ 60) : 0 ≤ l.sum ∧ l.sum ≤ 60 * l.length := by
  induction l with
  | nil => simp
  | cons a l ih =>
    have h1 := h a (by simp)
    have h2 := ih fun x hx => h x (by simp [hx])
    simp only [List.sum_cons, List.length_cons]
    omega
theorem sumW_acc {l : List Int} (h : ∀ x ∈ l, 0 ≤ x ∧ x ≤ 60) : ∀ a : Int, 0 ≤ a → a + 60 * l.length ≤ 4611686018427387904 → l.foldl (fun a x => IntKind.wrap .i64 (a + x)) a = a + l.sum := by
  induction l with
  | nil => intro a _ _; simp
  | cons x l ih =>
    intro a h0 h1
    have hx := h x (by simp)
    simp only [List.length_cons] at h1
    rw [List.foldl_cons, wrap_in (by omega), ih (fun y hy => h y (by simp [hy])) _ (by omega) (by omega), List.sum_cons]
    omega
theorem sumW_eq {l : List Int} (h : lineB l = true) : sumW l = l.sum := by
  have := lineB_len h
  have := sumW_acc (lineB_mem h) 0 (by omega) (by omega)
  rw [Int.zero_add] at this
  exact this
theorem line_bd {l : List Int} (h : lineB l = true) : 0 ≤ l.sum ∧ l.sum ≤ 7200 ∧ bandsN l ≤ 120 := by
  have h1 := sum_bd (lineB_mem h)
  have h2 := lineB_len h
  have h3 := bandsN_le l
  omega
theorem msrB_bd {S : Msr} (h : msrB S = true) : 1 ≤ S.width ∧ S.width ≤ 2000 ∧ 1 ≤ S.thin ∧ S.thin ≤ 100 ∧ S.thin ≤ S.thick ∧ S.thick ≤ 100 := by
  simp only [msrB, inB, Bool.and_eq_true, decide_eq_true_eq] at h; omega
/-- Rise, rest, and whether the line fits. -/
def spreadT (S : Msr) (letters bands : Int) : Int × Int × Bool :=
  let free := S.width - letters - bands * S.thin
  if free < 0 then (0, 0, false)
  else
    let rise := if 0 < bands then min (S.thick - S.thin) (free / bands) else 0
    (rise, free - bands * rise, true)
def tripleV (x : Int × Int × Bool) : Value := .tuple #[.int .i64 x.1, .int .i64 x.2.1, .bool x.2.2]
def spreadL (S : Msr) (l : List Int) : Int × Int × Bool := if msrB S && lineB l then spreadT S l.sum (bandsN l) else (0, 0, false)
theorem spreadL_fits (S : Msr) (l : List Int) : (spreadL S l).2.2 = fitsB S l := by
  unfold spreadL fitsB
  cases h1 : msrB S <;> cases h2 : lineB l <;> simp
  unfold spreadT
  generalize (bandsN l : Int) * S.thin = q
  simp only
  by_cases hf : S.width - l.sum - q < 0
  · rw [if_pos hf]; simp; omega
  · rw [if_neg hf]; simp; omega
theorem mul_bd {a b : Int} (ha : 0 ≤ a ∧ a ≤ 120) (hb : 0 ≤ b ∧ b ≤ 100) : 0 ≤ a * b ∧ a * b ≤ 12000 := by
  refine ⟨Int.mul_nonneg ha.1 hb.1, ?_⟩
  have h1 : a * b ≤ 120 * b := Int.mul_le_mul_of_nonneg_right ha.2 hb.1
  omega
theorem mt_ge {T : List Nat} {h : Heap} {i : Nat} (hi : h.length ≤ i) : MT T h i = True := by simp [MT, hi]
theorem hcs_hob {h : Heap} {i : Nat} {ob : AObj} (e : hob h i = some ob) (o n : Nat) : hcs h i o n = if o + n ≤ ob.cells.length then some ((ob.cells.drop o).take n) else none := by
  unfold hcs; rw [e]; rfl
theorem hc1_hob {h : Heap} {i : Nat} {ob : AObj} (e : hob h i = some ob) (o : Nat) : hc1 h i o = ob.cells[o]? := by
  unfold hc1; rw [e]; rfl
@[simp] theorem wantV_undef {b : Bool} : wantV undef b = false := rfl
end Go.Ab

/- Counting. -/
set_option linter.unusedSimpArgs false
set_option linter.unusedVariables false
namespace Go.Ab
@[simp] theorem bump_len (out : List Int) (x : Mx) : (bump out x).length = out.length := by simp [bump]
theorem bumps_len (xs : List Mx) (out : List Int) : (xs.foldl bump out).length = out.length := by
  induction xs generalizing out with
  | nil => rfl
  | cons x xs ih => rw [List.foldl_cons, ih, bump_len]
theorem bump_at {out : List Int} {x : Mx} {q : Nat} (hq : x.1 = q) (hl : q < out.length) : bump out x = out.set q (out[q] + 1) := by
  unfold bump
  rw [hq, Int.toNat_natCast, List.getD_eq_getElem?_getD, List.getElem?_eq_getElem hl]; rfl
theorem bump_bd {out : List Int} {x : Mx} {n : Int} (h : ∀ v ∈ out, 0 ≤ v ∧ v ≤ n) (hn : 0 ≤ n) : ∀ v ∈ bump out x, 0 ≤ v ∧ v ≤ n + 1 := by
  intro v hv
  unfold bump at hv
  rcases List.mem_or_eq_of_mem_set hv with hv | rfl
  · have := h v hv; omega
  · rw [List.getD_eq_getElem?_getD]
    cases he : out[x.1.toNat]? with
    | none => simp; omega
    | some u => have := h u (List.mem_of_getElem? he); simp; omega
theorem bumps_bd (xs : List Mx) : ∀ {out : List Int} {n : Int}, (∀ v ∈ out, 0 ≤ v ∧ v ≤ n) → 0 ≤ n → ∀ v ∈ xs.foldl bump out, 0 ≤ v ∧ v ≤ n + xs.length := by
  induction xs with
  | nil => intro out n h _ v hv; have := h v hv; simp; omega
  | cons x xs ih =>
    intro out n h hn v hv
    rw [List.foldl_cons] at hv
    have := ih (bump_bd h hn) (by omega) v hv
    simp only [List.length_cons]; omega
theorem zeros_bd (n : Nat) : ∀ v ∈ List.replicate n (0 : Int), 0 ≤ v ∧ v ≤ 0 := by
  intro v hv; rw [List.mem_replicate] at hv; omega
theorem flat_len {m : List (List Mx)} {c : Nat} (h : ∀ l ∈ m, l.length ≤ c) : m.flatten.length ≤ c * m.length := by
  induction m with
  | nil => simp
  | cons a m ih =>
    have h1 := h a (by simp)
    have h2 := ih fun l hl => h l (by simp [hl])
    simp only [List.flatten_cons, List.length_append, List.length_cons, Nat.mul_succ]
    omega
theorem magB_mem {F : Fnt} {m : List (List Mx)} (h : magB F m = true) : m.length = F.n ∧ (∀ l ∈ m, l.length ≤ 20) ∧ ∀ l ∈ m, ∀ x ∈ l, mxB F x = true := by
  simp only [magB, Bool.and_eq_true, decide_eq_true_eq, List.all_eq_true, chanB] at h
  exact ⟨h.1.2, fun l hl => (h.2 l hl).1, fun l hl x hx => (h.2 l hl).2 x hx⟩
theorem magB_fn {F : Fnt} {m : List (List Mx)} (h : magB F m = true) : fontB F = true := by
  simp only [magB, Bool.and_eq_true] at h; exact h.1.1
theorem flat_take_snoc {m : List (List Mx)} {k : Nat} (hk : k < m.length) : (m.take (k + 1)).flatten = (m.take k).flatten ++ m[k] := by
  rw [take_snoc hk, List.flatten_append, List.flatten_cons, List.flatten_nil, List.append_nil]
theorem foldl_snoc (xs : List Mx) (x : Mx) (out : List Int) : (xs ++ [x]).foldl bump out = bump (xs.foldl bump out) x := by rw [List.foldl_append]; rfl
theorem mchB_parts {M : Mch} (h : mchB M = true) : magB M.font M.mag = true ∧ (0 ≤ M.spare ∧ M.spare ≤ 60) ∧ M.wait.length ≤ 240 ∧ M.line.all (pieceB M.font) = true ∧ M.wait.all (mxB M.font) = true ∧ fitsB M.msr (itemsL M.font M.line) = true := by
  simp only [mchB, Bool.and_eq_true, decide_eq_true_eq, inB] at h
  obtain ⟨⟨⟨⟨⟨h1, h2⟩, h3⟩, h4⟩, h5⟩, h6⟩ := h
  exact ⟨h1, h2, h3, h4, h5, h6⟩
theorem fitsB_parts {S : Msr} {l : List Int} (h : fitsB S l = true) : msrB S = true ∧ lineB l = true ∧ l.sum + bandsN l * S.thin ≤ S.width := by
  simp only [fitsB, Bool.and_eq_true, decide_eq_true_eq] at h; exact ⟨h.1.1, h.1.2, h.2⟩
theorem mchB_line {M : Mch} (h : mchB M = true) : M.line.length ≤ 120 := by
  have h1 := lineB_len (fitsB_parts (mchB_parts h).2.2.2.2.2).2.1
  simpa [itemsL] using h1
/-- Read and written: the k-th. -/
theorem RL.modI {h : Heap} {v : Value} {L : List Nat} {k : Nat} {l : List Int} (r : RL true EI h v l L) (hk : k < l.length) (a : Int) :
    ∃ i o h', (∀ h', ixaV 1 v (.int .i64 k) h' = some ([], .pointer (some ⟨i, o, none⟩), h')) ∧ hc1 h i o = some (.int .i64 l[k]) ∧ strV 1 (.pointer (some ⟨i, o, none⟩)) (.int .i64 a) h = some ([i], undef, h') ∧ RL true EI h' v (l.set k a) L ∧ Kp L h h' ∧ L = [i] ∧ h'.length = h.length := by
  obtain ⟨i, o, e1, e2, _⟩ := r.atI hk
  obtain ⟨i', o', h', f1, f2, f3, f4, f5, f6⟩ := r.putI hk a
  have := (e1 h).symm.trans (f1 h)
  simp only [Option.some.injEq, Prod.mk.injEq, Value.pointer.injEq, Addr.mk.injEq, true_and, and_true] at this
  obtain ⟨rfl, rfl⟩ := this
  exact ⟨i, o, h', e1, e2, f2, f3, f4, f5, f6⟩
/-- A struct laid in a new variable. -/
theorem strV_new (h : Heap) (x y a b : Int) : strV 2 (.pointer (some ⟨h.length, 0, none⟩)) (.agg #[.int .i64 a, .int .i64 b]) (h ++ [some ⟨[.int .i64 x, .int .i64 y], 2, true⟩]) = some ([h.length], undef, h ++ [some ⟨[.int .i64 a, .int .i64 b], 2, true⟩]) := by
  simp [strV]
end Go.Ab

/- What is held while a region draws. -/
set_option linter.unusedSimpArgs false
set_option linter.unusedVariables false
namespace Go.Ab
@[simp] theorem okH_cons {u : List Nat} {i j : Nat} {hd : List (Nat × Nat)} {T : List Nat} : okH u ((i, j) :: hd) T = ((i ∈ u → j ∉ T) ∧ okH u hd T) := by
  apply propext
  constructor
  · intro h
    exact ⟨h (i, j) (by simp), fun x hx => h x (by simp [hx])⟩
  · rintro ⟨h1, h2⟩ x hx
    rcases List.mem_cons.1 hx with rfl | hx
    · exact h1
    · exact h2 x hx
@[simp] theorem okH_nil' {u : List Nat} {T : List Nat} : okH u [] T = True := by
  apply propext; simp [okH]
@[simp] theorem fltH_cons {u : List Nat} {i j : Nat} {hd : List (Nat × Nat)} : fltH u ((i, j) :: hd) = if u.contains i = true then (i, j) :: fltH u hd else fltH u hd := by
  unfold fltH; rw [List.filter_cons]
/-- The object that a pointer names. -/
def ptrId : Value → Option Nat
  | .pointer (some ⟨i, _, _⟩) => some i
  | _ => none
@[simp] theorem ptrId_some {i o : Nat} {p} : ptrId (.pointer (some ⟨i, o, p⟩)) = some i := rfl
section
variable {tm : Nat → Value}
@[simp] theorem readId_ld {a : PO} : readId tm (.ld a) = ptrId (a.ev tm) := by
  simp only [readId]; unfold ptrId; rfl
@[simp] theorem readId_ldn {n : Nat} {a : PO} : readId tm (.ldn n a) = ptrId (a.ev tm) := by
  simp only [readId]; unfold ptrId; rfl
@[simp] theorem readId_mov {x : PO} : readId tm (.mov x) = none := rfl
@[simp] theorem readId_fa {n : Nat} {x : PO} : readId tm (.fa n x) = none := rfl
@[simp] theorem readId_len {x : PO} : readId tm (.len x) = none := rfl
@[simp] theorem readId_bin {o : BinOp} {t : TypeId} {x y : PO} : readId tm (.bin o t x y) = none := rfl
@[simp] theorem readId_un {o : UnOp} {x : PO} : readId tm (.un o x) = none := rfl
@[simp] theorem readId_ixa {n : Nat} {x y : PO} : readId tm (.ixa n x y) = none := rfl
@[simp] theorem readId_new {z : List Value} : readId tm (.new z) = none := rfl
@[simp] theorem readId_box {z : PO} : readId tm (.box z) = none := rfl
@[simp] theorem readId_ext {z : PO} {j : Nat} : readId tm (.ext z j) = none := rfl
@[simp] theorem readId_fld {z : PO} {o : Nat} {n : Option Nat} : readId tm (.fld o n z) = none := rfl
end
end Go.Ab

/- Machines held in variables: the cells as a list. -/
set_option linter.unusedSimpArgs false
set_option linter.unusedVariables false
namespace Go.Ab
/-- The cells l read as the machine M; L: the objects. -/
def MV (w : Bool) (h : Heap) (l : List Value) (M : Mch) (L : List Nat) : Prop := ∃ vW vC vM vL vQ LW LC LM LL LQ, l = mcells M vW vC vM vL vQ ∧ RM w h M vW vC vM vL vQ LW LC LM LL LQ ∧ L = LW ++ LC ++ LM ++ LL ++ LQ
/-- A machine in memory of its own. -/
def MN (n : Nat) (h : Heap) (l : List Value) (M : Mch) (L : List Nat) : Prop := MV true h l M L ∧ L.Nodup ∧ ∀ i ∈ L, n ≤ i
theorem NM.mn {n : Nat} {h : Heap} {v : Value} {M : Mch} (x : NM n h v M) : ∃ l L, v = .agg l.toArray ∧ MN n h l M L := by
  obtain ⟨vW, vC, vM, vL, vQ, LW, LC, LM, LL, LQ, rfl, r, nd, ge⟩ := x
  exact ⟨mcells M vW vC vM vL vQ, _, rfl, ⟨_, _, _, _, _, _, _, _, _, _, rfl, r, rfl⟩, nd, ge⟩
section
variable {w : Bool} {h h' : Heap} {l : List Value} {M : Mch} {L T : List Nat}
theorem MV.kp (r : MV w h l M L) (k : Kp T h h') (hd : ∀ i ∈ L, i ∉ T) : MV w h' l M L := by
  obtain ⟨vW, vC, vM, vL, vQ, LW, LC, LM, LL, LQ, rfl, r, rfl⟩ := r
  exact ⟨_, _, _, _, _, _, _, _, _, _, rfl, r.kp k hd, rfl⟩
theorem MV.kp0 (r : MV w h l M L) (k : Kp [] h h') : MV w h' l M L := r.kp k (by simp)
theorem MV.weak (r : MV w h l M L) : MV false h l M L := by
  obtain ⟨vW, vC, vM, vL, vQ, LW, LC, LM, LL, LQ, rfl, r, rfl⟩ := r
  exact ⟨_, _, _, _, _, _, _, _, _, _, rfl, r.weak, rfl⟩
theorem MV.len (r : MV w h l M L) : l.length = 10 := by
  obtain ⟨vW, vC, vM, vL, vQ, LW, LC, LM, LL, LQ, rfl, r, rfl⟩ := r; rfl
theorem MV.one (r : MV w h l M L) : oneAll l = true := by
  obtain ⟨vW, vC, vM, vL, vQ, LW, LC, LM, LL, LQ, rfl, r, rfl⟩ := r
  simp [mcells, r.rW.one, r.rC.one, r.rM.one, r.rL.one, r.rQ.one]
theorem MV.lt (r : MV w h l M L) : ∀ i ∈ L, i < h.length := by
  obtain ⟨vW, vC, vM, vL, vQ, LW, LC, LM, LL, LQ, rfl, r, rfl⟩ := r
  intro i hi
  simp only [List.mem_append] at hi
  rcases hi with (((hi | hi) | hi) | hi) | hi
  · exact r.rW.lt i hi
  · exact r.rC.lt i hi
  · exact r.rM.lt i hi
  · exact r.rL.lt i hi
  · exact r.rQ.lt i hi
end
theorem hcs_kp {T : List Nat} {h h' : Heap} (k : Kp T h h') {i o n : Nat} {l : List Value} (e : hcs h i o n = some l) (hn : i ∉ T) : hcs h' i o n = some l := by
  unfold hcs at e ⊢
  cases hb : hob h i with
  | none => rw [hb] at e; cases e
  | some ob => rw [hob_kp k hb hn]; rw [hb] at e; exact e
theorem hcs_lt {h : Heap} {i o n : Nat} {l : List Value} (e : hcs h i o n = some l) : i < h.length := by
  unfold hcs at e
  cases hb : hob h i with
  | none => rw [hb] at e; cases e
  | some ob => exact hob_lt hb
theorem hcs_kp0 {h h' : Heap} (k : Kp [] h h') {i o n : Nat} {l : List Value} (e : hcs h i o n = some l) : hcs h' i o n = some l := hcs_kp k e (by simp)
/-- The cells of a variable that has just been made. -/
theorem hcs_var {h : Heap} {l : List Value} {n : Nat} (hl : l.length = n) : hcs (h ++ [some ⟨l, n, true⟩]) h.length 0 n = some l := by
  rw [hcs_tail0]
  have : hob ([some ⟨l, n, true⟩] : Heap) 0 = some ⟨l, n, true⟩ := rfl
  unfold hcs
  rw [this, Option.bind_some, if_pos (by simp [hl]), List.drop_zero, List.take_of_length_le (by simp [hl])]
theorem strV_var {h : Heap} {z l : List Value} {n : Nat} (hz : z.length = n) (hl : l.length = n) (ho : oneAll l = true) :
    strV n (.pointer (some ⟨h.length, 0, none⟩)) (.agg l.toArray) (h ++ [some ⟨z, n, true⟩]) = some ([h.length], undef, h ++ [some ⟨l, n, true⟩]) := by
  unfold strV
  simp only [hob_tail0, set_tail0]
  have : hob ([some ⟨z, n, true⟩] : Heap) 0 = some ⟨z, n, true⟩ := rfl
  rw [this]
  have hc : (Value.agg l.toArray).cells.toList = l := by simp
  simp only [Option.bind_some, hc]
  rw [if_pos (by simp [hl, ho, hz])]
  simp [hz]
end Go.Ab
