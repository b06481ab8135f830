/- The cleaned code, how it is made from the program's code, and the calculus over it. -/
import Derived.Test.YtpenocegikjpaaaAb0
namespace Go.Ab

inductive PO
  | t (i : Nat)
  | c (v : Value)

inductive POp
  | mov (x : PO)
  | pick (c a b : PO)
  | new (z : List Value)
  | box (x : PO)
  | bld (z : List Value) (ps : List (Nat × Nat × PO))
  | bsl (es len : Nat) (z : List Value) (ps : List (Nat × PO))
  | ld (a : PO)
  | ldn (n : Nat) (a : PO)
  | str (n : Nat) (a x : PO)
  | nch (x : PO)
  | bin (op : BinOp) (t : TypeId) (x y : PO)
  | snl (neg : Bool) (x : PO)
  | un (op : UnOp) (x : PO)
  | cnv (s d : TypeId) (x : PO)
  | bst (x : PO)
  | mki (t : TypeId) (x : PO)
  | mkf (fn : Fn) (xs ys : List PO)
  | mks (es by_ : Nat) (z : List Value) (l : PO)
  | ssl (t : TypeId) (x : PO) (lo hi : Option PO)
  | sl (es : Nat) (x : PO) (lo hi mx : Option PO)
  | fa (o : Nat) (x : PO)
  | fld (o : Nat) (n : Option Nat) (x : PO)
  | ixa (es : Nat) (x i : PO)
  | ixf (len es : Nat) (x i : PO)
  | ixs (t : TypeId) (x i : PO)
  | ext (x : PO) (j : Nat)
  | len (x : PO)
  | lns (x : PO)
  | mnx (mx : Bool) (xs : List PO)
  | app (es by_ : Nat) (z : List Value) (s x : PO)
  | cpy (es : Nat) (d s : PO)
  | pnc

inductive PS
  | o (d : Option Nat) (g : Option (Nat × Bool)) (op : POp)
  | c (d : Option Nat) (g : Option (Nat × Bool)) (f : PO) (xs : List PO)

inductive Plan
  | dn
  | tk (i : Nat) (s : PS) (p : Plan)
  | br (i : Nat) (u : List Nat) (s : PS) (p more : Plan)
  | ed

inductive PCode
  | sk
  | rg (ss : List PS)
  | dr (p : Plan)
  | sq (a b : PCode)
  | cd (c : PO) (a b : PCode)
  | bk (id : Nat) (c : PCode)
  | lp (c : PCode)
  | ex (id : Nat)
  | rt

inductive PRes
  | t (i : Nat)
  | c1 (i : Nat)
  | cn (i n : Nat)

structure PFn where
  np : Nat
  nt : Nat
  res : List PRes
  body : PCode

/-! ### values without addresses -/
def atomB : Value → Bool
  | .bool _ | .int .. | .string _ | .pointer none | .slice none 0 0 | .nilFunc | .nilIface => true
  | .func (.func _) xs ys => xs.size == 0 && ys.size == 0
  | _ => false
def closedB : Value → Bool
  | .agg cs | .tuple cs => cs.toList.all atomB
  | v => atomB v

def notNilI : Value → Bool
  | .nilIface => false
  | _ => true

/-- A pure computation of the model's. -/
def pv (P : Program) {α : Type} : Sem α → Option α
  | .pure a => some a
  | .program k => pv P (k P)
  | _ => none

/-- A pure computation whose value has no address in it. -/
def pvc (P : Program) (s : Sem Value) : Option Value := (pv P s).bind fun v => if closedB v = true then some v else none

/-! ### the making -/
section prep
variable (P : Program)
def szOf (t : TypeId) : Option Nat := (P.info? t).map (·.size)
def byOf (t : TypeId) : Option Nat := (P.info? t).map (·.bytes)
def zeroOf (t : TypeId) : Option (List Value) := (P.info? t).bind fun i => i.zero.bind fun z => if closedB z && z.cells.toList.all atomB then some z.cells.toList else none
def aggOf (t : TypeId) : Option Bool := (P.underlying t).map fun | .struct _ | .array _ _ => true | _ => false

def pO : Operand → Option PO
  | .tmp t => some (.t t)
  | .const v => if closedB v then some (.c v) else none
  | .func f => some (.c (.func (.func f) #[] #[]))
  | _ => none

def pOs (xs : List Operand) : Option (List PO) := xs.mapM pO
def pOo : Option Operand → Option (Option PO)
  | none => some none
  | some x => (pO x).map some

def sameOp : Operand → Operand → Bool
  | .tmp i, .tmp j => i == j
  | .const (.int k n), .const (.int k' n') => k == k' && n == n'
  | _, _ => false

def prepOp : Op → Option POp
  | .move x | .assign x => (pO x).map .mov
  | .pick c a b => do some (.pick (← pO c) (← pO a) (← pO b))
  | .alloc t => do some (.new (← zeroOf P t))
  | .box _ x => (pO x).map .box
  | .build t parts => do
    let z ← zeroOf P t
    match P.underlying t with
    | some (.struct fs) =>
      let ps ← parts.toList.mapM fun p => do
        let f ← fs[p.1]?
        let s ← szOf P f.type
        let x ← pO p.2
        some (f.offset, s, x)
      if (fs.toList.all fun f => (szOf P f.type).isSome) then some (.bld z ps) else none
    | _ => none
  | .buildSlice t len parts => do
    match P.underlying t with
    | some (.slice e) =>
      let s ← szOf P e
      let z ← zeroOf P e
      let ps ← parts.toList.mapM fun p => do some (p.1, ← pO p.2)
      if len * s ≤ 2 ^ 24 ∧ z.length = s ∧ 0 < s then some (.bsl s len z ps) else none
    | _ => none
  | .load t a => do
    let x ← pO a
    let s ← szOf P t
    if ← aggOf P t then some (.ldn s x) else some (.ld x)
  | .store t a v => do some (.str (← szOf P t) (← pO a) (← pO v))
  | .nilCheck x => (pO x).map .nch
  | .binOp op t x y _ => do
    let x' ← pO x
    let y' ← pO y
    match op, P.underlying t, y' with
    | .eql, some (.slice _), .c (.slice none 0 0) => some (.snl false x')
    | .neq, some (.slice _), .c (.slice none 0 0) => some (.snl true x')
    | _, _, _ => if P.eqGuardType P.depth t then none else some (.bin op t x' y')
  | .unOp op _ x => (pO x).map (.un op)
  | .convert s d x => do
    let x' ← pO x
    match P.underlying s, P.underlying d with
    | some (.slice e), some .string => if P.underlying e matches some (.int .u8) then some (.bst x') else none
    | _, _ => some (.cnv s d x')
  | .makeInterface t x => do
    let x' ← pO x
    match P.underlying t with
    | some (.interface _) => none
    | some _ => some (.mki t x')
    | none => none
  | .makeFunc fn xs ys => do some (.mkf fn (← pOs xs.toList) (← pOs ys.toList))
  | .makeSlice t l c => do
    match P.underlying t with
    | some (.slice e) =>
      let s ← szOf P e
      let b ← byOf P e
      let z ← zeroOf P e
      let l' ← pO l
      if z.length = s ∧ 0 < s ∧ sameOp l c = true then some (.mks s b z l') else none
    | _ => none
  | .slice t x lo hi mx => do
    let x' ← pO x
    let lo' ← pOo lo
    let hi' ← pOo hi
    let mx' ← pOo mx
    match P.underlying t, mx' with
    | some .string, none => some (.ssl t x' lo' hi')
    | some (.slice e), mx' => some (.sl (← szOf P e) x' lo' hi' mx')
    | _, _ => none
  | .fieldAddr t x f => do
    let x' ← pO x
    match P.underlying t with
    | some (.struct fs) =>
      let fd ← fs[f]?
      let s ← szOf P fd.type
      if s = 0 then none else some (.fa fd.offset x')
    | _ => none
  | .field t x f => do
    let x' ← pO x
    match P.underlying t with
    | some (.struct fs) =>
      let fd ← fs[f]?
      let s ← szOf P fd.type
      let a ← aggOf P fd.type
      some (.fld fd.offset (if a then some s else none) x')
    | _ => none
  | .indexAddr t x i => do
    let x' ← pO x
    let i' ← pO i
    match P.underlying t with
    | some (.slice e) => some (.ixa (← szOf P e) x' i')
    | some (.array n e) => some (.ixf n (← szOf P e) x' i')
    | _ => none
  | .index t x i => do
    let x' ← pO x
    let i' ← pO i
    match P.underlying t with
    | some .string => some (.ixs t x' i')
    | _ => none
  | .extract x j => do some (.ext (← pO x) j)
  | .call { callee := .builtin .len, args := xs, argTypes := ts } =>
    match xs.toList, ts.toList with
    | [x], [t] => do
      let x' ← pO x
      match P.underlying t with
      | some .string => some (.lns x')
      | some (.slice _) => some (.len x')
      | _ => none
    | _, _ => none
  | .call { callee := .builtin .append, args := xs, argTypes := ts } =>
    match xs.toList, ts.toList with
    | [s, x], [t, u] => do
      let s' ← pO s
      let x' ← pO x
      match P.underlying t, P.underlying u with
      | some (.slice e), some (.slice _) =>
        let n ← szOf P e
        let b ← byOf P e
        let z ← zeroOf P e
        if z.length = n ∧ 0 < n ∧ 0 < b ∧ t = u then some (.app n b z s' x') else none
      | _, _ => none
    | _, _ => none
  | .call { callee := .builtin .copy, args := xs, argTypes := ts } =>
    match xs.toList, ts.toList with
    | [s, x], [t, u] => do
      let s' ← pO s
      let x' ← pO x
      match P.underlying t, P.underlying u with
      | some (.slice e), some (.slice _) => some (.cpy (← szOf P e) s' x')
      | _, _ => none
    | _, _ => none
  | .call { callee := .builtin .min, args := xs, argTypes := _ } => do some (.mnx false (← pOs xs.toList))
  | .call { callee := .builtin .max, args := xs, argTypes := _ } => do some (.mnx true (← pOs xs.toList))
  | .panic _ => some .pnc
  | .call { callee := .builtin .panic, args := _, argTypes := _ } => some .pnc
  | _ => none

def prepG (ops : Array Oper) : Option (Nat × Bool) → Option (Option (Nat × Bool))
  | none => some none
  | some (j, b) => do
    let oj ← ops[j]?
    let d ← oj.dst
    some (some (d, b))

def calOf : Op → Option (Operand × Array Operand)
  | .call { callee := .value f, args := xs, argTypes := _ } => some (f, xs)
  | _ => none

def prepS (n : Nat) (ops : Array Oper) (o : Oper) : Option PS := do
  let g ← prepG ops o.guard
  if (o.dst.all fun d => d < n) then
    match calOf o.op with
    | some (f, xs) => do some (.c o.dst g (← pO f) (← pOs xs.toList))
    | none => do some (.o o.dst g (← prepOp P o.op))
  else none

/-- What only reads or computes. -/
def quietB : POp → Bool
  | .mov _ | .pick .. | .bld .. | .ld _ | .ldn .. | .nch _ | .bin .. | .snl .. | .un .. | .cnv .. | .mki .. | .mkf .. | .ssl .. | .sl .. | .fa .. | .fld .. | .ixa .. | .ixf .. | .ixs .. | .ext .. | .len _ | .lns _ | .mnx .. => true
  | _ => false
/-- What reads memory. -/
def readsB : POp → Bool
  | .ld _ | .ldn .. => true
  | _ => false

def quietS : PS → Bool
  | .o _ _ op => quietB op
  | _ => false
def readsS : PS → Bool
  | .o _ _ op => readsB op
  | _ => false

def firstFree (ops : Array Oper) (listed : Array Bool) : List Nat → Option (Nat × PS) → (Nat → Option PS) → Option (Nat × PS)
  | [], r, _ => r
  | i :: rest, r, f =>
    match f i with
    | some s => if quietS s && Region.free .any ops listed i then some (i, s) else firstFree ops listed rest r f
    | none => firstFree ops listed rest r f

/-- The plan of a region that draws: what only reads first, as soon as it may come up; then whatever may come up. -/
def mkPlan (n : Nat) (ops : Array Oper) (bef : Array Nat) : Nat → Array Bool → List Nat → Option Plan
  | 0, _, _ => none
  | fuel + 1, listed, taken =>
    match Region.ready .any ops listed with
    | [] => some .dn
    | r :: rs =>
      match firstFree ops listed (r :: rs) none (fun i => (ops[i]?).bind (prepS P n ops)) with
      | some (i, s) => do
        let p ← mkPlan n ops bef fuel (listed.setIfInBounds i true) (if readsS s then i :: taken else taken)
        some (.tk i s p)
      | none =>
        (r :: rs).foldr (fun i acc => do
          let more ← acc
          let o ← ops[i]?
          let s ← prepS P n ops o
          if quietS s then none else
          let p ← mkPlan n ops bef fuel (listed.setIfInBounds i true) taken
          some (.br i (taken.filter fun l => !(bef.getD i 0).testBit l) s p more)) (some .ed)

/-- In row j of the table stand only operations that j waits for. -/
def maskOk (ops : Array Oper) (bef : Array Nat) : Bool :=
  (List.range ops.size).all fun j => (List.range ops.size).all fun i => !(bef.getD j 0).testBit i ||
    match ops[j]? with
    | some o => o.after.any fun e => Region.binds .any e && decide (e.on < j) && (e.on == i || (bef.getD e.on 0).testBit i)
    | none => false

def prepC (n : Nat) : Code → Option PCode
  | .skip => some .sk
  | .region _ ops false => (ops.toList.mapM (prepS P n ops)).map .rg
  | .region _ ops true => if Region.noSelect ops && maskOk ops (Region.before ops) then (mkPlan P n ops (Region.before ops) (ops.size + 1) (Array.replicate ops.size false) []).map .dr else none
  | .seq a b => do some (.sq (← prepC n a) (← prepC n b))
  | .cond c a b => do some (.cd (← pO c) (← prepC n a) (← prepC n b))
  | .block id c => (prepC n c).map (.bk id)
  | .loop c => (prepC n c).map .lp
  | .exit id => some (.ex id)
  | .ret => some .rt
  | _ => none

def prepR : ResultVar → Option PRes
  | .tmp t => some (.t t)
  | .cell a t => do
    let s ← szOf P t
    if ← aggOf P t then some (.cn a s) else some (.c1 a)

def prepF (f : Func) : Option PFn := do
  let b ← f.body
  let c ← prepC P f.ntmps b
  let rs ← f.results.toList.mapM (prepR P)
  some ⟨f.params.size + f.nfree, f.ntmps, rs, c⟩
end prep

/-! ### the calculus -/
structure St where
  tm : Nat → Value
  h : Heap

def PO.ev (tm : Nat → Value) : PO → Value
  | .t i => tm i
  | .c v => v

def upd (tm : Nat → Value) (d : Nat) (v : Value) : Nat → Value := fun i => if i = d then v else tm i
def put (tm : Nat → Value) : Option Nat → Value → Nat → Value
  | none, _ => tm
  | some d, v => upd tm d v

def wantA (tm : Nat → Value) : Option (Nat × Bool) → Bool
  | none => true
  | some (t, b) => match tm t with
    | .bool x => x == b
    | _ => false

def hob (h : Heap) (i : Nat) : Option AObj := match h[i]? with | some (some o) => some o | _ => none
/-- Cells o .. o + n of object i. -/
def hcs (h : Heap) (i o n : Nat) : Option (List Value) :=
  (hob h i).bind fun ob => if o + n ≤ ob.cells.length then some ((ob.cells.drop o).take n) else none
def hc1 (h : Heap) (i o : Nat) : Option Value := (hob h i).bind fun ob => ob.cells[o]?

def oneAll (l : List Value) : Bool := l.all Value.oneCell'

def newO (h : Heap) (cells : List Value) (es : Nat) : Heap := h ++ [some ⟨cells, es, true⟩]

def fillA (cells : List Value) : List (Nat × List Value) → Option (List Value)
  | [] => some cells
  | (o, vs) :: rest => if o + vs.length ≤ cells.length then fillA (cells.take o ++ (vs ++ cells.drop (o + vs.length))) rest else none

def reps (z : List Value) : Nat → List Value
  | 0 => []
  | n + 1 => z ++ reps z n

def intOfV : Value → Option Int
  | .int _ n => some n
  | _ => none

def bytesOfV : List Value → Option (List UInt8)
  | [] => some []
  | .int .u8 n :: r => (bytesOfV r).map (UInt8.ofNat n.toNat :: ·)
  | _ => none

/-- The cells that an append's second argument hands over, given an element's cells. -/
def srcA (h : Heap) (es : Nat) : Value → Option (Nat × List Value)
  | .slice none 0 0 => some (0, [])
  | .slice (some ⟨i, o, none⟩) n _ => (hcs h i o (n * es)).map fun l => (n, l)
  | _ => none

def bndA (d : Int) : Option Value → Option Int
  | none => some d
  | some v => intOfV v

/-- An operation that is no call: the touched objects, the value, the heap. -/
def aop (P : Program) (tm : Nat → Value) (h : Heap) : POp → Option (List Nat × Value × Heap)
  | .mov x => some ([], x.ev tm, h)
  | .pick c a b => match c.ev tm with
    | .bool x => some ([], if x then a.ev tm else b.ev tm, h)
    | _ => none
  | .new z => some ([], .pointer (some ⟨h.length, 0, none⟩), newO h z z.length)
  | .box x =>
    if oneAll (x.ev tm).cells.toList then some ([], .pointer (some ⟨h.length, 0, none⟩), newO h (x.ev tm).cells.toList (x.ev tm).cells.toList.length) else none
  | .bld z ps =>
    if ps.all (fun p => (p.2.2.ev tm).cells.size == p.2.1) then (fillA z (ps.map fun p => (p.1, (p.2.2.ev tm).cells.toList))).map fun l => ([], .agg l.toArray, h) else none
  | .bsl es len z ps =>
    if ps.all (fun p => (p.2.ev tm).cells.size == es && oneAll (p.2.ev tm).cells.toList) then
      (fillA (reps z len) (ps.map fun p => (p.1 * es, (p.2.ev tm).cells.toList))).map fun l => ([], .slice (some ⟨h.length, 0, none⟩) len len, newO h l es)
    else none
  | .ld a => match a.ev tm with
    | .pointer (some ⟨i, o, none⟩) => (hc1 h i o).map fun v => ([], v, h)
    | _ => none
  | .ldn n a => match a.ev tm with
    | .pointer (some ⟨i, o, none⟩) => (hcs h i o n).map fun l => ([], .agg l.toArray, h)
    | _ => none
  | .str n a x => match a.ev tm with
    | .pointer (some ⟨i, o, none⟩) => (hob h i).bind fun ob =>
      let l := (x.ev tm).cells.toList
      if ob.own = true ∧ l.length = n ∧ oneAll l = true ∧ o + n ≤ ob.cells.length then
        some ([i], undef, h.set i (some { ob with cells := ob.cells.take o ++ (l ++ ob.cells.drop (o + n)) }))
      else none
    | _ => none
  | .nch x => match x.ev tm with
    | .pointer (some a) => some ([], .pointer (some a), h)
    | .func (.func f) xs ys => some ([], .func (.func f) xs ys, h)
    | _ => none
  | .bin op t x y => if closedB (x.ev tm) && closedB (y.ev tm) && notNilI (x.ev tm) then (pvc P (binOp op t (x.ev tm) (y.ev tm))).map fun v => ([], v, h) else none
  | .snl neg x => match x.ev tm with
    | .slice none 0 0 => some ([], .bool (!neg), h)
    | .slice (some _) _ _ => some ([], .bool neg, h)
    | _ => none
  | .un op x => if closedB (x.ev tm) then (pvc P (Op.unary op (x.ev tm))).map fun v => ([], v, h) else none
  | .cnv s d x => if closedB (x.ev tm) then (pvc P (convert s d (x.ev tm))).map fun v => ([], v, h) else none
  | .bst x => match x.ev tm with
    | .slice none 0 0 => some ([], .string .empty, h)
    | .slice (some ⟨i, o, none⟩) n _ => (hcs h i o n).bind fun l => (bytesOfV l).map fun b => ([], .string ⟨b.toArray⟩, h)
    | _ => none
  | .mki t x => some ([], .iface t (x.ev tm), h)
  | .mkf fn xs ys => some ([], .func fn (xs.map (·.ev tm)).toArray (ys.map (·.ev tm)).toArray, h)
  | .mks es by_ z l => match l.ev tm with
    | .int _ n => if 0 ≤ n ∧ n * by_ ≤ 140737488355328 ∧ n ≤ 9223372036854775807 then some ([], .slice (some ⟨h.length, 0, none⟩) n.toNat n.toNat, newO h (reps z n.toNat) es) else none
    | _ => none
  | .ssl t x lo hi =>
    if closedB (x.ev tm) && closedB ((lo.map (·.ev tm)).getD .nilIface) && closedB ((hi.map (·.ev tm)).getD .nilIface) then
      (pvc P (Instr.slice t (x.ev tm) (lo.map (·.ev tm)) (hi.map (·.ev tm)) none)).map fun v => ([], v, h)
    else none
  | .sl es x lo hi mx => match x.ev tm with
    | .slice none 0 0 =>
      if bndA 0 (lo.map (·.ev tm)) = some 0 ∧ bndA 0 (hi.map (·.ev tm)) = some 0 ∧ bndA 0 (mx.map (·.ev tm)) = some 0 ∧ (mx.isSome → hi.isSome) then some ([], .slice none 0 0, h) else none
    | .slice (some ⟨i, o, none⟩) n c =>
      (hob h i).bind fun ob =>
      (bndA 0 (lo.map (·.ev tm))).bind fun l =>
      (bndA n (hi.map (·.ev tm))).bind fun u =>
      if (ob.own = true → ob.es = es) ∧ 0 ≤ l ∧ l ≤ u ∧ u ≤ n then
        match mx with
        | none => some ([], .slice (some ⟨i, o + l.toNat * es, none⟩) (u.toNat - l.toNat) (if c = n then n - l.toNat else u.toNat - l.toNat + 1), h)
        | some m => match intOfV (m.ev tm) with
          | some m => if u ≤ m ∧ m ≤ n ∧ hi.isSome then some ([], .slice (some ⟨i, o + l.toNat * es, none⟩) (u.toNat - l.toNat) (m.toNat - l.toNat), h) else none
          | none => none
      else none
    | _ => none
  | .fa o x => match x.ev tm with
    | .pointer (some ⟨i, p, none⟩) => some ([], .pointer (some ⟨i, p + o, none⟩), h)
    | _ => none
  | .fld o n x => match x.ev tm with
    | .agg cs => match n with
      | none => (cs[o]?).map fun v => ([], v, h)
      | some n => some ([], .agg (cs.extract o (o + n)), h)
    | _ => none
  | .ixa es x i => match x.ev tm, i.ev tm with
    | .slice (some ⟨j, o, none⟩) n _, .int _ m => if 0 ≤ m ∧ m < n then some ([], .pointer (some ⟨j, o + m.toNat * es, none⟩), h) else none
    | _, _ => none
  | .ixf len es x i => match x.ev tm, i.ev tm with
    | .pointer (some ⟨j, o, none⟩), .int _ m => if 0 ≤ m ∧ m < len then some ([], .pointer (some ⟨j, o + m.toNat * es, none⟩), h) else none
    | _, _ => none
  | .ixs t x i => if closedB (x.ev tm) && closedB (i.ev tm) then (pvc P (Instr.index t (x.ev tm) (i.ev tm))).map fun v => ([], v, h) else none
  | .ext x j => match x.ev tm with
    | .tuple vs => (vs[j]?).map fun v => ([], v, h)
    | _ => none
  | .lns x => match x.ev tm with
    | .string s => some ([], .int .i64 s.size, h)
    | _ => none
  | .len x => match x.ev tm with
    | .slice _ n _ => some ([], .int .i64 n, h)
    | _ => none
  | .mnx mx xs => match (xs.map (·.ev tm) : List Value) with
    | [.int k a, .int k' b] => if k = k' then some ([], .int k (if mx then max a b else min a b), h) else none
    | _ => none
  | .app es by_ _ s x => (srcA h es (x.ev tm)).bind fun (m, news) =>
    match s.ev tm with
    | .slice none 0 0 =>
      if m = 0 then some ([], .slice none 0 0, h)
      else if m * by_ ≤ 140737488355328 ∧ oneAll news = true then some ([], .slice (some ⟨h.length, 0, none⟩) m (m + 1), newO h news es) else none
    | .slice (some ⟨i, o, none⟩) n c =>
      if m = 0 then some ([], .slice (some ⟨i, o, none⟩) n c, h)
      else (hob h i).bind fun ob => (hcs h i o (n * es)).bind fun old =>
        if (n + m) * by_ ≤ 140737488355328 ∧ oneAll news = true ∧ oneAll old = true then
          if c = n then some ([], .slice (some ⟨h.length, 0, none⟩) (n + m) (n + m + 1), newO h (old ++ news) es)
          else if ob.own = true ∧ ob.es = es then some ([i], .slice (some ⟨h.length, 0, none⟩) (n + m) (n + m + 1), newO (h.set i none) (old ++ news) es)
          else none
        else none
    | _ => none
  | .cpy es d s => (srcA h es (s.ev tm)).bind fun (m, l) =>
    match d.ev tm with
    | .slice none 0 0 => some ([], .int .i64 0, h)
    | .slice (some ⟨i, o, none⟩) n _ =>
      (hob h i).bind fun ob =>
      let k := Nat.min m n
      if ob.own = true ∧ ob.es = es ∧ oneAll l = true ∧ o + k * es ≤ ob.cells.length then
        some ([i], .int .i64 k, h.set i (some { ob with cells := ob.cells.take o ++ (l.take (k * es) ++ ob.cells.drop (o + k * es)) }))
      else none
    | _ => none
  | .pnc => none

/-- A function of the program with a body. -/
def FnOk (P : Program) (f : FuncId) : Prop := ∃ fd, P.funcs[f]? = some fd ∧ fd.body.isSome = true ∧ fd.name ≠ "runtime.NumGoroutine"

/-- A call's contract: whatever the world that bears the heap: it returns, and the result and the heap behind it are as Q says. -/
def AC (P : Program) (f : FuncId) (args : List Value) (h : Heap) (T : List Nat) (Q : Value → Heap → Prop) : Prop :=
  FnOk P f ∧ ∀ (ρ : Rho) (w : World) (rargs : Array Value), Sim ρ h w → VRL ρ args rargs.toList → Calls P f rargs w fun e w' =>
    ∃ rv r h' ρ', e = .returned rv ∧ Q r h' ∧ VR ρ' r rv ∧ Sim ρ' h' w' ∧ Stp T ρ h w ρ' h' w'

def XC (P : Program) (M : Nat → Prop) (tm : Nat → Value) (h : Heap) (f : PO) (xs : List PO) (K : List Nat → Value → Heap → Prop) : Prop :=
  ∃ g ys zs T Q, f.ev tm = .func (.func g) ys zs ∧ (∀ i ∈ T, M i) ∧ AC P g (ys.toList ++ xs.map (·.ev tm) ++ zs.toList) h T Q ∧ ∀ r h', Q r h' → K T r h'

def XO (P : Program) (M : Nat → Prop) (tm : Nat → Value) (h : Heap) (o : POp) (K : List Nat → Value → Heap → Prop) : Prop :=
  ∃ T v h', aop P tm h o = some (T, v, h') ∧ (∀ i ∈ T, M i) ∧ K T v h'

/-- One step of a region. -/
def XS (P : Program) (M : Nat → Prop) : PS → St → (List Nat → St → Prop) → Prop
  | .o d g op, st, K => if wantA st.tm g = true then XO P M st.tm st.h op (fun T v h' => K T ⟨put st.tm d v, h'⟩) else K [] ⟨put st.tm d undef, st.h⟩
  | .c d g f xs, st, K => if wantA st.tm g = true then XC P M st.tm st.h f xs (fun T v h' => K T ⟨put st.tm d v, h'⟩) else K [] ⟨put st.tm d undef, st.h⟩

def XR (P : Program) (M : Nat → Prop) : List PS → St → (St → Prop) → Prop
  | [], st, Q => Q st
  | s :: rest, st, Q => XS P M s st fun _ st' => XR P M rest st' Q

/-- The object that a load reads. -/
def readId (tm : Nat → Value) : POp → Option Nat
  | .ld a | .ldn _ a => match a.ev tm with
    | .pointer (some ⟨i, _, _⟩) => some i
    | _ => none
  | _ => none

/-- A region that draws; 'held': what has been read (operation, object). -/
def XPl (P : Program) (M : Nat → Prop) : Plan → List (Nat × Nat) → St → (St → Prop) → Prop
  | .dn, _, st, Q => Q st
  | .tk i s p, held, st, Q => match s with
    | .o d g op =>
      if wantA st.tm g = true then ∃ v, aop P st.tm st.h op = some ([], v, st.h) ∧ XPl P M p (match readId st.tm op with | some j => (i, j) :: held | none => held) ⟨put st.tm d v, st.h⟩ Q
      else XPl P M p held ⟨put st.tm d undef, st.h⟩ Q
    | .c .. => False
  | .br _ u s p more, held, st, Q =>
    XS P M s st (fun T st' => (∀ x ∈ held, x.1 ∈ u → x.2 ∉ T) ∧ XPl P M p (held.filter fun x => u.contains x.1) st' Q) ∧ XPl P M more held st Q
  | .ed, _, _, _ => True

def XP (P : Program) (M : Nat → Prop) : PCode → St → (Exit → St → Prop) → Prop
  | .sk, st, Q => Q .normal st
  | .rg ss, st, Q => XR P M ss st (Q .normal)
  | .dr p, st, Q => XPl P M p [] st (Q .normal)
  | .sq a b, st, Q => XP P M a st fun e st' => match e with
    | .normal => XP P M b st' Q
    | e => Q e st'
  | .cd c a b, st, Q => match c.ev st.tm with
    | .bool x => if x = true then XP P M a st Q else XP P M b st Q
    | _ => False
  | .bk id c, st, Q => XP P M c st fun e st' => match e with
    | .exit id' => if id' = id then Q .normal st' else Q (.exit id') st'
    | e => Q e st'
  | .lp c, st, Q => ∃ (I : Nat → St → Prop) (n : Nat), I n st ∧ ∀ n s, I n s → XP P M c s fun e s' => match e with
    | .normal => ∃ n', n' < n ∧ I n' s'
    | e => Q e s'
  | .ex id, st, Q => Q (.exit id) st
  | .rt, st, Q => Q .ret st

def resA1 (tm : Nat → Value) (h : Heap) : PRes → Option Value
  | .t i => some (tm i)
  | .c1 a => match tm a with
    | .pointer (some ⟨i, o, none⟩) => hc1 h i o
    | _ => none
  | .cn a n => match tm a with
    | .pointer (some ⟨i, o, none⟩) => (hcs h i o n).map fun l => .agg l.toArray
    | _ => none
def resAs (tm : Nat → Value) (h : Heap) : List PRes → Option (List Value)
  | [] => some []
  | r :: rs => (resA1 tm h r).bind fun v => (resAs tm h rs).map (v :: ·)
def resA (tm : Nat → Value) (h : Heap) (rs : List PRes) : Option Value :=
  (resAs tm h rs).map fun vs => match vs with
    | [v] => v
    | vs => .tuple vs.toArray

def tmOf (args : List Value) : Nat → Value := fun i => args.getD i undef
end Go.Ab
