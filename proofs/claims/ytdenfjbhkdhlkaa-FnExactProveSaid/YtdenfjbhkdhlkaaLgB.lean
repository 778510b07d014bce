/- The own logic, part B: a small language into which the model's code is turned (types resolved), and what its pure instructions yield. It holds for every program. -/
import Derived.Test.YtdenfjbhkdhlkaaLgA
set_option linter.unusedSimpArgs false
set_option linter.unusedVariables false
namespace Go.Proofs.Ytdenfjbhkdhlkaa.Lg
open Go

inductive Opd where
 | t (n : Nat)
 | c (v : V)
 | g (n : Nat)
 | f (n : Nat)

inductive I where
 | mv (x : Opd)
 | pick (c a b : Opd)
 | alloc (z : List V)
 | box (n : Nat) (x : Opd)
 | build (z : List V) (ps : List (Nat × Nat × Opd))
 | bsl (es n : Nat) (zv : V) (ps : List (Nat × Opd))
 | load (ag : Bool) (n : Nat) (a : Opd)
 | store (n : Nat) (a x : Opd)
 | nilck (x : Opd)
 | bin (op : BinOp) (x y : Opd)
 | eqb (neg : Bool) (x y : Opd)
 | eqp (neg : Bool) (x y : Opd)
 | eqa (neg : Bool) (ks : List Nat) (x y : Opd)
 | eqs (neg : Bool) (x : Opd)
 | un (op : UnOp) (x : Opd)
 | i2i (k : IntKind) (x : Opd)
 | b2s (x : Opd)
 | s2b (x : Opd)
 | mkfn (f : FuncId) (caps : List Opd)
 | mksl (es bytes : Nat) (z : List V) (l c : Opd)
 | sl (es : Nat) (x : Opd) (lo hi mx : Option Opd)
 | sls (x : Opd) (lo hi : Option Opd)
 | sla (n es : Nat) (x : Opd)
 | faddr (off : Nat) (x : Opd)
 | field (ag : Bool) (off n : Nat) (x : Opd)
 | iaddr (es : Nat) (x i : Opd)
 | iaddrA (es len : Nat) (x i : Opd)
 | idxs (x i : Opd)
 | idxA (ag : Bool) (es len : Nat) (x i : Opd)
 | ext (x : Opd) (n : Nat)
 | len (x : Opd)
 | lens (x : Opd)
 | mx (x y : Opd)
 | mn (x y : Opd)
 | app (es bytes : Nat) (s x : Opd)
 | appz (es bytes : Nat) (z : List V) (s n : Opd)
 | copy (es : Nat) (d s : Opd)
 | clear (es : Nat) (z : List V) (x : Opd)
 | cap (x : Opd)
 | call (f : Opd) (args : List Opd)

/-- A constant, told abstractly. -/
def ofScalar : Value → Option V
 | .bool b => some (.bool b)
 | .int k n => some (.int k n)
 | .string s => some (.str s.data.toList)
 | .slice none 0 0 => some (.isl true 0 [])
 | .pointer none => some .nilptr
 | .nilFunc => some .nilfn
 | .nilIface => some .nilif
 | _ => none
def ofValue : Value → Option V
 | .agg cs => (cs.toList.mapM ofScalar).map .agg
 | v => ofScalar v
def zeroOf (P : Program) (t : TypeId) : Option (List V) := ((P.info? t).bind (·.zero)).bind fun z => z.cells.toList.mapM ofScalar
def zeroV (P : Program) (t : TypeId) : Option V := ((P.info? t).bind (·.zero)).bind ofValue
def isAggT (P : Program) (t : TypeId) : Bool := match P.underlying t with | some (.struct _) | some (.array _ _) => true | _ => false

def opd : Operand → Option Opd
 | .tmp t => some (.t t)
 | .const v => (ofValue v).map .c
 | .global g => some (.g g)
 | .func f => some (.f f)
def opds (xs : Array Operand) : Option (List Opd) := xs.toList.mapM opd
def opdO : Option Operand → Option (Option Opd)
 | none => some none
 | some x => (opd x).map some
/-- The kinds of a struct's parts, if all are one cell, in order, numbers, bools or texts. -/
def kindOf (P : Program) (t : TypeId) : Option Nat := match P.underlying t with | some (.int _) => some 0 | some .bool => some 1 | some .string => some 2 | _ => none
def kindsFrom (P : Program) : Nat → List Field → Option (List Nat)
 | _, [] => some []
 | j, f :: fs => if f.name != "_" && f.offset == j then (match kindOf P f.type, kindsFrom P (j + 1) fs with | some k, some ks => some (k :: ks) | _, _ => none) else none
def okT (P : Program) (t : TypeId) : Bool := (P.underlying t).isSome
/-- A part of a struct that is built: its place, its size, its value. -/
def partOf (P : Program) (fs : Array Field) (q : Nat × Operand) : Option (Nat × Nat × Opd) :=
 match fs[q.1]?, opd q.2 with
 | some f, some x => some (f.offset, P.cellsOf f.type, x)
 | _, _ => none
def elemOf' (q : Nat × Operand) : Option (Nat × Opd) := (opd q.2).map fun x => (q.1, x)
def compI (P : Program) (o : Oper) : Option I :=
 match o.op with
 | .move x | .assign x => (opd x).map .mv
 | .pick c a b => do some (.pick (← opd c) (← opd a) (← opd b))
 | .alloc e => (zeroOf P e).map .alloc
 | .box e x => if okT P e then (opd x).map (.box (P.cellsOf e)) else none
 | .build t ps =>
  match P.underlying t with
  | some (.struct fs) => do
   let qs ← ps.toList.mapM (partOf P fs)
   if fs.toList.all (fun f => okT P f.type) = true then some (.build (← zeroOf P t) qs) else none
  | _ => none
 | .buildSlice t n ps =>
  match P.underlying t with
  | some (.slice e) => do
   let qs ← ps.toList.mapM elemOf'
   if okT P e && n * P.cellsOf e ≤ 1000 && P.cellsOf e != 0 then some (.bsl (P.cellsOf e) n (← zeroV P e) qs) else none
  | _ => none
 | .load t a => if okT P t then (opd a).map (.load (isAggT P t) (P.cellsOf t)) else none
 | .store t a x => if okT P t then do some (.store (P.cellsOf t) (← opd a) (← opd x)) else none
 | .nilCheck x => (opd x).map .nilck
 | .binOp op t x y _ =>
  match op, P.underlying t with
  | .eql, some (.struct fs) => if !P.stoodInHeld t && !P.eqGuardType P.depth t then do some (.eqa false (← kindsFrom P 0 fs.toList) (← opd x) (← opd y)) else none
  | .neq, some (.struct fs) => if !P.stoodInHeld t && !P.eqGuardType P.depth t then do some (.eqa true (← kindsFrom P 0 fs.toList) (← opd x) (← opd y)) else none
  | .eql, some .bool => do some (.eqb false (← opd x) (← opd y))
  | .neq, some .bool => do some (.eqb true (← opd x) (← opd y))
  | .eql, some (.pointer _) => do some (.eqp false (← opd x) (← opd y))
  | .neq, some (.pointer _) => do some (.eqp true (← opd x) (← opd y))
  | .eql, some (.slice _) => (match y with | .const (.slice none 0 0) => (opd x).map (.eqs false) | _ => none)
  | .neq, some (.slice _) => (match y with | .const (.slice none 0 0) => (opd x).map (.eqs true) | _ => none)
  | _, some (.int _) | _, some .string => do some (.bin op (← opd x) (← opd y))
  | _, _ => none
 | .unOp op _ x => (opd x).map (.un op)
 | .convert s d x =>
  match P.underlying s, P.underlying d with
  | some (.int _), some (.int k) => (opd x).map (.i2i k)
  | some (.slice e), some .string => if P.underlying e matches some (.int .u8) then (opd x).map .b2s else none
  | some .string, some (.slice e) => if P.underlying e matches some (.int .u8) then (opd x).map .s2b else none
  | _, _ => none
 | .makeFunc (.func f) first cs => if first.isEmpty then (opds cs).map (.mkfn f) else none
 | .makeSlice t l c =>
  match P.underlying t with
  | some (.slice e) => do some (.mksl (P.cellsOf e) (P.bytesOf e) (← zeroOf P e) (← opd l) (← opd c))
  | _ => none
 | .slice t x lo hi mx =>
  match P.underlying t with
  | some (.slice e) => if okT P e && (mx.isNone || hi.isSome) then do some (.sl (P.cellsOf e) (← opd x) (← opdO lo) (← opdO hi) (← opdO mx)) else none
  | some .string => (match mx with | none => do some (.sls (← opd x) (← opdO lo) (← opdO hi)) | some _ => none)
  | some (.array n e) => (match lo, hi, mx with | none, none, none => do some (.sla n (P.cellsOf e) (← opd x)) | _, _, _ => none)
  | _ => none
 | .fieldAddr s x f =>
  match P.underlying s with
  | some (.struct fs) => do
   let fd ← fs[f]?
   if P.cellsOf fd.type = 0 then none else some (.faddr fd.offset (← opd x))
  | _ => none
 | .field t x f =>
  match P.underlying t with
  | some (.struct fs) => do
   let fd ← fs[f]?
   if okT P fd.type = false then none else some (.field (isAggT P fd.type) fd.offset (P.cellsOf fd.type) (← opd x))
  | _ => none
 | .indexAddr t x i =>
  match P.underlying t with
  | some (.slice e) => if okT P e then do some (.iaddr (P.cellsOf e) (← opd x) (← opd i)) else none
  | some (.array n e) => if okT P e then do some (.iaddrA (P.cellsOf e) n (← opd x) (← opd i)) else none
  | _ => none
 | .index t x i =>
  match P.underlying t with
  | some .string => do some (.idxs (← opd x) (← opd i))
  | some (.array n e) => if okT P e then do some (.idxA (isAggT P e) (P.cellsOf e) n (← opd x) (← opd i)) else none
  | _ => none
 | .extract x n => (opd x).map (.ext · n)
 | .call c =>
  match c.callee with
  | .value f => do some (.call (← opd f) (← opds c.args))
  | .builtin .len =>
   (match c.args.toList, (c.argTypes[0]?).bind P.underlying with
   | [x], some .string => (opd x).map .lens
   | [x], some (.slice _) => (opd x).map .len
   | [_], some (.array n _) => some (.mv (.c (.int .i64 n)))
   | _, _ => none)
  | .builtin .cap =>
   (match c.args.toList, (c.argTypes[0]?).bind P.underlying with
   | [x], some (.slice _) => (opd x).map .cap
   | _, _ => none)
  | .builtin .max => (match c.args.toList with | [x, y] => do some (.mx (← opd x) (← opd y)) | _ => none)
  | .builtin .min => (match c.args.toList with | [x, y] => do some (.mn (← opd x) (← opd y)) | _ => none)
  | .builtin .append =>
   (match c.args.toList, (c.argTypes[0]?).bind P.underlying, (c.argTypes[1]?).bind P.underlying with
   | [s, x], some (.slice e), some (.slice _) | [s, x], some (.slice e), some .string => do
    if P.cellsOf e = 0 || P.bytesOf e = 0 || P.bytesOf e > 1000 || (zeroOf P e).map List.length != some (P.cellsOf e) then none else some (.app (P.cellsOf e) (P.bytesOf e) (← opd s) (← opd x))
   | [s, x], some (.slice e), some (.int _) => do
    if P.cellsOf e = 0 || P.bytesOf e = 0 || P.bytesOf e > 1000 then none else some (.appz (P.cellsOf e) (P.bytesOf e) (← zeroOf P e) (← opd s) (← opd x))
   | _, _, _ => none)
  | .builtin .copy =>
   (match c.args.toList, (c.argTypes[0]?).bind P.underlying with
   | [d, s], some (.slice e) => do some (.copy (P.cellsOf e) (← opd d) (← opd s))
   | _, _ => none)
  | .builtin .clear =>
   (match c.args.toList, (c.argTypes[0]?).bind P.underlying with
   | [x], some (.slice e) => do some (.clear (P.cellsOf e) (← zeroOf P e) (← opd x))
   | _, _ => none)
  | _ => none
 | _ => none

/-- An instruction: where its value goes, and whether it runs at all. -/
structure GI where
 d : Option Nat
 g : Option (Nat × Bool)
 i : I
/-- A part of a region that draws: what only reads; what writes, or another; the end; nothing more to choose of. -/
inductive DT where
 | nil
 | rd (g : GI) (r : DT)
 | wr (g : GI) (r alt : DT)
 | no
inductive C where
 | skip
 | ops (l : List GI)
 | draw (l : List DT)
 | seq (a b : C)
 | ite (c : Opd) (x y : C)
 | block (id : Nat) (c : C)
 | loop (c : C)
 | exit (id : Nat)
 | ret
 /-- What the logic does not know: nothing is proved of it. -/
 | bad

def dstOK (n : Nat) (o : Oper) : Bool := match o.dst with | some d => decide (d < n) | none => true
def compG (P : Program) (n : Nat) (ops : Array Oper) (o : Oper) : Option GI := do
 let i ← compI P o
 let g ← (match o.guard with
  | none => some none
  | some (j, want) => ((ops[j]?).bind (·.dst)).map fun t => some (t, want))
 if dstOK n o = true then some ⟨o.dst, g, i⟩ else none

/-- The operands of an instruction. -/
def I.opds : I → List Opd
 | .mv x | .box _ x | .load _ _ x | .nilck x | .eqs _ x | .un _ x | .i2i _ x | .b2s x | .s2b x | .sla _ _ x | .faddr _ x | .field _ _ _ x | .ext x _ | .len x | .lens x | .clear _ _ x | .cap x => [x]
 | .pick c a b => [c, a, b]
 | .alloc _ => []
 | .build _ ps => ps.map fun q => q.2.2
 | .bsl _ _ _ ps => ps.map fun q => q.2
 | .store _ a x | .bin _ a x | .eqb _ a x | .eqp _ a x | .eqa _ _ a x | .mksl _ _ _ a x | .iaddr _ a x | .iaddrA _ _ a x | .idxs a x | .idxA _ _ _ a x | .mx a x | .mn a x | .app _ _ a x | .appz _ _ _ a x | .copy _ a x => [a, x]
 | .mkfn _ cs => cs
 | .sl _ x lo hi m3 => x :: (lo.toList ++ hi.toList ++ m3.toList)
 | .sls x lo hi => x :: (lo.toList ++ hi.toList)
 | .call f as_ => f :: as_
/-- Does it write, or make memory that is owned? -/
def I.wri : I → Bool
 | .alloc _ | .box _ _ | .store _ _ _ | .s2b _ | .eqs _ _ | .mksl _ _ _ _ _ | .app _ _ _ _ | .appz _ _ _ _ _ | .copy _ _ _ | .clear _ _ _ | .call _ _ => true
 | _ => false
/-- The temporaries that it looks at. -/
def GI.tmps (g : GI) : List Nat := g.i.opds.filterMap (fun | .t n => some n | _ => none) ++ (match g.g with | some (t, _) => [t] | none => [])

/-! A region that draws its order: parts, one behind the other; in each part what only reads stands as early as it can; of what writes, each that may come next. -/
def preds (o : Oper) : List Nat := (o.after.toList.filter (Region.binds .any)).map (·.on)
def masksFrom (ops : List Oper) : List Nat → List Nat
 | acc => match ops with
  | [] => acc
  | o :: r => masksFrom r (acc ++ [(preds o).foldl (fun s p => s ||| 2 ^ p ||| acc.getD p 0) 0])
def bitsOf : List Nat → Nat
 | [] => 0
 | j :: r => 2 ^ j ||| bitsOf r
def gAt (gs : List GI) (j : Nat) : GI := gs.getD j ⟨none, none, .alloc []⟩
def rdy (ms : List Nat) (done j : Nat) : Bool := (ms.getD j 0) &&& done == ms.getD j 0
/-- What may come next. -/
def altsOf (gs : List GI) (go : Nat → DT) : List Nat → DT
 | [] => .no
 | j :: r => .wr (gAt gs j) (go j) (altsOf gs go r)
def treeOf (gs : List GI) (ms : List Nat) : Nat → Nat → List Nat → DT
 | 0, _, _ => .no
 | fuel + 1, done, l =>
  match l.find? (fun j => rdy ms done j && !(gAt gs j).i.wri) with
  | some j => .rd (gAt gs j) (treeOf gs ms fuel (done ||| 2 ^ j) (l.filter (· != j)))
  | none => match l with
   | [] => .nil
   | _ :: _ => altsOf gs (fun j => treeOf gs ms fuel (done ||| 2 ^ j) (l.filter (· != j))) (l.filter (rdy ms done))
def treesOf (gs : List GI) (ms : List Nat) : Nat → List (List Nat) → List DT
 | _, [] => []
 | done, s :: r => treeOf gs ms (s.length + 1) done s :: treesOf gs ms (done ||| bitsOf s) r
/-- The parts of the text's order. -/
def cutAt (ms : List Nat) (pre : Nat) : Nat → List Nat → List Nat → List (List Nat)
 | 0, _, _ => []
 | fuel + 1, cur, todo =>
  match todo with
  | [] => [cur]
  | j :: r =>
   let done := pre ||| bitsOf cur
   if cur != [] && todo.all (fun i => (ms.getD i 0) &&& done == done) then cur :: cutAt ms done fuel [j] r else cutAt ms pre fuel (cur ++ [j]) r
def pairsOK (r : Nat → Nat → Bool) : List Nat → Bool
 | [] => true
 | x :: l => l.all (r x) && pairsOK r l
def segsOK (anc : Nat → Nat → Bool) : List (List Nat) → Bool
 | [] => true
 | s :: r => s.all (fun i => r.all fun u => u.all fun j => anc j i) && segsOK anc r
def ancs (ms : List Nat) (j i : Nat) : Bool := (ms.getD j 0).testBit i
def drawOK (ops : Array Oper) (gs : List GI) (ms : List Nat) (E : List (List Nat)) : Bool :=
 let F := E.flatten
 let N := ops.size
 (List.range N).all (fun j => F.contains j) && F.all (fun j => decide (j < N)) && pairsOK (fun i j => i != j) F &&
 ((List.range N).all fun j =>
  let ps := ((ops[j]?).map preds).getD []
  ps.all (fun p => decide (p < j)) && (List.range N).all (fun i => !ancs ms j i || ps.any (fun p => p == i || ancs ms p i))) &&
 ms.all (fun m => decide (m < 2 ^ N)) &&
 segsOK (ancs ms) E &&
 ((List.range N).all fun i => match (gAt gs i).d with
  | none => true
  | some t => (List.range N).all fun j => i == j || (!((gAt gs j).d == some t) && (!((gAt gs j).tmps.contains t) || ancs ms j i || ancs ms i j)))
def drawOf (P : Program) (n : Nat) (ops : Array Oper) : Option (List DT) := do
 let gs ← ops.toList.mapM (compG P n ops)
 let ms := masksFrom ops.toList []
 let E := cutAt ms 0 (2 * ops.size + 2) [] (List.range ops.size)
 if drawOK ops gs ms E && P.follows .mixedOrders then some (treesOf gs ms 0 E) else none

def compC (P : Program) (n : Nat) : Code → Option C
 | .skip => some .skip
 | .region _ ops false => some (match ops.toList.mapM (compG P n ops) with | some l => .ops l | none => .bad)
 | .region _ ops true => some (match drawOf P n ops with | some l => .draw l | none => .bad)
 | .seq a b => do some (.seq (← compC P n a) (← compC P n b))
 | .cond c a b => do some (.ite (← opd c) (← compC P n a) (← compC P n b))
 | .block id c => (compC P n c).map (.block id)
 | .loop c => (compC P n c).map .loop
 | .exit id => some (.exit id)
 | .scope c => compC P n c
 | .label _ => some .skip
 | .ret => some .ret
 | _ => some .bad

inductive RV where
 | t (n : Nat)
 | cell (a : Nat) (ag : Bool) (n : Nat)
structure CF where
 np : Nat
 n : Nat
 rs : List RV
 body : C
def rvOf (P : Program) : ResultVar → RV
 | .tmp t => .t t
 | .cell a t => .cell a (isAggT P t) (P.cellsOf t)
def rvOK (P : Program) : ResultVar → Bool
 | .tmp _ => true
 | .cell _ t => okT P t
def compF (P : Program) (f : FuncId) : Option CF := do
 let fn ← P.funcs[f]?
 let b ← fn.body
 let c ← compC P fn.ntmps b
 if (fn.params.size + fn.nfree ≤ fn.ntmps ∧ fn.results.toList.all (rvOK P) = true) ∧ fn.name ≠ "runtime.NumGoroutine" then
  some ⟨fn.params.size + fn.nfree, fn.ntmps, fn.results.toList.map (rvOf P), c⟩
 else none

/-! What instructions yield -/
def ev (Γ : St) (T : Ts) : Opd → V
 | .t n => look T n
 | .c v => v
 | .g n => match Γ n with | some cs => .iptr cs | none => .undef
 | .f n => .fn n []

def bitsV (op : BinOp) (k : IntKind) (x y : Int) : Int :=
 let a := BitVec.ofInt k.bits x
 let b := BitVec.ofInt k.bits y
 match op with
 | .and => k.wrap (a &&& b).toNat
 | .or => k.wrap (a ||| b).toNat
 | .xor => k.wrap (a ^^^ b).toNat
 | _ => k.wrap (a &&& ~~~b).toNat
/-- Two values of one integer type. -/
def binInt (op : BinOp) (k : IntKind) (a b : Int) : Prop × V :=
 match op with
 | .add => (True, .int k (k.wrap (a + b)))
 | .sub => (True, .int k (k.wrap (a - b)))
 | .mul => (True, .int k (k.wrap (a * b)))
 | .quo => (b ≠ 0, .int k (k.wrap (a.tdiv b)))
 | .rem => (b ≠ 0, .int k (a.tmod b))
 | .and => (True, .int k (bitsV .and k a b))
 | .or => (True, .int k (bitsV .or k a b))
 | .xor => (True, .int k (bitsV .xor k a b))
 | .andNot => (True, .int k (bitsV .andNot k a b))
 | .shl => (0 ≤ b, .int k (k.wrap (a * 2 ^ min b.toNat k.bits)))
 | .shr => (0 ≤ b, .int k (a.fdiv (2 ^ min b.toNat k.bits)))
 | .eql => (True, .bool (a == b))
 | .neq => (True, .bool (a != b))
 | .lss => (True, .bool (decide (a < b)))
 | .leq => (True, .bool (decide (a ≤ b)))
 | .gtr => (True, .bool (decide (a > b)))
 | .geq => (True, .bool (decide (a ≥ b)))
def binStr (op : BinOp) (a b : List UInt8) : Option (Prop × V) :=
 match op with
 | .add => some (a.length + b.length ≤ 140737488355328, .str (a ++ b))
 | .eql => some (True, .bool (a == b))
 | .neq => some (True, .bool (!(a == b)))
 | .lss => some (True, .bool (Op.bytesLess a b))
 | _ => none
def binV (op : BinOp) : V → V → Option (Prop × V)
 | .int k a, .int k' b => match op with
  | .shl => some (binInt .shl k a b)
  | .shr => some (binInt .shr k a b)
  | op => some (k = k' ∧ (binInt op k a b).1, (binInt op k a b).2)
 | .str a, .str b => binStr op a b
 | _, _ => none
/-- Cells of numbers, bools and texts, held against each other. -/
def eqK : List Nat → List V → List V → Option Bool
 | [], _, _ => some true
 | 0 :: ks, .int k a :: r, .int k' b :: q => if k = k' then (eqK ks r q).map ((a == b) && ·) else none
 | 1 :: ks, .bool a :: r, .bool b :: q => (eqK ks r q).map ((a == b) && ·)
 | 2 :: ks, .str a :: r, .str b :: q => (eqK ks r q).map ((a == b) && ·)
 | _, _, _ => none

/-- The cells of a struct, part by part. -/
def fillV (e : Opd → V) : List V → List (Nat × Nat × Opd) → List V
 | z, [] => z
 | z, (o, n, x) :: r => fillV e (z.take o ++ (e x).cells ++ z.drop (o + n)) r
def fillOK (e : Opd → V) (len : Nat) : List (Nat × Nat × Opd) → Prop
 | [] => True
 | (o, n, x) :: r => (e x).cells.length = n ∧ o + n ≤ len ∧ (∀ c ∈ (e x).cells, c.one = true) ∧ fillOK e len r
def rowV (e : Opd → V) : List V → List (Nat × Opd) → List V
 | z, [] => z
 | z, (i, x) :: r => rowV e (z.set i (e x)) r
def rowOK (e : Opd → V) (es n : Nat) : List (Nat × Opd) → Prop
 | [] => True
 | (i, x) :: r => i < n ∧ (e x).cells.length = es ∧ (∀ c ∈ (e x).cells, c.one = true) ∧ rowOK e es n r

/-- A window's bounds. -/
def cutV (e : Opd → V) (len cap : Nat) (lo hi mx : Option Opd) : Option (Int × Int × Int) :=
 let l? : Option Int := match lo with | none => some 0 | some x => (match e x with | .int _ n => some n | _ => none)
 let h? : Option Int := match hi with | none => some len | some x => (match e x with | .int _ n => some n | _ => none)
 let m? : Option Int := match mx with | none => some cap | some x => (match e x with | .int _ n => some n | _ => none)
 match l?, h?, m? with
 | some l, some h, some m => some (l, h, m)
 | _, _, _ => none

def pureI (σ : St) (e : Opd → V) : I → Option (Prop × V)
 | .mv x => some (True, e x)
 | .pick c a b => match e c with | .bool t => some (True, bif t then e a else e b) | _ => none
 | .build z ps => some (fillOK e z.length ps ∧ (∀ c ∈ z, c.one = true), .agg (fillV e z ps))
 | .bsl es n zv ps => some (rowOK e es n ps ∧ (zv.cells.length = es ∧ ∀ c ∈ zv.cells, c.one = true), .isl true es (rowV e (List.replicate n zv) ps))
 | .load ag n a => match e a with
  | .ptr b off => match σ b with
   | some cs => some (off + n ≤ cs.length ∧ (ag = false → n = 1), bif ag then .agg ((cs.drop off).take n) else cs.getD off .undef)
   | none => none
  | .iptr cs => some (n ≤ cs.length ∧ (ag = false → n = 1), bif ag then .agg (cs.take n) else cs.getD 0 .undef)
  | _ => none
 | .nilck x => match e x with
  | .ptr b o => some (True, .ptr b o)
  | .iptr cs => some (True, .iptr cs)
  | .fn f cs => some (True, .fn f cs)
  | _ => none
 | .bin op x y => binV op (e x) (e y)
 | .eqb neg x y => match e x, e y with
  | .bool a, .bool b => some (True, .bool (bif neg then !(a == b) else a == b))
  | _, _ => none
 | .eqp neg x y => match e x, e y with
  | .ptr _ _, .nilptr => some (True, .bool neg)
  | .iptr _, .nilptr => some (True, .bool neg)
  | .nilptr, .nilptr => some (True, .bool !neg)
  | _, _ => none
 | .eqa neg ks x y => match e x, e y with
  | .agg a, .agg b => match eqK ks a b with
   | some r => some (True, .bool (bif neg then !r else r))
   | none => none
  | _, _ => none
 | .un op x => match op, e x with
  | .neg, .int k n => some (True, .int k (k.wrap (0 - n)))
  | .not, .bool b => some (True, .bool (!b))
  | _, _ => none
 | .i2i k x => match e x with | .int _ n => some (True, .int k (k.wrap n)) | _ => none
 | .mkfn f cs => some (True, .fn f (cs.map e))
 | .sl es x lo hi mx => match e x with
  | .isl ex es' xs => match mx with
   | none => (match cutV e xs.length xs.length lo hi none with
    | some (l, h, _) => some (0 ≤ l ∧ l ≤ h ∧ h ≤ xs.length ∧ (xs = [] ∨ es = es'), .isl (ex && decide (h = xs.length)) es' ((xs.drop l.toNat).take (h - l).toNat))
    | none => none)
   | some _ => (match cutV e xs.length xs.length lo hi mx with
    | some (l, h, m) => some (0 ≤ l ∧ l ≤ h ∧ h ≤ m ∧ m ≤ xs.length ∧ (xs = [] ∨ es = es'), .isl (decide (h = m)) es' ((xs.drop l.toNat).take (h - l).toNat))
    | none => none)
  | .msl b es' off len cap => match cutV e len cap lo hi mx with
   | some (l, h, m) => some (es' = es ∧ 0 ≤ l ∧ l ≤ h ∧ h ≤ m ∧ m ≤ cap, .msl b es (if m = l then off else off + l.toNat * es) (h - l).toNat (m - l).toNat)
   | none => none
  | _ => none
 | .sls x lo hi => match e x with
  | .str s => match cutV e s.length s.length lo hi none with
   | some (l, h, _) => some (0 ≤ l ∧ l ≤ h ∧ h ≤ s.length, .str ((s.drop l.toNat).take (h - l).toNat))
   | none => none
  | _ => none
 | .faddr off x => match e x with
  | .ptr b o => some (True, .ptr b (o + off))
  | .iptr cs => some (True, .iptr (cs.drop off))
  | _ => none
 | .field ag off n x => match e x with
  | .agg cs => some (off + n ≤ cs.length ∧ (ag = false → n = 1), bif ag then .agg ((cs.drop off).take n) else cs.getD off .undef)
  | _ => none
 | .iaddr es x i => match e x, e i with
  | .isl _ es' xs, .int _ n => some (0 ≤ n ∧ n < xs.length ∧ es' = es, .iptr (xs.getD n.toNat .undef).cells)
  | .msl b es' off len _, .int _ n => some (0 ≤ n ∧ n < len ∧ es' = es, .ptr b (off + n.toNat * es))
  | _, _ => none
 | .iaddrA es len x i => match e x, e i with
  | .ptr b off, .int _ n => some (0 ≤ n ∧ n < len, .ptr b (off + n.toNat * es))
  | .iptr cs, .int _ n => some (0 ≤ n ∧ n < len, .iptr (cs.drop (n.toNat * es)))
  | _, _ => none
 | .idxs x i => match e x, e i with
  | .str s, .int _ n => some (0 ≤ n ∧ n < s.length, .int .u8 ((s.getD n.toNat 0).toNat : Int))
  | _, _ => none
 | .idxA ag es len x i => match e x, e i with
  | .agg cs, .int _ n => some (0 ≤ n ∧ n < len ∧ n.toNat * es + es ≤ cs.length ∧ (ag = false → es = 1), bif ag then .agg ((cs.drop (n.toNat * es)).take es) else cs.getD (n.toNat * es) .undef)
  | _, _ => none
 | .ext x n => match e x with
  | .tup vs => some (n < vs.length, vs.getD n .undef)
  | _ => none
 | .len x => match e x with
  | .isl _ _ xs => some (True, .int .i64 xs.length)
  | .msl _ _ _ len _ => some (True, .int .i64 len)
  | _ => none
 | .lens x => match e x with
  | .str s => some (True, .int .i64 s.length)
  | _ => none
 | .cap x => match e x with
  | .msl _ _ _ _ cap => some (True, .int .i64 cap)
  | .isl true _ xs => some (True, .int .i64 xs.length)
  | _ => none
 | .mx x y => match e x, e y with
  | .int k a, .int k' b => some (k = k', .int k (if b > a then b else a))
  | _, _ => none
 | .mn x y => match e x, e y with
  | .int k a, .int k' b => some (k = k', .int k (if b < a then b else a))
  | _, _ => none
 | _ => none

end Go.Proofs.Ytdenfjbhkdhlkaa.Lg
