/- The V-logic, part 6: from the program's code to compiled code. -/
import Derived.Test.YtefbofjonjdebaaVe
set_option linter.unusedVariables false
set_option linter.unusedSimpArgs false
namespace Go.VL
open Go

def vOf1 (s : Nat) : Value → Option V
  | .int k n => some (.int k n)
  | .bool b => some (.bool b)
  | .string t => some (.str t.data.toList)
  | .slice none 0 0 => some (.sl true .pub s [])
  | .pointer none => some (.ptr none)
  | .map none => some (.map none)
  | .nilFunc => some .nilf
  | _ => none
def vOfs : List Value → Option (List V)
  | [] => some []
  | v :: r => match vOf1 0 v, vOfs r with
    | some x, some xs => some (x :: xs)
    | _, _ => none
def vOf (s : Nat) : Value → Option V
  | .agg cs => (vOfs cs.toList).map .agg
  | v => vOf1 s v

def compE (s : Nat) : Operand → Option E
  | .tmp t => some (.t t)
  | .const v => (vOf s v).map .c
  | .func f => some (.c (.fn f []))
  | .global _ => none
def compEs (s : Nat) : List Operand → Option (List E)
  | [] => some []
  | x :: r => match compE s x, compEs s r with
    | some y, some ys => some (y :: ys)
    | _, _ => none
def compEO (s : Nat) : Option Operand → Option (Option E)
  | none => some none
  | some x => (compE s x).map some

def szOf (P : Program) (t : TypeId) : Option Nat := (P.info? t).map (·.size)
def aggOf (P : Program) (t : TypeId) : Option Bool := match P.underlying t with
  | some (.struct _) | some (.array _ _) => some true
  | some _ => some false
  | none => none
def nilSz (P : Program) (t : TypeId) : Nat := match P.underlying t with
  | some (.slice e) => (szOf P e).getD 0
  | _ => 0
def zeroC (P : Program) (t : TypeId) : Option (List V) := ((P.info? t).bind (·.zero)).bind fun z => vOfs z.cells.toList

mutual
/-- The leaves of a comparable type. -/
def leaves (P : Program) : Nat → TypeId → Option (List LK)
  | 0, _ => none
  | n + 1, t => match P.underlying t with
    | some (.int k) => some [.int k]
    | some .bool => some [.bool]
    | some .string => some [.str]
    | some (.struct fs) => if P.stoodInHeld t then none else leavesF P n 0 fs.toList
    | _ => none
def leavesF (P : Program) : Nat → Nat → List Field → Option (List LK)
  | _, _, [] => some []
  | 0, _, _ :: _ => none
  | n + 1, off, f :: r => if f.name = "_" || f.offset ≠ off then none else
    match leaves P n f.type, szOf P f.type with
    | some a, some s => if a.length ≠ s then none else if s = 0 then none else (leavesF P n (off + s) r).map (a ++ ·)
    | _, _ => none
end

/-- A key's leaves. -/
def leavesK (P : Program) (t : TypeId) : Option (List LK) := match leaves P 20 t, aggOf P t with
  | some l, some true => some (.agg :: l)
  | some l, some false => some l
  | _, _ => none

def fieldsOf (P : Program) (t : TypeId) : Option (Array Field) := match P.underlying t with
  | some (.struct fs) => some fs
  | _ => none

def ekOf : TypeDesc → Option EK
  | .bool => some .bool
  | .pointer _ => some .ptr
  | .slice _ => some .sl
  | .map _ _ => some .map
  | .func _ _ _ => some .fn
  | _ => none

def compBld (P : Program) (fs : Array Field) : List (Nat × Operand) → Option (List (Nat × Nat × E))
  | [] => some []
  | p :: r => match fs[p.1]?, compE 0 p.2, compBld P fs r with
    | some f, some x, some l => (szOf P f.type).map fun s => (f.offset, s, x) :: l
    | _, _, _ => none
def compLit (i : Nat) : List (Nat × Operand) → Option (List E)
  | [] => some []
  | p :: r => if p.1 ≠ i then none else match compE 0 p.2, compLit (i + 1) r with
    | some x, some l => some (x :: l)
    | _, _ => none

def fnOf : Callee → Option Operand
  | .value f => some f
  | _ => none

def zsOK (i : TypeInfo) : Bool := match i.zero with
  | some z => decide (z.cells.size = i.size)
  | none => false
def isSS : TypeDesc → Bool
  | .slice _ => true
  | .string => true
  | _ => false

def compCall (P : Program) (d : Option Nat) (c : Call) : Option O :=
  match c.callee with
  | .value (.func f) => (compEs 0 c.args.toList).map fun xs => .ca d f xs
  | .value (.tmp k) => (compEs 0 c.args.toList).map fun xs => .cv d (.t k) xs
  | .builtin b => match b, c.args.toList, d with
    | .append, [x, y], some d => match (c.argTypes[0]?).bind P.underlying, (c.argTypes[1]?).bind P.underlying with
      | some (.slice e), some u => if isSS u = false then none else match P.info? e, compE 0 x, compE 0 y with
        | some i, some x, some y => if decide (i.bytes ≤ 65536) && zsOK i then some (.ap d i.size x y) else none
        | _, _, _ => none
      | _, _ => none
    | .len, [x], some d => match (c.argTypes[0]?).bind P.underlying with
      | some (.slice _) => (compE 0 x).map fun x => .ln d .sl x
      | some .string => (compE 0 x).map fun x => .ln d .fn x
      | some (.map _ _) => (compE 0 x).map fun x => .ln d .map x
      | _ => none
    | .max, [x, y], some d => match compE 0 x, compE 0 y with
      | some x, some y => some (.mx d x y)
      | _, _ => none
    | .min, [x, y], some d => match compE 0 x, compE 0 y with
      | some x, some y => some (.mn d x y)
      | _, _ => none
    | .delete, [x, y], none => match (c.argTypes[0]?).bind P.underlying with
      | some (.map k _) => match leavesK P k, compE 0 x, compE 0 y with
        | some lv, some x, some y => some (.de lv x y)
        | _, _, _ => none
      | _ => none
    | _, _, _ => none
  | _ => none

/-- An address of an element of an owned slice: by what is told of the function. -/
def isSe (loc : List Nat) : Operand → Bool
  | .tmp k => loc.contains (k + 1000000)
  | _ => false

def compO' (P : Program) (loc : List Nat) (o : Oper) : Option O :=
  match o.op, o.dst with
  | .move x, some d => (compE (nilSz P o.type) x).map (.mv d)
  | .assign x, some d => (compE (nilSz P o.type) x).map (.mv d)
  | .pick c a b, some d => match compE 0 c, compE 0 a, compE 0 b with
    | some c, some a, some b => some (.pk d c a b)
    | _, _, _ => none
  | .alloc t, some d => (zeroC P t).map fun z => if loc.contains d then .alL d z else .alH d z
  | .box _ x, some d => (compE 0 x).map fun x => if loc.contains d then .bxL d x else .bxH d x
  | .build t ps, some d => match fieldsOf P t, zeroC P t with
    | some fs, some z => if fs.all (fun f => (szOf P f.type).isSome) then (compBld P fs ps.toList).map (.bld d z) else none
    | _, _ => none
  | .buildSlice t len ps, some d => match P.underlying t with
    | some (.slice e) => match szOf P e, zeroC P e, compLit 0 ps.toList with
      | some s, some _, some l => if l.length = len && len * s ≤ 65536 then some (.lit d s l) else none
      | _, _, _ => none
    | _ => none
  | .load t a, some d => match szOf P t, aggOf P t, compE 0 a with
    | some n, some g, some x => some (.ld d x n g)
    | _, _, _ => none
  | .store t a x, none => match szOf P t, compE 0 a, compE 0 x with
    | some n, some e, some x => some (bif isSe loc a then .se e x n else .st e x n)
    | _, _, _ => none
  | .nilCheck x, some d => (compE 0 x).map (.nc d)
  | .binOp op t x y _, some d => match compE 0 x, compE 0 y with
    | some x, some y => match P.underlying t with
      | some (.struct _) => match leaves P 20 t, op with
        | some lv, .eql => if P.eqGuardType P.depth t then none else some (.be d false lv x y)
        | some lv, .neq => if P.eqGuardType P.depth t then none else some (.be d true lv x y)
        | _, _ => none
      | some (.int _) => some (.bi d op x y)
      | some .string => some (.bi d op x y)
      | some u => match ekOf u, op with
        | some k, .eql => some (.bq d false k x y)
        | some k, .neq => some (.bq d true k x y)
        | _, _ => none
      | none => none
    | _, _ => none
  | .unOp op _ x, some d => (compE 0 x).map (.un d op)
  | .convert s t x, some d => match P.underlying s, P.underlying t, compE 0 x with
    | some (.int _), some (.int k), some x => some (.cI d k x)
    | some (.slice e), some .string, some x => if (P.underlying e matches some (.int .u8)) then some (.cS d x) else none
    | some .string, some .string, some x => some (.cT d x)
    | some .string, some (.slice e), some x => if (P.underlying e matches some (.int .u8)) then some (.cB d x) else none
    | _, _, _ => none
  | .makeFunc (.func f) first caps, some d => if first.isEmpty then (compEs 0 caps.toList).map (.mf d f) else none
  | .makeMap t none, some d => match P.underlying t with
    | some (.map k _) => (leavesK P k).map (.mm d)
    | _ => none
  | .makeSlice t l c, some d => match P.underlying t with
    | some (.slice e) => match P.info? e, zeroC P e, compE 0 l, compE 0 c with
      | some i, some z, some l, some c => if i.bytes ≤ 65536 && i.size = z.length && decide (0 < i.size) then some (.ms d z l c) else none
      | _, _, _, _ => none
    | _ => none
  | .slice t x lo hi none, some d => match P.underlying t, compE 0 x, compEO 0 lo, compEO 0 hi with
    | some (.slice e), some x, some lo, some hi => (szOf P e).map fun n => .sl d n x lo hi
    | some .string, some x, some lo, some hi => some (.ss d x lo hi)
    | _, _, _, _ => none
  | .fieldAddr t x i, some d => match fieldsOf P t, compE 0 x with
    | some fs, some x => match fs[i]? with
      | some f => match szOf P f.type with
        | some (_ + 1) => some (.fa d x f.offset)
        | _ => none
      | none => none
    | _, _ => none
  | .field t x i, some d => match fieldsOf P t, compE 0 x with
    | some fs, some x => match fs[i]? with
      | some f => match szOf P f.type, aggOf P f.type with
        | some n, some g => some (.fd d x f.offset n g)
        | _, _ => none
      | none => none
    | _, _ => none
  | .indexAddr t x i, some d => match P.underlying t, compE 0 x, compE 0 i with
    | some (.slice e), some x, some i => (szOf P e).map (.ia d x i)
    | some (.array n e), some x, some i => (szOf P e).map fun s => .iA d x i s n
    | _, _, _ => none
  | .index t x i, some d => match P.underlying t, compE 0 x, compE 0 i with
    | some .string, some x, some i => some (.ix d x i)
    | _, _, _ => none
  | .extract x i, some d => (compE 0 x).map fun x => .ex d x i
  | .lookup t m k ok, some d => match P.underlying t with
    | some (.map kt e) => match leavesK P kt, compE 0 m, compE 0 k, ((P.info? e).bind (·.zero)).bind (vOf 0) with
      | some lv, some m, some k, some z => some (.lk d lv m k ok z)
      | _, _, _, _ => none
    | _ => none
  | .mapUpdate t m k v, none => match P.underlying t with
    | some (.map kt _) => match leavesK P kt, compE 0 m, compE 0 k, compE 0 v with
      | some lv, some m, some k, some v => some (.mu lv m k v)
      | _, _, _, _ => none
    | _ => none
  | _, _ => none
def O.isCall : O → Bool
  | .ca _ _ _ => true
  | .cv _ _ _ => true
  | _ => false
def compO (P : Program) (loc : List Nat) (o : Oper) : Option O :=
  match o.op with
  | .call c => compCall P o.dst c
  | .defer _ => none
  | _ => match compO' P loc o with
    | some c => if c.isCall then none else some c
    | none => none

/-- The two places: alike, and in the frame. -/
def dstOK (N : Nat) : Option Nat → Option Nat → Bool
  | some d, some e => d.beq e && (d + 1).ble N
  | none, none => true
  | _, _ => false
def compG (P : Program) (N : Nat) (loc : List Nat) (ops : Array Oper) (o : Oper) : Option GO :=
  match compO P loc o with
  | none => none
  | some c => match dstOK N o.dst c.dst, o.guard with
    | true, none => some ⟨none, c⟩
    | true, some (j, b) => ((ops[j]?).bind (·.dst)).map fun g => ⟨some (g, b), c⟩
    | false, _ => none
def compGs (P : Program) (N : Nat) (loc : List Nat) (ops : Array Oper) : List Oper → Option (List GO)
  | [] => some []
  | o :: r => match compG P N loc ops o, compGs P N loc ops r with
    | some g, some l => some (g :: l)
    | _, _ => none

def E.rs : E → List Nat
  | .t n => [n]
  | .c _ => []
def EOrs : Option E → List Nat
  | some x => x.rs
  | none => []
/-- The slots that an operation reads. -/
def O.reads : O → List Nat
  | .mv _ x | .bxL _ x | .bxH _ x | .ld _ x _ _ | .nc _ x | .un _ _ x | .cI _ _ x | .cS _ x | .cT _ x | .cB _ x | .fa _ x _ | .fd _ x _ _ _ | .rg _ x | .nx _ x | .ex _ x _ | .ln _ _ x => x.rs
  | .pk _ a b c => a.rs ++ (b.rs ++ c.rs)
  | .alL _ _ | .alH _ _ | .mm _ _ => []
  | .bld _ _ ps => ps.flatMap (·.2.2.rs)
  | .lit _ _ ps => ps.flatMap E.rs
  | .st a b _ | .se a b _ | .bi _ _ a b | .bq _ _ _ a b | .be _ _ _ a b | .ms _ _ a b | .ia _ a b _ | .iA _ a b _ _ | .ix _ a b | .lk _ _ a b _ _ | .ap _ _ a b | .mx _ a b | .mn _ a b | .de _ a b => a.rs ++ b.rs
  | .mf _ _ ps => ps.flatMap E.rs
  | .sl _ _ x a b | .ss _ x a b => x.rs ++ (EOrs a ++ EOrs b)
  | .mu _ a b c => a.rs ++ (b.rs ++ c.rs)
  | .ca _ _ ps => ps.flatMap E.rs
  | .cv _ f ps => f.rs ++ ps.flatMap E.rs

inductive Kd where
  | val | look | make | change | call | no

/-- Values alone; it looks at memory; it makes memory; it changes memory; a call; not in a region of more than one order. -/
def O.kind : O → Kd
  | .mv _ _ | .nc _ _ | .un _ _ _ | .cI _ _ _ | .cT _ _ | .fa _ _ _ | .fd _ _ _ _ _ | .ex _ _ _ | .pk _ _ _ _ | .bld _ _ _ | .bi _ _ _ _ | .bq _ _ _ _ _ | .be _ _ _ _ _ | .ia _ _ _ _ | .iA _ _ _ _ _
  | .ix _ _ _ | .mx _ _ _ | .mn _ _ _ | .mf _ _ _ | .sl _ _ _ _ _ | .ss _ _ _ _ => .val
  | .ld _ _ _ _ | .cS _ _ | .ln _ _ _ | .lk _ _ _ _ _ _ => .look
  | .alH _ _ | .bxH _ _ | .lit _ _ _ | .cB _ _ | .mm _ _ | .ms _ _ _ _ => .make
  | .st _ _ _ | .ap _ _ _ _ | .mu _ _ _ _ | .de _ _ _ => .change
  | .ca _ _ _ | .cv _ _ _ => .call
  | _ => .no

def GO.reads (o : GO) : List Nat := match o.g with
  | some g => g.1 :: o.o.reads
  | none => o.o.reads

/-- Two operations may change places: x stands first. -/
def free (d : Option Nat) (l : List Nat) : Bool := match d with
  | some d => l.all fun t => !(Nat.beq t d)
  | none => true
def unlike : Option Nat → Option Nat → Bool
  | some a, some b => !(Nat.beq a b)
  | _, _ => true
def kinds : Kd → Kd → Bool
  | _, .no => false
  | .val, _ => true
  | .look, .change => false
  | .look, _ => true
  | _, _ => false
def swOK (x y : GO) : Bool := kinds x.o.kind y.o.kind && (free x.o.dst y.reads && (free y.o.dst x.reads && unlike x.o.dst y.o.dst))


/-! ### Regions of more than one order -/

def mask (rows : List Nat) : List Edge → Nat
  | [] => 0
  | e :: r => bif Region.binds .any e then (2 ^ e.on ||| rows[e.on]?.getD 0) ||| mask rows r else mask rows r
/-- What must come before an operation. -/
def rowsF : List Nat → List Oper → List Nat
  | acc, [] => acc
  | acc, o :: r => rowsF (acc ++ [mask acc o.after.toList]) r
def Kd.early : Kd → Bool
  | .val => true
  | .look => true
  | _ => false
def readyB (rows : List Nat) (done i : Nat) : Bool := (rows[i]?.getD 0 &&& done).beq (rows[i]?.getD 0)
def pickF (p : Nat → Bool) : List Nat → Option Nat
  | [] => none
  | i :: r => bif p i then some i else pickF p r
/-- The order: what changes nothing comes as early as it can. -/
def order (rows : List Nat) (gs : List GO) : Nat → Nat → List Nat → List Nat
  | 0, _, _ => []
  | k + 1, done, rest =>
    match pickF (fun i => readyB rows done i && ((gs[i]?.map (·.o.kind.early)).getD false)) rest with
    | some i => i :: order rows gs k (done ||| 2 ^ i) (rest.filter fun j => !(j.beq i))
    | none => match pickF (fun i => readyB rows done i) rest with
      | some i => i :: order rows gs k (done ||| 2 ^ i) (rest.filter fun j => !(j.beq i))
      | none => []
def okRows (rows : List Nat) : Nat → List Oper → Bool
  | _, [] => true
  | i, o :: r => (rows[i]?.getD 0).beq (mask rows o.after.toList) && okRows rows (i + 1) r
def okOrd (rows : List Nat) (n : Nat) : Nat → List Nat → Bool
  | done, [] => (List.range n).all fun i => done.testBit i
  | done, i :: r => (i + 1).ble n && (!(done.testBit i) && (readyB rows done i && okOrd rows n (done ||| 2 ^ i) r))
def swAt (gs : List GO) (x y : Nat) : Bool := match gs[x]?, gs[y]? with
  | some a, some b => swOK a b
  | _, _ => false
def okPairs (rows : List Nat) (gs : List GO) : List Nat → Bool
  | [] => true
  | x :: r => (r.all fun y => (rows[y]?.getD 0).testBit x || swAt gs x y) && okPairs rows gs r
def Kd.yes : Kd → Bool
  | .no => false
  | _ => true
def getAll (gs : List GO) : List Nat → Option (List GO)
  | [] => some []
  | i :: r => match gs[i]?, getAll gs r with
    | some g, some l => some (g :: l)
    | _, _ => none
def ordOf (ops : List Oper) (gs : List GO) : List Nat := order (rowsF [] ops) gs ops.length 0 (List.range ops.length)
def okD (ops : List Oper) (gs : List GO) (rows ord : List Nat) : Bool :=
  okRows rows 0 ops && (okOrd rows ops.length 0 ord && (okPairs rows gs ord && gs.all (·.o.kind.yes)))
def compD (P : Program) (N : Nat) (loc : List Nat) (ops : Array Oper) : Option (List GO) :=
  match compGs P N loc ops ops.toList with
  | some gs => bif P.follows .mixedOrders && okD ops.toList gs (rowsF [] ops.toList) (ordOf ops.toList gs) then getAll gs (ordOf ops.toList gs) else none
  | none => none

/-- Two operations that may not change places: both orders are gone through. -/
def badPairs (rows : List Nat) (gs : List GO) : List Nat → List (Nat × Nat)
  | [] => []
  | x :: r => ((r.filter fun y => !((rows[y]?.getD 0).testBit x || swAt gs x y)).map fun y => (x, y)) ++ badPairs rows gs r
/-- As order, but q stands ahead of p. -/
def order2 (rows : List Nat) (gs : List GO) (p q : Nat) : Nat → Nat → List Nat → List Nat
  | 0, _, _ => []
  | k + 1, done, rest =>
    match pickF (fun i => readyB rows done i && ((gs[i]?.map (·.o.kind.early)).getD false) && (!(i.beq p) || done.testBit q)) rest with
    | some i => i :: order2 rows gs p q k (done ||| 2 ^ i) (rest.filter fun j => !(j.beq i))
    | none => match pickF (fun i => readyB rows done i && (!(i.beq p) || done.testBit q)) rest with
      | some i => i :: order2 rows gs p q k (done ||| 2 ^ i) (rest.filter fun j => !(j.beq i))
      | none => []
def ord2Of (ops : List Oper) (gs : List GO) (p q : Nat) : List Nat := order2 (rowsF [] ops) gs p q ops.length 0 (List.range ops.length)
def okPairs2 (rows : List Nat) (gs : List GO) (p q : Nat) : List Nat → Bool
  | [] => true
  | x :: r => (r.all fun y => (rows[y]?.getD 0).testBit x || (swAt gs x y || ((x.beq p || (rows[p]?.getD 0).testBit x) && (y.beq q || (rows[y]?.getD 0).testBit q)))) && okPairs2 rows gs p q r
def Kd.isCall : Kd → Bool
  | .call => true
  | _ => false
/-- No call comes ahead of both. -/
def callsDep (rows : List Nat) (p q : Nat) : Nat → List GO → Bool
  | _, [] => true
  | i, g :: r => (!g.o.kind.isCall || (i.beq p || (i.beq q || ((rows[i]?.getD 0).testBit p || (rows[i]?.getD 0).testBit q)))) && callsDep rows p q (i + 1) r
def okE (ops : List Oper) (gs : List GO) (rows o1 o2 : List Nat) (p q : Nat) : Bool :=
  okRows rows 0 ops && (okOrd rows ops.length 0 o1 && (okOrd rows ops.length 0 o2 && (okPairs2 rows gs p q o1 && (okPairs2 rows gs q p o2 && (callsDep rows p q 0 gs && (!(p.beq q) && (((p + 1).ble ops.length && (q + 1).ble ops.length) && gs.all (·.o.kind.yes))))))))
def compE2' (P : Program) (ops : Array Oper) (gs : List GO) : List (Nat × Nat) → Option (List GO × List GO)
  | [(p, q)] => bif P.follows .mixedOrders && okE ops.toList gs (rowsF [] ops.toList) (ordOf ops.toList gs) (ord2Of ops.toList gs p q) p q then
      match getAll gs (ordOf ops.toList gs), getAll gs (ord2Of ops.toList gs p q) with
      | some a, some b => some (a, b)
      | _, _ => none
    else none
  | _ => none
def compE2 (P : Program) (N : Nat) (loc : List Nat) (ops : Array Oper) : Option (List GO × List GO) :=
  match compGs P N loc ops ops.toList with
  | some gs => compE2' P ops gs (badPairs (rowsF [] ops.toList) gs (ordOf ops.toList gs))
  | none => none
def compDE (P : Program) (N : Nat) (loc : List Nat) (ops : Array Oper) : Option C :=
  match compD P N loc ops with
  | some l => some (.opsD l)
  | none => (compE2 P N loc ops).map fun x => .opsE x.1 x.2

/-- In how many ways a statement ends: without a jump; by jumps. -/
def ways : Code → Nat × List Nat
  | .exit i => (0, [i])
  | .ret => (0, [])
  | .goto _ => (0, [])
  | .seq a b => match ways a, ways b with
    | (0, x), _ => (0, x)
    | (_, x), (n, y) => (n, x ++ y)
  | .cond _ a b => match ways a, ways b with
    | (m, x), (n, y) => (m + n, x ++ y)
  | .block i c => match ways c with
    | (n, x) => (n + (x.filter fun j => j.beq i).length, x.filter fun j => !(j.beq i))
  | .loop c => match ways c with
    | (_, x) => (0, x)
  | .scope c => ways c
  | .rangeFunc _ _ _ c => match ways c with
    | (_, x) => (1, x)
  | _ => (1, [])
/-- Where ways meet. -/
def joins (c : Code) : Bool := Nat.ble 2 (ways c).1

def compC (P : Program) (N : Nat) (loc : List Nat) : Code → Option C
  | .skip => some .skip
  | .label _ => some .skip
  | .region _ ops false => (compGs P N loc ops ops.toList).map .ops
  | .region _ ops true => compDE P N loc ops
  | .seq a b => match compC P N loc a, compC P N loc b with
    | some x, some y => some (bif joins a then .cut x y else .seq x y)
    | _, _ => none
  | .cond x a b => match compE 0 x, compC P N loc a, compC P N loc b with
    | some x, some a, some b => some (.cond x a b)
    | _, _, _ => none
  | .block i c => (compC P N loc c).map (.block i)
  | .loop c => (compC P N loc c).map .loop
  | .scope c => compC P N loc c
  | .exit i => some (.exit i)
  | .ret => some .ret
  | _ => none
end Go.VL
