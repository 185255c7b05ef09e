import Derived.CallsIn
import Derived.Laws.Sem
import Derived.RangeFuncSeq
import Derived.Below
import Derived.Laws.Strings
import Derived.Laws.StructEq
import Derived.Laws.BytesString
import Derived.Lib.ConvBytes
set_option linter.unusedVariables false
set_option linter.unusedSimpArgs false
namespace Go.VL
open Go

/-- A slice's right: published (never written again), owned (may be appended to), a view into an owned one. -/
inductive R where
  | pub
  | own (r : Nat)
  | view (r : Nat)

def R.toView : R → R
  | .pub => .pub
  | .own r => .view r
  | .view r => .view r

inductive V where
  | int (k : IntKind) (n : Int)
  | bool (b : Bool)
  | str (s : List UInt8)
  | agg (cs : List V)
  | tup (vs : List V)
  | sl (b : Bool) (r : R) (s : Nat) (es : List (List V))
  | ptr (o : Option (Nat × Nat))
  | elt (r : R) (s : Nat) (es : List (List V)) (i o : Nat)
  | map (o : Option Nat)
  | osl (i n cap s : Nat)
  | fn (f : FuncId) (caps : List V)
  | nilf
  | raw (v : Value)
  | bad

instance : Inhabited V := ⟨.bad⟩

inductive S where
  | v (x : V)
  | loc (k o : Nat)

structure Fr where
  s : List (Nat × S)
  l : List (Nat × List V)

def sget (t : Nat) : List (Nat × S) → S
  | [] => .v .bad
  | p :: r => bif Nat.beq p.1 t then p.2 else sget t r
def sset (t : Nat) (x : S) : List (Nat × S) → List (Nat × S)
  | [] => [(t, x)]
  | p :: r => bif Nat.beq p.1 t then (t, x) :: r else p :: sset t x r
def lget (t : Nat) : List (Nat × List V) → Option (List V)
  | [] => none
  | p :: r => bif Nat.beq p.1 t then some p.2 else lget t r
def lset (t : Nat) (x : List V) : List (Nat × List V) → List (Nat × List V)
  | [] => [(t, x)]
  | p :: r => bif Nat.beq p.1 t then (t, x) :: r else p :: lset t x r
/-- A new local variable of a site: older addresses of that site are forgotten. -/
def sdrop (k : Nat) : List (Nat × S) → List (Nat × S)
  | [] => []
  | (t, .loc k' o) :: r => (t, bif Nat.beq k' k then .v .bad else .loc k' o) :: sdrop k r
  | (t, .v x) :: r => (t, .v x) :: sdrop k r

def Fr.set (F : Fr) (t : Nat) (x : S) : Fr := ⟨sset t x F.s, F.l⟩
def Fr.setL (F : Fr) (k : Nat) (cs : List V) : Fr := ⟨F.s, lset k cs F.l⟩
def Fr.newL (F : Fr) (k : Nat) (cs : List V) : Fr := ⟨sset k (.loc k 0) (sdrop k F.s), lset k cs F.l⟩

inductive E where
  | t (n : Nat)
  | c (v : V)

def Fr.ev (F : Fr) : E → S
  | .t n => sget n F.s
  | .c v => .v v
def S.val : S → V
  | .v x => x
  | .loc _ _ => .bad
def Fr.va (F : Fr) (x : E) : V := (F.ev x).val

/-- What a leaf of a comparable type is. -/
inductive LK where
  | int (k : IntKind)
  | bool
  | str
  | agg

inductive AObj where
  | cells (cs : List V)
  | mp (lv : List LK) (es : List (V × V)) (ver : Nat)
  | it (m : Option (Nat × Nat)) (left : List (V × V)) (cur : Option (V × V))
  | mq (lv : List LK) (es : List (V × V)) (ver n : Nat) (k : V)
  | raw (l : Nat) (o : Obj) (xs : List V) (vs : List Value)
  | row (cap s : Nat) (cs : List V)

structure St where
  objs : List AObj
  live : List Bool

def St.setA (σ : St) (i : Nat) (o : AObj) : St := ⟨σ.objs.set i o, σ.live⟩
/-- A frame's slots, the addresses of its own variables forgotten. -/
def dropL : List (Nat × S) → List (Nat × S)
  | [] => []
  | (t, .loc _ _) :: r => (t, .v .bad) :: dropL r
  | (t, .v x) :: r => (t, .v x) :: dropL r
def setPs : List Nat → List V → Fr → Fr
  | p :: ps, x :: xs, F => setPs ps xs (F.set p (.v x))
  | _, _, F => F
/-- The frame of a round. -/
def rndF (F : Fr) (ps : List Nat) (xs : List V) : Fr := setPs ps xs ⟨dropL F.s, []⟩
/-- The value that yields into a loop. -/
def yv (l : Nat) : V := .raw (.func (.yield l) #[] #[])

/-- May be read. -/
def rd (live : List Bool) : R → Prop
  | .pub => True
  | .own r => live[r]? = some true
  | .view r => live[r]? = some true
def kill (live : List Bool) : R → List Bool
  | .own r => live.set r false
  | _ => live
/-- May be appended to. -/
def St.ow (σ : St) (b : Bool) : R → Prop
  | .own r => b = true ∨ σ.live[r]? = some true
  | _ => b = true

inductive EK where
  | bool | ptr | sl | map | fn

inductive O where
  | mv (d : Nat) (x : E)
  | pk (d : Nat) (c a b : E)
  | alL (d : Nat) (z : List V)
  | alH (d : Nat) (z : List V)
  | bxL (d : Nat) (x : E)
  | bxH (d : Nat) (x : E)
  | bld (d : Nat) (z : List V) (ps : List (Nat × Nat × E))
  | lit (d : Nat) (s : Nat) (ps : List E)
  | ld (d : Nat) (a : E) (n : Nat) (g : Bool)
  | st (a x : E) (n : Nat)
  | se (a x : E) (n : Nat)
  | sn (a x : E) (n p : Nat)
  | nc (d : Nat) (x : E)
  | bi (d : Nat) (op : BinOp) (x y : E)
  | bq (d : Nat) (ne : Bool) (k : EK) (x y : E)
  | be (d : Nat) (ne : Bool) (lv : List LK) (x y : E)
  | un (d : Nat) (op : UnOp) (x : E)
  | cI (d : Nat) (k : IntKind) (x : E)
  | cS (d : Nat) (x : E)
  | cT (d : Nat) (x : E)
  | cB (d : Nat) (x : E)
  | mf (d : Nat) (f : FuncId) (caps : List E)
  | mm (d : Nat) (lv : List LK)
  | ms (d : Nat) (z : List V) (len cap : E)
  | sl (d : Nat) (n : Nat) (x : E) (lo hi : Option E)
  | ss (d : Nat) (x : E) (lo hi : Option E)
  | fa (d : Nat) (x : E) (off : Nat)
  | fd (d : Nat) (x : E) (off n : Nat) (g : Bool)
  | ia (d : Nat) (x i : E) (s : Nat)
  | iA (d : Nat) (x i : E) (s len : Nat)
  | ix (d : Nat) (x i : E)
  | lk (d : Nat) (lv : List LK) (m k : E) (ok : Bool) (z : V)
  | mu (lv : List LK) (m k v : E)
  | rg (d : Nat) (x : E)
  | nx (d : Nat) (x : E)
  | en (d : Nat) (x : E)
  | me (d : Nat) (lv : List LK) (m k : E) (z : V)
  | es (lv : List LK) (m s v : E)
  | ex (d : Nat) (x : E) (i : Nat)
  | ap (d : Nat) (s : Nat) (x y : E)
  | ln (d : Nat) (k : EK) (x : E)
  | mx (d : Nat) (x y : E)
  | mn (d : Nat) (x y : E)
  | de (lv : List LK) (m k : E)
  | ca (d : Option Nat) (f : FuncId) (xs : List E)
  | cv (d : Option Nat) (f : E) (xs : List E)
  | cm (d : Option Nat) (f : FuncId) (xs : List E)
  | ao (d s : Nat) (row : Bool) (x y : E)
  | lip (d s : Nat) (ps : List E)

/-- An operation under its guard. -/
structure GO where
  g : Option (Nat × Bool)
  o : O

inductive C where
  | skip
  | ops (l : List GO)
  | opsD (l : List GO)
  | opsE (l m : List GO)
  | seq (a b : C)
  | cut (a b : C)
  | cond (x : E) (a b : C)
  | block (id : Nat) (c : C)
  | loop (c : C)
  | exit (id : Nat)
  | ret
  | range (f : E) (ps : List Nat) (a b : C)

inductive X where
  | normal
  | exit (id : Nat)
  | ret

inductive Res where
  | bad
  | ok (F : Fr) (σ : St)
  | need (p : Prop) (F : Fr) (σ : St)

mutual
def V.eq : V → V → Bool
  | .int k n, .int k' n' => decide (k = k') && decide (n = n')
  | .bool b, .bool b' => b == b'
  | .str s, .str s' => s == s'
  | .agg a, .agg b => V.eqs a b
  | _, _ => false
def V.eqs : List V → List V → Bool
  | [], [] => true
  | a :: r, b :: t => V.eq a b && V.eqs r t
  | _, _ => false
end
def LK.fits : LK → V → Bool
  | .int k, .int k' _ => decide (k = k')
  | .bool, .bool _ => true
  | .str, .str _ => true
  | _, _ => false
/-- Cells of a comparable type. -/
def fits : List LK → List V → Bool
  | [], [] => true
  | k :: r, x :: t => k.fits x && fits r t
  | _, _ => false

def ldC (d : Nat) (F : Fr) (σ : St) (cs : List V) (n : Nat) : Bool → Res
  | true => .need ((cs.take n).length = n) (F.set d (.v (.agg (cs.take n)))) σ
  | false => match cs with
    | x :: _ => .ok (F.set d (.v x)) σ
    | [] => .bad

/-- A value's cells. -/
def cellsOf : V → Option (List V)
  | .agg cs => some cs
  | .bad => none
  | .tup _ => none
  | .raw _ => none
  | v => some [v]
/-- A struct's leaves have 'agg' ahead of them. -/
def keyFits (lv : List LK) (x : V) : Bool := match lv, x with
  | .agg :: l, .agg cs => fits l cs
  | .agg :: _, _ => false
  | _, .agg _ => false
  | l, v => fits l [v]

/-- Cells over cells from a place on. -/
def over (cs : List V) (o : Nat) (xs : List V) : List V := cs.take o ++ xs ++ cs.drop (o + xs.length)

def ibits (op : BinOp) (k : IntKind) (a b : Int) : Int :=
  match op with
  | .and => k.wrap ((BitVec.ofInt k.bits a &&& BitVec.ofInt k.bits b).toNat)
  | .or => k.wrap ((BitVec.ofInt k.bits a ||| BitVec.ofInt k.bits b).toNat)
  | .xor => k.wrap ((BitVec.ofInt k.bits a ^^^ BitVec.ofInt k.bits b).toNat)
  | _ => k.wrap ((BitVec.ofInt k.bits a &&& ~~~ BitVec.ofInt k.bits b).toNat)

def ibin (d : Nat) (F : Fr) (σ : St) (k : IntKind) (a b : Int) : BinOp → Res
  | .add => .ok (F.set d (.v (.int k (k.wrap (a + b))))) σ
  | .sub => .ok (F.set d (.v (.int k (k.wrap (a - b))))) σ
  | .mul => .ok (F.set d (.v (.int k (k.wrap (a * b))))) σ
  | .quo => .need (b ≠ 0) (F.set d (.v (.int k (k.wrap (a.tdiv b))))) σ
  | .rem => .need (b ≠ 0) (F.set d (.v (.int k (a.tmod b)))) σ
  | .and => .ok (F.set d (.v (.int k (ibits .and k a b)))) σ
  | .or => .ok (F.set d (.v (.int k (ibits .or k a b)))) σ
  | .xor => .ok (F.set d (.v (.int k (ibits .xor k a b)))) σ
  | .andNot => .ok (F.set d (.v (.int k (ibits .andNot k a b)))) σ
  | .eql => .ok (F.set d (.v (.bool (decide (a = b))))) σ
  | .neq => .ok (F.set d (.v (.bool (!decide (a = b))))) σ
  | .lss => .ok (F.set d (.v (.bool (decide (a < b))))) σ
  | .leq => .ok (F.set d (.v (.bool (decide (a ≤ b))))) σ
  | .gtr => .ok (F.set d (.v (.bool (decide (b < a))))) σ
  | .geq => .ok (F.set d (.v (.bool (decide (b ≤ a))))) σ
  | _ => .bad

def strLess : List UInt8 → List UInt8 → Bool
  | _, [] => false
  | [], _ :: _ => true
  | a :: x, b :: y => a < b || (a == b && strLess x y)

def sbin (d : Nat) (F : Fr) (σ : St) (a b : List UInt8) : BinOp → Res
  | .add => .need (a.length + b.length ≤ 140737488355328) (F.set d (.v (.str (a ++ b)))) σ
  | .eql => .ok (F.set d (.v (.bool (decide (a = b))))) σ
  | .neq => .ok (F.set d (.v (.bool (!decide (a = b))))) σ
  | .lss => .ok (F.set d (.v (.bool (strLess a b)))) σ
  | .leq => .ok (F.set d (.v (.bool (strLess a b || decide (a = b))))) σ
  | .gtr => .ok (F.set d (.v (.bool (!(strLess a b || decide (a = b)))))) σ
  | .geq => .ok (F.set d (.v (.bool (!strLess a b)))) σ
  | _ => .bad

/-- Two numbers. -/
def iibin (d : Nat) (F : Fr) (σ : St) (op : BinOp) (k : IntKind) (a : Int) (k' : IntKind) (b : Int) : Res :=
  match op with
  | .shl => .need (0 ≤ b) (F.set d (.v (.int k (k.wrap (a * 2 ^ (min b.toNat k.bits)))))) σ
  | .shr => .need (0 ≤ b) (F.set d (.v (.int k (a.fdiv (2 ^ (min b.toNat k.bits)))))) σ
  | op => if k = k' then ibin d F σ k a b op else .bad
/-- A binary operation. -/
def bin (d : Nat) (F : Fr) (σ : St) (op : BinOp) : V → V → Res
  | .int k a, .int k' b => iibin d F σ op k a k' b
  | .str a, .str b => sbin d F σ a b op
  | _, _ => .bad

/-- Equality of what is no number, text or struct. -/
def bqW (d : Nat) (F : Fr) (σ : St) (ne : Bool) : EK → V → V → Res
  | .bool, .bool a, .bool b => .ok (F.set d (.v (.bool (bif ne then !(a == b) else a == b)))) σ
  | .ptr, .ptr a, .ptr none => .ok (F.set d (.v (.bool (bif ne then !a.isNone else a.isNone)))) σ
  | .map, .map a, .map none => .ok (F.set d (.v (.bool (bif ne then !a.isNone else a.isNone)))) σ
  | .sl, .sl b _ _ _, .sl true _ _ [] => .ok (F.set d (.v (.bool (bif ne then !b else b)))) σ
  | .fn, .fn _ _, .nilf => .ok (F.set d (.v (.bool ne))) σ
  | .fn, .nilf, .nilf => .ok (F.set d (.v (.bool (!ne)))) σ
  | _, _, _ => .bad

def unW (d : Nat) (F : Fr) (σ : St) (op : UnOp) : V → Res
  | .bool b => match op with
    | .not => .ok (F.set d (.v (.bool (!b)))) σ
    | _ => .bad
  | .int k n => match op with
    | .neg => .ok (F.set d (.v (.int k (k.wrap (0 - n))))) σ
    | .xor => .ok (F.set d (.v (.int k (ibits .xor k (if k.signed then -1 else k.max) n)))) σ
    | _ => .bad
  | _ => .bad

/-- Two structs. -/
def beW (d : Nat) (F : Fr) (σ : St) (ne : Bool) (lv : List LK) : V → V → Res
  | .agg a, .agg b => .need (fits lv a = true ∧ fits lv b = true) (F.set d (.v (.bool (bif ne then !(V.eqs a b) else V.eqs a b)))) σ
  | _, _ => .bad

/-- Parts laid over cells. -/
def overC (z : List V) (off n : Nat) : Option (List V) → Option (List V)
  | some xs => bif Nat.beq xs.length n && Nat.ble (off + n) z.length then some (over z off xs) else none
  | none => none
def overs (F : Fr) : Option (List V) → List (Nat × Nat × E) → Option (List V)
  | z, [] => z
  | some z, p :: r => overs F (overC z p.1 p.2.1 (cellsOf (F.va p.2.2))) r
  | none, _ :: _ => none
def bldW (d : Nat) (F : Fr) (σ : St) : Option (List V) → Res
  | some cs => .ok (F.set d (.v (.agg cs))) σ
  | none => .bad
/-- A value of one cell. -/
def V.flat : V → Bool
  | .agg _ | .tup _ | .bad | .raw _ => false
  | _ => true
def flats : List V → Bool
  | [] => true
  | x :: r => x.flat && flats r
def lits (F : Fr) (s : Nat) : List E → Option (List (List V))
  | [] => some []
  | x :: r => match cellsOf (F.va x), lits F s r with
    | some xs, some es => bif Nat.beq xs.length s && flats xs then some (xs :: es) else none
    | _, _ => none
def litW (d : Nat) (F : Fr) (σ : St) (s : Nat) : Option (List (List V)) → Res
  | some es => .ok (F.set d (.v (.sl false (.own σ.live.length) s es))) ⟨σ.objs, σ.live ++ [true]⟩
  | none => .bad
/-- A literal that is never written. -/
def lipW (d : Nat) (F : Fr) (σ : St) (s : Nat) : Option (List (List V)) → Res
  | some es => .ok (F.set d (.v (.sl false .pub s es))) σ
  | none => .bad
def bxLW (d : Nat) (F : Fr) (σ : St) : Option (List V) → Res
  | some cs => .ok (F.newL d cs) σ
  | none => .bad
def bxHW (d : Nat) (F : Fr) (σ : St) : Option (List V) → Res
  | some cs => .ok (F.set d (.v (.ptr (some (σ.objs.length, 0))))) ⟨σ.objs ++ [.cells cs], σ.live⟩
  | none => .bad

def ldL (d : Nat) (F : Fr) (σ : St) (n : Nat) (g : Bool) (o : Nat) : Option (List V) → Res
  | some cs => ldC d F σ (cs.drop o) n g
  | none => .bad
def ldO (d : Nat) (F : Fr) (σ : St) (n : Nat) (g : Bool) (o : Nat) : Option AObj → Res
  | some (.cells cs) => ldC d F σ (cs.drop o) n g
  | some (.row _ _ cs) => ldC d F σ (cs.drop o) n g
  | _ => .bad
def Res.also (p : Prop) : Res → Res
  | .bad => .bad
  | .ok F σ => .need p F σ
  | .need q F σ => .need (p ∧ q) F σ
def ldV (d : Nat) (F : Fr) (σ : St) (n : Nat) (g : Bool) : V → Res
  | .ptr (some p) => ldO d F σ n g p.2 (σ.objs[p.1]?)
  | .elt r _ es i o => Res.also (rd σ.live r) (ldC d F σ ((es[i]?.getD []).drop o) n g)
  | _ => .bad
/-- A read through an address. -/
def ldW (d : Nat) (F : Fr) (σ : St) (n : Nat) (g : Bool) : S → Res
  | .loc k o => ldL d F σ n g o (lget k F.l)
  | .v x => ldV d F σ n g x

/-- A write through an address. -/
def stL (F : Fr) (σ : St) (k o : Nat) (xs : List V) : Option (List V) → Res
  | some cs => .need (o + xs.length ≤ cs.length) (F.setL k (over cs o xs)) σ
  | none => .bad
def St.setC (σ : St) (i : Nat) (cs : List V) : St := ⟨σ.objs.set i (.cells cs), σ.live⟩
def St.setR (σ : St) (i cap s : Nat) (cs : List V) : St := ⟨σ.objs.set i (.row cap s cs), σ.live⟩
def St.setM (σ : St) (i : Nat) (lv : List LK) (es : List (V × V)) (ver : Nat) : St := ⟨σ.objs.set i (.mp lv es ver), σ.live⟩
def stO (F : Fr) (σ : St) (i o : Nat) (xs : List V) : Option AObj → Res
  | some (.cells cs) => .need (o + xs.length ≤ cs.length) F (σ.setC i (over cs o xs))
  | some (.row cap s cs) => .need (o + xs.length ≤ cs.length) F (σ.setR i cap s (over cs o xs))
  | _ => .bad
def stV (F : Fr) (σ : St) (xs : List V) : V → Res
  | .ptr (some p) => stO F σ p.1 p.2 xs (σ.objs[p.1]?)
  | _ => .bad
def stW (F : Fr) (σ : St) (xs : List V) : S → Res
  | .loc k o => stL F σ k o xs (lget k F.l)
  | .v x => stV F σ xs x

def stC (F : Fr) (σ : St) (n : Nat) (a : S) : Option (List V) → Res
  | some xs => Res.also (xs.length = n ∧ flats xs = true) (stW F σ xs a)
  | none => .bad
/-- An owned slice has another content: under another right. -/
def renS (r r' s : Nat) (es : List (List V)) : S → S
  | .v (.sl false (.own q) t l) => bif Nat.beq q r then .v (.sl false (.own r') s es) else .v (.sl false (.own q) t l)
  | .v (.elt (.own q) t l i o) => bif Nat.beq q r then .v (.elt (.own r') s es i o) else .v (.elt (.own q) t l i o)
  | x => x
def renL (r r' s : Nat) (es : List (List V)) : List (Nat × S) → List (Nat × S)
  | [] => []
  | p :: l => (p.1, renS r r' s es p.2) :: renL r r' s es l
def renV (r r' s : Nat) (es : List (List V)) : V → V
  | .sl false (.own q) t l => bif Nat.beq q r then .sl false (.own r') s es else .sl false (.own q) t l
  | x => x
def renF (r r' s : Nat) (es : List (List V)) : List (Nat × List V) → List (Nat × List V)
  | [] => []
  | p :: l => (p.1, p.2.map (renV r r' s es)) :: renF r r' s es l
/-- A write into an element of an owned slice. -/
def seO (F : Fr) (σ : St) (xs : List V) (r s : Nat) (es : List (List V)) (i o : Nat) : Option (List V) → Res
  | some cs => .need (σ.live[r]? = some true ∧ o + xs.length ≤ cs.length) ⟨renL r σ.live.length s (es.set i (over cs o xs)) F.s, renF r σ.live.length s (es.set i (over cs o xs)) F.l⟩ ⟨σ.objs, σ.live.set r false ++ [true]⟩
  | none => .bad
def seV (F : Fr) (σ : St) (xs : List V) : V → Res
  | .elt (.own r) s es i o => seO F σ xs r s es i o (es[i]?)
  | _ => .bad
def seC (F : Fr) (σ : St) (n : Nat) (a : V) : Option (List V) → Res
  | some xs => Res.also (xs.length = n ∧ flats xs = true) (seV F σ xs a)
  | none => .bad
/-- A write into an element of an owned slice that lies in an element of another one: that one's content is told anew. -/
def snP (F : Fr) (σ : St) (r r' s : Nat) (es : List (List V)) : S → Res
  | .v (.sl false (.own q) t l) => .need (σ.live[q]? = some true) ⟨renL q σ.live.length t (l.map (List.map (renV r r' s es))) F.s, renF q σ.live.length t (l.map (List.map (renV r r' s es))) F.l⟩ ⟨σ.objs, σ.live.set q false ++ [true]⟩
  | _ => .bad
def snO (F : Fr) (σ : St) (xs : List V) (r s : Nat) (es : List (List V)) (i o : Nat) (p : S) : Option (List V) → Res
  | some cs => Res.also (σ.live[r]? = some true ∧ o + xs.length ≤ cs.length) (snP ⟨renL r σ.live.length s (es.set i (over cs o xs)) F.s, renF r σ.live.length s (es.set i (over cs o xs)) F.l⟩ ⟨σ.objs, σ.live.set r false ++ [true]⟩ r σ.live.length s (es.set i (over cs o xs)) p)
  | none => .bad
def snV (F : Fr) (σ : St) (xs : List V) (p : S) : V → Res
  | .elt (.own r) s es i o => snO F σ xs r s es i o p (es[i]?)
  | _ => .bad
def snC (F : Fr) (σ : St) (n : Nat) (p : S) (a : V) : Option (List V) → Res
  | some xs => Res.also (xs.length = n ∧ flats xs = true) (snV F σ xs p a)
  | none => .bad
def ncW (d : Nat) (F : Fr) (σ : St) : S → Res
  | .loc k o => .ok (F.set d (.loc k o)) σ
  | .v (.ptr (some p)) => .ok (F.set d (.v (.ptr (some p)))) σ
  | .v (.elt r s es i o) => .ok (F.set d (.v (.elt r s es i o))) σ
  | .v (.fn f c) => .ok (F.set d (.v (.fn f c))) σ
  | _ => .bad

def cIW (d : Nat) (F : Fr) (σ : St) (k : IntKind) : V → Res
  | .int _ n => .ok (F.set d (.v (.int k (k.wrap n)))) σ
  | _ => .bad

/-- The bytes of cells. -/
def byteOfC : List V → UInt8
  | .int _ n :: _ => UInt8.ofNat n.toNat
  | _ => 0
def bytesV (s : List UInt8) : List (List V) := s.map fun b => [V.int .u8 b.toNat]
def cSW (d : Nat) (F : Fr) (σ : St) : V → Res
  | .str s => .ok (F.set d (.v (.str s))) σ
  | .sl b r s es => .need ((b = true ∨ rd σ.live r ∧ s = 1) ∧ es = bytesV (es.map byteOfC)) (F.set d (.v (.str (es.map byteOfC)))) σ
  | _ => .bad
def cTW (d : Nat) (F : Fr) (σ : St) : V → Res
  | .str s => .ok (F.set d (.v (.str s))) σ
  | _ => .bad
def cBW (d : Nat) (F : Fr) (σ : St) : V → Res
  | .str s => .ok (F.set d (.v (.sl false (.own σ.live.length) 1 (bytesV s)))) ⟨σ.objs, σ.live ++ [true]⟩
  | _ => .bad

def pkW (d : Nat) (F : Fr) (σ : St) (a b : S) : V → Res
  | .bool true => .ok (F.set d a) σ
  | .bool false => .ok (F.set d b) σ
  | _ => .bad
/-- Where both are plain truths a choice is a value. -/
def pkB (d : Nat) (F : Fr) (σ : St) (c a b : S) : Res := pkW d F σ a b c.val

def faW (d : Nat) (F : Fr) (σ : St) (off : Nat) : S → Res
  | .loc k o => .ok (F.set d (.loc k (o + off))) σ
  | .v (.ptr (some p)) => .ok (F.set d (.v (.ptr (some (p.1, p.2 + off))))) σ
  | .v (.elt r s es i o) => .ok (F.set d (.v (.elt r s es i (o + off)))) σ
  | _ => .bad
def fdW (d : Nat) (F : Fr) (σ : St) (off n : Nat) (g : Bool) : V → Res
  | .agg cs => ldC d F σ (cs.drop off) n g
  | _ => .bad
def iaW (d : Nat) (F : Fr) (σ : St) (s : Nat) : V → V → Res
  | .sl _ r s' es, .int _ i => .need (0 ≤ i ∧ i < es.length ∧ s' = s) (F.set d (.v (.elt r s es i.toNat 0))) σ
  | .osl j n _ s', .int _ i => .need (0 ≤ i ∧ i < n ∧ s' = s) (F.set d (.v (.ptr (some (j, i.toNat * s))))) σ
  | _, _ => .bad
def iAV (d : Nat) (F : Fr) (σ : St) (s len : Nat) (i : Int) : S → Res
  | .loc k o => .need (0 ≤ i ∧ i < len) (F.set d (.loc k (o + i.toNat * s))) σ
  | .v (.ptr (some p)) => .need (0 ≤ i ∧ i < len) (F.set d (.v (.ptr (some (p.1, p.2 + i.toNat * s))))) σ
  | .v (.elt r s' es j o) => .need (0 ≤ i ∧ i < len) (F.set d (.v (.elt r s' es j (o + i.toNat * s)))) σ
  | _ => .bad
def iAW (d : Nat) (F : Fr) (σ : St) (s len : Nat) (x : S) : V → Res
  | .int _ i => iAV d F σ s len i x
  | _ => .bad
def ixW (d : Nat) (F : Fr) (σ : St) : V → V → Res
  | .str s, .int _ i => .need (0 ≤ i ∧ i < s.length) (F.set d (.v (.int .u8 (s[i.toNat]?.getD 0).toNat))) σ
  | _, _ => .bad

def find (k : V) : List (V × V) → Option V
  | [] => none
  | p :: r => bif V.eq k p.1 then some p.2 else find k r
def upd (k v : V) : List (V × V) → List (V × V)
  | [] => [(k, v)]
  | p :: r => bif V.eq k p.1 then (k, v) :: r else p :: upd k v r
def del (k : V) : List (V × V) → List (V × V)
  | [] => []
  | p :: r => bif V.eq k p.1 then r else p :: del k r

def lkR (d : Nat) (F : Fr) (σ : St) (ok : Bool) (z : V) : Option V → Res
  | some v => .ok (F.set d (.v (match ok with | true => .tup [v, .bool true] | false => v))) σ
  | none => .ok (F.set d (.v (match ok with | true => .tup [z, .bool false] | false => z))) σ
def lkO (d : Nat) (F : Fr) (σ : St) (lv : List LK) (k : V) (ok : Bool) (z : V) : Option AObj → Res
  | some (.mp lv' es _) => Res.also (lv' = lv ∧ keyFits lv k = true) (lkR d F σ ok z (find k es))
  | some (.mq lv' es _ _ _) => Res.also (lv' = lv ∧ keyFits lv k = true) (lkR d F σ ok z (find k es))
  | _ => .bad
def lkW (d : Nat) (F : Fr) (σ : St) (lv : List LK) (k : V) (ok : Bool) (z : V) : V → Res
  | .map (some i) => lkO d F σ lv k ok z (σ.objs[i]?)
  | .map none => Res.also (keyFits lv k = true) (lkR d F σ ok z none)
  | _ => .bad
def muO (F : Fr) (σ : St) (i : Nat) (lv : List LK) (k v : V) : Option AObj → Res
  | some (.mp lv' es ver) => Res.also (lv' = lv ∧ keyFits lv k = true) (.ok F (σ.setM i lv (upd k v es) (ver + 1)))
  | _ => .bad
def muW (F : Fr) (σ : St) (lv : List LK) (k v : V) : V → Res
  | .map (some i) => muO F σ i lv k v (σ.objs[i]?)
  | _ => .bad
def deO (F : Fr) (σ : St) (i : Nat) (lv : List LK) (k : V) : Option AObj → Res
  | some (.mp lv' es ver) => Res.also (lv' = lv ∧ keyFits lv k = true) (.ok F (σ.setM i lv (del k es) (ver + 1)))
  | _ => .bad
def deW (F : Fr) (σ : St) (lv : List LK) (k : V) : V → Res
  | .map (some i) => deO F σ i lv k (σ.objs[i]?)
  | .map none => Res.also (keyFits lv k = true) (.ok F σ)
  | _ => .bad
/-- Where a key stands. -/
def findI (k : V) : List (V × V) → Nat → Option (Nat × V)
  | [], _ => none
  | p :: r, i => bif V.eq k p.1 then some (i, p.2) else findI k r (i + 1)
/-- A map's entries with one of a key, at least its zero. -/
def addE (k z : V) (es : List (V × V)) : List (V × V) := match find k es with
  | some _ => es
  | none => es ++ [(k, z)]
def rgO (d : Nat) (F : Fr) (σ : St) (i : Nat) : Option AObj → Res
  | some (.mp _ es ver) => .ok (F.set d (.v (.ptr (some (σ.objs.length, 0))))) ⟨σ.objs ++ [.it (some (i, ver)) es none], σ.live⟩
  | _ => .bad
def rgW (d : Nat) (F : Fr) (σ : St) : V → Res
  | .map none => .ok (F.set d (.v (.ptr (some (σ.objs.length, 0))))) ⟨σ.objs ++ [.it none [] none], σ.live⟩
  | .map (some i) => rgO d F σ i (σ.objs[i]?)
  | _ => .bad
/-- The map is as it was at the loop's beginning. -/
def isV (m : Option AObj) (ver : Nat) : Prop := match m with
  | some (.mp _ _ v) => v = ver
  | _ => False
def enO (d : Nat) (F : Fr) (σ : St) : Option AObj → Res
  | some (.it (some m) _ (some x)) => .need (isV (σ.objs[m.1]?) m.2) (F.set d (.v (.tup [x.1, x.2]))) σ
  | _ => .bad
def enW (d : Nat) (F : Fr) (σ : St) : V → Res
  | .ptr (some (j, 0)) => enO d F σ (σ.objs[j]?)
  | _ => .bad
def esO (F : Fr) (σ : St) (i : Nat) (lv : List LK) (s : Int) (v : V) : Option AObj → Res
  | some (.mq lv' es ver n k) => .need (lv' = lv ∧ s = n) F (σ.setM i lv (upd k v es) (ver + 1))
  | _ => .bad
def esW (F : Fr) (σ : St) (lv : List LK) (v : V) : V → V → Res
  | .map (some i), .int .i64 s => esO F σ i lv s v (σ.objs[i]?)
  | _, _ => .bad
def exW (d : Nat) (F : Fr) (σ : St) (i : Nat) : V → Res
  | .tup vs => match vs[i]? with
    | some v => .ok (F.set d (.v v)) σ
    | none => .bad
  | _ => .bad

/-- What a second operand of append brings. -/
def apE (live : List Bool) (s : Nat) : V → Option (Prop × List (List V))
  | .sl b r s' es => some ((b = true ∨ rd live r) ∧ (s' = s ∨ es = []), es)
  | .str l => some (s = 1, bytesV l)
  | _ => none
def apR (d : Nat) (F : Fr) (σ : St) (b : Bool) (r : R) (s : Nat) (es : List (List V)) : Option (Prop × List (List V)) → Res
  | some p => .need (σ.ow b r ∧ p.1 ∧ es.length + p.2.length ≤ 1073741824)
      (F.set d (.v (.sl (b && p.2.isEmpty) (.own σ.live.length) s (es ++ p.2)))) ⟨σ.objs, kill σ.live r ++ [!(b && p.2.isEmpty)]⟩
  | none => .bad
def apW (d : Nat) (F : Fr) (σ : St) (s : Nat) (y : V) : V → Res
  | .sl b r s' es => Res.also (b = true ∨ s' = s) (apR d F σ b r s es (apE σ.live s y))
  | _ => .bad
def lnO (d : Nat) (F : Fr) (σ : St) : Option AObj → Res
  | some (.mp _ es _) => .ok (F.set d (.v (.int .i64 es.length))) σ
  | _ => .bad
/-- fn: a text. -/
def lnW (d : Nat) (F : Fr) (σ : St) : EK → V → Res
  | .sl, .sl _ _ _ es => .ok (F.set d (.v (.int .i64 es.length))) σ
  | .sl, .osl _ n _ _ => .ok (F.set d (.v (.int .i64 n))) σ
  | .fn, .str s => .ok (F.set d (.v (.int .i64 s.length))) σ
  | .map, .map none => .ok (F.set d (.v (.int .i64 0))) σ
  | .map, .map (some i) => lnO d F σ (σ.objs[i]?)
  | _, _ => .bad
def mxW (d : Nat) (F : Fr) (σ : St) : V → V → Res
  | .int k a, .int _ b => .ok (F.set d (.v (.int k (if b > a then b else a)))) σ
  | _, _ => .bad
def mnW (d : Nat) (F : Fr) (σ : St) : V → V → Res
  | .int k a, .int _ b => .ok (F.set d (.v (.int k (if b < a then b else a)))) σ
  | _, _ => .bad
/-- A bound of a slice expression. -/
def bndN (n : Nat) : Option V → Option (Prop × Nat)
  | none => some (True, n)
  | some (.int _ i) => some (0 ≤ i, i.toNat)
  | _ => none
def slB (d : Nat) (F : Fr) (σ : St) (n : Nat) (b : Bool) (r : R) (s : Nat) (es : List (List V)) (lo hi : Option (Prop × Nat)) : Res :=
  match lo, hi with
  | some p, some q => .need ((b = true ∨ s = n) ∧ p.1 ∧ q.1 ∧ p.2 ≤ q.2 ∧ q.2 ≤ es.length) (F.set d (.v (.sl b r.toView s ((es.take q.2).drop p.2)))) σ
  | _, _ => .bad
def ssB (d : Nat) (F : Fr) (σ : St) (s : List UInt8) (lo hi : Option (Prop × Nat)) : Res :=
  match lo, hi with
  | some p, some q => .need (p.1 ∧ q.1 ∧ p.2 ≤ q.2 ∧ q.2 ≤ s.length) (F.set d (.v (.str ((s.take q.2).drop p.2)))) σ
  | _, _ => .bad
def Fr.vaO (F : Fr) : Option E → Option V
  | none => none
  | some x => some (F.va x)
def bnd0 : Option V → Option (Prop × Nat)
  | none => some (True, 0)
  | some v => bndN 0 (some v)
def slW (d : Nat) (F : Fr) (σ : St) (n : Nat) (lo hi : Option V) : V → Res
  | .sl b r s es => slB d F σ n b r s es (bnd0 lo) (bndN es.length hi)
  | _ => .bad
def ssW (d : Nat) (F : Fr) (σ : St) (lo hi : Option V) : V → Res
  | .str s => ssB d F σ s (bnd0 lo) (bndN s.length hi)
  | _ => .bad
def msW (d : Nat) (F : Fr) (σ : St) (z : List V) : V → V → Res
  | .int _ n, .int _ c => .need (0 ≤ n ∧ n ≤ c ∧ c ≤ 1073741824)
      (F.set d (.v (.sl false (.own σ.live.length) z.length (List.replicate n.toNat z)))) ⟨σ.objs, σ.live ++ [true]⟩
  | _, _ => .bad

def O.run (F : Fr) (σ : St) : O → Res
  | .mv d x => .ok (F.set d (F.ev x)) σ
  | .pk d c a b => pkB d F σ (F.ev c) (F.ev a) (F.ev b)
  | .alL d z => .ok (F.newL d z) σ
  | .alH d z => .ok (F.set d (.v (.ptr (some (σ.objs.length, 0))))) ⟨σ.objs ++ [.cells z], σ.live⟩
  | .bxL d x => bxLW d F σ (cellsOf (F.va x))
  | .bxH d x => bxHW d F σ (cellsOf (F.va x))
  | .bld d z ps => bldW d F σ (overs F (some z) ps)
  | .lit d s ps => litW d F σ s (lits F s ps)
  | .ld d a n g => ldW d F σ n g (F.ev a)
  | .st a x n => stC F σ n (F.ev a) (cellsOf (F.va x))
  | .se a x n => seC F σ n (F.va a) (cellsOf (F.va x))
  | .sn a x n p => snC F σ n (sget p F.s) (F.va a) (cellsOf (F.va x))
  | .nc d x => ncW d F σ (F.ev x)
  | .bi d op x y => bin d F σ op (F.va x) (F.va y)
  | .bq d ne k x y => bqW d F σ ne k (F.va x) (F.va y)
  | .be d ne lv x y => beW d F σ ne lv (F.va x) (F.va y)
  | .un d op x => unW d F σ op (F.va x)
  | .cI d k x => cIW d F σ k (F.va x)
  | .cS d x => cSW d F σ (F.va x)
  | .cT d x => cTW d F σ (F.va x)
  | .cB d x => cBW d F σ (F.va x)
  | .mf d f caps => .ok (F.set d (.v (.fn f (caps.map F.va)))) σ
  | .mm d lv => .ok (F.set d (.v (.map (some σ.objs.length)))) ⟨σ.objs ++ [.mp lv [] 0], σ.live⟩
  | .ms d z n c => msW d F σ z (F.va n) (F.va c)
  | .sl d n x lo hi => slW d F σ n (F.vaO lo) (F.vaO hi) (F.va x)
  | .ss d x lo hi => ssW d F σ (F.vaO lo) (F.vaO hi) (F.va x)
  | .fa d x off => faW d F σ off (F.ev x)
  | .fd d x off n g => fdW d F σ off n g (F.va x)
  | .ia d x i s => iaW d F σ s (F.va x) (F.va i)
  | .iA d x i s len => iAW d F σ s len (F.ev x) (F.va i)
  | .ix d x i => ixW d F σ (F.va x) (F.va i)
  | .lk d lv m k ok z => lkW d F σ lv (F.va k) ok z (F.va m)
  | .mu lv m k v => muW F σ lv (F.va k) (F.va v) (F.va m)
  | .ex d x i => exW d F σ i (F.va x)
  | .ap d s x y => apW d F σ s (F.va y) (F.va x)
  | .ln d k x => lnW d F σ k (F.va x)
  | .mx d x y => mxW d F σ (F.va x) (F.va y)
  | .mn d x y => mnW d F σ (F.va x) (F.va y)
  | .de lv m k => deW F σ lv (F.va k) (F.va m)
  | .rg d x => rgW d F σ (F.va x)
  | .en d x => enW d F σ (F.va x)
  | .es lv m s v => esW F σ lv (F.va v) (F.va m) (F.va s)
  | .nx _ _ => .bad
  | .me _ _ _ _ _ => .bad
  | .ca _ _ _ => .bad
  | .cv _ _ _ => .bad
  | .cm _ _ _ => .bad
  | .ao _ _ _ _ _ => .bad
  | .lip d s ps => lipW d F σ s (lits F s ps)

end Go.VL

namespace Go.VL
open Go

/-- What is known beside the machine: which block an object has, which slice a right has, what is published, what nobody touches. -/
structure G where
  mu : List Nat
  rho : List (Value × Nat × List (List V))
  pub : Nat → List Value
  phi : Nat → Option Obj
  snap : Nat → Nat → Option (List MapEntry × Nat)
  os : Os
  tape : Nat → Question → Nat
  out : Array (Nat × ByteArray)
  drn : Nat

def pubAt (γ : G) (b o : Nat) (vs : List Value) : Prop := ∀ (i : Nat) (v : Value), vs[i]? = some v → (γ.pub b)[o + i]? = some v

/-- Elements that a view or an owned slice shows. -/
def viewAt (γ : G) (r s : Nat) (es : List (List V)) (a : Addr) : Prop :=
  ∃ (a0 : Addr) (n cap : Nat) (es0 : List (List V)) (lo : Nat), γ.rho[r]? = some (.slice (some a0) n cap, s, es0) ∧ lo + es.length ≤ es0.length ∧ es = (es0.drop lo).take es.length ∧
    a.block = a0.block ∧ a.off = a0.off + lo * s ∧ a.spot = none

mutual
def Rep (γ : G) : V → Value → Prop
  | .int k n, v => v = .int k n
  | .bool b, v => v = .bool b
  | .str s, v => v = .string ⟨s.toArray⟩
  | .agg cs, v => ∃ vs, v = .agg (List.toArray vs) ∧ RepL γ cs vs
  | .tup cs, v => ∃ vs, v = .tuple (List.toArray vs) ∧ RepL γ cs vs
  | .sl true _ _ es, v => es = [] ∧ v = .slice none 0 0
  | .sl false .pub s es, v => ∃ (a : Addr) (cap : Nat) (vs : List Value), v = .slice (some a) es.length cap ∧ (es = [] ∨ a.spot = none) ∧ es.length ≤ cap ∧ pubAt γ a.block a.off vs ∧ RepE γ s es vs
  | .sl false (.own r) s es, v => ∃ (a : Addr) (cap : Nat), v = .slice (some a) es.length cap ∧ a.spot = none ∧ es.length ≤ cap ∧ γ.rho[r]? = some (v, s, es)
  | .sl false (.view r) s es, v => ∃ (a : Addr) (cap : Nat), v = .slice (some a) es.length cap ∧ a.spot = none ∧ es.length ≤ cap ∧ (es = [] ∨ viewAt γ r s es a)
  | .ptr none, v => v = .pointer none
  | .ptr (some p), v => ∃ b, γ.mu[p.1]? = some b ∧ v = .pointer (some ⟨b, p.2, none⟩)
  | .elt .pub s es i o, v => ∃ (a : Addr) (vs : List Value), v = .pointer (some ⟨a.block, a.off + i * s + o, none⟩) ∧ i < es.length ∧ pubAt γ a.block a.off vs ∧ RepE γ s es vs
  | .elt (.own r) s es i o, v => ∃ (a : Addr) (cap : Nat), v = .pointer (some ⟨a.block, a.off + i * s + o, none⟩) ∧ i < es.length ∧ γ.rho[r]? = some (.slice (some a) es.length cap, s, es) ∧ a.spot = none
  | .elt (.view r) s es i o, v => ∃ (a : Addr), v = .pointer (some ⟨a.block, a.off + i * s + o, none⟩) ∧ i < es.length ∧ viewAt γ r s es a
  | .osl i n cap _, v => ∃ b, γ.mu[i]? = some b ∧ v = .slice (some ⟨b, 0, none⟩) n cap
  | .map none, v => v = .map none
  | .map (some i), v => ∃ b, γ.mu[i]? = some b ∧ v = .map (some b)
  | .fn f caps, v => ∃ vs, v = .func (.func f) #[] (List.toArray vs) ∧ RepL γ caps vs
  | .nilf, v => v = .nilFunc
  | .raw x, v => v = x
  | .bad, _ => True
def RepL (γ : G) : List V → List Value → Prop
  | [], vs => vs = []
  | x :: xs, vs => ∃ v ws, vs = v :: ws ∧ Rep γ x v ∧ RepL γ xs ws
def RepE (γ : G) (s : Nat) : List (List V) → List Value → Prop
  | [], vs => vs = []
  | cs :: es, vs => ∃ ws us, vs = ws ++ us ∧ cs.length = s ∧ RepL γ cs ws ∧ RepE γ s es us ∧ ∀ v ∈ ws, v.oneCell' = true
end

/-- As far as values go. -/
structure LeR (γ γ' : G) : Prop where
  mu : ∀ (i : Nat) (b : Nat), γ.mu[i]? = some b → γ'.mu[i]? = some b
  rho : ∀ (i : Nat) b, γ.rho[i]? = some b → γ'.rho[i]? = some b
  pub : ∀ (b i : Nat) (v : Value), (γ.pub b)[i]? = some v → (γ'.pub b)[i]? = some v
structure Le (γ γ' : G) : Prop extends LeR γ γ' where
  pubp : ∀ b, γ.phi b ≠ none → γ'.pub b = γ.pub b
  phi : γ'.phi = γ.phi
  snap : ∀ (b n : Nat) x, γ.snap b n = some x → γ'.snap b n = some x
  os : γ'.os = γ.os
  tape : γ'.tape = γ.tape
  out : γ'.out = γ.out
  drn : γ'.drn = γ.drn

/-- As Le, but more may be laid aside. -/
structure LeB (γ γ' : G) : Prop extends LeR γ γ' where
  pubp : ∀ b, γ.phi b ≠ none → γ'.pub b = γ.pub b
  phi : ∀ (b : Nat) (o : Obj), γ.phi b = some o → γ'.phi b = some o
  snap : ∀ (b n : Nat) x, γ.snap b n = some x → γ'.snap b n = some x
  os : γ'.os = γ.os
  tape : γ'.tape = γ.tape
  out : γ'.out = γ.out
  drn : γ'.drn = γ.drn

theorem LeR.trans {a b c : G} (h : LeR a b) (k : LeR b c) : LeR a c :=
  ⟨fun _ _ x => k.mu _ _ (h.mu _ _ x), fun _ _ x => k.rho _ _ (h.rho _ _ x), fun _ _ _ x => k.pub _ _ _ (h.pub _ _ _ x)⟩
theorem Le.refl (γ : G) : Le γ γ := ⟨⟨fun _ _ h => h, fun _ _ h => h, fun _ _ _ h => h⟩, fun _ _ => rfl, rfl, fun _ _ _ h => h, rfl, rfl, rfl, rfl⟩
theorem Le.trans {a b c : G} (h : Le a b) (k : Le b c) : Le a c :=
  ⟨h.toLeR.trans k.toLeR, fun b hb => (k.pubp b (by rw [h.phi]; exact hb)).trans (h.pubp b hb), k.phi.trans h.phi, fun _ _ _ x => k.snap _ _ _ (h.snap _ _ _ x), k.os.trans h.os,
   k.tape.trans h.tape, k.out.trans h.out, k.drn.trans h.drn⟩

theorem LeB.refl (γ : G) : LeB γ γ := ⟨⟨fun _ _ h => h, fun _ _ h => h, fun _ _ _ h => h⟩, fun _ _ => rfl, fun _ _ h => h, fun _ _ _ h => h, rfl, rfl, rfl, rfl⟩
theorem LeB.trans {a b c : G} (h : LeB a b) (k : LeB b c) : LeB a c :=
  ⟨h.toLeR.trans k.toLeR, fun b hb => (k.pubp b (by
      cases hx : a.phi b with
      | none => exact absurd hx hb
      | some o => rw [h.phi _ _ hx]; simp)).trans (h.pubp b hb), fun b o x => k.phi _ _ (h.phi _ _ x), fun _ _ _ x => k.snap _ _ _ (h.snap _ _ _ x), k.os.trans h.os, k.tape.trans h.tape, k.out.trans h.out, k.drn.trans h.drn⟩
theorem Le.b {γ γ' : G} (h : Le γ γ') : LeB γ γ' := ⟨h.toLeR, h.pubp, fun b o x => by rw [h.phi]; exact x, h.snap, h.os, h.tape, h.out, h.drn⟩

theorem pubAt.mono {γ γ' : G} (h : LeR γ γ') {b o : Nat} {vs : List Value} (k : pubAt γ b o vs) : pubAt γ' b o vs := fun i v hv => h.pub _ _ _ (k i v hv)
theorem viewAt.mono {γ γ' : G} (h : LeR γ γ') {r s : Nat} {es : List (List V)} {a : Addr} (k : viewAt γ r s es a) : viewAt γ' r s es a := by
  obtain ⟨a0, n, cap, es0, lo, h1, h2⟩ := k
  exact ⟨a0, n, cap, es0, lo, h.rho _ _ h1, h2⟩

mutual
theorem Rep.mono {γ γ' : G} (h : LeR γ γ') : ∀ (x : V) (v : Value), Rep γ x v → Rep γ' x v
  | .int _ _, _, k => by simpa only [Rep] using k
  | .bool _, _, k => by simpa only [Rep] using k
  | .str _, _, k => by simpa only [Rep] using k
  | .agg cs, _, k => by
    simp only [Rep] at k ⊢
    obtain ⟨vs, h1, h2⟩ := k
    exact ⟨vs, h1, RepL.mono h cs vs h2⟩
  | .tup cs, _, k => by
    simp only [Rep] at k ⊢
    obtain ⟨vs, h1, h2⟩ := k
    exact ⟨vs, h1, RepL.mono h cs vs h2⟩
  | .sl true _ _ _, _, k => by simpa only [Rep] using k
  | .sl false .pub s es, _, k => by
    simp only [Rep] at k ⊢
    obtain ⟨a, cap, vs, h1, h2, h3, h4, h5⟩ := k
    exact ⟨a, cap, vs, h1, h2, h3, h4.mono h, RepE.mono h s es vs h5⟩
  | .sl false (.own _) _ _, _, k => by
    simp only [Rep] at k ⊢
    obtain ⟨a, cap, h1, h2, h3, h4⟩ := k
    exact ⟨a, cap, h1, h2, h3, h.rho _ _ h4⟩
  | .sl false (.view _) _ _, _, k => by
    simp only [Rep] at k ⊢
    obtain ⟨a, cap, h1, h2, h3, h4⟩ := k
    exact ⟨a, cap, h1, h2, h3, h4.imp id (·.mono h)⟩
  | .ptr none, _, k => by simpa only [Rep] using k
  | .ptr (some _), _, k => by
    simp only [Rep] at k ⊢
    obtain ⟨b, h1, h2⟩ := k
    exact ⟨b, h.mu _ _ h1, h2⟩
  | .elt .pub s es _ _, _, k => by
    simp only [Rep] at k ⊢
    obtain ⟨a, vs, h1, h2, h4, h5⟩ := k
    exact ⟨a, vs, h1, h2, h4.mono h, RepE.mono h s es vs h5⟩
  | .elt (.own _) _ _ _ _, _, k => by
    simp only [Rep] at k ⊢
    obtain ⟨a, cap, h1, h2, h4, h5⟩ := k
    exact ⟨a, cap, h1, h2, h.rho _ _ h4, h5⟩
  | .elt (.view _) _ _ _ _, _, k => by
    simp only [Rep] at k ⊢
    obtain ⟨a, h1, h2, h4⟩ := k
    exact ⟨a, h1, h2, h4.mono h⟩
  | .osl _ _ _ _, _, k => by
    simp only [Rep] at k ⊢
    obtain ⟨b, h1, h2⟩ := k
    exact ⟨b, h.mu _ _ h1, h2⟩
  | .map none, _, k => by simpa only [Rep] using k
  | .map (some _), _, k => by
    simp only [Rep] at k ⊢
    obtain ⟨b, h1, h2⟩ := k
    exact ⟨b, h.mu _ _ h1, h2⟩
  | .fn _ caps, _, k => by
    simp only [Rep] at k ⊢
    obtain ⟨vs, h1, h2⟩ := k
    exact ⟨vs, h1, RepL.mono h caps vs h2⟩
  | .nilf, _, k => by simpa only [Rep] using k
  | .raw _, _, k => by simpa only [Rep] using k
  | .bad, _, _ => by simp only [Rep]
theorem RepL.mono {γ γ' : G} (h : LeR γ γ') : ∀ (xs : List V) (vs : List Value), RepL γ xs vs → RepL γ' xs vs
  | [], _, k => by simpa only [RepL] using k
  | x :: xs, _, k => by
    simp only [RepL] at k ⊢
    obtain ⟨v, ws, h1, h2, h3⟩ := k
    exact ⟨v, ws, h1, Rep.mono h x v h2, RepL.mono h xs ws h3⟩
theorem RepE.mono {γ γ' : G} (h : LeR γ γ') : ∀ (s : Nat) (es : List (List V)) (vs : List Value), RepE γ s es vs → RepE γ' s es vs
  | _, [], _, k => by simpa only [RepE] using k
  | s, cs :: es, _, k => by
    simp only [RepE] at k ⊢
    obtain ⟨ws, us, h1, h2, h3, h4, h5⟩ := k
    exact ⟨ws, us, h1, h2, RepL.mono h cs ws h3, RepE.mono h s es us h4, h5⟩
end

/-- The entries of a map. -/
def RepM (γ : G) (lv : List LK) : List (V × V) → List MapEntry → Prop
  | [], es => es = []
  | p :: r, es => ∃ e t, es = e :: t ∧ keyFits lv p.1 = true ∧ Rep γ p.1 e.key ∧ Rep γ p.2 e.val ∧ RepM γ lv r t

theorem RepM.mono {γ γ' : G} (h : LeR γ γ') (lv : List LK) : ∀ (es : List (V × V)) (ms : List MapEntry), RepM γ lv es ms → RepM γ' lv es ms
  | [], _, k => k
  | _ :: r, _, ⟨e, t, h1, h2, h3, h4, h5⟩ => ⟨e, t, h1, h2, Rep.mono h _ _ h3, Rep.mono h _ _ h4, RepM.mono h lv r t h5⟩

def ORep (γ : G) (w : World) (b : Nat) : AObj → Prop
  | .cells cs => ∃ vs e, w.heap[b]? = some (.cells (List.toArray vs) e (0, 0)) ∧ RepL γ cs vs
  | .mp lv es ver => ∃ ents clock, w.heap[b]? = some (.map (List.toArray ents) clock) ∧ γ.snap b ver = some (ents, clock) ∧ (∀ n, ver < n → γ.snap b n = none) ∧
      RepM γ lv es ents ∧ (ents.map (·.born)).Nodup ∧ ∀ e ∈ ents, e.born < clock
  | .it none left cur => left = [] ∧ cur = none ∧ ∃ since seen stepped, w.heap[b]? = some (.mapIter none since seen stepped)
  | .it (some p) left cur => ∃ c ents clock seen lv, γ.mu[p.1]? = some c ∧ γ.snap c p.2 = some (ents, clock) ∧ w.heap[b]? = some (.mapIter (some c) clock seen clock) ∧
      RepM γ lv left (ents.filter fun e => !seen.contains e.born) ∧ ∀ x, cur = some x → ∃ (s : Array Nat) (e : MapEntry), seen = s.push e.born ∧ e ∈ ents ∧ Rep γ x.1 e.key ∧ Rep γ x.2 e.val
  | .mq lv es ver n k => ∃ ents clock, w.heap[b]? = some (.map (List.toArray ents) clock) ∧ γ.snap b ver = some (ents, clock) ∧ (∀ n, ver < n → γ.snap b n = none) ∧
      RepM γ lv es ents ∧ (ents.map (·.born)).Nodup ∧ (∀ e ∈ ents, e.born < clock) ∧ keyFits lv k = true ∧ ∃ i v0 e, findI k es 0 = some (i, v0) ∧ ents[i]? = some e ∧ e.born = n ∧ Rep γ k e.key
  | .raw l o xs vs => b = l ∧ w.heap[b]? = some o ∧ RepL γ xs vs
  | .row cap s cs => ∃ vs c e z, w.heap[b]? = some (.cells c e z) ∧ (∀ (j : Nat) (v : Value), vs[j]? = some v → c[j]? = some v) ∧ RepL γ cs vs ∧ (cap * s ≤ c.size ∧ cap ≤ 9223372036854775807) ∧ cs.length ≤ cap * s ∧ (∀ j, j < cap * s → ¬ (z.1 ≤ j ∧ j < z.2)) ∧ ∀ v ∈ vs, v.oneCell' = true

/-- An owned slice lies in memory. -/
def OwnAt (γ : G) (w : World) (v : Value) (s : Nat) (es : List (List V)) : Prop :=
  ∃ (a : Addr) (cap : Nat), v = .slice (some a) es.length cap ∧ a.spot = none ∧ es.length ≤ cap ∧ γ.phi a.block = none ∧ γ.pub a.block = [] ∧ a.block ∉ γ.mu ∧
    ∃ (c : Array Value) (e : TypeId) (z : Nat × Nat) (vs : List Value), w.heap[a.block]? = some (.cells c e z) ∧ (∀ (i : Nat) (x : Value), vs[i]? = some x → c[a.off + i]? = some x) ∧ RepE γ s es vs ∧ (a.off + cap * s ≤ c.size ∧ (z.2 ≤ c.size ∨ s = 1)) ∧
      ∀ o, a.off ≤ o → o < a.off + cap * s → ¬ (z.1 ≤ o ∧ o < z.2)

def blockOf : Value → Option Nat
  | .slice (some a) _ _ => some a.block
  | _ => none

structure INV (γ : G) (σ : St) (w : World) : Prop where
  os : w.os = γ.os
  tape : w.tape = γ.tape
  out : w.output = γ.out
  phi : ∀ (b : Nat) (o : Obj), γ.phi b = some o → w.heap[b]? = some o
  pub : ∀ (b i : Nat) (v : Value), (γ.pub b)[i]? = some v → ∃ (c : Array Value) (e : TypeId) (z : Nat × Nat), w.heap[b]? = some (.cells c e z) ∧ c[i]? = some v
  mulen : γ.mu.length = σ.objs.length
  objs : ∀ (i b : Nat) (o : AObj), γ.mu[i]? = some b → σ.objs[i]? = some o → γ.phi b = none ∧ γ.pub b = [] ∧ ORep γ w b o
  inj : ∀ (i j b : Nat), γ.mu[i]? = some b → γ.mu[j]? = some b → i = j
  rholen : γ.rho.length = σ.live.length
  own : ∀ (r : Nat) v s es, σ.live[r]? = some true → γ.rho[r]? = some (v, s, es) → OwnAt γ w v s es
  snapb : ∀ (b n : Nat) x, γ.snap b n = some x → b < w.heap.size
  apart : ∀ (r r' : Nat) v s es v' s' es' b, σ.live[r]? = some true → σ.live[r']? = some true → γ.rho[r]? = some (v, s, es) → γ.rho[r']? = some (v', s', es') →
    blockOf v = some b → blockOf v' = some b → r = r'
  drn : γ.drn ≤ w.drawn

/-- **A call**, whatever the machine's state that is as said. -/
def CallA (P : Program) (f : FuncId) (args : List V) (σ : St) (K : V → St → Prop) : Prop :=
  (∃ fn, P.funcs[f]? = some fn ∧ fn.body.isSome = true ∧ (fn.name == "runtime.NumGoroutine") = false) ∧ ∀ γ w vs, INV γ σ w → RepL γ args vs →
    Calls P f (List.toArray vs) w fun e w' => ∃ v x σ' γ', e = .returned v ∧ Le γ γ' ∧ INV γ' σ' w' ∧ Rep γ' x v ∧ K x σ'

/-- **A call that may change what its first argument, an owned slice, has**: that slice is under another right then. -/
def CallM (P : Program) (f : FuncId) (args : List V) (r s : Nat) (es : List (List V)) (σ : St) (K : V → Nat → List (List V) → St → Prop) : Prop :=
  (∃ fn, P.funcs[f]? = some fn ∧ fn.body.isSome = true ∧ (fn.name == "runtime.NumGoroutine") = false) ∧ ∀ γ w vs, INV γ σ w → RepL γ args vs →
    Calls P f (List.toArray vs) w fun e w' => ∃ v x σ' γ' r' es', e = .returned v ∧ Le γ γ' ∧ INV γ' σ' w' ∧ Rep γ' x v ∧ (∃ vr, γ.rho[r]? = some (vr, s, es) ∧ γ'.rho[r']? = some (vr, s, es')) ∧ es'.length = es.length ∧ K x r' es' σ'

/-- **A call of yield**, likewise. -/
def YldA (P : Program) (l : Nat) (args : List V) (σ : St) (K : V → St → Prop) : Prop :=
  ∀ γ w vs, INV γ σ w → RepL γ args vs → YieldAt Fence.wide 0 P l (List.toArray vs) w fun e w' => ∃ v x σ' γ', e = .returned v ∧ Le γ γ' ∧ INV γ' σ' w' ∧ Rep γ' x v ∧ K x σ'
theorem YldA.mono {P : Program} {l : Nat} {args : List V} {σ : St} {K K' : V → St → Prop} (h : YldA P l args σ K) (hk : ∀ x σ', K x σ' → K' x σ') : YldA P l args σ K' := by
  intro γ w vs hi hr
  obtain ⟨fn, tmps, a, b, h1, h2⟩ := h γ w vs hi hr
  exact ⟨fn, tmps, a, b, h1, h2.mono fun _ _ ⟨v, x, σ', γ', h1, h2, h3, h4, h5⟩ => ⟨v, x, σ', γ', h1, h2, h3, h4, hk _ _ h5⟩⟩
/-- A call of a value. -/
def CallF (P : Program) (f : V) (args : List V) (σ : St) (K : V → St → Prop) : Prop :=
  (∃ g caps, f = .fn g caps ∧ CallA P g (args ++ caps) σ K) ∨ ∃ l, f = yv l ∧ YldA P l args σ K

theorem CallA.mono {P : Program} {f : FuncId} {args : List V} {σ : St} {K K' : V → St → Prop} (h : CallA P f args σ K) (hk : ∀ x σ', K x σ' → K' x σ') : CallA P f args σ K' :=
  ⟨h.1, fun γ w vs hi hr => (h.2 γ w vs hi hr).mono fun _ _ ⟨v, x, σ', γ', h1, h2, h3, h4, h5⟩ => ⟨v, x, σ', γ', h1, h2, h3, h4, hk _ _ h5⟩⟩
theorem CallM.mono {P : Program} {f : FuncId} {args : List V} {r s : Nat} {es : List (List V)} {σ : St} {K K' : V → Nat → List (List V) → St → Prop} (h : CallM P f args r s es σ K) (hk : ∀ x r' es' σ', K x r' es' σ' → K' x r' es' σ') : CallM P f args r s es σ K' :=
  ⟨h.1, fun γ w vs hi hr => (h.2 γ w vs hi hr).mono fun _ _ ⟨v, x, σ', γ', r', es', h1, h2, h3, h4, h5, h6, h7⟩ => ⟨v, x, σ', γ', r', es', h1, h2, h3, h4, h5, h6, hk _ _ _ _ h7⟩⟩
theorem CallF.mono {P : Program} {f : V} {args : List V} {σ : St} {K K' : V → St → Prop} (h : CallF P f args σ K) (hk : ∀ x σ', K x σ' → K' x σ') : CallF P f args σ K' := by
  rcases h with ⟨g, caps, h1, h2⟩ | ⟨l, h1, h2⟩
  · exact .inl ⟨g, caps, h1, h2.mono hk⟩
  · exact .inr ⟨l, h1, h2.mono hk⟩
end Go.VL

namespace Go.VL
open Go

def sLe (F : List (Nat × S)) : List (Nat × S) → Prop
  | [] => True
  | p :: r => sget p.1 F = p.2 ∧ sLe F r
def lLe (F : List (Nat × List V)) : List (Nat × List V) → Prop
  | [] => True
  | p :: r => lget p.1 F = some p.2 ∧ lLe F r
/-- All that G says F says. -/
def FrLe (G F : Fr) : Prop := G = F ∨ sLe F.s G.s ∧ lLe F.l G.l
theorem FrLe.refl (F : Fr) : FrLe F F := .inl rfl

/-- What was there is as it was. -/
structure Ext (σ σ' : St) : Prop where
  objs : ∀ (i : Nat) (o : AObj), σ.objs[i]? = some o → σ'.objs[i]? = some o
  live : ∀ (r : Nat), σ.live[r]? = some true → σ'.live[r]? = some true
  olen : σ.objs.length ≤ σ'.objs.length
  llen : σ.live.length ≤ σ'.live.length

/-- What was looked at is as it was. -/
structure ExtD (L : List Nat) (σ σ' : St) : Prop where
  objs : ∀ (i : Nat), i ∈ L → ∀ (o : AObj), σ.objs[i]? = some o → σ'.objs[i]? = some o
  live : ∀ (r : Nat), σ.live[r]? = some true → σ'.live[r]? = some true
theorem Ext.on {σ σ' : St} (h : Ext σ σ') {L : List Nat} : ExtD L σ σ' := ⟨fun i _ => h.objs i, h.live⟩
/-- Of a region of more than one order: which objects were looked at. -/
def Kept (e : Option (List Nat)) (σ σ' : St) : Prop := ∀ L, e = some L → ExtD L σ σ'
theorem Ext.kept {σ σ' : St} (h : Ext σ σ') {e : Option (List Nat)} : Kept e σ σ' := fun _ _ => h.on
theorem kept_none {σ σ' : St} : Kept none σ σ' := fun _ h => by cases h
def see : Option (List Nat) → List Nat → Option (List Nat)
  | none, _ => none
  | some L, l => some (l ++ L)
def V.sees : V → List Nat
  | .ptr (some p) => [p.1]
  | .map (some i) => [i]
  | .ptr none | .map none | .osl _ _ _ _ | .int _ _ | .bool _ | .str _ | .agg _ | .tup _ | .sl _ _ _ _ | .elt _ _ _ _ _ | .fn _ _ | .nilf | .raw _ | .bad => []
def S.sees : S → List Nat
  | .v x => x.sees
  | .loc _ _ => []
def O.sees (F : Fr) : O → List Nat
  | .ld _ a _ _ => (F.ev a).sees
  | .lk _ _ m _ _ _ => (F.ev m).sees
  | .ln _ _ x => (F.ev x).sees
  | _ => []
def O.seen (e : Option (List Nat)) (F : Fr) : O → Option (List Nat)
  | .ld _ a _ _ => see e (F.ev a).sees
  | .lk _ _ m _ _ _ => see e (F.ev m).sees
  | .ln _ _ x => see e (F.ev x).sees
  | _ => e

theorem Ext.refl (σ : St) : Ext σ σ := ⟨fun _ _ h => h, fun _ h => h, Nat.le_refl _, Nat.le_refl _⟩
theorem Ext.trans {a b c : St} (h : Ext a b) (k : Ext b c) : Ext a c :=
  ⟨fun _ _ x => k.objs _ _ (h.objs _ _ x), fun _ x => k.live _ (h.live _ x), Nat.le_trans h.olen k.olen, Nat.le_trans h.llen k.llen⟩

def setO (F : Fr) : Option Nat → V → Fr
  | some d, v => F.set d (.v v)
  | none, _ => F

def resK (K : Fr → St → Prop) : Res → Prop
  | .bad => False
  | .ok F σ => K F σ
  | .need p F σ => p ∧ K F σ

def O.dst : O → Option Nat
  | .mv d _ | .pk d _ _ _ | .alL d _ | .alH d _ | .bxL d _ | .bxH d _ | .bld d _ _ | .lit d _ _ | .lip d _ _ | .ld d _ _ _ | .nc d _ | .bi d _ _ _ | .be d _ _ _ _ | .bq d _ _ _ _
  | .un d _ _ | .cI d _ _ | .cS d _ | .cT d _ | .cB d _ | .mf d _ _ | .mm d _ | .ms d _ _ _ | .sl d _ _ _ _ | .ss d _ _ _ | .fa d _ _ | .fd d _ _ _ _ | .ia d _ _ _ | .iA d _ _ _ _
  | .ix d _ _ | .lk d _ _ _ _ _ | .rg d _ | .nx d _ | .en d _ | .me d _ _ _ _ | .ex d _ _ | .ap d _ _ _ | .ao d _ _ _ _ | .ln d _ _ | .mx d _ _ | .mn d _ _ => some d
  | .st _ _ _ | .se _ _ _ | .sn _ _ _ _ | .mu _ _ _ _ | .de _ _ _ | .es _ _ _ _ => none
  | .ca d _ _ | .cv d _ _ | .cm d _ _ => d

variable (P : Program)

/-- A loop over a map goes on: whichever entry comes. -/
def nxO (d j : Nat) (F : Fr) (σ : St) (K : Fr → St → Prop) : Option AObj → Prop
  | some (.it none _ _) => K (F.set d (.v (.tup [.bool false]))) σ
  | some (.it (some m) left _) => isV (σ.objs[m.1]?) m.2 ∧ (left = [] → K (F.set d (.v (.tup [.bool false]))) σ) ∧
      ∀ a x b, left = a ++ x :: b → K (F.set d (.v (.tup [.bool true, x.1, x.2]))) (σ.setA j (.it (some m) (a ++ b) (some x)))
  | _ => False
def nxW (d : Nat) (F : Fr) (σ : St) (K : Fr → St → Prop) : V → Prop
  | .ptr (some (j, 0)) => nxO d j F σ K (σ.objs[j]?)
  | _ => False
/-- An entry is made, or found: whatever its number. -/
def meO (d i : Nat) (F : Fr) (σ : St) (K : Fr → St → Prop) (lv : List LK) (k z : V) : Option AObj → Prop
  | some (.mp lv' es ver) => (lv' = lv ∧ keyFits lv k = true) ∧ ∀ n : Nat, K (F.set d (.v (.tup [(find k es).getD z, .int .i64 n]))) (σ.setA i (.mq lv (addE k z es) (ver + 1) n k))
  | _ => False
def meW (d : Nat) (F : Fr) (σ : St) (K : Fr → St → Prop) (lv : List LK) (k z : V) : V → Prop
  | .map (some i) => meO d i F σ K lv k z (σ.objs[i]?)
  | _ => False
theorem nxW_mono {d : Nat} {F : Fr} {σ : St} {K K' : Fr → St → Prop} {x : V} (h : nxW d F σ K x) (hk : ∀ F σ, K F σ → K' F σ) : nxW d F σ K' x := by
  unfold nxW at h ⊢
  split at h
  · rename_i j
    revert h
    cases σ.objs[j]? with
    | none => exact id
    | some o =>
      cases o with
      | it m left cur =>
        cases m with
        | none => exact hk _ _
        | some m => exact fun h => ⟨h.1, fun e => hk _ _ (h.2.1 e), fun a x b e => hk _ _ (h.2.2 a x b e)⟩
      | _ => exact id
  · exact h.elim
theorem meW_mono {d : Nat} {F : Fr} {σ : St} {K K' : Fr → St → Prop} {lv : List LK} {k z x : V} (h : meW d F σ K lv k z x) (hk : ∀ F σ, K F σ → K' F σ) : meW d F σ K' lv k z x := by
  unfold meW at h ⊢
  split at h
  · rename_i i
    revert h
    cases σ.objs[i]? with
    | none => exact id
    | some o =>
      cases o with
      | mp lv' es ver => exact fun h => ⟨h.1, fun n => hk _ _ (h.2 n)⟩
      | _ => exact id
  · exact h.elim

theorem meW_ag {d : Nat} {F G : Fr} {σ : St} {K K' : Fr → St → Prop} {lv : List LK} {k z x : V} (h : meW d F σ K lv k z x) (hk : ∀ v σ', K (F.set d (.v v)) σ' → K' (G.set d (.v v)) σ') : meW d G σ K' lv k z x := by
  unfold meW at h ⊢
  split at h
  · rename_i i
    revert h
    cases σ.objs[i]? with
    | none => exact id
    | some o =>
      cases o with
      | mp lv' es ver => exact fun h => ⟨h.1, fun n => hk _ _ (h.2 n)⟩
      | _ => exact id
  · exact h.elim

/-- Cells, element by element. -/
def chunk (s : Nat) : Nat → List V → List (List V)
  | 0, _ => []
  | n + 1, cs => cs.take s :: chunk s n (cs.drop s)
/-- What a second operand of append brings, a row's elements too. -/
def eltO (s n s' : Nat) : Option AObj → Option (Prop × List (List V))
  | some (.row _ z cs) => some (s' = s ∧ z = s ∧ n * s ≤ cs.length, chunk s n cs)
  | _ => none
def elts (σ : St) (s : Nat) : V → Option (Prop × List (List V))
  | .osl j n _ s' => eltO s n s' (σ.objs[j]?)
  | y => apE σ.live s y
/-- append to a row: where there is no room, a new one, of whatever capacity. -/
def aoR (σ : St) (s n : Nat) (cs : List V) (K : V → St → Prop) : Prop :=
  ∀ cap, n ≤ cap → cap ≤ 9223372036854775807 → K (.osl σ.objs.length n cap s) ⟨σ.objs ++ [.row cap s cs], σ.live⟩
def aoX (σ : St) (s j n cap : Nat) (p : Prop × List (List V)) (K : V → St → Prop) : Option AObj → Prop
  | some (.row cap' z cs) => (cap' = cap ∧ z = s ∧ cs.length = n * s) ∧ p.1 ∧ n + p.2.length ≤ 1073741824 ∧
      (n + p.2.length ≤ cap → K (.osl j (n + p.2.length) cap s) (σ.setR j cap s (cs ++ p.2.flatten))) ∧
      (¬ n + p.2.length ≤ cap → aoR σ s (n + p.2.length) (cs ++ p.2.flatten) K)
  | _ => False
def AoP (σ : St) (s : Nat) (row : Bool) (p : Prop × List (List V)) (K : V → St → Prop) : V → Prop
  | .sl b r s' es => match row with
    | false => (b = true ∨ s' = s) ∧ (σ.ow b r ∧ p.1 ∧ es.length + p.2.length ≤ 1073741824) ∧
        K (.sl (b && p.2.isEmpty) (.own σ.live.length) s (es ++ p.2)) ⟨σ.objs, kill σ.live r ++ [!(b && p.2.isEmpty)]⟩
    | true => b = true ∧ p.1 ∧ p.2.length ≤ 1073741824 ∧ (p.2 = [] → K (.sl true .pub 0 []) σ) ∧ (p.2 ≠ [] → aoR σ s p.2.length p.2.flatten K)
  | .osl j n cap s' => row = true ∧ s' = s ∧ aoX σ s j n cap p K (σ.objs[j]?)
  | _ => False
def AoV (σ : St) (s : Nat) (row : Bool) (x y : V) (K : V → St → Prop) : Prop := match elts σ s y with
  | some p => AoP σ s row p K x
  | none => False
theorem AoV.mono {σ : St} {s : Nat} {row : Bool} {x y : V} {K K' : V → St → Prop} (h : AoV σ s row x y K) (hk : ∀ v σ', K v σ' → K' v σ') : AoV σ s row x y K' := by
  unfold AoV at h ⊢
  have hr : ∀ {n : Nat} {cs : List V}, aoR σ s n cs K → aoR σ s n cs K' := fun h cap h1 h2 => hk _ _ (h cap h1 h2)
  revert h
  cases elts σ s y with
  | none => exact id
  | some p =>
    simp only [AoP]
    cases x with
    | sl b r s' es =>
      cases row with
      | false => exact fun h => ⟨h.1, h.2.1, hk _ _ h.2.2⟩
      | true => exact fun h => ⟨h.1, h.2.1, h.2.2.1, fun e => hk _ _ (h.2.2.2.1 e), fun e => hr (h.2.2.2.2 e)⟩
    | osl j n cap s' =>
      rintro ⟨h1, h2, h3⟩
      refine ⟨h1, h2, ?_⟩
      revert h3
      cases σ.objs[j]? with
      | none => exact id
      | some o =>
        cases o with
        | row cap' z cs => exact fun h => ⟨h.1, h.2.1, h.2.2.1, fun e => hk _ _ (h.2.2.2.1 e), fun e => hr (h.2.2.2.2 e)⟩
        | _ => exact id
    | _ => exact id

/-- A call that may change a slice. -/
def cmW (P : Program) (d : Option Nat) (f : FuncId) (F : Fr) (σ : St) (K : St → Fr → St → Prop) : List V → Prop
  | .sl false (.own r) s es :: xs => CallM P f (.sl false (.own r) s es :: xs) r s es σ fun v r' es' σ' => K σ (setO ⟨renL r r' s es' F.s, F.l⟩ d v) σ'
  | xs => CallA P f xs σ fun v σ' => K σ (setO F d v) σ'
theorem cmW_mono {P : Program} {d : Option Nat} {f : FuncId} {F : Fr} {σ : St} {K K' : St → Fr → St → Prop} {xs : List V} (h : cmW P d f F σ K xs) (hk : ∀ σ0 F σ, K σ0 F σ → K' σ0 F σ) : cmW P d f F σ K' xs := by
  unfold cmW at h ⊢
  split at h
  · exact h.mono fun _ _ _ _ x => hk _ _ _ x
  · exact h.mono fun _ _ x => hk _ _ _ x

/-- One operation. e: what was looked at so far: a call must leave it. -/
def O.W (e : Option (List Nat)) (F : Fr) (σ : St) (K : Option (List Nat) → Fr → St → Prop) : O → Prop
  | .ca d f xs => CallA P f (xs.map F.va) σ fun v σ' => Kept e σ σ' ∧ K e (setO F d v) σ'
  | .cv d f xs => CallF P (F.va f) (xs.map F.va) σ fun v σ' => Kept e σ σ' ∧ K e (setO F d v) σ'
  | .cm d f xs => cmW P d f F σ (fun σ0 F' σ' => Kept e σ0 σ' ∧ K e F' σ') (xs.map F.va)
  | .ao d s row x y => AoV σ s row (F.va x) (F.va y) fun v σ' => Kept e σ σ' ∧ K e (F.set d (.v v)) σ'
  | .nx d x => nxW d F σ (K e) (F.va x)
  | .me d lv m k z => meW d F σ (K e) lv (F.va k) z (F.va m)
  | o => resK (K (o.seen e F)) (o.run F σ)

/-- Under a guard: what is skipped leaves an empty tuple, and a guard that is one is not wanted. -/
def GO.W (e : Option (List Nat)) (F : Fr) (σ : St) (K : Option (List Nat) → Fr → St → Prop) (o : GO) : Prop :=
  match o.g with
  | none => o.o.W P e F σ K
  | some g => (F.va (.t g.1) = .tup [] ∧ K e (setO F o.o.dst (.tup [])) σ) ∨ ∃ c, F.va (.t g.1) = .bool c ∧ (c = g.2 → o.o.W P e F σ K) ∧ (c ≠ g.2 → K e (setO F o.o.dst (.tup [])) σ)

def opsW : Option (List Nat) → List GO → Fr → St → (X → Fr → St → Prop) → Prop
  | _, [], F, σ, Q => Q .normal F σ
  | e, o :: r, F, σ, Q => o.W P e F σ fun e' F' σ' => opsW e' r F' σ' Q

def C.W : C → Fr → St → (X → Fr → St → Prop) → Prop
  | .skip, F, σ, Q => Q .normal F σ
  | .ops l, F, σ, Q => opsW P none l F σ Q
  | .opsD l, F, σ, Q => opsW P (some []) l F σ Q
  | .opsE l m, F, σ, Q => opsW P (some []) l F σ Q ∧ opsW P (some []) m F σ Q
  | .seq a b, F, σ, Q => a.W F σ fun x F' σ' => match x with
    | .normal => b.W F' σ' Q
    | x => Q x F' σ'
  | .cut a b, F, σ, Q => ∃ R : Fr → St → Prop, (a.W F σ fun x F' σ' => match x with
    | .normal => ∃ G, FrLe G F' ∧ R G σ'
    | x => Q x F' σ') ∧ ∀ G σ', R G σ' → b.W G σ' Q
  | .cond x a b, F, σ, Q => ∃ c, F.va x = .bool c ∧ (c = true → a.W F σ Q) ∧ (c = false → b.W F σ Q)
  | .block id c, F, σ, Q => c.W F σ fun x F' σ' => match x with
    | .exit i => if i = id then Q .normal F' σ' else Q (.exit i) F' σ'
    | x => Q x F' σ'
  | .loop c, F, σ, Q => ∃ (α : Type) (fr : α → Fr) (inv : α → St → Prop) (m : α → Nat) (x0 : α), FrLe (fr x0) F ∧ inv x0 σ ∧
      ∀ x σ, inv x σ → c.W (fr x) σ fun y F' σ' => match y with
        | .normal => ∃ x', m x' < m x ∧ FrLe (fr x') F' ∧ inv x' σ'
        | y => Q y F' σ'
  | .exit id, F, σ, Q => Q (.exit id) F σ
  | .ret, F, σ, Q => Q .ret F σ
  | .range f ps a b, F, σ, Q => ∃ g caps, F.va f = .fn g caps ∧ ∀ (l : Nat) (r0 r1 : AObj) (r2 r3 : X → AObj),
      (∀ τ args K, τ.objs[σ.objs.length]? = some r0 → args.length = ps.length →
        (a.W (rndF F ps args) τ fun x F1 τ1 => x = .normal ∧ τ1.objs[σ.objs.length]? = some r0 ∧ b.W F1 (τ1.setA σ.objs.length r1) fun y _ τ2 => τ2.objs[σ.objs.length]? = some r1 ∧ match y with
          | .normal => K (.bool true) (τ2.setA σ.objs.length r0)
          | y => K (.bool false) (τ2.setA σ.objs.length (r2 y))) →
        YldA P l args τ K) →
      CallA P g (yv l :: caps) ⟨σ.objs ++ [r0], σ.live⟩ fun _ σ' =>
        (σ'.objs[σ.objs.length]? = some r0 ∧ Q .normal F (σ'.setA σ.objs.length (r3 .normal))) ∨ ∃ y, y ≠ .normal ∧ σ'.objs[σ.objs.length]? = some (r2 y) ∧ Q y F (σ'.setA σ.objs.length (r3 y))
end Go.VL

namespace Go.VL
open Go

def SRep (γ : G) (lam : Nat → Nat) : S → Value → Prop
  | .v x, v => Rep γ x v
  | .loc k o, v => v = .pointer (some ⟨lam k, o, none⟩)

/-- A local variable's block: nobody else knows it. -/
structure LocAt (γ : G) (σ : St) (w : World) (b : Nat) (cs : List V) : Prop where
  cells : ∃ vs e, w.heap[b]? = some (.cells (List.toArray vs) e (0, 0)) ∧ RepL γ cs vs
  phi : γ.phi b = none
  pub : γ.pub b = []
  mu : b ∉ γ.mu
  own : ∀ (r : Nat) v s es, σ.live[r]? = some true → γ.rho[r]? = some (v, s, es) → blockOf v ≠ some b

structure FRep (γ : G) (σ : St) (F : Fr) (a : Act) (w : World) (lam : Nat → Nat) : Prop where
  s : ∀ t, SRep γ lam (sget t F.s) (a.tmps.getD t undef)
  l : ∀ k cs, lget k F.l = some cs → LocAt γ σ w (lam k) cs
  inj : ∀ k k' cs cs', lget k F.l = some cs → lget k' F.l = some cs' → lam k = lam k' → k = k'

theorem SRep.mono {γ γ' : G} (h : LeR γ γ') {lam : Nat → Nat} : ∀ {s : S} {v : Value}, SRep γ lam s v → SRep γ' lam s v
  | .v x, _, k => Rep.mono h x _ k
  | .loc _ _, _, k => k

theorem beqF {a b : Nat} (h : a ≠ b) : Nat.beq a b = false := by
  cases e : Nat.beq a b
  · rfl
  · exact absurd (Nat.eq_of_beq_eq_true e) h

theorem sget_sset (t d : Nat) (x : S) : ∀ l : List (Nat × S), sget t (sset d x l) = if t = d then x else sget t l
  | [] => by
    by_cases h : t = d
    · subst h; simp [sset, sget]
    · have : Nat.beq d t = false := beqF fun e => h e.symm
      simp [sset, sget, h, this]
  | p :: r => by
    have ih := sget_sset t d x r
    by_cases hp : p.1 = d
    · have h1 : Nat.beq p.1 d = true := by rw [hp]; simp
      by_cases h : t = d
      · subst h; simp [sset, h1, sget]
      · have h2 : Nat.beq d t = false := beqF fun e => h e.symm
        have h3 : Nat.beq p.1 t = false := by rw [hp]; exact h2
        simp [sset, h1, sget, h, h2, h3]
    · have h1 : Nat.beq p.1 d = false := beqF hp
      simp only [sset, h1, cond_false, sget]
      by_cases h : Nat.beq p.1 t = true
      · have e : p.1 = t := Nat.eq_of_beq_eq_true h
        have : t ≠ d := fun e' => hp (e.trans e')
        simp [h, this]
      · simp only [Bool.not_eq_true] at h
        simp [h, ih]
theorem lget_lset (t d : Nat) (x : List V) : ∀ l : List (Nat × List V), lget t (lset d x l) = if t = d then some x else lget t l
  | [] => by
    by_cases h : t = d
    · subst h; simp [lset, lget]
    · have : Nat.beq d t = false := beqF fun e => h e.symm
      simp [lset, lget, h, this]
  | p :: r => by
    have ih := lget_lset t d x r
    by_cases hp : p.1 = d
    · have h1 : Nat.beq p.1 d = true := by rw [hp]; simp
      by_cases h : t = d
      · subst h; simp [lset, h1, lget]
      · have h2 : Nat.beq d t = false := beqF fun e => h e.symm
        have h3 : Nat.beq p.1 t = false := by rw [hp]; exact h2
        simp [lset, h1, lget, h, h2, h3]
    · have h1 : Nat.beq p.1 d = false := beqF hp
      simp only [lset, h1, cond_false, lget]
      by_cases h : Nat.beq p.1 t = true
      · have e : p.1 = t := Nat.eq_of_beq_eq_true h
        have : t ≠ d := fun e' => hp (e.trans e')
        simp [h, this]
      · simp only [Bool.not_eq_true] at h
        simp [h, ih]
theorem sget_sdrop (t k : Nat) : ∀ l : List (Nat × S), sget t (sdrop k l) = match sget t l with
    | .loc k' o => bif Nat.beq k' k then .v .bad else .loc k' o
    | x => x
  | [] => rfl
  | (t', .v x) :: r => by
    simp only [sdrop, sget]
    cases Nat.beq t' t <;> simp [sget_sdrop t k r]
  | (t', .loc k' o) :: r => by
    simp only [sdrop, sget]
    cases Nat.beq t' t <;> simp [sget_sdrop t k r]

theorem getD_set (xs : Array Value) (d t : Nat) (v : Value) (h : d < xs.size) : (xs.setIfInBounds d v).getD t undef = if t = d then v else xs.getD t undef := by
  simp only [Array.getD_eq_getD_getElem?, Array.getElem?_setIfInBounds]
  by_cases e : d = t
  · subst e; simp [h]
  · have : ¬ t = d := fun x => e x.symm
    simp [e, this]

theorem FRep.set {γ : G} {σ : St} {F : Fr} {a : Act} {w : World} {lam : Nat → Nat} (h : FRep γ σ F a w lam) {d : Nat} {x : S} {v : Value} (hx : SRep γ lam x v)
    (hd : d < a.tmps.size) : FRep γ σ (F.set d x) (a.put (some d) v) w lam := by
  refine ⟨fun t => ?_, h.l, h.inj⟩
  simp only [Fr.set, sget_sset, Act.put, getD_set _ _ _ _ hd]
  by_cases e : t = d
  · simp [e, hx]
  · simp only [e, if_false]; exact h.s t

/-- A slot of what was skipped. -/
theorem FRep.forgetU {γ : G} {σ : St} {F : Fr} {a : Act} {w : World} {lam : Nat → Nat} (h : FRep γ σ F a w lam) {d : Option Nat} : FRep γ σ (setO F d (.tup [])) (a.put d undef) w lam := by
  cases d with
  | none => exact h
  | some d =>
    refine ⟨fun t => ?_, h.l, h.inj⟩
    simp only [setO, Fr.set, sget_sset, Act.put]
    by_cases e : t = d
    · subst e
      have : (a.tmps.setIfInBounds t undef).getD t undef = undef := by
        by_cases hx : t < a.tmps.size
        · simp [Array.getD_eq_getD_getElem?, hx]
        · simp [Array.getD_eq_getD_getElem?, hx]
      rw [this]
      simp only [if_true, SRep, Rep]
      exact ⟨[], rfl, rfl⟩
    · simp only [e, if_false]
      have : (a.tmps.setIfInBounds d undef).getD t undef = a.tmps.getD t undef := by
        simp only [Array.getD_eq_getD_getElem?, Array.getElem?_setIfInBounds]
        have : ¬ d = t := fun x => e x.symm
        simp [this]
      rw [this]; exact h.s t

theorem sLe.get {F : List (Nat × S)} : ∀ {G : List (Nat × S)}, sLe F G → ∀ t, sget t G = sget t F ∨ sget t G = .v .bad
  | [], _, _ => .inr rfl
  | p :: r, h, t => by
    simp only [sget]
    by_cases e : Nat.beq p.1 t = true
    · have : p.1 = t := Nat.eq_of_beq_eq_true e
      simp only [e, cond_true]
      exact .inl (by rw [← this]; exact h.1.symm)
    · simp only [Bool.not_eq_true] at e
      simp only [e, cond_false]
      exact sLe.get h.2 t
theorem lLe.get {F : List (Nat × List V)} : ∀ {G : List (Nat × List V)}, lLe F G → ∀ t cs, lget t G = some cs → lget t F = some cs
  | [], _, _, _, h => by simp [lget] at h
  | p :: r, h, t, cs, hc => by
    simp only [lget] at hc
    by_cases e : Nat.beq p.1 t = true
    · have : p.1 = t := Nat.eq_of_beq_eq_true e
      simp only [e, cond_true] at hc
      rw [← this, h.1, hc]
    · simp only [Bool.not_eq_true] at e
      simp only [e, cond_false] at hc
      exact lLe.get h.2 t cs hc

/-- What a smaller frame says holds too. -/
theorem FRep.weaken {γ : G} {σ : St} {F G : Fr} {a : Act} {w : World} {lam : Nat → Nat} (h : FRep γ σ F a w lam) (hle : FrLe G F) : FRep γ σ G a w lam := by
  rcases hle with rfl | hle
  · exact h
  refine ⟨fun t => ?_, fun k cs hk => h.l k cs (hle.2.get k cs hk), fun k k' cs cs' h1 h2 => h.inj k k' cs cs' (hle.2.get _ _ h1) (hle.2.get _ _ h2)⟩
  rcases hle.1.get t with e | e
  · rw [e]; exact h.s t
  · rw [e]; simp [SRep, Rep]
end Go.VL

namespace Go.VL
open Go

/-- All blocks but one lie as they lay; the streams are as they were. -/
structure But (b : Option Nat) (w w' : World) : Prop where
  os : w'.os = w.os
  tape : w'.tape = w.tape
  out : w'.output = w.output
  size : w.heap.size ≤ w'.heap.size
  heap : ∀ (k : Nat) (o : Obj), b ≠ some k → w.heap[k]? = some o → w'.heap[k]? = some o
  drn : w.drawn ≤ w'.drawn

theorem But.refl (b : Option Nat) (w : World) : But b w w := ⟨rfl, rfl, rfl, Nat.le_refl _, fun _ _ _ h => h, Nat.le_refl _⟩
theorem But.trans {b : Option Nat} {w w' w'' : World} (h : But b w w') (k : But b w' w'') : But b w w'' :=
  ⟨k.os.trans h.os, k.tape.trans h.tape, k.out.trans h.out, Nat.le_trans h.size k.size, fun i o hi hx => k.heap i o hi (h.heap i o hi hx), Nat.le_trans h.drn k.drn⟩
theorem But.push (w : World) (o : Obj) : But none w { w with heap := w.heap.push o } :=
  ⟨rfl, rfl, rfl, by simp, fun k x _ h => by
    rw [Array.getElem?_push]
    have : k ≠ w.heap.size := fun e => by rw [e] at h; simp at h
    simp [this, h], Nat.le_refl _⟩
theorem But.drawn (w : World) (n : Nat) (h : w.drawn ≤ n) : But none w { w with drawn := n } := ⟨rfl, rfl, rfl, Nat.le_refl _, fun _ _ _ h => h, h⟩
theorem But.some {w w' : World} (h : But none w w') (b : Option Nat) : But b w w' := ⟨h.os, h.tape, h.out, h.size, fun k o _ x => h.heap k o (by simp) x, h.drn⟩

theorem lt_of_heap {w : World} {b : Nat} {o : Obj} (h : w.heap[b]? = some o) : b < w.heap.size := (Array.getElem?_eq_some_iff.1 h).1

/-- What an object's block is asked. -/
theorem ORep.heap {γ : G} {w : World} {b : Nat} {o : AObj} (h : ORep γ w b o) : ∃ x, w.heap[b]? = some x := by
  cases o with
  | cells cs => obtain ⟨vs, e, h, _⟩ := h; exact ⟨_, h⟩
  | mp lv es ver => obtain ⟨ents, clock, h, _⟩ := h; exact ⟨_, h⟩
  | it m left cur =>
    cases m with
    | none => obtain ⟨_, _, _, _, _, h⟩ := h; exact ⟨_, h⟩
    | some p => obtain ⟨_, _, _, _, _, _, _, h, _⟩ := h; exact ⟨_, h⟩
  | mq lv es ver n k => obtain ⟨ents, clock, h, _⟩ := h; exact ⟨_, h⟩
  | raw l o xs vs => exact ⟨_, h.2.1⟩
  | row cap s cs => obtain ⟨vs, c, e, z, h, _⟩ := h; exact ⟨_, h⟩


/-- What the world's one changed block must not be. -/
structure Free (γ : G) (σ : St) (b : Nat) : Prop where
  phi : γ.phi b = none
  pub : γ.pub b = []
  mu : b ∉ γ.mu
  own : ∀ (r : Nat) v s es, σ.live[r]? = some true → γ.rho[r]? = some (v, s, es) → blockOf v ≠ some b

theorem ORep.but {γ γ' : G} {w w' : World} {b k : Nat} {o : AObj} (h : ORep γ w b o) (hb : But (some k) w w') (hk : b ≠ k) (hl : LeR γ γ') (hs : ∀ n, γ'.snap b n = γ.snap b n)
    (hs' : ∀ (c n : Nat) x, γ.snap c n = some x → γ'.snap c n = some x) : ORep γ' w' b o := by
  have hne : (some k : Option Nat) ≠ some b := fun e => hk (by cases e; rfl)
  cases o with
  | cells cs =>
    obtain ⟨vs, e, h1, h2⟩ := h
    exact ⟨vs, e, hb.heap _ _ hne h1, RepL.mono hl _ _ h2⟩
  | mp lv es ver =>
    obtain ⟨ents, clock, h1, h2, h3, h4, h5⟩ := h
    exact ⟨ents, clock, hb.heap _ _ hne h1, (hs _).trans h2, fun n hn => (hs n).trans (h3 n hn), RepM.mono hl lv _ _ h4, h5⟩
  | it m left cur =>
    cases m with
    | none =>
      obtain ⟨h0, h00, s1, s2, s3, h1⟩ := h
      exact ⟨h0, h00, s1, s2, s3, hb.heap _ _ hne h1⟩
    | some p =>
      obtain ⟨c, ents, clock, seen, lv, h1, h2, h3, h4, h5⟩ := h
      refine ⟨c, ents, clock, seen, lv, hl.mu _ _ h1, hs' _ _ _ h2, hb.heap _ _ hne h3, RepM.mono hl lv _ _ h4, fun x hx => ?_⟩
      obtain ⟨s, e, k1, k2, k3, k4⟩ := h5 x hx
      exact ⟨s, e, k1, k2, Rep.mono hl _ _ k3, Rep.mono hl _ _ k4⟩
  | mq lv es ver n k =>
    obtain ⟨ents, clock, h1, h2, h3, h4, h5, h6, h7, i, v0, e, k1, k2, k3, k4⟩ := h
    exact ⟨ents, clock, hb.heap _ _ hne h1, (hs _).trans h2, fun n hn => (hs n).trans (h3 n hn), RepM.mono hl lv _ _ h4, h5, h6, h7, i, v0, e, k1, k2, k3, Rep.mono hl _ _ k4⟩
  | raw l o xs vs => exact ⟨h.1, hb.heap _ _ hne h.2.1, RepL.mono hl _ _ h.2.2⟩
  | row cap s cs =>
    obtain ⟨vs, c, e, z, h1, h2, h3, h4⟩ := h
    exact ⟨vs, c, e, z, hb.heap _ _ hne h1, h2, RepL.mono hl _ _ h3, h4⟩

theorem mem_of_get {l : List Nat} {i b : Nat} (h : l[i]? = some b) : b ∈ l := by
  obtain ⟨hlt, he⟩ := List.getElem?_eq_some_iff.1 h
  exact he ▸ List.getElem_mem hlt

theorem OwnAt.but {γ γ' : G} {w w' : World} {k : Nat} {v : Value} {s : Nat} {es : List (List V)} (h : OwnAt γ w v s es) (hb : But (some k) w w') (hk : blockOf v ≠ some k) (hl : LeR γ γ')
    (hp : ∀ b, blockOf v = some b → γ'.phi b = none ∧ γ'.pub b = [] ∧ b ∉ γ'.mu) : OwnAt γ' w' v s es := by
  obtain ⟨a, cap, rfl, h2, h3, h4, h5, h6, c, e, z, vs, h7, h8, h9, h10⟩ := h
  obtain ⟨p1, p2, p3⟩ := hp a.block rfl
  exact ⟨a, cap, rfl, h2, h3, p1, p2, p3, c, e, z, vs, hb.heap _ _ (fun e => hk (by simp [blockOf, e])) h7, h8, RepE.mono hl _ _ _ h9, h10⟩

/-- One block that nobody knows has changed; or none. -/
theorem INV.but {γ : G} {σ : St} {w w' : World} {k : Nat} (h : INV γ σ w) (hb : But (some k) w w') (hf : Free γ σ k) : INV γ σ w' where
  os := hb.os.trans h.os
  tape := hb.tape.trans h.tape
  out := hb.out.trans h.out
  phi := fun b o hx => hb.heap _ _ (fun e => by cases e; rw [hf.phi] at hx; cases hx) (h.phi _ _ hx)
  pub := fun b i v hx => by
    obtain ⟨c, e, z, h1, h2⟩ := h.pub _ _ _ hx
    exact ⟨c, e, z, hb.heap _ _ (fun e => by cases e; rw [hf.pub] at hx; simp at hx) h1, h2⟩
  mulen := h.mulen
  objs := fun i b o h1 h2 => by
    obtain ⟨p1, p2, p3⟩ := h.objs _ _ _ h1 h2
    exact ⟨p1, p2, p3.but hb (fun e => hf.mu (e ▸ mem_of_get h1)) ⟨fun _ _ x => x, fun _ _ x => x, fun _ _ _ x => x⟩ (fun _ => rfl) (fun _ _ _ x => x)⟩
  inj := h.inj
  rholen := h.rholen
  own := fun r v s es h1 h2 => by
    have ho := h.own _ _ _ _ h1 h2
    refine ho.but hb (hf.own _ _ _ _ h1 h2) ⟨fun _ _ x => x, fun _ _ x => x, fun _ _ _ x => x⟩ ?_
    obtain ⟨a, cap, rfl, h3, h4, h5, h6, h7, _⟩ := ho
    intro b hb'
    cases hb'
    exact ⟨h5, h6, h7⟩
  snapb := fun b n x hx => Nat.lt_of_lt_of_le (h.snapb _ _ _ hx) hb.size
  apart := h.apart
  drn := Nat.le_trans h.drn hb.drn

theorem INV.free_new {γ : G} {σ : St} {w : World} (h : INV γ σ w) {b : Nat} (hb : w.heap.size ≤ b) : Free γ σ b where
  phi := by
    cases hx : γ.phi b with
    | none => rfl
    | some o => exact absurd (lt_of_heap (h.phi _ _ hx)) (by omega)
  pub := by
    cases hx : γ.pub b with
    | nil => rfl
    | cons v r =>
      obtain ⟨c, e, z, h1, _⟩ := h.pub b 0 v (by rw [hx]; rfl)
      exact absurd (lt_of_heap h1) (by omega)
  mu := fun hm => by
    obtain ⟨i, hi, he⟩ := List.getElem_of_mem hm
    have h1 : γ.mu[i]? = some b := by rw [List.getElem?_eq_getElem hi, he]
    have hlt : i < σ.objs.length := h.mulen ▸ hi
    obtain ⟨_, _, p3⟩ := h.objs i b σ.objs[i] h1 (List.getElem?_eq_getElem hlt)
    obtain ⟨x, hx⟩ := p3.heap
    exact absurd (lt_of_heap hx) (by omega)
  own := fun r v s es h1 h2 e => by
    obtain ⟨a, cap, rfl, _, _, _, _, _, c, _, _, _, h7, _⟩ := h.own _ _ _ _ h1 h2
    simp [blockOf] at e
    subst e
    exact absurd (lt_of_heap h7) (by omega)

/-- New blocks, draws: nothing has changed. -/
theorem INV.step {γ : G} {σ : St} {w w' : World} (h : INV γ σ w) (hb : But none w w') : INV γ σ w' := by
  have hf := h.free_new (b := w'.heap.size) hb.size
  exact h.but (hb.some (some w'.heap.size)) hf

theorem LocAt.but {γ : G} {σ : St} {w w' : World} {b k : Nat} {cs : List V} (h : LocAt γ σ w b cs) (hb : But (some k) w w') (hk : b ≠ k) : LocAt γ σ w' b cs := by
  obtain ⟨vs, e, h1, h2⟩ := h.cells
  exact ⟨⟨vs, e, hb.heap _ _ (fun x => hk (by cases x; rfl)) h1, h2⟩, h.phi, h.pub, h.mu, h.own⟩

theorem FRep.step {γ : G} {σ : St} {F : Fr} {a : Act} {w w' : World} {lam : Nat → Nat} (h : FRep γ σ F a w lam) (hb : But none w w') : FRep γ σ F a w' lam :=
  ⟨h.s, fun k cs hk => by
    have hl := h.l k cs hk
    refine hl.but (k := w'.heap.size) (hb.some _) ?_
    obtain ⟨vs, e, h1, _⟩ := hl.cells
    have := lt_of_heap h1
    have := hb.size
    omega, h.inj⟩
end Go.VL

namespace Go.VL
open Go

def vOf1 (s : Nat) : Value → Option V
  | .int k n => some (.int k n)
  | .bool b => some (.bool b)
  | .string t => some (.str t.data.toList)
  | .slice none 0 0 => some (.sl true .pub s [])
  | .pointer none => some (.ptr none)
  | .map none => some (.map none)
  | .nilFunc => some .nilf
  | _ => none
def vOfs : List Value → Option (List V)
  | [] => some []
  | v :: r => match vOf1 0 v, vOfs r with
    | some x, some xs => some (x :: xs)
    | _, _ => none
def vOf (s : Nat) : Value → Option V
  | .agg cs => (vOfs cs.toList).map .agg
  | v => vOf1 s v

def compE (s : Nat) : Operand → Option E
  | .tmp t => some (.t t)
  | .const v => (vOf s v).map .c
  | .func f => some (.c (.fn f []))
  | .global _ => none
def compEs (s : Nat) : List Operand → Option (List E)
  | [] => some []
  | x :: r => match compE s x, compEs s r with
    | some y, some ys => some (y :: ys)
    | _, _ => none
def compEO (s : Nat) : Option Operand → Option (Option E)
  | none => some none
  | some x => (compE s x).map some

def szOf (P : Program) (t : TypeId) : Option Nat := (P.info? t).map (·.size)
def aggOf (P : Program) (t : TypeId) : Option Bool := match P.underlying t with
  | some (.struct _) | some (.array _ _) => some true
  | some _ => some false
  | none => none
def nilSz (P : Program) (t : TypeId) : Nat := match P.underlying t with
  | some (.slice e) => (szOf P e).getD 0
  | _ => 0
def zeroC (P : Program) (t : TypeId) : Option (List V) := ((P.info? t).bind (·.zero)).bind fun z => vOfs z.cells.toList

mutual
/-- The leaves of a comparable type. -/
def leaves (P : Program) : Nat → TypeId → Option (List LK)
  | 0, _ => none
  | n + 1, t => match P.underlying t with
    | some (.int k) => some [.int k]
    | some .bool => some [.bool]
    | some .string => some [.str]
    | some (.struct fs) => if P.stoodInHeld t then none else leavesF P n 0 fs.toList
    | _ => none
def leavesF (P : Program) : Nat → Nat → List Field → Option (List LK)
  | _, _, [] => some []
  | 0, _, _ :: _ => none
  | n + 1, off, f :: r => if f.name = "_" || f.offset ≠ off then none else
    match leaves P n f.type, szOf P f.type with
    | some a, some s => if a.length ≠ s then none else if s = 0 then none else (leavesF P n (off + s) r).map (a ++ ·)
    | _, _ => none
end

/-- A key's leaves. -/
def leavesK (P : Program) (t : TypeId) : Option (List LK) := match leaves P 20 t, aggOf P t with
  | some l, some true => some (.agg :: l)
  | some l, some false => some l
  | _, _ => none

def fieldsOf (P : Program) (t : TypeId) : Option (Array Field) := match P.underlying t with
  | some (.struct fs) => some fs
  | _ => none

def ekOf : TypeDesc → Option EK
  | .bool => some .bool
  | .pointer _ => some .ptr
  | .slice _ => some .sl
  | .map _ _ => some .map
  | .func _ _ _ => some .fn
  | _ => none

def compBld (P : Program) (fs : Array Field) : List (Nat × Operand) → Option (List (Nat × Nat × E))
  | [] => some []
  | p :: r => match fs[p.1]?, compE 0 p.2, compBld P fs r with
    | some f, some x, some l => (szOf P f.type).map fun s => (f.offset, s, x) :: l
    | _, _, _ => none
def compLit (i : Nat) : List (Nat × Operand) → Option (List E)
  | [] => some []
  | p :: r => if p.1 ≠ i then none else match compE 0 p.2, compLit (i + 1) r with
    | some x, some l => some (x :: l)
    | _, _ => none

def zsOK (i : TypeInfo) : Bool := match i.zero with
  | some z => decide (z.cells.size = i.size)
  | none => false
def isSS : TypeDesc → Bool
  | .slice _ => true
  | .string => true
  | _ => false

def compCall (P : Program) (d : Option Nat) (c : Call) : Option O :=
  match c.callee with
  | .value (.func f) => (compEs 0 c.args.toList).map fun xs => .ca d f xs
  | .value (.tmp k) => (compEs 0 c.args.toList).map fun xs => .cv d (.t k) xs
  | .builtin b => match b, c.args.toList, d with
    | .append, [x, y], some d => match (c.argTypes[0]?).bind P.underlying, (c.argTypes[1]?).bind P.underlying with
      | some (.slice e), some u => if isSS u = false then none else match P.info? e, compE 0 x, compE 0 y with
        | some i, some x, some y => if decide (i.bytes ≤ 65536) && zsOK i then some (.ap d i.size x y) else none
        | _, _, _ => none
      | _, _ => none
    | .len, [x], some d => match (c.argTypes[0]?).bind P.underlying with
      | some (.slice _) => (compE 0 x).map fun x => .ln d .sl x
      | some .string => (compE 0 x).map fun x => .ln d .fn x
      | some (.map _ _) => (compE 0 x).map fun x => .ln d .map x
      | _ => none
    | .max, [x, y], some d => match compE 0 x, compE 0 y with
      | some x, some y => some (.mx d x y)
      | _, _ => none
    | .min, [x, y], some d => match compE 0 x, compE 0 y with
      | some x, some y => some (.mn d x y)
      | _, _ => none
    | .delete, [x, y], none => match (c.argTypes[0]?).bind P.underlying with
      | some (.map k _) => match leavesK P k, compE 0 x, compE 0 y with
        | some lv, some x, some y => some (.de lv x y)
        | _, _, _ => none
      | _ => none
    | _, _, _ => none
  | _ => none

/-- An address of an element of an owned slice: by what is told of the function. -/
def isSe (loc : List Nat) : Operand → Bool
  | .tmp k => loc.contains (k + 1000000)
  | _ => false

/-- .. that lies in an element of the one in a slot: hint (8000000 + the address' slot) * 1000 + that slot. -/
def isSn (loc : List Nat) : Operand → Option Nat
  | .tmp k => (loc.find? fun h => Nat.beq (h / 1000) (8000000 + k)).map fun h => h % 1000
  | _ => none
def compO' (P : Program) (loc : List Nat) (o : Oper) : Option O :=
  match o.op, o.dst with
  | .move x, some d => (compE (nilSz P o.type) x).map (.mv d)
  | .assign x, some d => (compE (nilSz P o.type) x).map (.mv d)
  | .pick c a b, some d => match compE 0 c, compE 0 a, compE 0 b with
    | some c, some a, some b => some (.pk d c a b)
    | _, _, _ => none
  | .alloc t, some d => (zeroC P t).map fun z => if loc.contains d then .alL d z else .alH d z
  | .box _ x, some d => (compE 0 x).map fun x => if loc.contains d then .bxL d x else .bxH d x
  | .build t ps, some d => match fieldsOf P t, zeroC P t with
    | some fs, some z => if fs.all (fun f => (szOf P f.type).isSome) then (compBld P fs ps.toList).map (.bld d z) else none
    | _, _ => none
  | .buildSlice t len ps, some d => match P.underlying t with
    | some (.slice e) => match szOf P e, zeroC P e, compLit 0 ps.toList with
      | some s, some _, some l => if l.length = len && len * s ≤ 65536 then (bif loc.contains (d + 7000000) then some (.lip d s l) else some (.lit d s l)) else none
      | _, _, _ => none
    | _ => none
  | .load t a, some d => match szOf P t, aggOf P t, compE 0 a with
    | some n, some g, some x => some (.ld d x n g)
    | _, _, _ => none
  | .store t a x, none => match szOf P t, compE 0 a, compE 0 x with
    | some n, some e, some x => some (bif isSe loc a then (match isSn loc a with | some p => .sn e x n p | none => .se e x n) else .st e x n)
    | _, _, _ => none
  | .nilCheck x, some d => (compE 0 x).map (.nc d)
  | .binOp op t x y _, some d => match compE 0 x, compE 0 y with
    | some x, some y => match P.underlying t with
      | some (.struct _) => match leaves P 20 t, op with
        | some lv, .eql => if P.eqGuardType P.depth t then none else some (.be d false lv x y)
        | some lv, .neq => if P.eqGuardType P.depth t then none else some (.be d true lv x y)
        | _, _ => none
      | some (.int _) => some (.bi d op x y)
      | some .string => some (.bi d op x y)
      | some u => match ekOf u, op with
        | some k, .eql => some (.bq d false k x y)
        | some k, .neq => some (.bq d true k x y)
        | _, _ => none
      | none => none
    | _, _ => none
  | .unOp op _ x, some d => (compE 0 x).map (.un d op)
  | .convert s t x, some d => match P.underlying s, P.underlying t, compE 0 x with
    | some (.int _), some (.int k), some x => some (.cI d k x)
    | some (.slice e), some .string, some x => if (P.underlying e matches some (.int .u8)) then some (.cS d x) else none
    | some .string, some .string, some x => some (.cT d x)
    | some .string, some (.slice e), some x => if (P.underlying e matches some (.int .u8)) then some (.cB d x) else none
    | _, _, _ => none
  | .makeFunc (.func f) first caps, some d => if first.isEmpty then (compEs 0 caps.toList).map (.mf d f) else none
  | .makeMap t none, some d => match P.underlying t with
    | some (.map k _) => (leavesK P k).map (.mm d)
    | _ => none
  | .makeSlice t l c, some d => match P.underlying t with
    | some (.slice e) => match P.info? e, zeroC P e, compE 0 l, compE 0 c with
      | some i, some z, some l, some c => if i.bytes ≤ 65536 && i.size = z.length && decide (0 < i.size) then some (.ms d z l c) else none
      | _, _, _, _ => none
    | _ => none
  | .slice t x lo hi none, some d => match P.underlying t, compE 0 x, compEO 0 lo, compEO 0 hi with
    | some (.slice e), some x, some lo, some hi => (szOf P e).map fun n => .sl d n x lo hi
    | some .string, some x, some lo, some hi => some (.ss d x lo hi)
    | _, _, _, _ => none
  | .fieldAddr t x i, some d => match fieldsOf P t, compE 0 x with
    | some fs, some x => match fs[i]? with
      | some f => match szOf P f.type with
        | some (_ + 1) => some (.fa d x f.offset)
        | _ => none
      | none => none
    | _, _ => none
  | .field t x i, some d => match fieldsOf P t, compE 0 x with
    | some fs, some x => match fs[i]? with
      | some f => match szOf P f.type, aggOf P f.type with
        | some n, some g => some (.fd d x f.offset n g)
        | _, _ => none
      | none => none
    | _, _ => none
  | .indexAddr t x i, some d => match P.underlying t, compE 0 x, compE 0 i with
    | some (.slice e), some x, some i => (szOf P e).map (.ia d x i)
    | some (.array n e), some x, some i => (szOf P e).map fun s => .iA d x i s n
    | _, _, _ => none
  | .index t x i, some d => match P.underlying t, compE 0 x, compE 0 i with
    | some .string, some x, some i => some (.ix d x i)
    | _, _, _ => none
  | .extract x i, some d => (compE 0 x).map fun x => .ex d x i
  | .lookup t m k ok, some d => match P.underlying t with
    | some (.map kt e) => match leavesK P kt, compE 0 m, compE 0 k, ((P.info? e).bind (·.zero)).bind (vOf 0) with
      | some lv, some m, some k, some z => some (.lk d lv m k ok z)
      | _, _, _, _ => none
    | _ => none
  | .range t x, some d => match P.underlying t with
    | some (.map _ _) => (compE 0 x).map fun x => .rg d x
    | _ => none
  | .entry x, some d => (compE 0 x).map fun x => .en d x
  | .entryStore t m s v, none => match P.underlying t with
    | some (.map kt _) => match leavesK P kt, compE 0 m, compE 0 s, compE 0 v with
      | some lv, some m, some s, some v => some (.es lv m s v)
      | _, _, _, _ => none
    | _ => none
  | .mapUpdate t m k v, none => match P.underlying t with
    | some (.map kt _) => match leavesK P kt, compE 0 m, compE 0 k, compE 0 v with
      | some lv, some m, some k, some v => some (.mu lv m k v)
      | _, _, _, _ => none
    | _ => none
  | _, _ => none
def O.isCall : O → Bool
  | .ca _ _ _ => true
  | .cv _ _ _ => true
  | .cm _ _ _ => true
  | .nx _ _ => true
  | .me _ _ _ _ _ => true
  | .ao _ _ _ _ _ => true
  | _ => false
/-- Calls that change their first argument: by what is told of the function. -/
def toCm (loc : List Nat) : O → O
  | .ca d f xs => bif loc.contains (f + 3000000) then .cm d f xs else .ca d f xs
  | .ap d s x y => bif loc.contains (d + 5000000) then .ao d s true x y else bif loc.contains (d + 6000000) then .ao d s false x y else .ap d s x y
  | o => o
def compO (P : Program) (loc : List Nat) (o : Oper) : Option O :=
  match o.op with
  | .call c => (compCall P o.dst c).map (toCm loc)
  | .defer _ => none
  | .next x b => match b, o.dst, compE 0 x with
    | false, some d, some x => some (.nx d x)
    | _, _, _ => none
  | .mapEntry t m k => match P.underlying t with
    | some (.map kt e) => match o.dst, leavesK P kt, compE 0 m, compE 0 k, ((P.info? e).bind (·.zero)).bind (vOf 0) with
      | some d, some lv, some m, some k, some z => some (.me d lv m k z)
      | _, _, _, _, _ => none
    | _ => none
  | _ => match compO' P loc o with
    | some c => if c.isCall then none else some c
    | none => none

/-- The two places: alike, and in the frame. -/
def dstOK (N : Nat) : Option Nat → Option Nat → Bool
  | some d, some e => d.beq e && (d + 1).ble N
  | none, none => true
  | _, _ => false
def compG (P : Program) (N : Nat) (loc : List Nat) (ops : Array Oper) (o : Oper) : Option GO :=
  match compO P loc o with
  | none => none
  | some c => match dstOK N o.dst c.dst, o.guard with
    | true, none => some ⟨none, c⟩
    | true, some (j, b) => ((ops[j]?).bind (·.dst)).map fun g => ⟨some (g, b), c⟩
    | false, _ => none
def compGs (P : Program) (N : Nat) (loc : List Nat) (ops : Array Oper) : List Oper → Option (List GO)
  | [] => some []
  | o :: r => match compG P N loc ops o, compGs P N loc ops r with
    | some g, some l => some (g :: l)
    | _, _ => none

def E.rs : E → List Nat
  | .t n => [n]
  | .c _ => []
def EOrs : Option E → List Nat
  | some x => x.rs
  | none => []
/-- The slots that an operation reads. -/
def O.reads : O → List Nat
  | .mv _ x | .bxL _ x | .bxH _ x | .ld _ x _ _ | .nc _ x | .un _ _ x | .cI _ _ x | .cS _ x | .cT _ x | .cB _ x | .fa _ x _ | .fd _ x _ _ _ | .rg _ x | .nx _ x | .en _ x | .ex _ x _ | .ln _ _ x => x.rs
  | .pk _ a b c => a.rs ++ (b.rs ++ c.rs)
  | .alL _ _ | .alH _ _ | .mm _ _ => []
  | .bld _ _ ps => ps.flatMap (·.2.2.rs)
  | .lit _ _ ps => ps.flatMap E.rs
  | .lip _ _ ps => ps.flatMap E.rs
  | .st a b _ | .se a b _ | .sn a b _ _ | .bi _ _ a b | .bq _ _ _ a b | .be _ _ _ a b | .ms _ _ a b | .ia _ a b _ | .iA _ a b _ _ | .ix _ a b | .lk _ _ a b _ _ | .ap _ _ a b | .ao _ _ _ a b | .mx _ a b | .mn _ a b | .de _ a b => a.rs ++ b.rs
  | .mf _ _ ps => ps.flatMap E.rs
  | .sl _ _ x a b | .ss _ x a b => x.rs ++ (EOrs a ++ EOrs b)
  | .mu _ a b c => a.rs ++ (b.rs ++ c.rs)
  | .es _ a b c => a.rs ++ (b.rs ++ c.rs)
  | .me _ _ a b _ => a.rs ++ b.rs
  | .ca _ _ ps => ps.flatMap E.rs
  | .cm _ _ ps => ps.flatMap E.rs
  | .cv _ f ps => f.rs ++ ps.flatMap E.rs

inductive Kd where
  | val | look | make | change | call | no

/-- Values alone; it looks at memory; it makes memory; it changes memory; a call; not in a region of more than one order. -/
def O.kind : O → Kd
  | .mv _ _ | .nc _ _ | .un _ _ _ | .cI _ _ _ | .cT _ _ | .fa _ _ _ | .fd _ _ _ _ _ | .ex _ _ _ | .pk _ _ _ _ | .bld _ _ _ | .bi _ _ _ _ | .bq _ _ _ _ _ | .be _ _ _ _ _ | .ia _ _ _ _ | .iA _ _ _ _ _
  | .ix _ _ _ | .mx _ _ _ | .mn _ _ _ | .mf _ _ _ | .sl _ _ _ _ _ | .ss _ _ _ _ | .lip _ _ _ => .val
  | .ld _ _ _ _ | .cS _ _ | .ln _ _ _ | .lk _ _ _ _ _ _ => .look
  | .alH _ _ | .bxH _ _ | .lit _ _ _ | .cB _ _ | .mm _ _ | .ms _ _ _ _ => .make
  | .st _ _ _ | .ap _ _ _ _ | .mu _ _ _ _ | .de _ _ _ | .es _ _ _ _ => .change
  | .ca _ _ _ | .cv _ _ _ | .ao _ _ _ _ _ | .me _ _ _ _ _ => .call
  | _ => .no

def GO.reads (o : GO) : List Nat := match o.g with
  | some g => g.1 :: o.o.reads
  | none => o.o.reads

/-- Two operations may change places: x stands first. -/
def free (d : Option Nat) (l : List Nat) : Bool := match d with
  | some d => l.all fun t => !(Nat.beq t d)
  | none => true
def unlike : Option Nat → Option Nat → Bool
  | some a, some b => !(Nat.beq a b)
  | _, _ => true
def kinds : Kd → Kd → Bool
  | _, .no => false
  | .val, _ => true
  | .look, .change => false
  | .look, _ => true
  | _, _ => false
def O.isMe : O → Bool
  | .me _ _ _ _ _ => true
  | _ => false
def Kd.isVal : Kd → Bool
  | .val => true
  | _ => false
/-- Nothing that is looked at may be looked at behind an entry that is made. -/
def swOK (x y : GO) : Bool := (kinds x.o.kind y.o.kind && (x.o.kind.isVal || !y.o.isMe)) && (free x.o.dst y.reads && (free y.o.dst x.reads && unlike x.o.dst y.o.dst))


/-! ### Regions of more than one order -/

def mask (rows : List Nat) : List Edge → Nat
  | [] => 0
  | e :: r => bif Region.binds .any e then (2 ^ e.on ||| rows[e.on]?.getD 0) ||| mask rows r else mask rows r
/-- What must come before an operation. -/
def rowsF : List Nat → List Oper → List Nat
  | acc, [] => acc
  | acc, o :: r => rowsF (acc ++ [mask acc o.after.toList]) r
def Kd.early : Kd → Bool
  | .val => true
  | .look => true
  | _ => false
def readyB (rows : List Nat) (done i : Nat) : Bool := (rows[i]?.getD 0 &&& done).beq (rows[i]?.getD 0)
def pickF (p : Nat → Bool) : List Nat → Option Nat
  | [] => none
  | i :: r => bif p i then some i else pickF p r
/-- The order: what changes nothing comes as early as it can. -/
def order (rows : List Nat) (gs : List GO) : Nat → Nat → List Nat → List Nat
  | 0, _, _ => []
  | k + 1, done, rest =>
    match pickF (fun i => readyB rows done i && ((gs[i]?.map (·.o.kind.early)).getD false)) rest with
    | some i => i :: order rows gs k (done ||| 2 ^ i) (rest.filter fun j => !(j.beq i))
    | none => match pickF (fun i => readyB rows done i) rest with
      | some i => i :: order rows gs k (done ||| 2 ^ i) (rest.filter fun j => !(j.beq i))
      | none => []
def okRows (rows : List Nat) : Nat → List Oper → Bool
  | _, [] => true
  | i, o :: r => (rows[i]?.getD 0).beq (mask rows o.after.toList) && okRows rows (i + 1) r
def okOrd (rows : List Nat) (n : Nat) : Nat → List Nat → Bool
  | done, [] => (List.range n).all fun i => done.testBit i
  | done, i :: r => (i + 1).ble n && (!(done.testBit i) && (readyB rows done i && okOrd rows n (done ||| 2 ^ i) r))
def swAt (gs : List GO) (x y : Nat) : Bool := match gs[x]?, gs[y]? with
  | some a, some b => swOK a b
  | _, _ => false
def okPairs (rows : List Nat) (gs : List GO) : List Nat → Bool
  | [] => true
  | x :: r => (r.all fun y => (rows[y]?.getD 0).testBit x || swAt gs x y) && okPairs rows gs r
def Kd.yes : Kd → Bool
  | .no => false
  | _ => true
def getAll (gs : List GO) : List Nat → Option (List GO)
  | [] => some []
  | i :: r => match gs[i]?, getAll gs r with
    | some g, some l => some (g :: l)
    | _, _ => none
def ordOf (ops : List Oper) (gs : List GO) : List Nat := order (rowsF [] ops) gs ops.length 0 (List.range ops.length)
def okD (ops : List Oper) (gs : List GO) (rows ord : List Nat) : Bool :=
  okRows rows 0 ops && (okOrd rows ops.length 0 ord && (okPairs rows gs ord && gs.all (·.o.kind.yes)))
def compD (P : Program) (N : Nat) (loc : List Nat) (ops : Array Oper) : Option (List GO) :=
  match compGs P N loc ops ops.toList with
  | some gs => bif P.follows .mixedOrders && okD ops.toList gs (rowsF [] ops.toList) (ordOf ops.toList gs) then getAll gs (ordOf ops.toList gs) else none
  | none => none

/-- Two operations that may not change places: both orders are gone through. -/
def badPairs (rows : List Nat) (gs : List GO) : List Nat → List (Nat × Nat)
  | [] => []
  | x :: r => ((r.filter fun y => !((rows[y]?.getD 0).testBit x || swAt gs x y)).map fun y => (x, y)) ++ badPairs rows gs r
/-- As order, but q stands ahead of p. -/
def order2 (rows : List Nat) (gs : List GO) (p q : Nat) : Nat → Nat → List Nat → List Nat
  | 0, _, _ => []
  | k + 1, done, rest =>
    match pickF (fun i => readyB rows done i && ((gs[i]?.map (·.o.kind.early)).getD false) && (!(i.beq p) || done.testBit q)) rest with
    | some i => i :: order2 rows gs p q k (done ||| 2 ^ i) (rest.filter fun j => !(j.beq i))
    | none => match pickF (fun i => readyB rows done i && (!(i.beq p) || done.testBit q)) rest with
      | some i => i :: order2 rows gs p q k (done ||| 2 ^ i) (rest.filter fun j => !(j.beq i))
      | none => []
def ord2Of (ops : List Oper) (gs : List GO) (p q : Nat) : List Nat := order2 (rowsF [] ops) gs p q ops.length 0 (List.range ops.length)
def okPairs2 (rows : List Nat) (gs : List GO) (p q : Nat) : List Nat → Bool
  | [] => true
  | x :: r => (r.all fun y => (rows[y]?.getD 0).testBit x || (swAt gs x y || ((x.beq p || (rows[p]?.getD 0).testBit x) && (y.beq q || (rows[y]?.getD 0).testBit q)))) && okPairs2 rows gs p q r
def Kd.isCall : Kd → Bool
  | .call => true
  | _ => false
/-- No call comes ahead of both. -/
def callsDep (rows : List Nat) (p q : Nat) : Nat → List GO → Bool
  | _, [] => true
  | i, g :: r => (!g.o.kind.isCall || (i.beq p || (i.beq q || ((rows[i]?.getD 0).testBit p || (rows[i]?.getD 0).testBit q)))) && callsDep rows p q (i + 1) r
def okE (ops : List Oper) (gs : List GO) (rows o1 o2 : List Nat) (p q : Nat) : Bool :=
  okRows rows 0 ops && (okOrd rows ops.length 0 o1 && (okOrd rows ops.length 0 o2 && (okPairs2 rows gs p q o1 && (okPairs2 rows gs q p o2 && (callsDep rows p q 0 gs && (!(p.beq q) && (((p + 1).ble ops.length && (q + 1).ble ops.length) && gs.all (·.o.kind.yes))))))))
def compE2' (P : Program) (ops : Array Oper) (gs : List GO) : List (Nat × Nat) → Option (List GO × List GO)
  | [(p, q)] => bif P.follows .mixedOrders && okE ops.toList gs (rowsF [] ops.toList) (ordOf ops.toList gs) (ord2Of ops.toList gs p q) p q then
      match getAll gs (ordOf ops.toList gs), getAll gs (ord2Of ops.toList gs p q) with
      | some a, some b => some (a, b)
      | _, _ => none
    else none
  | _ => none
def compE2 (P : Program) (N : Nat) (loc : List Nat) (ops : Array Oper) : Option (List GO × List GO) :=
  match compGs P N loc ops ops.toList with
  | some gs => compE2' P ops gs (badPairs (rowsF [] ops.toList) gs (ordOf ops.toList gs))
  | none => none
def compDE (P : Program) (N : Nat) (loc : List Nat) (ops : Array Oper) : Option C :=
  match compD P N loc ops with
  | some l => some (.opsD l)
  | none => (compE2 P N loc ops).map fun x => .opsE x.1 x.2

/-- In how many ways a statement ends: without a jump; by jumps. -/
def ways : Code → Nat × List Nat
  | .exit i => (0, [i])
  | .ret => (0, [])
  | .goto _ => (0, [])
  | .seq a b => match ways a, ways b with
    | (0, x), _ => (0, x)
    | (_, x), (n, y) => (n, x ++ y)
  | .cond _ a b => match ways a, ways b with
    | (m, x), (n, y) => (m + n, x ++ y)
  | .block i c => match ways c with
    | (n, x) => (n + (x.filter fun j => j.beq i).length, x.filter fun j => !(j.beq i))
  | .loop c => match ways c with
    | (_, x) => (0, x)
  | .scope c => ways c
  | .rangeFunc _ _ _ c => match ways c with
    | (_, x) => (1, x)
  | _ => (1, [])
/-- No loop over a function within. -/
def noRF : Code → Bool
  | .seq a b => noRF a && noRF b
  | .cond _ a b => noRF a && noRF b
  | .block _ c => noRF c
  | .loop c => noRF c
  | .scope c => noRF c
  | .rangeFunc _ _ _ _ => false
  | _ => true
/-- Where ways meet. -/
def joins (c : Code) : Bool := Nat.ble 2 (ways c).1

/-- Two orders. -/
def C.two : C → Bool
  | .opsE _ _ => true
  | _ => false
/-- Where nothing is told: of what does not compile, if the function's contract needs no more (told by the hint 4000000). -/
def noC : C := .ops [⟨none, .ex 0 (.c .bad) 0⟩]
def orNo (loc : List Nat) (c : Option C) : Option C := match c with
  | some c => some c
  | none => bif loc.contains 4000000 then some noC else none
def compC (P : Program) (N : Nat) (loc : List Nat) : Code → Option C
  | .skip => some .skip
  | .label _ => some .skip
  | .region _ ops false => orNo loc ((compGs P N loc ops ops.toList).map .ops)
  | .region _ ops true => orNo loc (compDE P N loc ops)
  | .seq a b => match compC P N loc a, compC P N loc b with
    | some x, some y => some (bif joins a || x.two then .cut x y else .seq x y)
    | _, _ => none
  | .cond x a b => match compE 0 x, compC P N loc a, compC P N loc b with
    | some x, some a, some b => some (.cond x a b)
    | _, _, _ => none
  | .block i c => (compC P N loc c).map (.block i)
  | .loop c => (compC P N loc c).map .loop
  | .scope c => compC P N loc c
  | .exit i => some (.exit i)
  | .ret => some .ret
  | .rangeFunc f ps a b => bif noRF a && (noRF b && ps.toList.all fun p => (p + 1).ble N) then match compE 0 f, compC P N loc a, compC P N loc b with
    | some f, some a, some b => some (.range f ps.toList a b)
    | _, _, _ => none else none
  | _ => none
end Go.VL

namespace Go.VL
open Go

theorem byteArray_mk (s : ByteArray) : (⟨s.data.toList.toArray⟩ : ByteArray) = s := by cases s; simp

theorem vOf1_rep (γ : G) (s : Nat) : ∀ (v : Value) (x : V), vOf1 s v = some x → Rep γ x v := by
  intro v x h
  cases v with
  | int k n => simp only [vOf1, Option.some.injEq] at h; subst h; simp [Rep]
  | bool b => simp only [vOf1, Option.some.injEq] at h; subst h; simp [Rep]
  | string t => simp only [vOf1, Option.some.injEq] at h; subst h; simp only [Rep, byteArray_mk]
  | slice a n c =>
    cases a with
    | some a => simp [vOf1] at h
    | none =>
      cases n with
      | succ n => simp [vOf1] at h
      | zero =>
        cases c with
        | succ n => simp [vOf1] at h
        | zero => simp only [vOf1, Option.some.injEq] at h; subst h; simp [Rep]
  | pointer a =>
    cases a with
    | some a => simp [vOf1] at h
    | none => simp only [vOf1, Option.some.injEq] at h; subst h; simp [Rep]
  | map a =>
    cases a with
    | some a => simp [vOf1] at h
    | none => simp only [vOf1, Option.some.injEq] at h; subst h; simp [Rep]
  | nilFunc => simp only [vOf1, Option.some.injEq] at h; subst h; simp [Rep]
  | _ => simp [vOf1] at h

theorem vOfs_rep (γ : G) : ∀ (vs : List Value) (xs : List V), vOfs vs = some xs → RepL γ xs vs
  | [], xs, h => by simp only [vOfs, Option.some.injEq] at h; subst h; simp [RepL]
  | v :: r, xs, h => by
    simp only [vOfs] at h
    split at h
    · rename_i x ys hx hys
      simp only [Option.some.injEq] at h
      subst h
      simp only [RepL]
      exact ⟨v, r, rfl, vOf1_rep γ 0 v x hx, vOfs_rep γ r ys hys⟩
    · simp at h

theorem vOf_rep (γ : G) (s : Nat) (v : Value) (x : V) (h : vOf s v = some x) : Rep γ x v := by
  cases v with
  | agg cs =>
    simp only [vOf, Option.map_eq_some_iff] at h
    obtain ⟨xs, h1, rfl⟩ := h
    simp only [Rep]
    exact ⟨cs.toList, by simp, vOfs_rep γ _ _ h1⟩
  | _ => exact vOf1_rep γ s _ x h

section
variable {P : Program} {γ : G} {σ : St} {F : Fr} {a : Act} {w : World} {lam : Nat → Nat}

theorem ev_rep (h : FRep γ σ F a w lam) {s : Nat} {x : Operand} {e : E} (hc : compE s x = some e) : SRep γ lam (F.ev e) (a.eval x) := by
  cases x with
  | tmp t =>
    simp only [compE, Option.some.injEq] at hc
    subst hc
    exact h.s t
  | const v =>
    simp only [compE, Option.map_eq_some_iff] at hc
    obtain ⟨y, h1, rfl⟩ := hc
    exact vOf_rep γ s v y h1
  | func f =>
    simp only [compE, Option.some.injEq] at hc
    subst hc
    simp only [Fr.ev, SRep, Rep, Act.eval]
    exact ⟨[], rfl, by simp [RepL]⟩
  | global g => simp [compE] at hc

theorem va_rep (h : FRep γ σ F a w lam) {s : Nat} {x : Operand} {e : E} (hc : compE s x = some e) : Rep γ (F.va e) (a.eval x) := by
  have := ev_rep h hc
  unfold Fr.va
  cases hs : F.ev e with
  | v y => rw [hs] at this; exact this
  | loc k o => simp [S.val, Rep]

theorem vas_rep (h : FRep γ σ F a w lam) : ∀ {xs : List Operand} {es : List E}, compEs 0 xs = some es → RepL γ (es.map F.va) (xs.map a.eval)
  | [], es, hc => by simp only [compEs, Option.some.injEq] at hc; subst hc; simp [RepL]
  | x :: r, es, hc => by
    simp only [compEs] at hc
    split at hc
    · rename_i y ys h1 h2
      simp only [Option.some.injEq] at hc
      subst hc
      simp only [List.map_cons, RepL]
      exact ⟨_, _, rfl, va_rep h h1, vas_rep h h2⟩
    · simp at hc

/-- What an operation must do. -/
def Good (P : Program) (o : Oper) (a : Act) (w : World) (γ : G) (K : Fr → St → Prop) : Prop :=
  ∃ r w' γ' σ' F' lam' v, (execOp a.eval o).run P w = .ok r w' ∧ (r = .value v ∨ (r = .skip ∧ v = undef)) ∧ Le γ γ' ∧ INV γ' σ' w' ∧
    FRep γ' σ' F' (a.put o.dst v) w' lam' ∧ K F' σ'

theorem good_pure {o : Oper} {K : Fr → St → Prop} {v : Value} {d : Nat} {x : S} (hi : INV γ σ w) (hf : FRep γ σ F a w lam) (hd : o.dst = some d) (hN : d < a.tmps.size)
    (hr : (execOp a.eval o).run P w = .ok (.value v) w) (hx : SRep γ lam x v) (hK : K (F.set d x) σ) : Good P o a w γ K :=
  ⟨_, w, γ, σ, F.set d x, lam, v, hr, .inl rfl, .refl γ, hi, by rw [hd]; exact hf.set hx hN, hK⟩

theorem run_underlying {t : TypeId} {u : TypeDesc} (h : P.underlying t = some u) : (underlying t).run P w = .ok u w := by
  simp [underlying, h]
theorem run_typeInfo {t : TypeId} {i : TypeInfo} (h : P.info? t = some i) : (typeInfo t).run P w = .ok i w := by
  simp [typeInfo, h]
theorem run_sizeOf {t : TypeId} {n : Nat} (h : szOf P t = some n) : (sizeOf t).run P w = .ok n w := by
  simp only [szOf, Option.map_eq_some_iff] at h
  obtain ⟨i, h1, rfl⟩ := h
  simp [sizeOf, run_typeInfo h1]
theorem run_isAgg {t : TypeId} {g : Bool} (h : aggOf P t = some g) : (isAgg t).run P w = .ok g w := by
  unfold aggOf at h
  unfold isAgg
  simp only [Sem.run_bind]
  cases hu : P.underlying t with
  | none => simp [hu] at h
  | some u =>
    rw [run_underlying hu]
    rw [hu] at h
    cases u <;> simp_all

variable (hi : INV γ σ w) (hf : FRep γ σ F a w lam) {o : Oper} {K : Fr → St → Prop}

theorem good_mv {s d : Nat} {x : Operand} {e : E} (hi : INV γ σ w) (hf : FRep γ σ F a w lam) (hop : o.op = .move x ∨ o.op = .assign x) (hd : o.dst = some d) (hN : d < a.tmps.size) (hc : compE s x = some e)
    (h : resK K ((O.mv d e).run F σ)) : Good P o a w γ K := by
  refine good_pure (v := a.eval x) hi hf hd hN ?_ (ev_rep hf hc) h
  rcases hop with h | h <;> simp [execOp, h]

theorem good_pk {d : Nat} {c x y : Operand} {ec ex ey : E} (hi : INV γ σ w) (hf : FRep γ σ F a w lam) (hop : o.op = .pick c x y) (hd : o.dst = some d) (hN : d < a.tmps.size)
    (hc : compE 0 c = some ec) (hx : compE 0 x = some ex) (hy : compE 0 y = some ey) (h : resK K ((O.pk d ec ex ey).run F σ)) : Good P o a w γ K := by
  have hv := va_rep hf hc
  simp only [O.run, pkB] at h
  change resK K (pkW d F σ (F.ev ex) (F.ev ey) (F.va ec)) at h
  cases hs : F.va ec with
  | bool b =>
    rw [hs] at h hv
    simp only [Rep] at hv
    cases b with
    | true => exact good_pure (v := a.eval x) hi hf hd hN (by simp [execOp, hop, hv, asBool]) (ev_rep hf hx) h
    | false => exact good_pure (v := a.eval y) hi hf hd hN (by simp [execOp, hop, hv, asBool]) (ev_rep hf hy) h
  | _ => rw [hs] at h; exact h.elim

theorem good_nc {d : Nat} {x : Operand} {e : E} (hi : INV γ σ w) (hf : FRep γ σ F a w lam) (hop : o.op = .nilCheck x) (hd : o.dst = some d) (hN : d < a.tmps.size)
    (hc : compE 0 x = some e) (h : resK K ((O.nc d e).run F σ)) : Good P o a w γ K := by
  have hv := ev_rep hf hc
  simp only [O.run] at h
  cases hs : F.ev e with
  | loc k q =>
    rw [hs] at h hv
    exact good_pure (v := a.eval x) hi hf hd hN (by simp only [SRep] at hv; simp [execOp, hop, hv]) hv h
  | v y =>
    rw [hs] at h hv
    cases y with
    | ptr p =>
      cases p with
      | none => exact h.elim
      | some p =>
        refine good_pure (v := a.eval x) hi hf hd hN ?_ hv h
        simp only [SRep, Rep] at hv
        obtain ⟨b, _, hv⟩ := hv
        simp [execOp, hop, hv]
    | elt r s es i q =>
      refine good_pure (v := a.eval x) hi hf hd hN ?_ hv h
      cases r <;> simp only [SRep, Rep] at hv
      · obtain ⟨_, _, hv, _⟩ := hv; simp [execOp, hop, hv]
      · obtain ⟨_, _, hv, _⟩ := hv; simp [execOp, hop, hv]
      · obtain ⟨_, hv, _⟩ := hv; simp [execOp, hop, hv]
    | fn f c =>
      refine good_pure (v := a.eval x) hi hf hd hN ?_ hv h
      simp only [SRep, Rep] at hv
      obtain ⟨vs, hv, _⟩ := hv
      simp [execOp, hop, hv]
    | _ => exact h.elim

theorem eqGuard_int {op : BinOp} {t : TypeId} {x y : Operand} {k k' : IntKind} {m n : Int} : (eqGuard op t x y (.int k m) (.int k' n)).run P w = .ok () w := by
  unfold eqGuard; cases op <;> simp
theorem eqGuard_str {op : BinOp} {t : TypeId} {x y : Operand} {m n : ByteArray} : (eqGuard op t x y (.string m) (.string n)).run P w = .ok () w := by
  unfold eqGuard; cases op <;> simp

theorem bytesLess_eq : ∀ a b : List UInt8, Op.bytesLess a b = strLess a b
  | _, [] => by simp [Op.bytesLess, strLess]
  | [], _ :: _ => rfl
  | x :: a, y :: b => by simp [Op.bytesLess, strLess, bytesLess_eq a b]

theorem beqI (m n : Int) : (m == n) = decide (m = n) := by by_cases h : m = n <;> simp [h]
theorem beqL (m n : List UInt8) : (m == n) = decide (m = n) := by by_cases h : m = n <;> simp [h]
theorem toList_mk (m : List UInt8) : (⟨m.toArray⟩ : ByteArray).toList = m := ByteArray.toList_mk m

theorem ibin_ok {d : Nat} {k : IntKind} {m n : Int} {op : BinOp} {t : TypeId} (h : resK K (ibin d F σ k m n op)) :
    ∃ v x, (binOp op t (.int k m) (.int k n)).run P w = .ok v w ∧ Rep γ x v ∧ K (F.set d (.v x)) σ := by
  cases op <;> simp only [ibin, resK] at h
  case add => exact ⟨_, _, by simp only [binOp, ne_eq, not_true_eq_false, if_false, Op.intArith]; rfl, by simp only [Rep], h⟩
  case sub => exact ⟨_, _, by simp only [binOp, ne_eq, not_true_eq_false, if_false, Op.intArith]; rfl, by simp only [Rep], h⟩
  case mul => exact ⟨_, _, by simp only [binOp, ne_eq, not_true_eq_false, if_false, Op.intArith]; rfl, by simp only [Rep], h⟩
  case quo => exact ⟨_, _, by simp only [binOp, ne_eq, not_true_eq_false, if_false, Op.intDiv, if_neg h.1]; rfl, by simp only [Rep], h.2⟩
  case rem => exact ⟨_, _, by simp only [binOp, ne_eq, not_true_eq_false, if_false, Op.intDiv, if_neg h.1]; rfl, by simp only [Rep], h.2⟩
  case and => exact ⟨_, _, by simp only [binOp, ne_eq, not_true_eq_false, if_false, Op.intBits]; rfl, by simp only [Rep, ibits], h⟩
  case or => exact ⟨_, _, by simp only [binOp, ne_eq, not_true_eq_false, if_false, Op.intBits]; rfl, by simp only [Rep, ibits], h⟩
  case xor => exact ⟨_, _, by simp only [binOp, ne_eq, not_true_eq_false, if_false, Op.intBits]; rfl, by simp only [Rep, ibits], h⟩
  case andNot => exact ⟨_, _, by simp only [binOp, ne_eq, not_true_eq_false, if_false, Op.intBits]; rfl, by simp only [Rep, ibits], h⟩
  case eql => exact ⟨.bool (decide (m = n)), _, by simp only [binOp, ne_eq, not_true_eq_false, if_false, Op.intCmp]; (by_cases e : m = n <;> simp [e]), by simp only [Rep], h⟩
  case neq => exact ⟨.bool (!decide (m = n)), _, by simp only [binOp, ne_eq, not_true_eq_false, if_false, Op.intCmp]; (by_cases e : m = n <;> simp [e]), by simp only [Rep], h⟩
  case lss => exact ⟨_, _, by simp only [binOp, ne_eq, not_true_eq_false, if_false, Op.intCmp]; rfl, by simp only [Rep], h⟩
  case leq => exact ⟨_, _, by simp only [binOp, ne_eq, not_true_eq_false, if_false, Op.intCmp]; rfl, by simp only [Rep], h⟩
  case gtr => exact ⟨_, _, by simp only [binOp, ne_eq, not_true_eq_false, if_false, Op.intCmp]; rfl, by simp only [Rep, GT.gt], h⟩
  case geq => exact ⟨_, _, by simp only [binOp, ne_eq, not_true_eq_false, if_false, Op.intCmp]; rfl, by simp only [Rep, GE.ge], h⟩

theorem iibin_ok {d : Nat} {k k' : IntKind} {m n : Int} {op : BinOp} {t : TypeId} (h : resK K (iibin d F σ op k m k' n)) :
    ∃ v x, (binOp op t (.int k m) (.int k' n)).run P w = .ok v w ∧ Rep γ x v ∧ K (F.set d (.v x)) σ := by
  by_cases hl : op = .shl
  · subst hl
    simp only [iibin, resK] at h
    have : ¬ n < 0 := by omega
    exact ⟨_, _, by simp only [binOp, Op.shift, if_neg this]; rfl, by simp only [Rep], h.2⟩
  by_cases hr : op = .shr
  · subst hr
    simp only [iibin, resK] at h
    have : ¬ n < 0 := by omega
    exact ⟨_, _, by simp only [binOp, Op.shift, if_neg this]; rfl, by simp only [Rep], h.2⟩
  by_cases hk : k = k'
  · subst hk
    have : iibin d F σ op k m k n = ibin d F σ k m n op := by cases op <;> simp_all [iibin]
    rw [this] at h
    exact ibin_ok h
  · have : iibin d F σ op k m k' n = .bad := by cases op <;> simp_all [iibin]
    rw [this] at h
    exact h.elim

theorem sbin_ok {d : Nat} {m n : List UInt8} {op : BinOp} (h : resK K (sbin d F σ m n op)) :
    ∃ v x, (Op.stringOp op ⟨m.toArray⟩ ⟨n.toArray⟩).run P w = .ok v w ∧ Rep γ x v ∧ K (F.set d (.v x)) σ := by
  cases op <;> simp only [sbin, resK] at h <;> (first
    | exact h.elim
    | exact ⟨_, _, by simp only [Op.stringOp, toList_mk, bytesLess_eq, beqL]; rfl, by simp only [Rep], h⟩
    | (refine ⟨.string ⟨(m ++ n).toArray⟩, _, ?_, ?_, h.2⟩
       · have h2 : ¬ (((m.length + n.length : Nat) : Int) > IntKind.i64.max) := by
           have : IntKind.i64.max = 9223372036854775807 := by decide
           omega
         have e1 : (⟨m.toArray⟩ : ByteArray).size = m.length := by simp [ByteArray.size]
         have e2 : (⟨n.toArray⟩ : ByteArray).size = n.length := by simp [ByteArray.size]
         have e3 : (⟨m.toArray⟩ : ByteArray) ++ ⟨n.toArray⟩ = ⟨(m ++ n).toArray⟩ := by
           apply ByteArray.ext; simp
         simp only [Op.stringOp, e1, e2, if_neg h2, e3]; rfl
       · simp only [Rep]))

theorem good_bi {d : Nat} {op : BinOp} {t u : TypeId} {x y : Operand} {ex ey : E} (hi : INV γ σ w) (hf : FRep γ σ F a w lam) (hop : o.op = .binOp op t x y u) (hd : o.dst = some d) (hN : d < a.tmps.size)
    (hx : compE 0 x = some ex) (hy : compE 0 y = some ey) (h : resK K ((O.bi d op ex ey).run F σ)) : Good P o a w γ K := by
  have vx := va_rep hf hx
  have vy := va_rep hf hy
  simp only [O.run] at h
  cases hsx : F.va ex with
  | int k m =>
    rw [hsx] at h vx
    cases hsy : F.va ey with
    | int k' n =>
      rw [hsy] at h vy
      simp only [Rep] at vx vy
      obtain ⟨v, z, h1, h2, h3⟩ := iibin_ok (P := P) (γ := γ) (w := w) (t := t) h
      exact good_pure hi hf hd hN (by simp [execOp, hop, vx, vy, eqGuard_int, h1]) (x := .v z) h2 h3
    | _ => rw [hsy] at h; exact h.elim
  | str m =>
    rw [hsx] at h vx
    cases hsy : F.va ey with
    | str n =>
      rw [hsy] at h vy
      simp only [Rep] at vx vy
      obtain ⟨v, z, h1, h2, h3⟩ := sbin_ok (P := P) (γ := γ) (w := w) h
      have hb : binOp op t (.string ⟨m.toArray⟩) (.string ⟨n.toArray⟩) = Op.stringOp op ⟨m.toArray⟩ ⟨n.toArray⟩ := by cases op <;> rfl
      exact good_pure hi hf hd hN (by simp [execOp, hop, vx, vy, eqGuard_str, hb, h1]) (x := .v z) h2 h3
    | _ => rw [hsy] at h; exact h.elim
  | _ => rw [hsx] at h; exact h.elim
end
end Go.VL

namespace Go.VL
open Go

def cellsAt (w : World) (b o : Nat) (vs : List Value) : Prop := ∀ (i : Nat) (v : Value), vs[i]? = some v → w.cell? ⟨b, o + i, none⟩ = some v

theorem add_none (b o n : Nat) : (⟨b, o, none⟩ : Addr).add n = ⟨b, o + n, none⟩ := by
  unfold Addr.add
  split
  · simp_all
  · rfl

theorem cell_of_heap {w : World} {b : Nat} {c : Array Value} {e : TypeId} {z : Nat × Nat} (h : w.heap[b]? = some (.cells c e z)) (o : Nat) : w.cell? ⟨b, o, none⟩ = c[o]? := by
  simp [World.cell?, h]

theorem run_loadCellsFrom {P : Program} {w : World} {b o : Nat} {vs : List Value} (h : cellsAt w b o vs) : ∀ (n i : Nat) (acc : Array Value), i + n ≤ vs.length →
    (loadCellsFrom ⟨b, o, none⟩ i n acc).run P w = .ok (acc ++ ((vs.drop i).take n).toArray) w
  | 0, i, acc, _ => by simp [loadCellsFrom]
  | n + 1, i, acc, hn => by
    have hlt : i < vs.length := by omega
    have h1 : vs[i]? = some vs[i] := List.getElem?_eq_getElem hlt
    have h2 := h i _ h1
    have ih := run_loadCellsFrom (P := P) h n (i + 1) (acc.push vs[i]) (by omega)
    simp only [loadCellsFrom, add_none, Sem.run_bind, run_load, h2, Result.andThen_ok, ih]
    rw [List.drop_eq_getElem_cons hlt, List.take_succ_cons]
    congr 1
    apply Array.ext'
    simp

theorem run_loadCells {P : Program} {w : World} {b o : Nat} {vs : List Value} (h : cellsAt w b o vs) {n : Nat} (hn : n ≤ vs.length) :
    (loadCells ⟨b, o, none⟩ n).run P w = .ok (vs.take n).toArray w := by
  rw [loadCells, run_loadCellsFrom h n 0 #[] (by omega)]
  simp

theorem RepL.length {γ : G} : ∀ {xs : List V} {vs : List Value}, RepL γ xs vs → xs.length = vs.length
  | [], vs, h => by simp only [RepL] at h; subst h; rfl
  | x :: xs, vs, h => by
    simp only [RepL] at h
    obtain ⟨v, ws, rfl, _, h3⟩ := h
    simp [RepL.length h3]
theorem RepL.take {γ : G} : ∀ {n : Nat} {xs : List V} {vs : List Value}, RepL γ xs vs → RepL γ (xs.take n) (vs.take n)
  | 0, _, _, _ => by simp [RepL]
  | n + 1, [], vs, h => by simp only [RepL] at h; subst h; simp [RepL]
  | n + 1, x :: xs, vs, h => by
    simp only [RepL] at h
    obtain ⟨v, ws, rfl, h2, h3⟩ := h
    simp only [List.take_succ_cons, RepL]
    exact ⟨v, _, rfl, h2, RepL.take h3⟩
theorem RepL.drop {γ : G} : ∀ {n : Nat} {xs : List V} {vs : List Value}, RepL γ xs vs → RepL γ (xs.drop n) (vs.drop n)
  | 0, _, _, h => by simpa using h
  | n + 1, [], vs, h => by simp only [RepL] at h; subst h; simp [RepL]
  | n + 1, x :: xs, vs, h => by
    simp only [RepL] at h
    obtain ⟨v, ws, rfl, h2, h3⟩ := h
    simp only [List.drop_succ_cons]
    exact RepL.drop h3
theorem RepL.append {γ : G} : ∀ {xs ys : List V} {vs us : List Value}, RepL γ xs vs → RepL γ ys us → RepL γ (xs ++ ys) (vs ++ us)
  | [], _, vs, _, h, k => by simp only [RepL] at h; subst h; simpa using k
  | x :: xs, _, vs, _, h, k => by
    simp only [RepL] at h
    obtain ⟨v, ws, rfl, h2, h3⟩ := h
    simp only [List.cons_append, RepL]
    exact ⟨v, _, rfl, h2, RepL.append h3 k⟩
theorem cellsAt.drop {w : World} {b o : Nat} {vs : List Value} (h : cellsAt w b o vs) (n : Nat) : cellsAt w b (o + n) (vs.drop n) := by
  intro i v hv
  rw [List.getElem?_drop] at hv
  have := h _ _ hv
  rw [show o + n + i = o + (n + i) from by omega]
  exact this
theorem cellsAt_heap {w : World} {b : Nat} {vs : List Value} {e : TypeId} {z : Nat × Nat} (h : w.heap[b]? = some (.cells vs.toArray e z)) : cellsAt w b 0 vs := by
  intro i v hv
  rw [cell_of_heap h]
  simpa using hv

section
variable {P : Program} {γ : G} {σ : St} {F : Fr} {a : Act} {w : World} {lam : Nat → Nat} {o : Oper} {K : Fr → St → Prop}

theorem ldC_ok {d n : Nat} {g : Bool} {t : TypeId} {b off : Nat} {vs : List Value} {cs : List V} (hc : cellsAt w b off vs) (hr : RepL γ cs vs) (hn : szOf P t = some n) (hg : aggOf P t = some g)
    (h : resK K (ldC d F σ cs n g)) : ∃ v x, (loadVar t ⟨b, off, none⟩).run P w = .ok v w ∧ Rep γ x v ∧ K (F.set d (.v x)) σ := by
  cases g with
  | true =>
    simp only [ldC, resK] at h
    obtain ⟨h1, h2⟩ := h
    have hlen : n ≤ vs.length := by
      have := hr.length
      simp only [List.length_take] at h1
      omega
    refine ⟨.agg (vs.take n).toArray, _, ?_, ?_, h2⟩
    · simp [loadVar, run_isAgg hg, run_sizeOf hn, run_loadCells hc hlen]
    · simp only [Rep]
      exact ⟨_, rfl, hr.take⟩
  | false =>
    cases cs with
    | nil => exact h.elim
    | cons x xs =>
      simp only [RepL] at hr
      obtain ⟨v, ws, rfl, h2, _⟩ := hr
      have hcell : w.cell? ⟨b, off, none⟩ = some v := by simpa using hc 0 v rfl
      refine ⟨v, x, ?_, h2, h⟩
      simp [loadVar, run_isAgg hg, hcell]

theorem RepE.get {γ : G} {s : Nat} : ∀ {es : List (List V)} {vs : List Value}, RepE γ s es vs → ∀ {i : Nat} {cs : List V}, es[i]? = some cs →
    ∃ ws, RepL γ cs ws ∧ cs.length = s ∧ ∀ (j : Nat) (v : Value), ws[j]? = some v → vs[i * s + j]? = some v
  | [], _, _, _, _, h => by simp at h
  | c :: es, vs, hr, i, cs, h => by
    simp only [RepE] at hr
    obtain ⟨ws, us, rfl, h2, h3, h4, _⟩ := hr
    cases i with
    | zero =>
      simp only [List.getElem?_cons_zero, Option.some.injEq] at h
      subst h
      refine ⟨ws, h3, h2, fun j v hv => ?_⟩
      have hj : j < ws.length := (List.getElem?_eq_some_iff.1 hv).1
      rw [Nat.zero_mul, Nat.zero_add, List.getElem?_append_left hj, hv]
    | succ i =>
      simp only [List.getElem?_cons_succ] at h
      obtain ⟨xs, k1, k2, k3⟩ := RepE.get h4 h
      refine ⟨xs, k1, k2, fun j v hv => ?_⟩
      have hl : ws.length = s := by rw [← h3.length, h2]
      have := k3 j v hv
      rw [List.getElem?_append_right (by rw [hl, Nat.succ_mul]; omega), hl]
      rw [show (i + 1) * s + j - s = i * s + j from by rw [Nat.succ_mul]; omega]
      exact this

theorem RepE.length {γ : G} {s : Nat} : ∀ {es : List (List V)} {vs : List Value}, RepE γ s es vs → vs.length = es.length * s
  | [], _, hr => by simp only [RepE] at hr; subst hr; simp
  | c :: es, vs, hr => by
    simp only [RepE] at hr
    obtain ⟨ws, us, rfl, h2, h3, h4, _⟩ := hr
    have := RepE.length h4
    have := h3.length
    simp only [List.length_append, List.length_cons, Nat.succ_mul]
    omega

/-- The cells of an element, wherever it lies. -/
theorem elt_cells (hi : INV γ σ w) {r : R} {s i q : Nat} {es : List (List V)} {v : Value} (hv : Rep γ (.elt r s es i q) v) (hrd : rd σ.live r) :
    ∃ b off ws, v = .pointer (some ⟨b, off, none⟩) ∧ cellsAt w b off ws ∧ RepL γ ((es[i]?.getD []).drop q) ws := by
  have view : ∀ r a, viewAt γ r s es a → σ.live[r]? = some true → i < es.length → ∃ ws, cellsAt w a.block (a.off + i * s + q) ws ∧ RepL γ ((es[i]?.getD []).drop q) ws := by
    intro r a ⟨a0, n, cap, es0, lo, h1, h2, h3, h4, h5, _⟩ hl hlt
    obtain ⟨a1, cap1, e1, _, _, _, _, _, c, e, z, vs, k1, k2, k3, _⟩ := hi.own r _ _ _ hl h1
    cases e1
    have hes : es[i]? = es0[lo + i]? := by
      rw [h3, List.getElem?_take, if_pos hlt, List.getElem?_drop]
    obtain ⟨cs, hcs⟩ : ∃ cs, es[i]? = some cs := ⟨_, List.getElem?_eq_getElem hlt⟩
    obtain ⟨ws, m1, m2, m3⟩ := k3.get (hes ▸ hcs)
    refine ⟨ws.drop q, ?_, ?_⟩
    · intro j v hv
      rw [List.getElem?_drop] at hv
      have := k2 _ _ (m3 _ _ hv)
      rw [h4, cell_of_heap k1, h5, ← this]
      congr 1
      rw [Nat.add_mul]
      omega
    · rw [hcs]
      exact m1.drop
  cases r with
  | pub =>
    simp only [Rep] at hv
    obtain ⟨a, vs, rfl, hlt, hp, hr⟩ := hv
    obtain ⟨cs, hcs⟩ : ∃ cs, es[i]? = some cs := ⟨_, List.getElem?_eq_getElem hlt⟩
    obtain ⟨ws, m1, m2, m3⟩ := hr.get hcs
    refine ⟨_, _, ws.drop q, rfl, ?_, by rw [hcs]; exact m1.drop⟩
    intro j v hv
    rw [List.getElem?_drop] at hv
    obtain ⟨c, e, z, k1, k2⟩ := hi.pub _ _ _ (hp _ _ (m3 _ _ hv))
    rw [cell_of_heap k1, ← k2]
    congr 1
    omega
  | own r =>
    simp only [Rep] at hv
    obtain ⟨a, cap, rfl, hlt, hva, hsp⟩ := hv
    obtain ⟨ws, k1, k2⟩ := view r a ⟨a, es.length, cap, es, 0, hva, by omega, by simp, rfl, by omega, hsp⟩ hrd hlt
    exact ⟨_, _, ws, rfl, k1, k2⟩
  | view r =>
    simp only [Rep] at hv
    obtain ⟨a, rfl, hlt, hva⟩ := hv
    obtain ⟨ws, k1, k2⟩ := view r a hva hrd hlt
    exact ⟨_, _, ws, rfl, k1, k2⟩

theorem resK_also {p : Prop} {r : Res} (h : resK K (r.also p)) : p ∧ resK K r := by
  cases r with
  | bad => exact h.elim
  | ok F σ => exact h
  | need q F σ => exact ⟨h.1.1, h.1.2, h.2⟩

/-- A read through an address that is at hand. -/
theorem ld_ok {d n : Nat} {g : Bool} {t : TypeId} {x : Operand} {e : E} (hi : INV γ σ w) (hf : FRep γ σ F a w lam)
    (hn : szOf P t = some n) (hg : aggOf P t = some g) (hc : compE 0 x = some e) (h : resK K (ldW d F σ n g (F.ev e))) :
    ∃ ad v y, a.eval x = .pointer (some ad) ∧ (loadVar t ad).run P w = .ok v w ∧ Rep γ y v ∧ K (F.set d (.v y)) σ := by
  have hv := ev_rep hf hc
  have fin : ∀ b off vs cs, a.eval x = .pointer (some ⟨b, off, none⟩) → cellsAt w b off vs → RepL γ cs vs → resK K (ldC d F σ cs n g) →
      ∃ ad v y, a.eval x = .pointer (some ad) ∧ (loadVar t ad).run P w = .ok v w ∧ Rep γ y v ∧ K (F.set d (.v y)) σ := by
    intro b off vs cs hx hcs hr hk
    obtain ⟨v, y, h1, h2, h3⟩ := ldC_ok (P := P) hcs hr hn hg hk
    exact ⟨_, v, y, hx, h1, h2, h3⟩
  cases hs : F.ev e with
  | loc k q =>
    rw [hs] at h hv
    simp only [ldW] at h
    cases hl : lget k F.l with
    | none => rw [hl] at h; exact h.elim
    | some cs =>
      rw [hl] at h
      obtain ⟨vs, ee, h1, h2⟩ := (hf.l k cs hl).cells
      exact fin _ _ _ _ hv (by simpa using (cellsAt_heap h1).drop q) h2.drop h
  | v y =>
    rw [hs] at h hv
    simp only [ldW] at h
    cases y with
    | ptr p =>
      cases p with
      | none => exact h.elim
      | some p =>
        simp only [ldV] at h
        simp only [SRep, Rep] at hv
        obtain ⟨b, hb, hv⟩ := hv
        cases ho : σ.objs[p.1]? with
        | none => rw [ho] at h; exact h.elim
        | some ob =>
          rw [ho] at h
          cases ob with
          | cells cs =>
            obtain ⟨_, _, vs, ee, h1, h2⟩ := hi.objs _ _ _ hb ho
            exact fin _ _ _ _ hv (by simpa using (cellsAt_heap h1).drop p.2) h2.drop h
          | row cap s cs =>
            obtain ⟨_, _, vs, c, ee, z, h1, h1', h2, _⟩ := hi.objs _ _ _ hb ho
            exact fin b p.2 (vs.drop p.2) (cs.drop p.2) hv (fun j v hj => by
              rw [cell_of_heap h1]
              exact h1' (p.2 + j) v (by rwa [List.getElem?_drop] at hj)) h2.drop h
          | _ => exact h.elim
    | elt r s es i q =>
      simp only [ldV] at h
      obtain ⟨hrd, h⟩ := resK_also h
      obtain ⟨b, off, ws, h1, h2, h3⟩ := elt_cells hi hv hrd
      exact fin _ _ _ _ h1 h2 h3 h
    | _ => exact h.elim

theorem good_ld {d n : Nat} {g : Bool} {t : TypeId} {x : Operand} {e : E} (hi : INV γ σ w) (hf : FRep γ σ F a w lam) (hop : o.op = .load t x) (hd : o.dst = some d) (hN : d < a.tmps.size)
    (hn : szOf P t = some n) (hg : aggOf P t = some g) (hc : compE 0 x = some e) (h : resK K ((O.ld d e n g).run F σ)) : Good P o a w γ K := by
  obtain ⟨ad, v, y, hx, h1, h2, h3⟩ := ld_ok (P := P) hi hf hn hg hc h
  exact good_pure hi hf hd hN (by simp [execOp, hop, hx, Instr.loadAt, Instr.sureAddr, h1]) (x := .v y) h2 h3
end
end Go.VL

namespace Go.VL
open Go

theorem fits_length : ∀ {lv : List LK} {a : List V}, fits lv a = true → lv.length = a.length
  | [], [], _ => rfl
  | [], _ :: _, h => by simp [fits] at h
  | _ :: _, [], h => by simp [fits] at h
  | _ :: r, _ :: t, h => by
    simp only [fits, Bool.and_eq_true] at h
    simp [fits_length h.2]
theorem fits_append : ∀ {l1 l2 : List LK} {a : List V}, fits (l1 ++ l2) a = true → fits l1 (a.take l1.length) = true ∧ fits l2 (a.drop l1.length) = true
  | [], _, _, h => by simpa [fits] using h
  | k :: r, l2, [], h => by simp [fits] at h
  | k :: r, l2, x :: t, h => by
    simp only [List.cons_append, fits, Bool.and_eq_true] at h
    have := fits_append h.2
    simp only [List.length_cons, List.take_succ_cons, List.drop_succ_cons, fits, Bool.and_eq_true]
    exact ⟨⟨h.1, this.1⟩, this.2⟩
theorem eqs_append : ∀ {a b c d : List V}, a.length = b.length → V.eqs (a ++ c) (b ++ d) = (V.eqs a b && V.eqs c d)
  | [], [], _, _, _ => by simp [V.eqs]
  | [], _ :: _, _, _, h => by simp at h
  | _ :: _, [], _, _, h => by simp at h
  | x :: a, y :: b, c, d, h => by
    simp only [List.cons_append, V.eqs]
    rw [eqs_append (by simpa using h), Bool.and_assoc]

section
variable {P : Program} {γ : G}

/-- A value out of its cells. -/
def pack (P : Program) (t : TypeId) (vs : List Value) : Value := match aggOf P t with
  | some true => .agg vs.toArray
  | _ => vs.headD undef

theorem run_part {w : World} {t : TypeId} {s off : Nat} {g : Bool} {xs : Array Value} (hs : szOf P t = some s) (hg : aggOf P t = some g) (h0 : 0 < s) (hl : off + s ≤ xs.size) :
    (part t xs off).run P w = .ok (pack P t ((xs.toList.drop off).take s)) w := by
  cases g with
  | true =>
    simp only [part, Sem.run_bind, run_isAgg hg, Result.andThen_ok, if_true, run_sizeOf hs, pack, hg, Sem.run_pure]
    congr 2
    apply Array.ext'
    simp only [Array.toList_extract]
    rw [List.extract_eq_take_drop]
    congr 1
    omega
  | false =>
    have hlt : off < xs.size := by omega
    simp only [part, Sem.run_bind, run_isAgg hg, Result.andThen_ok, Bool.false_eq_true, if_false, Array.getElem?_eq_getElem hlt, pack, hg, Sem.run_pure]
    congr 1
    obtain ⟨n, rfl⟩ : ∃ n, s = n + 1 := ⟨s - 1, by omega⟩
    rw [List.drop_eq_getElem_cons (by simpa using hlt), List.take_succ_cons]
    simp

theorem aggOf_some {t : TypeId} {u : TypeDesc} (h : P.underlying t = some u) : ∃ g, aggOf P t = some g := by
  unfold aggOf; rw [h]; cases u <;> simp

theorem leaves_agg {n : Nat} {t : TypeId} {lv : List LK} (h : leaves P n t = some lv) : ∃ g, aggOf P t = some g := by
  cases n with
  | zero => simp [leaves] at h
  | succ n =>
    simp only [leaves] at h
    cases hu : P.underlying t with
    | none => simp [hu] at h
    | some u => exact aggOf_some hu

theorem fits_one {k : LK} {a : List V} (h : fits [k] a = true) : ∃ x, a = [x] ∧ k.fits x = true := by
  cases a with
  | nil => simp [fits] at h
  | cons x t =>
    cases t with
    | nil => exact ⟨x, rfl, by simpa [fits] using h⟩
    | cons y t => simp [fits] at h

mutual
theorem eq_leaves (w : World) : ∀ (n : Nat) (t : TypeId) (lv : List LK), leaves P n t = some lv → ∀ (d : Nat), n ≤ d → ∀ (a b : List V) (vs us : List Value),
    fits lv a = true → fits lv b = true → RepL γ a vs → RepL γ b us → (Op.equalIn d t (pack P t vs) (pack P t us)).run P w = .ok (V.eqs a b) w
  | 0, _, _, h => by simp [leaves] at h
  | n + 1, t, lv, h => by
    intro d hd a b vs us fa fb ra rb
    obtain ⟨d, rfl⟩ : ∃ e, d = e + 1 := ⟨d - 1, by omega⟩
    simp only [leaves] at h
    cases hu : P.underlying t with
    | none => simp [hu] at h
    | some u =>
      rw [hu] at h
      cases u with
      | int k =>
        simp only [Option.some.injEq] at h
        subst h
        obtain ⟨x, rfl, hx⟩ := fits_one fa
        obtain ⟨y, rfl, hy⟩ := fits_one fb
        have hag : aggOf P t = some false := by simp [aggOf, hu]
        cases x <;> simp only [LK.fits, Bool.false_eq_true] at hx
        cases y <;> simp only [LK.fits, Bool.false_eq_true] at hy
        simp only [decide_eq_true_eq] at hx hy
        subst hx; subst hy
        simp only [RepL, Rep] at ra rb
        obtain ⟨_, _, rfl, rfl, rfl⟩ := ra
        obtain ⟨_, _, rfl, rfl, rfl⟩ := rb
        simp only [pack, hag, List.headD_cons, V.eqs, V.eq]
        rw [run_equalIn_int w d t _ _ _ _ hu, beqI]
        simp
      | bool =>
        simp only [Option.some.injEq] at h
        subst h
        obtain ⟨x, rfl, hx⟩ := fits_one fa
        obtain ⟨y, rfl, hy⟩ := fits_one fb
        have hag : aggOf P t = some false := by simp [aggOf, hu]
        cases x <;> simp only [LK.fits, Bool.false_eq_true] at hx
        cases y <;> simp only [LK.fits, Bool.false_eq_true] at hy
        simp only [RepL, Rep] at ra rb
        obtain ⟨_, _, rfl, rfl, rfl⟩ := ra
        obtain ⟨_, _, rfl, rfl, rfl⟩ := rb
        simp only [pack, hag, List.headD_cons, V.eqs, V.eq]
        rw [run_equalIn_bool' w d t _ _ hu]
        simp
      | string =>
        simp only [Option.some.injEq] at h
        subst h
        obtain ⟨x, rfl, hx⟩ := fits_one fa
        obtain ⟨y, rfl, hy⟩ := fits_one fb
        have hag : aggOf P t = some false := by simp [aggOf, hu]
        cases x <;> simp only [LK.fits, Bool.false_eq_true] at hx
        cases y <;> simp only [LK.fits, Bool.false_eq_true] at hy
        simp only [RepL, Rep] at ra rb
        obtain ⟨_, _, rfl, rfl, rfl⟩ := ra
        obtain ⟨_, _, rfl, rfl, rfl⟩ := rb
        simp only [pack, hag, List.headD_cons, V.eqs, V.eq]
        rw [run_equalIn_string w d t _ _ hu, toList_mk, toList_mk]
        simp
      | struct fs =>
        have hag : aggOf P t = some true := by simp [aggOf, hu]
        simp only at h
        split at h
        · simp at h
        · rename_i hst
          simp only [Bool.not_eq_true] at hst
          have hfs : P.underlying t = some (.struct (P.fieldsOf t)) := by simp [Program.fieldsOf, hu]
          have hfe : P.fieldsOf t = fs := by simp [Program.fieldsOf, hu]
          simp only [pack, hag]
          rw [run_equalIn_struct w d t _ _ hfs hst, hfe]
          have la := fits_length fa
          have lb := fits_length fb
          have l1 := ra.length
          have l2 := rb.length
          exact eq_leavesF w n 0 fs.toList lv h d (by omega) a b _ _ fa fb (by rw [List.drop_zero, la, l1, List.take_length]; exact ra) (by rw [List.drop_zero, lb, l2, List.take_length]; exact rb) (by simp; omega) (by simp; omega)
      | _ => simp at h
theorem eq_leavesF (w : World) : ∀ (n off : Nat) (fs : List Field) (lv : List LK), leavesF P n off fs = some lv → ∀ (d : Nat), n ≤ d → ∀ (a b : List V) (xs ys : Array Value),
    fits lv a = true → fits lv b = true → RepL γ a ((xs.toList.drop off).take lv.length) → RepL γ b ((ys.toList.drop off).take lv.length) → off + lv.length ≤ xs.size → off + lv.length ≤ ys.size →
    (Op.eqFields d xs ys fs).run P w = .ok (V.eqs a b) w
  | n, off, [], lv, h => by
    intro d _ a b xs ys fa fb _ _ _ _
    have : lv = [] := by cases n <;> simpa [leavesF] using h.symm
    subst this
    cases a <;> cases b <;> simp_all [fits, Op.eqFields, V.eqs]
  | 0, _, _ :: _, _, h => by simp [leavesF] at h
  | n + 1, off, f :: r, lv, h => by
    intro d hd a b xs ys fa fb ra rb hx hy
    simp only [leavesF] at h
    split at h
    · simp at h
    · rename_i hc
      simp only [Bool.or_eq_true, decide_eq_true_eq, not_or, ne_eq, Decidable.not_not] at hc
      obtain ⟨hn, ho⟩ := hc
      split at h
      · rename_i l1 s h1 h2
        split at h
        · simp at h
        · rename_i hls
          simp only [ne_eq, Decidable.not_not] at hls
          split at h
          · simp at h
          rename_i hs0
          have h0 : 0 < s := by omega
          simp only [Option.map_eq_some_iff] at h
          obtain ⟨l2, h3, rfl⟩ := h
          obtain ⟨g, hg⟩ := leaves_agg h1
          obtain ⟨f1, f2⟩ := fits_append fa
          obtain ⟨g1, g2⟩ := fits_append fb
          have la := fits_length fa
          have lb := fits_length fb
          simp only [List.length_append] at hx hy ra rb la lb
          have p1 := run_part (P := P) (w := w) h2 hg h0 (xs := xs) (off := off) (by omega)
          have p2 := run_part (P := P) (w := w) h2 hg h0 (xs := ys) (off := off) (by omega)
          have e1 := eq_leaves w n f.type l1 h1 d (by omega) (a.take l1.length) (b.take l1.length) _ _ f1 g1
            (by have := ra.take (n := l1.length); rw [List.take_take, show min l1.length (l1.length + l2.length) = s from by omega] at this; exact this)
            (by have := rb.take (n := l1.length); rw [List.take_take, show min l1.length (l1.length + l2.length) = s from by omega] at this; exact this)
          have e2 := eq_leavesF w n (off + s) r l2 h3 d (by omega) (a.drop l1.length) (b.drop l1.length) xs ys f2 g2
            (by have := ra.drop (n := l1.length); rw [List.drop_take, List.drop_drop, show l1.length + l2.length - l1.length = l2.length from by omega, hls] at this; rwa [hls])
            (by have := rb.drop (n := l1.length); rw [List.drop_take, List.drop_drop, show l1.length + l2.length - l1.length = l2.length from by omega, hls] at this; rwa [hls])
            (by omega) (by omega)
          have ea : V.eqs a b = (V.eqs (a.take l1.length) (b.take l1.length) && V.eqs (a.drop l1.length) (b.drop l1.length)) := by
            rw [← eqs_append (by simp; omega), List.take_append_drop, List.take_append_drop]
          simp only [Op.eqFields, ne_eq, hn, not_false_eq_true, if_true, Sem.run_bind, ho, p1, p2, Result.andThen_ok, e1, Sem.run_ite]
          rw [ea]
          cases V.eqs (a.take l1.length) (b.take l1.length) with
          | true => simp [e2]
          | false => simp
      · simp at h
end
end
end Go.VL

namespace Go.VL
open Go

section
variable {P : Program} {γ : G} {σ : St} {F : Fr} {a : Act} {w : World} {lam : Nat → Nat} {o : Oper} {K : Fr → St → Prop}

theorem eqGuard_pass {op : BinOp} {t : TypeId} {x y : Operand} {u v : Value} (h1 : ∀ cs, u ≠ .agg cs) (h2 : u ≠ .nilIface) : (eqGuard op t x y u v).run P w = .ok () w := by
  unfold eqGuard
  cases op <;> simp only [Bool.not_true, Bool.false_eq_true, if_false, Bool.not_false, if_true] <;> (first | rfl | (cases u <;> cases v <;> first | rfl | (exact absurd rfl h2) | (exact absurd rfl (h1 _))))

theorem maxDepth_succ : Op.maxDepth = 9999 + 1 := rfl

theorem good_bq {d : Nat} {ne : Bool} {k : EK} {op : BinOp} {t u : TypeId} {x y : Operand} {ex ey : E} {T : TypeDesc} (hi : INV γ σ w) (hf : FRep γ σ F a w lam) (hop : o.op = .binOp op t x y u) (hd : o.dst = some d)
    (hN : d < a.tmps.size) (hT : P.underlying t = some T)
    (hk : ekOf T = some k)
    (hne : (op = .eql ∧ ne = false) ∨ (op = .neq ∧ ne = true))
    (hx : compE 0 x = some ex) (hy : compE 0 y = some ey) (h : resK K ((O.bq d ne k ex ey).run F σ)) : Good P o a w γ K := by
  have vx := va_rep hf hx
  have vy := va_rep hf hy
  simp only [O.run] at h
  have fin : ∀ (b : Bool), (eqGuard op t x y (a.eval x) (a.eval y)).run P w = .ok () w → (Op.equal t (a.eval x) (a.eval y)).run P w = .ok b w →
      (∀ op', op = op' → (op' = .eql ∨ op' = .neq) → binOp op' t (a.eval x) (a.eval y) = match op' with | .neq => (do pure (.bool (!(← Op.equal t (a.eval x) (a.eval y))))) | _ => (do pure (.bool (← Op.equal t (a.eval x) (a.eval y))))) →
      K (F.set d (.v (.bool (bif ne then !b else b)))) σ → Good P o a w γ K := by
    intro b h1 h2 h3 h4
    refine good_pure (v := .bool (bif ne then !b else b)) hi hf hd hN ?_ (x := .v (.bool (bif ne then !b else b))) (by simp [SRep, Rep]) h4
    rcases hne with ⟨rfl, rfl⟩ | ⟨rfl, rfl⟩
    · simp [execOp, hop, h1, h3 .eql rfl (.inl rfl), h2]
    · simp [execOp, hop, h1, h3 .neq rfl (.inr rfl), h2]
  cases T <;> simp only [ekOf, Option.some.injEq, reduceCtorEq] at hk
  case bool =>
    subst hk
    cases hsx : F.va ex <;> rw [hsx] at h vx <;> (try exact h.elim)
    cases hsy : F.va ey <;> rw [hsy] at h vy <;> (try exact h.elim)
    rename_i p q
    simp only [Rep] at vx vy
    refine fin (p == q) (by rw [vx]; exact eqGuard_pass (by simp) (by simp)) ?_ ?_ h
    · rw [vx, vy, Op.equal, maxDepth_succ, run_equalIn_bool' w _ t _ _ hT]
    · intro op' _ ho
      rw [vx, vy]
      rcases ho with rfl | rfl <;> rfl
  case pointer e =>
    subst hk
    cases hsx : F.va ex <;> rw [hsx] at h vx <;> (try exact h.elim)
    cases hsy : F.va ey <;> rw [hsy] at h vy <;> (try exact h.elim)
    rename_i p q
    cases q with
    | some q => exact h.elim
    | none =>
      simp only [Rep] at vy
      have hp : ∃ z, a.eval x = .pointer z ∧ z.isNone = p.isNone := by
        cases p with
        | none => simp only [Rep] at vx; exact ⟨_, vx, rfl⟩
        | some p => simp only [Rep] at vx; obtain ⟨b, _, vx⟩ := vx; exact ⟨_, vx, rfl⟩
      obtain ⟨z, vx, hz⟩ := hp
      refine fin p.isNone (by rw [vx]; exact eqGuard_pass (by simp) (by simp)) ?_ ?_ h
      · rw [vx, vy, Op.equal, maxDepth_succ, Op.equalIn, ← hz]
        cases z <;> simp [run_underlying hT]
      · intro op' _ ho
        rw [vx, vy]
        rcases ho with rfl | rfl <;> cases z <;> rfl
  case slice e =>
    subst hk
    cases hsx : F.va ex <;> rw [hsx] at h vx <;> (try exact h.elim)
    cases hsy : F.va ey <;> rw [hsy] at h vy <;> (try exact h.elim)
    rename_i p1 p2 p3 p4 q1 q2 q3 q4
    cases q1 with
    | false => exact h.elim
    | true =>
      cases q4 with
      | cons _ _ => exact h.elim
      | nil =>
        simp only [Rep] at vy
        have hp : ∃ z n c, a.eval x = .slice z n c ∧ z.isNone = p1 := by
          cases p1 with
          | true => simp only [Rep] at vx; exact ⟨_, _, _, vx.2, rfl⟩
          | false =>
            cases p2 with
            | pub => simp only [Rep] at vx; obtain ⟨_, _, _, vx, _⟩ := vx; exact ⟨_, _, _, vx, rfl⟩
            | own r => simp only [Rep] at vx; obtain ⟨_, _, vx, _⟩ := vx; exact ⟨_, _, _, vx, rfl⟩
            | view r => simp only [Rep] at vx; obtain ⟨_, _, vx, _⟩ := vx; exact ⟨_, _, _, vx, rfl⟩
        obtain ⟨z, n, c, vx, hz⟩ := hp
        refine fin p1 (by rw [vx]; exact eqGuard_pass (by simp) (by simp)) ?_ ?_ h
        · rw [vx, vy.2, Op.equal, maxDepth_succ, Op.equalIn, ← hz]
          cases z <;> simp [run_underlying hT]
        · intro op' _ ho
          rw [vx, vy.2]
          rcases ho with rfl | rfl <;> rfl
  case map k e =>
    subst hk
    cases hsx : F.va ex <;> rw [hsx] at h vx <;> (try exact h.elim)
    cases hsy : F.va ey <;> rw [hsy] at h vy <;> (try exact h.elim)
    rename_i p q
    cases q with
    | some q => exact h.elim
    | none =>
      simp only [Rep] at vy
      have hp : ∃ z, a.eval x = .map z ∧ z.isNone = p.isNone := by
        cases p with
        | none => simp only [Rep] at vx; exact ⟨_, vx, rfl⟩
        | some p => simp only [Rep] at vx; obtain ⟨b, _, vx⟩ := vx; exact ⟨_, vx, rfl⟩
      obtain ⟨z, vx, hz⟩ := hp
      refine fin p.isNone (by rw [vx]; exact eqGuard_pass (by simp) (by simp)) ?_ ?_ h
      · rw [vx, vy, Op.equal, maxDepth_succ, Op.equalIn, ← hz]
        cases z <;> simp [run_underlying hT]
      · intro op' _ ho
        rw [vx, vy]
        rcases ho with rfl | rfl <;> rfl
  case func ps rs vv =>
    subst hk
    cases hsx : F.va ex <;> rw [hsx] at h vx <;> (try exact h.elim)
    all_goals cases hsy : F.va ey <;> rw [hsy] at h vy <;> (try exact h.elim)
    · simp only [Rep] at vx vy
      obtain ⟨vs, vx, _⟩ := vx
      refine fin false (by rw [vx]; exact eqGuard_pass (by simp) (by simp)) ?_ ?_ (by cases ne <;> exact h)
      · rw [vx, vy, Op.equal, maxDepth_succ, Op.equalIn]
        simp [run_underlying hT]
      · intro op' _ ho
        rw [vx, vy]
        rcases ho with rfl | rfl <;> rfl
    · simp only [Rep] at vx vy
      refine fin true (by rw [vx]; exact eqGuard_pass (by simp) (by simp)) ?_ ?_ (by cases ne <;> exact h)
      · rw [vx, vy, Op.equal, maxDepth_succ, Op.equalIn]
        simp [run_underlying hT]
      · intro op' _ ho
        rw [vx, vy]
        rcases ho with rfl | rfl <;> rfl

theorem good_be {d : Nat} {ne : Bool} {lv : List LK} {op : BinOp} {t u : TypeId} {x y : Operand} {ex ey : E} {fs : Array Field} (hi : INV γ σ w) (hf : FRep γ σ F a w lam) (hop : o.op = .binOp op t x y u) (hd : o.dst = some d)
    (hN : d < a.tmps.size) (hT : P.underlying t = some (.struct fs)) (hlv : leaves P 20 t = some lv) (hg : P.eqGuardType P.depth t = false) (hne : (op = .eql ∧ ne = false) ∨ (op = .neq ∧ ne = true))
    (hx : compE 0 x = some ex) (hy : compE 0 y = some ey) (h : resK K ((O.be d ne lv ex ey).run F σ)) : Good P o a w γ K := by
  have vx := va_rep hf hx
  have vy := va_rep hf hy
  simp only [O.run] at h
  cases hsx : F.va ex <;> rw [hsx] at h vx <;> (try exact h.elim)
  cases hsy : F.va ey <;> rw [hsy] at h vy <;> (try exact h.elim)
  rename_i p q
  simp only [beW, resK] at h
  simp only [Rep] at vx vy
  obtain ⟨vs, vx, rx⟩ := vx
  obtain ⟨us, vy, ry⟩ := vy
  have hag : aggOf P t = some true := by simp [aggOf, hT]
  have he := eq_leaves w 20 t lv hlv 10000 (by omega) p q vs us h.1.1 h.1.2 rx ry
  simp only [pack, hag] at he
  refine good_pure (v := .bool (bif ne then !(V.eqs p q) else V.eqs p q)) hi hf hd hN ?_ (x := .v (.bool (bif ne then !(V.eqs p q) else V.eqs p q))) (by simp [SRep, Rep]) h.2
  rcases hne with ⟨rfl, rfl⟩ | ⟨rfl, rfl⟩
  · simp [execOp, hop, vx, vy, run_eqGuard_agg w .eql t x y _ _ hg, run_eql_struct, he]
  · simp [execOp, hop, vx, vy, run_eqGuard_agg w .neq t x y _ _ hg, run_neq_struct, he]

theorem good_un {d : Nat} {op : UnOp} {t : TypeId} {x : Operand} {e : E} (hi : INV γ σ w) (hf : FRep γ σ F a w lam) (hop : o.op = .unOp op t x) (hd : o.dst = some d) (hN : d < a.tmps.size)
    (hc : compE 0 x = some e) (h : resK K ((O.un d op e).run F σ)) : Good P o a w γ K := by
  have hv := va_rep hf hc
  simp only [O.run] at h
  cases hs : F.va e <;> rw [hs] at h hv <;> (try exact h.elim)
  · rename_i k n
    simp only [Rep] at hv
    cases op <;> simp only [unW, resK] at h <;> (try exact h.elim)
    · exact good_pure (v := .int k (k.wrap (0 - n))) hi hf hd hN (by simp only [execOp, hop, hv, Op.unary, Op.intArith]; rfl) (x := .v _) (by simp [SRep, Rep]) h
    · exact good_pure (v := .int k (ibits .xor k (if k.signed then -1 else k.max) n)) hi hf hd hN (by simp only [execOp, hop, hv, Op.unary, Op.intBits]; rfl) (x := .v _) (by simp [SRep, Rep]) h
  · rename_i b
    simp only [Rep] at hv
    cases op <;> simp only [unW, resK] at h <;> (try exact h.elim)
    exact good_pure (v := .bool (!b)) hi hf hd hN (by simp only [execOp, hop, hv, Op.unary]; rfl) (x := .v _) (by simp [SRep, Rep]) h

theorem good_cI {d : Nat} {k k' : IntKind} {s t : TypeId} {x : Operand} {e : E} (hi : INV γ σ w) (hf : FRep γ σ F a w lam) (hop : o.op = .convert s t x) (hd : o.dst = some d) (hN : d < a.tmps.size)
    (hs : P.underlying s = some (.int k')) (ht : P.underlying t = some (.int k)) (hc : compE 0 x = some e) (h : resK K ((O.cI d k e).run F σ)) : Good P o a w γ K := by
  have hv := va_rep hf hc
  simp only [O.run] at h
  cases hsv : F.va e <;> rw [hsv] at h hv <;> (try exact h.elim)
  rename_i k2 n
  simp only [Rep] at hv
  exact good_pure (v := .int k (k.wrap n)) hi hf hd hN (by simp [execOp, hop, hv, convert, run_underlying hs, run_underlying ht, Conv.intToInt]) (x := .v _) (by simp [SRep, Rep]) h

theorem RepL.get {γ : G} : ∀ {xs : List V} {vs : List Value} {i : Nat} {x : V}, RepL γ xs vs → xs[i]? = some x → ∃ v, vs[i]? = some v ∧ Rep γ x v
  | [], _, _, _, _, h => by simp at h
  | y :: xs, vs, i, x, hr, h => by
    simp only [RepL] at hr
    obtain ⟨v, ws, rfl, h2, h3⟩ := hr
    cases i with
    | zero =>
      simp only [List.getElem?_cons_zero, Option.some.injEq] at h
      subst h
      exact ⟨v, rfl, h2⟩
    | succ i =>
      simp only [List.getElem?_cons_succ] at h ⊢
      exact RepL.get h3 h

theorem good_ex {d i : Nat} {x : Operand} {e : E} (hi : INV γ σ w) (hf : FRep γ σ F a w lam) (hop : o.op = .extract x i) (hd : o.dst = some d) (hN : d < a.tmps.size)
    (hc : compE 0 x = some e) (h : resK K ((O.ex d e i).run F σ)) : Good P o a w γ K := by
  have hv := va_rep hf hc
  simp only [O.run] at h
  cases hs : F.va e <;> rw [hs] at h hv <;> (try exact h.elim)
  rename_i vs
  simp only [exW] at h
  cases hg : vs[i]? with
  | none => rw [hg] at h; exact h.elim
  | some y =>
    rw [hg] at h
    simp only [Rep] at hv
    obtain ⟨us, hv, hr⟩ := hv
    obtain ⟨v, hu, hy⟩ := hr.get hg
    exact good_pure (v := v) hi hf hd hN (by simp [execOp, hop, hv, Instr.extract, hu]) (x := .v y) hy h

theorem ldC_val {d n : Nat} {g : Bool} {t : TypeId} {xs : List Value} {off : Nat} {cs : List V} (hr : RepL γ cs xs) (hn : szOf P t = some n) (hg : aggOf P t = some g)
    (h : resK K (ldC d F σ (cs.drop off) n g)) : ∃ v x, (part t xs.toArray off).run P w = .ok v w ∧ Rep γ x v ∧ K (F.set d (.v x)) σ := by
  cases g with
  | true =>
    simp only [ldC, resK] at h
    obtain ⟨h1, h2⟩ := h
    refine ⟨.agg ((xs.drop off).take n).toArray, _, ?_, ?_, h2⟩
    · simp only [part, Sem.run_bind, run_isAgg hg, Result.andThen_ok, if_true, run_sizeOf hn, Sem.run_pure]
      congr 2
      apply Array.ext'
      simp only [Array.toList_extract, List.extract_eq_take_drop]
      congr 1
      omega
    · simp only [Rep]
      exact ⟨_, rfl, hr.drop.take⟩
  | false =>
    cases hcs : cs.drop off with
    | nil => rw [hcs] at h; exact h.elim
    | cons x ys =>
      rw [hcs] at h
      have hd := hr.drop (n := off)
      rw [hcs] at hd
      simp only [RepL] at hd
      obtain ⟨v, ws, e, h2, _⟩ := hd
      have : xs[off]? = some v := by
        have h3 : (xs.drop off)[0]? = some v := by rw [e]; rfl
        rw [List.getElem?_drop] at h3
        simpa using h3
      refine ⟨v, x, ?_, h2, h⟩
      simp only [part, Sem.run_bind, run_isAgg hg, Result.andThen_ok, Bool.false_eq_true, if_false]
      simp [this]

theorem good_fd {d i : Nat} {t : TypeId} {x : Operand} {e : E} {fs : Array Field} {f : Field} {n : Nat} {g : Bool} (hi : INV γ σ w) (hf : FRep γ σ F a w lam) (hop : o.op = .field t x i) (hd : o.dst = some d) (hN : d < a.tmps.size)
    (hfs : P.underlying t = some (.struct fs)) (hfi : fs[i]? = some f) (hn : szOf P f.type = some n) (hg : aggOf P f.type = some g) (hc : compE 0 x = some e)
    (h : resK K ((O.fd d e f.offset n g).run F σ)) : Good P o a w γ K := by
  have hv := va_rep hf hc
  simp only [O.run] at h
  cases hs : F.va e <;> rw [hs] at h hv <;> (try exact h.elim)
  rename_i cs
  simp only [fdW] at h
  simp only [Rep] at hv
  obtain ⟨vs, hv, hr⟩ := hv
  obtain ⟨v, y, h1, h2, h3⟩ := ldC_val (P := P) (w := w) hr hn hg h
  exact good_pure (v := v) hi hf hd hN (by simp [execOp, hop, hv, Instr.field, run_underlying hfs, hfi, asAgg, h1]) (x := .v y) h2 h3
end
end Go.VL

namespace Go.VL
open Go

section
variable {P : Program} {γ : G} {σ : St} {F : Fr} {a : Act} {w : World} {lam : Nat → Nat} {o : Oper} {K : Fr → St → Prop}

theorem add_spot {a : Addr} (h : a.spot = none) (n : Nat) : a.add n = ⟨a.block, a.off + n, none⟩ := by
  obtain ⟨b, q, s⟩ := a
  simp only at h
  subst h
  exact add_none b q n

theorem good_fa {d i n : Nat} {t : TypeId} {x : Operand} {e : E} {fs : Array Field} {f : Field} (hi : INV γ σ w) (hf : FRep γ σ F a w lam) (hop : o.op = .fieldAddr t x i) (hd : o.dst = some d) (hN : d < a.tmps.size)
    (hfs : P.underlying t = some (.struct fs)) (hfi : fs[i]? = some f) (hn : szOf P f.type = some (n + 1)) (hc : compE 0 x = some e) (h : resK K ((O.fa d e f.offset).run F σ)) : Good P o a w γ K := by
  have hv := ev_rep hf hc
  simp only [O.run] at h
  have run : ∀ b q, a.eval x = .pointer (some ⟨b, q, none⟩) → (execOp a.eval o).run P w = .ok (.value (.pointer (some ⟨b, q + f.offset, none⟩))) w := by
    intro b q hx
    simp [execOp, hop, hx, Instr.fieldAt, run_underlying hfs, hfi, Instr.sureAddr, fieldPlace, run_sizeOf hn, add_none]
  cases hs : F.ev e with
  | loc k q =>
    rw [hs] at h hv
    exact good_pure hi hf hd hN (run _ _ hv) (x := .loc k (q + f.offset)) rfl h
  | v y =>
    rw [hs] at h hv
    cases y with
    | ptr p =>
      cases p with
      | none => exact h.elim
      | some p =>
        simp only [SRep, Rep] at hv
        obtain ⟨b, h1, hv⟩ := hv
        exact good_pure hi hf hd hN (run _ _ hv) (x := .v (.ptr (some (p.1, p.2 + f.offset)))) (by simp only [SRep, Rep]; exact ⟨b, h1, rfl⟩) h
    | elt r s es i q =>
      cases r with
      | pub =>
        simp only [SRep, Rep] at hv
        obtain ⟨b, vs, hv, h1, h2⟩ := hv
        exact good_pure hi hf hd hN (run _ _ hv) (x := .v (.elt .pub s es i (q + f.offset))) (by simp only [SRep, Rep]; exact ⟨b, vs, by rw [Nat.add_assoc], h1, h2⟩) h
      | own r =>
        simp only [SRep, Rep] at hv
        obtain ⟨b, cap, hv, h1, h2⟩ := hv
        exact good_pure hi hf hd hN (run _ _ hv) (x := .v (.elt (.own r) s es i (q + f.offset))) (by simp only [SRep, Rep]; exact ⟨b, cap, by rw [Nat.add_assoc], h1, h2⟩) h
      | view r =>
        simp only [SRep, Rep] at hv
        obtain ⟨b, hv, h1, h2⟩ := hv
        exact good_pure hi hf hd hN (run _ _ hv) (x := .v (.elt (.view r) s es i (q + f.offset))) (by simp only [SRep, Rep]; exact ⟨b, by rw [Nat.add_assoc], h1, h2⟩) h
    | _ => exact h.elim

theorem good_ia {d s : Nat} {t et : TypeId} {x ix : Operand} {ex ei : E} (hi : INV γ σ w) (hf : FRep γ σ F a w lam) (hop : o.op = .indexAddr t x ix) (hd : o.dst = some d) (hN : d < a.tmps.size)
    (ht : P.underlying t = some (.slice et)) (hs : szOf P et = some s) (hx : compE 0 x = some ex) (hy : compE 0 ix = some ei) (h : resK K ((O.ia d ex ei s).run F σ)) : Good P o a w γ K := by
  have vx := va_rep hf hx
  have vy := va_rep hf hy
  simp only [O.run] at h
  cases hsx : F.va ex <;> rw [hsx] at h vx <;> (try exact h.elim)
  case osl j m cp z =>
    cases hsy : F.va ei <;> rw [hsy] at h vy <;> (try exact h.elim)
    rename_i k n
    simp only [iaW, resK] at h
    obtain ⟨⟨h1, h2, rfl⟩, h⟩ := h
    simp only [Rep] at vy vx
    obtain ⟨b, hb, vx⟩ := vx
    refine good_pure hi hf hd hN (v := .pointer (some ⟨b, n.toNat * z, none⟩)) ?_ (x := .v (.ptr (some (j, n.toNat * z)))) (by simp only [SRep, Rep]; exact ⟨b, hb, rfl⟩) h
    have hsp : (⟨b, 0, none⟩ : Addr).spot = none := rfl
    simp [execOp, hop, vx, vy, Instr.indexAt, asIntOf, run_underlying ht, run_sizeOf hs, add_none, h1, h2]
  cases hsy : F.va ei <;> rw [hsy] at h vy <;> (try exact h.elim)
  rename_i b r s' es k n
  simp only [iaW, resK] at h
  obtain ⟨⟨h1, h2, rfl⟩, h⟩ := h
  simp only [Rep] at vy
  have run : ∀ (c : Addr) cap, a.eval x = .slice (some c) es.length cap → c.spot = none → (execOp a.eval o).run P w = .ok (.value (.pointer (some ⟨c.block, c.off + n.toNat * s' + 0, none⟩))) w := by
    intro c cap hx hsp
    simp [execOp, hop, hx, vy, Instr.indexAt, asIntOf, run_underlying ht, run_sizeOf hs, add_spot hsp, h1, h2]
  have hlt : n.toNat < es.length := by omega
  cases b with
  | true =>
    simp only [Rep] at vx
    rw [vx.1] at h2
    simp at h2
    omega
  | false =>
    cases r with
    | pub =>
      simp only [Rep] at vx
      obtain ⟨c, cap, vs, e1, e2, e3, e4, e5⟩ := vx
      have e2 : c.spot = none := by
        rcases e2 with e2 | e2
        · rw [e2] at hlt; simp at hlt
        · exact e2
      exact good_pure hi hf hd hN (run c cap e1 e2) (x := .v (.elt .pub s' es n.toNat 0)) (by simp only [SRep, Rep]; exact ⟨c, vs, rfl, hlt, e4, e5⟩) h
    | own r =>
      simp only [Rep] at vx
      obtain ⟨c, cap, e1, e2, e3, e4⟩ := vx
      refine good_pure hi hf hd hN (run c cap e1 e2) (x := .v (.elt (.own r) s' es n.toNat 0)) ?_ h
      simp only [SRep, Rep]
      exact ⟨c, cap, rfl, hlt, by rw [← e1]; exact e4, e2⟩
    | view r =>
      simp only [Rep] at vx
      obtain ⟨c, cap, e1, e2, e3, e4⟩ := vx
      rcases e4 with e4 | e4
      · rw [e4] at hlt; simp at hlt
      · exact good_pure hi hf hd hN (run c cap e1 e2) (x := .v (.elt (.view r) s' es n.toNat 0)) (by simp only [SRep, Rep]; exact ⟨c, rfl, hlt, e4⟩) h

theorem good_iA {d s len : Nat} {t et : TypeId} {x ix : Operand} {ex ei : E} (hi : INV γ σ w) (hf : FRep γ σ F a w lam) (hop : o.op = .indexAddr t x ix) (hd : o.dst = some d) (hN : d < a.tmps.size)
    (ht : P.underlying t = some (.array len et)) (hs : szOf P et = some s) (hx : compE 0 x = some ex) (hy : compE 0 ix = some ei) (h : resK K ((O.iA d ex ei s len).run F σ)) : Good P o a w γ K := by
  have hv := ev_rep hf hx
  have vy := va_rep hf hy
  simp only [O.run] at h
  cases hsy : F.va ei <;> rw [hsy] at h vy <;> (try exact h.elim)
  rename_i k n
  simp only [iAW] at h
  simp only [Rep] at vy
  have run : ∀ b q, a.eval x = .pointer (some ⟨b, q, none⟩) → 0 ≤ n ∧ n < (len : Int) → (execOp a.eval o).run P w = .ok (.value (.pointer (some ⟨b, q + n.toNat * s, none⟩))) w := by
    intro b q hx hb
    simp [execOp, hop, hx, vy, Instr.indexAt, asIntOf, run_underlying ht, run_sizeOf hs, Instr.sureAddr, add_none, hb.1, hb.2]
  cases hss : F.ev ex with
  | loc k q =>
    rw [hss] at h hv
    simp only [iAV, resK] at h
    exact good_pure hi hf hd hN (run _ _ hv h.1) (x := .loc k (q + n.toNat * s)) rfl h.2
  | v y =>
    rw [hss] at h hv
    cases y with
    | ptr p =>
      cases p with
      | none => exact h.elim
      | some p =>
        simp only [iAV, resK] at h
        simp only [SRep, Rep] at hv
        obtain ⟨b, h1, hv⟩ := hv
        exact good_pure hi hf hd hN (run _ _ hv h.1) (x := .v (.ptr (some (p.1, p.2 + n.toNat * s)))) (by simp only [SRep, Rep]; exact ⟨b, h1, rfl⟩) h.2
    | elt r s2 es i q =>
      simp only [iAV, resK] at h
      cases r with
      | pub =>
        simp only [SRep, Rep] at hv
        obtain ⟨b, vs, hv, h1, h2⟩ := hv
        exact good_pure hi hf hd hN (run _ _ hv h.1) (x := .v (.elt .pub s2 es i (q + n.toNat * s))) (by simp only [SRep, Rep]; exact ⟨b, vs, by rw [Nat.add_assoc], h1, h2⟩) h.2
      | own r =>
        simp only [SRep, Rep] at hv
        obtain ⟨b, cap, hv, h1, h2⟩ := hv
        exact good_pure hi hf hd hN (run _ _ hv h.1) (x := .v (.elt (.own r) s2 es i (q + n.toNat * s))) (by simp only [SRep, Rep]; exact ⟨b, cap, by rw [Nat.add_assoc], h1, h2⟩) h.2
      | view r =>
        simp only [SRep, Rep] at hv
        obtain ⟨b, hv, h1, h2⟩ := hv
        exact good_pure hi hf hd hN (run _ _ hv h.1) (x := .v (.elt (.view r) s2 es i (q + n.toNat * s))) (by simp only [SRep, Rep]; exact ⟨b, by rw [Nat.add_assoc], h1, h2⟩) h.2
    | _ => exact h.elim

theorem get_mk (m : List UInt8) (i : Nat) : (⟨m.toArray⟩ : ByteArray)[i]? = m[i]? := by
  by_cases h : i < m.length
  · have h2 : i < (⟨m.toArray⟩ : ByteArray).size := by simpa [ByteArray.size] using h
    rw [ByteArray.getElem?_lt' _ _ h2, List.getElem?_eq_getElem h]
    rfl
  · have h2 : ¬ i < (⟨m.toArray⟩ : ByteArray).size := by simpa [ByteArray.size] using h
    rw [ByteArray.getElem?_ge' _ _ h2, List.getElem?_eq_none (by omega)]

theorem good_ix {d : Nat} {t : TypeId} {x ix : Operand} {ex ei : E} (hi : INV γ σ w) (hf : FRep γ σ F a w lam) (hop : o.op = .index t x ix) (hd : o.dst = some d) (hN : d < a.tmps.size)
    (ht : P.underlying t = some .string) (hx : compE 0 x = some ex) (hy : compE 0 ix = some ei) (h : resK K ((O.ix d ex ei).run F σ)) : Good P o a w γ K := by
  have vx := va_rep hf hx
  have vy := va_rep hf hy
  simp only [O.run] at h
  cases hsx : F.va ex <;> rw [hsx] at h vx <;> (try exact h.elim)
  cases hsy : F.va ei <;> rw [hsy] at h vy <;> (try exact h.elim)
  rename_i s k n
  simp only [ixW, resK] at h
  obtain ⟨⟨h1, h2⟩, h⟩ := h
  simp only [Rep] at vx vy
  have hlt : n.toNat < s.length := by omega
  refine good_pure (v := .int .u8 (s[n.toNat]?.getD 0).toNat) hi hf hd hN ?_ (x := .v (.int .u8 (s[n.toNat]?.getD 0).toNat)) (by simp [SRep, Rep]) h
  simp [execOp, hop, vx, vy, Instr.index, asIntOf, run_underlying ht, h1, get_mk, hlt]

theorem good_mx {d : Nat} {c : Call} {x y : Operand} {ex ey : E} (hi : INV γ σ w) (hf : FRep γ σ F a w lam) (hop : o.op = .call c) (hcal : c.callee = .builtin .max) (hargs : c.args.toList = [x, y]) (hd : o.dst = some d)
    (hN : d < a.tmps.size) (hx : compE 0 x = some ex) (hy : compE 0 y = some ey) (h : resK K ((O.mx d ex ey).run F σ)) : Good P o a w γ K := by
  have vx := va_rep hf hx
  have vy := va_rep hf hy
  simp only [O.run] at h
  cases hsx : F.va ex <;> rw [hsx] at h vx <;> (try exact h.elim)
  cases hsy : F.va ey <;> rw [hsy] at h vy <;> (try exact h.elim)
  rename_i k m k' n
  simp only [Rep] at vx vy
  have ha : c.args = #[x, y] := by rw [← Array.toArray_toList (xs := c.args), hargs]
  exact good_pure (v := .int k (if n > m then n else m)) hi hf hd hN (by simp [execOp, hop, resolve, hcal, invoke, builtin, Builtin.max_, ha, vx, vy, Builtin.max2]) (x := .v (.int k (if n > m then n else m))) (by simp [SRep, Rep]) h

theorem good_mn {d : Nat} {c : Call} {x y : Operand} {ex ey : E} (hi : INV γ σ w) (hf : FRep γ σ F a w lam) (hop : o.op = .call c) (hcal : c.callee = .builtin .min) (hargs : c.args.toList = [x, y]) (hd : o.dst = some d)
    (hN : d < a.tmps.size) (hx : compE 0 x = some ex) (hy : compE 0 y = some ey) (h : resK K ((O.mn d ex ey).run F σ)) : Good P o a w γ K := by
  have vx := va_rep hf hx
  have vy := va_rep hf hy
  simp only [O.run] at h
  cases hsx : F.va ex <;> rw [hsx] at h vx <;> (try exact h.elim)
  cases hsy : F.va ey <;> rw [hsy] at h vy <;> (try exact h.elim)
  rename_i k m k' n
  simp only [Rep] at vx vy
  have ha : c.args = #[x, y] := by rw [← Array.toArray_toList (xs := c.args), hargs]
  exact good_pure (v := .int k (if n < m then n else m)) hi hf hd hN (by simp [execOp, hop, resolve, hcal, invoke, builtin, Builtin.min_, ha, vx, vy, Builtin.min2]) (x := .v (.int k (if n < m then n else m))) (by simp [SRep, Rep]) h

theorem good_mf {d : Nat} {f : FuncId} {first caps : Array Operand} {es : List E} (hi : INV γ σ w) (hf : FRep γ σ F a w lam) (hop : o.op = .makeFunc (.func f) first caps) (hfi : first.isEmpty = true) (hd : o.dst = some d)
    (hN : d < a.tmps.size) (hx : compEs 0 caps.toList = some es) (h : resK K ((O.mf d f es).run F σ)) : Good P o a w γ K := by
  have vx := vas_rep hf hx
  simp only [O.run] at h
  have hfi' : first = #[] := by simpa using hfi
  refine good_pure (v := .func (.func f) #[] (caps.map a.eval)) hi hf hd hN (by simp [execOp, hop, Instr.makeFunc, hfi']) (x := .v (.fn f (es.map F.va))) ?_ h
  simp only [SRep, Rep]
  exact ⟨caps.toList.map a.eval, by congr 1; apply Array.ext'; simp, vx⟩

theorem good_ln {d : Nat} {k : EK} {c : Call} {t : TypeId} {T : TypeDesc} {x : Operand} {ex : E} (hi : INV γ σ w) (hf : FRep γ σ F a w lam) (hop : o.op = .call c) (hcal : c.callee = .builtin .len) (hargs : c.args.toList = [x])
    (hty : c.argTypes[0]? = some t) (hT : P.underlying t = some T) (hk : (∃ e, T = .slice e ∧ k = .sl) ∨ (T = .string ∧ k = .fn) ∨ (∃ u e, T = .map u e ∧ k = .map)) (hd : o.dst = some d)
    (hN : d < a.tmps.size) (hx : compE 0 x = some ex) (h : resK K ((O.ln d k ex).run F σ)) : Good P o a w γ K := by
  have vx := va_rep hf hx
  simp only [O.run] at h
  have ha : c.args = #[x] := by rw [← Array.toArray_toList (xs := c.args), hargs]
  have run : ∀ n : Int, (Builtin.len_ c.argTypes o.type #[a.eval x]).run P w = .ok (.int .i64 n) w → (execOp a.eval o).run P w = .ok (.value (.int .i64 n)) w := by
    intro n hr
    simp [execOp, hop, resolve, hcal, invoke, builtin, ha, hr]
  rcases hk with ⟨e, rfl, rfl⟩ | ⟨rfl, rfl⟩ | ⟨u, e, rfl, rfl⟩
  · cases hsx : F.va ex <;> rw [hsx] at h vx <;> (try exact h.elim)
    case osl j m cp z =>
      simp only [lnW, resK] at h
      simp only [Rep] at vx
      obtain ⟨b, hb, vx⟩ := vx
      exact good_pure hi hf hd hN (run m (by simp [Builtin.len_, hty, run_underlying hT, vx, goInt])) (x := .v (.int .i64 m)) (by simp [SRep, Rep]) h
    rename_i b r s es
    simp only [lnW, resK] at h
    have hp : ∃ z cp, a.eval x = .slice z es.length cp := by
      cases b with
      | true => simp only [Rep] at vx; exact ⟨_, _, by rw [vx.2, vx.1]; rfl⟩
      | false =>
        cases r with
        | pub => simp only [Rep] at vx; obtain ⟨_, _, _, vx, _⟩ := vx; exact ⟨_, _, vx⟩
        | own r => simp only [Rep] at vx; obtain ⟨_, _, vx, _⟩ := vx; exact ⟨_, _, vx⟩
        | view r => simp only [Rep] at vx; obtain ⟨_, _, vx, _⟩ := vx; exact ⟨_, _, vx⟩
    obtain ⟨z, cp, hz⟩ := hp
    exact good_pure hi hf hd hN (run es.length (by simp [Builtin.len_, hty, run_underlying hT, hz, goInt])) (x := .v (.int .i64 es.length)) (by simp [SRep, Rep]) h
  · cases hsx : F.va ex <;> rw [hsx] at h vx <;> (try exact h.elim)
    rename_i s
    simp only [lnW, resK] at h
    simp only [Rep] at vx
    have hsz : (⟨s.toArray⟩ : ByteArray).size = s.length := by simp [ByteArray.size]
    exact good_pure hi hf hd hN (run s.length (by simp only [Builtin.len_, hty, vx, List.getElem?_toArray, List.getElem?_cons_zero, Sem.run_bind, run_underlying hT, Result.andThen_ok, Sem.run_pure, goInt, hsz])) (x := .v (.int .i64 s.length)) (by simp [SRep, Rep]) h
  · cases hsx : F.va ex <;> rw [hsx] at h vx <;> (try exact h.elim)
    rename_i p
    cases p with
    | none =>
      simp only [lnW, resK] at h
      simp only [Rep] at vx
      exact good_pure hi hf hd hN (run 0 (by simp [Builtin.len_, hty, run_underlying hT, vx, goInt])) (x := .v (.int .i64 0)) (by simp [SRep, Rep]) h
    | some i =>
      simp only [lnW] at h
      simp only [Rep] at vx
      obtain ⟨b, hb, vx⟩ := vx
      cases ho : σ.objs[i]? with
      | none => rw [ho] at h; exact h.elim
      | some ob =>
        rw [ho] at h
        cases ob with
        | mp lv es ver =>
          simp only [lnO, resK] at h
          obtain ⟨_, _, ents, clock, h1, h2, h3, h4, _⟩ := hi.objs _ _ _ hb ho
          have hl : ∀ (es : List (V × V)) (ms : List MapEntry), RepM γ lv es ms → es.length = ms.length := by
            intro es
            induction es with
            | nil => intro ms hm; simp only [RepM] at hm; subst hm; rfl
            | cons p r ih => intro ms hm; obtain ⟨e, t, rfl, _, _, _, h5⟩ := hm; simp [ih t h5]
          exact good_pure hi hf hd hN (run es.length (by simp [Builtin.len_, hty, run_underlying hT, vx, goInt, getObj, Sem.run, h1, hl es ents h4])) (x := .v (.int .i64 es.length)) (by simp [SRep, Rep]) h
        | _ => exact h.elim
end
end Go.VL

namespace Go.VL
open Go

section
variable {P : Program} {γ : G} {σ : St} {F : Fr} {a : Act} {w : World} {lam : Nat → Nat} {o : Oper} {K : Fr → St → Prop}

theorem RepE.drop {s : Nat} : ∀ {n : Nat} {es : List (List V)} {vs : List Value}, RepE γ s es vs → RepE γ s (es.drop n) (vs.drop (n * s))
  | 0, _, _, h => by simpa using h
  | n + 1, [], vs, h => by simp only [RepE] at h; subst h; simp [RepE]
  | n + 1, c :: es, vs, h => by
    simp only [RepE] at h
    obtain ⟨ws, us, rfl, h2, h3, h4, h5⟩ := h
    have hl : ws.length = s := by rw [← h3.length, h2]
    simp only [List.drop_succ_cons]
    have e1 : ws.drop ((n + 1) * s) = [] := List.drop_eq_nil_of_le (by rw [hl, Nat.succ_mul]; omega)
    rw [List.drop_append, e1, List.nil_append, hl, show (n + 1) * s - s = n * s from by rw [Nat.succ_mul]; omega]
    exact RepE.drop h4
theorem RepE.take {s : Nat} : ∀ {n : Nat} {es : List (List V)} {vs : List Value}, RepE γ s es vs → RepE γ s (es.take n) (vs.take (n * s))
  | 0, _, _, _ => by simp [RepE]
  | n + 1, [], vs, h => by simp only [RepE] at h; subst h; simp [RepE]
  | n + 1, c :: es, vs, h => by
    simp only [RepE] at h
    obtain ⟨ws, us, rfl, h2, h3, h4, h5⟩ := h
    have hl : ws.length = s := by rw [← h3.length, h2]
    simp only [List.take_succ_cons, RepE]
    refine ⟨ws, us.take (n * s), ?_, h2, h3, RepE.take h4, h5⟩
    have e1 : ws.take ((n + 1) * s) = ws := List.take_of_length_le (by rw [hl, Nat.succ_mul]; omega)
    rw [List.take_append, e1, hl, show (n + 1) * s - s = n * s from by rw [Nat.succ_mul]; omega]
theorem RepE.append {s : Nat} : ∀ {es ds : List (List V)} {vs us : List Value}, RepE γ s es vs → RepE γ s ds us → RepE γ s (es ++ ds) (vs ++ us)
  | [], _, vs, _, h, k => by simp only [RepE] at h; subst h; simpa using k
  | c :: es, _, vs, _, h, k => by
    simp only [RepE] at h
    obtain ⟨ws, us, rfl, h2, h3, h4, h5⟩ := h
    simp only [List.cons_append, RepE]
    exact ⟨ws, _, by rw [List.append_assoc], h2, h3, RepE.append h4 k, h5⟩
theorem RepE.flat {s : Nat} : ∀ {es : List (List V)} {vs : List Value}, RepE γ s es vs → RepL γ es.flatten vs ∧ ∀ c ∈ es, c.length = s
  | [], vs, h => by simp only [RepE] at h; subst h; simp [RepL]
  | c :: es, vs, h => by
    simp only [RepE] at h
    obtain ⟨ws, us, rfl, h2, h3, h4, h5⟩ := h
    obtain ⟨k1, k2⟩ := RepE.flat h4
    simp only [List.flatten_cons]
    exact ⟨h3.append k1, fun x hx => by
      rcases List.mem_cons.1 hx with rfl | hx
      · exact h2
      · exact k2 x hx⟩
theorem RepE.one {s : Nat} : ∀ {es : List (List V)} {vs : List Value}, RepE γ s es vs → ∀ v ∈ vs, v.oneCell' = true
  | [], vs, h => by simp only [RepE] at h; subst h; simp
  | c :: es, vs, h => by
    simp only [RepE] at h
    obtain ⟨ws, us, rfl, h2, h3, h4, h5⟩ := h
    intro v hv
    rcases List.mem_append.1 hv with hv | hv
    · exact h5 v hv
    · exact RepE.one h4 v hv
theorem pubAt.drop {b q : Nat} {vs : List Value} (h : pubAt γ b q vs) (n : Nat) : pubAt γ b (q + n) (vs.drop n) := by
  intro i v hv
  rw [List.getElem?_drop] at hv
  rw [show q + n + i = q + (n + i) from by omega]
  exact h _ _ hv
theorem pubAt.take {b q : Nat} {vs : List Value} (h : pubAt γ b q vs) (n : Nat) : pubAt γ b q (vs.take n) := by
  intro i v hv
  rw [List.getElem?_take] at hv
  split at hv
  · exact h _ _ hv
  · simp at hv

/-- A bound of a slice expression. -/
theorem run_bound {v : Value} {x : V} (hx : Rep γ x v) {p : Prop} {n m : Nat} {c : BoundsCode} (h : bndN m (some x) = some (p, n)) (hp : p) {y : Nat} (hy : n ≤ y) : (Instr.sliceBound v y c).run P w = .ok n w := by
  cases x <;> simp only [bndN, reduceCtorEq, Option.some.injEq, Prod.mk.injEq] at h
  rename_i k i
  simp only [Rep] at hx
  subst hx
  obtain ⟨rfl, rfl⟩ := h
  have h1 : 0 ≤ i ∧ i ≤ (y : Int) := ⟨hp, by omega⟩
  simp [Instr.sliceBound, asIntOf, h1]

theorem vaO_rep (h : FRep γ σ F a w lam) {x : Option Operand} {e : Option E} (hc : compEO 0 x = some e) :
    (x = none ∧ F.vaO e = none) ∨ ∃ y z, x = some y ∧ F.vaO e = some z ∧ Rep γ z (a.eval y) := by
  cases x with
  | none =>
    simp only [compEO, Option.some.injEq] at hc
    subst hc
    exact .inl ⟨rfl, rfl⟩
  | some y =>
    simp only [compEO, Option.map_eq_some_iff] at hc
    obtain ⟨e', h1, rfl⟩ := hc
    exact .inr ⟨y, F.va e', rfl, rfl, va_rep h h1⟩

theorem run_bounds (hf : FRep γ σ F a w lam) {lo hi : Option Operand} {el eh : Option E} (hl : compEO 0 lo = some el) (hh : compEO 0 hi = some eh) {isS : Bool} {len cap : Nat} (hlc : len ≤ cap)
    {p q : Prop} {l m : Nat} (h1 : bnd0 (F.vaO el) = some (p, l)) (h2 : bndN len (F.vaO eh) = some (q, m)) (hp : p) (hq : q) (hlm : l ≤ m) (hml : m ≤ len) :
    (Instr.sliceBounds isS len cap (lo.map a.eval) (hi.map a.eval) none).run P w = .ok (l, m, cap) w := by
  rcases vaO_rep hf hl with ⟨rfl, e1⟩ | ⟨y, z, rfl, e1, r1⟩ <;> rcases vaO_rep hf hh with ⟨rfl, e2⟩ | ⟨y2, z2, rfl, e2, r2⟩
  · rw [e1] at h1; rw [e2] at h2
    simp only [bnd0, bndN, Option.some.injEq, Prod.mk.injEq] at h1 h2
    simp [Instr.sliceBounds, ← h1.2, ← h2.2]
  · rw [e1] at h1; rw [e2] at h2
    simp only [bnd0, Option.some.injEq, Prod.mk.injEq] at h1
    cases isS <;> simp [Instr.sliceBounds, ← h1.2, run_bound (P := P) (w := w) r2 h2 hq (show m ≤ cap by omega)]
  · rw [e1] at h1; rw [e2] at h2
    simp only [bndN, Option.some.injEq, Prod.mk.injEq] at h2
    simp only [bnd0] at h1
    simp [Instr.sliceBounds, h2.2, run_bound (P := P) (w := w) r1 h1 hp hlm]
  · rw [e1] at h1; rw [e2] at h2
    simp only [bnd0] at h1
    cases isS <;> simp [Instr.sliceBounds, run_bound (P := P) (w := w) r2 h2 hq (show m ≤ cap by omega), run_bound (P := P) (w := w) r1 h1 hp hlm]

theorem good_ss {d : Nat} {t : TypeId} {x : Operand} {lo hi : Option Operand} {ex : E} {el eh : Option E} (hi' : INV γ σ w) (hf : FRep γ σ F a w lam) (hop : o.op = .slice t x lo hi none) (hd : o.dst = some d) (hN : d < a.tmps.size)
    (ht : P.underlying t = some .string) (hx : compE 0 x = some ex) (hl : compEO 0 lo = some el) (hh : compEO 0 hi = some eh) (h : resK K ((O.ss d ex el eh).run F σ)) : Good P o a w γ K := by
  have vx := va_rep hf hx
  simp only [O.run] at h
  cases hsx : F.va ex <;> rw [hsx] at h vx <;> (try exact h.elim)
  rename_i s
  simp only [ssW, ssB] at h
  simp only [Rep] at vx
  cases h1 : bnd0 (F.vaO el) with
  | none => rw [h1] at h; exact h.elim
  | some p =>
    cases h2 : bndN s.length (F.vaO eh) with
    | none => rw [h1, h2] at h; exact h.elim
    | some q =>
      rw [h1, h2] at h
      simp only [resK] at h
      obtain ⟨⟨k1, k2, k3, k4⟩, h⟩ := h
      have hsz : (⟨s.toArray⟩ : ByteArray).size = s.length := by simp [ByteArray.size]
      have hb := run_bounds (P := P) (w := w) (isS := false) hf hl hh (Nat.le_refl s.length) h1 h2 k1 k2 k3 k4
      have hex : (⟨s.toArray⟩ : ByteArray).extract p.2 q.2 = ⟨((s.take q.2).drop p.2).toArray⟩ := by
        apply ByteArray.ext
        rw [ByteArray.data_extract]
        apply Array.ext'
        simp only [Array.toList_extract, List.extract_eq_take_drop, List.drop_take]
      refine good_pure (v := .string ⟨((s.take q.2).drop p.2).toArray⟩) hi' hf hd hN ?_ (x := .v (.str ((s.take q.2).drop p.2))) (by simp [SRep, Rep]) h
      simp only [execOp, hop, Instr.sliceAt, Instr.slice, Sem.run_bind, run_underlying ht, Result.andThen_ok, vx, hsz, Option.map_none, Option.isSome_none, Bool.false_eq_true, if_false, hb, hex, Sem.run_pure]

theorem good_sl {d n : Nat} {t et : TypeId} {x : Operand} {lo hi : Option Operand} {ex : E} {el eh : Option E} (hi' : INV γ σ w) (hf : FRep γ σ F a w lam) (hop : o.op = .slice t x lo hi none) (hd : o.dst = some d) (hN : d < a.tmps.size)
    (ht : P.underlying t = some (.slice et)) (hn : szOf P et = some n) (hx : compE 0 x = some ex) (hl : compEO 0 lo = some el) (hh : compEO 0 hi = some eh) (h : resK K ((O.sl d n ex el eh).run F σ)) : Good P o a w γ K := by
  have vx := va_rep hf hx
  simp only [O.run] at h
  cases hsx : F.va ex <;> rw [hsx] at h vx <;> (try exact h.elim)
  rename_i b r s es
  simp only [slW, slB] at h
  cases h1 : bnd0 (F.vaO el) with
  | none => rw [h1] at h; exact h.elim
  | some p =>
    cases h2 : bndN es.length (F.vaO eh) with
    | none => rw [h1, h2] at h; exact h.elim
    | some q =>
      rw [h1, h2] at h
      simp only [resK] at h
      obtain ⟨⟨k0, k1, k2, k3, k4⟩, h⟩ := h
      have hlen : ((es.take q.2).drop p.2).length = q.2 - p.2 := by simp; omega
      have run : ∀ (z : Option Addr) cap, a.eval x = .slice z es.length cap → es.length ≤ cap →
          (execOp a.eval o).run P w = .ok (.value (.slice (if cap = p.2 then z else z.map (·.add (p.2 * n))) (q.2 - p.2) (cap - p.2))) w := by
        intro z cap hz hc
        have hb := run_bounds (P := P) (w := w) (isS := true) hf hl hh hc h1 h2 k1 k2 k3 k4
        simp only [execOp, hop, Instr.sliceAt, Instr.slice, Sem.run_bind, run_underlying ht, Result.andThen_ok, hz, Option.map_none, hb, run_sizeOf hn, Sem.run_pure]
      cases b with
      | true =>
        simp only [Rep] at vx
        obtain ⟨rfl, vx⟩ := vx
        simp only [List.length_nil, Nat.le_zero_eq] at k4
        have hp0 : p.2 = 0 := by omega
        refine good_pure hi' hf hd hN (run none 0 (by rw [vx]; rfl) (by simp)) (x := .v (.sl true r.toView s (([] : List (List V)).take q.2 |>.drop p.2))) ?_ h
        simp [SRep, Rep, k4, hp0]
      | false =>
        have hsn : s = n := by rcases k0 with k0 | k0; exact absurd k0 (by simp); exact k0
        subst hsn
        have view : ∀ (c : Addr) cap, a.eval x = .slice (some c) es.length cap → c.spot = none → es.length ≤ cap → ∃ c' : Addr, (execOp a.eval o).run P w = .ok (.value (.slice (some c') ((es.take q.2).drop p.2).length (cap - p.2))) w ∧ c'.spot = none ∧
            ((es.take q.2).drop p.2 = [] ∨ (c'.block = c.block ∧ c'.off = c.off + p.2 * s)) := by
          intro c cap e1 e2 e3
          by_cases hc : cap = p.2
          · refine ⟨c, ?_, e2, .inl ?_⟩
            · rw [run _ _ e1 e3, hlen]; simp [hc]
            · apply List.eq_nil_of_length_eq_zero; omega
          · refine ⟨⟨c.block, c.off + p.2 * s, none⟩, ?_, rfl, .inr ⟨rfl, rfl⟩⟩
            rw [run _ _ e1 e3, hlen]; simp [hc, add_spot e2]
        cases r with
        | pub =>
          simp only [Rep] at vx
          obtain ⟨c, cap, vs, e1, e2, e3, e4, e5⟩ := vx
          by_cases hes : es = []
          · subst hes
            have hp0 : p.2 = 0 := by simp at k4; omega
            have hq0 : q.2 = 0 := by simp at k4; omega
            have hr := run _ _ e1 e3
            refine good_pure hi' hf hd hN hr (x := .v (.sl false .pub s ((([] : List (List V)).take q.2).drop p.2))) ?_ h
            simp only [SRep, Rep]
            refine ⟨c, cap - p.2, [], ?_, .inl (by simp), by simp, fun i v hv => by simp at hv, by simp [RepE]⟩
            simp [hp0, hq0, Addr.add]
          have e2 : c.spot = none := e2.resolve_left hes
          obtain ⟨c', hr, hsp, hc'⟩ := view c cap e1 e2 e3
          refine good_pure hi' hf hd hN hr (x := .v (.sl false .pub s ((es.take q.2).drop p.2))) ?_ h
          simp only [SRep, Rep]
          rcases hc' with hc' | ⟨hb, ho⟩
          · exact ⟨c', _, [], rfl, .inr hsp, by omega, fun i v hv => by simp at hv, by rw [hc']; simp [RepE]⟩
          · exact ⟨c', _, _, rfl, .inr hsp, by omega, by rw [hb, ho]; exact (e4.take (q.2 * s)).drop (p.2 * s), (e5.take).drop⟩
        | own r =>
          simp only [Rep] at vx
          obtain ⟨c, cap, e1, e2, e3, e4⟩ := vx
          obtain ⟨c', hr, hsp, hc'⟩ := view c cap e1 e2 e3
          refine good_pure hi' hf hd hN hr (x := .v (.sl false (.view r) s ((es.take q.2).drop p.2))) ?_ h
          simp only [SRep, Rep]
          refine ⟨c', _, rfl, hsp, by omega, hc'.imp id fun ⟨hb, ho⟩ => ?_⟩
          refine ⟨c, es.length, cap, es, p.2, by rw [← e1]; exact e4, by omega, ?_, hb, ho, hsp⟩
          rw [hlen, List.drop_take]
        | view r =>
          simp only [Rep] at vx
          obtain ⟨c, cap, e1, e2, e3, e4⟩ := vx
          obtain ⟨c', hr, hsp, hc'⟩ := view c cap e1 e2 e3
          refine good_pure hi' hf hd hN hr (x := .v (.sl false (.view r) s ((es.take q.2).drop p.2))) ?_ h
          simp only [SRep, Rep]
          refine ⟨c', _, rfl, hsp, by omega, ?_⟩
          rcases hc' with hc' | ⟨hb, ho⟩
          · exact .inl hc'
          · rcases e4 with e4 | ⟨a0, n0, cap0, es0, lo0, f1, f2, f3, f4, f5, f6⟩
            · left; rw [e4]; simp
            · right
              refine ⟨a0, n0, cap0, es0, lo0 + p.2, f1, by omega, ?_, by rw [hb, f4], by rw [ho, f5, Nat.add_mul]; omega, hsp⟩
              rw [hlen]
              conv => lhs; rw [f3]
              rw [List.take_take, List.drop_take, List.drop_drop]
              congr 1
              omega

theorem bytes_cells {s : List UInt8} : ∀ {vs : List Value}, RepE γ 1 (bytesV s) vs → vs = (s.map fun b => (b.toNat : Int)).map (Value.int .u8) := by
  induction s with
  | nil => intro vs h; simpa [bytesV, RepE] using h
  | cons b t ih =>
    intro vs h
    simp only [bytesV, List.map_cons, RepE] at h
    obtain ⟨ws, us, rfl, _, h3, h4, _⟩ := h
    simp only [RepL, Rep] at h3
    obtain ⟨v, ws', rfl, rfl, rfl⟩ := h3
    rw [ih h4]
    rfl
theorem foldl_bytes (s : List UInt8) : ∀ r : ByteArray, (s.map fun b => (b.toNat : Int)).foldl (fun r n => r.push (UInt8.ofNat n.toNat)) r = ⟨(r.data.toList ++ s).toArray⟩ := by
  induction s with
  | nil => intro r; simp
  | cons b t ih =>
    intro r
    simp only [List.map_cons, List.foldl_cons]
    rw [ih]
    congr 1
    apply Array.ext'
    simp

/-- All elements of a slice lie in a row. -/
theorem sl_cells (hi : INV γ σ w) {r : R} {s : Nat} {es : List (List V)} {v : Value} (hv : Rep γ (.sl false r s es) v) (hrd : rd σ.live r) :
    ∃ (c : Addr) (cap : Nat) (vs : List Value), v = .slice (some c) es.length cap ∧ (es = [] ∨ c.spot = none) ∧ es.length ≤ cap ∧ cellsAt w c.block c.off vs ∧ RepE γ s es vs := by
  cases r with
  | pub =>
    simp only [Rep] at hv
    obtain ⟨c, cap, vs, e1, e2, e3, e4, e5⟩ := hv
    refine ⟨c, cap, vs, e1, e2, e3, ?_, e5⟩
    intro i x hx
    obtain ⟨_, _, _, k1, k2⟩ := hi.pub _ _ _ (e4 _ _ hx)
    rw [cell_of_heap k1, k2]
  | own r =>
    simp only [Rep] at hv
    obtain ⟨c, cap, e1, e2, e3, e4⟩ := hv
    obtain ⟨c1, cap1, f1, _, _, _, _, _, c2, _, _, vs, k1, k2, k3, _⟩ := hi.own r _ _ _ hrd e4
    rw [e1] at f1
    cases f1
    refine ⟨c, cap, vs, e1, .inr e2, e3, ?_, k3⟩
    intro i x hx
    rw [cell_of_heap k1]
    exact k2 _ _ hx
  | view r =>
    simp only [Rep] at hv
    obtain ⟨c, cap, e1, e2, e3, e4⟩ := hv
    rcases e4 with e4 | ⟨a0, n0, cap0, es0, lo0, f1, f2, f3, f4, f5, f6⟩
    · exact ⟨c, cap, [], e1, .inr e2, e3, fun i x hx => by simp at hx, by rw [e4]; simp [RepE]⟩
    · obtain ⟨c1, cap1, g1, _, _, _, _, _, c2, _, _, vs, k1, k2, k3, _⟩ := hi.own r _ _ _ hrd f1
      cases g1
      refine ⟨c, cap, (vs.drop (lo0 * s)).take (es.length * s), e1, .inr e2, e3, ?_, ?_⟩
      · intro i x hx
        rw [List.getElem?_take] at hx
        split at hx
        · rw [List.getElem?_drop] at hx
          rw [f4, cell_of_heap k1, f5, ← k2 _ _ hx]
          congr 1
          omega
        · simp at hx
      · have := (k3.drop (n := lo0)).take (n := es.length)
        rw [← f3] at this
        exact this

theorem good_cS {d : Nat} {s t et : TypeId} {x : Operand} {ex : E} (hi : INV γ σ w) (hf : FRep γ σ F a w lam) (hop : o.op = .convert s t x) (hd : o.dst = some d) (hN : d < a.tmps.size)
    (t1 : P.underlying s = some (.slice et)) (t2 : P.underlying et = some (.int .u8)) (ht : P.underlying t = some .string) (hx : compE 0 x = some ex)
    (h : resK K ((O.cS d ex).run F σ)) : Good P o a w γ K := by
  have vx := va_rep hf hx
  simp only [O.run] at h
  cases hsx : F.va ex <;> rw [hsx] at h vx <;> (try exact h.elim)
  · rename_i m
    simp only [cSW, resK] at h
    simp only [Rep] at vx
    refine good_pure (v := .string ⟨m.toArray⟩) hi hf hd hN ?_ (x := .v (.str m)) (by simp [SRep, Rep]) h
    simp [execOp, hop, vx, convert, run_underlying t1, run_underlying ht]
  · rename_i b r n es
    simp only [cSW, resK] at h
    obtain ⟨⟨h1, h2⟩, h⟩ := h
    generalize hm : es.map byteOfC = m at h h2
    cases b with
    | true =>
      simp only [Rep] at vx
      obtain ⟨rfl, vx⟩ := vx
      simp only [List.map_nil] at hm
      subst hm
      refine good_pure (v := .string .empty) hi hf hd hN ?_ (x := .v (.str [])) (by simp only [SRep, Rep]; rfl) h
      simp [execOp, hop, vx, run_convert_bytes_string w s t et none 0 0 t1 t2 ht, Conv.bytesToString]
    | false =>
      have h1' : rd σ.live r ∧ n = 1 := by rcases h1 with h1 | h1; exact absurd h1 (by simp); exact h1
      obtain ⟨hrd, rfl⟩ := h1'
      obtain ⟨c, cap, vs, e1, e2, e3, e4, e5⟩ := sl_cells hi vx hrd
      have hlen : es.length = vs.length := by rw [e5.length]; omega
      have hvs : vs = (m.map fun b => (b.toNat : Int)).map (Value.int .u8) := bytes_cells (by rw [← h2]; exact e5)
      refine good_pure (v := .string ⟨m.toArray⟩) hi hf hd hN ?_ (x := .v (.str m)) (by simp [SRep, Rep]) h
      have hl : (loadCells c es.length).run P w = .ok ((m.map fun b => (b.toNat : Int)).map (Value.int .u8)).toArray w := by
        rcases e2 with e2 | e2
        · have hv0 : vs = [] := by apply List.eq_nil_of_length_eq_zero; rw [e5.length, e2]; simp
          rw [← hvs, hv0, e2]
          simp [loadCells, loadCellsFrom]
        obtain ⟨cb, co, cs⟩ := c
        simp only at e2
        subst e2
        rw [run_loadCells e4 (by omega), List.take_of_length_le (by omega), hvs]
      have := run_bytesToString w c es.length cap _ hl
      rw [foldl_bytes, show ByteArray.empty.data.toList = [] from rfl, List.nil_append] at this
      simp [execOp, hop, e1, run_convert_bytes_string w s t et (some c) es.length cap t1 t2 ht, this]

theorem good_cT {d : Nat} {s t : TypeId} {x : Operand} {ex : E} (hi : INV γ σ w) (hf : FRep γ σ F a w lam) (hop : o.op = .convert s t x) (hd : o.dst = some d) (hN : d < a.tmps.size)
    (hs : P.underlying s = some .string) (ht : P.underlying t = some .string) (hx : compE 0 x = some ex) (h : resK K ((O.cT d ex).run F σ)) : Good P o a w γ K := by
  have vx := va_rep hf hx
  simp only [O.run] at h
  cases hsx : F.va ex <;> rw [hsx] at h vx <;> (try exact h.elim)
  rename_i m
  simp only [cTW, resK] at h
  simp only [Rep] at vx
  exact good_pure (v := .string ⟨m.toArray⟩) hi hf hd hN (by simp [execOp, hop, vx, convert, run_underlying hs, run_underlying ht]) (x := .v (.str m)) (by simp [SRep, Rep]) h
end
end Go.VL

namespace Go.VL
open Go

section
variable {P : Program} {γ : G} {σ : St} {F : Fr} {a : Act} {w w' : World} {lam : Nat → Nat} {o : Oper} {K : Fr → St → Prop}

theorem heap_push (w : World) (x : Obj) : ({ w with heap := w.heap.push x } : World).heap[w.heap.size]? = some x := by simp

theorem Free.mono {live : List Bool} {b : Nat} (h : Free γ σ b) (hsub : ∀ (r : Nat), live[r]? = some true → σ.live[r]? = some true) : Free γ ⟨σ.objs, live⟩ b :=
  ⟨h.phi, h.pub, h.mu, fun r v s es h1 h2 => h.own r v s es (hsub r h1) h2⟩

theorem lam_lt (h : FRep γ σ F a w lam) {k : Nat} {cs : List V} (hk : lget k F.l = some cs) : lam k < w.heap.size := by
  obtain ⟨vs, e, h1, _⟩ := (h.l k cs hk).cells
  exact lt_of_heap h1

theorem FRep.newL (hi : INV γ σ w) (h : FRep γ σ F a w lam) (hb : But none w w') {b : Nat} (hlt : w.heap.size ≤ b) {d : Nat} {cs : List V} {vs : List Value} {e : TypeId}
    (hc : w'.heap[b]? = some (.cells vs.toArray e (0, 0))) (hr : RepL γ cs vs) (hd : d < a.tmps.size) :
    FRep γ σ (F.newL d cs) (a.put (some d) (.pointer (some ⟨b, 0, none⟩))) w' (fun k => if k = d then b else lam k) := by
  have h' := h.step hb
  have hfr := hi.free_new hlt
  refine ⟨fun t => ?_, fun k cs' hk => ?_, fun k k' cs1 cs2 h1 h2 he => ?_⟩
  · simp only [Fr.newL, sget_sset, Act.put, getD_set _ _ _ _ hd, sget_sdrop]
    by_cases e : t = d
    · simp [e, SRep]
    · simp only [e, if_false]
      have := h.s t
      cases hs : sget t F.s with
      | v x => rw [hs] at this; exact this
      | loc k q =>
        rw [hs] at this
        simp only
        by_cases hk : k = d
        · subst hk; simp [SRep, Rep]
        · simp only [beqF hk, cond_false, SRep, if_neg hk]
          exact this
  · simp only [Fr.newL, lget_lset] at hk
    by_cases e : k = d
    · subst e
      simp only [if_true, Option.some.injEq] at hk
      subst hk
      simp only [if_true]
      exact ⟨⟨vs, _, hc, hr⟩, hfr.phi, hfr.pub, hfr.mu, hfr.own⟩
    · simp only [e, if_false] at hk ⊢
      exact h'.l k cs' hk
  · simp only [Fr.newL, lget_lset] at h1 h2
    by_cases e1 : k = d <;> by_cases e2 : k' = d
    · rw [e1, e2]
    · simp only [e1, e2, if_true, if_false] at h2 he
      exact absurd (lam_lt h h2) (by omega)
    · simp only [e1, e2, if_true, if_false] at h1 he
      exact absurd (lam_lt h h1) (by omega)
    · simp only [e1, e2, if_false] at h1 h2 he
      exact h.inj k k' _ _ h1 h2 he

/-- A new object. -/
theorem INV.newObj (h : INV γ σ w) (hb : But none w w') {b : Nat} (hlt : w.heap.size ≤ b) {sn : Nat → Nat → Option (List MapEntry × Nat)}
    (hs : ∀ (c n : Nat) x, γ.snap c n = some x → sn c n = some x) (hs2 : ∀ c n, c ≠ b → sn c n = γ.snap c n) {ob : AObj}
    (ho : ORep { γ with mu := γ.mu ++ [b], snap := sn } w' b ob) : INV { γ with mu := γ.mu ++ [b], snap := sn } ⟨σ.objs ++ [ob], σ.live⟩ w' ∧ Le γ { γ with mu := γ.mu ++ [b], snap := sn } := by
  have h' := h.step hb
  have hfr := h.free_new hlt
  have hmu : ∀ (i c : Nat), γ.mu[i]? = some c → (γ.mu ++ [b])[i]? = some c := fun i c hi => by
    rw [List.getElem?_append_left (List.getElem?_eq_some_iff.1 hi).1]; exact hi
  have hle : LeR γ { γ with mu := γ.mu ++ [b], snap := sn } := ⟨hmu, fun _ _ x => x, fun _ _ _ x => x⟩
  have hsz : b < w'.heap.size := by obtain ⟨x, hx⟩ := ho.heap; exact lt_of_heap hx
  refine ⟨⟨h'.os, h'.tape, h'.out, h'.phi, h'.pub, by simp [h.mulen], ?_, ?_, h.rholen, ?_, ?_, h.apart, h'.drn⟩, ⟨hle, fun _ _ => rfl, rfl, hs, rfl, rfl, rfl, rfl⟩⟩
  · intro i c o h1 h2
    by_cases hi : i < γ.mu.length
    · have k1 : γ.mu[i]? = some c := by rwa [List.getElem?_append_left hi] at h1
      have k2 : σ.objs[i]? = some o := by rwa [List.getElem?_append_left (by rw [← h.mulen]; exact hi)] at h2
      obtain ⟨p1, p2, p3⟩ := h'.objs _ _ _ k1 k2
      have hne : c ≠ b := by
        intro e; subst e
        obtain ⟨_, _, q3⟩ := h.objs _ _ _ k1 k2
        obtain ⟨x, hx⟩ := q3.heap
        exact absurd (lt_of_heap hx) (by omega)
      exact ⟨p1, p2, p3.but (k := w'.heap.size) (.refl _ _) (by obtain ⟨x, hx⟩ := p3.heap; have := lt_of_heap hx; omega) hle (fun n => hs2 c n hne) hs⟩
    · have : i = γ.mu.length := by
        have := (List.getElem?_eq_some_iff.1 h1).1
        simp only [List.length_append, List.length_cons, List.length_nil] at this
        omega
      subst this
      rw [List.getElem?_append_right (Nat.le_refl _)] at h1
      rw [h.mulen, List.getElem?_append_right (Nat.le_refl _)] at h2
      simp only [Nat.sub_self, List.getElem?_cons_zero, Option.some.injEq] at h1 h2
      subst h1; subst h2
      exact ⟨hfr.phi, hfr.pub, ho⟩
  · intro i j c h1 h2
    have bnd : ∀ (i : Nat), (γ.mu ++ [b])[i]? = some c → (i < γ.mu.length ∧ γ.mu[i]? = some c) ∨ (i = γ.mu.length ∧ c = b) := by
      intro i hi
      by_cases hl : i < γ.mu.length
      · left; exact ⟨hl, by rwa [List.getElem?_append_left hl] at hi⟩
      · right
        have : i = γ.mu.length := by
          have := (List.getElem?_eq_some_iff.1 hi).1
          simp only [List.length_append, List.length_cons, List.length_nil] at this
          omega
        subst this
        rw [List.getElem?_append_right (Nat.le_refl _)] at hi
        simp only [Nat.sub_self, List.getElem?_cons_zero, Option.some.injEq] at hi
        exact ⟨rfl, hi.symm⟩
    rcases bnd i h1 with ⟨_, k1⟩ | ⟨rfl, e1⟩ <;> rcases bnd j h2 with ⟨_, k2⟩ | ⟨rfl, e2⟩
    · exact h.inj _ _ _ k1 k2
    · subst e2; exact absurd (mem_of_get k1) hfr.mu
    · subst e1; exact absurd (mem_of_get k2) hfr.mu
    · rfl
  · intro r v s es h1 h2
    have ho' := h'.own _ _ _ _ h1 h2
    have hne := hfr.own _ _ _ _ h1 h2
    refine ho'.but (k := w'.heap.size) (.refl _ _) ?_ hle ?_
    · obtain ⟨a, cap, rfl, _, _, _, _, _, c, _, _, _, h7, _⟩ := ho'
      simp only [blockOf, ne_eq, Option.some.injEq]
      have := lt_of_heap h7
      omega
    · obtain ⟨a, cap, rfl, _, _, h3, h4, h5, _⟩ := ho'
      intro c hc
      simp only [blockOf, Option.some.injEq] at hc hne
      subst hc
      exact ⟨h3, h4, by simp only [List.mem_append, List.mem_singleton, not_or]; exact ⟨h5, fun e => hne (by rw [e])⟩⟩
  · intro c n x hx
    by_cases e : c = b
    · subst e; exact hsz
    · exact h'.snapb c n x (by rw [← hs2 c n e]; exact hx)

theorem FRep.newObj (h : FRep γ σ F a w lam) (hb : But none w w') {b : Nat} (hlt : w.heap.size ≤ b) {sn : Nat → Nat → Option (List MapEntry × Nat)} {objs : List AObj} :
    FRep { γ with mu := γ.mu ++ [b], snap := sn } ⟨objs, σ.live⟩ F a w' lam := by
  have h' := h.step hb
  have hle : LeR γ { γ with mu := γ.mu ++ [b], snap := sn } := ⟨fun i c hi => by
    show (γ.mu ++ [b])[i]? = some c
    rw [List.getElem?_append_left (List.getElem?_eq_some_iff.1 hi).1]; exact hi, fun _ _ x => x, fun _ _ _ x => x⟩
  refine ⟨fun t => (h.s t).mono hle, fun k cs hk => ?_, h.inj⟩
  have hl := h'.l k cs hk
  have := lam_lt h hk
  obtain ⟨vs, e, h1, h2⟩ := hl.cells
  exact ⟨⟨vs, e, h1, RepL.mono hle _ _ h2⟩, hl.phi, hl.pub, by
    show lam k ∉ γ.mu ++ [b]
    simp only [List.mem_append, List.mem_singleton, not_or]; exact ⟨hl.mu, by omega⟩, hl.own⟩

/-- A new right: of the one block that has changed. -/
theorem INV.right (h : INV γ σ w) {k : Nat} (hb : But (some k) w w') {live : List Bool} (hll : live.length = σ.live.length) (hsub : ∀ (r : Nat), live[r]? = some true → σ.live[r]? = some true)
    (hf : Free γ ⟨σ.objs, live⟩ k) {v : Value} {s : Nat} {es : List (List V)} {f : Bool} (ho : f = true → blockOf v = some k ∧ OwnAt { γ with rho := γ.rho ++ [(v, s, es)] } w' v s es) :
    INV { γ with rho := γ.rho ++ [(v, s, es)] } ⟨σ.objs, live ++ [f]⟩ w' ∧ Le γ { γ with rho := γ.rho ++ [(v, s, es)] } := by
  have h0 : INV γ ⟨σ.objs, live⟩ w := ⟨h.os, h.tape, h.out, h.phi, h.pub, h.mulen, h.objs, h.inj, by rw [h.rholen, hll], fun r v s es h1 h2 => h.own r v s es (hsub r h1) h2, h.snapb,
    fun r r' v s es v' s' es' b h1 h2 => h.apart r r' v s es v' s' es' b (hsub r h1) (hsub r' h2), h.drn⟩
  have h' := h0.but hb hf
  have hle : LeR γ { γ with rho := γ.rho ++ [(v, s, es)] } := ⟨fun _ _ x => x, fun i c hi => by
    show (γ.rho ++ [(v, s, es)])[i]? = some c
    rw [List.getElem?_append_left (List.getElem?_eq_some_iff.1 hi).1]; exact hi, fun _ _ _ x => x⟩
  have hlen : γ.rho.length = live.length := by rw [h.rholen, hll]
  have part : ∀ (r : Nat) (x : Value × Nat × List (List V)), (live ++ [f])[r]? = some true → (γ.rho ++ [(v, s, es)])[r]? = some x →
      (live[r]? = some true ∧ γ.rho[r]? = some x) ∨ (r = live.length ∧ f = true ∧ x = (v, s, es)) := by
    intro r x h1 h2
    by_cases hr : r < live.length
    · left
      rw [List.getElem?_append_left hr] at h1
      rw [List.getElem?_append_left (by omega)] at h2
      exact ⟨h1, h2⟩
    · right
      have : r = live.length := by
        have := (List.getElem?_eq_some_iff.1 h1).1
        simp only [List.length_append, List.length_cons, List.length_nil] at this
        omega
      subst this
      rw [List.getElem?_append_right (Nat.le_refl _)] at h1
      rw [← hlen, List.getElem?_append_right (Nat.le_refl _)] at h2
      simp only [Nat.sub_self, List.getElem?_cons_zero, Option.some.injEq] at h1 h2
      exact ⟨rfl, h1, h2.symm⟩
  refine ⟨⟨h'.os, h'.tape, h'.out, h'.phi, h'.pub, h'.mulen, ?_, h'.inj, by simp [h.rholen, hll], ?_, h'.snapb, ?_, h'.drn⟩, ⟨hle, fun _ _ => rfl, rfl, fun _ _ _ x => x, rfl, rfl, rfl, rfl⟩⟩
  · intro i b o h1 h2
    obtain ⟨p1, p2, p3⟩ := h'.objs _ _ _ h1 h2
    exact ⟨p1, p2, p3.but (k := w'.heap.size) (.refl _ _) (by obtain ⟨x, hx⟩ := p3.heap; have := lt_of_heap hx; omega) hle (fun _ => rfl) (fun _ _ _ x => x)⟩
  · intro r v2 s2 es2 h1 h2
    rcases part r _ h1 h2 with ⟨k1, k2⟩ | ⟨_, k2, k3⟩
    · have ho' := h'.own _ _ _ _ k1 k2
      refine ho'.but (k := w'.heap.size) (.refl _ _) ?_ hle ?_
      · obtain ⟨a, cap, rfl, _, _, _, _, _, c, _, _, _, h7, _⟩ := ho'
        simp only [blockOf, ne_eq, Option.some.injEq]
        have := lt_of_heap h7
        omega
      · obtain ⟨a, cap, rfl, _, _, h3, h4, h5, _⟩ := ho'
        intro c hc
        cases hc
        exact ⟨h3, h4, h5⟩
    · cases k3
      exact (ho k2).2
  · intro r r' v1 s1 es1 v2 s2 es2 b h1 h2 h3 h4 h5 h6
    rcases part r _ h1 h3 with ⟨k1, k2⟩ | ⟨e1, k1, k2⟩ <;> rcases part r' _ h2 h4 with ⟨k3, k4⟩ | ⟨e2, k3, k4⟩
    · exact h'.apart r r' _ _ _ _ _ _ b k1 k3 k2 k4 h5 h6
    · cases k4
      have := (ho k3).1
      rw [this] at h6
      cases h6
      exact absurd h5 (hf.own _ _ _ _ k1 k2)
    · cases k2
      have := (ho k1).1
      rw [this] at h5
      cases h5
      exact absurd h6 (hf.own _ _ _ _ k3 k4)
    · rw [e1, e2]

theorem FRep.right (h : FRep γ σ F a w lam) {k : Nat} (hb : But (some k) w w') {live : List Bool} (hll : live.length = γ.rho.length) (hsub : ∀ (r : Nat), live[r]? = some true → σ.live[r]? = some true)
    (hk : ∀ j cs, lget j F.l = some cs → lam j ≠ k) {v : Value} {s : Nat} {es : List (List V)} {f : Bool} (ho : f = true → blockOf v = some k) :
    FRep { γ with rho := γ.rho ++ [(v, s, es)] } ⟨σ.objs, live ++ [f]⟩ F a w' lam := by
  have hle : LeR γ { γ with rho := γ.rho ++ [(v, s, es)] } := ⟨fun _ _ x => x, fun i c hi => by
    show (γ.rho ++ [(v, s, es)])[i]? = some c
    rw [List.getElem?_append_left (List.getElem?_eq_some_iff.1 hi).1]; exact hi, fun _ _ _ x => x⟩
  refine ⟨fun t => (h.s t).mono hle, fun j cs hj => ?_, h.inj⟩
  have hl := h.l j cs hj
  have hne := hk j cs hj
  obtain ⟨vs, e, h1, h2⟩ := hl.cells
  refine ⟨⟨vs, e, hb.heap _ _ (fun x => hne (by cases x; rfl)) h1, RepL.mono hle _ _ h2⟩, hl.phi, hl.pub, hl.mu, ?_⟩
  intro r v2 s2 es2 k1 k2 k3
  by_cases hr : r < live.length
  · rw [List.getElem?_append_left hr] at k1
    have k2' : γ.rho[r]? = some (v2, s2, es2) := by
      have : (γ.rho ++ [(v, s, es)])[r]? = some (v2, s2, es2) := k2
      rwa [List.getElem?_append_left (by omega)] at this
    exact hl.own _ _ _ _ (hsub _ k1) k2' k3
  · have : r = live.length := by
      have := (List.getElem?_eq_some_iff.1 k1).1
      simp only [List.length_append, List.length_cons, List.length_nil] at this
      omega
    subst this
    rw [List.getElem?_append_right (Nat.le_refl _)] at k1
    have k2' : (γ.rho ++ [(v, s, es)])[live.length]? = some (v2, s2, es2) := k2
    rw [hll, List.getElem?_append_right (Nat.le_refl _)] at k2'
    simp only [Nat.sub_self, List.getElem?_cons_zero, Option.some.injEq] at k1 k2'
    cases k2'
    rw [ho k1] at k3
    cases k3
    exact hne rfl
end
end Go.VL

namespace Go.VL
open Go

section
variable {P : Program} {γ : G} {σ : St} {F : Fr} {a : Act} {w : World} {lam : Nat → Nat} {o : Oper} {K : Fr → St → Prop}

def pushed (w : World) (x : Obj) : World := { w with heap := w.heap.push x }

theorem good_newL {d : Nat} {cs : List V} {vs : List Value} {e : TypeId} (hi : INV γ σ w) (hf : FRep γ σ F a w lam) (hd : o.dst = some d) (hN : d < a.tmps.size)
    (hr : (execOp a.eval o).run P w = .ok (.value (.pointer (some ⟨w.heap.size, 0, none⟩))) (pushed w (.cells vs.toArray e))) (hv : RepL γ cs vs) (h : K (F.newL d cs) σ) : Good P o a w γ K := by
  have hb : But none w (pushed w (.cells vs.toArray e)) := .push w _
  refine ⟨_, _, γ, σ, F.newL d cs, (fun k => if k = d then w.heap.size else lam k), _, hr, .inl rfl, .refl γ, hi.step hb, ?_, h⟩
  rw [hd]
  exact FRep.newL hi hf hb (Nat.le_refl _) (heap_push w _) hv hN

theorem good_newH {d : Nat} {cs : List V} {vs : List Value} {e : TypeId} (hi : INV γ σ w) (hf : FRep γ σ F a w lam) (hd : o.dst = some d) (hN : d < a.tmps.size)
    (hr : (execOp a.eval o).run P w = .ok (.value (.pointer (some ⟨w.heap.size, 0, none⟩))) (pushed w (.cells vs.toArray e))) (hv : RepL γ cs vs)
    (h : K (F.set d (.v (.ptr (some (σ.objs.length, 0))))) ⟨σ.objs ++ [.cells cs], σ.live⟩) : Good P o a w γ K := by
  have hb : But none w (pushed w (.cells vs.toArray e)) := .push w _
  have hle : LeR γ { γ with mu := γ.mu ++ [w.heap.size] } := ⟨fun i c hi => by
    show (γ.mu ++ [w.heap.size])[i]? = some c
    rw [List.getElem?_append_left (List.getElem?_eq_some_iff.1 hi).1]; exact hi, fun _ _ x => x, fun _ _ _ x => x⟩
  obtain ⟨h1, h2⟩ := hi.newObj hb (Nat.le_refl _) (sn := γ.snap) (fun _ _ _ x => x) (fun _ _ _ => rfl) (ob := .cells cs) ⟨vs, e, heap_push w _, RepL.mono hle _ _ hv⟩
  refine ⟨_, _, _, _, _, lam, _, hr, .inl rfl, h2, h1, ?_, h⟩
  rw [hd]
  refine (FRep.newObj hf hb (Nat.le_refl _)).set ?_ hN
  simp only [SRep, Rep]
  exact ⟨w.heap.size, by rw [← hi.mulen]; simp, rfl⟩

theorem vOfs_cells {t : TypeId} {z : List V} (h : zeroC P t = some z) : ∃ i zv, P.info? t = some i ∧ i.zero = some zv ∧ vOfs zv.cells.toList = some z := by
  simp only [zeroC, Option.bind_eq_some_iff] at h
  obtain ⟨zv, ⟨i, h1, h2⟩, h3⟩ := h
  exact ⟨i, zv, h1, h2, h3⟩

theorem run_zeroValue {t : TypeId} {i : TypeInfo} {zv : Value} (h1 : P.info? t = some i) (h2 : i.zero = some zv) : (zeroValue t).run P w = .ok zv w := by
  simp [zeroValue, run_typeInfo h1, h2]

theorem good_al {d : Nat} {t : TypeId} {z : List V} (loc : Bool) (hi : INV γ σ w) (hf : FRep γ σ F a w lam) (hop : o.op = .alloc t) (hd : o.dst = some d) (hN : d < a.tmps.size) (hz : zeroC P t = some z)
    (h : resK K ((bif loc then O.alL d z else O.alH d z).run F σ)) : Good P o a w γ K := by
  obtain ⟨i, zv, h1, h2, h3⟩ := vOfs_cells hz
  have hr : (execOp a.eval o).run P w = .ok (.value (.pointer (some ⟨w.heap.size, 0, none⟩))) (pushed w (.cells zv.cells.toList.toArray t)) := by
    simp [execOp, hop, Instr.alloc, run_zeroValue h1 h2, newVar, newRow, pushed]
  cases loc with
  | true => exact good_newL hi hf hd hN hr (vOfs_rep γ _ _ h3) h
  | false => exact good_newH hi hf hd hN hr (vOfs_rep γ _ _ h3) h

/-- A value's cells. -/
theorem cells_rep {x : V} {v : Value} {cs : List V} (hx : Rep γ x v) (hc : cellsOf x = some cs) : RepL γ cs v.cells.toList := by
  cases x <;> simp only [cellsOf, Option.some.injEq, reduceCtorEq] at hc <;> subst hc
  case agg cs =>
    simp only [Rep] at hx
    obtain ⟨vs, rfl, h⟩ := hx
    simpa [Value.cells] using h
  case int k n => simp only [Rep] at hx; subst hx; simp [Value.cells, RepL, Rep]
  case bool b => simp only [Rep] at hx; subst hx; simp [Value.cells, RepL, Rep]
  case str s => simp only [Rep] at hx; subst hx; simp [Value.cells, RepL, Rep]
  case nilf => simp only [Rep] at hx; subst hx; simp [Value.cells, RepL, Rep]
  case sl b r s es =>
    have : ∃ z n c, v = .slice z n c := by
      cases b with
      | true => simp only [Rep] at hx; exact ⟨_, _, _, hx.2⟩
      | false =>
        cases r with
        | pub => simp only [Rep] at hx; obtain ⟨_, _, _, e, _⟩ := hx; exact ⟨_, _, _, e⟩
        | own r => simp only [Rep] at hx; obtain ⟨_, _, e, _⟩ := hx; exact ⟨_, _, _, e⟩
        | view r => simp only [Rep] at hx; obtain ⟨_, _, e, _⟩ := hx; exact ⟨_, _, _, e⟩
    obtain ⟨z, n, c, rfl⟩ := this
    simp only [Value.cells, RepL]
    exact ⟨_, [], rfl, hx, rfl⟩
  case ptr p =>
    have : ∃ z, v = .pointer z := by
      cases p with
      | none => simp only [Rep] at hx; exact ⟨_, hx⟩
      | some p => simp only [Rep] at hx; obtain ⟨_, _, e⟩ := hx; exact ⟨_, e⟩
    obtain ⟨z, rfl⟩ := this
    simp only [Value.cells, RepL]
    exact ⟨_, [], rfl, hx, rfl⟩
  case elt r s es i q =>
    have : ∃ z, v = .pointer z := by
      cases r with
      | pub => simp only [Rep] at hx; obtain ⟨_, _, e, _⟩ := hx; exact ⟨_, e⟩
      | own r => simp only [Rep] at hx; obtain ⟨_, _, e, _⟩ := hx; exact ⟨_, e⟩
      | view r => simp only [Rep] at hx; obtain ⟨_, e, _⟩ := hx; exact ⟨_, e⟩
    obtain ⟨z, rfl⟩ := this
    simp only [Value.cells, RepL]
    exact ⟨_, [], rfl, hx, rfl⟩
  case map p =>
    have : ∃ z, v = .map z := by
      cases p with
      | none => simp only [Rep] at hx; exact ⟨_, hx⟩
      | some p => simp only [Rep] at hx; obtain ⟨_, _, e⟩ := hx; exact ⟨_, e⟩
    obtain ⟨z, rfl⟩ := this
    simp only [Value.cells, RepL]
    exact ⟨_, [], rfl, hx, rfl⟩
  case osl i n cap z =>
    have : ∃ z n c, v = .slice z n c := by simp only [Rep] at hx; obtain ⟨_, _, e⟩ := hx; exact ⟨_, _, _, e⟩
    obtain ⟨z, n, c, rfl⟩ := this
    simp only [Value.cells, RepL]
    exact ⟨_, [], rfl, hx, rfl⟩
  case fn f caps =>
    have : ∃ g c d, v = .func g c d := by simp only [Rep] at hx; obtain ⟨_, e, _⟩ := hx; exact ⟨_, _, _, e⟩
    obtain ⟨g, c, d, rfl⟩ := this
    simp only [Value.cells, RepL]
    exact ⟨_, [], rfl, hx, rfl⟩

theorem good_bx {d : Nat} {t : TypeId} {x : Operand} {e : E} (loc : Bool) (hi : INV γ σ w) (hf : FRep γ σ F a w lam) (hop : o.op = .box t x) (hd : o.dst = some d) (hN : d < a.tmps.size) (hc : compE 0 x = some e)
    (h : resK K ((bif loc then O.bxL d e else O.bxH d e).run F σ)) : Good P o a w γ K := by
  have hv := va_rep hf hc
  cases hs : cellsOf (F.va e) with
  | none => cases loc <;> (simp only [cond_true, cond_false, O.run, hs] at h; exact h.elim)
  | some cs =>
    have hr : (execOp a.eval o).run P w = .ok (.value (.pointer (some ⟨w.heap.size, 0, none⟩))) (pushed w (.cells (a.eval x).cells.toList.toArray t)) := by
      simp [execOp, hop, Instr.box, newVar, newRow, pushed]
    cases loc with
    | true =>
      simp only [cond_true, O.run, hs] at h
      exact good_newL hi hf hd hN hr (cells_rep hv hs) h
    | false =>
      simp only [cond_false, O.run, hs] at h
      exact good_newH hi hf hd hN hr (cells_rep hv hs) h

/-! ### Structs -/
theorem foldl_set (n : Nat) : ∀ (xs : List Value) (cs : Array Value) (i : Nat), n + i + xs.length ≤ cs.size →
    ((xs.zipIdx i).foldl (fun cs (p : Value × Nat) => cs.setIfInBounds (n + p.2) p.1) cs).toList = cs.toList.take (n + i) ++ xs ++ cs.toList.drop (n + i + xs.length)
  | [], cs, i, _ => by simp
  | x :: xs, cs, i, h => by
    simp only [List.zipIdx_cons, List.foldl_cons]
    simp only [List.length_cons] at h
    rw [foldl_set n xs _ (i + 1) (by simp; omega)]
    have hlt : n + i < cs.toList.length := by simp; omega
    simp only [Array.toList_setIfInBounds]
    have e1 : (cs.toList.set (n + i) x).take (n + (i + 1)) = cs.toList.take (n + i) ++ [x] := by
      rw [show n + (i + 1) = n + i + 1 from by omega, List.take_succ_eq_append_getElem (by simpa using hlt), List.take_set_of_le (Nat.le_refl _)]
      simp
    have e2 : (cs.toList.set (n + i) x).drop (n + (i + 1) + xs.length) = cs.toList.drop (n + i + (x :: xs).length) := by
      rw [List.drop_set_of_lt (by omega)]
      congr 1
      simp; omega
    rw [e1, e2]
    simp

theorem over_rep {z xs : List V} {vs us : List Value} (hz : RepL γ z vs) (hx : RepL γ xs us) (q : Nat) : RepL γ (over z q xs) (vs.take q ++ us ++ vs.drop (q + us.length)) := by
  unfold over
  rw [← hx.length]
  exact (hz.take.append hx).append hz.drop

theorem fill_ok (hf : FRep γ σ F a w lam) {fs : Array Field} {places : Array (Nat × Nat)} (hp : ∀ (i : Nat) (f : Field) (s : Nat), fs[i]? = some f → szOf P f.type = some s → places[i]? = some (f.offset, s)) :
    ∀ (ps : List (Nat × Operand)) (qs : List (Nat × Nat × E)) (z : List V) (cs : Array Value), compBld P fs ps = some qs → RepL γ z cs.toList → ∀ z', overs F (some z) qs = some z' →
      ∃ cs', Instr.fill (places[·]?) cs (ps.map fun p => (p.1, a.eval p.2)) = some cs' ∧ RepL γ z' cs'.toList
  | [], qs, z, cs, h, hz, z', ho => by
    simp only [compBld, Option.some.injEq] at h
    subst h
    simp only [overs, Option.some.injEq] at ho
    subst ho
    exact ⟨cs, rfl, hz⟩
  | p :: r, qs, z, cs, h, hz, z', ho => by
    simp only [compBld] at h
    split at h
    · rename_i f x l h1 h2 h3
      simp only [Option.map_eq_some_iff] at h
      obtain ⟨s, hs, rfl⟩ := h
      simp only [overs] at ho
      have hv := va_rep hf h2
      cases hc : cellsOf (F.va x) with
      | none => rw [hc] at ho; simp only [overC] at ho; cases l <;> simp [overs] at ho
      | some xs =>
        rw [hc] at ho
        simp only [overC] at ho
        cases hb : Nat.beq xs.length s && Nat.ble (f.offset + s) z.length with
        | false => rw [hb] at ho; simp only [cond_false] at ho; cases l <;> simp [overs] at ho
        | true =>
          rw [hb] at ho
          simp only [cond_true] at ho
          simp only [Bool.and_eq_true] at hb
          have hl := Nat.eq_of_beq_eq_true hb.1
          have hle := Nat.le_of_ble_eq_true hb.2
          have hr := cells_rep hv hc
          have hl2 := hr.length
          have hzl := hz.length
          simp only [Array.length_toList] at hl2 hzl
          have hcond : ¬ ((a.eval p.2).cells.size ≠ s ∨ f.offset + (a.eval p.2).cells.size > cs.size) := by omega
          have hfold : ((a.eval p.2).cells.zipIdx.foldl (fun cs (q : Value × Nat) => cs.setIfInBounds (f.offset + q.2) q.1) cs).toList =
              cs.toList.take f.offset ++ (a.eval p.2).cells.toList ++ cs.toList.drop (f.offset + (a.eval p.2).cells.toList.length) := by
            rw [← Array.foldl_toList, Array.toList_zipIdx]
            have := foldl_set f.offset (a.eval p.2).cells.toList cs 0 (by simp; omega)
            simpa using this
          obtain ⟨cs', k1, k2⟩ := fill_ok hf hp r l _ ((a.eval p.2).cells.zipIdx.foldl (fun cs (q : Value × Nat) => cs.setIfInBounds (f.offset + q.2) q.1) cs) h3 (by rw [hfold]; exact over_rep hz hr f.offset) z' ho
          refine ⟨cs', ?_, k2⟩
          simp only [List.map_cons, Instr.fill, hp _ _ _ h1 hs]
          rw [if_neg (by simpa using hcond)]
          exact k1
    · simp at h

theorem places_run : ∀ (fs : List Field) (places : List (Nat × Nat)), (∀ (i : Nat) (f : Field), fs[i]? = some f → ∃ s, szOf P f.type = some s ∧ places[i]? = some (f.offset, s)) → fs.length = places.length →
    (fs.mapM fun f => (do pure (f.offset, ← sizeOf f.type) : Sem (Nat × Nat))).run P w = .ok places w
  | [], places, _, hl => by
    have : places = [] := by cases places <;> simp_all
    subst this
    simp
  | f :: r, places, h, hl => by
    cases places with
    | nil => simp at hl
    | cons p ps =>
      obtain ⟨s, h1, h2⟩ := h 0 f rfl
      simp only [List.getElem?_cons_zero, Option.some.injEq] at h2
      subst h2
      have ih := places_run r ps (fun i f hi => h (i + 1) f hi) (by simpa using hl)
      simp only [List.mapM_cons, Sem.run_bind, run_sizeOf h1, Result.andThen_ok, Sem.run_pure, ih]

theorem good_bld {d : Nat} {t : TypeId} {ps : Array (Nat × Operand)} {fs : Array Field} {z : List V} {qs : List (Nat × Nat × E)} (hi : INV γ σ w) (hf : FRep γ σ F a w lam) (hop : o.op = .build t ps) (hd : o.dst = some d)
    (hN : d < a.tmps.size) (hfs : P.underlying t = some (.struct fs)) (hsz : ∀ f ∈ fs, (szOf P f.type).isSome = true) (hz : zeroC P t = some z) (hc : compBld P fs ps.toList = some qs)
    (h : resK K ((O.bld d z qs).run F σ)) : Good P o a w γ K := by
  obtain ⟨i, zv, h1, h2, h3⟩ := vOfs_cells hz
  simp only [O.run] at h
  cases ho : overs F (some z) qs with
  | none => rw [ho] at h; exact h.elim
  | some z' =>
    rw [ho] at h
    have hpl : ∀ (i : Nat) (f : Field), fs.toList[i]? = some f → ∃ s, szOf P f.type = some s ∧ (fs.toList.map fun f => (f.offset, (szOf P f.type).getD 0))[i]? = some (f.offset, s) := by
      intro i f hi
      have hm : f ∈ fs := by
        obtain ⟨hlt, he⟩ := List.getElem?_eq_some_iff.1 hi
        rw [← Array.mem_toList_iff, ← he]
        exact List.getElem_mem hlt
      obtain ⟨s, hs⟩ := Option.isSome_iff_exists.1 (hsz f hm)
      exact ⟨s, hs, by simp only [List.getElem?_map, hi, Option.map_some, hs, Option.getD_some]⟩
    have hrun := places_run (P := P) (w := w) fs.toList _ hpl (by simp)
    obtain ⟨cs', k1, k2⟩ := fill_ok (P := P) hf (fs := fs) (places := (fs.toList.map fun f => (f.offset, (szOf P f.type).getD 0)).toArray) (fun i f s hi hs => by
      obtain ⟨s', e1, e2⟩ := hpl i f (by simpa using hi)
      rw [hs] at e1
      cases e1
      simpa using e2) ps.toList qs z zv.cells hc (vOfs_rep γ _ _ h3) z' ho
    refine good_pure (v := .agg cs') hi hf hd hN ?_ (x := .v (.agg z')) (by simp only [SRep, Rep]; exact ⟨cs'.toList, by simp, k2⟩) h
    have hm : (fs.mapM fun f => (do pure (f.offset, ← sizeOf f.type) : Sem (Nat × Nat))).run P w = .ok (fs.toList.map fun f => (f.offset, (szOf P f.type).getD 0)).toArray w := by
      rw [← Array.toArray_toList (xs := fs)]
      rw [List.mapM_toArray]
      simp only [Sem.run_map, hrun, Result.andThen_ok]
    simp only [execOp, hop, Instr.build, Sem.run_bind, run_zeroValue h1 h2, Result.andThen_ok, run_underlying hfs, hm]
    rw [show (ps.map fun p => (p.1, a.eval p.2)).toList = ps.toList.map fun p => (p.1, a.eval p.2) from by simp, k1]
    simp

/-! ### Writes -/
theorem flat_cell {x : V} {v : Value} (h : x.flat = true) (hx : Rep γ x v) : v.oneCell' = true := by
  cases x <;> simp only [V.flat, Bool.false_eq_true] at h
  case int k n => simp only [Rep] at hx; subst hx; rfl
  case bool b => simp only [Rep] at hx; subst hx; rfl
  case str s => simp only [Rep] at hx; subst hx; rfl
  case nilf => simp only [Rep] at hx; subst hx; rfl
  case sl b r s es =>
    cases b with
    | true => simp only [Rep] at hx; rw [hx.2]; rfl
    | false =>
      cases r with
      | pub => simp only [Rep] at hx; obtain ⟨_, _, _, rfl, _⟩ := hx; rfl
      | own r => simp only [Rep] at hx; obtain ⟨_, _, rfl, _⟩ := hx; rfl
      | view r => simp only [Rep] at hx; obtain ⟨_, _, rfl, _⟩ := hx; rfl
  case ptr p =>
    cases p with
    | none => simp only [Rep] at hx; rw [hx]; rfl
    | some p => simp only [Rep] at hx; obtain ⟨_, _, rfl⟩ := hx; rfl
  case elt r s es i q =>
    cases r with
    | pub => simp only [Rep] at hx; obtain ⟨_, _, rfl, _⟩ := hx; rfl
    | own r => simp only [Rep] at hx; obtain ⟨_, _, rfl, _⟩ := hx; rfl
    | view r => simp only [Rep] at hx; obtain ⟨_, rfl, _⟩ := hx; rfl
  case map p =>
    cases p with
    | none => simp only [Rep] at hx; rw [hx]; rfl
    | some p => simp only [Rep] at hx; obtain ⟨_, _, rfl⟩ := hx; rfl
  case osl i n cap z => simp only [Rep] at hx; obtain ⟨_, _, rfl⟩ := hx; rfl
  case fn f caps => simp only [Rep] at hx; obtain ⟨_, rfl, _⟩ := hx; rfl
theorem flats_cells : ∀ {xs : List V} {vs : List Value}, flats xs = true → RepL γ xs vs → ∀ v ∈ vs, v.oneCell' = true
  | [], vs, _, hr, v, hv => by simp only [RepL] at hr; subst hr; simp at hv
  | x :: xs, vs, h, hr, v, hv => by
    simp only [flats, Bool.and_eq_true] at h
    simp only [RepL] at hr
    obtain ⟨u, ws, rfl, h2, h3⟩ := hr
    rcases List.mem_cons.1 hv with rfl | hv
    · exact flat_cell h.1 h2
    · exact flats_cells h.2 h3 v hv

theorem setCell_heap {w : World} {b q : Nat} {c : Array Value} {e : TypeId} {z : Nat × Nat} (h : w.heap[b]? = some (.cells c e z)) (v : Value) :
    (w.setCell ⟨b, q, none⟩ v).heap[b]? = some (.cells (c.setIfInBounds q v) e z) := by
  simp [World.setCell, Array.getElem?_modify, h]
theorem setCell_but (w : World) (b q : Nat) (v : Value) : But (some b) w (w.setCell ⟨b, q, none⟩ v) :=
  ⟨rfl, rfl, rfl, by simp [World.setCell], fun k x hk h => by
    have : ¬ b = k := fun e => hk (by rw [e])
    simp [World.setCell, Array.getElem?_modify, this, h], Nat.le_refl _⟩

/-- Cells are written one behind the other. -/
theorem run_storeCells : ∀ (vs : List Value) (w : World) (b q i : Nat) (c : Array Value) (e : TypeId) (z : Nat × Nat), w.heap[b]? = some (.cells c e z) → q + i + vs.length ≤ c.size →
    (∀ j, q + i ≤ j → j < q + i + vs.length → ¬ (z.1 ≤ j ∧ j < z.2)) → (∀ v ∈ vs, v.oneCell' = true) →
    ∃ w', (storeCells ⟨b, q, none⟩ vs i).run P w = .ok () w' ∧ But (some b) w w' ∧ ∃ c' : Array Value, w'.heap[b]? = some (.cells c' e z) ∧ c'.toList = c.toList.take (q + i) ++ vs ++ c.toList.drop (q + i + vs.length)
  | [], w, b, q, i, c, e, z, h, _, _, _ => ⟨w, by simp [storeCells], .refl _ _, c, h, by simp⟩
  | v :: vs, w, b, q, i, c, e, z, h, hs, hz, ho => by
    simp only [List.length_cons] at hs hz
    have hlt : q + i < c.size := by omega
    have hc : w.cell? ⟨b, q + i, none⟩ = some c[q + i] := by rw [cell_of_heap h, Array.getElem?_eq_getElem hlt]
    have hfz : w.frozen? ⟨b, q + i, none⟩ = false := by
      have := hz (q + i) (by omega) (by omega)
      simp only [World.frozen?, h, Bool.and_eq_false_iff, decide_eq_false_iff_not]
      omega
    obtain ⟨w', h1, h2, c', h3, h4⟩ := run_storeCells vs (w.setCell ⟨b, q + i, none⟩ v) b q (i + 1) _ e z (setCell_heap h v) (by simp; omega) (fun j h1 h2 => hz j (by omega) (by omega)) (fun x hx => ho x (List.mem_cons_of_mem _ hx))
    refine ⟨w', ?_, (setCell_but w b (q + i) v).trans h2, c', h3, ?_⟩
    · simp only [storeCells, add_none, Sem.run_bind, run_store P w _ v .plain (ho v (List.mem_cons_self ..)), hc, hfz, Bool.false_eq_true, if_false, Result.andThen_ok]
      exact h1
    · rw [h4, Array.toList_setIfInBounds]
      rw [show q + (i + 1) = q + i + 1 from by omega, List.take_succ_eq_append_getElem (by simpa using hlt), List.take_set_of_le (Nat.le_refl _), List.drop_set_of_lt (by omega)]
      simp only [List.getElem_set_self, List.append_assoc, List.cons_append, List.nil_append, List.length_cons]
      rw [show q + i + 1 + vs.length = q + i + (vs.length + 1) from by omega]

/-- A write into a block of known cells. -/
theorem run_storeVar {t : TypeId} {n : Nat} {v : Value} {b q : Nat} {vs : List Value} {e : TypeId} (hn : szOf P t = some n) (h : w.heap[b]? = some (.cells vs.toArray e (0, 0))) (hv : v.cells.toList.length = n) (hl : q + n ≤ vs.length)
    (ho : ∀ x ∈ v.cells.toList, x.oneCell' = true) :
    ∃ w', (storeVar t ⟨b, q, none⟩ v).run P w = .ok () w' ∧ But (some b) w w' ∧ w'.heap[b]? = some (.cells (vs.take q ++ v.cells.toList ++ vs.drop (q + v.cells.toList.length)).toArray e (0, 0)) := by
  obtain ⟨w', h1, h2, c', h3, h4⟩ := run_storeCells (P := P) v.cells.toList w b q 0 vs.toArray e (0, 0) h (by simp; simp at hv; omega) (fun j _ _ => by simp) ho
  refine ⟨w', ?_, h2, ?_⟩
  · have : ¬ (v.cells.size ≠ n) := by simp at hv; simp [hv]
    simp only [storeVar, Sem.run_bind, run_sizeOf hn, Result.andThen_ok, if_neg this]
    exact h1
  · rw [h3]
    congr 2
    apply Array.ext'
    simpa using h4

/-- An object's content has changed. -/
theorem setObj_ok {w' : World} (hi : INV γ σ w) (hf : FRep γ σ F a w lam) {i b : Nat} (hb : γ.mu[i]? = some b) (hbut : But (some b) w w') {ob : AObj} {sn : Nat → Nat → Option (List MapEntry × Nat)}
    (hs : ∀ (c n : Nat) x, γ.snap c n = some x → sn c n = some x) (hs2 : ∀ c n, c ≠ b → sn c n = γ.snap c n) (hs3 : ∀ (c n : Nat) x, sn c n = some x → c < w'.heap.size) (ho : ORep { γ with snap := sn } w' b ob) :
    INV { γ with snap := sn } ⟨σ.objs.set i ob, σ.live⟩ w' ∧ FRep { γ with snap := sn } ⟨σ.objs.set i ob, σ.live⟩ F a w' lam := by
  have hlt : i < σ.objs.length := by rw [← hi.mulen]; exact (List.getElem?_eq_some_iff.1 hb).1
  obtain ⟨p1, p2, p3⟩ := hi.objs i b σ.objs[i] hb (List.getElem?_eq_getElem hlt)
  have hmem := mem_of_get hb
  have hle : LeR γ { γ with snap := sn } := ⟨fun _ _ x => x, fun _ _ x => x, fun _ _ _ x => x⟩
  have hown : ∀ (r : Nat) v s es, σ.live[r]? = some true → γ.rho[r]? = some (v, s, es) → blockOf v ≠ some b := by
    intro r v s es h1 h2 h3
    obtain ⟨c, cap, rfl, _, _, _, _, h5, _⟩ := hi.own _ _ _ _ h1 h2
    simp only [blockOf, Option.some.injEq] at h3
    exact h5 (h3 ▸ hmem)
  refine ⟨⟨hbut.os.trans hi.os, hbut.tape.trans hi.tape, hbut.out.trans hi.out, ?_, ?_, by simp [hi.mulen], ?_, hi.inj, hi.rholen, ?_, hs3, hi.apart, Nat.le_trans hi.drn hbut.drn⟩, ⟨fun t => (hf.s t).mono hle, fun k cs hk => ?_, hf.inj⟩⟩
  · intro c x hx
    exact hbut.heap _ _ (fun e => by cases e; rw [p1] at hx; cases hx) (hi.phi _ _ hx)
  · intro c j v hx
    obtain ⟨x1, x2, x3, h1, h2⟩ := hi.pub _ _ _ hx
    exact ⟨x1, x2, x3, hbut.heap _ _ (fun e => by cases e; rw [p2] at hx; simp at hx) h1, h2⟩
  · intro j c x h1 h2
    by_cases hj : j = i
    · subst hj
      have h1' : γ.mu[j]? = some c := h1
      rw [hb] at h1'
      cases h1'
      rw [List.getElem?_set_self hlt] at h2
      cases h2
      exact ⟨p1, p2, ho⟩
    · have h2' : σ.objs[j]? = some x := by
        have : (σ.objs.set i ob)[j]? = some x := h2
        rwa [List.getElem?_set_ne (fun e => hj e.symm)] at this
      obtain ⟨q1, q2, q3⟩ := hi.objs j c x h1 h2'
      have hne : c ≠ b := fun e => hj (hi.inj j i b (e ▸ h1) hb)
      exact ⟨q1, q2, q3.but hbut hne hle (fun n => hs2 c n hne) hs⟩
  · intro r v s es h1 h2
    have ho' := hi.own _ _ _ _ h1 h2
    refine ho'.but hbut (hown _ _ _ _ h1 h2) hle ?_
    obtain ⟨c, cap, rfl, _, _, h3, h4, h5, _⟩ := ho'
    intro d hd
    cases hd
    exact ⟨h3, h4, h5⟩
  · have hl := hf.l k cs hk
    obtain ⟨vs, e, h1, h2⟩ := hl.cells
    exact ⟨⟨vs, e, hbut.heap _ _ (fun x => hl.mu (by cases x; exact hmem)) h1, RepL.mono hle _ _ h2⟩, hl.phi, hl.pub, hl.mu, hl.own⟩

theorem good_st {n : Nat} {t : TypeId} {x y : Operand} {ex ey : E} (hi : INV γ σ w) (hf : FRep γ σ F a w lam) (hop : o.op = .store t x y) (hd : o.dst = none)
    (hn : szOf P t = some n) (hx : compE 0 x = some ex) (hy : compE 0 y = some ey) (h : resK K ((O.st ex ey n).run F σ)) : Good P o a w γ K := by
  have hv := ev_rep hf hx
  have vy := va_rep hf hy
  simp only [O.run] at h
  cases hc : cellsOf (F.va ey) with
  | none => rw [hc] at h; exact h.elim
  | some xs =>
    rw [hc] at h
    simp only [stC] at h
    obtain ⟨⟨h1, h2⟩, h⟩ := resK_also h
    have hr := cells_rep vy hc
    have hone := flats_cells h2 hr
    have hl := hr.length
    have fin : ∀ (b q : Nat) (vs : List Value) (cs : List V) (e : TypeId), a.eval x = .pointer (some ⟨b, q, none⟩) → w.heap[b]? = some (.cells vs.toArray e (0, 0)) → RepL γ cs vs → q + xs.length ≤ cs.length →
        ∃ w', (execOp a.eval o).run P w = .ok .skip w' ∧ But (some b) w w' ∧ ∃ us, w'.heap[b]? = some (.cells (List.toArray us) e (0, 0)) ∧ RepL γ (over cs q xs) us := by
      intro b q vs cs e hx hb hcs hle
      have := hcs.length
      obtain ⟨w', k1, k2, k3⟩ := run_storeVar (P := P) (v := a.eval y) (q := q) hn hb (by omega) (by omega) hone
      exact ⟨w', by simp [execOp, hop, hx, Instr.storeAt, Instr.sureAddr, k1], k2, _, k3, over_rep hcs hr q⟩
    cases hs : F.ev ex with
    | loc k q =>
      rw [hs] at h hv
      simp only [stW] at h
      cases hlk : lget k F.l with
      | none => rw [hlk] at h; exact h.elim
      | some cs =>
        rw [hlk] at h
        simp only [stL, resK] at h
        have hloc := hf.l k cs hlk
        obtain ⟨vs, e, k1, k2⟩ := hloc.cells
        obtain ⟨w', r1, r2, us, r3, r4⟩ := fin _ q vs cs e hv k1 k2 h.1
        refine ⟨_, w', γ, σ, _, lam, undef, r1, .inr ⟨rfl, rfl⟩, .refl γ, hi.but r2 ⟨hloc.phi, hloc.pub, hloc.mu, hloc.own⟩, ?_, h.2⟩
        rw [hd]
        refine ⟨hf.s, fun j cs' hj => ?_, fun j j' c1 c2 g1 g2 he => ?_⟩
        · simp only [Fr.setL, lget_lset] at hj
          by_cases e1 : j = k
          · subst e1
            simp only [if_true, Option.some.injEq] at hj
            subst hj
            exact ⟨⟨us, e, r3, r4⟩, hloc.phi, hloc.pub, hloc.mu, hloc.own⟩
          · simp only [e1, if_false] at hj
            exact (hf.l j cs' hj).but r2 (fun e2 => e1 (hf.inj _ _ _ _ hj hlk e2))
        · simp only [Fr.setL, lget_lset] at g1 g2
          have get : ∀ j c, (if j = k then some (over cs q xs) else lget j F.l) = some c → ∃ c', lget j F.l = some c' := by
            intro j c hj
            by_cases e : j = k
            · subst e; exact ⟨cs, hlk⟩
            · simp only [e, if_false] at hj; exact ⟨c, hj⟩
          obtain ⟨c3, g3⟩ := get _ _ g1
          obtain ⟨c4, g4⟩ := get _ _ g2
          exact hf.inj _ _ _ _ g3 g4 he
    | v z =>
      rw [hs] at h hv
      simp only [stW] at h
      cases z with
      | ptr p =>
        cases p with
        | none => exact h.elim
        | some p =>
          simp only [stV] at h
          simp only [SRep, Rep] at hv
          obtain ⟨b, hb, hv⟩ := hv
          cases ho : σ.objs[p.1]? with
          | none => rw [ho] at h; exact h.elim
          | some ob =>
            rw [ho] at h
            cases ob with
            | cells cs =>
              simp only [stO, resK] at h
              obtain ⟨p1, p2, vs, e, k1, k2⟩ := hi.objs _ _ _ hb ho
              obtain ⟨w', r1, r2, us, r3, r4⟩ := fin _ p.2 vs cs e hv k1 k2 h.1
              obtain ⟨q1, q2⟩ := setObj_ok hi hf hb r2 (ob := .cells (over cs p.2 xs)) (sn := γ.snap) (fun _ _ _ x => x) (fun _ _ _ => rfl) (fun c n x hx => Nat.lt_of_lt_of_le (hi.snapb c n x hx) r2.size) ⟨us, e, r3, r4⟩
              exact ⟨_, w', _, _, F, lam, undef, r1, .inr ⟨rfl, rfl⟩, ⟨⟨fun _ _ x => x, fun _ _ x => x, fun _ _ _ x => x⟩, fun _ _ => rfl, rfl, fun _ _ _ x => x, rfl, rfl, rfl, rfl⟩, q1, by rw [hd]; exact q2, h.2⟩
            | row cap s cs =>
              simp only [stO, resK] at h
              obtain ⟨p1, p2, vs, c, e, z, k1, k2, k3, k4, k5, k6, k7⟩ := hi.objs _ _ _ hb ho
              have hvl := k3.length
              generalize hws : (a.eval y).cells.toList = ws at hr hone hl
              have hle := h.1
              obtain ⟨w', r1, r2, cc', r3, r4⟩ := run_storeCells (P := P) ws w b p.2 0 c e z k1 (by omega) (fun j h1 h2 => k6 j (by omega)) hone
              have hrun : (execOp a.eval o).run P w = .ok .skip w' := by
                have hsz : ¬ ((a.eval y).cells.size ≠ n) := by
                  have := congrArg List.length hws
                  simp at this ⊢
                  omega
                simp [execOp, hop, hv, Instr.storeAt, Instr.sureAddr, storeVar, run_sizeOf hn, hsz, hws, r1]
              have hov := over_rep k3 hr p.2
              have hcv : c.toList = vs ++ c.toList.drop vs.length := by
                have : c.toList.take vs.length = vs := by
                  apply List.ext_getElem?
                  intro j
                  rw [List.getElem?_take]
                  split
                  · rename_i hj
                    rw [List.getElem?_eq_getElem hj]
                    simpa using k2 j _ (List.getElem?_eq_getElem hj)
                  · rename_i hj
                    rw [List.getElem?_eq_none (by omega)]
                conv => lhs; rw [← List.take_append_drop vs.length c.toList, this]
              have hcc : cc'.toList = (vs.take p.2 ++ ws ++ vs.drop (p.2 + ws.length)) ++ c.toList.drop vs.length := by
                rw [r4, Nat.add_zero, hcv, List.take_append_of_le_length (by omega), List.drop_append_of_le_length (by omega)]
                simp [List.append_assoc]
              have hsize : cc'.size = c.size := by
                have := congrArg List.length r4
                simp only [Array.length_toList, List.length_append, List.length_take, List.length_drop] at this
                omega
              obtain ⟨q1, q2⟩ := setObj_ok hi hf hb r2 (ob := .row cap s (over cs p.2 xs)) (sn := γ.snap) (fun _ _ _ x => x) (fun _ _ _ => rfl) (fun c n x hx => Nat.lt_of_lt_of_le (hi.snapb c n x hx) r2.size)
                ⟨_, cc', e, z, r3, fun j v hj => by
                  have h1 := (List.getElem?_eq_some_iff.1 hj).1
                  have : cc'.toList[j]? = some v := by rw [hcc, List.getElem?_append_left h1]; exact hj
                  simpa using this, hov, by rw [hsize]; exact k4, by
                  have := hov.length
                  simp only [List.length_append, List.length_take, List.length_drop] at this
                  omega, k6, fun v hv => by
                  rcases List.mem_append.1 hv with hv | hv
                  · rcases List.mem_append.1 hv with hv | hv
                    · exact k7 v (List.mem_of_mem_take hv)
                    · exact hone v hv
                  · exact k7 v (List.mem_of_mem_drop hv)⟩
              exact ⟨_, w', _, _, F, lam, undef, hrun, .inr ⟨rfl, rfl⟩, ⟨⟨fun _ _ x => x, fun _ _ x => x, fun _ _ _ x => x⟩, fun _ _ => rfl, rfl, fun _ _ _ x => x, rfl, rfl, rfl, rfl⟩, q1, by rw [hd]; exact q2, h.2⟩
            | _ => exact h.elim
      | _ => exact h.elim
end
end Go.VL

namespace Go.VL
open Go

section
variable {P : Program} {γ : G} {σ : St} {F : Fr} {a : Act} {w : World} {lam : Nat → Nat} {o : Oper} {K : Fr → St → Prop}

/-- A slice in a new block. -/
theorem good_row {d s len cap : Nat} {es : List (List V)} {e : TypeId} {c : Array Value} {z : Nat × Nat} {vs : List Value} {w' : World} {b : Nat} (hi : INV γ σ w) (hf : FRep γ σ F a w lam) (hd : o.dst = some d) (hN : d < a.tmps.size)
    (hb : But none w w') (hlt : w.heap.size ≤ b) (hr : (execOp a.eval o).run P w = .ok (.value (.slice (some ⟨b, 0, none⟩) len cap)) w') (hw : w'.heap[b]? = some (.cells c e z)) (hlen : es.length = len) (hcap : len ≤ cap)
    (hvs : ∀ (i : Nat) (x : Value), vs[i]? = some x → c[i]? = some x) (hrep : RepE γ s es vs) (hc : cap * s ≤ c.size) (hz : ∀ q, q < cap * s → ¬ (z.1 ≤ q ∧ q < z.2))
    {live : List Bool} (hll : live.length = σ.live.length) (hsub : ∀ (r : Nat), live[r]? = some true → σ.live[r]? = some true)
    (h : K (F.set d (.v (.sl false (.own σ.live.length) s es))) ⟨σ.objs, live ++ [true]⟩) (hz2 : z.2 ≤ c.size ∨ s = 1 := by exact .inl (Nat.zero_le _)) : Good P o a w γ K := by
  subst hlen
  have hfr := (hi.free_new hlt).mono hsub
  have hle : LeR γ { γ with rho := γ.rho ++ [(.slice (some ⟨b, 0, none⟩) es.length cap, s, es)] } := ⟨fun _ _ x => x, fun i c hi => by
    show (γ.rho ++ [_])[i]? = some c
    rw [List.getElem?_append_left (List.getElem?_eq_some_iff.1 hi).1]; exact hi, fun _ _ _ x => x⟩
  have hown : OwnAt { γ with rho := γ.rho ++ [(.slice (some ⟨b, 0, none⟩) es.length cap, s, es)] } w' (.slice (some ⟨b, 0, none⟩) es.length cap) s es :=
    ⟨⟨b, 0, none⟩, cap, rfl, rfl, hcap, hfr.phi, hfr.pub, hfr.mu, c, e, z, vs, hw, fun i x hx => by simpa using hvs i x hx, RepE.mono hle _ _ _ hrep, ⟨by simpa using hc, hz2⟩, fun q _ hq => hz q (by simpa using hq)⟩
  obtain ⟨h1, h2⟩ := hi.right (hb.some (some b)) hll hsub hfr (v := .slice (some ⟨b, 0, none⟩) es.length cap) (s := s) (es := es) (f := true) (fun _ => ⟨rfl, hown⟩)
  refine ⟨_, w', _, _, _, lam, _, hr, .inl rfl, h2, h1, ?_, h⟩
  rw [hd]
  refine (hf.right (hb.some (some b)) (by rw [hll, hi.rholen]) hsub (fun j cs hj => by have := lam_lt hf hj; omega) (fun _ => rfl)).set ?_ hN
  simp only [SRep, Rep]
  exact ⟨⟨b, 0, none⟩, cap, rfl, rfl, hcap, by rw [← hi.rholen]; simp⟩

theorem fillS_ok (hf : FRep γ σ F a w lam) {s : Nat} : ∀ (ps : List (Nat × Operand)) (i : Nat) (qs : List E) (cs : Array Value) (vs : List Value) (pre : List Value), compLit i ps = some qs → ∀ es, lits F s qs = some es →
    cs.toList = pre ++ vs → pre.length = i * s → vs.length = ps.length * s →
      ∃ cs' us, Instr.fill (fun i => some (i * s, s)) cs (ps.map fun p => (p.1, a.eval p.2)) = some cs' ∧ cs'.toList = pre ++ us ∧ RepE γ s es us
  | [], i, qs, cs, vs, pre, h, es, ho, hcs, hp, hv => by
    simp only [compLit, Option.some.injEq] at h
    subst h
    simp only [lits, Option.some.injEq] at ho
    subst ho
    have : vs = [] := by apply List.eq_nil_of_length_eq_zero; simpa using hv
    subst this
    exact ⟨cs, [], rfl, by simpa using hcs, by simp [RepE]⟩
  | p :: r, i, qs, cs, vs, pre, h, es, ho, hcs, hp, hv => by
    simp only [compLit] at h
    split at h
    · simp at h
    · rename_i hpi
      simp only [ne_eq, Decidable.not_not] at hpi
      split at h
      · rename_i x l h2 h3
        simp only [Option.some.injEq] at h
        subst h
        simp only [lits] at ho
        split at ho
        · rename_i xs es' hc hl
          cases hb : Nat.beq xs.length s && flats xs with
          | false => rw [hb] at ho; simp at ho
          | true =>
            rw [hb] at ho
            simp only [cond_true, Option.some.injEq] at ho
            subst ho
            simp only [Bool.and_eq_true] at hb
            have hle := Nat.eq_of_beq_eq_true hb.1
            have hr := cells_rep (va_rep hf h2) hc
            have hl2 := hr.length
            simp only [Array.length_toList] at hl2
            simp only [List.length_cons, Nat.succ_mul] at hv
            have hsz : cs.size = i * s + vs.length := by rw [← Array.length_toList, hcs, List.length_append, hp]
            have hcond : ¬ ((a.eval p.2).cells.size ≠ s ∨ i * s + (a.eval p.2).cells.size > cs.size) := by omega
            have hfold : ((a.eval p.2).cells.zipIdx.foldl (fun cs (q : Value × Nat) => cs.setIfInBounds (i * s + q.2) q.1) cs).toList = (pre ++ (a.eval p.2).cells.toList) ++ vs.drop s := by
              rw [← Array.foldl_toList, Array.toList_zipIdx]
              have := foldl_set (i * s) (a.eval p.2).cells.toList cs 0 (by simp; omega)
              simp only [Nat.add_zero] at this
              rw [this, hcs, List.take_left' hp, List.drop_append, List.drop_eq_nil_of_le (by simp; omega), List.nil_append, hp]
              congr 2
              simp; omega
            obtain ⟨cs', us, k1, k2, k3⟩ := fillS_ok hf r (i + 1) l _ (vs.drop s) (pre ++ (a.eval p.2).cells.toList) h3 es' hl hfold (by simp [hp, Nat.succ_mul]; omega) (by simp; omega)
            refine ⟨cs', (a.eval p.2).cells.toList ++ us, ?_, by rw [k2, List.append_assoc], ?_⟩
            · simp only [List.map_cons, Instr.fill, hpi]
              rw [if_neg (by simpa using hcond)]
              exact k1
            · simp only [RepE]
              exact ⟨_, us, rfl, hle, hr, k3, flats_cells hb.2 hr⟩
        · simp at ho
      · simp at h

theorem compLit_length : ∀ {ps : List (Nat × Operand)} {i : Nat} {qs : List E}, compLit i ps = some qs → qs.length = ps.length
  | [], _, _, h => by simp only [compLit, Option.some.injEq] at h; subst h; rfl
  | p :: r, i, qs, h => by
    simp only [compLit] at h
    split at h
    · simp at h
    · split at h
      · rename_i x l h2 h3
        simp only [Option.some.injEq] at h
        subst h
        simp [compLit_length h3]
      · simp at h
theorem lits_length {s : Nat} : ∀ {qs : List E} {es : List (List V)}, lits F s qs = some es → es.length = qs.length
  | [], _, h => by simp only [lits, Option.some.injEq] at h; subst h; rfl
  | x :: r, es, h => by
    simp only [lits] at h
    split at h
    · rename_i xs es' h1 h2
      cases hb : Nat.beq xs.length s && flats xs with
      | false => rw [hb] at h; simp at h
      | true =>
        rw [hb] at h
        simp only [cond_true, Option.some.injEq] at h
        subst h
        simp [lits_length h2]
    · simp at h

theorem good_lit {d s len : Nat} {t et : TypeId} {ps : Array (Nat × Operand)} {z : List V} {qs : List E} (hi : INV γ σ w) (hf : FRep γ σ F a w lam) (hop : o.op = .buildSlice t len ps) (hd : o.dst = some d)
    (hN : d < a.tmps.size) (ht : P.underlying t = some (.slice et)) (hs : szOf P et = some s) (hz : zeroC P et = some z) (hc : compLit 0 ps.toList = some qs) (hlen : qs.length = len) (hbig : len * s ≤ 65536)
    (h : resK K ((O.lit d s qs).run F σ)) : Good P o a w γ K := by
  obtain ⟨i, zv, h1, h2, h3⟩ := vOfs_cells hz
  simp only [O.run] at h
  cases ho : lits F s qs with
  | none => rw [ho] at h; exact h.elim
  | some es =>
    rw [ho] at h
    simp only [litW, resK] at h
    have hps : ps.toList.length = len := by rw [← compLit_length hc, hlen]
    have hess : es.length = len := by rw [lits_length ho, hlen]
    have main : ∀ zero : Array Value, (len * s = 0 ∧ zero = #[]) ∨ (len * s ≠ 0 ∧ zero = zv.cells) → Good P o a w γ K := by
      intro zero hzero
      obtain ⟨cs', us, k1, k2, k3⟩ := fillS_ok (s := s) hf ps.toList 0 qs ((Array.range (len * s)).map (zero[· % zero.size]!)) ((Array.range (len * s)).map (zero[· % zero.size]!)).toList [] hc es ho (by simp) (by simp) (by simp [hps])
      have hr : (execOp a.eval o).run P w = .ok (.value (.slice (some ⟨w.heap.size, 0, none⟩) len len)) (pushed w (.cells cs' et)) := by
        have hbig' : ¬ (len * s > 2 ^ 24) := by omega
        simp only [execOp, hop, Instr.buildSlice, Sem.run_bind, run_underlying ht, Result.andThen_ok, run_sizeOf hs, Sem.run_ite, if_neg hbig']
        rcases hzero with ⟨e0, rfl⟩ | ⟨e0, rfl⟩
        · simp only [if_pos e0, Sem.run_pure, Result.andThen_ok]
          rw [show (ps.map fun p => (p.1, a.eval p.2)).toList = ps.toList.map fun p => (p.1, a.eval p.2) from by simp, k1]
          simp [newRow, pushed]
        · simp only [if_neg e0, run_zeroValue h1 h2, Sem.run_pure, Result.andThen_ok]
          rw [show (ps.map fun p => (p.1, a.eval p.2)).toList = ps.toList.map fun p => (p.1, a.eval p.2) from by simp, k1]
          simp [newRow, pushed]
      have hul := k3.length
      simp only [List.nil_append] at k2
      refine good_row hi hf hd hN (.push w _) (Nat.le_refl _) hr (heap_push w _) hess (Nat.le_refl _) (vs := us) ?_ k3 ?_ (fun q _ hq => by omega) rfl (fun _ x => x) h
      · intro i x hx
        rw [← k2] at hx
        simpa using hx
      · rw [← Array.length_toList, k2, hul, hess]
        exact Nat.le_refl _
    by_cases h0 : len * s = 0
    · exact main #[] (.inl ⟨h0, rfl⟩)
    · exact main zv.cells (.inr ⟨h0, rfl⟩)

theorem good_mm {d : Nat} {t : TypeId} {lv : List LK} (hi : INV γ σ w) (hf : FRep γ σ F a w lam) (hop : o.op = .makeMap t none) (hd : o.dst = some d) (hN : d < a.tmps.size)
    (h : resK K ((O.mm d lv).run F σ)) : Good P o a w γ K := by
  simp only [O.run, resK] at h
  have hb : But none w (pushed w (.map #[] 0)) := .push w _
  have hr : (execOp a.eval o).run P w = .ok (.value (.map (some w.heap.size))) (pushed w (.map #[] 0)) := by
    simp [execOp, hop, Instr.makeMap, pushed]
  have hsn : ∀ n, γ.snap w.heap.size n = none := by
    intro n
    cases hx : γ.snap w.heap.size n with
    | none => rfl
    | some x => exact absurd (hi.snapb _ _ _ hx) (by omega)
  obtain ⟨h1, h2⟩ := hi.newObj hb (Nat.le_refl _) (sn := fun c n => if c = w.heap.size ∧ n = 0 then some ([], 0) else γ.snap c n)
    (fun c n x hx => by
      have : ¬ (c = w.heap.size ∧ n = 0) := by rintro ⟨rfl, rfl⟩; rw [hsn] at hx; cases hx
      simp [this, hx]) (fun c n hc => by simp [hc]) (ob := .mp lv [] 0)
    ⟨[], 0, heap_push w _, by simp, fun n hn => by
      have : ¬ (n = 0) := by omega
      simp [this, hsn], by simp [RepM], by simp, by simp⟩
  refine ⟨_, _, _, _, _, lam, _, hr, .inl rfl, h2, h1, ?_, h⟩
  rw [hd]
  refine (FRep.newObj hf hb (Nat.le_refl _)).set ?_ hN
  simp only [SRep, Rep]
  exact ⟨w.heap.size, by rw [← hi.mulen]; simp, rfl⟩

theorem vOf1_one {s : Nat} {v : Value} {x : V} (h : vOf1 s v = some x) : v.oneCell' = true := by
  cases v <;> first | rfl | (simp [vOf1] at h)
theorem vOfs_one : ∀ {vs : List Value} {xs : List V}, vOfs vs = some xs → ∀ v ∈ vs, v.oneCell' = true
  | [], _, _, v, hv => by simp at hv
  | u :: r, xs, h, v, hv => by
    simp only [vOfs] at h
    split at h
    · rename_i x ys h1 h2
      rcases List.mem_cons.1 hv with rfl | hv
      · exact vOf1_one h1
      · exact vOfs_one h2 v hv
    · simp at h
theorem repE_zeros {z : List V} {zs : List Value} (hz : RepL γ z zs) (ho : ∀ v ∈ zs, v.oneCell' = true) (hs : 0 < z.length) : ∀ n : Nat, RepE γ z.length (List.replicate n z) ((List.range (n * z.length)).map fun i => zs.toArray[i % zs.toArray.size]!)
  | 0 => by simp [RepE]
  | n + 1 => by
    have ih := repE_zeros hz ho hs n
    rw [List.replicate_succ', Nat.succ_mul, List.range_add, List.map_append, List.map_map]
    refine ih.append ?_
    simp only [RepE]
    refine ⟨zs, [], ?_, trivial, hz, rfl, ho⟩
    have hl := hz.length
    apply List.ext_getElem?
    intro i
    by_cases hi : i < z.length
    · have e1 : (n * z.length + i) % zs.length = i := by rw [← hl, Nat.mul_comm, Nat.mul_add_mod, Nat.mod_eq_of_lt hi]
      simp [hi, e1, hl ▸ hi]
    · rw [List.getElem?_eq_none (by simpa using hi)]
      simp only [List.append_nil]
      rw [List.getElem?_eq_none (by omega)]

theorem good_ms {d : Nat} {t et : TypeId} {l c : Operand} {el ec : E} {i : TypeInfo} {z : List V} (hi : INV γ σ w) (hf : FRep γ σ F a w lam) (hop : o.op = .makeSlice t l c) (hd : o.dst = some d)
    (hN : d < a.tmps.size) (ht : P.underlying t = some (.slice et)) (hti : P.info? et = some i) (hz : zeroC P et = some z) (hbytes : i.bytes ≤ 65536) (hsz : i.size = z.length) (hpos : 0 < i.size)
    (hl : compE 0 l = some el) (hc : compE 0 c = some ec) (h : resK K ((O.ms d z el ec).run F σ)) : Good P o a w γ K := by
  have vl := va_rep hf hl
  have vc := va_rep hf hc
  obtain ⟨i', zv, h1, h2, h3⟩ := vOfs_cells hz
  rw [hti] at h1
  cases h1
  simp only [O.run] at h
  cases hsx : F.va el <;> rw [hsx] at h vl <;> (try exact h.elim)
  cases hsy : F.va ec <;> rw [hsy] at h vc <;> (try exact h.elim)
  rename_i k n k' m
  simp only [msW, resK] at h
  obtain ⟨⟨g1, g2, g3⟩, h⟩ := h
  simp only [Rep] at vl vc
  have w1 : IntKind.i64.wrap n = n := by rw [IntKind.wrap_i64]; omega
  have w2 : IntKind.i64.wrap m = m := by rw [IntKind.wrap_i64]; omega
  have hzr := vOfs_rep γ _ _ h3
  have hzl := hzr.length
  simp only [Array.length_toList] at hzl
  have hr : (execOp a.eval o).run P w = .ok (.value (.slice (some ⟨w.heap.size, 0, none⟩) n.toNat m.toNat)) (pushed w (.cells ((Array.range (m.toNat * i.size)).map (zv.cells[· % zv.cells.size]!)) et)) := by
    have t0 : (i.bytes : Int) * m ≤ 65536 * 1073741824 := Int.mul_le_mul (by omega) (by omega) (by omega) (by omega)
    have t1 : (decide (m < 0) || decide ((i.bytes : Int) * m > 2 ^ 48) || decide (n < 0) || decide (n > m)) = false := by
      simp only [Bool.or_eq_false_iff, decide_eq_false_iff_not]
      omega
    have t2 : szOf P et = some i.size := by simp [szOf, hti]
    simp only [execOp, hop, Instr.makeSlice, Sem.run_bind, run_underlying ht, Result.andThen_ok, vl, vc, asInt, asIntOf, Sem.run_pure, run_typeInfo hti, w1, w2, t1, Bool.false_eq_true, if_false, run_askRoom, run_sizeOf t2]
    by_cases h0 : m.toNat * i.size = 0
    · have e0 : ∀ f g : Nat → Value, (Array.range 0).map f = (Array.range 0).map g := fun f g => by apply Array.ext'; simp
      simp only [h0, if_true, Sem.run_pure, Result.andThen_ok, newRow, Sem.run_bind, run_newObj, pushed]
      rw [e0 _ (fun x => zv.cells[x % zv.cells.size]!)]
    · simp [h0, newRow, pushed, run_zeroValue hti h2]
  refine good_row hi hf hd hN (.push w _) (Nat.le_refl _) hr (heap_push w _) (s := z.length) (es := List.replicate n.toNat z) (by simp) (by omega) (vs := (List.range (n.toNat * z.length)).map fun i => zv.cells.toList.toArray[i % zv.cells.toList.toArray.size]!)
    ?_ (repE_zeros hzr (vOfs_one h3) (by omega) _) ?_ (fun q _ hq => by omega) rfl (fun _ x => x) h
  · intro j x hx
    have hj : j < n.toNat * z.length := by have := (List.getElem?_eq_some_iff.1 hx).1; simpa using this
    have hj2 : j < m.toNat * i.size := Nat.lt_of_lt_of_le hj (by rw [hsz]; exact Nat.mul_le_mul_right _ (by omega))
    simp only [List.getElem?_map, List.getElem?_range hj, Option.map_some, Option.some.injEq] at hx
    rw [← hx]
    simp [hj2]
  · simp [hsz]

theorem bytesV_rep (s : List UInt8) : RepE γ 1 (bytesV s) (s.map fun b => Value.int .u8 b.toNat) := by
  induction s with
  | nil => simp [bytesV, RepE]
  | cons b t ih =>
    simp only [bytesV, List.map_cons, RepE, RepL, Rep]
    exact ⟨[.int .u8 b.toNat], _, rfl, rfl, ⟨_, [], rfl, rfl, rfl⟩, ih, by simp [Value.oneCell']⟩

theorem good_cB {d : Nat} {s t et : TypeId} {x : Operand} {ex : E} (hi : INV γ σ w) (hf : FRep γ σ F a w lam) (hop : o.op = .convert s t x) (hd : o.dst = some d) (hN : d < a.tmps.size)
    (hs : P.underlying s = some .string) (ht : P.underlying t = some (.slice et)) (he : P.underlying et = some (.int .u8)) (hx : compE 0 x = some ex) (h : resK K ((O.cB d ex).run F σ)) : Good P o a w γ K := by
  have vx := va_rep hf hx
  simp only [O.run] at h
  cases hsx : F.va ex <;> rw [hsx] at h vx <;> (try exact h.elim)
  rename_i m
  simp only [cBW, resK] at h
  simp only [Rep] at vx
  have hrun := Lib.run_convert_string_bytes (P := P) w s t et ⟨m.toArray⟩ hs ht he
  have hsz : (⟨m.toArray⟩ : ByteArray).size = m.length := by simp [ByteArray.size]
  have hcap : m.length ≤ grownCap w m.length 0 et := by simp only [grownCap, Question.cut]; omega
  rw [hsz] at hrun
  have hcs : (Lib.bytesCells w et ⟨m.toArray⟩).size = grownCap w m.length 0 et := by
    simp only [Lib.bytesCells, hsz, Array.size_append, Array.size_map, List.size_toArray, Array.size_replicate]
    omega
  have hold : ∀ (k : Nat) (x : Obj), w.heap[k]? = some x → (Lib.bytesWorld w et ⟨m.toArray⟩).heap[k]? = some x := fun k x hx => by
    rw [Lib.bytesWorld_at_old _ _ _ _ (lt_of_heap hx)]; exact hx
  have hb : But none w (Lib.bytesWorld w et ⟨m.toArray⟩) := ⟨by simp [Lib.bytesWorld, World.freeze]; rfl, by simp [Lib.bytesWorld, World.freeze], by simp [Lib.bytesWorld, World.freeze]; rfl, by rw [Lib.bytesWorld_size]; omega, fun k x _ hx => hold k x hx, by simp [Lib.bytesWorld, World.freeze]⟩
  refine good_row hi hf hd hN hb (Nat.le_refl _) (len := m.length) (cap := grownCap w m.length 0 et) (by simp [execOp, hop, vx, hrun]) (Lib.bytesWorld_at_new w et ⟨m.toArray⟩) (by simp [bytesV]) hcap
    (vs := m.map fun b => Value.int .u8 b.toNat) ?_ (bytesV_rep m) (by rw [hcs]; omega) (fun q hq => by rw [hcs]; omega) rfl (fun _ x => x) h (.inr rfl)
  intro i x hx
  have hi' : i < m.length := by have := (List.getElem?_eq_some_iff.1 hx).1; simpa using this
  simp only [Lib.bytesCells]
  rw [Array.getElem?_append_left (by simpa using hi')]
  simpa using hx
end
end Go.VL

namespace Go.VL
open Go

theorem growBy_le (need : Nat) : ∀ (rounds c : Nat), c ≤ 2 * need + 192 → Builtin.growBy need rounds c ≤ 2 * need + 192
  | 0, c, h => by simpa [Builtin.growBy] using h
  | r + 1, c, h => by
    simp only [Builtin.growBy]
    split
    · exact h
    · exact growBy_le need r _ (by omega)
theorem nextcap_le (need cap : Nat) (h : cap < need) : Builtin.nextslicecap need cap ≤ 2 * need + 192 := by
  unfold Builtin.nextslicecap
  split
  · omega
  · split
    · omega
    · exact growBy_le need 4 cap (by omega)

section
variable {P : Program} {γ : G} {σ : St} {F : Fr} {a : Act} {w : World} {lam : Nat → Nat} {o : Oper} {K : Fr → St → Prop}

/-- What a second operand brings, in memory. -/
theorem apE_ok (hi : INV γ σ w) {x : V} {v : Value} (hx : Rep γ x v) {s : Nat} {p : Prop × List (List V)} (h : apE σ.live s x = some p) (hp : p.1) :
    (Builtin.lenOf v).run P w = .ok p.2.length w ∧ ∃ xs : List Value, (Builtin.firstCells s p.2.length v).run P w = .ok xs.toArray w ∧ RepE γ s p.2 xs := by
  cases x <;> simp only [apE, reduceCtorEq, Option.some.injEq] at h
  case str l =>
    subst h
    simp only at hp
    subst hp
    simp only [Rep] at hx
    subst hx
    have hsz : (⟨l.toArray⟩ : ByteArray).size = l.length := by simp [ByteArray.size]
    refine ⟨by simp [Builtin.lenOf, hsz, bytesV], l.map fun b => Value.int .u8 b.toNat, ?_, bytesV_rep l⟩
    simp only [Builtin.firstCells, Sem.run_pure]
    congr 1
    apply Array.ext'
    simp [ByteArray.data_extract, bytesV]
  case sl b r s' es =>
    subst h
    obtain ⟨h1, h2⟩ := hp
    cases b with
    | true =>
      simp only [Rep] at hx
      obtain ⟨rfl, rfl⟩ := hx
      exact ⟨by simp [Builtin.lenOf], [], by simp [Builtin.firstCells], by simp [RepE]⟩
    | false =>
      have hrd : rd σ.live r := by rcases h1 with h1 | h1; exact absurd h1 (by simp); exact h1
      obtain ⟨c, cap, vs, rfl, e2, e3, e4, e5⟩ := sl_cells hi hx hrd
      refine ⟨by simp [Builtin.lenOf], vs, ?_, ?_⟩
      · rcases e2 with e2 | e2
        · have : vs = [] := by apply List.eq_nil_of_length_eq_zero; rw [e5.length, e2]; simp
          subst this
          simp [e2, Builtin.firstCells, loadCells, loadCellsFrom]
        obtain ⟨cb, co, cs⟩ := c
        simp only at e2
        subst e2
        simp only [Builtin.firstCells]
        rcases h2 with rfl | h2
        · rw [run_loadCells e4 (by rw [e5.length]; exact Nat.le_refl _), List.take_of_length_le (by rw [e5.length]; exact Nat.le_refl _)]
        · have : vs = [] := by apply List.eq_nil_of_length_eq_zero; rw [e5.length, h2]; simp
          subst this
          simp [h2, loadCells, loadCellsFrom]
      · rcases h2 with rfl | h2
        · exact e5
        · have : vs = [] := by apply List.eq_nil_of_length_eq_zero; rw [e5.length, h2]; simp
          subst this
          simp [h2, RepE]

theorem zeroCells_size (z : Array Value) (n : Nat) : (Builtin.zeroCells z n).size = n * z.size := by simp [Builtin.zeroCells]

/-- The shape of append's run, where there is room, and where a new block is made. -/
theorem run_append_room {c : Call} {t t2 : TypeId} {T2 : TypeDesc} {et : TypeId} {i : TypeInfo} {x y : Operand} (hcal : c.callee = .builtin .append) (hargs : c.args = #[x, y]) (hop : o.op = .call c)
    (h0 : c.argTypes[0]? = some t) (ht : P.underlying t = some (.slice et)) (h1 : c.argTypes[1]? = some t2) (ht2 : P.underlying t2 = some T2) (hT2 : isSS T2 = true) (hi : P.info? et = some i)
    {base : Option Addr} {len cap n : Nat} (hx : a.eval x = .slice base len cap) (hl : (Builtin.lenOf (a.eval y)).run P w = .ok n w) {xs : List Value} (hxs : (Builtin.firstCells i.size n (a.eval y)).run P w = .ok xs.toArray w)
    (hroom : len + n ≤ cap) {w' : World} (hst : ∀ a', base = some a' → (storeCells (a'.add (len * i.size)) xs).run P w = .ok () w') (hnone : base = none → w' = w) :
    (execOp a.eval o).run P w = .ok (.value (.slice base (len + n) cap)) w' := by
  have hsz : szOf P et = some i.size := by simp [szOf, hi]
  cases base with
  | none =>
    have := hnone rfl
    subst this
    cases T2 <;> simp only [isSS, Bool.false_eq_true] at hT2 <;>
      simp [execOp, hop, resolve, hcal, invoke, builtin, hargs, Builtin.append_, h0, h1, run_underlying ht, run_underlying ht2, run_sizeOf hsz, hx, hl, hxs, hroom]
  | some a' =>
    cases T2 <;> simp only [isSS, Bool.false_eq_true] at hT2 <;>
      simp [execOp, hop, resolve, hcal, invoke, builtin, hargs, Builtin.append_, h0, h1, run_underlying ht, run_underlying ht2, run_sizeOf hsz, hx, hl, hxs, hroom, hst a' rfl]

theorem run_append_grow {c : Call} {t t2 : TypeId} {T2 : TypeDesc} {et : TypeId} {i : TypeInfo} {zv : Value} {x y : Operand} (hcal : c.callee = .builtin .append) (hargs : c.args = #[x, y]) (hop : o.op = .call c)
    (h0 : c.argTypes[0]? = some t) (ht : P.underlying t = some (.slice et)) (h1 : c.argTypes[1]? = some t2) (ht2 : P.underlying t2 = some T2) (hT2 : isSS T2 = true) (hi : P.info? et = some i) (hzv : i.zero = some zv)
    (hbytes : i.bytes ≤ 65536)
    {base : Option Addr} {len cap n : Nat} (hx : a.eval x = .slice base len cap) (hl : (Builtin.lenOf (a.eval y)).run P w = .ok n w) {xs os : List Value}
    (hxs : (Builtin.firstCells i.size n (a.eval y)).run P w.drew = .ok xs.toArray w.drew) (hos : (Builtin.firstCells i.size len (.slice base len cap)).run P w.drew = .ok os.toArray w.drew)
    (hroom : ¬ len + n ≤ cap) (hbig : len + n ≤ 1073741824) :
    ∃ nc, len + n ≤ nc ∧ (execOp a.eval o).run P w = .ok (.value (.slice (some ⟨w.heap.size, 0, none⟩) (len + n) nc)) (pushed w.drew (.cells (os.toArray ++ (xs.toArray ++ Builtin.zeroCells zv.cells (nc - (len + n)))) et)) := by
  have hsz : szOf P et = some i.size := by simp [szOf, hi]
  refine ⟨(Question.appendCap (len + n) cap et).cut (w.tape w.drawn (.appendCap (len + n) cap et)), by simp only [Question.cut]; omega, ?_⟩
  have hn := nextcap_le (len + n) cap (by omega)
  have hb : ¬ (Builtin.nextslicecap (len + n) cap * i.bytes > 2 ^ 48) := by
    have : Builtin.nextslicecap (len + n) cap * i.bytes ≤ 4294967296 * 65536 := Nat.mul_le_mul (by omega) hbytes
    omega
  have hq : (Question.appendCap (len + n) cap et).forced = false := rfl
  cases T2 <;> simp only [isSS, Bool.false_eq_true] at hT2 <;>
    simp [execOp, hop, resolve, hcal, invoke, builtin, hargs, Builtin.append_, h0, h1, run_underlying ht, run_underlying ht2, run_sizeOf hsz, hx, hl, hroom, run_typeInfo hi]
  all_goals
    have hm : ¬ (9223372036854775807 < (len : Int) + (n : Int) ∧ i.bytes = 0) := by omega
    have hb' : ¬ (281474976710656 < Builtin.nextslicecap (len + n) cap * i.bytes) := by omega
    rw [if_neg hm, if_neg hb', hq]
    simp [hos, hxs, run_zeroValue hi hzv, newRow]
    rfl

theorem But.drew (w : World) : But none w w.drew := ⟨rfl, rfl, rfl, Nat.le_refl _, fun _ _ _ h => h, Nat.le_succ _⟩

theorem kill_sub {live : List Bool} {r : R} {q : Nat} (h : (kill live r)[q]? = some true) : live[q]? = some true := by
  cases r with
  | own r =>
    simp only [kill] at h
    by_cases e : r = q
    · subst e
      rw [List.getElem?_set, if_pos rfl] at h
      split at h <;> simp at h
    · rwa [List.getElem?_set_ne e] at h
  | pub => exact h
  | view r => exact h
theorem kill_length {live : List Bool} {r : R} : (kill live r).length = live.length := by cases r <;> simp [kill]
theorem kill_own {live : List Bool} {r q : Nat} (h : (kill live (.own r))[q]? = some true) : q ≠ r := by
  intro e
  subst e
  simp only [kill] at h
  rw [List.getElem?_set, if_pos rfl] at h
  split at h <;> simp at h

theorem good_ap {d : Nat} {c : Call} {t t2 : TypeId} {T2 : TypeDesc} {et : TypeId} {i : TypeInfo} {zv : Value} {x y : Operand} {ex ey : E} (hi : INV γ σ w) (hf : FRep γ σ F a w lam) (hcal : c.callee = .builtin .append)
    (hargs : c.args.toList = [x, y]) (hop : o.op = .call c) (hd : o.dst = some d) (hN : d < a.tmps.size)
    (h0 : c.argTypes[0]? = some t) (ht : P.underlying t = some (.slice et)) (h1 : c.argTypes[1]? = some t2) (ht2 : P.underlying t2 = some T2) (hT2 : isSS T2 = true) (hti : P.info? et = some i) (hzv : i.zero = some zv)
    (hbytes : i.bytes ≤ 65536) (hzs : zv.cells.size = i.size) (hx : compE 0 x = some ex) (hy : compE 0 y = some ey) (h : resK K ((O.ap d i.size ex ey).run F σ)) : Good P o a w γ K := by
  have vx := va_rep hf hx
  have vy := va_rep hf hy
  have ha : c.args = #[x, y] := by rw [← Array.toArray_toList (xs := c.args), hargs]
  simp only [O.run] at h
  cases hsx : F.va ex <;> rw [hsx] at h vx <;> (try exact h.elim)
  rename_i b r s' es
  simp only [apW] at h
  obtain ⟨hs', h⟩ := resK_also h
  cases hp : apE σ.live i.size (F.va ey) with
  | none => rw [hp] at h; exact h.elim
  | some p =>
    rw [hp] at h
    simp only [apR, resK] at h
    obtain ⟨⟨g1, g2, g3⟩, hK⟩ := h
    obtain ⟨hl, xs, hxs, hrep⟩ := apE_ok (P := P) hi vy hp g2
    obtain ⟨_, xs2, hxs2, hrep2⟩ := apE_ok (P := P) (hi.step (But.drew w)) vy hp g2
    have hxl := hrep.length
    have hsub : ∀ q : Nat, (kill σ.live r)[q]? = some true → σ.live[q]? = some true := fun q hq => kill_sub hq
    have hgrow : ∀ (base : Option Addr) (cap : Nat) (os : List Value), a.eval x = .slice base es.length cap → (Builtin.firstCells i.size es.length (.slice base es.length cap)).run P w.drew = .ok os.toArray w.drew → RepE γ i.size es os →
        ¬ es.length + p.2.length ≤ cap → (b && p.2.isEmpty) = false → Good P o a w γ K := by
      intro base cap os hxe hos hro hroom hbp
      obtain ⟨nc, hnc, hr⟩ := run_append_grow hcal ha hop h0 ht h1 ht2 hT2 hti hzv hbytes hxe hl hxs2 hos hroom g3
      have hul := hro.length
      have hxl2 := hrep2.length
      have hb : But none w (pushed w.drew (.cells (os.toArray ++ (xs2.toArray ++ Builtin.zeroCells zv.cells (nc - (es.length + p.2.length)))) et)) := (But.drew w).trans (.push w.drew _)
      rw [hbp] at hK
      refine good_row hi hf hd hN hb (Nat.le_refl w.heap.size) hr (heap_push w.drew _) (s := i.size) (es := es ++ p.2) (by simp) hnc (vs := os ++ xs2) ?_ (hro.append hrep2) ?_ (fun q _ hq => by omega) kill_length hsub hK
      · intro j v hv
        rw [← Array.append_assoc, Array.getElem?_append_left (by have := (List.getElem?_eq_some_iff.1 hv).1; simpa using this)]
        simpa using hv
      · simp only [Array.size_append, List.size_toArray, zeroCells_size, hzs, hul, hxl2]
        have : nc * i.size = es.length * i.size + (p.2.length * i.size + (nc - (es.length + p.2.length)) * i.size) := by
          rw [← Nat.add_mul, ← Nat.add_mul]
          congr 1
          omega
        omega
    cases b with
    | true =>
      simp only [Rep] at vx
      obtain ⟨rfl, vx⟩ := vx
      by_cases hpe : p.2 = []
      · have hr := run_append_room (P := P) (w := w) (w' := w) (base := none) (len := 0) (cap := 0) hcal ha hop h0 ht h1 ht2 hT2 hti vx hl hxs (by simp [hpe]) (fun a' e => by cases e) (fun _ => rfl)
        have hfr := (hi.free_new (Nat.le_refl w.heap.size)).mono hsub
        obtain ⟨k1, k2⟩ := hi.right (.refl (some w.heap.size) w) (kill_length (r := r)) hsub hfr (v := .nilFunc) (s := 0) (es := []) (f := false) (fun e => by cases e)
        simp only [hpe, List.isEmpty_nil, Bool.and_self, Bool.not_true] at hK
        refine ⟨_, w, _, _, _, lam, _, hr, .inl rfl, k2, k1, ?_, hK⟩
        rw [hd]
        refine (hf.right (.refl (some w.heap.size) w) (by rw [kill_length, hi.rholen]) hsub (fun j cs hj => by have := lam_lt hf hj; omega) (fun e => by cases e)).set ?_ hN
        simp [SRep, Rep, hpe]
      · exact hgrow none 0 [] (by simpa using vx) (by simp [Builtin.firstCells]) (by simp [RepE]) (by
          have : 0 < p.2.length := List.length_pos_iff.2 hpe
          simp; omega) (by simp [hpe])
    | false =>
      have hs : s' = i.size := by rcases hs' with e | e; exact absurd e (by simp); exact e
      subst hs
      cases r with
      | pub => simp [St.ow] at g1
      | view r => simp [St.ow] at g1
      | own r =>
        have hlive : σ.live[r]? = some true := by simpa [St.ow] using g1
        simp only [Rep] at vx
        obtain ⟨c1, cap, e1, e2, e3, e4⟩ := vx
        obtain ⟨c2, cap2, f1, _, _, f4, f5, f6, cc, ce, cz, vs, k1, k2, k3, k4, k5⟩ := hi.own r _ _ _ hlive e4
        rw [e1] at f1
        cases f1
        have hvl := k3.length
        by_cases hroom : es.length + p.2.length ≤ cap
        · -- in place
          have hspot : c1.add (es.length * i.size) = ⟨c1.block, c1.off + es.length * i.size, none⟩ := add_spot e2 _
          have hone := hrep.one
          have hmul : (es.length + p.2.length) * i.size ≤ cap * i.size := Nat.mul_le_mul_right _ hroom
          rw [Nat.add_mul] at hmul
          obtain ⟨w', r1, r2, cc', r3, r4⟩ := run_storeCells (P := P) xs w c1.block (c1.off + es.length * i.size) 0 cc ce cz k1 (by omega) (fun j h1 h2 => k5 j (by omega) (by omega)) hone
          have hr := run_append_room (P := P) (w := w) (w' := w') hcal ha hop h0 ht h1 ht2 hT2 hti e1 hl hxs hroom (fun a' e => by cases e; rw [hspot]; exact r1) (fun e => by cases e)
          have hfr : Free γ ⟨σ.objs, kill σ.live (.own r)⟩ c1.block := ⟨f4, f5, f6, fun q v s es' h1 h2 h3 => by
            have hq := kill_own h1
            exact hq (hi.apart q r _ _ _ _ _ _ c1.block (kill_sub (live := σ.live) (r := .own r) h1) hlive h2 e4 h3 (by rw [e1]; rfl))⟩
          have hle : LeR γ { γ with rho := γ.rho ++ [(.slice (some c1) (es ++ p.2).length cap, i.size, es ++ p.2)] } := ⟨fun _ _ x => x, fun i c hi => by
            show (γ.rho ++ [_])[i]? = some c
            rw [List.getElem?_append_left (List.getElem?_eq_some_iff.1 hi).1]; exact hi, fun _ _ _ x => x⟩
          have hsize : cc'.size = cc.size := by
            have := congrArg List.length r4
            simp only [Array.length_toList, List.length_append, List.length_take, List.length_drop] at this
            omega
          have hcells : ∀ (j : Nat) (v : Value), (vs ++ xs)[j]? = some v → cc'[c1.off + j]? = some v := by
            intro j v hv
            have e5 : cc'[c1.off + j]? = cc'.toList[c1.off + j]? := by simp
            rw [e5, r4]
            by_cases hj : j < vs.length
            · rw [List.getElem?_append_left hj] at hv
              rw [List.append_assoc, List.getElem?_append_left (by simp; omega), List.getElem?_take, if_pos (by omega)]
              simpa using k2 _ _ hv
            · rw [List.getElem?_append_right (by omega)] at hv
              have hjl := (List.getElem?_eq_some_iff.1 hv).1
              rw [List.append_assoc, List.getElem?_append_right (by simp; omega), List.getElem?_append_left (by simp; omega), ← hv]
              congr 1
              simp; omega
          have hown : OwnAt { γ with rho := γ.rho ++ [(.slice (some c1) (es ++ p.2).length cap, i.size, es ++ p.2)] } w' (.slice (some c1) (es ++ p.2).length cap) i.size (es ++ p.2) :=
            ⟨c1, cap, rfl, e2, by simpa using hroom, f4, f5, f6, cc', ce, cz, vs ++ xs, r3, hcells, RepE.mono hle _ _ _ (k3.append hrep), by rw [hsize]; exact k4, k5⟩
          obtain ⟨m1, m2⟩ := hi.right r2 (kill_length (r := .own r)) hsub hfr (f := true) (fun _ => ⟨rfl, hown⟩)
          simp only [Bool.false_and, Bool.not_false] at hK
          refine ⟨_, w', _, _, _, lam, _, hr, .inl rfl, m2, m1, ?_, hK⟩
          rw [hd]
          refine (hf.right r2 (by rw [kill_length, hi.rholen]) hsub (fun j cs hj e => ?_) (fun _ => rfl)).set ?_ hN
          · exact (hf.l j cs hj).own r _ _ _ hlive e4 (by rw [e1, e]; rfl)
          · simp only [SRep, Rep]
            exact ⟨c1, cap, by simp, e2, by simpa using hroom, by rw [← hi.rholen]; simp⟩
        · refine hgrow (some c1) cap vs e1 ?_ k3 hroom (by simp)
          obtain ⟨cb, co, cs⟩ := c1
          simp only at e2
          subst e2
          simp only [Builtin.firstCells]
          rw [run_loadCells (P := P) (w := w.drew) (vs := vs) (fun j v hv => by
            have : w.drew.heap[cb]? = some (.cells cc ce cz) := k1
            rw [cell_of_heap this]; exact k2 _ _ hv) (by omega), List.take_of_length_le (by omega)]
end
end Go.VL

namespace Go.VL
open Go

section
variable {P : Program} {γ : G} {σ : St} {F : Fr} {a : Act} {w : World} {lam : Nat → Nat} {o : Oper} {K : Fr → St → Prop}

theorem RepE.set {s q : Nat} {xs : List V} {ws : List Value} (hx : RepL γ xs ws) (ho : ∀ v ∈ ws, v.oneCell' = true) : ∀ {es : List (List V)} {vs : List Value} {i : Nat} {cs : List V}, RepE γ s es vs → es[i]? = some cs →
    q + xs.length ≤ cs.length → RepE γ s (es.set i (over cs q xs)) (vs.take (i * s + q) ++ ws ++ vs.drop (i * s + q + ws.length))
  | [], _, _, _, _, h, _ => by simp at h
  | c :: es, vs, i, cs, hr, h, hq => by
    simp only [RepE] at hr
    obtain ⟨w0, us, rfl, h2, h3, h4, h5⟩ := hr
    have hl0 := h3.length
    have hlx := hx.length
    cases i with
    | zero =>
      simp only [List.getElem?_cons_zero, Option.some.injEq] at h
      subst h
      simp only [List.set_cons_zero, RepE]
      refine ⟨w0.take q ++ ws ++ w0.drop (q + ws.length), us, ?_, ?_, over_rep h3 hx q, h4, ?_⟩
      · rw [Nat.zero_mul, Nat.zero_add, List.take_append_of_le_length (by omega), List.drop_append_of_le_length (by omega)]
        simp
      · simp only [over, List.length_append, List.length_take, List.length_drop]
        omega
      · intro v hv
        rcases List.mem_append.1 hv with hv | hv
        · rcases List.mem_append.1 hv with hv | hv
          · exact h5 v (List.mem_of_mem_take hv)
          · exact ho v hv
        · exact h5 v (List.mem_of_mem_drop hv)
    | succ i =>
      simp only [List.getElem?_cons_succ] at h
      have ih := RepE.set hx ho h4 h hq
      simp only [List.set_cons_succ, RepE]
      refine ⟨w0, _, ?_, h2, h3, ih, h5⟩
      have e : (i + 1) * s + q = w0.length + (i * s + q) := by rw [← hl0, h2, Nat.succ_mul]; omega
      rw [e, List.take_append, List.take_of_length_le (by omega), show w0.length + (i * s + q) - w0.length = i * s + q from by omega, Nat.add_assoc, List.drop_append,
        List.drop_eq_nil_of_le (by omega), show w0.length + (i * s + q + ws.length) - w0.length = i * s + q + ws.length from by omega]
      simp

theorem sget_renL {r r' s : Nat} {es : List (List V)} (t : Nat) : ∀ (l : List (Nat × S)), sget t (renL r r' s es l) = renS r r' s es (sget t l)
  | [] => rfl
  | p :: l => by
    simp only [renL, sget]
    cases Nat.beq p.1 t with
    | true => rfl
    | false => simp only [cond_false]; exact sget_renL t l

theorem lget_renF {r r' s : Nat} {es : List (List V)} (k : Nat) : ∀ (l : List (Nat × List V)), lget k (renF r r' s es l) = (lget k l).map (List.map (renV r r' s es))
  | [] => rfl
  | p :: l => by
    simp only [renF, lget]
    cases Nat.beq p.1 k with
    | true => rfl
    | false => simp only [cond_false]; exact lget_renF k l
theorem rep_renV {γ : G} {r r' s : Nat} {es es' : List (List V)} {c : Addr} {cap n : Nat} (h1 : γ.rho[r]? = some (.slice (some c) n cap, s, es)) (h2 : γ.rho[r']? = some (.slice (some c) n cap, s, es')) (hl : es'.length = es.length) :
    ∀ {x : V} {v : Value}, Rep γ x v → Rep γ (renV r r' s es' x) v := by
  intro x v
  cases x with
  | sl b R s0 l =>
    cases b with
    | true => exact id
    | false =>
      cases R with
      | pub => exact id
      | view _ => exact id
      | own q0 =>
        simp only [renV]
        cases hb : Nat.beq q0 r with
        | false => exact id
        | true =>
          have := Nat.eq_of_beq_eq_true hb
          subst this
          simp only [cond_true, Rep]
          rintro ⟨ad, cap0, x1, x2, x3, x4⟩
          have x5 : some (_, _, _) = some (_, _, _) := x4.symm.trans h1
          simp only [Option.some.injEq, Prod.mk.injEq] at x5
          obtain ⟨y1, rfl, rfl⟩ := x5
          rw [x1] at y1
          simp only [Value.slice.injEq, Option.some.injEq] at y1
          obtain ⟨rfl, rfl, rfl⟩ := y1
          exact ⟨ad, cap0, by rw [x1, hl], x2, by rw [hl]; exact x3, by rw [x1]; exact h2⟩
  | _ => exact id
theorem repL_renV {γ : G} {r r' s : Nat} {es es' : List (List V)} {c : Addr} {cap n : Nat} (h1 : γ.rho[r]? = some (.slice (some c) n cap, s, es)) (h2 : γ.rho[r']? = some (.slice (some c) n cap, s, es')) (hl : es'.length = es.length) :
    ∀ {xs : List V} {vs : List Value}, RepL γ xs vs → RepL γ (xs.map (renV r r' s es')) vs
  | [], _, h => h
  | x :: xs, _, h => by
    simp only [RepL] at h
    obtain ⟨v, ws, rfl, a1, a2⟩ := h
    simp only [List.map_cons, RepL]
    exact ⟨v, ws, rfl, rep_renV h1 h2 hl a1, repL_renV h1 h2 hl a2⟩
theorem frep_ren {r r' s n cap : Nat} {c : Addr} {es es' : List (List V)} (hf : FRep γ σ F a w lam) (h1 : γ.rho[r]? = some (.slice (some c) n cap, s, es)) (h2 : γ.rho[r']? = some (.slice (some c) n cap, s, es')) (hl : es'.length = es.length) :
    FRep γ σ ⟨renL r r' s es' F.s, renF r r' s es' F.l⟩ a w lam := by
  refine ⟨fun t => ?_, fun k cs' hk => ?_, fun k k' cs1 cs2 g1 g2 => ?_⟩
  · have ht := hf.s t
    simp only [sget_renL]
    revert ht
    cases sget t F.s with
    | loc k o => exact id
    | v z =>
      cases z with
      | sl b R s0 l =>
        intro ht
        have h := rep_renV h1 h2 hl (x := .sl b R s0 l) ht
        cases b with
        | true => exact ht
        | false =>
          cases R with
          | pub => exact ht
          | view _ => exact ht
          | own q0 =>
            simp only [renS]
            simp only [renV] at h
            cases hb : Nat.beq q0 r with
            | false => exact ht
            | true => rw [hb] at h; exact h
      | elt R s0 l i0 o0 =>
        cases R with
        | pub => exact id
        | view _ => exact id
        | own q0 =>
          simp only [renS]
          cases hb : Nat.beq q0 r with
          | false => exact id
          | true =>
            have := Nat.eq_of_beq_eq_true hb
            subst this
            simp only [cond_true, SRep, Rep]
            rintro ⟨ad, cap0, x1, x2, x3, x4⟩
            have x5 : some (_, _, _) = some (_, _, _) := x3.symm.trans h1
            simp only [Option.some.injEq, Prod.mk.injEq, Value.slice.injEq] at x5
            obtain ⟨⟨rfl, rfl, rfl⟩, rfl, rfl⟩ := x5
            exact ⟨ad, cap0, x1, by rw [hl]; exact x2, by rw [hl]; exact h2, x4⟩
      | _ => exact id
  · rw [lget_renF] at hk
    cases hg : lget k F.l with
    | none => rw [hg] at hk; cases hk
    | some cs0 =>
      rw [hg] at hk
      simp only [Option.map_some, Option.some.injEq] at hk
      subst hk
      obtain ⟨⟨us', e', z1, z2⟩, b2, b3, b4, b5⟩ := hf.l k cs0 hg
      exact ⟨⟨us', e', z1, repL_renV h1 h2 hl z2⟩, b2, b3, b4, b5⟩
  · rw [lget_renF] at g1 g2
    cases hg1 : lget k F.l with
    | none => rw [hg1] at g1; cases g1
    | some c1 =>
      cases hg2 : lget k' F.l with
      | none => rw [hg2] at g2; cases g2
      | some c2 => exact hf.inj k k' c1 c2 hg1 hg2
theorem repE_map {γ : G} {f : V → V} (hf : ∀ {x : V} {u : Value}, Rep γ x u → Rep γ (f x) u) {s : Nat} : ∀ {es : List (List V)} {vs : List Value}, RepE γ s es vs → RepE γ s (es.map (List.map f)) vs
  | [], _, h => h
  | cs :: es, _, h => by
    simp only [RepE] at h
    obtain ⟨ws, us, rfl, h1, h2, h3, h4⟩ := h
    simp only [List.map_cons, RepE]
    refine ⟨ws, us, rfl, by rw [List.length_map]; exact h1, ?_, repE_map hf h3, h4⟩
    have : ∀ {xs : List V} {vs : List Value}, RepL γ xs vs → RepL γ (xs.map f) vs := fun {xs} => by
      induction xs with
      | nil => intro vs h; exact h
      | cons x xs ih =>
        intro vs h
        simp only [RepL] at h
        obtain ⟨v, ws, rfl, a1, a2⟩ := h
        simp only [List.map_cons, RepL]
        exact ⟨v, ws, rfl, hf a1, ih a2⟩
    exact this h2
/-- A slice's content told anew. -/
theorem ren_step {q t : Nat} {l : List (List V)} {v : Value} {f : V → V} (hi : INV γ σ w) (hf : FRep γ σ F a w lam) (hlive : σ.live[q]? = some true) (hrho : γ.rho[q]? = some (v, t, l)) (hfn : ∀ {x : V} {u : Value}, Rep γ x u → Rep γ (f x) u) :
    ∃ γ', Le γ γ' ∧ INV γ' ⟨σ.objs, σ.live.set q false ++ [true]⟩ w ∧ FRep γ' ⟨σ.objs, σ.live.set q false ++ [true]⟩ ⟨renL q σ.live.length t (l.map (List.map f)) F.s, renF q σ.live.length t (l.map (List.map f)) F.l⟩ a w lam := by
  obtain ⟨c, cap, rfl, hsp, f3, f4, f5, f6, cc, ce, cz, vs, k1, k2, k3, k4, k5⟩ := hi.own q _ _ _ hlive hrho
  have hfr : Free γ ⟨σ.objs, kill σ.live (.own q)⟩ c.block := ⟨f4, f5, f6, fun q' v s es' h1 h2 h3 => by
    have hq := kill_own h1
    exact hq (hi.apart q' q _ _ _ _ _ _ c.block (kill_sub (live := σ.live) (r := .own q) h1) hlive h2 hrho h3 rfl)⟩
  have hsub : ∀ q' : Nat, (kill σ.live (.own q))[q']? = some true → σ.live[q']? = some true := fun q' hq => kill_sub hq
  have hsame : (l.map (List.map f)).length = l.length := List.length_map _
  have hle : LeR γ { γ with rho := γ.rho ++ [(.slice (some c) (l.map (List.map f)).length cap, t, l.map (List.map f))] } := ⟨fun _ _ x => x, fun i c hi => by
    show (γ.rho ++ [_])[i]? = some c
    rw [List.getElem?_append_left (List.getElem?_eq_some_iff.1 hi).1]; exact hi, fun _ _ _ x => x⟩
  have hown : OwnAt { γ with rho := γ.rho ++ [(.slice (some c) (l.map (List.map f)).length cap, t, l.map (List.map f))] } w (.slice (some c) (l.map (List.map f)).length cap) t (l.map (List.map f)) :=
    ⟨c, cap, rfl, hsp, by rw [hsame]; exact f3, f4, f5, f6, cc, ce, cz, _, k1, k2, RepE.mono hle _ _ _ (repE_map hfn k3), k4, k5⟩
  obtain ⟨n1, n2⟩ := hi.right (But.refl (some c.block) w) (kill_length (r := .own q)) hsub hfr (f := true) (fun _ => ⟨rfl, hown⟩)
  have hf' := hf.right (v := .slice (some c) (l.map (List.map f)).length cap) (s := t) (es := l.map (List.map f)) (f := true) (But.refl (some c.block) w) (live := kill σ.live (.own q)) (by rw [kill_length, hi.rholen]) hsub
    (fun j cs hj e => (hf.l j cs hj).own q _ _ _ hlive hrho (by rw [e]; rfl)) (fun _ => rfl)
  have hold := hle.rho _ _ hrho
  rw [← hsame] at hold
  have hnew : (γ.rho ++ [(Value.slice (some c) (l.map (List.map f)).length cap, t, l.map (List.map f))])[σ.live.length]? = some (.slice (some c) (l.map (List.map f)).length cap, t, l.map (List.map f)) := by
    rw [← hi.rholen]; simp
  exact ⟨_, n2, n1, frep_ren hf' hold hnew hsame⟩
theorem good_se {n : Nat} {t : TypeId} {x y : Operand} {ex ey : E} (hi : INV γ σ w) (hf : FRep γ σ F a w lam) (hop : o.op = .store t x y) (hd : o.dst = none)
    (hn : szOf P t = some n) (hx : compE 0 x = some ex) (hy : compE 0 y = some ey) (h : resK K ((O.se ex ey n).run F σ)) : Good P o a w γ K := by
  have vx := va_rep hf hx
  have vy := va_rep hf hy
  simp only [O.run] at h
  cases hc : cellsOf (F.va ey) with
  | none => rw [hc] at h; exact h.elim
  | some xs =>
    rw [hc] at h
    simp only [seC] at h
    obtain ⟨⟨h1, h2⟩, h⟩ := resK_also h
    have hr := cells_rep vy hc
    have hone := flats_cells h2 hr
    have hl := hr.length
    cases hsx : F.va ex <;> rw [hsx] at h vx <;> (try exact h.elim)
    rename_i R s es i q
    cases R with
    | pub => exact h.elim
    | view r => exact h.elim
    | own r =>
      simp only [seV] at h
      cases hcs : es[i]? with
      | none => rw [hcs] at h; exact h.elim
      | some cs =>
        rw [hcs] at h
        simp only [seO, resK] at h
        obtain ⟨⟨hlive, hq⟩, hK⟩ := h
        simp only [Rep] at vx
        obtain ⟨c, cap, e1, hlt, hrho, hsp⟩ := vx
        obtain ⟨c2, cap2, f1, _, f3, f4, f5, f6, cc, ce, cz, vs, k1, k2, k3, k4, k5⟩ := hi.own r _ _ _ hlive hrho
        simp only [Value.slice.injEq, Option.some.injEq] at f1
        obtain ⟨rfl, _, rfl⟩ := f1
        generalize hws : (a.eval y).cells.toList = ws at hr hone hl
        have hvl := k3.length
        obtain ⟨us, m1, m2, m3⟩ := k3.get hcs
        have hmul : es.length * s ≤ cap * s := Nat.mul_le_mul_right _ f3
        have hmul2 : (i + 1) * s ≤ es.length * s := Nat.mul_le_mul_right _ hlt
        rw [Nat.succ_mul] at hmul2
        obtain ⟨w', r1, r2, cc', r3, r4⟩ := run_storeCells (P := P) ws w c.block (c.off + i * s + q) 0 cc ce cz k1 (by omega) (fun j h1 h2 => k5 j (by omega) (by omega)) hone
        have hrun : (execOp a.eval o).run P w = .ok .skip w' := by
          have hsz : ¬ ((a.eval y).cells.size ≠ n) := by
            have := congrArg List.length hws
            simp at this ⊢
            omega
          simp [execOp, hop, e1, Instr.storeAt, Instr.sureAddr, storeVar, run_sizeOf hn, hsz, hws, r1]
        have hfr : Free γ ⟨σ.objs, kill σ.live (.own r)⟩ c.block := ⟨f4, f5, f6, fun q v s es' h1 h2 h3 => by
          have hq := kill_own h1
          exact hq (hi.apart q r _ _ _ _ _ _ c.block (kill_sub (live := σ.live) (r := .own r) h1) hlive h2 hrho h3 rfl)⟩
        have hsub : ∀ q : Nat, (kill σ.live (.own r))[q]? = some true → σ.live[q]? = some true := fun q hq => kill_sub hq
        have hle : LeR γ { γ with rho := γ.rho ++ [(.slice (some c) (es.set i (over cs q xs)).length cap, s, es.set i (over cs q xs))] } := ⟨fun _ _ x => x, fun i c hi => by
          show (γ.rho ++ [_])[i]? = some c
          rw [List.getElem?_append_left (List.getElem?_eq_some_iff.1 hi).1]; exact hi, fun _ _ _ x => x⟩
        have hsize : cc'.size = cc.size := by
          have := congrArg List.length r4
          simp only [Array.length_toList, List.length_append, List.length_take, List.length_drop] at this
          omega
        have hcells : ∀ (j : Nat) (v : Value), (vs.take (i * s + q) ++ ws ++ vs.drop (i * s + q + ws.length))[j]? = some v → cc'[c.off + j]? = some v := by
          intro j v hv
          have e5 : cc'[c.off + j]? = cc'.toList[c.off + j]? := by simp
          rw [e5, r4]
          by_cases hj : j < i * s + q
          · rw [List.append_assoc, List.getElem?_append_left (by simp; omega), List.getElem?_take, if_pos hj] at hv
            rw [List.append_assoc, List.getElem?_append_left (by simp; omega), List.getElem?_take, if_pos (by omega)]
            simpa using k2 _ _ hv
          · rw [List.append_assoc, List.getElem?_append_right (by simp; omega)] at hv
            rw [List.append_assoc, List.getElem?_append_right (by simp; omega)]
            simp only [List.length_take, Array.length_toList] at hv ⊢
            by_cases hj2 : j < i * s + q + ws.length
            · rw [List.getElem?_append_left (by omega)] at hv
              rw [List.getElem?_append_left (by omega), ← hv]
              congr 1
              omega
            · rw [List.getElem?_append_right (by omega), List.getElem?_drop] at hv
              rw [List.getElem?_append_right (by omega), List.getElem?_drop]
              have := k2 _ _ hv
              rw [Array.getElem?_toList, ← this]
              congr 1
              omega
        have hown : OwnAt { γ with rho := γ.rho ++ [(.slice (some c) (es.set i (over cs q xs)).length cap, s, es.set i (over cs q xs))] } w' (.slice (some c) (es.set i (over cs q xs)).length cap) s (es.set i (over cs q xs)) :=
          ⟨c, cap, rfl, hsp, by simpa using f3, f4, f5, f6, cc', ce, cz, _, r3, hcells, RepE.mono hle _ _ _ (RepE.set hr hone k3 hcs hq), by rw [hsize]; exact k4, k5⟩
        obtain ⟨n1, n2⟩ := hi.right r2 (kill_length (r := .own r)) hsub hfr (f := true) (fun _ => ⟨rfl, hown⟩)
        refine ⟨_, w', _, _, _, lam, undef, hrun, .inr ⟨rfl, rfl⟩, n2, n1, ?_, hK⟩
        rw [hd]
        have hf' := hf.right (v := .slice (some c) (es.set i (over cs q xs)).length cap) (s := s) (es := es.set i (over cs q xs)) (f := true) r2 (live := kill σ.live (.own r)) (by rw [kill_length, hi.rholen]) hsub
          (fun j cs hj e => (hf.l j cs hj).own r _ _ _ hlive hrho (by rw [e]; rfl)) (fun _ => rfl)
        have hnew0 : (γ.rho ++ [(Value.slice (some c) (es.set i (over cs q xs)).length cap, s, es.set i (over cs q xs))])[σ.live.length]? = some (.slice (some c) (es.set i (over cs q xs)).length cap, s, es.set i (over cs q xs)) := by
          rw [← hi.rholen]; simp
        have hold0 := hle.rho _ _ hrho
        have hsame : (es.set i (over cs q xs)).length = es.length := List.length_set
        refine ⟨fun t => ?_, fun k cs' hk => ?_, fun k k' cs1 cs2 h1 h2 => ?_⟩
        rotate_left
        · rw [lget_renF] at hk
          cases hg : lget k F.l with
          | none => rw [hg] at hk; cases hk
          | some cs0 =>
            rw [hg] at hk
            simp only [Option.map_some, Option.some.injEq] at hk
            subst hk
            obtain ⟨⟨us', e', z1, z2⟩, b2, b3, b4, b5⟩ := hf'.l k cs0 hg
            exact ⟨⟨us', e', z1, repL_renV (by rw [← hsame] at hold0; exact hold0) hnew0 hsame z2⟩, b2, b3, b4, b5⟩
        · rw [lget_renF] at h1 h2
          cases hg1 : lget k F.l with
          | none => rw [hg1] at h1; cases h1
          | some c1 =>
            cases hg2 : lget k' F.l with
            | none => rw [hg2] at h2; cases h2
            | some c2 => exact hf'.inj k k' c1 c2 hg1 hg2
        have ht := hf'.s t
        simp only [sget_renL]
        have hnew : (γ.rho ++ [(Value.slice (some c) (es.set i (over cs q xs)).length cap, s, es.set i (over cs q xs))])[σ.live.length]? = some (.slice (some c) (es.set i (over cs q xs)).length cap, s, es.set i (over cs q xs)) := by
          rw [← hi.rholen]; simp
        have hold := hle.rho _ _ hrho
        show SRep _ lam (renS r σ.live.length s (es.set i (over cs q xs)) (sget t F.s)) _
        have ht : SRep _ lam (sget t F.s) ((Act.put a none undef).tmps.getD t undef) := ht
        revert ht
        cases sget t F.s with
        | loc k o => exact id
        | v z =>
          cases z with
          | sl b R s0 l =>
            cases b with
            | true => exact id
            | false =>
              cases R with
              | pub => exact id
              | view _ => exact id
              | own q0 =>
                simp only [renS]
                cases hb : Nat.beq q0 r with
                | false => exact id
                | true =>
                  have := Nat.eq_of_beq_eq_true hb
                  subst this
                  simp only [cond_true, SRep, Rep]
                  rintro ⟨ad, cap0, x1, x2, x3, x4⟩
                  have x5 : some (_, _, _) = some (_, _, _) := x4.symm.trans hold
                  simp only [Option.some.injEq, Prod.mk.injEq] at x5
                  obtain ⟨y1, rfl, rfl⟩ := x5
                  rw [x1] at y1
                  simp only [Value.slice.injEq, Option.some.injEq] at y1
                  obtain ⟨rfl, _, rfl⟩ := y1
                  exact ⟨ad, cap0, by rw [x1]; simp, x2, by simpa using x3, by rw [x1]; simpa using hnew⟩
          | elt R s0 l i0 o0 =>
            cases R with
            | pub => exact id
            | view _ => exact id
            | own q0 =>
              simp only [renS]
              cases hb : Nat.beq q0 r with
              | false => exact id
              | true =>
                have := Nat.eq_of_beq_eq_true hb
                subst this
                simp only [cond_true, SRep, Rep]
                rintro ⟨ad, cap0, x1, x2, x3, x4⟩
                have x5 : some (_, _, _) = some (_, _, _) := x3.symm.trans hold
                simp only [Option.some.injEq, Prod.mk.injEq, Value.slice.injEq] at x5
                obtain ⟨⟨rfl, _, rfl⟩, rfl, rfl⟩ := x5
                exact ⟨ad, cap0, x1, by simpa using x2, hnew, x4⟩
          | _ => exact id
theorem good_sn {n p : Nat} {t : TypeId} {x y : Operand} {ex ey : E} (hi : INV γ σ w) (hf : FRep γ σ F a w lam) (hop : o.op = .store t x y) (hd : o.dst = none)
    (hn : szOf P t = some n) (hx : compE 0 x = some ex) (hy : compE 0 y = some ey) (h : resK K ((O.sn ex ey n p).run F σ)) : Good P o a w γ K := by
  have vx := va_rep hf hx
  have vy := va_rep hf hy
  simp only [O.run] at h
  cases hc : cellsOf (F.va ey) with
  | none => rw [hc] at h; exact h.elim
  | some xs =>
    rw [hc] at h
    simp only [snC] at h
    obtain ⟨⟨h1, h2⟩, h⟩ := resK_also h
    have hr := cells_rep vy hc
    have hone := flats_cells h2 hr
    have hl := hr.length
    cases hsx : F.va ex <;> rw [hsx] at h vx <;> (try exact h.elim)
    rename_i R s es i q
    cases R with
    | pub => exact h.elim
    | view r => exact h.elim
    | own r =>
      simp only [snV] at h
      cases hcs : es[i]? with
      | none => rw [hcs] at h; exact h.elim
      | some cs =>
        rw [hcs] at h
        simp only [snO] at h
        obtain ⟨⟨hlive, hq⟩, h⟩ := resK_also h
        have vp := hf.s p
        cases hsp2 : sget p F.s with
        | loc _ _ => rw [hsp2] at h; exact h.elim
        | v zp =>
        rw [hsp2] at h vp
        cases zp <;> (try exact h.elim)
        rename_i bp Rp tp lp
        cases bp <;> (try exact h.elim)
        cases Rp <;> (try exact h.elim)
        rename_i qp
        simp only [snP, resK] at h
        obtain ⟨hlive2, hK⟩ := h
        simp only [SRep, Rep] at vp
        obtain ⟨adp, capp, p1, p2, p3, p4⟩ := vp
        simp only [Rep] at vx
        obtain ⟨c, cap, e1, hlt, hrho, hsp⟩ := vx
        obtain ⟨c2, cap2, f1, _, f3, f4, f5, f6, cc, ce, cz, vs, k1, k2, k3, k4, k5⟩ := hi.own r _ _ _ hlive hrho
        simp only [Value.slice.injEq, Option.some.injEq] at f1
        obtain ⟨rfl, _, rfl⟩ := f1
        generalize hws : (a.eval y).cells.toList = ws at hr hone hl
        have hvl := k3.length
        obtain ⟨us, m1, m2, m3⟩ := k3.get hcs
        have hmul : es.length * s ≤ cap * s := Nat.mul_le_mul_right _ f3
        have hmul2 : (i + 1) * s ≤ es.length * s := Nat.mul_le_mul_right _ hlt
        rw [Nat.succ_mul] at hmul2
        obtain ⟨w', r1, r2, cc', r3, r4⟩ := run_storeCells (P := P) ws w c.block (c.off + i * s + q) 0 cc ce cz k1 (by omega) (fun j h1 h2 => k5 j (by omega) (by omega)) hone
        have hrun : (execOp a.eval o).run P w = .ok .skip w' := by
          have hsz : ¬ ((a.eval y).cells.size ≠ n) := by
            have := congrArg List.length hws
            simp at this ⊢
            omega
          simp [execOp, hop, e1, Instr.storeAt, Instr.sureAddr, storeVar, run_sizeOf hn, hsz, hws, r1]
        have hfr : Free γ ⟨σ.objs, kill σ.live (.own r)⟩ c.block := ⟨f4, f5, f6, fun q v s es' h1 h2 h3 => by
          have hq := kill_own h1
          exact hq (hi.apart q r _ _ _ _ _ _ c.block (kill_sub (live := σ.live) (r := .own r) h1) hlive h2 hrho h3 rfl)⟩
        have hsub : ∀ q : Nat, (kill σ.live (.own r))[q]? = some true → σ.live[q]? = some true := fun q hq => kill_sub hq
        have hle : LeR γ { γ with rho := γ.rho ++ [(.slice (some c) (es.set i (over cs q xs)).length cap, s, es.set i (over cs q xs))] } := ⟨fun _ _ x => x, fun i c hi => by
          show (γ.rho ++ [_])[i]? = some c
          rw [List.getElem?_append_left (List.getElem?_eq_some_iff.1 hi).1]; exact hi, fun _ _ _ x => x⟩
        have hsize : cc'.size = cc.size := by
          have := congrArg List.length r4
          simp only [Array.length_toList, List.length_append, List.length_take, List.length_drop] at this
          omega
        have hcells : ∀ (j : Nat) (v : Value), (vs.take (i * s + q) ++ ws ++ vs.drop (i * s + q + ws.length))[j]? = some v → cc'[c.off + j]? = some v := by
          intro j v hv
          have e5 : cc'[c.off + j]? = cc'.toList[c.off + j]? := by simp
          rw [e5, r4]
          by_cases hj : j < i * s + q
          · rw [List.append_assoc, List.getElem?_append_left (by simp; omega), List.getElem?_take, if_pos hj] at hv
            rw [List.append_assoc, List.getElem?_append_left (by simp; omega), List.getElem?_take, if_pos (by omega)]
            simpa using k2 _ _ hv
          · rw [List.append_assoc, List.getElem?_append_right (by simp; omega)] at hv
            rw [List.append_assoc, List.getElem?_append_right (by simp; omega)]
            simp only [List.length_take, Array.length_toList] at hv ⊢
            by_cases hj2 : j < i * s + q + ws.length
            · rw [List.getElem?_append_left (by omega)] at hv
              rw [List.getElem?_append_left (by omega), ← hv]
              congr 1
              omega
            · rw [List.getElem?_append_right (by omega), List.getElem?_drop] at hv
              rw [List.getElem?_append_right (by omega), List.getElem?_drop]
              have := k2 _ _ hv
              rw [Array.getElem?_toList, ← this]
              congr 1
              omega
        have hown : OwnAt { γ with rho := γ.rho ++ [(.slice (some c) (es.set i (over cs q xs)).length cap, s, es.set i (over cs q xs))] } w' (.slice (some c) (es.set i (over cs q xs)).length cap) s (es.set i (over cs q xs)) :=
          ⟨c, cap, rfl, hsp, by simpa using f3, f4, f5, f6, cc', ce, cz, _, r3, hcells, RepE.mono hle _ _ _ (RepE.set hr hone k3 hcs hq), by rw [hsize]; exact k4, k5⟩
        obtain ⟨n1, n2⟩ := hi.right r2 (kill_length (r := .own r)) hsub hfr (f := true) (fun _ => ⟨rfl, hown⟩)
        have hf' := hf.right (v := .slice (some c) (es.set i (over cs q xs)).length cap) (s := s) (es := es.set i (over cs q xs)) (f := true) r2 (live := kill σ.live (.own r)) (by rw [kill_length, hi.rholen]) hsub
          (fun j cs hj e => (hf.l j cs hj).own r _ _ _ hlive hrho (by rw [e]; rfl)) (fun _ => rfl)
        have hnew0 : (γ.rho ++ [(Value.slice (some c) (es.set i (over cs q xs)).length cap, s, es.set i (over cs q xs))])[σ.live.length]? = some (.slice (some c) (es.set i (over cs q xs)).length cap, s, es.set i (over cs q xs)) := by
          rw [← hi.rholen]; simp
        have hold0 := hle.rho _ _ hrho
        have hsame : (es.set i (over cs q xs)).length = es.length := List.length_set
        rw [← hsame] at hold0
        have hfr1 := frep_ren hf' hold0 hnew0 hsame
        obtain ⟨γ2, m1, m2, m3⟩ := ren_step n1 hfr1 hlive2 (hle.rho _ _ p4) (fun {x u} hx => rep_renV hold0 hnew0 hsame hx)
        exact ⟨_, w', γ2, _, _, lam, undef, hrun, .inr ⟨rfl, rfl⟩, n2.trans m1, m2, by rw [hd]; exact m3, hK⟩
end
end Go.VL
