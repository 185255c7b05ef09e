/- The V-logic, part 1: values, frames, states, the compiled code and its predicate transformer. -/
import Derived.CallsIn
set_option linter.unusedVariables false
set_option linter.unusedSimpArgs false
namespace Go.VL
open Go

/-- A slice's right: published (never written again), owned (may be appended to), a view into an owned one. -/
inductive R where
  | pub
  | own (r : Nat)
  | view (r : Nat)

def R.toView : R → R
  | .pub => .pub
  | .own r => .view r
  | .view r => .view r

inductive V where
  | int (k : IntKind) (n : Int)
  | bool (b : Bool)
  | str (s : List UInt8)
  | agg (cs : List V)
  | tup (vs : List V)
  | sl (b : Bool) (r : R) (s : Nat) (es : List (List V))
  | ptr (o : Option (Nat × Nat))
  | elt (r : R) (s : Nat) (es : List (List V)) (i o : Nat)
  | map (o : Option Nat)
  | fn (f : FuncId) (caps : List V)
  | nilf
  | raw (v : Value)
  | bad

instance : Inhabited V := ⟨.bad⟩

inductive S where
  | v (x : V)
  | loc (k o : Nat)

structure Fr where
  s : List (Nat × S)
  l : List (Nat × List V)

def sget (t : Nat) : List (Nat × S) → S
  | [] => .v .bad
  | p :: r => bif Nat.beq p.1 t then p.2 else sget t r
def sset (t : Nat) (x : S) : List (Nat × S) → List (Nat × S)
  | [] => [(t, x)]
  | p :: r => bif Nat.beq p.1 t then (t, x) :: r else p :: sset t x r
def lget (t : Nat) : List (Nat × List V) → Option (List V)
  | [] => none
  | p :: r => bif Nat.beq p.1 t then some p.2 else lget t r
def lset (t : Nat) (x : List V) : List (Nat × List V) → List (Nat × List V)
  | [] => [(t, x)]
  | p :: r => bif Nat.beq p.1 t then (t, x) :: r else p :: lset t x r
/-- A new local variable of a site: older addresses of that site are forgotten. -/
def sdrop (k : Nat) : List (Nat × S) → List (Nat × S)
  | [] => []
  | (t, .loc k' o) :: r => (t, bif Nat.beq k' k then .v .bad else .loc k' o) :: sdrop k r
  | (t, .v x) :: r => (t, .v x) :: sdrop k r

def Fr.set (F : Fr) (t : Nat) (x : S) : Fr := ⟨sset t x F.s, F.l⟩
def Fr.setL (F : Fr) (k : Nat) (cs : List V) : Fr := ⟨F.s, lset k cs F.l⟩
def Fr.newL (F : Fr) (k : Nat) (cs : List V) : Fr := ⟨sset k (.loc k 0) (sdrop k F.s), lset k cs F.l⟩

inductive E where
  | t (n : Nat)
  | c (v : V)

def Fr.ev (F : Fr) : E → S
  | .t n => sget n F.s
  | .c v => .v v
def S.val : S → V
  | .v x => x
  | .loc _ _ => .bad
def Fr.va (F : Fr) (x : E) : V := (F.ev x).val

/-- What a leaf of a comparable type is. -/
inductive LK where
  | int (k : IntKind)
  | bool
  | str
  | agg

inductive AObj where
  | cells (cs : List V)
  | mp (lv : List LK) (es : List (V × V)) (ver : Nat)
  | it (m : Option (Nat × Nat)) (left : List (V × V))

structure St where
  objs : List AObj
  live : List Bool

/-- May be read. -/
def rd (live : List Bool) : R → Prop
  | .pub => True
  | .own r => live[r]? = some true
  | .view r => live[r]? = some true
def kill (live : List Bool) : R → List Bool
  | .own r => live.set r false
  | _ => live
/-- May be appended to. -/
def St.ow (σ : St) (b : Bool) : R → Prop
  | .own r => b = true ∨ σ.live[r]? = some true
  | _ => b = true

inductive EK where
  | bool | ptr | sl | map | fn

inductive O where
  | mv (d : Nat) (x : E)
  | pk (d : Nat) (c a b : E)
  | alL (d : Nat) (z : List V)
  | alH (d : Nat) (z : List V)
  | bxL (d : Nat) (x : E)
  | bxH (d : Nat) (x : E)
  | bld (d : Nat) (z : List V) (ps : List (Nat × Nat × E))
  | lit (d : Nat) (s : Nat) (ps : List E)
  | ld (d : Nat) (a : E) (n : Nat) (g : Bool)
  | st (a x : E) (n : Nat)
  | se (a x : E) (n : Nat)
  | nc (d : Nat) (x : E)
  | bi (d : Nat) (op : BinOp) (x y : E)
  | bq (d : Nat) (ne : Bool) (k : EK) (x y : E)
  | be (d : Nat) (ne : Bool) (lv : List LK) (x y : E)
  | un (d : Nat) (op : UnOp) (x : E)
  | cI (d : Nat) (k : IntKind) (x : E)
  | cS (d : Nat) (x : E)
  | cT (d : Nat) (x : E)
  | cB (d : Nat) (x : E)
  | mf (d : Nat) (f : FuncId) (caps : List E)
  | mm (d : Nat) (lv : List LK)
  | ms (d : Nat) (z : List V) (len cap : E)
  | sl (d : Nat) (n : Nat) (x : E) (lo hi : Option E)
  | ss (d : Nat) (x : E) (lo hi : Option E)
  | fa (d : Nat) (x : E) (off : Nat)
  | fd (d : Nat) (x : E) (off n : Nat) (g : Bool)
  | ia (d : Nat) (x i : E) (s : Nat)
  | iA (d : Nat) (x i : E) (s len : Nat)
  | ix (d : Nat) (x i : E)
  | lk (d : Nat) (lv : List LK) (m k : E) (ok : Bool) (z : V)
  | mu (lv : List LK) (m k v : E)
  | rg (d : Nat) (x : E)
  | nx (d : Nat) (x : E)
  | ex (d : Nat) (x : E) (i : Nat)
  | ap (d : Nat) (s : Nat) (x y : E)
  | ln (d : Nat) (k : EK) (x : E)
  | mx (d : Nat) (x y : E)
  | mn (d : Nat) (x y : E)
  | de (lv : List LK) (m k : E)
  | ca (d : Option Nat) (f : FuncId) (xs : List E)
  | cv (d : Option Nat) (f : E) (xs : List E)

/-- An operation under its guard. -/
structure GO where
  g : Option (Nat × Bool)
  o : O

inductive C where
  | skip
  | ops (l : List GO)
  | opsD (l : List GO)
  | opsE (l m : List GO)
  | seq (a b : C)
  | cut (a b : C)
  | cond (x : E) (a b : C)
  | block (id : Nat) (c : C)
  | loop (c : C)
  | exit (id : Nat)
  | ret
  | range (f : E) (ps : List Nat) (a b : C)

inductive X where
  | normal
  | exit (id : Nat)
  | ret

inductive Res where
  | bad
  | ok (F : Fr) (σ : St)
  | need (p : Prop) (F : Fr) (σ : St)

mutual
def V.eq : V → V → Bool
  | .int k n, .int k' n' => decide (k = k') && decide (n = n')
  | .bool b, .bool b' => b == b'
  | .str s, .str s' => s == s'
  | .agg a, .agg b => V.eqs a b
  | _, _ => false
def V.eqs : List V → List V → Bool
  | [], [] => true
  | a :: r, b :: t => V.eq a b && V.eqs r t
  | _, _ => false
end
def LK.fits : LK → V → Bool
  | .int k, .int k' _ => decide (k = k')
  | .bool, .bool _ => true
  | .str, .str _ => true
  | _, _ => false
/-- Cells of a comparable type. -/
def fits : List LK → List V → Bool
  | [], [] => true
  | k :: r, x :: t => k.fits x && fits r t
  | _, _ => false

def ldC (d : Nat) (F : Fr) (σ : St) (cs : List V) (n : Nat) : Bool → Res
  | true => .need ((cs.take n).length = n) (F.set d (.v (.agg (cs.take n)))) σ
  | false => match cs with
    | x :: _ => .ok (F.set d (.v x)) σ
    | [] => .bad

/-- A value's cells. -/
def cellsOf : V → Option (List V)
  | .agg cs => some cs
  | .bad => none
  | .tup _ => none
  | .raw _ => none
  | v => some [v]
/-- A struct's leaves have 'agg' ahead of them. -/
def keyFits (lv : List LK) (x : V) : Bool := match lv, x with
  | .agg :: l, .agg cs => fits l cs
  | .agg :: _, _ => false
  | _, .agg _ => false
  | l, v => fits l [v]

/-- Cells over cells from a place on. -/
def over (cs : List V) (o : Nat) (xs : List V) : List V := cs.take o ++ xs ++ cs.drop (o + xs.length)

def ibits (op : BinOp) (k : IntKind) (a b : Int) : Int :=
  match op with
  | .and => k.wrap ((BitVec.ofInt k.bits a &&& BitVec.ofInt k.bits b).toNat)
  | .or => k.wrap ((BitVec.ofInt k.bits a ||| BitVec.ofInt k.bits b).toNat)
  | .xor => k.wrap ((BitVec.ofInt k.bits a ^^^ BitVec.ofInt k.bits b).toNat)
  | _ => k.wrap ((BitVec.ofInt k.bits a &&& ~~~ BitVec.ofInt k.bits b).toNat)

def ibin (d : Nat) (F : Fr) (σ : St) (k : IntKind) (a b : Int) : BinOp → Res
  | .add => .ok (F.set d (.v (.int k (k.wrap (a + b))))) σ
  | .sub => .ok (F.set d (.v (.int k (k.wrap (a - b))))) σ
  | .mul => .ok (F.set d (.v (.int k (k.wrap (a * b))))) σ
  | .quo => .need (b ≠ 0) (F.set d (.v (.int k (k.wrap (a.tdiv b))))) σ
  | .rem => .need (b ≠ 0) (F.set d (.v (.int k (a.tmod b)))) σ
  | .and => .ok (F.set d (.v (.int k (ibits .and k a b)))) σ
  | .or => .ok (F.set d (.v (.int k (ibits .or k a b)))) σ
  | .xor => .ok (F.set d (.v (.int k (ibits .xor k a b)))) σ
  | .andNot => .ok (F.set d (.v (.int k (ibits .andNot k a b)))) σ
  | .eql => .ok (F.set d (.v (.bool (decide (a = b))))) σ
  | .neq => .ok (F.set d (.v (.bool (!decide (a = b))))) σ
  | .lss => .ok (F.set d (.v (.bool (decide (a < b))))) σ
  | .leq => .ok (F.set d (.v (.bool (decide (a ≤ b))))) σ
  | .gtr => .ok (F.set d (.v (.bool (decide (b < a))))) σ
  | .geq => .ok (F.set d (.v (.bool (decide (b ≤ a))))) σ
  | _ => .bad

def strLess : List UInt8 → List UInt8 → Bool
  | _, [] => false
  | [], _ :: _ => true
  | a :: x, b :: y => a < b || (a == b && strLess x y)

def sbin (d : Nat) (F : Fr) (σ : St) (a b : List UInt8) : BinOp → Res
  | .add => .need (a.length + b.length ≤ 140737488355328) (F.set d (.v (.str (a ++ b)))) σ
  | .eql => .ok (F.set d (.v (.bool (decide (a = b))))) σ
  | .neq => .ok (F.set d (.v (.bool (!decide (a = b))))) σ
  | .lss => .ok (F.set d (.v (.bool (strLess a b)))) σ
  | .leq => .ok (F.set d (.v (.bool (strLess a b || decide (a = b))))) σ
  | .gtr => .ok (F.set d (.v (.bool (!(strLess a b || decide (a = b)))))) σ
  | .geq => .ok (F.set d (.v (.bool (!strLess a b)))) σ
  | _ => .bad

/-- Two numbers. -/
def iibin (d : Nat) (F : Fr) (σ : St) (op : BinOp) (k : IntKind) (a : Int) (k' : IntKind) (b : Int) : Res :=
  match op with
  | .shl => .need (0 ≤ b) (F.set d (.v (.int k (k.wrap (a * 2 ^ (min b.toNat k.bits)))))) σ
  | .shr => .need (0 ≤ b) (F.set d (.v (.int k (a.fdiv (2 ^ (min b.toNat k.bits)))))) σ
  | op => if k = k' then ibin d F σ k a b op else .bad
/-- A binary operation. -/
def bin (d : Nat) (F : Fr) (σ : St) (op : BinOp) : V → V → Res
  | .int k a, .int k' b => iibin d F σ op k a k' b
  | .str a, .str b => sbin d F σ a b op
  | _, _ => .bad

/-- Equality of what is no number, text or struct. -/
def bqW (d : Nat) (F : Fr) (σ : St) (ne : Bool) : EK → V → V → Res
  | .bool, .bool a, .bool b => .ok (F.set d (.v (.bool (bif ne then !(a == b) else a == b)))) σ
  | .ptr, .ptr a, .ptr none => .ok (F.set d (.v (.bool (bif ne then !a.isNone else a.isNone)))) σ
  | .map, .map a, .map none => .ok (F.set d (.v (.bool (bif ne then !a.isNone else a.isNone)))) σ
  | .sl, .sl b _ _ _, .sl true _ _ [] => .ok (F.set d (.v (.bool (bif ne then !b else b)))) σ
  | .fn, .fn _ _, .nilf => .ok (F.set d (.v (.bool ne))) σ
  | .fn, .nilf, .nilf => .ok (F.set d (.v (.bool (!ne)))) σ
  | _, _, _ => .bad

def unW (d : Nat) (F : Fr) (σ : St) (op : UnOp) : V → Res
  | .bool b => match op with
    | .not => .ok (F.set d (.v (.bool (!b)))) σ
    | _ => .bad
  | .int k n => match op with
    | .neg => .ok (F.set d (.v (.int k (k.wrap (0 - n))))) σ
    | .xor => .ok (F.set d (.v (.int k (ibits .xor k (if k.signed then -1 else k.max) n)))) σ
    | _ => .bad
  | _ => .bad

/-- Two structs. -/
def beW (d : Nat) (F : Fr) (σ : St) (ne : Bool) (lv : List LK) : V → V → Res
  | .agg a, .agg b => .need (fits lv a = true ∧ fits lv b = true) (F.set d (.v (.bool (bif ne then !(V.eqs a b) else V.eqs a b)))) σ
  | _, _ => .bad

/-- Parts laid over cells. -/
def overC (z : List V) (off n : Nat) : Option (List V) → Option (List V)
  | some xs => bif Nat.beq xs.length n && Nat.ble (off + n) z.length then some (over z off xs) else none
  | none => none
def overs (F : Fr) : Option (List V) → List (Nat × Nat × E) → Option (List V)
  | z, [] => z
  | some z, p :: r => overs F (overC z p.1 p.2.1 (cellsOf (F.va p.2.2))) r
  | none, _ :: _ => none
def bldW (d : Nat) (F : Fr) (σ : St) : Option (List V) → Res
  | some cs => .ok (F.set d (.v (.agg cs))) σ
  | none => .bad
/-- A value of one cell. -/
def V.flat : V → Bool
  | .agg _ | .tup _ | .bad | .raw _ => false
  | _ => true
def flats : List V → Bool
  | [] => true
  | x :: r => x.flat && flats r
def lits (F : Fr) (s : Nat) : List E → Option (List (List V))
  | [] => some []
  | x :: r => match cellsOf (F.va x), lits F s r with
    | some xs, some es => bif Nat.beq xs.length s && flats xs then some (xs :: es) else none
    | _, _ => none
def litW (d : Nat) (F : Fr) (σ : St) (s : Nat) : Option (List (List V)) → Res
  | some es => .ok (F.set d (.v (.sl false (.own σ.live.length) s es))) ⟨σ.objs, σ.live ++ [true]⟩
  | none => .bad
def bxLW (d : Nat) (F : Fr) (σ : St) : Option (List V) → Res
  | some cs => .ok (F.newL d cs) σ
  | none => .bad
def bxHW (d : Nat) (F : Fr) (σ : St) : Option (List V) → Res
  | some cs => .ok (F.set d (.v (.ptr (some (σ.objs.length, 0))))) ⟨σ.objs ++ [.cells cs], σ.live⟩
  | none => .bad

def ldL (d : Nat) (F : Fr) (σ : St) (n : Nat) (g : Bool) (o : Nat) : Option (List V) → Res
  | some cs => ldC d F σ (cs.drop o) n g
  | none => .bad
def ldO (d : Nat) (F : Fr) (σ : St) (n : Nat) (g : Bool) (o : Nat) : Option AObj → Res
  | some (.cells cs) => ldC d F σ (cs.drop o) n g
  | _ => .bad
def Res.also (p : Prop) : Res → Res
  | .bad => .bad
  | .ok F σ => .need p F σ
  | .need q F σ => .need (p ∧ q) F σ
def ldV (d : Nat) (F : Fr) (σ : St) (n : Nat) (g : Bool) : V → Res
  | .ptr (some p) => ldO d F σ n g p.2 (σ.objs[p.1]?)
  | .elt r _ es i o => Res.also (rd σ.live r) (ldC d F σ ((es[i]?.getD []).drop o) n g)
  | _ => .bad
/-- A read through an address. -/
def ldW (d : Nat) (F : Fr) (σ : St) (n : Nat) (g : Bool) : S → Res
  | .loc k o => ldL d F σ n g o (lget k F.l)
  | .v x => ldV d F σ n g x

/-- A write through an address. -/
def stL (F : Fr) (σ : St) (k o : Nat) (xs : List V) : Option (List V) → Res
  | some cs => .need (o + xs.length ≤ cs.length) (F.setL k (over cs o xs)) σ
  | none => .bad
def St.setC (σ : St) (i : Nat) (cs : List V) : St := ⟨σ.objs.set i (.cells cs), σ.live⟩
def St.setM (σ : St) (i : Nat) (lv : List LK) (es : List (V × V)) (ver : Nat) : St := ⟨σ.objs.set i (.mp lv es ver), σ.live⟩
def stO (F : Fr) (σ : St) (i o : Nat) (xs : List V) : Option AObj → Res
  | some (.cells cs) => .need (o + xs.length ≤ cs.length) F (σ.setC i (over cs o xs))
  | _ => .bad
def stV (F : Fr) (σ : St) (xs : List V) : V → Res
  | .ptr (some p) => stO F σ p.1 p.2 xs (σ.objs[p.1]?)
  | _ => .bad
def stW (F : Fr) (σ : St) (xs : List V) : S → Res
  | .loc k o => stL F σ k o xs (lget k F.l)
  | .v x => stV F σ xs x

def stC (F : Fr) (σ : St) (n : Nat) (a : S) : Option (List V) → Res
  | some xs => Res.also (xs.length = n ∧ flats xs = true) (stW F σ xs a)
  | none => .bad
/-- An owned slice has another content: under another right. -/
def renS (r r' s : Nat) (es : List (List V)) : S → S
  | .v (.sl false (.own q) t l) => bif Nat.beq q r then .v (.sl false (.own r') s es) else .v (.sl false (.own q) t l)
  | .v (.elt (.own q) t l i o) => bif Nat.beq q r then .v (.elt (.own r') s es i o) else .v (.elt (.own q) t l i o)
  | x => x
def renL (r r' s : Nat) (es : List (List V)) : List (Nat × S) → List (Nat × S)
  | [] => []
  | p :: l => (p.1, renS r r' s es p.2) :: renL r r' s es l
/-- A write into an element of an owned slice. -/
def seO (F : Fr) (σ : St) (xs : List V) (r s : Nat) (es : List (List V)) (i o : Nat) : Option (List V) → Res
  | some cs => .need (σ.live[r]? = some true ∧ o + xs.length ≤ cs.length) ⟨renL r σ.live.length s (es.set i (over cs o xs)) F.s, F.l⟩ ⟨σ.objs, σ.live.set r false ++ [true]⟩
  | none => .bad
def seV (F : Fr) (σ : St) (xs : List V) : V → Res
  | .elt (.own r) s es i o => seO F σ xs r s es i o (es[i]?)
  | _ => .bad
def seC (F : Fr) (σ : St) (n : Nat) (a : V) : Option (List V) → Res
  | some xs => Res.also (xs.length = n ∧ flats xs = true) (seV F σ xs a)
  | none => .bad
def ncW (d : Nat) (F : Fr) (σ : St) : S → Res
  | .loc k o => .ok (F.set d (.loc k o)) σ
  | .v (.ptr (some p)) => .ok (F.set d (.v (.ptr (some p)))) σ
  | .v (.elt r s es i o) => .ok (F.set d (.v (.elt r s es i o))) σ
  | .v (.fn f c) => .ok (F.set d (.v (.fn f c))) σ
  | _ => .bad

def cIW (d : Nat) (F : Fr) (σ : St) (k : IntKind) : V → Res
  | .int _ n => .ok (F.set d (.v (.int k (k.wrap n)))) σ
  | _ => .bad

/-- The bytes of cells. -/
def byteOfC : List V → UInt8
  | .int _ n :: _ => UInt8.ofNat n.toNat
  | _ => 0
def bytesV (s : List UInt8) : List (List V) := s.map fun b => [V.int .u8 b.toNat]
def cSW (d : Nat) (F : Fr) (σ : St) : V → Res
  | .str s => .ok (F.set d (.v (.str s))) σ
  | .sl b r s es => .need ((b = true ∨ rd σ.live r ∧ s = 1) ∧ es = bytesV (es.map byteOfC)) (F.set d (.v (.str (es.map byteOfC)))) σ
  | _ => .bad
def cTW (d : Nat) (F : Fr) (σ : St) : V → Res
  | .str s => .ok (F.set d (.v (.str s))) σ
  | _ => .bad
def cBW (d : Nat) (F : Fr) (σ : St) : V → Res
  | .str s => .ok (F.set d (.v (.sl false (.own σ.live.length) 1 (bytesV s)))) ⟨σ.objs, σ.live ++ [true]⟩
  | _ => .bad

def pkW (d : Nat) (F : Fr) (σ : St) (a b : S) : V → Res
  | .bool true => .ok (F.set d a) σ
  | .bool false => .ok (F.set d b) σ
  | _ => .bad
/-- Where both are plain truths a choice is a value. -/
def pkB (d : Nat) (F : Fr) (σ : St) (c a b : S) : Res := pkW d F σ a b c.val

def faW (d : Nat) (F : Fr) (σ : St) (off : Nat) : S → Res
  | .loc k o => .ok (F.set d (.loc k (o + off))) σ
  | .v (.ptr (some p)) => .ok (F.set d (.v (.ptr (some (p.1, p.2 + off))))) σ
  | .v (.elt r s es i o) => .ok (F.set d (.v (.elt r s es i (o + off)))) σ
  | _ => .bad
def fdW (d : Nat) (F : Fr) (σ : St) (off n : Nat) (g : Bool) : V → Res
  | .agg cs => ldC d F σ (cs.drop off) n g
  | _ => .bad
def iaW (d : Nat) (F : Fr) (σ : St) (s : Nat) : V → V → Res
  | .sl _ r s' es, .int _ i => .need (0 ≤ i ∧ i < es.length ∧ s' = s) (F.set d (.v (.elt r s es i.toNat 0))) σ
  | _, _ => .bad
def iAV (d : Nat) (F : Fr) (σ : St) (s len : Nat) (i : Int) : S → Res
  | .loc k o => .need (0 ≤ i ∧ i < len) (F.set d (.loc k (o + i.toNat * s))) σ
  | .v (.ptr (some p)) => .need (0 ≤ i ∧ i < len) (F.set d (.v (.ptr (some (p.1, p.2 + i.toNat * s))))) σ
  | .v (.elt r s' es j o) => .need (0 ≤ i ∧ i < len) (F.set d (.v (.elt r s' es j (o + i.toNat * s)))) σ
  | _ => .bad
def iAW (d : Nat) (F : Fr) (σ : St) (s len : Nat) (x : S) : V → Res
  | .int _ i => iAV d F σ s len i x
  | _ => .bad
def ixW (d : Nat) (F : Fr) (σ : St) : V → V → Res
  | .str s, .int _ i => .need (0 ≤ i ∧ i < s.length) (F.set d (.v (.int .u8 (s[i.toNat]?.getD 0).toNat))) σ
  | _, _ => .bad

def find (k : V) : List (V × V) → Option V
  | [] => none
  | p :: r => bif V.eq k p.1 then some p.2 else find k r
def upd (k v : V) : List (V × V) → List (V × V)
  | [] => [(k, v)]
  | p :: r => bif V.eq k p.1 then (k, v) :: r else p :: upd k v r
def del (k : V) : List (V × V) → List (V × V)
  | [] => []
  | p :: r => bif V.eq k p.1 then r else p :: del k r

def lkR (d : Nat) (F : Fr) (σ : St) (ok : Bool) (z : V) : Option V → Res
  | some v => .ok (F.set d (.v (match ok with | true => .tup [v, .bool true] | false => v))) σ
  | none => .ok (F.set d (.v (match ok with | true => .tup [z, .bool false] | false => z))) σ
def lkO (d : Nat) (F : Fr) (σ : St) (lv : List LK) (k : V) (ok : Bool) (z : V) : Option AObj → Res
  | some (.mp lv' es _) => Res.also (lv' = lv ∧ keyFits lv k = true) (lkR d F σ ok z (find k es))
  | _ => .bad
def lkW (d : Nat) (F : Fr) (σ : St) (lv : List LK) (k : V) (ok : Bool) (z : V) : V → Res
  | .map (some i) => lkO d F σ lv k ok z (σ.objs[i]?)
  | .map none => Res.also (keyFits lv k = true) (lkR d F σ ok z none)
  | _ => .bad
def muO (F : Fr) (σ : St) (i : Nat) (lv : List LK) (k v : V) : Option AObj → Res
  | some (.mp lv' es ver) => Res.also (lv' = lv ∧ keyFits lv k = true) (.ok F (σ.setM i lv (upd k v es) (ver + 1)))
  | _ => .bad
def muW (F : Fr) (σ : St) (lv : List LK) (k v : V) : V → Res
  | .map (some i) => muO F σ i lv k v (σ.objs[i]?)
  | _ => .bad
def deO (F : Fr) (σ : St) (i : Nat) (lv : List LK) (k : V) : Option AObj → Res
  | some (.mp lv' es ver) => Res.also (lv' = lv ∧ keyFits lv k = true) (.ok F (σ.setM i lv (del k es) (ver + 1)))
  | _ => .bad
def deW (F : Fr) (σ : St) (lv : List LK) (k : V) : V → Res
  | .map (some i) => deO F σ i lv k (σ.objs[i]?)
  | .map none => Res.also (keyFits lv k = true) (.ok F σ)
  | _ => .bad
def exW (d : Nat) (F : Fr) (σ : St) (i : Nat) : V → Res
  | .tup vs => match vs[i]? with
    | some v => .ok (F.set d (.v v)) σ
    | none => .bad
  | _ => .bad

/-- What a second operand of append brings. -/
def apE (live : List Bool) (s : Nat) : V → Option (Prop × List (List V))
  | .sl b r s' es => some ((b = true ∨ rd live r) ∧ (s' = s ∨ es = []), es)
  | .str l => some (s = 1, bytesV l)
  | _ => none
def apR (d : Nat) (F : Fr) (σ : St) (b : Bool) (r : R) (s : Nat) (es : List (List V)) : Option (Prop × List (List V)) → Res
  | some p => .need (σ.ow b r ∧ p.1 ∧ es.length + p.2.length ≤ 1073741824)
      (F.set d (.v (.sl (b && p.2.isEmpty) (.own σ.live.length) s (es ++ p.2)))) ⟨σ.objs, kill σ.live r ++ [!(b && p.2.isEmpty)]⟩
  | none => .bad
def apW (d : Nat) (F : Fr) (σ : St) (s : Nat) (y : V) : V → Res
  | .sl b r s' es => Res.also (b = true ∨ s' = s) (apR d F σ b r s es (apE σ.live s y))
  | _ => .bad
def lnO (d : Nat) (F : Fr) (σ : St) : Option AObj → Res
  | some (.mp _ es _) => .ok (F.set d (.v (.int .i64 es.length))) σ
  | _ => .bad
/-- fn: a text. -/
def lnW (d : Nat) (F : Fr) (σ : St) : EK → V → Res
  | .sl, .sl _ _ _ es => .ok (F.set d (.v (.int .i64 es.length))) σ
  | .fn, .str s => .ok (F.set d (.v (.int .i64 s.length))) σ
  | .map, .map none => .ok (F.set d (.v (.int .i64 0))) σ
  | .map, .map (some i) => lnO d F σ (σ.objs[i]?)
  | _, _ => .bad
def mxW (d : Nat) (F : Fr) (σ : St) : V → V → Res
  | .int k a, .int _ b => .ok (F.set d (.v (.int k (if b > a then b else a)))) σ
  | _, _ => .bad
def mnW (d : Nat) (F : Fr) (σ : St) : V → V → Res
  | .int k a, .int _ b => .ok (F.set d (.v (.int k (if b < a then b else a)))) σ
  | _, _ => .bad
/-- A bound of a slice expression. -/
def bndN (n : Nat) : Option V → Option (Prop × Nat)
  | none => some (True, n)
  | some (.int _ i) => some (0 ≤ i, i.toNat)
  | _ => none
def slB (d : Nat) (F : Fr) (σ : St) (n : Nat) (b : Bool) (r : R) (s : Nat) (es : List (List V)) (lo hi : Option (Prop × Nat)) : Res :=
  match lo, hi with
  | some p, some q => .need ((b = true ∨ s = n) ∧ p.1 ∧ q.1 ∧ p.2 ≤ q.2 ∧ q.2 ≤ es.length) (F.set d (.v (.sl b r.toView s ((es.take q.2).drop p.2)))) σ
  | _, _ => .bad
def ssB (d : Nat) (F : Fr) (σ : St) (s : List UInt8) (lo hi : Option (Prop × Nat)) : Res :=
  match lo, hi with
  | some p, some q => .need (p.1 ∧ q.1 ∧ p.2 ≤ q.2 ∧ q.2 ≤ s.length) (F.set d (.v (.str ((s.take q.2).drop p.2)))) σ
  | _, _ => .bad
def Fr.vaO (F : Fr) : Option E → Option V
  | none => none
  | some x => some (F.va x)
def bnd0 : Option V → Option (Prop × Nat)
  | none => some (True, 0)
  | some v => bndN 0 (some v)
def slW (d : Nat) (F : Fr) (σ : St) (n : Nat) (lo hi : Option V) : V → Res
  | .sl b r s es => slB d F σ n b r s es (bnd0 lo) (bndN es.length hi)
  | _ => .bad
def ssW (d : Nat) (F : Fr) (σ : St) (lo hi : Option V) : V → Res
  | .str s => ssB d F σ s (bnd0 lo) (bndN s.length hi)
  | _ => .bad
def msW (d : Nat) (F : Fr) (σ : St) (z : List V) : V → V → Res
  | .int _ n, .int _ c => .need (0 ≤ n ∧ n ≤ c ∧ c ≤ 1073741824)
      (F.set d (.v (.sl false (.own σ.live.length) z.length (List.replicate n.toNat z)))) ⟨σ.objs, σ.live ++ [true]⟩
  | _, _ => .bad

def O.run (F : Fr) (σ : St) : O → Res
  | .mv d x => .ok (F.set d (F.ev x)) σ
  | .pk d c a b => pkB d F σ (F.ev c) (F.ev a) (F.ev b)
  | .alL d z => .ok (F.newL d z) σ
  | .alH d z => .ok (F.set d (.v (.ptr (some (σ.objs.length, 0))))) ⟨σ.objs ++ [.cells z], σ.live⟩
  | .bxL d x => bxLW d F σ (cellsOf (F.va x))
  | .bxH d x => bxHW d F σ (cellsOf (F.va x))
  | .bld d z ps => bldW d F σ (overs F (some z) ps)
  | .lit d s ps => litW d F σ s (lits F s ps)
  | .ld d a n g => ldW d F σ n g (F.ev a)
  | .st a x n => stC F σ n (F.ev a) (cellsOf (F.va x))
  | .se a x n => seC F σ n (F.va a) (cellsOf (F.va x))
  | .nc d x => ncW d F σ (F.ev x)
  | .bi d op x y => bin d F σ op (F.va x) (F.va y)
  | .bq d ne k x y => bqW d F σ ne k (F.va x) (F.va y)
  | .be d ne lv x y => beW d F σ ne lv (F.va x) (F.va y)
  | .un d op x => unW d F σ op (F.va x)
  | .cI d k x => cIW d F σ k (F.va x)
  | .cS d x => cSW d F σ (F.va x)
  | .cT d x => cTW d F σ (F.va x)
  | .cB d x => cBW d F σ (F.va x)
  | .mf d f caps => .ok (F.set d (.v (.fn f (caps.map F.va)))) σ
  | .mm d lv => .ok (F.set d (.v (.map (some σ.objs.length)))) ⟨σ.objs ++ [.mp lv [] 0], σ.live⟩
  | .ms d z n c => msW d F σ z (F.va n) (F.va c)
  | .sl d n x lo hi => slW d F σ n (F.vaO lo) (F.vaO hi) (F.va x)
  | .ss d x lo hi => ssW d F σ (F.vaO lo) (F.vaO hi) (F.va x)
  | .fa d x off => faW d F σ off (F.ev x)
  | .fd d x off n g => fdW d F σ off n g (F.va x)
  | .ia d x i s => iaW d F σ s (F.va x) (F.va i)
  | .iA d x i s len => iAW d F σ s len (F.ev x) (F.va i)
  | .ix d x i => ixW d F σ (F.va x) (F.va i)
  | .lk d lv m k ok z => lkW d F σ lv (F.va k) ok z (F.va m)
  | .mu lv m k v => muW F σ lv (F.va k) (F.va v) (F.va m)
  | .ex d x i => exW d F σ i (F.va x)
  | .ap d s x y => apW d F σ s (F.va y) (F.va x)
  | .ln d k x => lnW d F σ k (F.va x)
  | .mx d x y => mxW d F σ (F.va x) (F.va y)
  | .mn d x y => mnW d F σ (F.va x) (F.va y)
  | .de lv m k => deW F σ lv (F.va k) (F.va m)
  | .rg _ _ => .bad
  | .nx _ _ => .bad
  | .ca _ _ _ => .bad
  | .cv _ _ _ => .bad

end Go.VL
