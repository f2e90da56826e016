/-
  DwBase: the abstract machine's data: a trie keyed by numbers, symbolic integers and bools, abstract values, abstract heaps. Definitions alone; the laws stand in DwLaw.
-/
import Derived.Calls
import Derived.Orders
namespace Go.Dw
set_option linter.unusedSimpArgs false
set_option linter.unusedVariables false
noncomputable section

/-! ### A trie keyed by natural numbers -/
inductive T (α : Type) where
  | leaf
  | node (l : T α) (v : Option α) (r : T α)

namespace T
variable {α : Type}
/-- Written with the recursors themselves: the kernel is to run it. -/
noncomputable def get (t : T α) : Nat → Option α :=
  T.rec (motive := fun _ => Nat → Option α) (fun _ => none)
    (fun _ v _ il ir n => Nat.casesOn n v (fun m => Nat.casesOn (Nat.mod m 2) (il (Nat.div m 2)) (fun _ => ir (Nat.div m 2)))) t

/-- A node, its left part forced. -/
noncomputable def mkL (v : Option α) (r l : T α) : T α := T.casesOn l (.node .leaf v r) (fun a b c => .node (.node a b c) v r)
noncomputable def mkR (v : Option α) (l r : T α) : T α := T.casesOn r (.node l v .leaf) (fun a b c => .node l v (.node a b c))

noncomputable def setLeaf (ih : T α → Nat → α → T α) (n : Nat) (x : α) : T α :=
  Nat.casesOn n (.node .leaf (some x) .leaf)
    (fun m => Nat.casesOn (Nat.mod m 2) (mkL none .leaf (ih .leaf (Nat.div m 2) x)) (fun _ => mkR none .leaf (ih .leaf (Nat.div m 2) x)))
noncomputable def setNode (ih : T α → Nat → α → T α) (n : Nat) (x : α) (l : T α) (v : Option α) (r : T α) : T α :=
  Nat.casesOn n (.node l (some x) r)
    (fun m => Nat.casesOn (Nat.mod m 2) (mkL v r (ih l (Nat.div m 2) x)) (fun _ => mkR v l (ih r (Nat.div m 2) x)))
noncomputable def setF (f : Nat) : T α → Nat → α → T α :=
  Nat.rec (motive := fun _ => T α → Nat → α → T α) (fun t _ _ => t)
    (fun _ ih t n x => T.casesOn t (setLeaf ih n x) (fun l v r => setNode ih n x l v r)) f
noncomputable def set (t : T α) (n : Nat) (x : α) : T α := setF (Nat.succ n) t n x

end T

/-! ### Symbolic integers and bools -/
/-- Bits of a natural variable, of which bounds are known: n of them, from one on, at a place. -/
structure Fld where
  i : Nat
  lo : Nat
  hi : Nat
  fr : Nat
  n : Nat
  sh : Nat

inductive SE where
  | lit (n : Int)
  | var (i : Nat)
  | bin (o : BinOp) (k : IntKind) (a b : SE)
  | wrap (k : IntKind) (a : SE)
  /-- Bits of variables, and a constant, laid over one another. -/
  | flds (l : List Fld) (c : Nat)

inductive SB where
  | lit (b : Bool)
  | var (i : Nat)
  | cmp (o : BinOp) (a b : SE)
  | not (a : SB)
  | beq (a b : SB)
  | and (a b : SB)

/-- What the valuation gives: integers, and bools by numbers. -/
structure Val where
  i : Nat → Int
  b : Nat → Bool

def bitsOp (o : BinOp) (k : IntKind) (x y : Int) : Int :=
  let a := BitVec.ofInt k.bits x
  let b := BitVec.ofInt k.bits y
  match o with
  | .and => k.wrap (a &&& b).toNat
  | .or => k.wrap (a ||| b).toNat
  | .xor => k.wrap (a ^^^ b).toNat
  | _ => k.wrap (a &&& ~~~b).toNat

/-- The integer operations as the model has them. -/
def intOp (o : BinOp) (k : IntKind) (x y : Int) : Int :=
  match o with
  | .add => k.wrap (x + y)
  | .sub => k.wrap (x - y)
  | .mul => k.wrap (x * y)
  | .quo => k.wrap (x.tdiv y)
  | .rem => x.tmod y
  | .shl => k.wrap (x * 2 ^ (min y.toNat k.bits))
  | .shr => x.fdiv (2 ^ (min y.toNat k.bits))
  | o => bitsOp o k x y

def cmpOp (o : BinOp) (x y : Int) : Bool :=
  match o with
  | .eql => x == y
  | .neq => x != y
  | .lss => x < y
  | .leq => x ≤ y
  | .gtr => x > y
  | _ => x ≥ y

def Fld.den (ρ : Val) (f : Fld) : Nat := (((max f.lo (min (ρ.i f.i).toNat f.hi)) >>> f.fr) % 2 ^ f.n) <<< f.sh
def fldsDen (ρ : Val) : List Fld → Nat → Nat
  | [], c => c
  | f :: l, c => f.den ρ ||| fldsDen ρ l c

def SE.den (ρ : Val) : SE → Int
  | .lit n => n
  | .var i => ρ.i i
  | .bin o k a b => intOp o k (a.den ρ) (b.den ρ)
  | .wrap k a => k.wrap (a.den ρ)
  | .flds l c => Int.ofNat (fldsDen ρ l c)

def SB.den (ρ : Val) : SB → Bool
  | .lit b => b
  | .var i => ρ.b i
  | .cmp o a b => cmpOp o (a.den ρ) (b.den ρ)
  | .not a => !(a.den ρ)
  | .beq a b => a.den ρ == b.den ρ
  | .and a b => a.den ρ && b.den ρ

def Fld.beq (f g : Fld) : Bool :=
  match Nat.beq f.i g.i, Nat.beq f.lo g.lo, Nat.beq f.hi g.hi, Nat.beq f.fr g.fr, Nat.beq f.n g.n, Nat.beq f.sh g.sh with
  | true, true, true, true, true, true => true
  | _, _, _, _, _, _ => false
def fldsBeq : List Fld → List Fld → Bool
  | [], [] => true
  | f :: l, g :: m => match f.beq g with | true => fldsBeq l m | false => false
  | _, _ => false

def SE.beq : SE → SE → Bool
  | .lit a, .lit b => match a, b with
    | .ofNat x, .ofNat y => Nat.beq x y
    | .negSucc x, .negSucc y => Nat.beq x y
    | _, _ => false
  | .var i, .var j => Nat.beq i j
  | .bin o k a b, .bin o' k' a' b' => if o = o' then (if k = k' then (match SE.beq a a' with | true => SE.beq b b' | false => false) else false) else false
  | .wrap k a, .wrap k' a' => if k = k' then SE.beq a a' else false
  | .flds l c, .flds l' c' => match fldsBeq l l' with | true => Nat.beq c c' | false => false
  | _, _ => false

def SB.eqv : SB → SB → Bool
  | .lit a, .lit b => a == b
  | .var i, .var j => Nat.beq i j
  | .cmp o a b, .cmp o' a' b' => if o = o' then (match SE.beq a a' with | true => SE.beq b b' | false => false) else false
  | .not a, .not b => SB.eqv a b
  | .beq a b, .beq a' b' => match SB.eqv a a' with | true => SB.eqv b b' | false => false
  | .and a b, .and a' b' => match SB.eqv a a' with | true => SB.eqv b b' | false => false
  | _, _ => false

/-! ### Fast integers -/
/-- 2^(bits - 1) of the signed ones, 2^bits of the others: below it the wrap of a natural number is idle. -/
def topOf : IntKind → Nat
  | .i8 => 128 | .i16 => 32768 | .i32 => 2147483648 | .i64 => 9223372036854775808
  | .u8 => 256 | .u16 => 65536 | .u32 => 4294967296 | .u64 => 18446744073709551616

def wrapF (k : IntKind) (n : Int) : Int :=
  match n with
  | .ofNat m => match Nat.blt m (topOf k) with
    | true => .ofNat m
    | false => k.wrap n
  | .negSucc m => match k.signed with
    | true => match Nat.blt m (topOf k) with
      | true => .negSucc m
      | false => k.wrap n
    | false => k.wrap n

def ltI : Int → Int → Bool
  | .ofNat a, .ofNat b => Nat.blt a b
  | .negSucc _, .ofNat _ => true
  | .ofNat _, .negSucc _ => false
  | .negSucc a, .negSucc b => Nat.blt b a
def eqI : Int → Int → Bool
  | .ofNat a, .ofNat b => Nat.beq a b
  | .negSucc a, .negSucc b => Nat.beq a b
  | _, _ => false

def cmpF (o : BinOp) (x y : Int) : Bool :=
  match o with
  | .eql => eqI x y
  | .neq => match eqI x y with | true => false | false => true
  | .lss => ltI x y
  | .leq => match ltI y x with | true => false | false => true
  | .gtr => ltI y x
  | _ => match ltI x y with | true => false | false => true

def bitsF.nat (o : BinOp) (a b : Nat) : Int :=
  match o with
  | .and => .ofNat (Nat.land a b)
  | .or => .ofNat (Nat.lor a b)
  | .xor => .ofNat (Nat.xor a b)
  | _ => .ofNat (Nat.xor a (Nat.land a b))
/-- The bit operations, fast where both numbers are natural and below the top. -/
def bitsF (o : BinOp) (k : IntKind) (x y : Int) : Int :=
  match x, y with
  | .ofNat a, .ofNat b =>
    match Nat.blt a (topOf k), Nat.blt b (topOf k) with
    | true, true => bitsF.nat o a b
    | _, _ => bitsOp o k x y
  | _, _ => bitsOp o k x y

def shrF (k : IntKind) (x : Int) (y : Nat) : Int :=
  match x with
  | .ofNat a => .ofNat (Nat.div a (Nat.pow 2 (match Nat.blt y k.bits with | true => y | false => k.bits)))
  | .negSucc _ => x.fdiv (2 ^ (min y k.bits))

def shlF (k : IntKind) (x : Int) (y : Nat) : Int :=
  match x with
  | .ofNat a => wrapF k (.ofNat (Nat.mul a (Nat.pow 2 (match Nat.blt y k.bits with | true => y | false => k.bits))))
  | .negSucc _ => k.wrap (x * 2 ^ (min y k.bits))

def addI : Int → Int → Int
  | .ofNat a, .ofNat b => .ofNat (Nat.add a b)
  | x, y => x + y
def subI : Int → Int → Int
  | .ofNat a, .ofNat b => match Nat.ble b a with | true => .ofNat (Nat.sub a b) | false => .negSucc (Nat.sub (Nat.sub b a) 1)
  | x, y => x - y
def mulI : Int → Int → Int
  | .ofNat a, .ofNat b => .ofNat (Nat.mul a b)
  | x, y => x * y
def divI : Int → Int → Int
  | .ofNat a, .ofNat b => .ofNat (Nat.div a b)
  | x, y => x.tdiv y
def modI : Int → Int → Int
  | .ofNat a, .ofNat b => .ofNat (Nat.mod a b)
  | x, y => x.tmod y
/-- The integer operations on literals; none: they panic, or are none. -/
def intF (o : BinOp) (k : IntKind) (x y : Int) : Option Int :=
  match o with
  | .add => some (wrapF k (addI x y))
  | .sub => some (wrapF k (subI x y))
  | .mul => some (wrapF k (mulI x y))
  | .quo => match eqI y 0 with | true => none | false => some (wrapF k (divI x y))
  | .rem => match eqI y 0 with | true => none | false => some (modI x y)
  | .shl => match y with | .ofNat n => some (shlF k x n) | _ => none
  | .shr => match y with | .ofNat n => some (shrF k x n) | _ => none
  | .and => some (bitsF .and k x y)
  | .or => some (bitsF .or k x y)
  | .xor => some (bitsF .xor k x y)
  | .andNot => some (bitsF .andNot k x y)
  | _ => none

/-- Forced: the same literal, evaluated. -/
def forceN {β : Type} (n : Nat) (k : Nat → β) : β := Nat.casesOn n (k 0) (fun m => k (Nat.succ m))
/-- A kind's number. -/
def kn : IntKind → Nat
  | .i8 => 0 | .i16 => 1 | .i32 => 2 | .i64 => 3 | .u8 => 4 | .u16 => 5 | .u32 => 6 | .u64 => 7

/-! ### Bits -/
/-- Below two to this the wrap of a natural number is idle. -/
def wOf : IntKind → Nat
  | .i8 => 7 | .i16 => 15 | .i32 => 31 | .i64 => 63 | .u8 => 8 | .u16 => 16 | .u32 => 32 | .u64 => 64
def sgn : IntKind → Bool
  | .i8 | .i16 | .i32 | .i64 => true
  | _ => false
def truncF (W : Nat) : List Fld → List Fld
  | [] => []
  | f :: l => match Nat.blt f.sh W with
    | false => truncF W l
    | true => match Nat.ble (Nat.add f.sh f.n) W with
      | true => f :: truncF W l
      | false => ⟨f.i, f.lo, f.hi, f.fr, Nat.sub W f.sh, f.sh⟩ :: truncF W l
def shrFs (m : Nat) : List Fld → List Fld
  | [] => []
  | f :: l => match Nat.ble m f.sh with
    | true => ⟨f.i, f.lo, f.hi, f.fr, f.n, Nat.sub f.sh m⟩ :: shrFs m l
    | false => match Nat.blt m (Nat.add f.sh f.n) with
      | true => ⟨f.i, f.lo, f.hi, Nat.add f.fr (Nat.sub m f.sh), Nat.sub f.n (Nat.sub m f.sh), 0⟩ :: shrFs m l
      | false => shrFs m l
def shlFs (m : Nat) : List Fld → List Fld
  | [] => []
  | f :: l => ⟨f.i, f.lo, f.hi, f.fr, f.n, Nat.add f.sh m⟩ :: shlFs m l
def fuse (g f : Fld) : Option Fld :=
  match Nat.beq g.i f.i, Nat.beq g.lo f.lo, Nat.beq g.hi f.hi, Nat.beq (Nat.add g.fr g.n) f.fr, Nat.beq (Nat.add g.sh g.n) f.sh with
  | true, true, true, true, true => some ⟨g.i, g.lo, g.hi, g.fr, Nat.add g.n f.n, g.sh⟩
  | _, _, _, _, _ => none
def joinF : List Fld → Fld → List Fld
  | [], f => [f]
  | g :: l, f => match fuse g f with
    | some h => joinF l h
    | none => match fuse f g with
      | some h => joinF l h
      | none => g :: joinF l f
def joinFs (l : List Fld) : List Fld → List Fld
  | [] => l
  | f :: m => joinFs (joinF l f) m
/-- Those bits of the field that are to be kept, one by one. -/
def pieces (keep : Nat → Bool) (f : Fld) : Nat → List Fld
  | 0 => []
  | b + 1 => match keep (Nat.add f.sh b) with
    | true => ⟨f.i, f.lo, f.hi, Nat.add f.fr b, 1, Nat.add f.sh b⟩ :: pieces keep f b
    | false => pieces keep f b
def maskFs (keep : Nat → Bool) : List Fld → List Fld
  | [] => []
  | f :: l => joinFs (maskFs keep l) (pieces keep f f.n)
def fits (W : Nat) : List Fld → Bool
  | [] => true
  | f :: l => match Nat.ble (Nat.add f.sh f.n) W with | true => fits W l | false => false
def fitsC (W : Nat) (l : List Fld) (c : Nat) : Bool := match Nat.blt c (Nat.pow 2 W) with | true => fits W l | false => false

def toF : SE → Option (List Fld × Nat)
  | .lit (.ofNat n) => some ([], n)
  | .flds l c => some (l, c)
  | _ => none
def ofF (l : List Fld) (c : Nat) : SE :=
  match l with
  | [] => forceN c fun c => .lit (.ofNat c)
  | f :: l => forceN c fun c => .flds (f :: l) c

/-- All that an unsigned kind may be. -/
def topB (k : IntKind) : Option (Nat × Nat) := match sgn k with | true => none | false => some (0, Nat.sub (Nat.pow 2 (wOf k)) 1)
/-- Bounds of a natural number. -/
def bnd (a : SE) : Option (Nat × Nat) :=
  match a with
  | .lit (.ofNat n) => some (n, n)
  | .flds [f] 0 => (match Nat.beq f.fr 0, Nat.beq f.sh 0, Nat.blt (Nat.max f.lo f.hi) (Nat.pow 2 f.n) with
    | true, true, true => some (f.lo, Nat.max f.lo f.hi)
    | _, _, _ => match fitsC 64 [f] 0 with | true => some (0, 18446744073709551615) | false => none)
  | .bin .add k x y => (match bnd x, bnd y with
    | some (p, q), some (r, s) => (match Nat.blt (Nat.add q s) (Nat.pow 2 (wOf k)) with
      | true => some (Nat.add p r, Nat.add q s)
      | false => topB k)
    | _, _ => topB k)
  | .bin .sub k x y => (match bnd x, bnd y with
    | some (p, q), some (r, s) => (match Nat.ble s p, Nat.blt q (Nat.pow 2 (wOf k)) with
      | true, true => some (Nat.sub p s, Nat.sub q r)
      | _, _ => (match Nat.blt q r, Nat.ble s (Nat.pow 2 (wOf k)), sgn k with
        | true, true, false => some (Nat.sub (Nat.add (Nat.pow 2 (wOf k)) p) s, Nat.sub (Nat.add (Nat.pow 2 (wOf k)) q) r)
        | _, _, _ => topB k))
    | _, _ => topB k)
  | .wrap k _ => topB k
  | _ => none
def sWrapB (k : IntKind) (a : SE) : SE :=
  match bnd a with
  | some (_, q) => (match Nat.blt q (Nat.pow 2 (wOf k)) with | true => a | false => .wrap k a)
  | none => .wrap k a

def sWrap (k : IntKind) (a : SE) : SE :=
  match a with
  | .flds l c => (match sgn k with
    | true => (match fitsC (wOf k) l c with | true => .flds l c | false => .wrap k (.flds l c))
    | false => ofF (truncF (wOf k) l) (Nat.mod c (Nat.pow 2 (wOf k))))
  | a => sWrapB k a

def sOr (k : IntKind) (a b : SE) (l : List Fld) (c : Nat) (l' : List Fld) (c' : Nat) : SE :=
  match fitsC (wOf k) l c, fitsC (wOf k) l' c' with
  | true, true => ofF (joinFs l l') (Nat.lor c c')
  | _, _ => .bin .or k a b
def sAnd (k : IntKind) (a b : SE) (l : List Fld) (c m : Nat) : SE :=
  match fitsC (wOf k) l c, Nat.blt m (Nat.pow 2 (wOf k)) with
  | true, true => ofF (maskFs (Nat.testBit m) l) (Nat.land c m)
  | _, _ => .bin .and k a b
def sAndNot (k : IntKind) (a b : SE) (l : List Fld) (c m : Nat) : SE :=
  match fitsC (wOf k) l c, Nat.blt m (Nat.pow 2 (wOf k)) with
  | true, true => ofF (maskFs (fun i => match Nat.testBit m i with | true => false | false => true) l) (Nat.xor c (Nat.land c m))
  | _, _ => .bin .andNot k a b
def sShl (k : IntKind) (a b : SE) (l : List Fld) (c n : Nat) : SE :=
  match Nat.ble n k.bits, sgn k with
  | true, false => ofF (truncF (wOf k) (shlFs n l)) (Nat.mod (Nat.mul c (Nat.pow 2 n)) (Nat.pow 2 (wOf k)))
  | _, _ => .bin .shl k a b
def sShr (k : IntKind) (a b : SE) (l : List Fld) (c n : Nat) : SE :=
  match Nat.ble n k.bits with
  | true => ofF (shrFs n l) (Nat.div c (Nat.pow 2 n))
  | false => .bin .shr k a b
/-- All bits lie at a place or above. -/
def above (m : Nat) : List Fld → Bool
  | [] => true
  | f :: l => match Nat.ble m f.sh with | true => above m l | false => false
def width (l : List Fld) (c : Nat) : Nat :=
  match l with
  | [] => (match c with | 0 => 0 | c + 1 => Nat.succ (Nat.log2 (Nat.succ c)))
  | f :: l => Nat.max (Nat.add f.sh f.n) (width l c)
/-- A sum of numbers that have no bit in common. -/
def sAdd (k : IntKind) (a b : SE) (l : List Fld) (c : Nat) (l' : List Fld) (c' : Nat) : SE :=
  match fitsC (wOf k) l c, fitsC (wOf k) l' c' with
  | true, true => (match fitsC (width l c) l c, above (width l c) l', Nat.beq (Nat.mod c' (Nat.pow 2 (width l c))) 0 with
    | true, true, true => ofF (joinFs l l') (Nat.lor c c')
    | _, _, _ => .bin .add k a b)
  | _, _ => .bin .add k a b
def sQuo (k : IntKind) (a b : SE) (l : List Fld) (c n : Nat) : SE :=
  match fitsC (wOf k) l c, Nat.beq n (Nat.pow 2 (Nat.log2 n)) with
  | true, true => ofF (shrFs (Nat.log2 n) l) (Nat.div c (Nat.pow 2 (Nat.log2 n)))
  | _, _ => .bin .quo k a b
def sRem (k : IntKind) (a b : SE) (l : List Fld) (c n : Nat) : SE :=
  match Nat.beq n (Nat.pow 2 (Nat.log2 n)) with
  | true => ofF (truncF (Nat.log2 n) l) (Nat.mod c (Nat.pow 2 (Nat.log2 n)))
  | false => .bin .rem k a b
/-- Nothing added, or taken away. -/
def sId (o : BinOp) (k : IntKind) (a b : SE) (l : List Fld) (c : Nat) (l' : List Fld) (c' : Nat) : SE :=
  match l' with
  | [] => (match Nat.beq c' 0, fitsC (wOf k) l c with
    | true, true => ofF l c
    | _, _ => .bin o k a b)
  | _ => .bin o k a b
/-- An operation on integers that are not both literals. -/
def sBin (o : BinOp) (k : IntKind) (a b : SE) : SE :=
  match toF a, toF b with
  | some (l, c), some (l', c') => (match o with
    | .or => sOr k a b l c l' c'
    | .and => (match l' with
      | [] => sAnd k a b l c c'
      | _ => (match l with
        | [] => sAnd k b a l' c' c
        | _ => .bin .and k a b))
    | .andNot => (match l' with | [] => sAndNot k a b l c c' | _ => .bin .andNot k a b)
    | .shl => (match l' with | [] => sShl k a b l c c' | _ => .bin .shl k a b)
    | .shr => (match l' with | [] => sShr k a b l c c' | _ => .bin .shr k a b)
    | .add => sAdd k a b l c l' c'
    | .quo => (match l' with | [] => sQuo k a b l c c' | _ => .bin .quo k a b)
    | .rem => (match l' with | [] => sRem k a b l c c' | _ => .bin .rem k a b)
    | .sub => sId .sub k a b l c l' c'
    | o => .bin o k a b)
  | _, _ => .bin o k a b

/-- A comparison of two that are the same. -/
def selfCmp (o : BinOp) : Bool :=
  match o with
  | .neq | .lss | .gtr => false
  | _ => true
def sCmpB (o : BinOp) (a b : SE) : SB :=
  match bnd a, bnd b with
  | some (p, q), some (r, s) => (match o with
    | .eql => (match Nat.blt q r, Nat.blt s p with | false, false => .cmp .eql a b | _, _ => .lit false)
    | .neq => (match Nat.blt q r, Nat.blt s p with | false, false => .cmp .neq a b | _, _ => .lit true)
    | .lss => (match Nat.blt q r, Nat.ble s p with | true, _ => .lit true | _, true => .lit false | _, _ => .cmp .lss a b)
    | .gtr => (match Nat.blt s p, Nat.ble q r with | true, _ => .lit true | _, true => .lit false | _, _ => .cmp .gtr a b)
    | .leq => (match Nat.ble q r, Nat.blt s p with | true, _ => .lit true | _, true => .lit false | _, _ => .cmp .leq a b)
    | .geq => (match Nat.ble s p, Nat.blt q r with | true, _ => .lit true | _, true => .lit false | _, _ => .cmp .geq a b)
    | o => .cmp o a b)
  | _, _ => .cmp o a b
def sCmp (o : BinOp) (a b : SE) : SB :=
  match SE.beq a b with
  | true => .lit (selfCmp o)
  | false => sCmpB o a b

/-! ### Abstract values -/
/-- The capacity of a slice: known, or up to the end of its block but for so many elements. -/
inductive CapI where
  | known (c : Nat)
  | upto (skip : Nat)

inductive AV where
  | bool (b : SB)
  | int (k : IntKind) (n : SE)
  | str (s : List Nat)
  | nilp
  | ptr (n off : Nat)
  | nils
  | sl (n off len : Nat) (cap : CapI)
  /-- A slice that is not nil, of no element, of whatever place and capacity. -/
  | emp
  /-- A slice of which no more is known than its length. -/
  | slu (n : SE)
  /-- A slice that is not nil, of which no more is known. -/
  | sla
  | nilm
  | map (n : Nat)
  | func (f : FuncId) (first cap : List AV)
  | nilf
  | nili
  | iface (t : TypeId) (v : AV)
  | agg (l : List AV)
  | tup (l : List AV)

def CapI.beq : CapI → CapI → Bool
  | .known a, .known b => Nat.beq a b
  | .upto a, .upto b => Nat.beq a b
  | _, _ => false

def natsBeq : List Nat → List Nat → Bool
  | [], [] => true
  | a :: l, b :: m => match Nat.beq a b with | true => natsBeq l m | false => false
  | _, _ => false

mutual
def AV.beq : AV → AV → Bool
  | .bool a, .bool b => SB.eqv a b
  | .int k n, .int k' n' => match SE.beq n n' with | true => (if k = k' then true else false) | false => false
  | .str a, .str b => natsBeq a b
  | .nilp, .nilp => true
  | .ptr a b, .ptr c d => match Nat.beq a c with | true => Nat.beq b d | false => false
  | .nils, .nils => true
  | .sl a b c d, .sl a' b' c' d' => match Nat.beq a a', Nat.beq b b', Nat.beq c c' with | true, true, true => CapI.beq d d' | _, _, _ => false
  | .emp, .emp => true
  | .slu a, .slu b => SE.beq a b
  | .sla, .sla => true
  | .nilm, .nilm => true
  | .map a, .map b => Nat.beq a b
  | .func f l l', .func g m m' => match Nat.beq f g, AV.beqL l m with | true, true => AV.beqL l' m' | _, _ => false
  | .nilf, .nilf => true
  | .nili, .nili => true
  | .iface t v, .iface u w => match Nat.beq t u with | true => AV.beq v w | false => false
  | .agg l, .agg m => AV.beqL l m
  | .tup l, .tup m => AV.beqL l m
  | _, _ => false
def AV.beqL : List AV → List AV → Bool
  | [], [] => true
  | a :: l, b :: m => match AV.beq a b with | true => AV.beqL l m | false => false
  | _, _ => false
end

def undefA : AV := .tup []

/-- A value of one cell that a constant may be. -/
def ofCell : Value → Option AV
  | .bool b => some (.bool (.lit b))
  | .int k n => some (.int k (.lit n))
  | .string s => some (.str (s.data.toList.map (·.toNat)))
  | .pointer none => some .nilp
  | .slice none 0 0 => some .nils
  | .map none => some .nilm
  | .nilFunc => some .nilf
  | .nilIface => some .nili
  | _ => none
def ofCells : List Value → Option (List AV)
  | [] => some []
  | v :: l => match ofCell v with
    | none => none
    | some a => match ofCells l with
      | none => none
      | some m => some (a :: m)
def ofValue (v : Value) : Option AV :=
  match v with
  | .agg cs => match ofCells cs.toList with | some l => some (.agg l) | none => none
  | .tuple vs => match ofCells vs.toList with | some l => some (.tup l) | none => none
  | v => ofCell v

/-- As the model's 'Value.cells'. -/
def AV.cells : AV → List AV
  | .agg l => l
  | v => [v]

/-! ### Rows of cells -/
structure Vec where
  t : T AV
  n : Nat
  d : AV
def Vec.get (v : Vec) (i : Nat) : AV := match v.t.get i with | some x => x | none => v.d
def Vec.set (v : Vec) (i : Nat) (x : AV) : Vec := match v with | ⟨t, n, d⟩ => match t.set i x with | .leaf => ⟨.leaf, n, d⟩ | .node a b c => ⟨.node a b c, n, d⟩
/-- So many cells from a place on. -/
def Vec.list (v : Vec) (i : Nat) : Nat → List AV
  | 0 => []
  | n + 1 => v.get i :: Vec.list v (Nat.succ i) n
def Vec.put (v : Vec) (i : Nat) : List AV → Vec
  | [] => v
  | x :: l => Vec.put (v.set i x) (Nat.succ i) l
def Vec.ofList (l : List AV) : Vec := Vec.put ⟨.leaf, l.length, undefA⟩ 0 l

/-! ### Heaps -/
structure ME where
  key : AV
  val : AV
  born : Nat

inductive Obj where
  /-- A row of cells: of elements of so many cells; 'closed': since when another block of its group may lie over it; 'shared': another block may lie under it; 'own': made by the call. -/
  | cells (v : Vec) (esz grp : Nat) (closed : Option Nat) (shared own : Bool)
  | map (es : List ME) (clock : Nat)
  | iter (m : Option Nat) (since : Nat) (seen : List Nat) (stepped : Nat)
  /-- A map whose entries stand in whatever order: it is looked up alone. -/
  | mapu (es : List ME)

structure Heap where
  m : T Obj
  nx : Nat
  gw : T Nat

def Heap.alloc (H : Heap) (o : Obj) : Heap :=
  match H with
  | ⟨m, nx, gw⟩ => match m.set nx o with
    | .leaf => ⟨.leaf, nx + 1, gw⟩
    | .node a b c => forceN (nx + 1) fun x => ⟨.node a b c, x, gw⟩
def Heap.upd (H : Heap) (n : Nat) (o : Obj) : Heap :=
  match H with
  | ⟨m, nx, gw⟩ => match m.set n o with
    | .leaf => ⟨.leaf, nx, gw⟩
    | .node a b c => ⟨.node a b c, nx, gw⟩
def Heap.wrote (H : Heap) (g : Nat) : Heap := match H with | ⟨m, nx, gw⟩ => ⟨m, nx, gw.set g nx⟩

/-- No other block has been written since it was laid over this one. -/
def alive (gw : T Nat) (g : Nat) (closed : Option Nat) : Bool :=
  match closed with
  | none => true
  | some t => match gw.get g with
    | none => true
    | some w => Nat.blt w t
/-- A row that may be read. -/
def Heap.row (H : Heap) (n : Nat) : Option Vec :=
  match H.m.get n with
  | some (.cells v _ g closed _ _) => match alive H.gw g closed with
    | true => some v
    | false => none
  | _ => none

def isCell : AV → Bool
  | .agg _ => false
  | .tup _ => false
  | _ => true
def areCells : List AV → Bool
  | [] => true
  | a :: l => match isCell a with | true => areCells l | false => false

/-- The row with other cells in it: only the topmost of its group, made by the call. -/
def Heap.store (H : Heap) (n off : Nat) (l : List AV) : Option Heap :=
  match H.m.get n with
  | some (.cells v esz g none sh true) =>
    match Nat.ble (Nat.add off l.length) v.n, areCells l with
    | true, true => match sh with
      | false => some (H.upd n (.cells (v.put off l) esz g none false true))
      | true => some ((H.upd n (.cells (v.put off l) esz g none false true)).wrote g)
    | _, _ => none
  | _ => none

def Heap.mapAt (H : Heap) (n : Nat) : Option (List ME × Nat) :=
  match H.m.get n with
  | some (.map es c) => some (es, c)
  | _ => none
def Heap.mapuAt (H : Heap) (n : Nat) : Option (List ME) :=
  match H.m.get n with
  | some (.mapu es) => some es
  | _ => none

end
end Go.Dw
