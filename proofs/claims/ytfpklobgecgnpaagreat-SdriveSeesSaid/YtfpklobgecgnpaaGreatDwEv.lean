/-
  DwEv: the abstract machine: a run of the program's code over abstract values and heaps, in one order, all choices that the tape may make followed; it says whether every way ends well.
-/
import Derived.Test.YtfpklobgecgnpaaGreatDwBase
namespace Go.Dw
set_option linter.unusedSimpArgs false
set_option linter.unusedVariables false
noncomputable section

/-- What a run comes to: well; badly; all of some; one of two by a symbolic test. -/
inductive Ob where
  | ok
  | bad (n : Nat) (s : String)
  | all (l : List Ob)
  | ite (c : SB) (t e : Ob)

mutual
def Ob.den (ρ : Val) : Ob → Prop
  | .ok => True
  | .bad _ _ => False
  | .all l => Ob.denL ρ l
  | .ite c t e => (c.den ρ = true → t.den ρ) ∧ (c.den ρ = false → e.den ρ)
def Ob.denL (ρ : Val) : List Ob → Prop
  | [] => True
  | o :: l => o.den ρ ∧ Ob.denL ρ l
end

mutual
/-- Every way ends well, whatever the tests. -/
def Ob.good : Ob → Bool
  | .ok => true
  | .bad _ _ => false
  | .all l => Ob.goodL l
  | .ite _ t e => match t.good with | true => e.good | false => false
def Ob.goodL : List Ob → Bool
  | [] => true
  | o :: l => match o.good with | true => Ob.goodL l | false => false
end

inductive Ex where
  | normal
  | exit (id : Nat)
  | ret

section
variable (P : Program)

/-- The slot behind all others in which the deferred calls are kept. -/
def dslot : Nat := 1000000

def opd (env : T AV) : Operand → Option AV
  | .tmp t => match Nat.blt t dslot with
    | true => (match env.get t with | some v => some v | none => some undefA)
    | false => none
  | .const v => ofValue v
  | .func f => some (.func f [] [])
  | .global _ => none

def opds (env : T AV) : List Operand → Option (List AV)
  | [] => some []
  | x :: l => match opd env x with
    | none => none
    | some a => match opds env l with
      | none => none
      | some m => some (a :: m)

def szOf (t : TypeId) : Option Nat := match P.info? t with | some i => some i.size | none => none
def isAggA (t : TypeId) : Option Bool :=
  match P.underlying t with
  | some (.struct _) => some true
  | some (.array _ _) => some true
  | some _ => some false
  | none => none
def zeroA (t : TypeId) : Option AV :=
  match P.info? t with
  | some i => (match i.zero with | some v => ofValue v | none => none)
  | none => none

def dropN : Nat → List AV → List AV
  | 0, l => l
  | _ + 1, [] => []
  | n + 1, _ :: l => dropN n l
/-- The first n; none: there are fewer. -/
def takeN : Nat → List AV → Option (List AV)
  | 0, _ => some []
  | _ + 1, [] => none
  | n + 1, a :: l => match takeN n l with | some m => some (a :: m) | none => none

def partA (t : TypeId) (cs : List AV) (off : Nat) : Option AV :=
  match isAggA P t, szOf P t with
  | some true, some n => match takeN n (dropN off cs) with | some l => some (.agg l) | none => none
  | some false, _ => match dropN off cs with | a :: _ => some a | [] => none
  | _, _ => none

/-- Whether a comparison's result is known, else the symbolic one. -/
def mkCmp (o : BinOp) (a b : SE) : SB :=
  match a, b with
  | .lit x, .lit y => .lit (cmpF o x y)
  | a, b => sCmp o a b
def mkNot : SB → SB
  | .lit true => .lit false
  | .lit false => .lit true
  | b => .not b
def mkBeq (a b : SB) : SB :=
  match a, b with
  | .lit true, b => b
  | .lit false, b => mkNot b
  | a, .lit true => a
  | a, .lit false => mkNot a
  | a, b => .beq a b
def mkInt (o : BinOp) (k : IntKind) (a b : SE) : Option SE :=
  match a, b with
  | .lit x, .lit y => match intF o k x y with
    | some (.ofNat m) => forceN m fun m => some (.lit (.ofNat m))
    | some (.negSucc m) => forceN m fun m => some (.lit (.negSucc m))
    | none => none
  | a, .lit y => match o with
    | .add => some (sBin .add k a (.lit y)) | .sub => some (sBin .sub k a (.lit y)) | .mul => some (sBin .mul k a (.lit y))
    | .and => some (sBin .and k a (.lit y)) | .or => some (sBin .or k a (.lit y)) | .xor => some (sBin .xor k a (.lit y)) | .andNot => some (sBin .andNot k a (.lit y))
    | .quo => match eqI y 0 with | true => none | false => some (sBin .quo k a (.lit y))
    | .rem => match eqI y 0 with | true => none | false => some (sBin .rem k a (.lit y))
    | .shl => match y with | .ofNat _ => some (sBin .shl k a (.lit y)) | _ => none
    | .shr => match y with | .ofNat _ => some (sBin .shr k a (.lit y)) | _ => none
    | _ => none
  | a, b => match o with
    | .add => some (sBin .add k a b) | .sub => some (sBin .sub k a b) | .mul => some (sBin .mul k a b)
    | .and => some (sBin .and k a b) | .or => some (sBin .or k a b) | .xor => some (sBin .xor k a b) | .andNot => some (sBin .andNot k a b)
    | _ => none

def mkWrap (k : IntKind) (a : SE) : SE :=
  match a with
  | .lit x => match wrapF k x with
    | .ofNat m => forceN m fun m => .lit (.ofNat m)
    | .negSucc m => forceN m fun m => .lit (.negSucc m)
  | a => sWrap k a

def isCmp : BinOp → Bool
  | .eql | .neq | .lss | .leq | .gtr | .geq => true
  | _ => false
def isShift : BinOp → Bool
  | .shl | .shr => true
  | _ => false

/-- Two rows of the call's own that surely do not lie over one another. -/
def apartA (H : Heap) (n m : Nat) : Bool :=
  match H.m.get n, H.m.get m with
  | some (.cells _ _ g _ _ true), some (.cells _ _ g' _ _ true) =>
    match Nat.beq g g' with
    | true => false
    | false => match H.row n, H.row m with
      | some _, some _ => true
      | _, _ => false
  | _, _ => false

def mkAnd (a b : SB) : SB :=
  match a, b with
  | .lit true, b => b
  | .lit false, _ => .lit false
  | a, .lit true => a
  | _, .lit false => .lit false
  | a, b => .and a b

def eqFields (eq : TypeId → AV → AV → Option SB) : List Field → List AV → List AV → Option SB
  | [], _, _ => some (.lit true)
  | fd :: l, xs, ys =>
    if fd.name = "_" then eqFields eq l xs ys else
    match partA P fd.type xs fd.offset, partA P fd.type ys fd.offset with
    | some a, some b => match eq fd.type a b with
      | none => none
      | some c => match eqFields eq l xs ys with
        | some d => some (mkAnd c d)
        | none => none
    | _, _ => none
def eqElems (eq : AV → AV → Option SB) (e : TypeId) (s : Nat) : Nat → Nat → List AV → List AV → Option SB
  | 0, _, _, _ => some (.lit true)
  | n + 1, i, xs, ys =>
    match partA P e xs (i * s), partA P e ys (i * s) with
    | some a, some b => match eq a b with
      | none => none
      | some c => match eqElems eq e s n (i + 1) xs ys with
        | some d => some (mkAnd c d)
        | none => none
    | _, _ => none

/-- Equality by the type; fuel: the type's depth. Only where each part's test is known, or it stands alone. -/
def eqA (H : Heap) : Nat → TypeId → AV → AV → Option SB
  | 0, _, _, _ => none
  | f + 1, t, x, y =>
    match P.underlying t with
    | some .bool => match x, y with
      | .bool a, .bool b => some (mkBeq a b)
      | _, _ => none
    | some (.int _) => match x, y with
      | .int k a, .int k' b => match Nat.beq (kn k) (kn k') with | true => some (mkCmp .eql a b) | false => none
      | _, _ => none
    | some .string => match x, y with
      | .str a, .str b => some (.lit (natsBeq a b))
      | _, _ => none
    | some (.pointer e) => match x, y with
      | .nilp, .nilp => some (.lit true)
      | .nilp, .ptr _ _ => some (.lit false)
      | .ptr _ _, .nilp => some (.lit false)
      | .ptr n o, .ptr m p => match szOf P e with
        | some (_ + 1) => match Nat.beq n m with
          | true => some (.lit (Nat.beq o p))
          | false => match apartA H n m with
            | true => some (.lit false)
            | false => none
        | _ => none
      | _, _ => none
    | some (.slice _) => match x, y with
      | .nils, .nils => some (.lit true)
      | .nils, .sl _ _ _ _ => some (.lit false)
      | .nils, .emp => some (.lit false)
      | .sl _ _ _ _, .nils => some (.lit false)
      | .emp, .nils => some (.lit false)
      | .nils, .sla => some (.lit false)
      | .sla, .nils => some (.lit false)
      | _, _ => none
    | some (.map _ _) => match x, y with
      | .nilm, .nilm => some (.lit true)
      | .nilm, .map _ => some (.lit false)
      | .map _, .nilm => some (.lit false)
      | _, _ => none
    | some (.func _ _ _) => match x, y with
      | .nilf, .nilf => some (.lit true)
      | .nilf, .func _ _ _ => some (.lit false)
      | .func _ _ _, .nilf => some (.lit false)
      | _, _ => none
    | some (.interface _) => match x, y with
      | .nili, .nili => some (.lit true)
      | .nili, .iface _ _ => some (.lit false)
      | .iface _ _, .nili => some (.lit false)
      | _, _ => none
    | some (.struct fs) => match x, y with
      | .agg xs, .agg ys => match P.stoodInHeld t with
        | true => none
        | false => eqFields P (eqA H f) fs.toList xs ys
      | _, _ => none
    | some (.array len e) => match x, y with
      | .agg xs, .agg ys => match szOf P e with
        | some s => eqElems P (eqA H f e) e s len 0 xs ys
        | none => none
      | _, _ => none
    | _ => none

def binInt (o : BinOp) (k k' : IntKind) (a b : SE) : Option AV :=
  match isShift o with
  | true => (match mkInt o k a b with | some c => some (.int k c) | none => none)
  | false => match Nat.beq (kn k) (kn k') with
    | true => (match isCmp o with
      | true => some (.bool (mkCmp o a b))
      | false => match mkInt o k a b with | some c => some (.int k c) | none => none)
    | false => none
def binStr (o : BinOp) (a b : List Nat) : Option AV :=
  match o with
  | .eql => some (.bool (.lit (natsBeq a b)))
  | .neq => some (.bool (.lit (match natsBeq a b with | true => false | false => true)))
  | .add => (match Nat.blt (Nat.add a.length b.length) 4611686018427387904 with | true => some (.str (a ++ b)) | false => none)
  | _ => none
def binEq (H : Heap) (o : BinOp) (t : TypeId) (x y : AV) : Option AV :=
  match o with
  | .eql => (match eqA P H 8 t x y with | some b => some (.bool b) | none => none)
  | .neq => (match eqA P H 8 t x y with | some b => some (.bool (mkNot b)) | none => none)
  | _ => none
/-- A binary operation. -/
def binA (H : Heap) (c : Bool) (o : BinOp) (t : TypeId) (x y : AV) : Option AV :=
  match x with
  | .int k a => (match y with | .int k' b => binInt o k k' a b | _ => none)
  | .str a => (match y with | .str b => binStr o a b | _ => none)
  | .nili => (match c with | true => binEq P H o t .nili y | false => none)
  | .agg l => (match P.eqGuardType P.depth t with | true => none | false => binEq P H o t (.agg l) y)
  | x => binEq P H o t x y

def unA (o : UnOp) (x : AV) : Option AV :=
  match o, x with
  | .not, .bool b => some (.bool (mkNot b))
  | .neg, .int k n => match mkInt .sub k (.lit 0) n with | some c => some (.int k c) | none => none
  | .xor, .int k n => match mkInt .xor k n (.lit (if k.signed then -1 else k.max)) with | some c => some (.int k c) | none => none
  | _, _ => none

/-- Bytes that are all known. -/
def litBytes : List AV → Option (List Nat)
  | [] => some []
  | .int .u8 (.lit (.ofNat n)) :: l => match Nat.blt n 256 with
    | true => match litBytes l with | some m => some (n :: m) | none => none
    | false => none
  | _ :: _ => none

def byteAVs : List Nat → List AV
  | [] => []
  | b :: l => .int .u8 (.lit (.ofNat b)) :: byteAVs l
/-- The cells of a slice, so many elements of so many cells; of a string: its bytes. -/
def cellsA (H : Heap) (sz n : Nat) (x : AV) : Option (List AV) :=
  match x with
  | .nils => (match n with | 0 => some [] | _ + 1 => none)
  | .emp => (match n with | 0 => some [] | _ + 1 => none)
  | .sl b off len _ => (match Nat.ble n len with
    | false => none
    | true => match H.row b with
      | none => none
      | some v => match Nat.ble (Nat.add off (Nat.mul n sz)) v.n with
        | true => some (v.list off (Nat.mul n sz))
        | false => none)
  | .str s => (match Nat.beq sz 1 with | true => takeN n (byteAVs s) | false => none)
  | _ => none

def lenA (x : AV) : Option Nat :=
  match x with
  | .nils => some 0
  | .emp => some 0
  | .sl _ _ len _ => some len
  | .str s => some s.length
  | _ => none

def convStr (H : Heap) (e : TypeId) (x : AV) : Option AV :=
  match P.underlying e with
  | some (.int .u8) => (match x with
    | .str _ => none
    | x => match lenA x with
      | none => none
      | some n => match cellsA H 1 n x with
        | none => none
        | some l => match litBytes l with | some m => some (.str m) | none => none)
  | _ => none
def convA (H : Heap) (src dst : TypeId) (x : AV) : Option AV :=
  match P.underlying src with
  | none => none
  | some s => match P.underlying dst with
    | some (.int k) => (match x with | .int _ n => some (.int k (mkWrap k n)) | _ => none)
    | some .string => (match s with
      | .slice e => convStr P H e x
      | .string => (match x with | .str s => some (.str s) | _ => none)
      | _ => none)
    | _ => none

/-- An integer operand whose value is known and natural. -/
def natA (env : T AV) (x : Operand) : Option Nat :=
  match opd env x with
  | some (.int _ (.lit (.ofNat n))) => some n
  | _ => none
def natO (env : T AV) (x : Option Operand) (d : Nat) : Option Nat :=
  match x with
  | none => some d
  | some x => natA env x

def elemSz (t : TypeId) : Option Nat :=
  match P.underlying t with
  | some (.slice e) => szOf P e
  | _ => none
/-- An array type's length, its elements' type, and their cells. -/
def arrOf (t : TypeId) : Option (Nat × TypeId × Nat) :=
  match P.underlying t with
  | some (.array len e) => (match szOf P e with | some s => some (len, e, s) | none => none)
  | _ => none
def isStrT (t : TypeId) : Bool :=
  match P.underlying t with
  | some .string => true
  | _ => false
/-- Bounds: from, to, and the end of the capacity; none: they do not fit. -/
def bounds (env : T AV) (len cap : Nat) (lo hi mx : Option Operand) : Option (Nat × Nat × Nat) :=
  match mx with
  | some m => (match natA env m with
    | none => none
    | some m => (match Nat.ble m cap with
      | false => none
      | true => match hi with
        | none => none
        | some h => match natA env h with
          | none => none
          | some h => match Nat.ble h m with
            | false => none
            | true => match natO env lo 0 with
              | none => none
              | some l => match Nat.ble l h with
                | true => some (l, h, m)
                | false => none))
  | none => (match natO env hi len with
    | none => none
    | some h => (match Nat.ble h cap with
      | false => none
      | true => match natO env lo 0 with
        | none => none
        | some l => match Nat.ble l h with
          | true => some (l, h, cap)
          | false => none))

/-- A slice of a slice or of an array whose end is known. -/
def cutA (b off s l h m : Nat) : AV :=
  match Nat.beq m l with
  | true => .sl b off (Nat.sub h l) (.known 0)
  | false => .sl b (Nat.add off (Nat.mul l s)) (Nat.sub h l) (.known (Nat.sub m l))
/-- A slice of a slice whose capacity is not known: no third index. -/
def cutU (b off s l h len k : Nat) : AV :=
  match Nat.beq l 0 with
  | true => .sl b off h (.upto k)
  | false => match Nat.blt l len with
    | true => .sl b (Nat.add off (Nat.mul l s)) (Nat.sub h l) (.upto (Nat.add k l))
    | false => .emp
def isZeroO (env : T AV) (x : Option Operand) : Bool :=
  match natO env x 0 with
  | some 0 => true
  | _ => false
/-- Bounds of which the second one is not known, but fits. -/
def boundsS (env : T AV) (c : Nat) (lo hi : Option Operand) : Bool :=
  match natO env lo 0, hi with
  | some l, some h => (match opd env h with
    | some (.int _ e) => (match bnd e with
      | some (p, q) => (match Nat.ble l p, Nat.ble q c with | true, true => true | _, _ => false)
      | none => false)
    | _ => false)
  | _, _ => false
def sliceSl (env : T AV) (s b off len : Nat) (cap : CapI) (lo hi mx : Option Operand) : Option AV :=
  match cap with
  | .known c => (match bounds env len c lo hi mx with
    | some (l, h, m) => some (cutA b off s l h m)
    | none => (match mx, boundsS env c lo hi with
      | none, true => some .sla
      | _, _ => none))
  | .upto k => (match bounds env len len lo hi mx with
    | some (l, h, m) => (match mx with
      | some _ => some (cutA b off s l h m)
      | none => some (cutU b off s l h len k))
    | none => none)
def sliceA (env : T AV) (t : TypeId) (x : AV) (lo hi mx : Option Operand) : Option AV :=
  match x with
  | .str s => (match isStrT P t, mx with
    | true, none => (match bounds env s.length s.length lo hi none with
      | some (l, h, _) => some (.str ((s.drop l).take (Nat.sub h l)))
      | none => none)
    | _, _ => none)
  | .nils => (match elemSz P t, bounds env 0 0 lo hi mx with
    | some _, some _ => some .nils
    | _, _ => none)
  | .emp => (match elemSz P t, mx with
    | some _, none => (match bounds env 0 0 lo hi none with
      | some _ => some .emp
      | none => none)
    | _, _ => none)
  | .sl b off len cap => (match elemSz P t with
    | some s => sliceSl env s b off len cap lo hi mx
    | none => none)
  | .ptr b off => (match arrOf P t with
    | some (n, _, s) => (match bounds env n n lo hi mx with
      | some (l, h, m) => some (cutA b off s l h m)
      | none => none)
    | none => none)
  | _ => none

/-- The field's place, if it has cells. -/
def fieldOf (t : TypeId) (f : Nat) : Option Field :=
  match P.underlying t with
  | some (.struct fs) => fs[f]?
  | _ => none

/-- Two integers: the same, or not, if that is known. -/
def sameInt (x y : SE) : Option Bool :=
  match x, y with
  | .lit x, .lit y => some (eqI x y)
  | x, y => match SE.beq x y with
    | true => some true
    | false => match bnd x, bnd y with
      | some (p, q), some (r, s) => (match Nat.blt q r, Nat.blt s p with
        | false, false => none
        | _, _ => some false)
      | _, _ => none
def keyEq (kd : TypeDesc) (a b : AV) : Option Bool :=
  match kd with
  | .int _ => (match a, b with
    | .int k x, .int k' y => (match Nat.beq (kn k) (kn k') with | true => sameInt x y | false => none)
    | _, _ => none)
  | .string => (match a, b with
    | .str x, .str y => some (natsBeq x y)
    | _, _ => none)
  | _ => none
/-- Where the key stands; none: a test that is not known. -/
def findA (kd : TypeDesc) (k : AV) : List ME → Nat → Option (Option (Nat × AV))
  | [], _ => some none
  | e :: l, i => match keyEq kd k e.key with
    | some true => some (some (i, e.val))
    | some false => findA kd k l (Nat.succ i)
    | none => none
/-- A map type whose keys are integers or strings: the kind of the keys, the elements' type. -/
def mapOf (t : TypeId) : Option (TypeDesc × TypeId) :=
  match P.underlying t with
  | some (.map kt et) => (match P.underlying kt with
    | some (.int k) => some (.int k, et)
    | some .string => some (.string, et)
    | _ => none)
  | _ => none
/-- The key is of the kind. -/
def isKey (kd : TypeDesc) (k : AV) : Bool :=
  match kd with
  | .int _ => (match k with | .int _ _ => true | _ => false)
  | .string => (match k with | .str _ => true | _ => false)
  | _ => false
def entriesA (H : Heap) (m : AV) : Option (List ME) :=
  match m with
  | .nilm => some []
  | .map n => (match H.mapAt n with | some (es, _) => some es | none => none)
  | _ => none
/-- Those entries whose key is the one that is looked for; none: a test that is not known. -/
def hits (H : Heap) (kt : TypeId) (k : AV) : List ME → Option (List AV)
  | [] => some []
  | e :: l => match eqA P H 8 kt k e.key, hits H kt k l with
    | some (.lit true), some m => some (e.val :: m)
    | some (.lit false), some m => some m
    | _, _ => none
/-- An array type of integers: its length, its elements' type. -/
def intArr (t : TypeId) : Option (Nat × TypeId) :=
  match P.underlying t with
  | some (.array len e) => (match P.underlying e with
    | some (.int _) => some (len, e)
    | _ => none)
  | _ => none
/-- All parts are there. -/
def partsIn (e : TypeId) (s : Nat) (cs : List AV) : Nat → Nat → Bool
  | 0, _ => true
  | n + 1, i => match partA P e cs (i * s) with
    | some _ => partsIn e s cs n (i + 1)
    | none => false
def lookupU (H : Heap) (t : TypeId) (m k : AV) (ok : Bool) : Option AV :=
  match P.underlying t, m, k with
  | some (.map kt et), .map n, .agg cs => (match intArr P kt, H.mapuAt n with
    | some (len, e), some es => (match szOf P e with
      | some s => (match partsIn P e s cs len 0, hits P H kt (.agg cs) es with
        | true, some [v] => some (match ok with | true => .tup [v, .bool (.lit true)] | false => v)
        | true, some [] => (match zeroA P et with
          | some z => some (match ok with | true => .tup [z, .bool (.lit false)] | false => z)
          | none => none)
        | _, _ => none)
      | none => none)
    | _, _ => none)
  | _, _, _ => none
def lookupA (H : Heap) (t : TypeId) (m k : AV) (ok : Bool) : Option AV :=
  match mapOf P t with
  | none => lookupU P H t m k ok
  | some (kd, et) => match entriesA H m with
    | none => none
    | some es => match isKey kd k with
      | false => none
      | true => match findA kd k es 0 with
        | none => none
        | some (some (_, v)) => some (match ok with | true => .tup [v, .bool (.lit true)] | false => v)
        | some none => match zeroA P et with
          | none => none
          | some z => some (match ok with | true => .tup [z, .bool (.lit false)] | false => z)

def nthA : List AV → Nat → Option AV
  | [], _ => none
  | a :: l, n => match n with | 0 => some a | m + 1 => nthA l m

def findBorn (n : Nat) : List ME → Option ME
  | [] => none
  | e :: l => match Nat.beq e.born n with | true => some e | false => findBorn n l


/-! The operations that leave the heap alone, one by one. -/
abbrev L := T AV → Heap → Option AV
def lNo : L := fun _ _ => none
def lMove (x : Operand) : L := fun env _ => opd env x
def lPick (c a b : Operand) : L := fun env _ =>
  match opd env c with
  | some (.bool (.lit true)) => opd env a
  | some (.bool (.lit false)) => opd env b
  | _ => none
def lExtract (x : Operand) (i : Nat) : L := fun env _ =>
  match opd env x with
  | some (.tup l) => nthA l i
  | _ => none
def lNilCheck (x : Operand) : L := fun env _ =>
  match opd env x with
  | some .nilp => none
  | some .nili => none
  | some .nilf => none
  | x => x
def fieldPtr (t : TypeId) (f : Nat) : Option Nat :=
  match fieldOf P t f with
  | some fd => match szOf P fd.type with
    | some (_ + 1) => some fd.offset
    | _ => none
  | none => none
def lFieldAddr (t : TypeId) (x : Operand) (f : Nat) : L := fun env _ =>
  match fieldPtr P t f, opd env x with
  | some o, some (.ptr n off) => some (.ptr n (Nat.add off o))
  | _, _ => none
/-- How a variable of the type is read: a cell; so many; none: not known. -/
def loadKind (t : TypeId) : Option (Option Nat) :=
  match isAggA P t, szOf P t with
  | some false, some _ => some none
  | some true, some s => some (some s)
  | _, _ => none
def loadAt (k : Option (Option Nat)) (v : Vec) (off : Nat) : Option AV :=
  match k with
  | some none => match Nat.blt off v.n with | true => some (v.get off) | false => none
  | some (some s) => match Nat.ble (Nat.add off s) v.n with | true => some (.agg (v.list off s)) | false => none
  | none => none
def lLoad (t : TypeId) (x : Operand) : L := fun env H =>
  match opd env x with
  | some (.ptr n off) => match H.row n with
    | some v => loadAt (loadKind P t) v off
    | none => none
  | _ => none
def isC : Operand → Bool
  | .const _ => true
  | _ => false
def lBinOp (o : BinOp) (t : TypeId) (x y : Operand) (_ : TypeId) : L := fun env H =>
  match opd env x, opd env y with
  | some a, some b => binA P H (match isC x with | true => true | false => isC y) o t a b
  | _, _ => none
def lUnOp (o : UnOp) (_ : TypeId) (x : Operand) : L := fun env _ =>
  match opd env x with
  | some a => unA o a
  | none => none
def lConvert (s d : TypeId) (x : Operand) : L := fun env H =>
  match opd env x with
  | some a => convA P H s d a
  | none => none
def lIndexAddr (t : TypeId) (x i : Operand) : L := fun env _ =>
  match opd env x, natA env i with
  | some (.sl n off len _), some i => (match elemSz P t with
    | some s => (match Nat.blt i len with
      | true => some (.ptr n (Nat.add off (Nat.mul i s)))
      | false => none)
    | none => none)
  | some (.ptr n off), some i => (match arrOf P t with
    | some (len, _, s) => (match Nat.blt i len with
      | true => some (.ptr n (Nat.add off (Nat.mul i s)))
      | false => none)
    | none => none)
  | _, _ => none
def indexStr (s : List Nat) (i : Nat) : Option AV :=
  match s[i]? with
  | some b => some (.int .u8 (.lit (.ofNat b)))
  | none => none
def lIndex (t : TypeId) (x i : Operand) : L := fun env _ =>
  match opd env x, natA env i with
  | some (.agg cs), some i => (match arrOf P t with
    | some (len, e, s) => (match Nat.blt i len with
      | true => partA P e cs (Nat.mul i s)
      | false => none)
    | none => none)
  | some (.str s), some i => (match isStrT P t with
    | true => indexStr s i
    | false => none)
  | _, _ => none
def lField (t : TypeId) (x : Operand) (f : Nat) : L := fun env _ =>
  match fieldOf P t f, opd env x with
  | some fd, some (.agg cs) => partA P fd.type cs fd.offset
  | _, _ => none
def lSlice (t : TypeId) (x : Operand) (lo hi mx : Option Operand) : L := fun env _ =>
  match opd env x with
  | some a => sliceA P env t a lo hi mx
  | none => none
def lArrPtr (t : TypeId) (x : Operand) : L := fun env _ =>
  match arrOf P t, opd env x with
  | some (n, _, _), some (.sl b off len _) => (match Nat.ble n len with
    | true => some (.ptr b off)
    | false => none)
  | _, _ => none
def lMakeFunc (fn : Fn) (first cap : Array Operand) : L := fun env _ =>
  match fn with
  | .func f => match opds env first.toList, opds env cap.toList with
    | some l, some m => some (.func f l m)
    | _, _ => none
  | _ => none
def lMakeIface (t : TypeId) (x : Operand) : L := fun env _ =>
  match P.underlying t with
  | some (.interface _) => none
  | none => none
  | some _ => match opd env x with
    | some a => some (.iface t a)
    | none => none
def lTypeAssert (x : Operand) (_ t : TypeId) (ok : Bool) : L := fun env _ =>
  match P.underlying t with
  | some (.interface _) => none
  | none => none
  | some _ => match opd env x with
    | some (.iface u v) => match Nat.beq u t with
      | true => some (match ok with | true => .tup [v, .bool (.lit true)] | false => v)
      | false => none
    | _ => none
def lLookup (t : TypeId) (x i : Operand) (ok : Bool) : L := fun env H =>
  match opd env x, opd env i with
  | some m, some k => lookupA P H t m k ok
  | _, _ => none
def lEntry (x : Operand) : L := fun env H =>
  match opd env x with
  | some (.ptr n 0) => match H.m.get n with
    | some (.iter (some m) _ seen stepped) => match seen.reverse with
      | stamp :: _ => match H.mapAt m with
        | some (es, clock) => match Nat.beq clock stepped with
          | true => match findBorn stamp es with
            | some e => some (.tup [e.key, e.val])
            | none => none
          | false => none
        | none => none
      | [] => none
    | _ => none
  | _ => none
/-- An integer constant of a natural number, evaluated. -/
def natV (n : Nat) : Option AV := forceN n fun n => some (.int .i64 (.lit (.ofNat n)))
def lenOfA (d : Option TypeDesc) (H : Heap) (x : AV) : Option AV :=
  match d with
  | some (.slice _) => (match x with
    | .nils => natV 0
    | .emp => natV 0
    | .sl _ _ n _ => natV n
    | .slu n => some (.int .i64 n)
    | _ => none)
  | some .string => (match x with
    | .str s => natV s.length
    | _ => none)
  | some (.array n _) => natV n
  | some (.map _ _) => (match x with
    | .nilm => natV 0
    | .map m => (match H.mapAt m with
      | some (es, _) => natV es.length
      | none => none)
    | _ => none)
  | _ => none
def lLen (ts : List TypeId) (xs : List Operand) : L := fun env H =>
  match ts, xs with
  | t :: _, [x] => match opd env x with
    | some a => lenOfA (P.underlying t) H a
    | none => none
  | _, _ => none
def lCap (ts : List TypeId) (xs : List Operand) : L := fun env _ =>
  match ts, xs with
  | t :: _, [x] => match P.underlying t, opd env x with
    | some (.slice _), some .nils => natV 0
    | some (.slice _), some (.sl _ _ _ (.known n)) => natV n
    | _, _ => none
  | _, _ => none
def lMin (xs : List Operand) : L := fun env _ =>
  match xs with
  | [x, y] => match opd env x, opd env y with
    | some (.int k (.lit a)), some (.int _ (.lit b)) => some (.int k (.lit (match ltI b a with | true => b | false => a)))
    | _, _ => none
  | _ => none
def lMax (xs : List Operand) : L := fun env _ =>
  match xs with
  | [x, y] => match opd env x, opd env y with
    | some (.int k (.lit a)), some (.int _ (.lit b)) => some (.int k (.lit (match ltI a b with | true => b | false => a)))
    | _, _ => none
  | _ => none
def lCall (c : Call) : L :=
  match c.callee with
  | .builtin .len => lLen P c.argTypes.toList c.args.toList
  | .builtin .cap => lCap P c.argTypes.toList c.args.toList
  | .builtin .min => lMin c.args.toList
  | .builtin .max => lMax c.args.toList
  | _ => lNo

/-! ### The operations that make a block, and do nothing else -/
def putL : List AV → Nat → List AV → List AV
  | [], _, _ => []
  | c :: cs, off, vs => match off with
    | 0 => (match vs with
      | [] => c :: cs
      | v :: vs => v :: putL cs 0 vs)
    | o + 1 => c :: putL cs o vs
/-- Parts of a literal put into their places. -/
def fillA (place : Nat → Option (Nat × Nat)) : List AV → List (Nat × AV) → Option (List AV)
  | cells, [] => some cells
  | cells, p :: rest => match place p.1 with
    | none => none
    | some (off, size) => match Nat.beq p.2.cells.length size, Nat.ble (Nat.add off size) cells.length with
      | true, true => fillA place (putL cells off p.2.cells) rest
      | _, _ => none

def partsOf (env : T AV) : List (Nat × Operand) → Option (List (Nat × AV))
  | [] => some []
  | p :: l => match opd env p.2 with
    | none => none
    | some a => match partsOf env l with
      | some m => some ((p.1, a) :: m)
      | none => none

def repL : Nat → List AV → List AV
  | 0, _ => []
  | n + 1, l => l ++ repL n l

/-- All cells alike: the one. -/
def uniform : List AV → Option AV
  | [] => none
  | a :: l => match go a l with | true => some a | false => none
where
  go (a : AV) : List AV → Bool
    | [] => true
    | b :: l => match AV.beq b a with | true => go a l | false => false

def placesA : List Field → Option (List (Nat × Nat))
  | [] => some []
  | f :: l => match szOf P f.type with
    | none => none
    | some s => match placesA l with
      | some m => some ((f.offset, s) :: m)
      | none => none
def nthP : List (Nat × Nat) → Nat → Option (Nat × Nat)
  | [], _ => none
  | a :: l, n => match n with | 0 => some a | m + 1 => nthP l m

/-- 'build': no block. -/
def buildA (env : T AV) (t : TypeId) (parts : List (Nat × Operand)) : Option AV :=
  match zeroA P t, partsOf env parts with
  | some z, some ps => match P.underlying t with
    | some (.struct fs) => (match placesA P fs.toList with
      | some pl => (match fillA (nthP pl) z.cells ps with | some l => some (.agg l) | none => none)
      | none => none)
    | some (.array _ e) => (match szOf P e with
      | some s => (match fillA (fun i => some (Nat.mul i s, s)) z.cells ps with | some l => some (.agg l) | none => none)
      | none => none)
    | _ => none
  | _, _ => none

def lBuild (t : TypeId) (parts : Array (Nat × Operand)) : L := fun env _ => buildA P env t parts.toList

/-- The operations that leave the heap alone. -/
def light (o : Op) : L :=
  Op.casesOn (motive := fun _ => L) o lMove lMove lPick (fun _ => lNo) (fun _ _ => lNo) (lBuild P) (fun _ _ _ => lNo) (fun _ _ _ _ => lNo) (lLoad P)
    (fun _ _ _ => lNo) (fun _ => lNo) (fun _ => lNo) lNilCheck (lBinOp P) (lUnOp) (lConvert P) (lArrPtr P) (lMakeIface P) lMakeFunc (fun _ _ => lNo) (fun _ _ => lNo)
    (fun _ _ _ => lNo) (lSlice P) (lFieldAddr P) (lField P) (lIndexAddr P) (lIndex P) (lLookup P) (fun _ _ _ _ => lNo) (fun _ _ _ => lNo) (fun _ _ _ _ => lNo)
    (fun _ _ => lNo) (fun _ _ => lNo) lEntry (lTypeAssert P) lExtract (lCall P) (fun _ => lNo) (fun _ => lNo) (fun _ => lNo) (fun _ _ => lNo) (fun _ _ _ => lNo) (fun _ _ => lNo)

def newCells (l : List AV) (s nx : Nat) : Obj := .cells (Vec.ofList l) s nx none false true
def aAlloc (t : TypeId) (nx : Nat) : Option (AV × Obj) :=
  match zeroA P t, szOf P t with
  | some z, some s => some (.ptr nx 0, newCells z.cells s nx)
  | _, _ => none
def aBox (t : TypeId) (x : Operand) (env : T AV) (nx : Nat) : Option (AV × Obj) :=
  match opd env x, szOf P t with
  | some v, some s => some (.ptr nx 0, newCells v.cells s nx)
  | _, _ => none
def aBuildSlice (t : TypeId) (len : Nat) (parts : Array (Nat × Operand)) (env : T AV) (nx : Nat) : Option (AV × Obj) :=
  match P.underlying t with
  | some (.slice e) => (match szOf P e, zeroA P e, partsOf env parts.toList with
    | some s, some z, some ps => (match Nat.ble (Nat.mul len s) 16777216, Nat.beq z.cells.length s with
      | true, true => (match fillA (fun i => some (Nat.mul i s, s)) (repL len z.cells) ps with
        | some l => some (.sl nx 0 len (.known len), newCells l s nx)
        | none => none)
      | _, _ => none)
    | _, _, _ => none)
  | _ => none
def aMakeMap (t : TypeId) (r : Option Operand) (env : T AV) (nx : Nat) : Option (AV × Obj) :=
  match r with
  | none => some (.map nx, .map [] 0)
  | some r => (match P.underlying t, natA env r with
    | some (.map _ _), some _ => some (.map nx, .map [] 0)
    | _, _ => none)
def rowOf (z : List AV) (c s : Nat) : Option Vec :=
  match uniform z with
  | some u => some ⟨.leaf, Nat.mul c s, u⟩
  | none => (match Nat.ble (Nat.mul c s) 100000 with
    | true => some (Vec.ofList (repL c z))
    | false => none)
def aMakeSlice (t : TypeId) (l c : Operand) (env : T AV) (nx : Nat) : Option (AV × Obj) :=
  match P.underlying t, natA env l, natA env c with
  | some (.slice e), some l, some c => (match P.info? e, zeroA P e with
    | some inf, some z => (match Nat.ble l c, Nat.ble (Nat.mul inf.bytes c) 140737488355328, Nat.blt c 4611686018427387904, Nat.beq z.cells.length inf.size with
      | true, true, true, true => (match rowOf z.cells c inf.size with
        | some r => some (.sl nx 0 l (.known c), .cells r inf.size nx none false true)
        | none => none)
      | _, _, _, _ => none)
    | _, _ => none)
  | _, _, _ => none
abbrev A := T AV → Nat → Option (AV × Obj)
def aNo : A := fun _ _ => none
def allocA (o : Op) : A :=
  match o with
  | .alloc t => fun _ nx => aAlloc P t nx
  | .box t x => aBox P t x
  | .buildSlice t len parts => aBuildSlice P t len parts
  | .makeMap t r => aMakeMap P t r
  | .makeSlice t l c => aMakeSlice P t l c
  | _ => aNo

/-! ### The operations that change the heap -/
def storeA (H : Heap) (t : TypeId) (n off : Nat) (v : AV) : Option Heap :=
  match szOf P t with
  | some s => match Nat.beq v.cells.length s with
    | true => H.store n off v.cells
    | false => none
  | none => none

def setNth (es : List ME) (i : Nat) (e : ME) : List ME :=
  match es with
  | [] => []
  | x :: l => match i with | 0 => e :: l | j + 1 => x :: setNth l j e
def dropNth (es : List ME) (i : Nat) : List ME :=
  match es with
  | [] => []
  | x :: l => match i with | 0 => l | j + 1 => x :: dropNth l j
def nthM : List ME → Nat → Option ME
  | [], _ => none
  | a :: l, n => match n with | 0 => some a | m + 1 => nthM l m

def mapSetA (H : Heap) (t : TypeId) (m k v : AV) : Option Heap :=
  match mapOf P t with
  | none => none
  | some (kd, _) => match m with
    | .map n => (match isKey kd k, H.mapAt n with
      | true, some (es, clock) => (match findA kd k es 0 with
        | none => none
        | some (some (i, _)) => (match nthM es i with
          | none => none
          | some e => match AV.beq e.key k with
            | true => some (H.upd n (.map (setNth es i ⟨k, v, e.born⟩) clock))
            | false => none)
        | some none => some (H.upd n (.map (es ++ [⟨k, v, clock⟩]) (Nat.succ clock))))
      | _, _ => none)
    | _ => none

def mapDelA (H : Heap) (t : TypeId) (m k : AV) : Option Heap :=
  match mapOf P t with
  | none => none
  | some (kd, _) => match isKey kd k with
    | false => none
    | true => match m with
      | .nilm => some H
      | .map n => (match H.mapAt n with
        | none => none
        | some (es, clock) => match findA kd k es 0 with
          | none => none
          | some (some (i, _)) => some (H.upd n (.map (dropNth es i) clock))
          | some none => some H)
      | _ => none

/-- 'm[k] op= v', first half: the entry is there from now on; its value and stamp. -/
def mapEntryA (H : Heap) (t : TypeId) (m k : AV) : Option (AV × Heap) :=
  match mapOf P t with
  | none => none
  | some (kd, et) => match m with
    | .map n => (match isKey kd k, H.mapAt n with
      | true, some (es, clock) => (match findA kd k es 0 with
        | none => none
        | some (some (i, v)) => (match nthM es i with
          | none => none
          | some e => match AV.beq e.key k with
            | true => some (.tup [v, .int .i64 (.lit (.ofNat e.born))], H)
            | false => none)
        | some none => match zeroA P et with
          | none => none
          | some z => some (.tup [z, .int .i64 (.lit (.ofNat clock))], H.upd n (.map (es ++ [⟨k, z, clock⟩]) (Nat.succ clock))))
      | _, _ => none)
    | _ => none

def setBorn (b : Nat) (v : AV) : List ME → Option (List ME)
  | [] => none
  | e :: l => match Nat.beq e.born b with
    | true => some (⟨e.key, v, e.born⟩ :: l)
    | false => match setBorn b v l with | some m => some (e :: m) | none => none

def entryStoreA (H : Heap) (m s v : AV) : Option Heap :=
  match m, s with
  | .map n, .int _ (.lit (.ofNat b)) => match H.mapAt n with
    | none => none
    | some (es, clock) => match setBorn b v es with
      | some l => some (H.upd n (.map l clock))
      | none => none
  | _, _ => none

/-- A slice type's elements: their bytes, their cells; none: they have no cells. -/
def elemInfo (t : TypeId) : Option (Nat × Nat) :=
  match P.underlying t with
  | some (.slice e) => (match P.info? e, zeroA P e with
    | some inf, some z => (match Nat.beq z.cells.length inf.size, inf.size with
      | true, s + 1 => some (inf.bytes, s + 1)
      | _, _ => none)
    | _, _ => none)
  | _ => none
def isSrc (t : TypeId) : Bool :=
  match P.underlying t with
  | some (.slice _) => true
  | some .string => true
  | _ => false
def isSl : AV → Bool
  | .nils => true
  | .emp => true
  | .sl _ _ _ _ => true
  | _ => false
def appFresh (H : Heap) (bytes sz need : Nat) (l : List AV) : Option (AV × Heap) :=
  match Nat.ble (Nat.mul need bytes) 35184372088832, Nat.ble (Nat.mul need sz) 35184372088832 with
  | true, true => (match H with
    | ⟨m, nx, gw⟩ => some (.sl nx 0 need (.upto 0), Heap.alloc ⟨m, nx, gw⟩ (.cells (Vec.ofList l) sz nx none false true)))
  | _, _ => none
/-- The cells of the block that comes next: those of the slice, and the new ones. -/
def extended (v : Vec) (off n : Nat) (new : List AV) : Vec :=
  match Nat.beq off 0 with
  | true => (match v with | ⟨t, m, d⟩ => Vec.put ⟨t, Nat.add m new.length, d⟩ m new)
  | false => Vec.ofList (v.list off n ++ new)
def appUpto (H : Heap) (bytes sz n : Nat) (new : List AV) (b off len k : Nat) : Option (AV × Heap) :=
  match H.m.get b with
  | some (.cells v esz g none _ true) => (match Nat.beq esz sz, Nat.beq off (Nat.mul k sz), areCells new with
    | true, true, true => (match Nat.beq (Nat.add off (Nat.mul len sz)) v.n with
      | true => (match Nat.ble (Nat.mul (Nat.add len n) bytes) 35184372088832, Nat.ble (Nat.mul (Nat.add len n) sz) 35184372088832 with
        | true, true => (match H with
          | ⟨m, nx, gw⟩ => some (.sl nx 0 (Nat.add len n) (.upto 0), Heap.alloc (Heap.upd ⟨m, nx, gw⟩ b (.cells v sz g (some (Nat.succ nx)) true true)) (.cells (extended v off (Nat.mul len sz) new) sz g none true true)))
        | _, _ => none)
      | false => (match Nat.ble (Nat.add off (Nat.mul (Nat.add len n) sz)) v.n with
        | true => (match H.store b (Nat.add off (Nat.mul len sz)) new with
          | some H' => some (.sl b off (Nat.add len n) (.upto k), H')
          | none => none)
        | false => none))
    | _, _, _ => none)
  | _ => none
def appTo (H : Heap) (bytes sz n : Nat) (new : List AV) (s : AV) : Option (AV × Heap) :=
  match s with
  | .nils => appFresh H bytes sz n new
  | .sl b off len cap => (match cap with
    | .known c => (match Nat.ble (Nat.add len n) c with
      | true => (match H.store b (Nat.add off (Nat.mul len sz)) new with
        | some H' => some (.sl b off (Nat.add len n) (.known c), H')
        | none => none)
      | false => (match cellsA H sz len (.sl b off len (.known c)) with
        | some old => appFresh H bytes sz (Nat.add len n) (old ++ new)
        | none => none))
    | .upto k => appUpto H bytes sz n new b off len k)
  | _ => none
/-- append: the result, and the heap. -/
def appendA (H : Heap) (ts tx : TypeId) (s x : AV) : Option (AV × Heap) :=
  match elemInfo P ts, isSrc P tx with
  | some (bytes, sz), true => (match lenA x with
    | none => none
    | some n => (match cellsA H sz n x with
      | none => none
      | some new => (match n with
        | 0 => (match isSl s with | true => some (s, H) | false => none)
        | m + 1 => appTo H bytes sz (Nat.succ m) new s)))
  | _, _ => none

def copyFrom (H : Heap) (sz c : Nat) (d s : AV) : Option (AV × Heap) :=
  match c with
  | 0 => (match isSl d with | true => some (.int .i64 (.lit 0), H) | false => none)
  | c + 1 => (match cellsA H sz (Nat.succ c) s, d with
    | some l, .sl b off _ _ => (match H.store b off l with
      | some H' => some (.int .i64 (.lit (.ofNat (Nat.succ c))), H')
      | none => none)
    | _, _ => none)
def minN (m n : Nat) : Nat := match Nat.ble m n with | true => m | false => n
def copyA (H : Heap) (td : TypeId) (d s : AV) : Option (AV × Heap) :=
  match elemSz P td, lenA d, lenA s with
  | some sz, some n, some m => copyFrom H sz (minN m n) d s
  | _, _, _ => none

def clearA (H : Heap) (t : TypeId) (x : AV) : Option Heap :=
  match mapOf P t with
  | none => none
  | some _ => (match x with
    | .nilm => some H
    | .map n => (match H.mapAt n with
      | some (_, clock) => some (H.upd n (.map [] clock))
      | none => none)
    | _ => none)

/-- The entries that an iterator may yield next, those that were there when it began first; and whether it may end. -/
def leftOf (seen : List Nat) : List ME → List ME
  | [] => []
  | e :: l => match seen.any (Nat.beq e.born) with | true => leftOf seen l | false => e :: leftOf seen l
def oldOf (since : Nat) : List ME → List ME
  | [] => []
  | e :: l => match Nat.blt e.born since with | true => e :: oldOf since l | false => oldOf since l
def newOf (since : Nat) : List ME → List ME
  | [] => []
  | e :: l => match Nat.blt e.born since with | true => newOf since l | false => e :: newOf since l

end
end
end Go.Dw
