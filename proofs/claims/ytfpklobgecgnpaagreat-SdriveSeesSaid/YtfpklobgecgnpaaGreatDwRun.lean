/-
  DwRun: the abstract machine's runs: statements, regions, calls.
-/
import Derived.Test.YtfpklobgecgnpaaGreatDwEv
namespace Go.Dw
set_option linter.unusedSimpArgs false
set_option linter.unusedVariables false
noncomputable section

/-- One step of the one order in which a region that draws is gone through: an operation; or a look whether these, done already, would still yield the same. -/
inductive PStep where
  | run (o : Oper)
  | chk (l : List Oper)

inductive Task where
  | code (c : Code) (N : Nat) (env : T AV) (H : Heap) (k : Ex → T AV → Heap → Ob)
  | ops (all : Array Oper) (l : List Oper) (N : Nat) (env : T AV) (H : Heap) (k : T AV → Heap → Ob)
  | call (f : FuncId) (args : List AV) (H : Heap) (k : AV → Heap → Ob)

inductive Cls where
  | light | alloc | heavy | defr

/-- What kind an operation is of. -/
def clsOf (o : Op) : Cls :=
  match o with
  | .alloc _ | .box _ _ | .buildSlice _ _ _ | .makeMap _ _ | .makeSlice _ _ _ => .alloc
  | .store _ _ _ | .mapUpdate _ _ _ _ | .insert _ _ _ _ | .mapEntry _ _ _ | .entryStore _ _ _ _ | .range _ _ | .next _ _ => .heavy
  | .call c => match c.callee with
    | .builtin .len | .builtin .cap | .builtin .min | .builtin .max => .light
    | _ => .heavy
  | .defer _ => .defr
  | _ => .light

/-! ### The plan of a region that draws -/
def edgesMask (ms : List Nat) : List Edge → Nat
  | [] => 0
  | e :: l => match Region.binds .any e with
    | true => Nat.lor (Nat.lor (2 ^ e.on) (ms.getD e.on 0)) (edgesMask ms l)
    | false => edgesMask ms l
def masksGo : List Oper → List Nat → List Nat
  | [], ms => ms
  | o :: l, ms => masksGo l (ms ++ [edgesMask ms o.after.toList])
/-- The masks of what must come before, by number. -/
def masks (l : List Oper) : List Nat := masksGo l []

def isHeavy (o : Oper) : Bool := match clsOf o.op with | .heavy => true | .defr => true | _ => false
def isDefer (o : Oper) : Bool := match clsOf o.op with | .defr => true | _ => false
def isLight (o : Oper) : Bool := match clsOf o.op with | .light => true | _ => false

/-- An operation, its number, its mask, its stage. -/
structure PO where
  o : Oper
  i : Nat
  m : Nat
  s : Nat

/-- The stage: behind the last of these that must have come before. -/
def stageN (m : Nat) : List Nat → Nat → Nat → Nat
  | [], _, acc => acc
  | h :: l, t, acc => match m.testBit h with
    | true => stageN m l (Nat.succ t) (Nat.succ t)
    | false => stageN m l (Nat.succ t) acc
/-- The numbers of the heavy ones, in order. -/
def heavies : List Oper → Nat → List Nat
  | [], _ => []
  | o :: l, i => match isHeavy o with
    | true => i :: heavies l (Nat.succ i)
    | false => heavies l (Nat.succ i)
def posOf (hs : List Nat) : List Oper → List Nat → Nat → List PO
  | o :: l, m :: ms, i => ⟨o, i, m, stageN m hs 0 0⟩ :: posOf hs l ms (Nat.succ i)
  | _, _, _ => []

/-- Each heavy one waits for the one before it. -/
def chained (ms : List Nat) : List Nat → Bool
  | [] => true
  | h :: l => match l with
    | [] => true
    | h' :: _ => match (ms.getD h' 0).testBit h with | true => chained ms l | false => false
def edgesLt : List PO → Bool
  | [] => true
  | p :: l => match p.o.after.toList.all (fun e => match Region.binds .any e with | true => Nat.blt e.on p.i | false => true) with
    | true => edgesLt l
    | false => false
/-- Those slots that it looks at. -/
def looks (ops : Array Oper) (o : Oper) : List Tmp :=
  o.op.operands.toList.filterMap (fun x => match x with | .tmp t => some t | _ => none) ++ (match o.guard with
    | some (g, _) => (match ops[g]? with | some q => (match q.dst with | some t => [t] | none => []) | none => [])
    | none => [])
/-- What is written in the region is read only behind the writer; and written once. -/
def readsOk (ops : Array Oper) (all : List PO) (p : PO) : Bool :=
  all.all fun q => match q.o.dst with
    | none => true
    | some t => match (looks ops p.o).any (Nat.beq t), p.m.testBit q.i || q.m.testBit p.i with
      | true, false => false
      | _, _ => match Nat.beq p.i q.i, p.o.dst with
        | false, some u => (match Nat.beq t u with | true => false | false => true)
        | _, _ => true
def runsOf (s : Nat) : List PO → List PStep
  | [] => []
  | p :: l => match isHeavy p.o, Nat.beq p.s s with
    | false, true => .run p.o :: runsOf s l
    | _, _ => runsOf s l
/-- Those that only look, of the stages so far, that need not have come before the heavy one of this mask. -/
def rereadsP (s hm : Nat) : List PO → List PO
  | [] => []
  | p :: l => match isLight p.o, Nat.ble p.s s, hm.testBit p.i with
    | true, true, false => p :: rereadsP s hm l
    | _, _, _ => rereadsP s hm l
def opersOf : List PO → List Oper
  | [] => []
  | p :: l => p.o :: opersOf l
def rereads (s hm : Nat) (l : List PO) : List Oper := opersOf (rereadsP s hm l)
/-- What it looks at is written in the region, if at all, before it, or behind the stage. -/
def ownReads (ops : Array Oper) (all : List PO) (s : Nat) (p : PO) : Bool :=
  all.all fun q => match q.o.dst with
    | none => true
    | some t => match (looks ops p.o).any (Nat.beq t), p.m.testBit q.i || Nat.blt s q.s with
      | true, false => false
      | _, _ => true
def rereadsOk (ops : Array Oper) (all : List PO) : Nat → List PO → Bool
  | _, [] => true
  | s, h :: rest => match (rereadsP s h.m all).all (ownReads ops all s) with
    | true => rereadsOk ops all (Nat.succ s) rest
    | false => false
def planFrom (all : List PO) : Nat → List PO → List PStep
  | s, [] => runsOf s all
  | s, h :: rest => runsOf s all ++ .run h.o :: .chk (rereads s h.m all) :: planFrom all (Nat.succ s) rest
def planOf (ops : Array Oper) : Option (List PStep) :=
  let ms := masks ops.toList
  let hs := heavies ops.toList 0
  let all := posOf hs ops.toList ms 0
  let hp := all.filter fun p => isHeavy p.o
  match chained ms hs && edgesLt all && all.all (readsOk ops all) && !(ops.toList.any isDefer) && rereadsOk ops all 0 hp with
  | true => some (planFrom all 0 hp)
  | false => none

section
variable (P : Program)

/-- Whether the operation is carried out: yes, no, or by a symbolic test in a slot. -/
inductive G where
  | yes | no
  | test (t : Nat) (b : SB) (want : Bool)
  | none

def guardA (all : Array Oper) (env : T AV) (o : Oper) : G :=
  match o.guard with
  | none => .yes
  | some (j, want) => match all[j]? with
    | none => .no
    | some oj => match oj.dst with
      | none => .no
      | some t => match env.get t with
        | none => .no
        | some (.bool (.lit true)) => (match want with | true => .yes | false => .no)
        | some (.bool (.lit false)) => (match want with | true => .no | false => .yes)
        | some (.bool b) => .test t b want
        | some (.tup []) => .no
        | _ => .none

/-- The method that an interface value's call comes to: its number, whether its receiver is a pointer's. -/
def methodA (t : TypeId) (name : String) : Option FuncId :=
  match P.info? t with
  | none => none
  | some i => match i.methods.find? (·.name == name) with
    | none => none
    | some m => match m.path.toList, m.func, P.underlying t with
      | [], some (f, true), some (.pointer _) => some f
      | [], some (_, false), some (.pointer _) => none
      | [], some (f, false), some _ => some f
      | _, _, _ => none

def resultsA (H : Heap) (env : T AV) : List ResultVar → Option (List AV)
  | [] => some []
  | .tmp t :: l => match opd env (.tmp t), resultsA H env l with
    | some v, some m => some (v :: m)
    | _, _ => none
  | .cell a t :: l => match light P (.load t (.tmp a)) env H, resultsA H env l with
    | some v, some m => some (v :: m)
    | _, _ => none

def resultA (fn : Func) (H : Heap) (env : T AV) : Option AV :=
  match resultsA P H env fn.results.toList with
  | some [v] => some v
  | some l => some (.tup l)
  | none => none

def envOf : List AV → Nat → T AV → T AV
  | [], _, env => env
  | a :: l, i, env => envOf l (Nat.succ i) (env.set i a)

/-- What 'next' may yield. -/
def nextA (H : Heap) (x : AV) : Option (List (AV × Heap)) :=
  match x with
  | .ptr n 0 => match H.m.get n with
    | some (.iter none _ _ _) => some [(.tup [.bool (.lit false)], H)]
    | some (.iter (some m) since seen stepped) => match H.mapAt m with
      | none => none
      | some (es, clock) =>
        match (match seen, es with | [], _ => false | _, [] => false | _, es => es.all fun e => Nat.ble stepped e.born) with
        | true => none
        | false =>
          let left := leftOf seen es
          let old := oldOf since left
          let new := newOf since left
          let ways := (old ++ new).map fun e => ((.tup [.bool (.lit true), e.key, e.val] : AV), H.upd n (.iter (some m) since (seen ++ [e.born]) clock))
          some (match old with
            | [] => (.tup [.bool (.lit false)], H) :: ways
            | _ :: _ => ways)
    | _ => none
  | _ => none

def forkAll (k : AV → Heap → Ob) : List (AV × Heap) → Ob
  | [] => .bad 90 "no way"
  | [(v, H)] => k v H
  | l => .all (l.map fun x => k x.1 x.2)

/-! The operations that change the heap, or enter a function: each hands its value and the heap on. -/
abbrev K := AV → Heap → Ob
abbrev D := T AV → Heap → K → Ob
def dNo : D := fun _ _ _ => .bad 29 ""
def okH (k : K) : Option Heap → Ob
  | some H => k undefA H
  | none => .bad 3 ""
def okVH (k : K) : Option (AV × Heap) → Ob
  | some (v, H) => k v H
  | none => .bad 4 ""
def dStore (t : TypeId) (a v : Operand) : D := fun env H k =>
  match opd env a, opd env v with
  | some (.ptr n off), some x => okH k (storeA P H t n off x)
  | _, _ => .bad 5 ""
def dMapSet (t : TypeId) (m kk v : Operand) : D := fun env H k =>
  match opd env m, opd env kk, opd env v with
  | some m, some kk, some v => okH k (mapSetA P H t m kk v)
  | _, _, _ => .bad 6 ""
def dMapEntry (t : TypeId) (m kk : Operand) : D := fun env H k =>
  match opd env m, opd env kk with
  | some m, some kk => okVH k (mapEntryA P H t m kk)
  | _, _ => .bad 9 ""
def dEntryStore (_ : TypeId) (m s v : Operand) : D := fun env H k =>
  match opd env m, opd env s, opd env v with
  | some m, some s, some v => okH k (entryStoreA H m s v)
  | _, _, _ => .bad 11 ""
def dRange (t : TypeId) (x : Operand) : D := fun env H k =>
  match P.underlying t, opd env x, H with
  | some (.map _ _), some .nilm, ⟨_, nx, _⟩ => k (.ptr nx 0) (H.alloc (.iter none 0 [] 0))
  | some (.map _ _), some (.map m), ⟨_, nx, _⟩ => match H.mapAt m with
    | some (_, clock) => k (.ptr nx 0) (H.alloc (.iter (some m) clock [] clock))
    | none => .bad 13 ""
  | _, _, _ => .bad 14 ""
def dNext (x : Operand) (str : Bool) : D := fun env H k =>
  match str, opd env x with
  | false, some x => match nextA H x with
    | some l => forkAll k l
    | none => .bad 15 ""
  | _, _ => .bad 16 ""
def dCallV (rec : Task → Ob) (f : Operand) (args : List Operand) : D := fun env H k =>
  match opd env f, opds env args with
  | some (.func g first cap), some args => match first, cap with
    | [], [] => rec (.call g args H k)
    | _, _ => rec (.call g (first ++ (args ++ cap)) H k)
  | _, _ => .bad 17 ""
def dCallI (rec : Task → Ob) (r : Operand) (name : String) (args : List Operand) : D := fun env H k =>
  match opd env r, opds env args with
  | some (.iface t v), some args => match methodA P t name with
    | some g => rec (.call g (v :: args) H k)
    | none => .bad 18 ""
  | _, _ => .bad 19 ""
def dAppend (ts : List TypeId) (args : List Operand) : D := fun env H k =>
  match ts, opds env args with
  | ts :: tx :: _, some [s, x] => okVH k (appendA P H ts tx s x)
  | _, _ => .bad 21 ""
def dCopy (ts : List TypeId) (args : List Operand) : D := fun env H k =>
  match ts, opds env args with
  | td :: _, some [d, s] => okVH k (copyA P H td d s)
  | _, _ => .bad 23 ""
def dDelete (ts : List TypeId) (args : List Operand) : D := fun env H k =>
  match ts, opds env args with
  | t :: _, some [m, kk] => okH k (mapDelA P H t m kk)
  | _, _ => .bad 25 ""
def dClear (ts : List TypeId) (args : List Operand) : D := fun env H k =>
  match ts, opds env args with
  | t :: _, some [x] => okH k (clearA P H t x)
  | _, _ => .bad 27 ""
def dBuiltin (b : Builtin) (c : Call) : D :=
  match b with
  | .append => dAppend P c.argTypes.toList c.args.toList
  | .copy => dCopy P c.argTypes.toList c.args.toList
  | .delete => dDelete P c.argTypes.toList c.args.toList
  | .clear => dClear P c.argTypes.toList c.args.toList
  | _ => dNo
def dCall (rec : Task → Ob) (c : Call) : D :=
  match c.callee with
  | .value f => dCallV rec f c.args.toList
  | .invoke r name => dCallI P rec r name c.args.toList
  | .builtin b => dBuiltin P b c

def heavy (rec : Task → Ob) (o : Op) : D :=
  Op.casesOn (motive := fun _ => D) o (fun _ => dNo) (fun _ => dNo) (fun _ _ _ => dNo) (fun _ => dNo) (fun _ _ => dNo) (fun _ _ => dNo) (fun _ _ _ => dNo) (dMapSet P) (fun _ _ => dNo)
    (dStore P) (fun _ => dNo) (fun _ => dNo) (fun _ => dNo) (fun _ _ _ _ _ => dNo) (fun _ _ _ => dNo) (fun _ _ _ => dNo) (fun _ _ => dNo) (fun _ _ => dNo) (fun _ _ _ => dNo) (fun _ _ => dNo) (fun _ _ => dNo)
    (fun _ _ _ => dNo) (fun _ _ _ _ _ => dNo) (fun _ _ _ => dNo) (fun _ _ _ => dNo) (fun _ _ _ => dNo) (fun _ _ _ => dNo) (fun _ _ _ _ => dNo) (dMapSet P) (dMapEntry P) (dEntryStore)
    (dRange P) dNext (fun _ => dNo) (fun _ _ _ _ => dNo) (fun _ _ => dNo) (dCall P rec) (fun _ => dNo) (fun _ => dNo) (fun _ => dNo) (fun _ _ => dNo) (fun _ _ _ => dNo) (fun _ _ => dNo)

def okL (o : Oper) (H : Heap) (k : K) : Option AV → Ob
  | some v => k v H
  | none => .bad 1 o.pos
def okA (o : Oper) (H : Heap) (k : K) : Option (AV × Obj) → Ob
  | some (v, ob) => k v (H.alloc ob)
  | none => .bad 2 o.pos
/-- The slots, the value, the heap, handed on. -/
abbrev K3 := T AV → AV → Heap → Ob
abbrev D3 := T AV → Heap → K3 → Ob
def doLight (_ : Task → Ob) (o : Oper) : D3 := fun env H k => okL o H (k env) (light P o.op env H)
def doAlloc (_ : Task → Ob) (o : Oper) : D3 := fun env H k => match H with | ⟨m, nx, gw⟩ => okA o ⟨m, nx, gw⟩ (k env) (allocA P o.op env nx)
def doHeavy (rec : Task → Ob) (o : Oper) : D3 := fun env H k => heavy P rec o.op env H (k env)
def doDefer (_ : Task → Ob) (o : Oper) : D3 := fun env H k =>
  match o.op with
  | .defer c => match c.callee with
    | .value f => match opd env f, opds env c.args.toList with
      | some (.func g first cap), some args => k (env.set dslot (.tup [.func g [] (first ++ (args ++ cap)), match env.get dslot with | some v => v | none => undefA])) undefA H
      | _, _ => .bad 60 o.pos
    | _ => .bad 61 o.pos
  | _ => .bad 62 o.pos
/-- One operation: its value, and the heap behind it, handed on. -/
def doOp (rec : Task → Ob) (o : Oper) : D3 :=
  Cls.casesOn (motive := fun _ => (Task → Ob) → Oper → D3) (clsOf o.op) (doLight P) (doAlloc P) (doHeavy P) doDefer rec o

def putA (dst : Option Tmp) (N : Nat) (env : T AV) (v : AV) (k : T AV → Ob) : Ob :=
  match dst with
  | none => k env
  | some d => match Nat.blt d N with
    | true => k (env.set d v)
    | false => .bad 30 ""

/-- Those done already would still yield the same. -/
def chkA (all : Array Oper) (env : T AV) (H : Heap) : List Oper → Bool
  | [] => true
  | o :: l => match guardA all env o with
    | .no => chkA all env H l
    | .yes => match light P o.op env H, o.dst with
      | some v, some d => match env.get d with
        | some u => match AV.beq v u with | true => chkA all env H l | false => false
        | none => false
      | some _, none => chkA all env H l
      | none, _ => false
    | _ => false

/-- The run of a plan. -/
def planOp (rec : Task → Ob) (o : Oper) (N : Nat) (kk : T AV → Heap → Ob) (env : T AV) (H : Heap) (b : Bool) : Ob :=
  match b with
  | true => doOp P rec o env H fun env v H => putA o.dst N env v fun env' => kk env' H
  | false => putA o.dst N env undefA fun env' => kk env' H
def planRun (rec : Task → Ob) (all : Array Oper) (N : Nat) (k : T AV → Heap → Ob) : List PStep → T AV → Heap → Ob
  | [], env, H => k env H
  | .run o :: rest, env, H => (match guardA all env o with
    | .yes => planOp P rec o N (planRun rec all N k rest) env H true
    | .no => planOp P rec o N (planRun rec all N k rest) env H false
    | .test _ b want => .ite b (planOp P rec o N (planRun rec all N k rest) env H want) (planOp P rec o N (planRun rec all N k rest) env H (match want with | true => false | false => true))
    | .none => .bad 47 o.pos)
  | .chk os :: rest, env, H => (match chkA P all env H os with
    | true => planRun rec all N k rest env H
    | false => .bad 48 (match os with | o :: _ => o.pos | [] => ""))

/-! ### One step -/
abbrev KC := Ex → T AV → Heap → Ob
abbrev SC := (Task → Ob) → Nat → T AV → Heap → KC → Ob
def sNo : SC := fun _ _ _ _ _ => .bad 43 "a statement"
def sSkip : SC := fun _ _ env H k => k .normal env H
def sRegion (_ : Nat) (ops : Array Oper) (draw : Bool) : SC := fun rec N env H k =>
  match draw with
  | false => rec (.ops ops ops.toList N env H (k .normal))
  | true => match planOf ops with
    | some l => planRun P rec ops N (k .normal) l env H
    | none => .bad 40 "a region without a plan"
def thenK (rec : Task → Ob) (b : Code) (N : Nat) (k : KC) : KC := fun e env H =>
  Ex.casesOn e (rec (.code b N env H k)) (fun id => k (.exit id) env H) (k .ret env H)
def sSeq (a b : Code) : SC := fun rec N env H k => rec (.code a N env H (thenK rec b N k))
def sCond (c : Operand) (a b : Code) : SC := fun rec N env H k =>
  match opd env c with
  | some (.bool s) => match s with
    | .lit true => rec (.code a N env H k)
    | .lit false => rec (.code b N env H k)
    | s => match c with
      | .tmp t => match Nat.blt t N with
        | true => .ite s (rec (.code a N (env.set t (.bool (.lit true))) H k)) (rec (.code b N (env.set t (.bool (.lit false))) H k))
        | false => .bad 41 ""
      | _ => .bad 41 ""
  | _ => .bad 42 "a test"
def blockK (id : Nat) (k : KC) : KC := fun e env H =>
  match e with
  | .exit id' => match Nat.beq id' id with
    | true => k .normal env H
    | false => k (.exit id') env H
  | e => k e env H
def sBlock (id : Nat) (c : Code) : SC := fun rec N env H k => rec (.code c N env H (blockK id k))
def sLoop (c : Code) : SC := fun rec N env H k => rec (.code c N env H (thenK rec (.loop c) N k))
def sExit (id : Nat) : SC := fun _ _ env H k => k (.exit id) env H
def sLabel (_ : Nat) : SC := sSkip
def sRet : SC := fun _ _ env H k => k .ret env H

def stepCode (rec : Task → Ob) (c : Code) (N : Nat) (env : T AV) (H : Heap) (k : KC) : Ob :=
  Code.casesOn (motive := fun _ => SC) c sSkip (sRegion P) sSeq sCond sBlock sLoop (fun _ _ _ _ => sNo) sExit (fun _ => sNo) sLabel (fun _ => sNo) sRet (fun _ => sNo) rec N env H k

def opsK (rec : Task → Ob) (all : Array Oper) (rest : List Oper) (N : Nat) (k : T AV → Heap → Ob) (o : Oper) : K3 := fun env v H =>
  putA o.dst N env v fun env' => rec (.ops all rest N env' H k)
def stepOps (rec : Task → Ob) (all : Array Oper) (l : List Oper) (N : Nat) (env : T AV) (H : Heap) (k : T AV → Heap → Ob) : Ob :=
  match l with
  | [] => k env H
  | o :: rest => match guardA all env o with
    | .yes => doOp P rec o env H (opsK rec all rest N k o)
    | .no => putA o.dst N env undefA fun env' => rec (.ops all rest N env' H k)
    | .test t b _ => match Nat.blt t N with
      | true => .ite b (rec (.ops all l N (env.set t (.bool (.lit true))) H k)) (rec (.ops all l N (env.set t (.bool (.lit false))) H k))
      | false => .bad 44 ""
    | .none => .bad 45 o.pos

/-- The function that may be entered: its body, and how many slots it has. -/
def bodyOf (f : FuncId) : Option (Func × Code) :=
  match P.funcs[f]? with
  | none => none
  | some fn => match fn.body with
    | none => none
    | some c => if fn.name = "runtime.NumGoroutine" then none else some (fn, c)

/-- What is behind a body: the deferred calls, the last one first; then the results. -/
def leave (fn : Func) (env : T AV) (k : K) : Heap → Ob := fun H =>
  match resultA P fn H env with
  | some v => k v H
  | none => .bad 54 fn.name
def deferK (fn : Func) (k : K) : KC := fun e env H =>
  match e with
  | .exit _ => .bad 56 fn.name
  | _ => match env.get dslot with
    | none => leave P fn env k H
    | some _ => .bad 57 fn.name
def runDefers (rec : Task → Ob) (fin : Heap → Ob) : Nat → AV → Heap → Ob
  | 0, _, _ => .bad 70 ""
  | n + 1, d, H => match d with
    | .tup [] => fin H
    | .tup [.func g [] args, rest] => (match bodyOf P g with
      | none => .bad 72 ""
      | some (fn, c) => (match Nat.ble args.length fn.ntmps && Nat.ble fn.ntmps dslot with
        | true => rec (.code c fn.ntmps (envOf args 0 .leaf) H (deferK P fn fun _ H' => runDefers rec fin n rest H'))
        | false => .bad 73 fn.name))
    | _ => .bad 71 ""
def bodyK (rec : Task → Ob) (fn : Func) (k : K) : KC := fun e env H =>
  match e with
  | .exit _ => .bad 53 fn.name
  | _ => match env.get dslot with
    | none => leave P fn env k H
    | some d => runDefers P rec (leave P fn env k) 8 d H

def stepCall (orc : FuncId → List AV → Heap → Option (List (AV × Heap))) (rec : Task → Ob) (f : FuncId) (args : List AV) (H : Heap) (k : K) : Ob :=
  match orc f args H with
  | some l => forkAll k l
  | none => match bodyOf P f with
    | none => .bad 50 ""
    | some (fn, c) => match Nat.ble args.length fn.ntmps && Nat.ble fn.ntmps dslot with
      | true => rec (.code c fn.ntmps (envOf args 0 .leaf) H (bodyK P rec fn k))
      | false => .bad 55 fn.name

def step (orc : FuncId → List AV → Heap → Option (List (AV × Heap))) (rec : Task → Ob) (t : Task) : Ob :=
  Task.casesOn (motive := fun _ => Ob) t (stepCode P rec) (stepOps P rec) (stepCall P orc rec)

/-- A run of so many steps' depth. -/
noncomputable def ev (orc : FuncId → List AV → Heap → Option (List (AV × Heap))) (n : Nat) : Task → Ob :=
  Nat.rec (motive := fun _ => Task → Ob) (fun _ => .bad 0 "no fuel") (fun _ ih => step P orc ih) n

def heap0 : Heap := ⟨.leaf, 1, .leaf⟩
def isTrue (v : AV) (_ : Heap) : Ob :=
  match v with
  | .bool (.lit true) => .ok
  | .bool (.lit false) => .bad 99 "false"
  | .bool b => .ite b .ok (.bad 98 "false")
  | _ => .bad 97 "no bool"
def noOrc : FuncId → List AV → Heap → Option (List (AV × Heap)) := fun _ _ _ => none

end
end
end Go.Dw
