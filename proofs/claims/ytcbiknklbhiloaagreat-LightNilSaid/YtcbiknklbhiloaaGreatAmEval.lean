/- Definitions of the evaluator: regions in the order of the text or in any order, code, calls; nothing is proved here. -/
import Derived.Test.YtcbiknklbhiloaaGreatAmBase
import Derived.Orders
namespace Go.AM
open Go

inductive Kind where | pure | read | alloc | eff

def kindB : Builtin → Kind
  | .len => .read
  | .cap => .read
  | .min => .pure
  | .max => .pure
  | _ => .eff
noncomputable def kindV (A : AP) : Operand → Kind
  | .func g => match A.pf.get g with
    | some _ => .pure
    | none => .eff
  | _ => .eff
noncomputable def kindC (A : AP) : Callee → Kind
  | .builtin b => kindB b
  | .value f => kindV A f
  | .invoke _ _ => .eff
noncomputable def plainT (A : AP) (t : Nat) : Bool := match A.desc t with
  | some (.int _) => true
  | _ => false
noncomputable def kindOf (A : AP) : Op → Kind
  | .convert s d _ => cond (plainT A s) (cond (plainT A d) .pure .eff) .eff
  | .move _ => .pure
  | .assign _ => .pure
  | .pick _ _ _ => .pure
  | .alloc _ => .alloc
  | .box _ _ => .alloc
  | .buildSlice _ _ _ => .alloc
  | .makeMap _ _ => .alloc
  | .build _ _ => .pure
  | .load _ _ => .read
  | .nilCheck _ => .pure
  | .binOp _ _ _ _ _ => .pure
  | .unOp _ _ _ => .pure
  | .makeInterface _ _ => .pure
  | .makeFunc _ _ _ => .pure
  | .slice _ _ _ _ _ => .read
  | .fieldAddr _ _ _ => .pure
  | .field _ _ _ => .pure
  | .indexAddr _ _ _ => .pure
  | .index _ _ _ => .pure
  | .lookup _ _ _ _ => .read
  | .extract _ _ => .pure
  | .call c => kindC A c.callee
  | _ => .eff

noncomputable def optOpd (A : AP) (T : TM) : Option Operand → Option (Option AV)
  | none => some none
  | some x => match opd A T x with | some v => some (some v) | none => none
noncomputable def partsOf (A : AP) (T : TM) : List (Nat × Operand) → Option (List (Nat × AV))
  | [] => some []
  | (i, x) :: r => match opd A T x with
    | some v => match partsOf A T r with | some l => some ((i, v) :: l) | none => none
    | none => none

inductive Mk where | ptr | sl (len : Nat) | map
def Mk.val (b : Nat) : Mk → AV
  | .ptr => .ptr b 0
  | .sl n => .sl b 0 n (.exact n)
  | .map => .map (some b)
def cellsOb (l : List AV) (k : Mk) : Option (AO × Mk) := match allOne l with
  | true => some (.cells l .rwr, k)
  | false => none
noncomputable def allocAlloc (A : AP) (e : Nat) : Option (AO × Mk) := match A.zero e with
  | some z => cellsOb z.cells .ptr
  | none => none
noncomputable def allocBox (A : AP) (T : TM) (x : Operand) : Option (AO × Mk) := match opd A T x with
  | some v => cellsOb v.cells .ptr
  | none => none
noncomputable def allocSlice (A : AP) (T : TM) (t len : Nat) (ps : List (Nat × Operand)) : Option (AO × Mk) := match partsOf A T ps with
  | some ps => match A.desc t with
    | some (.slice e) => match A.size e with
      | some es => match A.zero e with
        | some z => match Nat.blt (len * es) 1000000 with
          | true => match Nat.beq z.cells.length es with
            | true => match fill (fun i => some (i * es, es)) (rep z.cells len) ps with
              | some l => cellsOb l (.sl len)
              | none => none
            | false => none
          | false => none
        | none => none
      | none => none
    | _ => none
  | none => none
noncomputable def allocOf (A : AP) (T : TM) : Op → Option (AO × Mk)
  | .alloc e => allocAlloc A e
  | .box _ x => allocBox A T x
  | .buildSlice t len ps => allocSlice A T t len ps.toList
  | .makeMap _ none => some (.map [] 0, .map)
  | _ => none
noncomputable def newOb (H : AH) : Option (AO × Mk) → Res
  | some (ob, mk) => match H.new ob with
    | some (b, H') => some (mk.val b, H')
    | none => none
  | none => none
noncomputable def putOb (H : AH) (b : Nat) : Option (AO × Mk) → Res
  | some (ob, mk) => some (mk.val b, H.set b (some ob))
  | none => none

noncomputable def opPick (A : AP) (T : TM) (H : AH) (c a b : Operand) : Res := match opd A T c with
  | some (.bool c) => match opd A T a with
    | some a => match opd A T b with
      | some b => some (match c with | true => a | false => b, H)
      | none => none
    | none => none
  | _ => none
noncomputable def op1 (A : AP) (T : TM) (x : Operand) (f : AV → Res) : Res := match opd A T x with
  | some v => f v
  | none => none
noncomputable def op2 (A : AP) (T : TM) (x y : Operand) (f : AV → AV → Res) : Res := match opd A T x with
  | some v => match opd A T y with
    | some u => f v u
    | none => none
  | none => none
noncomputable def op3 (A : AP) (T : TM) (x y z : Operand) (f : AV → AV → AV → Res) : Res := match opd A T x with
  | some v => match opd A T y with
    | some u => match opd A T z with
      | some s => f v u s
      | none => none
    | none => none
  | none => none
noncomputable def mkIface (A : AP) (t : Nat) (x : AV) : Option AV := match A.desc t with
  | some (.interface _) => none
  | some _ => some (.iface t x)
  | none => none
def nilChk (H : AH) : AV → Res
  | .ptr b o => some (.ptr b o, H)
  | .fn f a b => some (.fn f a b, H)
  | _ => none
noncomputable def opBuild (A : AP) (T : TM) (H : AH) (t : Nat) (ps : List (Nat × Operand)) : Res := match partsOf A T ps with
  | some ps => pureRes H (build A t ps)
  | none => none
noncomputable def opMakeFunc (A : AP) (T : TM) (H : AH) (fn : Fn) (first cap : List Operand) : Res := match fn with
  | .func f => match opds A T first with
    | some a => match opds A T cap with
      | some b => some (.fn f a b, H)
      | none => none
    | none => none
  | _ => none
noncomputable def opSlice (A : AP) (T : TM) (H : AH) (t : Nat) (x : Operand) (lo hi mx : Option Operand) : Res := match opd A T x with
  | some x => match optOpd A T lo with
    | some lo => match optOpd A T hi with
      | some hi => match optOpd A T mx with
        | some mx => pureRes H (sliceOp A H t x lo hi mx)
        | none => none
      | none => none
    | none => none
  | none => none
noncomputable def opRange (A : AP) (H : AH) (t : Nat) (x : AV) : Res := match A.desc t with
  | some .string => match x with
    | .str s => newOb H (some (.strIter s 0, .ptr))
    | _ => none
  | some (.map _ _) => match x with
    | .map none => newOb H (some (.mapIter none 0 [] 0, .ptr))
    | .map (some r) => match mapAt H r with
      | some (_, clock) => newOb H (some (.mapIter (some r) clock [] clock, .ptr))
      | none => none
    | _ => none
  | _ => none
noncomputable def opEntry (H : AH) (it : AV) : Res := match it with
  | .ptr b 0 => match H.get b with
    | some (.mapIter (some r) _ [s] stepped) => match mapAt H r with
      | some (es, clock) => match Nat.beq clock stepped with
        | true => match es.find? (fun e => Nat.beq e.2.2 s) with
          | some e => some (.tup [e.1, e.2.1], H)
          | none => none
        | false => none
      | none => none
    | _ => none
  | _ => none
def opExtract (H : AH) (i : Nat) : AV → Res
  | .tup vs => pureRes H (nth vs i)
  | _ => none
def doCall (call : CallT) (H : AH) (args : List AV) : Option AV → Res
  | some (.fn f first cap) => call f (first ++ args ++ cap) H
  | _ => none
noncomputable def callVal (A : AP) (call : CallT) (T : TM) (H : AH) (args : List AV) : Operand → Res
  | .func g => match A.pf.get g with
    | some h => pureRes H (h args)
    | none => doCall call H args (opd A T (.func g))
  | f => doCall call H args (opd A T f)
noncomputable def opCallee (A : AP) (call : CallT) (T : TM) (H : AH) (ts : List Nat) (args : List AV) : Callee → Res
  | .builtin b => builtin A H ts args b
  | .value f => callVal A call T H args f
  | .invoke _ _ => none
noncomputable def opCall (A : AP) (call : CallT) (T : TM) (H : AH) (c : Call) : Res := match opds A T c.args.toList with
  | some args => opCallee A call T H c.argTypes.toList args c.callee
  | none => none

noncomputable def opEval (A : AP) (call : CallT) (T : TM) (H : AH) (o : Op) : Res :=
  Op.rec (motive := fun _ => AP → CallT → TM → AH → Res)
    (fun x A _ T H => pureRes H (opd A T x))
    (fun x A _ T H => pureRes H (opd A T x))
    (fun c a b A _ T H => opPick A T H c a b)
    (fun e A _ T H => newOb H (allocOf A T (.alloc e)))
    (fun e x A _ T H => newOb H (allocOf A T (.box e x)))
    (fun t ps A _ T H => opBuild A T H t ps.toList)
    (fun t len ps A _ T H => newOb H (allocOf A T (.buildSlice t len ps)))
    (fun t m k v A _ T H => op3 A T m k v fun m k v => unitRes (mapUpdate A H t m k v))
    (fun t a A _ T H => op1 A T a fun a => pureRes H (load A H t a))
    (fun t a v A _ T H => op2 A T a v fun a v => unitRes (store A H t a v))
    (fun _ _ _ _ _ => none)
    (fun _ _ _ _ _ => none)
    (fun x A _ T H => op1 A T x (nilChk H))
    (fun op t x y _ A _ T H => op2 A T x y fun a b => cond (eqGuardOK A t x y a b op) (pureRes H (binOp A t op a b)) none)
    (fun op _ x A _ T H => op1 A T x fun x => pureRes H (unOp op x))
    (fun s d x A _ T H => op1 A T x (convert A H s d))
    (fun _ _ _ _ _ _ => none)
    (fun t x A _ T H => op1 A T x fun x => pureRes H (mkIface A t x))
    (fun fn first cap A _ T H => opMakeFunc A T H fn first.toList cap.toList)
    (fun t r A _ T H => newOb H (allocOf A T (.makeMap t r)))
    (fun _ _ _ _ _ _ => none)
    (fun t l c A _ T H => op2 A T l c (makeSlice A H t))
    (fun t x lo hi mx A _ T H => opSlice A T H t x lo hi mx)
    (fun t x f A _ T H => op1 A T x fun x => pureRes H (fieldAddr A t x f))
    (fun t x f A _ T H => op1 A T x fun x => pureRes H (field A t x f))
    (fun t x i A _ T H => op2 A T x i fun x i => pureRes H (indexAddr A t x i))
    (fun t x i A _ T H => op2 A T x i fun x i => pureRes H (index A t x i))
    (fun t x k ok A _ T H => op2 A T x k fun x k => pureRes H (lookup A H t x k ok))
    (fun t m k v A _ T H => op3 A T m k v fun m k v => unitRes (mapUpdate A H t m k v))
    (fun _ _ _ _ _ _ _ => none)
    (fun _ _ _ _ _ _ _ _ => none)
    (fun t x A _ T H => op1 A T x (opRange A H t))
    (fun it isStr A _ T H => op1 A T it fun it => next H it isStr)
    (fun it A _ T H => op1 A T it (opEntry H))
    (fun _ _ _ _ _ _ _ _ => none)
    (fun t i A _ T H => op1 A T t (opExtract H i))
    (fun c A call T H => opCall A call T H c)
    (fun _ _ _ _ _ => none)
    (fun _ _ _ _ _ => none)
    (fun _ _ _ _ _ => none)
    (fun _ _ _ _ _ _ => none)
    (fun _ _ _ _ _ _ _ => none)
    (fun _ _ _ _ _ _ => none)
    o A call T H

def guardIs : AV → Bool → Option Bool
  | .bool true, w => some w
  | .bool false, w => some (!w)
  | .opq _, _ => none
  | .unk, _ => none
  | _, _ => some false
def dstAt (ops : List Oper) (j : Nat) : Option Nat := match nth ops j with
  | some p => p.dst
  | none => none
noncomputable def wanted (ops : List Oper) (T : TM) (o : Oper) : Option Bool := match o.guard with
  | none => some true
  | some (j, want) => match dstAt ops j with
    | some d => match T.get d with | some v => guardIs v want | none => none
    | none => some false

/-- the operations of a region in the order of the text -/
noncomputable def stepOp (A : AP) (call : CallT) (ops : List Oper) (o : Oper) (k : TM → AH → Option (TM × AH)) (T : TM) (H : AH) : Option (TM × AH) :=
  match wanted ops T o with
  | some true => match opEval A call T H o.op with
    | some (v, H') => match T.put o.dst v with
      | some T' => k T' H'
      | none => none
    | none => none
  | some false => match T.put o.dst (.tup []) with
    | some T' => k T' H
    | none => none
  | none => none
noncomputable def runOps (A : AP) (call : CallT) (ops : List Oper) (l : List Oper) : TM → AH → Option (TM × AH) :=
  List.rec (motive := fun _ => TM → AH → Option (TM × AH)) (fun T H => some (T, H)) (fun o _ ih T H => stepOp A call ops o ih T H) l

/- REGIONS WHOSE ORDER IS DRAWN -/
def bit (m i : Nat) : Bool := Nat.beq (Nat.land (Nat.shiftRight m i) 1) 1
def edgeMask (ms : List Nat) : List Edge → Option Nat
  | [] => some 0
  | e :: es => match edgeMask ms es with
    | some a => match Region.binds .any e with
      | true => match nth ms e.on with
        | some m => some (Nat.lor a (Nat.lor m (Nat.shiftLeft 1 e.on)))
        | none => none
      | false => some a
    | none => none
def masks : List Oper → List Nat → Option (List Nat)
  | [], ms => some ms
  | o :: r, ms => match edgeMask ms o.after.toList with
    | some m => masks r (ms ++ [m])
    | none => none
structure OI where
  dst : Option Nat
  looks : List Nat
  kind : Kind
  mask : Nat
def lookOpds : List Operand → List Nat
  | [] => []
  | .tmp t :: r => t :: lookOpds r
  | _ :: r => lookOpds r
def looksOf (ops : List Oper) (o : Oper) : List Nat := match o.guard with
  | some (g, _) => match dstAt ops g with
    | some d => d :: lookOpds o.op.operands.toList
    | none => lookOpds o.op.operands.toList
  | none => lookOpds o.op.operands.toList
def mem (x : Nat) : List Nat → Bool
  | [] => false
  | y :: r => cond (Nat.beq x y) true (mem x r)
def memO : Option Nat → List Nat → Bool
  | some x, l => mem x l
  | none, _ => false
def sameO : Option Nat → Option Nat → Bool
  | some x, some y => Nat.beq x y
  | _, _ => false
def isEff : Kind → Bool
  | .eff => true
  | _ => false
def pairOK (i : Nat) (x y : OI) : Bool :=
  cond (bit y.mask i) true
    (cond (memO x.dst y.looks) false (cond (sameO x.dst y.dst) false (cond (memO y.dst x.looks) false (cond (isEff x.kind) (!isEff y.kind) true))))
/-- each earlier one against y -/
def rowOK (y : OI) : List OI → Nat → Bool
  | [], _ => true
  | x :: r, i => cond (pairOK i x y) (rowOK y r (i + 1)) false
noncomputable def infoOf (A : AP) (ops : List Oper) : List Oper → List Nat → List OI
  | o :: r, m :: ms => ⟨o.dst, looksOf ops o, kindOf A o.op, m⟩ :: infoOf A ops r ms
  | _, _ => []
def rowsOK : List OI → List OI → Bool
  | _, [] => true
  | seen, y :: r => cond (rowOK y seen 0) (rowsOK (seen ++ [y]) r) false
noncomputable def drawInfo (A : AP) (ops : List Oper) : Option (List OI) := match masks ops [] with
  | some ms => match rowsOK [] (infoOf A ops ops ms) with
    | true => some (infoOf A ops ops ms)
    | false => none
  | none => none

structure Ent where
  T : TM
  H : AH
  on : Bool
  v : AV
/-- one operation of a region that draws: a new block bears the number that is kept for it -/
noncomputable def opAt (A : AP) (call : CallT) (T : TM) (H : AH) (b : Nat) (o : Op) : Res := match kindOf A o with
  | .alloc => putOb H b (allocOf A T o)
  | _ => opEval A call T H o
noncomputable def runD (A : AP) (call : CallT) (ops : List Oper) : Nat → List Oper → TM → AH → Option (List Ent × TM × AH)
  | _, [], T, H => some ([], T, H)
  | b, o :: r, T, H => match wanted ops T o with
    | some true => match opAt A call T H b o.op with
      | some (v, H') => match T.put o.dst v with
        | some T' => match runD A call ops (b + 1) r T' H' with
          | some (l, T2, H2) => some (⟨T, H, true, v⟩ :: l, T2, H2)
          | none => none
        | none => none
      | none => none
    | some false => match T.put o.dst (.tup []) with
      | some T' => match runD A call ops (b + 1) r T' H with
        | some (l, T2, H2) => some (⟨T, H, false, .tup []⟩ :: l, T2, H2)
        | none => none
      | none => none
    | none => none

mutual
def avEq : AV → AV → Bool
  | .bool a, y => match y with | .bool b => a == b | _ => false
  | .int k a, y => match y with | .int k' b => decide (k = k') && decide (a = b) | _ => false
  | .str a, y => match y with | .str b => natsEq a b | _ => false
  | .nilp, y => match y with | .nilp => true | _ => false
  | .ptr b o, y => match y with | .ptr b' o' => Nat.beq b b' && Nat.beq o o' | _ => false
  | .nils, y => match y with | .nils => true | _ => false
  | .sl b o n c, y => match y with | .sl b' o' n' c' => Nat.beq b b' && Nat.beq o o' && Nat.beq n n' && decide (c = c') | _ => false
  | .map r, y => match y with | .map r' => decide (r = r') | _ => false
  | .fn f a b, y => match y with | .fn f' a' b' => Nat.beq f f' && avsEq a a' && avsEq b b' | _ => false
  | .nilf, y => match y with | .nilf => true | _ => false
  | .iface t v, y => match y with | .iface t' v' => Nat.beq t t' && avEq v v' | _ => false
  | .nili, y => match y with | .nili => true | _ => false
  | .agg a, y => match y with | .agg b => avsEq a b | _ => false
  | .tup a, y => match y with | .tup b => avsEq a b | _ => false
  | .opq i, y => match y with | .opq j => Nat.beq i j | _ => false
  | .unk, _ => false
  | .ge n, y => match y with | .ge k => Nat.beq n k | _ => false
def avsEq : List AV → List AV → Bool
  | [], y => match y with | [] => true | _ => false
  | a :: as, y => match y with | b :: bs => avEq a b && avsEq as bs | [] => false
end

/-- the memories that a read may meet: the first, and that behind each operation that acts; each with its place -/
def levels (e0 : AH) : List OI → List Ent → Nat → AH → List (Nat × AH)
  | x :: xs, _ :: es, i, Hn => match isEff x.kind with
    | true => (i + 1, match es with | f :: _ => f.H | [] => Hn) :: levels e0 xs es (i + 1) Hn
    | false => levels e0 xs es (i + 1) Hn
  | _, _, _, _ => []
/-- may operation r come up when the operations that act below place q have been carried out, and no others? -/
def possible (r : Nat) (rm : Nat) (q : Nat) : List OI → Nat → Bool
  | [], _ => true
  | x :: xs, i => cond (isEff x.kind)
      (cond (Nat.blt i q) (cond (bit x.mask r) false (possible r rm q xs (i + 1))) (cond (bit rm i) false (possible r rm q xs (i + 1))))
      (possible r rm q xs (i + 1))
noncomputable def readSame (A : AP) (call : CallT) (T : TM) (H : AH) (o : Op) (v : AV) : Bool := match opEval A call T H o with
  | some (u, _) => avEq u v
  | none => false
noncomputable def readAll (A : AP) (call : CallT) (T : TM) (o : Op) (v : AV) (r rm : Nat) (all : List OI) : List (Nat × AH) → Bool
  | [] => true
  | (q, H) :: l => cond (possible r rm q all 0) (cond (readSame A call T H o v) (readAll A call T o v r rm all l) false) (readAll A call T o v r rm all l)
/-- does an operation leave the memory? -/
def stillK : Kind → Bool
  | .pure => true
  | .read => true
  | _ => false
/-- (clean: all operations ahead leave the memory: the first level is the memory that the read met) -/
noncomputable def readsOK (A : AP) (call : CallT) (all : List OI) (H0 : AH) (lv : List (Nat × AH)) : Bool → List Oper → List OI → List Ent → Nat → Bool
  | c, o :: os, x :: xs, e :: es, i => match x.kind with
    | .read => match e.on with
      | true => cond (readAll A call e.T o.op e.v i x.mask all (cond c lv ((0, H0) :: lv))) (readsOK A call all H0 lv c os xs es (i + 1)) false
      | false => readsOK A call all H0 lv c os xs es (i + 1)
    | _ => readsOK A call all H0 lv (cond (stillK x.kind) c false) os xs es (i + 1)
  | _, _, _, _, _ => true
noncomputable def runDraw (A : AP) (call : CallT) (ops : List Oper) (T : TM) (H : AH) : Option (TM × AH) := match drawInfo A ops with
  | some xs => match runD A call ops H.nx ops T ⟨H.nx + ops.length, H.t⟩ with
    | some (es, T', H') => cond (readsOK A call xs ⟨H.nx + ops.length, H.t⟩ (levels H xs es 0 H') true ops xs es 0) (some (T', H')) none
    | none => none
  | none => none

inductive AX where | norm | exit (id : Nat) | ret

def normR : Option (TM × AH) → Option (AX × TM × AH)
  | some (T, H) => some (.norm, T, H)
  | none => none
noncomputable def region (A : AP) (call : CallT) (ops : List Oper) (draw : Bool) (T : TM) (H : AH) : Option (AX × TM × AH) :=
  match draw with
  | true => normR (runDraw A call ops T H)
  | false => normR (runOps A call ops ops T H)
def thenR (r : Option (AX × TM × AH)) (k : TM → AH → Option (AX × TM × AH)) : Option (AX × TM × AH) := match r with
  | some (.norm, T, H) => k T H
  | r => r
def blockR (id : Nat) : Option (AX × TM × AH) → Option (AX × TM × AH)
  | some (.exit j, T, H) => match Nat.beq j id with
    | true => some (.norm, T, H)
    | false => some (.exit j, T, H)
  | r => r
def condR (c : Option AV) (x y : Unit → Option (AX × TM × AH)) : Option (AX × TM × AH) := match c with
  | some (.bool true) => x ()
  | some (.bool false) => y ()
  | _ => none
def iter (f : TM → AH → Option (AX × TM × AH)) (n : Nat) : TM → AH → Option (AX × TM × AH) :=
  Nat.rec (motive := fun _ => TM → AH → Option (AX × TM × AH)) (fun _ _ => none) (fun _ ih T H => thenR (f T H) ih) n

noncomputable def execC (A : AP) (call : CallT) (L : Nat) (c : Code) : TM → AH → Option (AX × TM × AH) :=
  Code.rec (motive := fun _ => TM → AH → Option (AX × TM × AH))
    (fun T H => some (.norm, T, H))                                   -- skip
    (fun _ ops draw T H => region A call ops.toList draw T H)         -- region
    (fun _ _ fx fy T H => thenR (fx T H) fy)                          -- seq
    (fun c _ _ fx fy T H => condR (opd A T c) (fun _ => fx T H) (fun _ => fy T H))  -- cond
    (fun id _ f T H => blockR id (f T H))                             -- block
    (fun _ f => iter f L)                                             -- loop
    (fun _ _ _ _ _ _ _ _ => none)                                     -- rangeFunc
    (fun id T H => some (.exit id, T, H))                             -- exit
    (fun _ f => f)                                                    -- scope
    (fun _ T H => some (.norm, T, H))                                 -- label
    (fun _ _ _ => none)                                               -- goto
    (fun T H => some (.ret, T, H))                                    -- ret
    (fun _ _ _ => none)                                               -- refuse
    c

noncomputable def enterT (n : Nat) : Nat → List AV → TV → Option TV
  | _, [], t => some t
  | i, v :: r, t => cond (Nat.blt i n) (enterT n (i + 1) r (TV.setP t (pathOf i) (some v))) none

noncomputable def resultsOf (A : AP) (T : TM) (H : AH) : List ResultVar → Option (List AV)
  | [] => some []
  | .tmp t :: r => match T.get t with
    | some v => match resultsOf A T H r with | some l => some (v :: l) | none => none
    | none => none
  | .cell a t :: r => match T.get a with
    | some x => match load A H t x with
      | some v => match resultsOf A T H r with | some l => some (v :: l) | none => none
      | none => none
    | none => none
def oneOr : AH → Option (List AV) → Res
  | H, some [v] => some (v, H)
  | H, some vs => some (.tup vs, H)
  | _, none => none
noncomputable def leave (A : AP) (rs : List ResultVar) : Option (AX × TM × AH) → Res
  | some (.norm, T, H) => oneOr H (resultsOf A T H rs)
  | some (.ret, T, H) => oneOr H (resultsOf A T H rs)
  | _ => none
noncomputable def runFn (A : AP) (call : CallT) (L : Nat) (fn : Func) (args : List AV) (H : AH) : Res := match fn.body with
  | some c => match enterT fn.ntmps 0 args .e with
    | some t => leave A fn.results.toList (execC A call L c ⟨fn.ntmps, t⟩ H)
    | none => none
  | none => none
noncomputable def callStep (A : AP) (L : Nat) (ih : CallT) : CallT := fun f args H => match A.sums.get f with
  | some g => g args H
  | none => match A.funcs.get f with
    | some fn => runFn A ih L fn args H
    | none => none
noncomputable def callF (A : AP) (L : Nat) (d : Nat) : CallT :=
  Nat.rec (motive := fun _ => CallT) (fun _ _ _ => none) (fun _ ih => callStep A L ih) d

end Go.AM
