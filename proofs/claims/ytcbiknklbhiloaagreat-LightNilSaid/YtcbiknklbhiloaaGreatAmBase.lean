/- Definitions of an evaluator over abstract memory: values, memory, operations that read and reckon; nothing is proved here. -/
import GoSem.Step
/-
  A deterministic evaluator over abstract memory for the model's code. Values are trees; memory is a table of blocks by number;
  a slice either has an exact capacity or reaches to the end of a block whose size the tape has drawn.
-/
namespace Go.AM
open Go

inductive ACap where
  | exact (n : Nat)
  | upto (es : Nat)
  deriving Inhabited, DecidableEq

inductive AV where
  | bool (b : Bool)
  | int (k : IntKind) (n : Int)
  | str (s : List Nat)
  | nilp
  | ptr (b o : Nat)
  | nils
  | sl (b o len : Nat) (cap : ACap)
  | map (r : Option Nat)
  | fn (f : FuncId) (first captured : List AV)
  | nilf
  | iface (t : Nat) (v : AV)
  | nili
  | agg (cs : List AV)
  | tup (vs : List AV)
  | opq (i : Nat)
  | unk
  | ge (n : Nat)
  deriving Inhabited

/-- may a block be written? (mrk: yes; a mark stands behind its end) -/
inductive Mark where | rwr | mrk | rdo
  deriving Inhabited, DecidableEq
def Mark.w : Mark → Bool
  | .rwr => true
  | .mrk => true
  | .rdo => false
inductive AO where
  | cells (cs : List AV) (ro : Mark)
  | map (es : List (AV × AV × Nat)) (clock : Nat)
  | strIter (s : List Nat) (pos : Nat)
  | mapIter (m : Option Nat) (since : Nat) (seen : List Nat) (stepped : Nat)
  deriving Inhabited

/-- binary tries; a key's path: the binary digits of the key and 1, the lowest first, but for the highest -/
noncomputable def digitsOf (n : Nat) : Nat → List Bool :=
  Nat.rec (motive := fun _ => Nat → List Bool) (fun _ => []) (fun _ ih k => Nat.beq (Nat.land k 1) 0 :: ih (Nat.shiftRight k 1)) n
noncomputable def pathOf (k : Nat) : List Bool := digitsOf (Nat.log2 (Nat.succ k)) (Nat.succ k)
inductive TV where
  | e
  | n (a : Option AV) (x y : TV)
  deriving Inhabited
noncomputable def TV.single (v : Option AV) (p : List Bool) : TV := List.rec (motive := fun _ => TV) (.n v .e .e) (fun d _ ih => Bool.rec (.n none .e ih) (.n none ih .e) d) p
noncomputable def TV.getP (t : TV) : List Bool → Option AV :=
  TV.rec (motive := fun _ => List Bool → Option AV) (fun _ => none)
    (fun a _ _ ihx ihy p => List.rec (motive := fun _ => Option AV) a (fun d r _ => Bool.rec (ihy r) (ihx r) d) p) t
noncomputable def TV.setP (t : TV) : List Bool → Option AV → TV :=
  TV.rec (motive := fun _ => List Bool → Option AV → TV) (fun p v => TV.single v p)
    (fun a x y ihx ihy p v => List.rec (motive := fun _ => TV) (.n v x y) (fun d r _ => Bool.rec (.n a x (ihy r v)) (.n a (ihx r v) y) d) p) t
inductive TO where
  | e
  | n (a : Option AO) (x y : TO)
  deriving Inhabited
noncomputable def TO.single (v : Option AO) (p : List Bool) : TO := List.rec (motive := fun _ => TO) (.n v .e .e) (fun d _ ih => Bool.rec (.n none .e ih) (.n none ih .e) d) p
noncomputable def TO.getP (t : TO) : List Bool → Option AO :=
  TO.rec (motive := fun _ => List Bool → Option AO) (fun _ => none)
    (fun a _ _ ihx ihy p => List.rec (motive := fun _ => Option AO) a (fun d r _ => Bool.rec (ihy r) (ihx r) d) p) t
noncomputable def TO.setP (t : TO) : List Bool → Option AO → TO :=
  TO.rec (motive := fun _ => List Bool → Option AO → TO) (fun p v => TO.single v p)
    (fun a x y ihx ihy p v => List.rec (motive := fun _ => TO) (.n v x y) (fun d r _ => Bool.rec (.n a x (ihy r v)) (.n a (ihx r v) y) d) p) t

/-- search trees with fixed keys -/
inductive BT (α : Type) where
  | e
  | n (x : BT α) (k : Nat) (a : α) (y : BT α)

noncomputable def BT.get {α : Type} (t : BT α) : Nat → Option α :=
  BT.rec (motive := fun _ => Nat → Option α) (fun _ => none)
    (fun _ i a _ gx gy k => cond (Nat.blt k i) (gx k) (cond (Nat.beq k i) (some a) (gy k))) t

structure AH where
  nx : Nat
  t : TO
  deriving Inhabited

noncomputable def AH.get (H : AH) (b : Nat) : Option AO := H.t.getP (pathOf b)
noncomputable def AH.set (H : AH) (b : Nat) (o : Option AO) : AH := ⟨H.nx, TO.setP H.t (pathOf b) o⟩
noncomputable def AH.new (H : AH) (o : AO) : Option (Nat × AH) := some (H.nx, ⟨Nat.succ H.nx, TO.setP H.t (pathOf H.nx) (some o)⟩)

abbrev Res := Option (AV × AH)
abbrev CallT := FuncId → List AV → AH → Res

structure AP where
  types : BT TypeInfo
  funcs : BT Func
  ng : Nat   -- how many package variables
  sums : BT (List AV → AH → Res)
  eqs : BT Unit   -- struct types that may be compared
  pf : BT (List AV → Option AV)   -- functions that only reckon

noncomputable def AP.info (A : AP) (t : Nat) : Option TypeInfo := A.types.get t
def descVia : TypeDesc → (Nat → Option TypeInfo) → Option TypeDesc
  | .named _ u, g => match g u with
    | some j => some j.desc
    | none => none
  | d, _ => some d
noncomputable def AP.desc (A : AP) (t : Nat) : Option TypeDesc :=
  match A.types.get t with
  | some i => descVia i.desc A.types.get
  | none => none
noncomputable def AP.size (A : AP) (t : Nat) : Option Nat := match A.types.get t with | some i => some i.size | none => none
def isAggD : TypeDesc → Bool
  | .struct _ => true
  | .array _ _ => true
  | _ => false

def ofCell : Value → Option AV
  | .bool b => some (.bool b)
  | .int k n => some (.int k n)
  | .string s => some (.str (s.data.toList.map UInt8.toNat))
  | .pointer none => some .nilp
  | .slice none 0 0 => some .nils
  | .map none => some (.map none)
  | .nilFunc => some .nilf
  | .nilIface => some .nili
  | .func (.func f) ⟨[]⟩ ⟨[]⟩ => some (.fn f [] [])
  | _ => none
def ofCells : List Value → Option (List AV)
  | [] => some []
  | v :: vs => match ofCell v with
    | some a => match ofCells vs with
      | some as => some (a :: as)
      | none => none
    | none => none
def ofVal : Value → Option AV
  | .agg cs => match ofCells cs.toList with | some l => some (.agg l) | none => none
  | .tuple cs => match ofCells cs.toList with | some l => some (.tup l) | none => none
  | v => ofCell v

def AV.cells : AV → List AV
  | .agg cs => cs
  | v => [v]
def AV.one : AV → Bool
  | .agg _ => false
  | .tup _ => false
  | _ => true

noncomputable def AP.zero (A : AP) (t : Nat) : Option AV :=
  match A.types.get t with
  | some i => match i.zero with
    | some v => ofVal v
    | none => none
  | none => none

/-- temporaries -/
structure TM where
  n : Nat
  t : TV

noncomputable def TM.get (T : TM) (i : Nat) : Option AV := T.t.getP (pathOf i)
noncomputable def TM.set (T : TM) (i : Nat) (v : AV) : Option TM := TM.rec (motive := fun _ => Option TM) (fun n t => cond (Nat.blt i n) (some ⟨n, t.setP (pathOf i) (some v)⟩) none) T
noncomputable def TM.put (T : TM) (d : Option Nat) (v : AV) : Option TM := match d with
  | some d => T.set d v
  | none => some T

noncomputable def opd (A : AP) (T : TM) : Operand → Option AV
  | .tmp t => T.get t
  | .const v => ofVal v
  | .global g => cond (Nat.blt g A.ng) (some (.ptr g 0)) none
  | .func f => some (.fn f [] [])

noncomputable def opds (A : AP) (T : TM) : List Operand → Option (List AV)
  | [] => some []
  | x :: xs => match opd A T x with
    | some a => match opds A T xs with
      | some as => some (a :: as)
      | none => none
    | none => none

def takeN : Nat → List AV → Option (List AV)
  | 0, _ => some []
  | n + 1, x :: xs => match takeN n xs with | some r => some (x :: r) | none => none
  | _ + 1, [] => none
def dropN {α : Type} : Nat → List α → Option (List α)
  | 0, xs => some xs
  | n + 1, _ :: xs => dropN n xs
  | _ + 1, [] => none
def over : List AV → List AV → Option (List AV)
  | [], xs => some xs
  | v :: vs, _ :: xs => match over vs xs with | some r => some (v :: r) | none => none
  | _ :: _, [] => none
def splice : Nat → List AV → List AV → Option (List AV)
  | 0, vs, xs => over vs xs
  | o + 1, vs, x :: xs => match splice o vs xs with | some r => some (x :: r) | none => none
  | _ + 1, _, [] => none

noncomputable def AH.cells (H : AH) (b : Nat) : Option (List AV) := match H.get b with
  | some (.cells cs _) => some cs
  | _ => none
/-- a cell of which nothing is known -/
def isUnk : AV → Bool
  | .unk => true
  | _ => false
def known : List AV → Bool
  | [] => true
  | v :: vs => cond (isUnk v) false (known vs)
noncomputable def knownL (l : List AV) : Option (List AV) := cond (known l) (some l) none
noncomputable def AH.loadN (H : AH) (b o n : Nat) : Option (List AV) :=
  match H.cells b with
  | some cs => match dropN o cs with
    | some r => match takeN n r with
      | some l => knownL l
      | none => none
    | none => none
  | none => none
noncomputable def AH.load1 (H : AH) (b o : Nat) : Option AV :=
  match H.cells b with
  | some cs => match dropN o cs with
    | some (x :: _) => cond (isUnk x) none (some x)
    | _ => none
  | none => none
def allOne : List AV → Bool
  | [] => true
  | v :: vs => match v.one with | true => allOne vs | false => false
noncomputable def AH.storeN (H : AH) (b o : Nat) (vs : List AV) : Option AH :=
  match allOne vs with
  | false => none
  | true => match H.get b with
    | some (.cells cs k) => match k.w with
      | true => match splice o vs cs with
        | some cs' => some (H.set b (some (.cells cs' k)))
        | none => none
      | false => none
    | _ => none

def allB : List Nat → Bool
  | [] => true
  | x :: xs => cond (Nat.blt x 256) (allB xs) false
def natsEq : List Nat → List Nat → Bool
  | [], [] => true
  | x :: xs, y :: ys => cond (Nat.beq x y) (natsEq xs ys) false
  | _, _ => false
def natsLt : List Nat → List Nat → Bool
  | _, [] => false
  | [], _ :: _ => true
  | a :: x, b :: y => cond (Nat.blt a b) true (cond (Nat.beq a b) (natsLt x y) false)
def strEq (x y : List Nat) : Option Bool := cond (allB x) (cond (allB y) (some (natsEq x y)) none) none
def strLt (x y : List Nat) : Option Bool := cond (allB x) (cond (allB y) (some (natsLt x y)) none) none

/- integers, by their forms -/
def iLt (x y : Int) : Bool := match x with
  | .ofNat a => match y with
    | .ofNat b => Nat.blt a b
    | .negSucc _ => false
  | .negSucc a => match y with
    | .ofNat _ => true
    | .negSucc b => Nat.blt b a
def iEq (x y : Int) : Bool := match x with
  | .ofNat a => match y with
    | .ofNat b => Nat.beq a b
    | .negSucc _ => false
  | .negSucc a => match y with
    | .ofNat _ => false
    | .negSucc b => Nat.beq a b
def kHalf : IntKind → Nat
  | .i8 => 128
  | .i16 => 32768
  | .i32 => 2147483648
  | .i64 => 9223372036854775808
  | .u8 => 256
  | .u16 => 65536
  | .u32 => 4294967296
  | .u64 => 18446744073709551616
def wrapF (k : IntKind) (n : Int) : Int := match n with
  | .ofNat a => cond (Nat.blt a (kHalf k)) (.ofNat a) (k.wrap (.ofNat a))
  | .negSucc a => cond k.signed (cond (Nat.blt a (kHalf k)) (.negSucc a) (k.wrap (.negSucc a))) (k.wrap (.negSucc a))

def intCmp (x y : Int) : BinOp → Option AV
  | .eql => some (.bool (iEq x y))
  | .neq => some (.bool (!iEq x y))
  | .lss => some (.bool (iLt x y))
  | .leq => some (.bool (!iLt y x))
  | .gtr => some (.bool (iLt y x))
  | .geq => some (.bool (!iLt x y))
  | _ => none
def kFull : IntKind → Nat
  | .i8 => 256
  | .i16 => 65536
  | .i32 => 4294967296
  | .i64 => 18446744073709551616
  | .u8 => 256
  | .u16 => 65536
  | .u32 => 4294967296
  | .u64 => 18446744073709551616
def bitsOf (k : IntKind) (x : Int) : Nat := match x with
  | .ofNat a => Nat.mod a (kFull k)
  | .negSucc a => Nat.sub (Nat.sub (kFull k) 1) (Nat.mod a (kFull k))
def quoOp (k : IntKind) (x y : Int) : Option AV := match iEq y 0 with | true => none | false => some (.int k (wrapF k (x.tdiv y)))
def remOp (k : IntKind) (x y : Int) : Option AV := match iEq y 0 with | true => none | false => some (.int k (x.tmod y))
def intOp (k : IntKind) (x y : Int) (op : BinOp) : Option AV := match op with
  | .add => some (.int k (wrapF k (Int.add x y)))
  | .sub => some (.int k (wrapF k (Int.sub x y)))
  | .mul => some (.int k (wrapF k (Int.mul x y)))
  | .quo => quoOp k x y
  | .rem => remOp k x y
  | .and => some (.int k (wrapF k (.ofNat <| Nat.land (bitsOf k x) (bitsOf k y))))
  | .or => some (.int k (wrapF k (.ofNat <| Nat.lor (bitsOf k x) (bitsOf k y))))
  | .xor => some (.int k (wrapF k (.ofNat <| Nat.xor (bitsOf k x) (bitsOf k y))))
  | .andNot => some (.int k (wrapF k (.ofNat <| Nat.land (bitsOf k x) (Nat.xor (bitsOf k y) (2 ^ k.bits - 1)))))
  | op => intCmp x y op
def shlOp (k : IntKind) (x y : Int) : Option AV := match iLt y 0 with
  | true => none
  | false => some (.int k (wrapF k (x * 2 ^ (min y.toNat k.bits))))
def shrOp (k : IntKind) (x y : Int) : Option AV := match iLt y 0 with
  | true => none
  | false => some (.int k (x.fdiv (2 ^ (min y.toNat k.bits))))
def obool : Option Bool → Option AV
  | some b => some (.bool b)
  | none => none
def onot : Option Bool → Option AV
  | some b => some (.bool !b)
  | none => none
def strOp (x y : List Nat) : BinOp → Option AV
  | .add => cond (Nat.blt (x.length + y.length) 1000000000) (some (.str (x ++ y))) none
  | .eql => obool (strEq x y)
  | .neq => onot (strEq x y)
  | .lss => obool (strLt x y)
  | .geq => onot (strLt x y)
  | .gtr => obool (strLt y x)
  | .leq => onot (strLt y x)
  | _ => none

def ptrEq (a o b p : Nat) : Option Bool := match Nat.beq a b with
  | true => some (Nat.beq o p)
  | false => none
def intEq (k : IntKind) (a : Int) (k' : IntKind) (b : Int) : Option Bool := if k = k' then some (iEq a b) else none
def cellEq (x y : AV) : Option Bool := match x with
  | .bool a => match y with | .bool b => some (a == b) | _ => none
  | .int k a => match y with | .int k' b => intEq k a k' b | _ => none
  | .str a => match y with | .str b => strEq a b | _ => none
  | .nilp => match y with | .nilp => some true | .ptr _ _ => some false | _ => none
  | .ptr a o => match y with | .nilp => some false | .ptr b p => ptrEq a o b p | _ => none
  | .nils => match y with | .nils => some true | .sl _ _ _ _ => some false | _ => none
  | .sl _ _ _ _ => match y with | .nils => some false | _ => none
  | .map none => match y with | .map none => some true | .map (some _) => some false | _ => none
  | .map (some _) => match y with | .map none => some false | _ => none
  | .nilf => match y with | .nilf => some true | .fn _ _ _ => some false | _ => none
  | .fn _ _ _ => match y with | .nilf => some false | _ => none
  | .nili => match y with | .nili => some true | .iface _ _ => some false | _ => none
  | .iface _ _ => match y with | .nili => some false | _ => none
  | _ => none

/-- '==' by the type: structs field by field -/
def partOfD (d : TypeDesc) (n : Nat) (cs : List AV) (off : Nat) : Option AV := match dropN off cs with
  | some r => match isAggD d with
    | true => match takeN n r with | some l => some (.agg l) | none => none
    | false => match r with | x :: _ => some x | [] => none
  | none => none
noncomputable def partOf (A : AP) (t : Nat) (cs : List AV) (off : Nat) : Option AV := match A.desc t, A.size t with
  | some d, some n => partOfD d n cs off
  | _, _ => none
/-- cells that have the form of the type's kind (what '==' wants to see) -/
noncomputable def fits (A : AP) (d : TypeDesc) (x : AV) : Bool := match d with
  | .bool => match x with | .bool _ => true | _ => false
  | .int _ => match x with | .int _ _ => true | _ => false
  | .string => match x with | .str _ => true | _ => false
  | .pointer e => match x with | .nilp => true | .ptr _ _ => (match A.size e with | some (_ + 1) => true | _ => false) | _ => false
  | .slice _ => match x with | .nils => true | .sl _ _ _ _ => true | _ => false
  | .map _ _ => match x with | .map _ => true | _ => false
  | .func _ _ _ => match x with | .nilf => true | .fn _ _ _ => true | _ => false
  | .interface _ => match x with | .nili => true | .iface _ _ => true | _ => false
  | _ => false
noncomputable def eqFields (A : AP) (rec_ : Nat → AV → AV → Option Bool) (xs ys : List AV) : List Field → Option Bool
  | [] => some true
  | f :: fs => match partOf A f.type xs f.offset, partOf A f.type ys f.offset with
    | some x, some y => match rec_ f.type x y with
      | some true => eqFields A rec_ xs ys fs
      | some false => some false
      | none => none
    | _, _ => none
def noBlank : List Field → Bool
  | [] => true
  | f :: fs => match f.name == "_" with | true => false | false => noBlank fs
noncomputable def valEqS (A : AP) (ih : Nat → AV → AV → Option Bool) (t : Nat) (x y : AV) : Option Bool := match A.desc t with
  | some (.struct fs) => match x, y with
    | .agg xs, .agg ys => match A.eqs.get t with
      | some _ => match noBlank fs.toList with
        | true => eqFields A ih xs ys fs.toList
        | false => none
      | none => none
    | _, _ => none
  | some d => match fits A d x with
    | true => match fits A d y with | true => cellEq x y | false => none
    | false => none
  | none => none
noncomputable def valEq (A : AP) (n : Nat) : Nat → AV → AV → Option Bool :=
  Nat.rec (motive := fun _ => Nat → AV → AV → Option Bool) (fun _ _ _ => none) (fun _ ih => valEqS A ih) n

/-- no interface inside: '==' wants no guard -/
noncomputable def noIfaceL (f : Nat → Bool) : List Field → Bool
  | [] => true
  | x :: r => match f x.type with | true => noIfaceL f r | false => false
noncomputable def noIface (A : AP) (n : Nat) : Nat → Bool :=
  Nat.rec (motive := fun _ => Nat → Bool) (fun _ => false) (fun _ ih t => match A.desc t with
    | some (.interface _) => false
    | some (.struct fs) => noIfaceL ih fs.toList
    | some (.array _ e) => ih e
    | some _ => true
    | none => false) n
def isC : Operand → Bool
  | .const _ => true
  | _ => false
/-- what the guard of '==' asks -/
noncomputable def eqGuardOK (A : AP) (t : Nat) (x y : Operand) (a b : AV) (op : BinOp) : Bool := match op with
  | .eql => go
  | .neq => go
  | _ => true
where
  go : Bool := match a with
    | .nili => match b with
      | .nili => match isC x with | true => true | false => isC y
      | .opq _ => false
      | .unk => false
      | _ => true
    | .agg _ => noIface A 8 t
    | .opq _ => false
    | .unk => false
    | _ => true
noncomputable def eqBin (A : AP) (t : Nat) (x y : AV) : BinOp → Option AV
  | .eql => obool (valEq A 8 t x y)
  | .neq => onot (valEq A 8 t x y)
  | _ => none
def intBin (k : IntKind) (a : Int) (k' : IntKind) (b : Int) : BinOp → Option AV
  | .shl => shlOp k a b
  | .shr => shrOp k a b
  | op => if k = k' then intOp k a b op else none
def geBin (k : IntKind) (a : Int) (n : Nat) : BinOp → Option AV
  | .gtr => match k with
    | .i64 => match a with
      | .ofNat x => cond (Nat.ble x n) (some (.bool false)) none
      | .negSucc _ => none
    | _ => none
  | _ => none
noncomputable def binOp (A : AP) (t : Nat) (op : BinOp) (x y : AV) : Option AV := match x with
  | .int k a => match y with
    | .int k' b => intBin k a k' b op
    | .ge n => geBin k a n op
    | _ => none
  | .str a => match y with
    | .str b => strOp a b op
    | _ => none
  | x => eqBin A t x y op
def unOp (op : UnOp) (x : AV) : Option AV := match op with
  | .neg => match x with | .int k n => some (.int k (wrapF k (Int.sub 0 n))) | _ => none
  | .xor => match x with
    | .int k n => some (.int k (wrapF k (.ofNat <| Nat.xor (bitsOf k (if k.signed then -1 else k.max)) (bitsOf k n))))
    | _ => none
  | .not => match x with | .bool b => some (.bool !b) | _ => none
  | _ => none

def nth {α : Type} : List α → Nat → Option α
  | [], _ => none
  | x :: _, 0 => some x
  | _ :: xs, n + 1 => nth xs n

/-- an index that is right: 0 ≤ i < n -/
def idx (i : Int) (n : Nat) : Option Nat := match i with
  | .ofNat i => cond (Nat.blt i n) (some i) none
  | .negSucc _ => none
def idxLe (i : Int) (n : Nat) : Option Nat := match i with
  | .ofNat i => cond (Nat.ble i n) (some i) none
  | .negSucc _ => none

/-- how many elements a slice surely has room for -/
noncomputable def AH.sure (H : AH) (b o : Nat) : ACap → Option Nat
  | .exact n => some n
  | .upto es => match H.cells b with
    | some cs => some ((cs.length - o) / es)
    | none => none

def bound (n : Nat) (dflt : Nat) : Option AV → Option Nat
  | some (.int _ i) => idxLe i n
  | some _ => none
  | none => some dflt
def boundHi (m len : Nat) (hi mx : Option AV) : Option Nat := match hi with
  | none => match mx with
    | some _ => none
    | none => some len
  | some v => bound m len (some v)
def bounds (len cap : Nat) (lo hi mx : Option AV) : Option (Nat × Nat × Nat) :=
  match bound cap cap mx with
  | some m => match boundHi m len hi mx with
    | some h => match bound h 0 lo with
      | some l => some (l, h, m)
      | none => none
    | none => none
  | none => none

def sliceStr (s : List Nat) (lo hi mx : Option AV) : Option AV := match mx with
  | some _ => none
  | none => match bounds s.length s.length lo hi none with
    | some (l, h, _) => some (.str ((s.take h).drop l))
    | none => none
def sliceTo (b o es len c : Nat) (cap : ACap) (lo hi mx : Option AV) : Option AV := match bounds len c lo hi mx with
  | some (l, h, m) => match mx, cap with
    | none, .upto es' => cond (Nat.beq es es') (some (.sl b (o + l * es) (h - l) (.upto es))) none
    | _, _ => some (.sl b (cond (Nat.beq m l) o (o + l * es)) (h - l) (.exact (m - l)))
  | none => none
noncomputable def sliceOp (A : AP) (H : AH) (t : Nat) (x : AV) (lo hi mx : Option AV) : Option AV :=
  match A.desc t with
  | some .string => match x with
    | .str s => sliceStr s lo hi mx
    | _ => none
  | some (.slice e) => match A.size e with
    | some es => match x with
      | .nils => match bounds 0 0 lo hi mx with
        | some _ => some .nils
        | none => none
      | .sl b o len cap => match H.sure b o cap with
        | some c => sliceTo b o es len c cap lo hi mx
        | none => none
      | _ => none
    | none => none
  | some (.array n e) => match A.size e with
    | some es => match x with
      | .ptr b o => sliceTo b o es n n (.exact n) lo hi mx
      | _ => none
    | none => none
  | _ => none

noncomputable def fieldD (A : AP) (t : Nat) (f : Nat) : Option Field := match A.desc t with
  | some (.struct fs) => nth fs.toList f
  | _ => none

noncomputable def fieldAddr (A : AP) (t : Nat) (x : AV) (f : Nat) : Option AV := match fieldD A t f with
  | some fd => match x with
    | .ptr b o => match A.size fd.type with
      | some (_ + 1) => some (.ptr b (o + fd.offset))
      | _ => none
    | _ => none
  | none => none
noncomputable def field (A : AP) (t : Nat) (x : AV) (f : Nat) : Option AV := match fieldD A t f with
  | some fd => match x with
    | .agg cs => partOf A fd.type cs fd.offset
    | _ => none
  | none => none
noncomputable def idxPtr (A : AP) (b o e len : Nat) : AV → Option AV
  | .int _ i => match idx i len with
    | some i => match A.size e with
      | some es => some (.ptr b (o + i * es))
      | none => none
    | none => none
  | _ => none
noncomputable def indexAddr (A : AP) (t : Nat) (x : AV) (i : AV) : Option AV := match A.desc t with
  | some (.array n e) => match x with
    | .ptr b o => idxPtr A b o e n i
    | _ => none
  | some (.slice e) => match x with
    | .sl b o len _ => idxPtr A b o e len i
    | _ => none
  | _ => none
def strAt (s : List Nat) : AV → Option AV
  | .int _ (.ofNat i) => match nth s i with
    | some c => cond (Nat.blt c 256) (some (.int .u8 c)) none
    | none => none
  | _ => none
noncomputable def index (A : AP) (t : Nat) (x : AV) (i : AV) : Option AV := match A.desc t with
  | some (.array n e) => match x, i with
    | .agg cs, .int _ i => match idx i n with
      | some i => match A.size e with
        | some es => partOf A e cs (i * es)
        | none => none
      | none => none
    | _, _ => none
  | some .string => match x with
    | .str s => strAt s i
    | _ => none
  | _ => none

noncomputable def loadAgg (H : AH) (b o : Nat) : Option Nat → Option AV
  | some n => match H.loadN b o n with | some l => some (.agg l) | none => none
  | none => none
noncomputable def load (A : AP) (H : AH) (t : Nat) (x : AV) : Option AV := match x with
  | .ptr b o => match A.desc t with
    | some d => match isAggD d with
      | true => loadAgg H b o (A.size t)
      | false => H.load1 b o
    | none => none
  | _ => none
noncomputable def store (A : AP) (H : AH) (t : Nat) (x v : AV) : Option AH := match x with
  | .ptr b o => match A.size t with
    | some n => cond (Nat.beq v.cells.length n) (H.storeN b o v.cells) none
    | none => none
  | _ => none

def rep (z : List AV) : Nat → List AV
  | 0 => []
  | n + 1 => z ++ rep z n
def fill (place : Nat → Option (Nat × Nat)) : List AV → List (Nat × AV) → Option (List AV)
  | cells, [] => some cells
  | cells, (i, v) :: rest => match place i with
    | some (off, size) => match Nat.beq v.cells.length size with
      | true => match splice off v.cells cells with
        | some cells' => fill place cells' rest
        | none => none
      | false => none
    | none => none
noncomputable def placeS (A : AP) (fs : List Field) (i : Nat) : Option (Nat × Nat) := match nth fs i with
  | some f => match A.size f.type with | some n => some (f.offset, n) | none => none
  | none => none
def oagg : Option (List AV) → Option AV
  | some l => some (.agg l)
  | none => none
noncomputable def allSized (A : AP) : List Field → Bool
  | [] => true
  | f :: fs => match A.size f.type with | some _ => allSized A fs | none => false
noncomputable def build (A : AP) (t : Nat) (parts : List (Nat × AV)) : Option AV := match A.zero t with
  | some z => match A.desc t with
    | some (.struct fs) => match allSized A fs.toList with
      | true => oagg (fill (placeS A fs.toList) z.cells parts)
      | false => none
    | some (.array _ e) => match A.size e with
      | some es => oagg (fill (fun i => some (i * es, es)) z.cells parts)
      | none => none
    | _ => none
  | none => none

def bytesCells : List Nat → List AV
  | [] => []
  | c :: cs => .int .u8 c :: bytesCells cs
def cellsBytes : List AV → Option (List Nat)
  | [] => some []
  | .int .u8 (.ofNat c) :: r => match Nat.blt c 256 with
    | true => match cellsBytes r with | some l => some (c :: l) | none => none
    | false => none
  | _ :: _ => none

/-- the cells of the first n elements -/
noncomputable def firstCells (H : AH) (es n : Nat) : AV → Option (List AV)
  | .sl b o _ _ => H.loadN b o (n * es)
  | .nils => some []
  | .str s => cond (Nat.beq es 1) (cond (allB s) (some (bytesCells (s.take n))) none) none
  | _ => none
def lenOf : AV → Option Nat
  | .sl _ _ n _ => some n
  | .nils => some 0
  | .str s => some s.length
  | _ => none

noncomputable def appendNew (H : AH) (es len n : Nat) (old new : List AV) : Res :=
  match allOne (old ++ new) with
  | true => match H.new (.cells (old ++ new) .rwr) with
    | some (b, H') => some (.sl b 0 (len + n) (.upto es), H')
    | none => none
  | false => none
/-- an append that may be made in place, or not: the elder block goes -/
noncomputable def appendVer (H : AH) (b es len n : Nat) (old new : List AV) : Res :=
  match H.get b with
  | some (.cells _ .rwr) => appendNew (H.set b none) es len n old new
  | _ => none
noncomputable def appendGrow (H : AH) (es b o len n : Nat) (new : List AV) (cap : ACap) : Res :=
  match H.loadN b o (len * es) with
  | some old => match cap with
    | .exact _ => appendNew H es len n old new
    | .upto es' => match Nat.beq es es' with
      | true => appendVer H b es len n old new
      | false => none
  | none => none
noncomputable def appendSl (H : AH) (es b o len n : Nat) (new : List AV) (cap : ACap) : Res :=
  match H.sure b o cap with
  | some c => match Nat.ble (len + n) c with
    | true => match H.storeN b (o + len * es) new with
      | some H' => some (.sl b o (len + n) cap, H')
      | none => none
    | false => appendGrow H es b o len n new cap
  | none => none
/-- what is appended: its number of elements, and its cells -/
noncomputable def appended (A : AP) (H : AH) (e es bytes : Nat) (xt : Nat) (x : AV) : Option (Nat × List AV) :=
  match A.desc xt with
  | some (.int _) => match x with
    | .int _ (.ofNat l) => match A.zero e with
      | some z => cond (Nat.blt (l * (es + bytes)) 1000000) (some (l, rep z.cells l)) none
      | none => none
    | _ => none
  | some _ => match lenOf x with
    | some n => match firstCells H es n x with
      | some new => some (n, new)
      | none => none
    | none => none
  | none => none
/-- elements of at least one cell, whose zero value has as many -/
noncomputable def elemOK (A : AP) (e : Nat) (ei : TypeInfo) : Bool := match A.zero e with
  | some z => match Nat.beq z.cells.length ei.size with
    | true => Nat.blt 0 ei.size
    | false => false
  | none => false
noncomputable def appendTo (H : AH) (es bytes n : Nat) (new : List AV) (s : AV) : Res := match s with
  | .nils => match n with
    | 0 => some (.nils, H)
    | n + 1 => cond (Nat.blt ((n + 1) * (es + bytes)) 1000000000) (appendNew H es 0 (n + 1) [] new) none
  | .sl b o len cap => cond (Nat.blt ((len + n) * (es + bytes)) 1000000000) (appendSl H es b o len n new cap) none
  | _ => none
noncomputable def append (A : AP) (H : AH) (st xt : Nat) (s x : AV) : Res :=
  match A.desc st with
  | some (.slice e) => match A.types.get e with
    | some ei => match elemOK A e ei with
      | true => match appended A H e ei.size ei.bytes xt x with
        | some (n, new) => appendTo H ei.size ei.bytes n new s
        | none => none
      | false => none
    | none => none
  | _ => none

noncomputable def copyTo (H : AH) (b o n : Nat) : Option (List AV) → Res
  | some cs => match cs with
    | [] => some (.int .i64 n, H)
    | _ :: _ => match H.storeN b o cs with
      | some H' => some (.int .i64 n, H')
      | none => none
  | none => none
noncomputable def copyB (A : AP) (H : AH) (dt : Nat) (d s : AV) : Res :=
  match A.desc dt with
  | some (.slice e) => match A.size e with
    | some es => match lenOf s with
      | some m => match d with
        | .sl b o len _ => copyTo H b o (Nat.min m len) (firstCells H es (Nat.min m len) s)
        | .nils => some (.int .i64 0, H)
        | _ => none
      | none => none
    | none => none
  | _ => none

noncomputable def clearB (A : AP) (H : AH) (t : Nat) (x : AV) : Res :=
  match A.desc t with
  | some (.slice e) => match x with
    | .nils => some (.tup [], H)
    | .sl b o n _ => match n with
      | 0 => some (.tup [], H)
      | n + 1 => match A.zero e with
        | some z => match H.storeN b o (rep z.cells (n + 1)) with
          | some H' => some (.tup [], H')
          | none => none
        | none => none
    | _ => none
  | some (.map _ _) => match x with
    | .map none => some (.tup [], H)
    | .map (some r) => match H.get r with
      | some (.map _ clock) => some (.tup [], H.set r (some (.map [] clock)))
      | _ => none
    | _ => none
  | _ => none

def maxOf (x y : Int) : Int := cond (iLt x y) y x
def minOf (x y : Int) : Int := cond (iLt y x) y x
def minMax (f : Int → Int → Int) (x y : AV) : Option AV := match x with
  | .int k a => match y with
    | .int _ b => some (.int k (f a b))
    | _ => none
  | _ => none
def minMaxL (f : Int → Int → Int) : List AV → AV → Option AV
  | [], a => some a
  | b :: r, a => match minMax f a b with | some c => minMaxL f r c | none => none

/-- keys -/
def keyEq (d : TypeDesc) (x y : AV) : Option Bool := match d with
  | .int _ => match x with
    | .int k a => match y with | .int k' b => intEq k a k' b | _ => none
    | _ => none
  | .string => match x with
    | .str a => match y with | .str b => strEq a b | _ => none
    | _ => none
  | .bool => match x with
    | .bool a => match y with | .bool b => some (a == b) | _ => none
    | _ => none
  | _ => none
def findKey (d : TypeDesc) (k : AV) : List (AV × AV × Nat) → Option (Option AV)
  | [] => some none
  | e :: r => match keyEq d k e.1 with
    | some true => some (some e.2.1)
    | some false => findKey d k r
    | none => none
def plainKey (d : TypeDesc) (x : AV) : Bool := match d with
  | .int _ => match x with | .int _ _ => true | _ => false
  | .string => match x with | .str s => allB s | _ => false
  | .bool => match x with | .bool _ => true | _ => false
  | _ => false
def putKey (d : TypeDesc) (k v : AV) : List (AV × AV × Nat) → Option (List (AV × AV × Nat))
  | [] => none
  | e :: r => match keyEq d k e.1 with
    | some true => some ((k, v, e.2.2) :: r)
    | some false => match putKey d k v r with | some r' => some (e :: r') | none => none
    | none => none
def delKey (d : TypeDesc) (k : AV) : List (AV × AV × Nat) → Option (List (AV × AV × Nat))
  | [] => none
  | e :: r => match keyEq d k e.1 with
    | some true => some r
    | some false => match delKey d k r with | some r' => some (e :: r') | none => none
    | none => none
noncomputable def keyD (A : AP) (k : Nat) (x : AV) : Option TypeDesc := match A.desc k with
  | some kd => match plainKey kd x with | true => some kd | false => none
  | none => none
noncomputable def mapAt (H : AH) (r : Nat) : Option (List (AV × AV × Nat) × Nat) := match H.get r with
  | some (.map es clock) => some (es, clock)
  | _ => none
def found (ok : Bool) (v : AV) (is : Bool) : AV := match ok with | true => .tup [v, .bool is] | false => v
noncomputable def lookIn (A : AP) (kd : TypeDesc) (e : Nat) (k : AV) (ok : Bool) (es : List (AV × AV × Nat)) : Option AV :=
  match findKey kd k es with
  | some (some v) => some (found ok v true)
  | some none => match A.zero e with
    | some z => some (found ok z false)
    | none => none
  | none => none
noncomputable def lookup (A : AP) (H : AH) (t : Nat) (x k : AV) (ok : Bool) : Option AV :=
  match A.desc t with
  | some (.map kt e) => match keyD A kt k with
    | some kd => match x with
      | .map none => lookIn A kd e k ok []
      | .map (some r) => match mapAt H r with
        | some (es, _) => lookIn A kd e k ok es
        | none => none
      | _ => none
    | none => none
  | _ => none
noncomputable def putIn (H : AH) (r : Nat) (kd : TypeDesc) (k v : AV) (es : List (AV × AV × Nat)) (clock : Nat) : Option AH :=
  match findKey kd k es with
  | some (some _) => match putKey kd k v es with
    | some es' => some (H.set r (some (.map es' clock)))
    | none => none
  | some none => some (H.set r (some (.map (es ++ [(k, v, clock)]) (clock + 1))))
  | none => none
noncomputable def mapUpdate (A : AP) (H : AH) (t : Nat) (x k v : AV) : Option AH :=
  match A.desc t with
  | some (.map kt _) => match keyD A kt k with
    | some kd => match x with
      | .map (some r) => match mapAt H r with
        | some (es, clock) => putIn H r kd k v es clock
        | none => none
      | _ => none
    | none => none
  | _ => none
noncomputable def deleteB (A : AP) (H : AH) (t : Nat) (x k : AV) : Option AH :=
  match A.desc t with
  | some (.map kt _) => match keyD A kt k with
    | some kd => match x with
      | .map none => some H
      | .map (some r) => match mapAt H r with
        | some (es, clock) => match findKey kd k es with
          | some (some _) => match delKey kd k es with
            | some es' => some (H.set r (some (.map es' clock)))
            | none => none
          | some none => some H
          | none => none
        | none => none
      | _ => none
    | none => none
  | _ => none

noncomputable def lenB (A : AP) (H : AH) (t : Nat) (x : AV) : Option AV := match A.desc t with
  | some .string => match x with | .str s => some (.int .i64 s.length) | _ => none
  | some (.array n _) => some (.int .i64 n)
  | some (.slice _) => match x with
    | .sl _ _ n _ => some (.int .i64 n)
    | .nils => some (.int .i64 0)
    | _ => none
  | some (.map _ _) => match x with
    | .map none => some (.int .i64 0)
    | .map (some r) => match mapAt H r with
      | some (es, _) => some (.int .i64 es.length)
      | none => none
    | _ => none
  | _ => none
noncomputable def capB (A : AP) (H : AH) (t : Nat) (x : AV) : Option AV := match A.desc t with
  | some (.slice _) => match x with
    | .sl _ _ _ (.exact n) => some (.int .i64 n)
    | .sl b o _ (.upto es) => match H.sure b o (.upto es) with
      | some c => some (.ge c)
      | none => none
    | .nils => some (.int .i64 0)
    | _ => none
  | _ => none

def pureRes (H : AH) : Option AV → Res
  | some v => some (v, H)
  | none => none
def unitRes : Option AH → Res
  | some H => some (.tup [], H)
  | none => none

noncomputable def bLen (A : AP) (H : AH) : List Nat → List AV → Res
  | t :: _, x :: _ => pureRes H (lenB A H t x)
  | _, _ => none
noncomputable def bCap (A : AP) (H : AH) : List Nat → List AV → Res
  | t :: _, x :: _ => pureRes H (capB A H t x)
  | _, _ => none
noncomputable def bAppend (A : AP) (H : AH) : List Nat → List AV → Res
  | [st, xt], [s, x] => append A H st xt s x
  | _, _ => none
noncomputable def bCopy (A : AP) (H : AH) : List Nat → List AV → Res
  | dt :: _, d :: s :: _ => copyB A H dt d s
  | _, _ => none
noncomputable def bClear (A : AP) (H : AH) : List Nat → List AV → Res
  | t :: _, x :: _ => clearB A H t x
  | _, _ => none
noncomputable def bDelete (A : AP) (H : AH) : List Nat → List AV → Res
  | t :: _, x :: k :: _ => unitRes (deleteB A H t x k)
  | _, _ => none
def bMin (H : AH) : List AV → Res
  | a :: r => pureRes H (minMaxL minOf r a)
  | [] => none
def bMax (H : AH) : List AV → Res
  | a :: r => pureRes H (minMaxL maxOf r a)
  | [] => none
noncomputable def builtin (A : AP) (H : AH) (ts : List Nat) (args : List AV) : Builtin → Res
  | .append => bAppend A H ts args
  | .len => bLen A H ts args
  | .cap => bCap A H ts args
  | .copy => bCopy A H ts args
  | .clear => bClear A H ts args
  | .delete => bDelete A H ts args
  | .min => bMin H args
  | .max => bMax H args
  | _ => none

noncomputable def strToBytes (A : AP) (H : AH) (e : Nat) (s : List Nat) : Res := match A.desc e with
  | some (.int .u8) => match allB s with
    | true => match Nat.blt s.length 1000000000 with
      | true => match H.new (.cells (bytesCells s) .mrk) with
        | some (b, H') => some (.sl b 0 s.length (.upto 1), H')
        | none => none
      | false => none
    | false => none
  | _ => none
noncomputable def bytesToStr (A : AP) (H : AH) (e : Nat) (x : AV) : Res := match A.desc e with
  | some (.int .u8) => match x with
    | .nils => some (.str [], H)
    | .sl b o len _ => match H.loadN b o len with
      | some cs => match cellsBytes cs with
        | some l => some (.str l, H)
        | none => none
      | none => none
    | _ => none
  | _ => none
noncomputable def convert (A : AP) (H : AH) (src dst : Nat) (x : AV) : Res := match A.desc src with
  | some ds => match A.desc dst with
    | some (.int k) => match x with
      | .int _ n => match ds with
        | .int _ => some (.int k (wrapF k n), H)
        | _ => none
      | _ => none
    | some .string => match ds with
      | .string => match x with
        | .str s => some (.str s, H)
        | _ => none
      | .slice e => bytesToStr A H e x
      | _ => none
    | some (.slice e) => match ds with
      | .string => match x with
        | .str s => strToBytes A H e s
        | _ => none
      | _ => none
    | _ => none
  | none => none

noncomputable def makeSl (H : AH) (z : List AV) (es bytes : Nat) (l c : AV) : Res := match l with
  | .int _ (.ofNat l) => match c with
    | .int _ (.ofNat c) => match Nat.ble l c with
      | true => match Nat.blt (c * (es + bytes)) 1000000 with
        | true => match H.new (.cells (rep z c) .rwr) with
          | some (b, H') => some (.sl b 0 l (.exact c), H')
          | none => none
        | false => none
      | false => none
    | _ => none
  | _ => none
noncomputable def makeSlice (A : AP) (H : AH) (t : Nat) (l c : AV) : Res :=
  match A.desc t with
  | some (.slice e) => match A.types.get e with
    | some ei => match elemOK A e ei with
      | true => match A.zero e with
        | some z => makeSl H z.cells ei.size ei.bytes l c
        | none => none
      | false => none
    | none => none
  | _ => none

noncomputable def nextStr (H : AH) (b : Nat) (s : List Nat) (pos : Nat) : Res := match dropN pos s with
  | some (c :: _) => match Nat.blt c 128 with
    | true => some (.tup [.bool true, .int .i64 pos, .int .i32 c], H.set b (some (.strIter s (pos + 1))))
    | false => none
  | some [] => some (.tup [.bool false], H)
  | none => none
def unseen (seen : List Nat) : List (AV × AV × Nat) → List (AV × AV × Nat)
  | [] => []
  | e :: es => match seen.any (fun s => Nat.beq s e.2.2) with
    | true => unseen seen es
    | false => e :: unseen seen es
def anyOlder (last : Nat) : List (AV × AV × Nat) → Bool
  | [] => false
  | e :: es => cond (Nat.blt e.2.2 last) true (anyOlder last es)
noncomputable def nextMap (H : AH) (b r since : Nat) (seen : List Nat) (last : Nat) : Res := match mapAt H r with
  | some (es, clock) => match unseen seen es with
    | [] => match es with
      | [] => some (.tup [.bool false], H)
      | _ :: _ => cond (anyOlder last es) (some (.tup [.bool false], H)) none
    | [e] => match seen with
      | [] => match Nat.blt e.2.2 since with
        | true => some (.tup [.bool true, e.1, e.2.1], H.set b (some (.mapIter (some r) since [e.2.2] clock)))
        | false => none
      | _ :: _ => none
    | _ => none
  | none => none
noncomputable def next (H : AH) (it : AV) (isStr : Bool) : Res := match it with
  | .ptr b 0 => match H.get b with
    | some (.strIter s pos) => match isStr with
      | true => nextStr H b s pos
      | false => none
    | some (.mapIter none _ _ _) => match isStr with
      | false => some (.tup [.bool false], H)
      | true => none
    | some (.mapIter (some r) since seen last) => match isStr with
      | false => nextMap H b r since seen last
      | true => none
    | _ => none
  | _ => none
end Go.AM
