/- A part of the proof of: The law FnExactCtlJobAsks returns true, and its arguments read as before, for all arguments whose reading is together of bulk at most 1048576 (values and letters). -/
import GoSem.Core.Code
import GoSem.Core.Layout
import GoSem.Op.String
import Derived.Calls
import Derived.Laws.AppendOwn
import Derived.Laws.MakeOwn
import Derived.Laws.Slices
import Derived.Laws.Strings
set_option linter.all false
set_option linter.unusedSimpArgs false
set_option linter.unusedVariables false
section
namespace Go.HT

inductive Knd | own | sh | bo
  deriving DecidableEq

/-- Trees: what a cell may hold. -/
inductive Tr (G : Type)
  | undef
  | int (k : IntKind) (n : Int)
  | bool (b : Bool)
  | str (s : List UInt8)
  | sl (κ : Knd) (g : G) (w : Nat) (rows : List (List (Tr G)))

structure Place where
  root : Nat
  st : List (Nat × Nat)
  off : Nat

/-- What a slot may hold. -/
inductive AV (G : Type)
  | tr (t : Tr G)
  | agg (cs : List (AV G))
  | tup (vs : List (AV G))
  | ref (q : Place) (lo n : Nat) (cp : Bool) (g : G)
  | ptr (q : Place) (g : G)
  | psh (row : List (Tr G)) (o : Nat) (g : G)
  | fn (f : FuncId) (caps : List (AV G))
  | ifc (t : TypeId) (v : AV G)

inductive Ent (G : Type)
  | tmp (v : AV G)
  | box (g : G) (cs : List (AV G))
  | vir (t : Tr G)

abbrev St (G : Type) := List (Nat × Ent G)

class HdO (G : Type) where
  nil : G
  sub : G → (lo w n : Nat) → Option Nat → G
  at_ : G → Nat → G
instance : HdO Unit := ⟨(), fun _ _ _ _ _ => (), fun _ _ => ()⟩

section poly
variable {G : Type} [HdO G]

def look : St G → Nat → Option (Ent G)
  | [], _ => none
  | (k, e) :: r, d => if k = d then some e else look r d
def put : St G → Nat → Ent G → St G
  | [], d, e => [(d, e)]
  | (k, e') :: r, d, e => if k = d then (d, e) :: r else if d < k then (d, e) :: (k, e') :: r else (k, e') :: put r d e

def stepRow (cs : List (AV G)) : List (Nat × Nat) → Option (List (AV G))
  | [] => some cs
  | (o, i) :: r => match cs[o]? with
    | some (.tr (.sl .own _ _ rows)) => match rows[i]? with
      | some row => stepRow (row.map .tr) r
      | none => none
    | _ => none
def Ent.cells : Ent G → List (AV G)
  | .box _ cs => cs
  | .tmp (.agg cs) => cs
  | .tmp v => [v]
  | .vir t => [.tr t]
def rowOf (S : St G) (r : Nat) (st : List (Nat × Nat)) : Option (List (AV G)) :=
  match look S r with
  | some e => stepRow e.cells st
  | none => none
def getC (S : St G) (q : Place) : Option (AV G) :=
  match rowOf S q.root q.st with
  | some row => row[q.off]?
  | none => none

def setRowT (row : List (Tr G)) : List (Nat × Nat) → Nat → Tr G → Option (List (Tr G))
  | [], off, c => if off < row.length then some (row.set off c) else none
  | (o, i) :: r, off, c => match row[o]? with
    | some (.sl .own g w rows) => match rows[i]? with
      | some row' => match setRowT row' r off c with
        | some row2 => some (row.set o (.sl .own g w (rows.set i row2)))
        | none => none
      | none => none
    | _ => none
def setRowA (cs : List (AV G)) : List (Nat × Nat) → Nat → AV G → Option (List (AV G))
  | [], off, c => if off < cs.length then some (cs.set off c) else none
  | (o, i) :: r, off, c => match cs[o]? with
    | some (.tr (.sl .own g w rows)) => match rows[i]? with
      | some row' => match c with
        | .tr t => match setRowT row' r off t with
          | some row2 => some (cs.set o (.tr (.sl .own g w (rows.set i row2))))
          | none => none
        | _ => none
      | none => none
    | _ => none
def Ent.set : Ent G → List (Nat × Nat) → Nat → AV G → Option (Ent G)
  | .box g cs, st, off, c => match setRowA cs st off c with
    | some cs' => some (.box g cs')
    | none => none
  | .tmp (.agg cs), st, off, c => match setRowA cs st off c with
    | some cs' => some (.tmp (.agg cs'))
    | none => none
  | .tmp v, st, off, c => match setRowA [v] st off c with
    | some [v'] => some (.tmp v')
    | _ => none
  | .vir t, st, off, c => match setRowA [.tr t] st off c with
    | some [.tr t'] => some (.vir t')
    | _ => none
def setC (S : St G) (q : Place) (c : AV G) : Option (St G) :=
  match look S q.root with
  | some e => match e.set q.st q.off c with
    | some e' => some (put S q.root e')
    | none => none
  | none => none

def Place.chain (q : Place) : List Nat := q.st.map (·.1)
/-- Does a place lie behind the header at 'pl' (the indexes are not looked at)? -/
def thru (pl q : Place) : Bool := q.root == pl.root && (pl.chain ++ [pl.off]).isPrefixOf q.chain
def same (pl q : Place) : Bool := q.root == pl.root && q.off == pl.off && pl.chain == q.chain
mutual
def poiA (bad : Place → Bool → Bool) : AV G → AV G
  | .ref q lo n cp g => if bad q true then .tr .undef else .ref q lo n cp g
  | .ptr q g => if bad q false then .tr .undef else .ptr q g
  | .agg cs => .agg (poiL bad cs)
  | .tup cs => .tup (poiL bad cs)
  | .fn f cs => .fn f (poiL bad cs)
  | .ifc t v => .ifc t (poiA bad v)
  | v => v
def poiL (bad : Place → Bool → Bool) : List (AV G) → List (AV G)
  | [] => []
  | v :: r => poiA bad v :: poiL bad r
end
def Ent.poi (bad : Place → Bool → Bool) : Ent G → Ent G
  | .tmp v => .tmp (poiA bad v)
  | .box g cs => .box g (poiL bad cs)
  | .vir t => .vir t
def poi (bad : Place → Bool → Bool) : St G → St G
  | [] => []
  | (k, e) :: r => (k, e.poi bad) :: poi bad r
def badAt (pl : Place) (q : Place) (isRef : Bool) : Bool := thru pl q || (isRef && same pl q)
def badRoot (d : Nat) (q : Place) (_ : Bool) : Bool := q.root == d

/-- A cell seen from its place: what is owned there is only referred to. -/
def asRef (q : Place) : AV G → AV G
  | .tr (.sl .own g _ rows) => .ref q 0 rows.length false g
  | .agg _ => .tr .undef
  | .tup _ => .tr .undef
  | v => v
def asRefs (r : Nat) (st : List (Nat × Nat)) : Nat → List (AV G) → List (AV G)
  | _, [] => []
  | o, c :: cs => asRef ⟨r, st, o⟩ c :: asRefs r st (o + 1) cs
def bor (d : Nat) : AV G → AV G
  | .agg cs => .agg (asRefs d [] 0 cs)
  | v => asRef ⟨d, [], 0⟩ v

mutual
def boT : Tr G → Tr G
  | .sl κ g w rows => .sl (if κ = .own then .bo else κ) g w (boRows rows)
  | t => t
def boRow : List (Tr G) → List (Tr G)
  | [] => []
  | t :: r => boT t :: boRow r
def boRows : List (List (Tr G)) → List (List (Tr G))
  | [] => []
  | t :: r => boRow t :: boRows r
end
end poly
end Go.HT
end
section
namespace Go.HT
open Go

abbrev UT := Tr Unit
abbrev UV := AV Unit
abbrev UE := Ent Unit
abbrev US := St Unit

section
variable (P : Program)

def szOf (t : TypeId) : Nat := match P.info? t with | some i => i.size | none => 0
def bytesOf (t : TypeId) : Nat := match P.info? t with | some i => i.bytes | none => 0
def aggB (t : TypeId) : Bool := match P.underlying t with | some (.struct _) => true | some (.array _ _) => true | _ => false
def elemOf (t : TypeId) : TypeId := match P.underlying t with | some (.slice e) => e | some (.array _ e) => e | some (.pointer e) => e | _ => 0
def fieldOf (t : TypeId) (f : Nat) : Option (Nat × TypeId) := match P.underlying t with | some (.struct fs) => (fs[f]?).map fun x => (x.offset, x.type) | _ => none
def arrB (t : TypeId) : Bool := match P.underlying t with | some (.array _ _) => true | _ => false
def arrLen (t : TypeId) : Nat := match P.underlying t with | some (.array n _) => n | _ => 0
def zeroTr : Nat → TypeId → List UT
  | 0, _ => []
  | n + 1, t => match P.underlying t with
    | some (.int k) => [.int k 0]
    | some .bool => [.bool false]
    | some .string => [.str []]
    | some (.slice e) => [.sl .own () (szOf P e) []]
    | some (.struct fs) => fs.toList.flatMap fun f => zeroTr n f.type
    | some (.array m e) => (List.replicate m (zeroTr n e)).flatten
    | _ => [.undef]
def zeroOf (t : TypeId) : List UT := zeroTr P 12 t
def Tr.flat : UT → Bool
  | .sl .. => false
  | _ => true
def flatB (t : TypeId) : Bool := (zeroOf P t).all Tr.flat

def isZ : Value → UT → Bool
  | .int k n, .int k' m => decide (k = k') && decide (n = m)
  | .bool a, .bool b => a == b
  | .string s, .str l => decide (s.data.toList = l)
  | .slice none 0 0, .sl .own _ _ [] => true
  | _, _ => false
def allZ : List Value → List UT → Bool
  | [], [] => true
  | v :: r, t :: s => isZ v t && allZ r s
  | _, _ => false
/-- The program knows this type, and its zero. -/
def tyOk (t : TypeId) : Bool := match P.info? t with
  | some i => (match i.zero with
    | some z => allZ z.cells.toList (zeroOf P t) && decide (i.size = (zeroOf P t).length) && decide (0 < i.size) && (P.underlying t).isSome && (aggB P t == (match z with | .agg _ => true | _ => false))
    | none => false)
  | none => false
def slOk (t : TypeId) : Bool := match P.underlying t with | some (.slice e) => tyOk P e | _ => false
def boolOk (t : TypeId) : Bool := match P.underlying t with | some .bool => true | _ => false
/-- A type of values that an interface may hold. -/
def ifcOk (t : TypeId) : Bool := match P.underlying t with | some (.interface _) => false | some _ => true | none => false
def strOk (t : TypeId) : Bool := match P.underlying t with | some .string => true | _ => false
/-- A constant, at its type. -/
def evC (t : TypeId) : Value → Option UV
  | .int k n => some (.tr (.int k n))
  | .bool b => some (.tr (.bool b))
  | .string s => some (.tr (.str s.data.toList))
  | .slice none 0 0 => some (.tr (.sl .own () (szOf P (elemOf P t)) []))
  | .agg cs => if allZ cs.toList (zeroOf P t) then some (.agg ((zeroOf P t).map .tr)) else none
  | _ => none
def ev (S : US) (t : TypeId) : Operand → Option UV
  | .tmp d => match look S d with
    | some (.tmp v) => some v
    | some (.box g _) => some (.ptr ⟨d, [], 0⟩ g)
    | _ => none
  | .const v => evC P t v
  | .func f => some (.fn f [])
  | .global _ => none
mutual
/-- Is what a slot holds owned there (and so moved when it is used up)? -/
def ownV : UV → Bool
  | .tr (.sl .own _ _ _) => true
  | .agg cs => ownL cs
  | .tup _ => true
  | _ => false
def ownL : List UV → Bool
  | [] => false
  | v :: r => ownV v || ownL r
end
/-- Can no place lie in what a slot holds? -/
def scalarE : Option UE → Bool
  | none => true
  | some (.tmp (.tr (.sl .own _ _ _))) => false
  | some (.tmp (.agg _)) => false
  | some (.tmp _) => true
  | _ => false
def putP (S : US) (d : Nat) (e : UE) : US := if scalarE (look S d) then put S d e else put (poi (badRoot d) S) d (e.poi (badRoot d))
def putO (S : US) (d : Option Nat) (v : UV) : US := match d with
  | some d => putP S d (.tmp v)
  | none => S
def noBad (_ : Place) (_ : Bool) : Bool := false
/-- An operand, used up: what its slot owned is given up. -/
def evU (S : US) (t : TypeId) (x : Operand) : Option (UV × US × (Place → Bool → Bool)) := match ev P S t x with
  | some v => match x with
    | .tmp d => if ownV v then some (poiA (badRoot d) v, putP S d (.tmp (.tr .undef)), badRoot d) else some (v, S, noBad)
    | _ => some (v, S, noBad)
  | none => none

/-- What lies at a place is taken away from it. -/
def take (S : US) (q : Place) : Option US := setC (poi (badAt q) S) q (.tr .undef)
/-- Cells to be laid down: what is referred to is taken from where it lies. -/
def resolve : US → List UV → Option (List UT × US)
  | S, [] => some ([], S)
  | S, c :: r => match c with
    | .tr t => (match resolve S r with
      | some (cs, S2) => some (t :: cs, S2)
      | none => none)
    | .ref q lo n cp _ => (match getC S q with
      | some (.tr (.sl .own g w rows)) => if lo = 0 ∧ n = rows.length ∧ cp = false then
          (match take S q with
          | some S1 => (match resolve S1 r with
            | some (cs, S2) => some (.sl .own g w rows :: cs, S2)
            | none => none)
          | none => none)
        else none
      | _ => none)
    | _ => none
def cellsOf : UV → List UV
  | .agg cs => cs
  | v => [v]
/-- The cells of an operand, used up: trees. -/
def cellsUsed (S : US) (t : TypeId) (x : Operand) : Option (List UT × US) := match evU P S t x with
  | some (v, S1, _) => resolve S1 (cellsOf v)
  | none => none

/-- Cells laid down, one by one. -/
def setCs (r : Nat) (st : List (Nat × Nat)) : (Place → Bool → Bool) → US → List UV → Nat → Option US
  | _, S, [], _ => some S
  | bad, S, c :: cs, o => match getC S ⟨r, st, o⟩ with
    | some (.tr (.sl .own _ _ _)) => match setC (poi (badAt ⟨r, st, o⟩) S) ⟨r, st, o⟩ (poiA (fun q b => bad q b || badAt ⟨r, st, o⟩ q b) c) with
      | some S1 => setCs r st (fun q b => bad q b || badAt ⟨r, st, o⟩ q b) S1 cs (o + 1)
      | none => none
    | some _ => match setC S ⟨r, st, o⟩ (poiA bad c) with
      | some S1 => setCs r st bad S1 cs (o + 1)
      | none => none
    | none => none
def inR (k : IntKind) (n : Int) : Prop := k.min ≤ n ∧ n ≤ k.max
def strLt (a b : List UInt8) : Bool := Op.bytesLess a b

/-- A state, shut: what is said of shut states alone is not looked into under a binder. -/
structure W where
  s : US
/-- The result of an operation, and what it asks. -/
abbrev Res := Option (Prop × W)
def ret1 (S : US) (d : Option Nat) (v : UV) : Res := some (True, ⟨putO S d v⟩)
def retIf (p : Prop) (S : US) (d : Option Nat) (v : UV) : Res := some (p, ⟨putO S d v⟩)

def xorI (k : IntKind) (a b : Int) : Int := k.wrap ((BitVec.ofInt k.bits a ^^^ BitVec.ofInt k.bits b).toNat)
def binI (op : BinOp) (k : IntKind) (a b : Int) : Option (Prop × UT) := match op with
  | .add => some (inR k (a + b), .int k (a + b))
  | .sub => some (inR k (a - b), .int k (a - b))
  | .mul => some (inR k (a * b), .int k (a * b))
  | .quo => some (0 ≤ a ∧ 0 < b ∧ inR k a, .int k (a / b))
  | .rem => some (0 ≤ a ∧ 0 < b, .int k (a % b))
  | .xor => some (True, .int k (xorI k a b))
  | .eql => some (True, .bool (decide (a = b)))
  | .neq => some (True, .bool (!decide (a = b)))
  | .lss => some (True, .bool (decide (a < b)))
  | .leq => some (True, .bool (decide (a ≤ b)))
  | .gtr => some (True, .bool (decide (b < a)))
  | .geq => some (True, .bool (decide (b ≤ a)))
  | _ => none
def binS (op : BinOp) (a b : List UInt8) : Option (Prop × UT) := match op with
  | .add => some (a.length + b.length ≤ 140737488355328, .str (a ++ b))
  | .eql => some (True, .bool (decide (a = b)))
  | .neq => some (True, .bool (!decide (a = b)))
  | .lss => some (True, .bool (strLt a b))
  | .leq => some (True, .bool (strLt a b || decide (a = b)))
  | .gtr => some (True, .bool (!(strLt a b || decide (a = b))))
  | .geq => some (True, .bool (!strLt a b))
  | _ => none
def bin (op : BinOp) (t : TypeId) (x y : UV) : Option (Prop × UT) := match x, y with
  | .tr (.int k a), .tr (.int k' b) => (match binI op k a b with
    | some (p, v) => some (k = k' ∧ p, v)
    | none => none)
  | .tr (.str a), .tr (.str b) => binS op a b
  | .tr (.bool a), .tr (.bool b) => (match op with
    | .eql => some (boolOk P t = true, .bool (a == b))
    | .neq => some (boolOk P t = true, .bool (!(a == b)))
    | _ => none)
  | _, _ => none

/-- A slice's rows, read. -/
def rowsOf (S : US) : UV → Option (List (List UT))
  | .tr (.sl _ _ _ rows) => some rows
  | .ref q lo n _ _ => match getC S q with
    | some (.tr (.sl .own _ _ rows)) => some ((rows.drop lo).take n)
    | _ => none
  | _ => none
def lenOf (_S : US) (t : TypeId) : UV → Option (Prop × Int)
  | .tr (.sl _ _ _ rows) => some (slOk P t = true, rows.length)
  | .ref _ _ n _ _ => some (slOk P t = true, n)
  | .tr (.str s) => some (strOk P t = true ∧ s.length ≤ 9223372036854775807, s.length)
  | _ => none

def fillAt {α : Type} (cells : List α) (o : Nat) : List α → List α
  | [] => cells
  | c :: r => fillAt (cells.set o c) (o + 1) r
/-- May this cell be stored? -/
def storable : List UV → Bool
  | [] => true
  | .tr .undef :: _ => false
  | .agg _ :: _ => false
  | .tup _ :: _ => false
  | _ :: r => storable r
def fill (place : Nat → Option (Nat × TypeId)) : US → List UV → List (Nat × Operand) → Option (List UV × US)
  | S, cells, [] => some (cells, S)
  | S, cells, (i, x) :: r => match place i with
    | some (o, t) => match evU P S t x with
      | some (v, S1, bad) => if storable (cellsOf v) = true ∧ (cellsOf v).length = szOf P t ∧ o + szOf P t ≤ cells.length then fill place S1 (fillAt (poiL bad cells) o (cellsOf v)) r else none
      | none => none
    | none => none
def chunk (w : Nat) : Nat → List UT → List (List UT)
  | 0, _ => []
  | n + 1, l => l.take w :: chunk w n (l.drop w)
def optNat : Option UV → Option (Option Int)
  | none => some none
  | some (.tr (.int _ n)) => some (some n)
  | _ => none
def evO (S : US) (x : Option Operand) : Option (Option UV) := match x with
  | none => some none
  | some x => match ev P S 0 x with | some v => some (some v) | none => none

/-- Rows of an owned slice are taken away from it. -/
def takeRows (S : US) (q : Place) (lo n : Nat) : Option US := match getC S q with
  | some (.tr (.sl .own g w rows)) => setC (poi (fun q2 _ => thru q q2) S) q (.tr (.sl .own g w (rows.take lo ++ (List.replicate n (List.replicate w .undef) ++ rows.drop (lo + n)))))
  | _ => none
def flatRows (rows : List (List UT)) : Bool := rows.all fun row => row.all Tr.flat
/-- The rows that 'append' takes up, and the state behind it; what it asks; is the base only read? -/
def rowsUsed (S : US) (t : TypeId) (x : Operand) (base : Bool) : Option (Prop × Bool × List (List UT) × US) := match evU P S t x with
  | some (v, S1, _) => match v with
    | .tr (.sl κ _ w rows) => (match κ with
      | .own => some (w = szOf P (elemOf P t), false, rows, S1)
      | _ => if base then none else some (w = szOf P (elemOf P t), false, rows, S1))
    | .ref q lo n cp _ => (match getC S1 q with
      | some (.tr (.sl .own _ w rows)) =>
        if base && !cp then (match take S1 q with | some S2 => some (lo = 0 ∧ n = rows.length ∧ w = szOf P (elemOf P t), false, rows, S2) | none => none)
        else if flatB P (elemOf P t) then some (w = szOf P (elemOf P t) ∧ flatRows ((rows.drop lo).take n) = true, base, (rows.drop lo).take n, S1)
          else (match takeRows S1 q lo n with | some S2 => some (w = szOf P (elemOf P t), base, (rows.drop lo).take n, S2) | none => none)
      | _ => none)
    | _ => none
  | none => none

def xMove (S : US) (o : Oper) (x : Operand) : Res := match ev P S o.type x with
  | some v => match x with
    | .tmp d => (match v with
      | .tup _ => (match evU P S o.type x with
        | some (v, S1, _) => ret1 S1 o.dst v
        | none => none)
      | _ => ret1 S o.dst (bor d v))
    | _ => ret1 S o.dst v
  | none => none
/-- Is this the very slice that lies there? -/
def selfB (S : US) (d : Option Nat) (v : UV) : Bool := match d, v with
  | some d, .ref q lo n cp _ => decide (q.root = d ∧ q.st = [] ∧ q.off = 0 ∧ lo = 0 ∧ cp = false) && (match look S d with
    | some (.tmp (.tr (.sl .own _ _ rows))) => decide (n = rows.length)
    | _ => false)
  | _, _ => false
def xAssign (S : US) (o : Oper) (x : Operand) : Res := match evU P S o.type x with
  | some (v, S1, _) => if selfB S o.dst v = true then some (True, ⟨S⟩) else ret1 S1 o.dst v
  | none => none
def xPick (S : US) (o : Oper) (c a b : Operand) : Res := match ev P S o.type c with
  | some (.tr (.bool c)) => match c with
    | true => (match ev P S o.type a with
      | some v => if ownV v then none else ret1 S o.dst v
      | none => none)
    | false => (match ev P S o.type b with
      | some v => if ownV v then none else ret1 S o.dst v
      | none => none)
  | _ => none
def xAlloc (S : US) (d : Option Nat) (e : TypeId) : Res := match d with
  | some d => some (tyOk P e = true, ⟨putP S d (.box () ((zeroOf P e).map .tr))⟩)
  | none => none
def xBox (S : US) (d : Option Nat) (e : TypeId) (x : Operand) : Res := match d, evU P S e x with
  | some d, some (v, S1, _) => if storable (cellsOf v) then some ((cellsOf v).length = szOf P e, ⟨putP S1 d (.box () (cellsOf v))⟩) else none
  | _, _ => none
def xLoad (S : US) (d : Option Nat) (t : TypeId) (x : Operand) : Res := match ev P S 0 x with
  | some (.ptr q _) => match rowOf S q.root q.st with
    | some row => if aggB P t then some (tyOk P t = true ∧ q.off + szOf P t ≤ row.length, ⟨putO S d (.agg (asRefs q.root q.st q.off ((row.drop q.off).take (szOf P t))))⟩)
      else (match row[q.off]? with
        | some c => retIf (tyOk P t = true) S d (asRef q c)
        | none => none)
    | none => none
  | some (.psh row i _) => if aggB P t then some (tyOk P t = true ∧ i + szOf P t ≤ row.length, ⟨putO S d (.agg (((row.drop i).take (szOf P t)).map .tr))⟩)
      else (match row[i]? with
        | some c => retIf (tyOk P t = true) S d (.tr c)
        | none => none)
  | _ => none
def xStore (br : Nat → Bool) (S : US) (t : TypeId) (x y : Operand) : Res := match ev P S 0 x with
  | some (.ptr q _) => match (if q.st = [] ∧ br q.root = true then (match evU P S t y with
      | some (v, S1, _) => some (cellsOf v, S1)
      | none => none) else (match cellsUsed P S t y with
      | some (ts, S1) => some (ts.map .tr, S1)
      | none => none)) with
    | some (cs, S1) => if storable cs then (match setCs q.root q.st noBad S1 cs q.off with
      | some S2 => some (tyOk P t = true ∧ cs.length = szOf P t, ⟨S2⟩)
      | none => none) else none
    | none => none
  | _ => none
def xNil (S : US) (d : Option Nat) (x : Operand) : Res := match ev P S 0 x with
  | some (.ptr q g) => ret1 S d (.ptr q g)
  | some (.psh r i g) => ret1 S d (.psh r i g)
  | _ => none
def xBin (S : US) (d : Option Nat) (op : BinOp) (t : TypeId) (x y : Operand) : Res := match ev P S t x, ev P S t y with
  | some a, some b => match bin P op t a b with
    | some (p, v) => retIf p S d (.tr v)
    | none => none
  | _, _ => none
def xUn (S : US) (d : Option Nat) (op : UnOp) (x : Operand) : Res := match op with
  | .not => (match ev P S 0 x with
    | some (.tr (.bool b)) => ret1 S d (.tr (.bool !b))
    | _ => none)
  | .neg => (match ev P S 0 x with
    | some (.tr (.int k n)) => retIf (inR k (-n)) S d (.tr (.int k (-n)))
    | _ => none)
  | _ => none
def xField (S : US) (d : Option Nat) (t : TypeId) (x : Operand) (f : Nat) : Res := match ev P S 0 x, fieldOf P t f with
  | some v, some (k, ft) => match v with
    | .ptr q g => retIf (tyOk P ft = true) S d (.ptr ⟨q.root, q.st, q.off + k⟩ (HdO.at_ g k))
    | .psh r i g => retIf (tyOk P ft = true) S d (.psh r (i + k) (HdO.at_ g k))
    | _ => none
  | _, _ => none
def xIndexAddr (S : US) (d : Option Nat) (t : TypeId) (x i : Operand) : Res := match ev P S 0 x, ev P S 0 i with
  | some v, some (.tr (.int _ n)) => match v with
    | .ref q lo m _ _ => (match getC S q with
      | some (.tr (.sl .own _ w _)) => retIf (slOk P t = true ∧ w = szOf P (elemOf P t) ∧ 0 ≤ n ∧ n < m) S d (.ptr ⟨q.root, q.st ++ [(q.off, lo + n.toNat)], 0⟩ ())
      | _ => none)
    | .tr (.sl κ _ w rows) => (match κ with
      | .own => (match x with
        | .tmp s => retIf (slOk P t = true ∧ w = szOf P (elemOf P t) ∧ 0 ≤ n ∧ n < rows.length) S d (.ptr ⟨s, [(0, n.toNat)], 0⟩ ())
        | _ => none)
      | _ => retIf (slOk P t = true ∧ w = szOf P (elemOf P t) ∧ 0 ≤ n ∧ n < rows.length) S d (.psh (rows.getD n.toNat []) 0 ()))
    | .ptr q _ => if arrB P t then retIf (tyOk P (elemOf P t) = true ∧ 1 < arrLen P t ∧ 0 ≤ n ∧ n < arrLen P t) S d (.ptr ⟨q.root, q.st, q.off + n.toNat * szOf P (elemOf P t)⟩ ()) else none
    | .psh r j _ => if arrB P t then retIf (tyOk P (elemOf P t) = true ∧ 1 < arrLen P t ∧ 0 ≤ n ∧ n < arrLen P t) S d (.psh r (j + n.toNat * szOf P (elemOf P t)) ()) else none
    | _ => none
  | _, _ => none
def xIndex (S : US) (d : Option Nat) (t : TypeId) (x i : Operand) : Res := match ev P S 0 x, ev P S 0 i with
  | some (.tr (.str s)), some (.tr (.int _ n)) => retIf (strOk P t = true ∧ 0 ≤ n ∧ n < s.length) S d (.tr (.int .u8 ((s.getD n.toNat 0).toNat)))
  | _, _ => none
def xExtract (S : US) (d : Option Nat) (x : Operand) (i : Nat) : Res := match x with
  | .tmp s => match look S s with
    | some (.tmp (.tup vs)) => match vs[i]? with
      | some v => ret1 (put S s (.tmp (.tup (vs.set i (.tr .undef))))) d v
      | none => none
    | _ => none
  | _ => none
def placeOf (t : TypeId) (i : Nat) : Option (Nat × TypeId) := if arrB P t then some (i * szOf P (elemOf P t), elemOf P t) else fieldOf P t i
/-- All parts' types are known. -/
def partsOk (t : TypeId) : Bool := match P.underlying t with
  | some (.struct fs) => fs.toList.all fun f => tyOk P f.type
  | some (.array _ e) => tyOk P e
  | _ => false
def xBuild (S : US) (d : Option Nat) (t : TypeId) (parts : List (Nat × Operand)) : Res :=
  match fill P (placeOf P t) S ((zeroOf P t).map .tr) parts with
    | some (cs, S1) => retIf (tyOk P t = true ∧ aggB P t = true ∧ partsOk P t = true) S1 d (.agg cs)
    | none => none
def xBuildSlice (S : US) (d : Option Nat) (t : TypeId) (len : Nat) (parts : List (Nat × Operand)) : Res :=
  match fill P (fun i => some (i * szOf P (elemOf P t), elemOf P t)) S ((List.replicate len (zeroOf P (elemOf P t))).flatten.map .tr) parts with
  | some (cs, S1) => match resolve S1 cs with
    | some (ts, S2) => retIf (slOk P t = true ∧ len * szOf P (elemOf P t) ≤ 16777216) S2 d (.tr (.sl .own () (szOf P (elemOf P t)) (chunk (szOf P (elemOf P t)) len ts)))
    | none => none
  | none => none
def xMakeSlice (S : US) (d : Option Nat) (t : TypeId) (n m : Operand) : Res := match ev P S 0 n, ev P S 0 m with
  | some (.tr (.int _ n)), some (.tr (.int _ m)) => retIf (slOk P t = true ∧ 0 ≤ n ∧ n ≤ m ∧ m ≤ 4611686018427387904 ∧ m * bytesOf P (elemOf P t) ≤ 140737488355328) S d (.tr (.sl .own () (szOf P (elemOf P t)) (List.replicate n.toNat (zeroOf P (elemOf P t)))))
  | _, _ => none
def evs (S : US) : List Operand → Option (List UV)
  | [] => some []
  | x :: r => match ev P S 0 x, evs S r with
    | some v, some vs => some (v :: vs)
    | _, _ => none
def xMakeFunc (S : US) (d : Option Nat) (fn : Fn) (caps : List Operand) : Res := match fn with
  | .func f => (match evs P S caps with
    | some cs => ret1 S d (.fn f cs)
    | none => none)
  | _ => none
def xIface (S : US) (d : Option Nat) (t : TypeId) (x : Operand) : Res := match ev P S t x with
  | some v => match x with
    | .tmp s => retIf (ifcOk P t = true) S d (.ifc t (bor s v))
    | _ => none
  | none => none
/-- Are the rows at a place so wide? -/
def widthIs (S : US) (q : Place) (k : Nat) : Bool := match getC S q with
  | some (.tr (.sl .own _ w _)) => decide (w = k)
  | _ => false
def xSlice (S : US) (d : Option Nat) (t : TypeId) (x : Operand) (lo hi mx : Option Operand) : Res :=
  match ev P S 0 x, evO P S lo, evO P S hi, evO P S mx with
  | some v, some lo, some hi, some mx => match optNat lo, optNat hi, optNat mx with
    | some lo, some hi, some mx => match v with
      | .tr (.str s) => (match mx with
        | none => retIf (strOk P t = true ∧ 0 ≤ lo.getD 0 ∧ lo.getD 0 ≤ hi.getD s.length ∧ hi.getD s.length ≤ s.length) S d (.tr (.str ((s.drop (lo.getD 0).toNat).take (hi.getD s.length - lo.getD 0).toNat)))
        | _ => none)
      | .ref q lo0 m cp _ => retIf (slOk P t = true ∧ widthIs S q (szOf P (elemOf P t)) = true ∧ 0 ≤ lo.getD 0 ∧ lo.getD 0 ≤ hi.getD m ∧ hi.getD m ≤ m ∧ (mx = none ∨ mx = hi) ∧ ¬ (cp = true ∧ hi.isSome = true ∧ mx = none)) S d (.ref q (lo0 + (lo.getD 0).toNat) (hi.getD m - lo.getD 0).toNat (mx.isSome || (cp && hi.isNone)) ())
      | .tr (.sl κ _ w rows) => (match κ with
        | .own => (match x with
          | .tmp s => retIf (slOk P t = true ∧ w = szOf P (elemOf P t) ∧ 0 ≤ lo.getD 0 ∧ lo.getD 0 ≤ hi.getD rows.length ∧ hi.getD rows.length ≤ rows.length ∧ (mx = none ∨ mx = hi)) S d (.ref ⟨s, [], 0⟩ (lo.getD 0).toNat (hi.getD rows.length - lo.getD 0).toNat mx.isSome ())
          | _ => none)
        | κ => retIf (slOk P t = true ∧ w = szOf P (elemOf P t) ∧ 0 ≤ lo.getD 0 ∧ lo.getD 0 ≤ hi.getD rows.length ∧ hi.getD rows.length ≤ rows.length ∧ (mx = none ∨ mx = hi)) S d (.tr (.sl κ () w ((rows.drop (lo.getD 0).toNat).take (hi.getD rows.length - lo.getD 0).toNat))))
      | _ => none
    | _, _, _ => none
  | _, _, _, _ => none
def xLen (S : US) (d : Option Nat) (t : TypeId) (x : Operand) : Res := match ev P S 0 x with
  | some v => match lenOf P S t v with
    | some (p, n) => retIf p S d (.tr (.int .i64 n))
    | none => none
  | none => none
def defRows (rows : List (List UT)) : Bool := rows.all fun row => row.all fun t => match t with | .undef => false | _ => true
def xAppend (S : US) (d : Option Nat) (b x : Operand) (t t' : TypeId) : Res := match rowsUsed P S t b true with
  | some (p1, al, r1, S1) => match rowsUsed P S1 t' x false with
    | some (p2, _, r2, S2) => retIf (p1 ∧ p2 ∧ (al = true → r2 ≠ []) ∧ slOk P t = true ∧ t' = t ∧ defRows r2 = true ∧ (r1.length + r2.length) * bytesOf P (elemOf P t) ≤ 70368744177664 ∧ r1.length + r2.length ≤ 70368744177664) S2 d (.tr (.sl .own () (szOf P (elemOf P t)) (r1 ++ r2)))
    | none => none
  | none => none
def xMin (S : US) (d : Option Nat) (a b : Operand) : Res := match ev P S 0 a, ev P S 0 b with
  | some (.tr (.int k x)), some (.tr (.int _ y)) => ret1 S d (.tr (.int k (if y < x then y else x)))
  | some (.tr (.str x)), some (.tr (.str y)) => ret1 S d (.tr (.str (if strLt x y || decide (x = y) then x else y)))
  | _, _ => none
def xMax (S : US) (d : Option Nat) (a b : Operand) : Res := match ev P S 0 a, ev P S 0 b with
  | some (.tr (.int k x)), some (.tr (.int _ y)) => ret1 S d (.tr (.int k (if x < y then y else x)))
  | some (.tr (.str x)), some (.tr (.str y)) => ret1 S d (.tr (.str (if strLt x y then y else x)))
  | _, _ => none
def xBuiltin (S : US) (d : Option Nat) (b : Builtin) (as : List Operand) (ts : List TypeId) : Res := match b with
  | .len => (match as, ts with
    | [x], [t] => xLen P S d t x
    | _, _ => none)
  | .append => (match as, ts with
    | [b, x], [t, t'] => xAppend P S d b x t t'
    | _, _ => none)
  | .min => (match as with
    | [x, y] => xMin P S d x y
    | _ => none)
  | .max => (match as with
    | [x, y] => xMax P S d x y
    | _ => none)
  | _ => none
/-- Bytes, as they lie in rows. -/
def u8s : List (List UT) → Option (List Int)
  | [] => some []
  | [.int .u8 n] :: r => match u8s r with
    | some l => some (n :: l)
    | none => none
  | _ => none
def intTy (t : TypeId) : Option IntKind := match P.underlying t with
  | some (.int k) => some k
  | _ => none
def bytesTy (t : TypeId) : Bool := match P.underlying t with
  | some (.slice e) => (match P.underlying e with
    | some (.int .u8) => true
    | _ => false)
  | _ => false
def xConvert (S : US) (d : Option Nat) (src dst : TypeId) (x : Operand) : Res := match intTy P dst with
  | some k => (match ev P S 0 x with
    | some (.tr (.int _ n)) => retIf ((P.underlying src).isSome = true ∧ inR k n) S d (.tr (.int k n))
    | _ => none)
  | none => match ev P S 0 x with
    | some v => (match rowsOf S v with
      | some rows => match u8s rows with
        | some ns => retIf (bytesTy P src = true ∧ strOk P dst = true) S d (.tr (.str (ns.map fun n => UInt8.ofNat n.toNat)))
        | none => none
      | none => none)
    | none => none
def exec1 (br : Nat → Bool) (S : US) (o : Oper) : Res := match o.op with
  | .move x => xMove P S o x
  | .assign x => xAssign P S o x
  | .pick c a b => xPick P S o c a b
  | .alloc e => xAlloc P S o.dst e
  | .box e x => xBox P S o.dst e x
  | .load t x => xLoad P S o.dst t x
  | .store t x y => (match o.dst with
    | none => xStore P br S t x y
    | some _ => none)
  | .nilCheck x => xNil P S o.dst x
  | .binOp op t x y _ => xBin P S o.dst op t x y
  | .unOp op _ x => xUn P S o.dst op x
  | .fieldAddr t x f => xField P S o.dst t x f
  | .indexAddr t x i => xIndexAddr P S o.dst t x i
  | .index t x i => xIndex P S o.dst t x i
  | .extract x i => xExtract S o.dst x i
  | .build t parts => xBuild P S o.dst t parts.toList
  | .buildSlice t len parts => xBuildSlice P S o.dst t len parts.toList
  | .makeSlice t n m => xMakeSlice P S o.dst t n m
  | .makeFunc fn first caps => if first.size = 0 then xMakeFunc P S o.dst fn caps.toList else none
  | .makeInterface t x => xIface P S o.dst t x
  | .slice t x lo hi mx => xSlice P S o.dst t x lo hi mx
  | .call c => (match c.callee with
    | .builtin b => xBuiltin P S o.dst b c.args.toList c.argTypes.toList
    | _ => none)
  | .convert src dst x => xConvert P S o.dst src dst x
  | _ => none
end
end Go.HT
end
section
namespace Go.HT
open Go

/-- Where a slice's cells lie, and its capacity (of a pointer: the address). -/
structure Hd where
  a : Option Addr := none
  cap : Nat := 0
instance : HdO Hd := ⟨{}, fun g _ _ _ _ => g, fun g k => ⟨g.a.map (fun A => ⟨A.block, A.off + k, none⟩), 0⟩⟩

/-! ### Annotated and bare -/
mutual
def erT : Tr Hd → UT
  | .undef => .undef
  | .int k n => .int k n
  | .bool b => .bool b
  | .str s => .str s
  | .sl κ _ w rows => .sl κ () w (erRows rows)
def erRow : List (Tr Hd) → List UT
  | [] => []
  | t :: r => erT t :: erRow r
def erRows : List (List (Tr Hd)) → List (List UT)
  | [] => []
  | t :: r => erRow t :: erRows r
end
theorem erRow_map (l : List (Tr Hd)) : erRow l = l.map erT := by induction l with | nil => rfl | cons t r ih => simp [erRow, ih]
theorem erRows_map (l : List (List (Tr Hd))) : erRows l = l.map erRow := by induction l with | nil => rfl | cons t r ih => simp [erRows, ih]
mutual
def erA : AV Hd → UV
  | .tr t => .tr (erT t)
  | .agg cs => .agg (erL cs)
  | .tup cs => .tup (erL cs)
  | .ref q lo n cp _ => .ref q lo n cp ()
  | .ptr q _ => .ptr q ()
  | .psh row o _ => .psh (erRow row) o ()
  | .fn f cs => .fn f (erL cs)
  | .ifc t v => .ifc t (erA v)
def erL : List (AV Hd) → List UV
  | [] => []
  | v :: r => erA v :: erL r
end
theorem erL_map (l : List (AV Hd)) : erL l = l.map erA := by induction l with | nil => rfl | cons t r ih => simp [erL, ih]
def erE : Ent Hd → UE
  | .tmp v => .tmp (erA v)
  | .box _ cs => .box () (erL cs)
  | .vir t => .vir (erT t)
def erS (S : St Hd) : US := S.map fun x => (x.1, erE x.2)

/-! ### What memory says -/
def IsT : Tr Hd → Value → Prop
  | .undef, _ => True
  | .int k n, v => v = .int k n
  | .bool b, v => v = .bool b
  | .str s, v => v = .string ⟨⟨s⟩⟩
  | .sl _ g _ rows, v => v = .slice g.a rows.length g.cap
mutual
def IsA : AV Hd → Value → Prop
  | .tr t, v => IsT t v
  | .agg cs, v => ∃ vs, v = .agg vs ∧ IsL cs vs.toList
  | .tup cs, v => ∃ vs, v = .tuple vs ∧ IsL cs vs.toList
  | .ref _ _ n _ g, v => v = .slice g.a n g.cap
  | .ptr _ g, v => v = .pointer g.a
  | .psh _ _ g, v => v = .pointer g.a
  | .fn f cs, v => ∃ vs, v = .func (.func f) #[] vs ∧ IsL cs vs.toList
  | .ifc t x, v => ∃ u, v = .iface t u ∧ IsA x u
def IsL : List (AV Hd) → List Value → Prop
  | [], vs => vs = []
  | c :: r, vs => ∃ v us, vs = v :: us ∧ IsA c v ∧ IsL r us
end
/-- Zones: what is lent for good, and what is lent for the call; neither is written. -/
structure Zone where
  s : Nat → Prop
  b : Nat → Prop
  sub : ∀ k, s k → b k
def Zone.of (Z : Zone) : Knd → Nat → Prop
  | .own, k => ¬ Z.b k
  | .sh, k => Z.s k
  | .bo, k => Z.b k
def hdrOk (w : World) (Z : Zone) (κ : Knd) (g : Hd) (wd : Nat) (rows : List (List (Tr Hd))) : Prop :=
  (g.a = none → rows = [] ∧ g.cap = 0) ∧ ∀ A, g.a = some A → A.spot = none ∧ rows.length ≤ g.cap ∧ Z.of κ A.block ∧
    ∃ cs e fr, w.heap[A.block]? = some (.cells cs e fr) ∧ (κ = .own → fr = (0, 0) ∧ A.off + g.cap * wd ≤ cs.size) ∧
      ∀ (i : Nat) (row : List (Tr Hd)), rows[i]? = some row → row.length = wd ∧ ∀ (j : Nat) (c : Tr Hd), row[j]? = some c → ∃ v, cs[A.off + i * wd + j]? = some v ∧ IsT c v
mutual
def memT (w : World) (Z : Zone) (al : Bool) : Tr Hd → Prop
  | .sl κ g wd rows => hdrOk w Z κ g wd rows ∧ (κ = .own → al = true) ∧ memRows w Z (al && decide (κ = .own)) rows
  | _ => True
def memRow (w : World) (Z : Zone) (al : Bool) : List (Tr Hd) → Prop
  | [] => True
  | t :: r => memT w Z al t ∧ memRow w Z al r
def memRows (w : World) (Z : Zone) (al : Bool) : List (List (Tr Hd)) → Prop
  | [] => True
  | t :: r => memRow w Z al t ∧ memRows w Z al r
end
theorem memRow_iff {w : World} {Z : Zone} {al : Bool} {l : List (Tr Hd)} : memRow w Z al l ↔ ∀ t ∈ l, memT w Z al t := by
  induction l with
  | nil => simp [memRow]
  | cons t r ih => simp [memRow, ih]
theorem memRows_iff {w : World} {Z : Zone} {al : Bool} {l : List (List (Tr Hd))} : memRows w Z al l ↔ ∀ t ∈ l, memRow w Z al t := by
  induction l with
  | nil => simp [memRows]
  | cons t r ih => simp [memRows, ih]
mutual
def ownT : Tr Hd → List Nat
  | .sl .own g _ rows => (match g.a with | some A => [A.block] | none => []) ++ ownRows rows
  | _ => []
def ownRow : List (Tr Hd) → List Nat
  | [] => []
  | t :: r => ownT t ++ ownRow r
def ownRows : List (List (Tr Hd)) → List Nat
  | [] => []
  | t :: r => ownRow t ++ ownRows r
end
theorem mem_ownRow {b : Nat} {l : List (Tr Hd)} : b ∈ ownRow l ↔ ∃ t ∈ l, b ∈ ownT t := by
  induction l with
  | nil => simp [ownRow]
  | cons t r ih => simp [ownRow, ih]
theorem mem_ownRows {b : Nat} {l : List (List (Tr Hd))} : b ∈ ownRows l ↔ ∃ t ∈ l, b ∈ ownRow t := by
  induction l with
  | nil => simp [ownRows]
  | cons t r ih => simp [ownRows, ih]
mutual
def ownA : AV Hd → List Nat
  | .tr t => ownT t
  | .agg cs => ownAL cs
  | .tup cs => ownAL cs
  | _ => []
def ownAL : List (AV Hd) → List Nat
  | [] => []
  | v :: r => ownA v ++ ownAL r
end
def blk (g : Hd) : List Nat := match g.a with | some A => [A.block] | none => []
def ownE : Ent Hd → List Nat
  | .tmp v => ownA v
  | .box g cs => blk g ++ ownAL cs
  | .vir t => ownT t
def ownS : St Hd → List Nat
  | [] => []
  | (_, e) :: r => ownE e ++ ownS r

/-! ### Frames -/
mutual
theorem memT_frame {w w' : World} {Z : Zone} : ∀ (al : Bool) (t : Tr Hd), (∀ b, b ∈ ownT t ∨ Z.b b → w'.heap[b]? = w.heap[b]?) → memT w Z al t → memT w' Z al t
  | al, .undef, _, _ => trivial
  | al, .int _ _, _, _ => trivial
  | al, .bool _, _, _ => trivial
  | al, .str _, _, _ => trivial
  | al, .sl κ g wd rows, h, ⟨h1, h2, h3⟩ => by
    refine ⟨⟨h1.1, fun A hA => ?_⟩, h2, ?_⟩
    · obtain ⟨a1, a2, a3, cs, e, fr, a4, a5⟩ := h1.2 A hA
      refine ⟨a1, a2, a3, cs, e, fr, ?_, a5⟩
      rw [h A.block ?_]
      · exact a4
      · cases κ with
        | own => left; simp [ownT, hA]
        | sh => right; exact Z.sub _ a3
        | bo => right; exact a3
    · refine memRows_frame _ rows (fun b hb => h b ?_) h3
      rcases hb with ⟨hk, hb⟩ | hb
      · left
        have : κ = .own := by simpa using (Bool.and_eq_true_iff.1 hk).2
        subst this
        simp [ownT, hb]
      · exact .inr hb
theorem memRow_frame {w w' : World} {Z : Zone} : ∀ (al : Bool) (l : List (Tr Hd)), (∀ b, (al = true ∧ b ∈ ownRow l) ∨ Z.b b → w'.heap[b]? = w.heap[b]?) → memRow w Z al l → memRow w' Z al l
  | _, [], _, _ => trivial
  | al, t :: r, h, ⟨h1, h2⟩ => by
    cases al with
    | true => exact ⟨memT_frame true t (fun b hb => h b (hb.imp (fun x => ⟨rfl, by simp [ownRow, x]⟩) id)) h1, memRow_frame true r (fun b hb => h b (hb.imp (fun x => ⟨rfl, by simp [ownRow, x.2]⟩) id)) h2⟩
    | false => exact ⟨memT_frame' t (fun b hb => h b (.inr hb)) h1, memRow_frame false r (fun b hb => h b (hb.imp (fun x => by simp at x) id)) h2⟩
theorem memRows_frame {w w' : World} {Z : Zone} : ∀ (al : Bool) (l : List (List (Tr Hd))), (∀ b, (al = true ∧ b ∈ ownRows l) ∨ Z.b b → w'.heap[b]? = w.heap[b]?) → memRows w Z al l → memRows w' Z al l
  | _, [], _, _ => trivial
  | al, t :: r, h, ⟨h1, h2⟩ => ⟨memRow_frame al t (fun b hb => h b (hb.imp (fun x => ⟨x.1, by simp [ownRows, x.2]⟩) id)) h1, memRows_frame al r (fun b hb => h b (hb.imp (fun x => ⟨x.1, by simp [ownRows, x.2]⟩) id)) h2⟩
theorem memT_frame' {w w' : World} {Z : Zone} : ∀ (t : Tr Hd), (∀ b, Z.b b → w'.heap[b]? = w.heap[b]?) → memT w Z false t → memT w' Z false t
  | .undef, _, _ => trivial
  | .int _ _, _, _ => trivial
  | .bool _, _, _ => trivial
  | .str _, _, _ => trivial
  | .sl κ g wd rows, h, ⟨h1, h2, h3⟩ => by
    refine ⟨⟨h1.1, fun A hA => ?_⟩, h2, ?_⟩
    · obtain ⟨a1, a2, a3, cs, e, fr, a4, a5⟩ := h1.2 A hA
      refine ⟨a1, a2, a3, cs, e, fr, ?_, a5⟩
      rw [h A.block ?_]
      · exact a4
      · cases κ with
        | own => simp at h2
        | sh => exact Z.sub _ a3
        | bo => exact a3
    · exact memRows_frame _ rows (fun b hb => h b (hb.resolve_left (by simp))) h3
end
end Go.HT
end
section
namespace Go.HT
open Go

def rowM (w : World) (Z : Zone) (B : Addr) (row : List (Tr Hd)) : Prop :=
  ∀ (j : Nat) (c : Tr Hd), row[j]? = some c → (∃ v, w.cell? ⟨B.block, B.off + j, none⟩ = some v ∧ IsT c v) ∧ memT w Z true c
def rowAddrT (B : Addr) (row : List (Tr Hd)) : List (Nat × Nat) → Option (Addr × List (Tr Hd))
  | [] => some (B, row)
  | (o, i) :: r => match row[o]? with
    | some (.sl .own g w rows) => match g.a, rows[i]? with
      | some A, some row' => rowAddrT ⟨A.block, A.off + i * w, none⟩ row' r
      | _, _ => none
    | _ => none
/-- One cell may have turned. -/
def Upd (w w' : World) (A : Addr) (v : Value) : Prop :=
  (∀ b, b ≠ A.block → w'.heap[b]? = w.heap[b]?) ∧ ∃ cs e, w.heap[A.block]? = some (.cells cs e (0, 0)) ∧ A.off < cs.size ∧ w'.heap[A.block]? = some (.cells (cs.setIfInBounds A.off v) e (0, 0))

theorem nodup_append_left {α} {a b : List α} (h : (a ++ b).Nodup) : a.Nodup := (List.nodup_append.1 h).1
theorem nodup_append_right {α} {a b : List α} (h : (a ++ b).Nodup) : b.Nodup := (List.nodup_append.1 h).2.1
theorem nodup_apart {α} {a b : List α} (h : (a ++ b).Nodup) {x : α} (ha : x ∈ a) : x ∉ b := fun hb => (List.nodup_append.1 h).2.2 x ha x hb rfl

theorem ownRow_get {row : List (Tr Hd)} {o : Nat} {t : Tr Hd} (h : row[o]? = some t) {b : Nat} (hb : b ∈ ownT t) : b ∈ ownRow row :=
  mem_ownRow.2 ⟨t, List.mem_of_getElem? h, hb⟩
theorem ownRows_get {rows : List (List (Tr Hd))} {o : Nat} {t : List (Tr Hd)} (h : rows[o]? = some t) {b : Nat} (hb : b ∈ ownRow t) : b ∈ ownRows rows :=
  mem_ownRows.2 ⟨t, List.mem_of_getElem? h, hb⟩
theorem ownRow_nodup : ∀ {row : List (Tr Hd)} {o : Nat} {t : Tr Hd}, (ownRow row).Nodup → row[o]? = some t → (ownT t).Nodup
  | t :: _, 0, _, h, e => by simp at e; subst e; exact nodup_append_left h
  | _ :: r, o + 1, _, h, e => by simp at e; exact ownRow_nodup (row := r) (nodup_append_right h) e
theorem ownRows_nodup : ∀ {row : List (List (Tr Hd))} {o : Nat} {t : List (Tr Hd)}, (ownRows row).Nodup → row[o]? = some t → (ownRow t).Nodup
  | t :: _, 0, _, h, e => by simp at e; subst e; exact nodup_append_left h
  | _ :: r, o + 1, _, h, e => by simp at e; exact ownRows_nodup (row := r) (nodup_append_right h) e
theorem ownRow_ne : ∀ {row : List (Tr Hd)} {o j : Nat} {s t : Tr Hd} {b : Nat}, (ownRow row).Nodup → row[o]? = some s → row[j]? = some t → o ≠ j → b ∈ ownT s → b ∉ ownT t
  | _ :: r, 0, 0, _, _, _, _, _, _, hne, _ => by simp at hne
  | _ :: r, 0, j + 1, s, t, b, h, e1, e2, _, hb => by
    simp at e1 e2; subst e1
    exact fun ht => nodup_apart h hb (ownRow_get e2 ht)
  | _ :: r, o + 1, 0, s, t, b, h, e1, e2, _, hb => by
    simp at e1 e2; subst e2
    exact fun ht => nodup_apart h ht (ownRow_get e1 hb)
  | _ :: r, o + 1, j + 1, s, t, b, h, e1, e2, hne, hb => by
    simp at e1 e2
    exact ownRow_ne (row := r) (nodup_append_right h) e1 e2 (by omega) hb
theorem ownRows_ne : ∀ {row : List (List (Tr Hd))} {o j : Nat} {s t : List (Tr Hd)} {b : Nat}, (ownRows row).Nodup → row[o]? = some s → row[j]? = some t → o ≠ j → b ∈ ownRow s → b ∉ ownRow t
  | _ :: r, 0, 0, _, _, _, _, _, _, hne, _ => by simp at hne
  | _ :: r, 0, j + 1, s, t, b, h, e1, e2, _, hb => by
    simp at e1 e2; subst e1
    exact fun ht => nodup_apart h hb (ownRows_get e2 ht)
  | _ :: r, o + 1, 0, s, t, b, h, e1, e2, _, hb => by
    simp at e1 e2; subst e2
    exact fun ht => nodup_apart h ht (ownRows_get e1 hb)
  | _ :: r, o + 1, j + 1, s, t, b, h, e1, e2, hne, hb => by
    simp at e1 e2
    exact ownRows_ne (row := r) (nodup_append_right h) e1 e2 (by omega) hb

theorem rowAddr_block : ∀ {st : List (Nat × Nat)} {B B' : Addr} {row row' : List (Tr Hd)}, rowAddrT B row st = some (B', row') → (st = [] ∧ B' = B ∧ row' = row) ∨ B'.block ∈ ownRow row
  | [], B, B', row, row', h => by simp [rowAddrT] at h; exact .inl ⟨rfl, h.1.symm, h.2.symm⟩
  | (o, i) :: r, B, B', row, row', h => by
    right
    simp only [rowAddrT] at h
    split at h
    · rename_i g w rows e1
      split at h
      · rename_i A row1 e2 e3
        rcases rowAddr_block h with ⟨_, rfl, _⟩ | hb
        · exact ownRow_get e1 (by simp [ownT, e2])
        · exact ownRow_get e1 (by simp [ownT, ownRows_get e3 hb])
      · simp at h
    · simp at h
theorem setRowT_length : ∀ {st : List (Nat × Nat)} {row row2 : List (Tr Hd)} {off : Nat} {c : Tr Hd}, setRowT row st off c = some row2 → row2.length = row.length
  | [], row, row2, off, c, h => by simp only [setRowT] at h; split at h <;> simp at h; subst h; simp
  | (o, i) :: r, row, row2, off, c, h => by
    simp only [setRowT] at h
    split at h
    · split at h
      · split at h
        · simp at h; subst h; simp
        · simp at h
      · simp at h
    · simp at h
theorem cell_eq {w : World} {b o : Nat} {cs : Array Value} {e : TypeId} {fr : Nat × Nat} (h : w.heap[b]? = some (.cells cs e fr)) : w.cell? ⟨b, o, none⟩ = cs[o]? := by simp [World.cell?, h]
theorem cell_same {w w' : World} {b o : Nat} (h : w'.heap[b]? = w.heap[b]?) : w'.cell? ⟨b, o, none⟩ = w.cell? ⟨b, o, none⟩ := by simp [World.cell?, h]

theorem rowM_of_sl {w : World} {Z : Zone} {g : Hd} {wd : Nat} {rows : List (List (Tr Hd))} (h : memT w Z true (.sl .own g wd rows)) {A : Addr} (hA : g.a = some A) {i : Nat} {row : List (Tr Hd)} (hi : rows[i]? = some row) :
    rowM w Z ⟨A.block, A.off + i * wd, none⟩ row ∧ row.length = wd := by
  obtain ⟨h1, _, h3⟩ := h
  obtain ⟨a1, a2, a3, cs, e, fr, a4, a5, a6⟩ := h1.2 A hA
  refine ⟨fun j c hc => ⟨?_, ?_⟩, (a6 i row hi).1⟩
  · obtain ⟨v, hv, hI⟩ := (a6 i row hi).2 j c hc
    exact ⟨v, by rw [cell_eq a4]; exact hv, hI⟩
  · exact memRow_iff.1 (memRows_iff.1 h3 row (List.mem_of_getElem? hi)) c (List.mem_of_getElem? hc)

/-- A tree one of whose rows has turned. -/
theorem tree_set_of {w w' : World} {Z : Zone} {g : Hd} {wd i : Nat} {rows : List (List (Tr Hd))} {A B' : Addr} {row1 row3 row' : List (Tr Hd)} {r : List (Nat × Nat)} {off : Nat} {c : Tr Hd} {v : Value}
    (hmT : memT w Z true (.sl .own g wd rows)) (hnd : (ownT (.sl .own g wd rows)).Nodup) (hz1 : ∀ b ∈ ownT (.sl .own g wd rows), ¬ Z.b b) (e2 : g.a = some A) (e3 : rows[i]? = some row1)
    (e4 : setRowT row1 r off c = some row3) (ha : rowAddrT ⟨A.block, A.off + i * wd, none⟩ row1 r = some (B', row')) (hU : Upd w w' ⟨B'.block, B'.off + off, none⟩ v)
    (IH : rowM w' Z ⟨A.block, A.off + i * wd, none⟩ row3) : memT w' Z true (.sl .own g wd (rows.set i row3)) := by
  obtain ⟨hrM, hlen⟩ := rowM_of_sl hmT e2 e3
  have hndT' : (A.block :: ownRows rows).Nodup := by simpa [ownT, e2] using hnd
  have hnd1 : (A.block :: ownRow row1).Nodup := List.nodup_cons.2 ⟨fun h => (List.nodup_cons.1 hndT').1 (ownRows_get e3 h), ownRows_nodup (List.nodup_cons.1 hndT').2 e3⟩
  have hin : ∀ b ∈ A.block :: ownRow row1, b ∈ ownT (.sl .own g wd rows) := by
    intro b hb
    rcases List.mem_cons.1 hb with rfl | hb
    · simp [ownT, e2]
    · simp [ownT, ownRows_get e3 hb]
  have hmb : B'.block ∈ A.block :: ownRow row1 := by
    rcases rowAddr_block ha with ⟨_, rfl, _⟩ | hb
    · simp
    · exact List.mem_cons_of_mem _ hb
  obtain ⟨hu1, cs0, e0, hu2, hu3, hu4⟩ := hU
  simp only at hu1 hu2 hu3 hu4
  obtain ⟨m1, m2, m3⟩ := hmT
  obtain ⟨a1, a2, a3, cs, e, fr, a4, a5, a6⟩ := m1.2 A e2
  refine ⟨⟨fun hn => by rw [e2] at hn; simp at hn, fun A' hA' => ?_⟩, m2, ?_⟩
  · rw [e2] at hA'
    obtain rfl : A = A' := by simpa using hA'
    have hblk : ∃ cs', w'.heap[A.block]? = some (.cells cs' e fr) ∧ cs'.size = cs.size ∧ (∀ k j', k ≠ i → j' < wd → cs'[A.off + k * wd + j']? = cs[A.off + k * wd + j']?) := by
      by_cases hAm : A.block = B'.block
      · rw [hAm] at a4
        rw [hu2] at a4
        simp at a4
        obtain ⟨rfl, rfl, rfl⟩ := a4
        refine ⟨_, by rw [hAm]; exact hu4, by simp, ?_⟩
        intro k j' hk hj'
        rw [Array.getElem?_setIfInBounds_ne]
        rcases rowAddr_block ha with ⟨hr, rfl, rfl⟩ | hb
        · simp only
          have hoff : off < wd := by
            subst hr
            simp only [setRowT] at e4
            split at e4
            · omega
            · simp at e4
          intro hE
          rcases Nat.lt_or_gt_of_ne hk with hlt | hlt
          · have : (k + 1) * wd ≤ i * wd := Nat.mul_le_mul_right _ hlt
            rw [Nat.succ_mul] at this
            omega
          · have : (i + 1) * wd ≤ k * wd := Nat.mul_le_mul_right _ hlt
            rw [Nat.succ_mul] at this
            omega
        · exact absurd (hAm ▸ hb) (List.nodup_cons.1 hnd1).1
      · exact ⟨cs, by rw [hu1 _ hAm]; exact a4, rfl, fun _ _ _ _ => rfl⟩
    obtain ⟨cs', b1, b2, b3⟩ := hblk
    refine ⟨a1, by simpa using a2, a3, cs', e, fr, b1, by rw [b2]; exact a5, ?_⟩
    intro k rowk hk
    rw [List.getElem?_set] at hk
    split at hk
    · rename_i hki
      subst hki
      split at hk
      · simp at hk
        subst hk
        refine ⟨by rw [setRowT_length e4]; exact hlen, fun j' c' hc' => ?_⟩
        obtain ⟨⟨v2, g1, g2⟩, _⟩ := IH j' c' hc'
        rw [cell_eq b1] at g1
        exact ⟨v2, g1, g2⟩
      · simp at hk
    · rename_i hki
      obtain ⟨g1, g2⟩ := a6 k rowk hk
      refine ⟨g1, fun j' c' hc' => ?_⟩
      obtain ⟨v2, g3, g4⟩ := g2 j' c' hc'
      have : j' < rowk.length := (List.getElem?_eq_some_iff.1 hc').1
      exact ⟨v2, by rw [b3 k j' (fun h => hki h.symm) (by omega)]; exact g3, g4⟩
  · refine memRows_iff.2 fun rowk hk => memRow_iff.2 fun t ht => ?_
    obtain ⟨k, hk'⟩ := List.getElem?_of_mem hk
    rw [List.getElem?_set] at hk'
    split at hk'
    · split at hk'
      · simp at hk'
        subst hk'
        obtain ⟨j', hj'⟩ := List.getElem?_of_mem ht
        exact (IH j' t hj').2
      · simp at hk'
    · rename_i hki
      have := memRow_iff.1 (memRows_iff.1 m3 rowk (List.mem_of_getElem? hk')) t ht
      simp only [Bool.true_and, decide_true] at this ⊢
      refine memT_frame true t (fun b hb => hu1 b ?_) this
      rintro rfl
      rcases hb with hb | hb
      · have hbk : B'.block ∈ ownRow rowk := mem_ownRow.2 ⟨t, ht, hb⟩
        rcases List.mem_cons.1 hmb with hm | hm
        · exact (List.nodup_cons.1 hndT').1 (hm ▸ ownRows_get hk' hbk)
        · exact ownRows_ne (List.nodup_cons.1 hndT').2 e3 hk' hki hm hbk
      · exact hz1 _ (hin _ hmb) hb
theorem setRowT_mem {w w' : World} {Z : Zone} : ∀ {st : List (Nat × Nat)} {B B' : Addr} {row row' row2 : List (Tr Hd)} {off : Nat} {c : Tr Hd} {v : Value}, rowM w Z B row → (B.block :: ownRow row).Nodup →
    (∀ b ∈ B.block :: ownRow row, ¬ Z.b b) → setRowT row st off c = some row2 → rowAddrT B row st = some (B', row') → Upd w w' ⟨B'.block, B'.off + off, none⟩ v → IsT c v → memT w' Z true c → rowM w' Z B row2
  | [], B, B', row, row', row2, off, c, v, hM, hnd, hz, hs, ha, hU, hv, hc => by
    simp [rowAddrT] at ha
    obtain ⟨rfl, rfl⟩ := ha
    simp only [setRowT] at hs
    split at hs
    · rename_i hlt
      simp at hs
      subst hs
      obtain ⟨hu1, cs, e, hu2, hu3, hu4⟩ := hU
      simp only at hu1 hu2 hu3 hu4
      intro j c' hj
      rw [List.getElem?_set] at hj
      split at hj
      · rename_i he
        subst he
        obtain rfl : c = c' := by simpa [hlt] using hj
        refine ⟨⟨v, ?_, hv⟩, hc⟩
        rw [cell_eq hu4]
        simp [hu3]
      · rename_i hne
        obtain ⟨⟨v', h1, h2⟩, h3⟩ := hM j c' hj
        refine ⟨⟨v', ?_, h2⟩, ?_⟩
        · rw [cell_eq hu4]
          rw [cell_eq hu2] at h1
          rw [Array.getElem?_setIfInBounds_ne (by omega)]
          exact h1
        · refine memT_frame true c' (fun b hb => hu1 b ?_) h3
          rintro rfl
          rcases hb with hb | hb
          · exact (List.nodup_cons.1 hnd).1 (ownRow_get hj hb)
          · exact hz _ (by simp) hb
    · simp at hs
  | (o, i) :: r, B, B', row, row', row2, off, c, v, hM, hnd, hz, hs, ha, hU, hv, hc => by
    simp only [rowAddrT] at ha
    simp only [setRowT] at hs
    split at ha
    · rename_i g wd rows e1
      rw [e1] at hs
      simp only at hs
      split at ha
      · rename_i A row1 e2 e3
        rw [e3] at hs
        simp only at hs
        split at hs
        · rename_i row3 e4
          simp at hs
          subst hs
          have hmT := (hM o _ e1).2
          obtain ⟨hrM, hlen⟩ := rowM_of_sl hmT e2 e3
          have hndT : (ownT (.sl .own g wd rows)).Nodup := ownRow_nodup (List.nodup_cons.1 hnd).2 e1
          have hndT' : (A.block :: ownRows rows).Nodup := by simpa [ownT, e2] using hndT
          have hnd1 : (A.block :: ownRow row1).Nodup := List.nodup_cons.2 ⟨fun h => (List.nodup_cons.1 hndT').1 (ownRows_get e3 h), ownRows_nodup (List.nodup_cons.1 hndT').2 e3⟩
          have hin : ∀ b ∈ A.block :: ownRow row1, b ∈ ownT (.sl .own g wd rows) := by
            intro b hb
            rcases List.mem_cons.1 hb with rfl | hb
            · simp [ownT, e2]
            · simp [ownT, ownRows_get e3 hb]
          have hinR : ∀ b ∈ ownT (.sl .own g wd rows), b ∈ ownRow row := fun b hb => ownRow_get e1 hb
          have hz1 : ∀ b ∈ A.block :: ownRow row1, ¬ Z.b b := fun b hb => hz b (List.mem_cons_of_mem _ (hinR b (hin b hb)))
          have IH := setRowT_mem (B := ⟨A.block, A.off + i * wd, none⟩) hrM hnd1 hz1 e4 ha hU hv hc
          have hT := tree_set_of hmT hndT (fun b hb => hz b (List.mem_cons_of_mem _ (hinR b hb))) e2 e3 e4 ha hU IH
          have hmb : B'.block ∈ A.block :: ownRow row1 := by
            rcases rowAddr_block ha with ⟨_, rfl, _⟩ | hb
            · simp
            · exact List.mem_cons_of_mem _ hb
          obtain ⟨hu1, cs0, e0, hu2, hu3, hu4⟩ := hU
          simp only at hu1 hu2 hu3 hu4
          have hBne : B.block ≠ B'.block := by
            intro h
            rw [h] at hnd
            exact (List.nodup_cons.1 hnd).1 (hinR _ (hin _ hmb))
          intro j c' hj
          rw [List.getElem?_set] at hj
          split at hj
          · rename_i he
            subst he
            split at hj
            · simp at hj
              subst hj
              obtain ⟨⟨v', h1, h2⟩, h3⟩ := hM o _ e1
              exact ⟨⟨v', by rw [cell_same (hu1 _ hBne)]; exact h1, by simpa [IsT] using h2⟩, hT⟩
            · simp at hj
          · rename_i hne
            obtain ⟨⟨v', h1, h2⟩, h3⟩ := hM j c' hj
            refine ⟨⟨v', by rw [cell_same (hu1 _ hBne)]; exact h1, h2⟩, ?_⟩
            refine memT_frame true c' (fun b hb => hu1 b ?_) h3
            rintro rfl
            rcases hb with hb | hb
            · exact ownRow_ne (List.nodup_cons.1 hnd).2 e1 hj hne (hin _ hmb) hb
            · exact hz1 _ hmb hb
        · simp at hs
      · simp at ha
    · simp at ha
/-- The same, from the tree's own side. -/
theorem tree_set {w w' : World} {Z : Zone} {g : Hd} {wd i : Nat} {rows : List (List (Tr Hd))} {A B' : Addr} {row1 row3 row' : List (Tr Hd)} {r : List (Nat × Nat)} {off : Nat} {c : Tr Hd} {v : Value}
    (hmT : memT w Z true (.sl .own g wd rows)) (hnd : (ownT (.sl .own g wd rows)).Nodup) (hz1 : ∀ b ∈ ownT (.sl .own g wd rows), ¬ Z.b b) (e2 : g.a = some A) (e3 : rows[i]? = some row1)
    (e4 : setRowT row1 r off c = some row3) (ha : rowAddrT ⟨A.block, A.off + i * wd, none⟩ row1 r = some (B', row')) (hU : Upd w w' ⟨B'.block, B'.off + off, none⟩ v) (hv : IsT c v) (hc : memT w' Z true c) :
    memT w' Z true (.sl .own g wd (rows.set i row3)) ∧ B'.block ∈ ownT (.sl .own g wd rows) := by
  obtain ⟨hrM, hlen⟩ := rowM_of_sl hmT e2 e3
  have hndT' : (A.block :: ownRows rows).Nodup := by simpa [ownT, e2] using hnd
  have hnd1 : (A.block :: ownRow row1).Nodup := List.nodup_cons.2 ⟨fun h => (List.nodup_cons.1 hndT').1 (ownRows_get e3 h), ownRows_nodup (List.nodup_cons.1 hndT').2 e3⟩
  have hin : ∀ b ∈ A.block :: ownRow row1, b ∈ ownT (.sl .own g wd rows) := by
    intro b hb
    rcases List.mem_cons.1 hb with rfl | hb
    · simp [ownT, e2]
    · simp [ownT, ownRows_get e3 hb]
  have IH := setRowT_mem (B := ⟨A.block, A.off + i * wd, none⟩) hrM hnd1 (fun b hb => hz1 b (hin b hb)) e4 ha hU hv hc
  refine ⟨tree_set_of hmT hnd hz1 e2 e3 e4 ha hU IH, ?_⟩
  rcases rowAddr_block ha with ⟨_, rfl, _⟩ | hb
  · exact hin _ (by simp)
  · exact hin _ (List.mem_cons_of_mem _ hb)

/-! ### Who owns what, behind a setting -/
theorem ownRow_set : ∀ {row : List (Tr Hd)} {o : Nat} {t : Tr Hd}, row[o]? = some t → ∃ rest, (ownRow row).Perm (ownT t ++ rest) ∧ ∀ t', (ownRow (row.set o t')).Perm (ownT t' ++ rest)
  | t :: r, 0, _, h => by simp at h; subst h; exact ⟨ownRow r, .refl _, fun _ => .refl _⟩
  | s :: r, o + 1, t, h => by
    simp at h
    obtain ⟨rest, h1, h2⟩ := ownRow_set (row := r) h
    refine ⟨ownT s ++ rest, ?_, fun t' => ?_⟩
    · exact ((List.Perm.refl (ownT s)).append h1).trans (by rw [← List.append_assoc, ← List.append_assoc]; exact List.perm_append_comm.append_right _)
    · exact ((List.Perm.refl (ownT s)).append (h2 t')).trans (by rw [← List.append_assoc, ← List.append_assoc]; exact List.perm_append_comm.append_right _)
theorem ownRows_set : ∀ {row : List (List (Tr Hd))} {o : Nat} {t : List (Tr Hd)}, row[o]? = some t → ∃ rest, (ownRows row).Perm (ownRow t ++ rest) ∧ ∀ t', (ownRows (row.set o t')).Perm (ownRow t' ++ rest)
  | t :: r, 0, _, h => by simp at h; subst h; exact ⟨ownRows r, .refl _, fun _ => .refl _⟩
  | s :: r, o + 1, t, h => by
    simp at h
    obtain ⟨rest, h1, h2⟩ := ownRows_set (row := r) h
    refine ⟨ownRow s ++ rest, ?_, fun t' => ?_⟩
    · exact ((List.Perm.refl (ownRow s)).append h1).trans (by rw [← List.append_assoc, ← List.append_assoc]; exact List.perm_append_comm.append_right _)
    · exact ((List.Perm.refl (ownRow s)).append (h2 t')).trans (by rw [← List.append_assoc, ← List.append_assoc]; exact List.perm_append_comm.append_right _)
theorem ownAL_set : ∀ {row : List (AV Hd)} {o : Nat} {t : AV Hd}, row[o]? = some t → ∃ rest, (ownAL row).Perm (ownA t ++ rest) ∧ ∀ t', (ownAL (row.set o t')).Perm (ownA t' ++ rest)
  | t :: r, 0, _, h => by simp at h; subst h; exact ⟨ownAL r, .refl _, fun _ => .refl _⟩
  | s :: r, o + 1, t, h => by
    simp at h
    obtain ⟨rest, h1, h2⟩ := ownAL_set (row := r) h
    refine ⟨ownA s ++ rest, ?_, fun t' => ?_⟩
    · exact ((List.Perm.refl (ownA s)).append h1).trans (by rw [← List.append_assoc, ← List.append_assoc]; exact List.perm_append_comm.append_right _)
    · exact ((List.Perm.refl (ownA s)).append (h2 t')).trans (by rw [← List.append_assoc, ← List.append_assoc]; exact List.perm_append_comm.append_right _)
def getT (row : List (Tr Hd)) : List (Nat × Nat) → Nat → Option (Tr Hd)
  | [], off => row[off]?
  | (o, i) :: r, off => match row[o]? with
    | some (.sl .own _ _ rows) => match rows[i]? with
      | some row' => getT row' r off
      | none => none
    | _ => none
theorem setRowT_perm : ∀ {st : List (Nat × Nat)} {row row2 : List (Tr Hd)} {off : Nat} {c : Tr Hd}, setRowT row st off c = some row2 →
    ∃ old rest, getT row st off = some old ∧ (ownRow row).Perm (ownT old ++ rest) ∧ (ownRow row2).Perm (ownT c ++ rest)
  | [], row, row2, off, c, h => by
    simp only [setRowT] at h
    split at h
    · rename_i hlt
      simp at h; subst h
      have e : row[off]? = some row[off] := by simp [hlt]
      obtain ⟨rest, h1, h2⟩ := ownRow_set e
      exact ⟨_, rest, by simp [getT, hlt], h1, h2 c⟩
    · simp at h
  | (o, i) :: r, row, row2, off, c, h => by
    simp only [setRowT] at h
    split at h
    · rename_i g wd rows e1
      split at h
      · rename_i row1 e3
        split at h
        · rename_i row3 e4
          simp at h; subst h
          obtain ⟨old, rest, h0, h1, h2⟩ := setRowT_perm e4
          obtain ⟨rest2, k1, k2⟩ := ownRows_set e3
          obtain ⟨rest3, m1, m2⟩ := ownRow_set e1
          refine ⟨old, rest ++ (rest2 ++ (blk g ++ rest3)), by simp [getT, e1, e3, h0], ?_, ?_⟩
          · refine m1.trans ?_
            have : (ownT (.sl .own g wd rows)).Perm (ownT old ++ (rest ++ (rest2 ++ blk g))) := by
              refine List.perm_append_comm.trans ?_
              refine ((k1.trans (h1.append_right _)).append_right _).trans ?_
              simp [blk, List.append_assoc]
            refine (this.append_right _).trans ?_
            simp [List.append_assoc]
          · refine (m2 _).trans ?_
            have : (ownT (.sl .own g wd (rows.set i row3))).Perm (ownT c ++ (rest ++ (rest2 ++ blk g))) := by
              refine List.perm_append_comm.trans ?_
              refine (((k2 row3).trans (h2.append_right _)).append_right _).trans ?_
              simp [blk, List.append_assoc]
            refine (this.append_right _).trans ?_
            simp [List.append_assoc]
        · simp at h
      · simp at h
    · simp at h
end Go.HT
end
section
namespace Go.HT
open Go

mutual
def memA (w : World) (Z : Zone) : AV Hd → Prop
  | .tr t => memT w Z true t
  | .agg cs => memL w Z cs
  | .tup cs => memL w Z cs
  | .psh row o g => ∃ B : Addr, g.a = some ⟨B.block, B.off + o, none⟩ ∧ Z.b B.block ∧ ∀ (j : Nat) (c : Tr Hd), row[j]? = some c → (∃ v, w.cell? ⟨B.block, B.off + j, none⟩ = some v ∧ IsT c v) ∧ memT w Z false c
  | _ => True
def memL (w : World) (Z : Zone) : List (AV Hd) → Prop
  | [] => True
  | v :: r => memA w Z v ∧ memL w Z r
end
theorem memL_iff {w : World} {Z : Zone} {l : List (AV Hd)} : memL w Z l ↔ ∀ v ∈ l, memA w Z v := by
  induction l with
  | nil => simp [memL]
  | cons t r ih => simp [memL, ih]
theorem mem_ownAL {b : Nat} {l : List (AV Hd)} : b ∈ ownAL l ↔ ∃ t ∈ l, b ∈ ownA t := by
  induction l with
  | nil => simp [ownAL]
  | cons t r ih => simp [ownAL, ih]
mutual
theorem memA_frame {w w' : World} {Z : Zone} : ∀ (v : AV Hd), (∀ b, b ∈ ownA v ∨ Z.b b → w'.heap[b]? = w.heap[b]?) → memA w Z v → memA w' Z v
  | .tr t, h, hm => memT_frame true t h hm
  | .agg cs, h, hm => memL_frame cs h hm
  | .tup cs, h, hm => memL_frame cs h hm
  | .fn .., _, _ => trivial
  | .ifc .., _, _ => trivial
  | .psh row o g, h, ⟨B, h1, h2, h3⟩ => ⟨B, h1, h2, fun j c hj => by
      obtain ⟨⟨v, k1, k2⟩, k3⟩ := h3 j c hj
      exact ⟨⟨v, by rw [cell_same (h _ (.inr h2))]; exact k1, k2⟩, memT_frame' c (fun b hb => h b (.inr hb)) k3⟩⟩
  | .ref .., _, _ => trivial
  | .ptr .., _, _ => trivial
theorem memL_frame {w w' : World} {Z : Zone} : ∀ (l : List (AV Hd)), (∀ b, b ∈ ownAL l ∨ Z.b b → w'.heap[b]? = w.heap[b]?) → memL w Z l → memL w' Z l
  | [], _, _ => trivial
  | v :: r, h, ⟨h1, h2⟩ => ⟨memA_frame v (fun b hb => h b (hb.imp (fun x => by simp [ownAL, x]) id)) h1, memL_frame r (fun b hb => h b (hb.imp (fun x => by simp [ownAL, x]) id)) h2⟩
end

def boxOk (w : World) (Z : Zone) (A : Addr) (cs : List (AV Hd)) : Prop :=
  ∃ cells e, w.heap[A.block]? = some (.cells cells e (0, 0)) ∧ A.off + cs.length ≤ cells.size ∧ ∀ (j : Nat) (c : AV Hd), cs[j]? = some c → (∃ v, cells[A.off + j]? = some v ∧ IsA c v) ∧ memA w Z c
def rowAddrA (B : Addr) (cs : List (AV Hd)) : List (Nat × Nat) → Option (Addr × List (AV Hd))
  | [] => some (B, cs)
  | (o, i) :: r => match cs[o]? with
    | some (.tr (.sl .own g w rows)) => match g.a, rows[i]? with
      | some A, some row' => (rowAddrT ⟨A.block, A.off + i * w, none⟩ row' r).map fun x => (x.1, x.2.map .tr)
      | _, _ => none
    | _ => none
def rowAddrE : Ent Hd → List (Nat × Nat) → Option (Addr × List (AV Hd))
  | .box g cs, st => match g.a with
    | some A => rowAddrA A cs st
    | none => none
  | e, st => if st = [] then none else rowAddrA default e.cells st
def rowAddrS (S : St Hd) (r : Nat) (st : List (Nat × Nat)) : Option (Addr × List (AV Hd)) := match look S r with
  | some e => rowAddrE e st
  | none => none
/-- A slice of a part of owned rows. -/
def subOk (g0 : Hd) (w len lo n : Nat) (cp : Bool) (g : Hd) : Prop :=
  lo + n ≤ len ∧ (0 < n → ∃ A0, g0.a = some A0 ∧ g.a = some ⟨A0.block, A0.off + lo * w, none⟩) ∧ n ≤ g.cap ∧ (cp = true → g.cap = n) ∧ (cp = false → lo = 0 → n = len → g = g0) ∧ (∀ A, g.a = some A → A.spot = none ∧ ∃ A0, g0.a = some A0 ∧ A.block = A0.block) ∧ (g.a = none → g.cap = 0)
mutual
def refOk (S : St Hd) : AV Hd → Prop
  | .ref q lo n cp g => ∃ g0 w rows, getC S q = some (.tr (.sl .own g0 w rows)) ∧ subOk g0 w rows.length lo n cp g
  | .ptr q g => ∃ B row, rowAddrS S q.root q.st = some (B, row) ∧ g.a = some ⟨B.block, B.off + q.off, none⟩
  | .agg cs => refOkL S cs
  | .tup cs => refOkL S cs
  | .fn _ cs => refOkL S cs
  | .ifc _ v => refOk S v
  | _ => True
def refOkL (S : St Hd) : List (AV Hd) → Prop
  | [] => True
  | v :: r => refOk S v ∧ refOkL S r
end
theorem refOkL_iff {S : St Hd} {l : List (AV Hd)} : refOkL S l ↔ ∀ v ∈ l, refOk S v := by
  induction l with
  | nil => simp [refOkL]
  | cons t r ih => simp [refOkL, ih]
def refOkE (S : St Hd) : Ent Hd → Prop
  | .tmp v => refOk S v
  | .box _ cs => refOkL S cs
  | .vir _ => True
/-- One slot and what it holds. -/
def entOk (a : Act) (w : World) (Z : Zone) (d : Nat) : Ent Hd → Prop
  | .tmp v => IsA v (a.tmps.getD d undef) ∧ memA w Z v
  | .box g cs => a.tmps.getD d undef = .pointer g.a ∧ ∃ A, g.a = some A ∧ A.spot = none ∧ boxOk w Z A cs
  | .vir t => memT w Z true t
structure Good (Z : Zone) (S : St Hd) (a : Act) (w : World) : Prop where
  sorted : S.Pairwise fun x y => x.1 < y.1
  ent : ∀ d e, look S d = some e → entOk a w Z d e
  nd : (ownS S).Nodup
  zn : ∀ b ∈ ownS S, ¬ Z.b b ∧ b < w.heap.size
  zb : ∀ b, Z.b b → b < w.heap.size
  refs : ∀ d e, look S d = some e → refOkE S e

/-! ### Looking and putting -/
section
variable {G : Type}
theorem look_put (S : St G) (d d' : Nat) (e : Ent G) : look (put S d e) d' = if d' = d then some e else look S d' := by
  induction S with
  | nil =>
    simp only [put, look]
    by_cases h2 : d = d'
    · subst h2; simp
    · rw [if_neg h2, if_neg (fun h => h2 h.symm)]
  | cons x r ih =>
    obtain ⟨k, e'⟩ := x
    simp only [put]
    by_cases h : k = d
    · subst h
      rw [if_pos rfl]
      simp only [look]
      by_cases h2 : k = d'
      · subst h2; simp
      · rw [if_neg h2, if_neg h2, if_neg (fun h => h2 h.symm)]
    · rw [if_neg h]
      by_cases h3 : d < k
      · rw [if_pos h3]
        simp only [look]
        by_cases h2 : d = d'
        · subst h2; simp
        · have h2' : ¬ d' = d := fun h => h2 h.symm
          simp [h2, h2']
      · rw [if_neg h3]
        simp only [look, ih]
        by_cases h2 : d' = d
        · subst h2; simp [h]
        · simp [h2]
theorem put_keys (S : St G) (d : Nat) (e : Ent G) (k : Nat) : (∃ x ∈ put S d e, x.1 = k) ↔ k = d ∨ ∃ x ∈ S, x.1 = k := by
  induction S with
  | nil => simp [put]; exact eq_comm
  | cons x r ih =>
    obtain ⟨k', e'⟩ := x
    simp only [put]
    split
    · rename_i h; subst h
      simp only [List.mem_cons, exists_eq_or_imp]
      constructor
      · rintro (h | h)
        · exact .inl h.symm
        · exact .inr (.inr h)
      · rintro (h | h | h)
        · exact .inl h.symm
        · exact .inl h
        · exact .inr h
    · split
      · simp only [List.mem_cons, exists_eq_or_imp]
        constructor
        · rintro (h | h)
          · exact .inl h.symm
          · exact .inr h
        · rintro (h | h)
          · exact .inl h.symm
          · exact .inr h
      · simp only [List.mem_cons, exists_eq_or_imp, ih]
        constructor
        · rintro (h | h | h)
          · exact .inr (.inl h)
          · exact .inl h
          · exact .inr (.inr h)
        · rintro (h | h | h)
          · exact .inr (.inl h)
          · exact .inl h
          · exact .inr (.inr h)
theorem put_sorted (S : St G) (d : Nat) (e : Ent G) (h : S.Pairwise fun x y => x.1 < y.1) : (put S d e).Pairwise fun x y => x.1 < y.1 := by
  induction S with
  | nil => simp [put]
  | cons x r ih =>
    obtain ⟨k', e'⟩ := x
    have h' := List.pairwise_cons.1 h
    simp only [put]
    split
    · rename_i hk; subst hk
      exact List.pairwise_cons.2 ⟨fun y hy => h'.1 y hy, h'.2⟩
    · split
      · rename_i h1 h2
        refine List.pairwise_cons.2 ⟨fun y hy => ?_, h⟩
        rcases List.mem_cons.1 hy with rfl | hy
        · exact h2
        · exact Nat.lt_trans h2 (h'.1 y hy)
      · rename_i h1 h2
        refine List.pairwise_cons.2 ⟨fun y hy => ?_, ih h'.2⟩
        rcases (put_keys r d e y.1).1 ⟨y, hy, rfl⟩ with hd | ⟨z, hz, hzy⟩
        · simp only; omega
        · have := h'.1 z hz; simp only at this ⊢; omega
theorem look_none_of_lt {S : St G} {d : Nat} (h : ∀ x ∈ S, d < x.1) : look S d = none := by
  induction S with
  | nil => rfl
  | cons x r ih =>
    obtain ⟨k, e⟩ := x
    have := h (k, e) (by simp)
    simp only at this
    simp only [look]
    rw [if_neg (by omega)]
    exact ih fun y hy => h y (by simp [hy])
end
def oldE (S : St Hd) (d : Nat) : List Nat := match look S d with
  | some e => ownE e
  | none => []
theorem put_perm : ∀ (S : St Hd) (d : Nat), S.Pairwise (fun x y => x.1 < y.1) → ∃ rest, (ownS S).Perm (oldE S d ++ rest) ∧ ∀ e, (ownS (put S d e)).Perm (ownE e ++ rest)
  | [], d, _ => ⟨[], by simp [ownS, oldE, look], fun e => by simp [put, ownS]⟩
  | (k, e') :: r, d, h => by
    have h' := List.pairwise_cons.1 h
    simp only [put]
    by_cases h1 : k = d
    · subst h1
      refine ⟨ownS r, by simp [oldE, look, ownS], fun e => by simp [ownS]⟩
    · by_cases h2 : d < k
      · have hn : look r d = none := look_none_of_lt fun x hx => Nat.lt_trans h2 (h'.1 x hx)
        refine ⟨ownS ((k, e') :: r), by simp [oldE, look, h1, hn], fun e => by simp [h1, h2, ownS]⟩
      · obtain ⟨rest, a1, a2⟩ := put_perm r d h'.2
        refine ⟨ownE e' ++ rest, ?_, fun e => ?_⟩
        · have : oldE ((k, e') :: r) d = oldE r d := by simp [oldE, look, h1]
          rw [this]
          simp only [ownS]
          exact ((List.Perm.refl (ownE e')).append a1).trans (by rw [← List.append_assoc, ← List.append_assoc]; exact List.perm_append_comm.append_right _)
        · simp only [h1, h2, if_false, ownS]
          exact ((List.Perm.refl (ownE e')).append (a2 e)).trans (by rw [← List.append_assoc, ← List.append_assoc]; exact List.perm_append_comm.append_right _)
theorem look_own : ∀ {S : St Hd} {d : Nat} {e : Ent Hd}, look S d = some e → ∀ b ∈ ownE e, b ∈ ownS S
  | (k, e') :: r, d, e, h, b, hb => by
    simp only [look] at h
    split at h
    · simp at h; subst h; simp [ownS, hb]
    · simp [ownS, look_own h b hb]
theorem look_ne : ∀ {S : St Hd} {d d' : Nat} {e e' : Ent Hd}, (ownS S).Nodup → look S d = some e → look S d' = some e' → d ≠ d' → ∀ b ∈ ownE e, b ∉ ownE e'
  | (k, e0) :: r, d, d', e, e', hnd, h, h', hne, b, hb, hb' => by
    simp only [look] at h h'
    simp only [ownS] at hnd
    split at h <;> split at h'
    · omega
    · simp at h; subst h; exact nodup_apart hnd hb (look_own h' b hb')
    · simp at h'; subst h'; exact nodup_apart hnd hb' (look_own h b hb)
    · exact look_ne (nodup_append_right hnd) h h' hne b hb hb'

/-! ### Bare and annotated states -/
theorem look_er (S : St Hd) (d : Nat) : look (erS S) d = (look S d).map erE := by
  induction S with
  | nil => rfl
  | cons x r ih =>
    obtain ⟨k, e⟩ := x
    simp only [erS, List.map_cons, look]
    split
    · rfl
    · exact ih
theorem put_er (S : St Hd) (d : Nat) (e : Ent Hd) : erS (put S d e) = put (erS S) d (erE e) := by
  induction S with
  | nil => rfl
  | cons x r ih =>
    obtain ⟨k, e'⟩ := x
    simp only [put, erS, List.map_cons]
    split
    · rfl
    · split
      · rfl
      · simp only [List.map_cons]; rw [← erS, ih, erS]
mutual
theorem poiA_er (bad : Place → Bool → Bool) : ∀ v : AV Hd, erA (poiA bad v) = poiA bad (erA v)
  | .tr t => by simp [poiA, erA]
  | .agg cs => by simp [poiA, erA, poiL_er bad cs]
  | .tup cs => by simp [poiA, erA, poiL_er bad cs]
  | .fn _ cs => by simp [poiA, erA, poiL_er bad cs]
  | .ifc _ v => by simp [poiA, erA, poiA_er bad v]
  | .psh .. => by simp [poiA, erA]
  | .ref q lo n cp g => by simp only [poiA, erA]; split <;> simp [erA, erT]
  | .ptr q g => by simp only [poiA, erA]; split <;> simp [erA, erT]
theorem poiL_er (bad : Place → Bool → Bool) : ∀ l : List (AV Hd), erL (poiL bad l) = poiL bad (erL l)
  | [] => rfl
  | v :: r => by simp [poiL, erL, poiA_er bad v, poiL_er bad r]
end
theorem poiE_er (bad : Place → Bool → Bool) (e : Ent Hd) : erE (e.poi bad) = (erE e).poi bad := by
  cases e <;> simp [Ent.poi, erE, poiA_er, poiL_er]
theorem poi_er (bad : Place → Bool → Bool) (S : St Hd) : erS (poi bad S) = poi bad (erS S) := by
  induction S with
  | nil => rfl
  | cons x r ih => obtain ⟨k, e⟩ := x; simp only [poi, erS, List.map_cons, poiE_er]; rw [← erS, ih, erS]
theorem poiL_map {G : Type} (bad : Place → Bool → Bool) (l : List (AV G)) : poiL bad l = l.map (poiA bad) := by
  induction l with
  | nil => rfl
  | cons v r ih => simp [poiL, ih]
theorem look_poi {G : Type} (bad : Place → Bool → Bool) (S : St G) (d : Nat) : look (poi bad S) d = (look S d).map (·.poi bad) := by
  induction S with
  | nil => rfl
  | cons x r ih =>
    obtain ⟨k, e⟩ := x
    simp only [poi, look]
    split
    · rfl
    · exact ih
end Go.HT
end
section
namespace Go.HT
open Go

/-! ### Poison -/
mutual
theorem IsA_poi (bad : Place → Bool → Bool) : ∀ (v : AV Hd) (u : Value), IsA v u → IsA (poiA bad v) u
  | .tr t, u, h => by simpa [poiA] using h
  | .agg cs, u, ⟨vs, h1, h2⟩ => ⟨vs, h1, IsL_poi bad cs _ h2⟩
  | .tup cs, u, ⟨vs, h1, h2⟩ => ⟨vs, h1, IsL_poi bad cs _ h2⟩
  | .fn _ cs, u, ⟨vs, h1, h2⟩ => ⟨vs, h1, IsL_poi bad cs _ h2⟩
  | .ifc _ v, u, ⟨x, h1, h2⟩ => ⟨x, h1, IsA_poi bad v x h2⟩
  | .psh .., u, h => h
  | .ref q lo n cp g, u, h => by simp only [poiA]; split; exact trivial; exact h
  | .ptr q g, u, h => by simp only [poiA]; split; exact trivial; exact h
theorem IsL_poi (bad : Place → Bool → Bool) : ∀ (l : List (AV Hd)) (us : List Value), IsL l us → IsL (poiL bad l) us
  | [], _, h => h
  | v :: r, _, ⟨u, us, h1, h2, h3⟩ => ⟨u, us, h1, IsA_poi bad v u h2, IsL_poi bad r us h3⟩
theorem memA_poi {w : World} {Z : Zone} (bad : Place → Bool → Bool) : ∀ (v : AV Hd), memA w Z v → memA w Z (poiA bad v)
  | .tr t, h => h
  | .agg cs, h => memL_poi bad cs h
  | .tup cs, h => memL_poi bad cs h
  | .fn .., _ => trivial
  | .ifc .., _ => trivial
  | .psh .., h => h
  | .ref q lo n cp g, _ => by simp only [poiA]; split; exact trivial; exact trivial
  | .ptr q g, _ => by simp only [poiA]; split; exact trivial; exact trivial
theorem memL_poi {w : World} {Z : Zone} (bad : Place → Bool → Bool) : ∀ (l : List (AV Hd)), memL w Z l → memL w Z (poiL bad l)
  | [], _ => trivial
  | v :: r, ⟨h1, h2⟩ => ⟨memA_poi bad v h1, memL_poi bad r h2⟩
theorem ownA_poi (bad : Place → Bool → Bool) : ∀ (v : AV Hd), ownA (poiA bad v) = ownA v
  | .tr t => rfl
  | .agg cs => ownAL_poi bad cs
  | .tup cs => ownAL_poi bad cs
  | .fn .. => rfl
  | .ifc .. => rfl
  | .psh .. => rfl
  | .ref q lo n cp g => by simp only [poiA]; split <;> rfl
  | .ptr q g => by simp only [poiA]; split <;> rfl
theorem ownAL_poi (bad : Place → Bool → Bool) : ∀ (l : List (AV Hd)), ownAL (poiL bad l) = ownAL l
  | [] => rfl
  | v :: r => by simp [poiL, ownAL, ownA_poi bad v, ownAL_poi bad r]
end
theorem ownE_poi (bad : Place → Bool → Bool) (e : Ent Hd) : ownE (e.poi bad) = ownE e := by
  cases e <;> simp [Ent.poi, ownE, ownA_poi, ownAL_poi]
theorem ownS_poi (bad : Place → Bool → Bool) (S : St Hd) : ownS (poi bad S) = ownS S := by
  induction S with
  | nil => rfl
  | cons x r ih => obtain ⟨k, e⟩ := x; simp [poi, ownS, ownE_poi, ih]
theorem poi_sorted (bad : Place → Bool → Bool) (S : St Hd) (h : S.Pairwise fun x y => x.1 < y.1) : (poi bad S).Pairwise fun x y => x.1 < y.1 := by
  have : poi bad S = S.map fun x => (x.1, x.2.poi bad) := by
    induction S with
    | nil => rfl
    | cons x r ih => obtain ⟨k, e⟩ := x; simp [poi, ih (List.pairwise_cons.1 h).2]
  rw [this]
  exact List.pairwise_map.2 h
theorem poiL_get (bad : Place → Bool → Bool) (l : List (AV Hd)) (i : Nat) : (poiL bad l)[i]? = (l[i]?).map (poiA bad) := by rw [poiL_map]; simp
theorem poiA_tr {bad : Place → Bool → Bool} {v : AV Hd} {t : Tr Hd} (h : v = .tr t) : poiA bad v = .tr t := by subst h; rfl
theorem poiA_sl {bad : Place → Bool → Bool} {v : AV Hd} {κ : Knd} {g : Hd} {w : Nat} {rows : List (List (Tr Hd))} (h : poiA bad v = .tr (.sl κ g w rows)) : v = .tr (.sl κ g w rows) := by
  cases v with
  | tr t => exact h
  | ref q lo n cp g' => simp only [poiA] at h; split at h <;> simp at h
  | ptr q g' => simp only [poiA] at h; split at h <;> simp at h
  | _ => simp [poiA] at h
theorem cells_poi (bad : Place → Bool → Bool) (e : Ent Hd) : (e.poi bad).cells = poiL bad e.cells := by
  cases e with
  | box g cs => rfl
  | vir t => rfl
  | tmp v =>
    cases v with
    | agg cs => rfl
    | ref q lo n cp g' => cases hb : bad q true <;> simp [Ent.poi, poiA, Ent.cells, poiL, hb]
    | ptr q g' => cases hb : bad q false <;> simp [Ent.poi, poiA, Ent.cells, poiL, hb]
    | _ => rfl

/-! ### Which places stay -/
theorem getC_root {S S' : St Hd} {q : Place} (h : look S' q.root = look S q.root) : getC S' q = getC S q := by simp [getC, rowOf, h]
theorem rowAddr_root {S S' : St Hd} {r : Nat} {st : List (Nat × Nat)} (h : look S' r = look S r) : rowAddrS S' r st = rowAddrS S r st := by simp [rowAddrS, h]
/-- What a state still says of a place that another one told of. -/
structure Keeps (S S' : St Hd) (bad : Place → Bool → Bool) : Prop where
  ref : ∀ q, bad q true = false → ∀ g w rows, getC S q = some (.tr (.sl .own g w rows)) → ∃ rows', getC S' q = some (.tr (.sl .own g w rows')) ∧ rows'.length = rows.length
  ptr : ∀ q, bad q false = false → ∀ B row, rowAddrS S q.root q.st = some (B, row) → ∃ row', rowAddrS S' q.root q.st = some (B, row')
mutual
theorem refOk_keeps {S S' : St Hd} {bad : Place → Bool → Bool} (hk : Keeps S S' bad) : ∀ v, refOk S v → refOk S' (poiA bad v)
  | .tr t, _ => trivial
  | .agg cs, h => refOkL_keeps hk cs h
  | .tup cs, h => refOkL_keeps hk cs h
  | .fn _ cs, h => refOkL_keeps hk cs h
  | .ifc _ v, h => refOk_keeps hk v h
  | .psh .., _ => trivial
  | .ref q lo n cp g, ⟨g0, w, rows, h1, h2⟩ => by
    simp only [poiA]
    split
    · exact trivial
    · rename_i hb
      obtain ⟨rows', h3, h4⟩ := hk.ref q (by simpa using hb) g0 w rows h1
      exact ⟨g0, w, rows', h3, by rw [h4]; exact h2⟩
  | .ptr q g, ⟨B, row, h1, h2⟩ => by
    simp only [poiA]
    split
    · exact trivial
    · rename_i hb
      obtain ⟨row', h3⟩ := hk.ptr q (by simpa using hb) B row h1
      exact ⟨B, row', h3, h2⟩
theorem refOkL_keeps {S S' : St Hd} {bad : Place → Bool → Bool} (hk : Keeps S S' bad) : ∀ l, refOkL S l → refOkL S' (poiL bad l)
  | [], _ => trivial
  | v :: r, ⟨h1, h2⟩ => ⟨refOk_keeps hk v h1, refOkL_keeps hk r h2⟩
end
theorem refOkE_keeps {S S' : St Hd} {bad : Place → Bool → Bool} (hk : Keeps S S' bad) (e : Ent Hd) (h : refOkE S e) : refOkE S' (e.poi bad) := by
  cases e with
  | tmp v => exact refOk_keeps hk v h
  | box g cs => exact refOkL_keeps hk cs h
  | vir t => trivial
theorem Keeps.trans {S S1 S2 : St Hd} {bad : Place → Bool → Bool} (h : Keeps S S1 bad) (h' : Keeps S1 S2 bad) : Keeps S S2 bad :=
  ⟨fun q hb g w rows e => by
      obtain ⟨r1, e1, l1⟩ := h.ref q hb g w rows e
      obtain ⟨r2, e2, l2⟩ := h'.ref q hb g w r1 e1
      exact ⟨r2, e2, l2.trans l1⟩,
    fun q hb B row e => by
      obtain ⟨r1, e1⟩ := h.ptr q hb B row e
      exact h'.ptr q hb B r1 e1⟩
theorem stepRow_poi (bad : Place → Bool → Bool) : ∀ (cs : List (AV Hd)) (st : List (Nat × Nat)), st ≠ [] → stepRow (poiL bad cs) st = stepRow cs st
  | cs, [], h => absurd rfl h
  | cs, (o, i) :: r, _ => by
    simp only [stepRow, poiL_get]
    cases hc : cs[o]? with
    | none => rfl
    | some v =>
      simp only [Option.map_some]
      cases v with
      | tr t => rfl
      | ref q lo n cp g' => cases hb : bad q true <;> simp [poiA, hb]
      | ptr q g' => cases hb : bad q false <;> simp [poiA, hb]
      | _ => rfl
theorem rowAddrA_poi (bad : Place → Bool → Bool) (B : Addr) : ∀ (cs : List (AV Hd)) (st : List (Nat × Nat)), st ≠ [] → rowAddrA B (poiL bad cs) st = rowAddrA B cs st
  | cs, [], h => absurd rfl h
  | cs, (o, i) :: r, _ => by
    simp only [rowAddrA, poiL_get]
    cases hc : cs[o]? with
    | none => rfl
    | some v =>
      simp only [Option.map_some]
      cases v with
      | tr t => rfl
      | ref q lo n cp g' => cases hb : bad q true <;> simp [poiA, hb]
      | ptr q g' => cases hb : bad q false <;> simp [poiA, hb]
      | _ => rfl
theorem rowAddrE_poi (bad : Place → Bool → Bool) (e : Ent Hd) (st : List (Nat × Nat)) (B : Addr) (row : List (AV Hd)) (h : rowAddrE e st = some (B, row)) : ∃ row', rowAddrE (e.poi bad) st = some (B, row') := by
  have key : ∀ (A : Addr) (cs : List (AV Hd)), rowAddrA A cs st = some (B, row) → ∃ row', rowAddrA A (poiL bad cs) st = some (B, row') := by
    intro A cs h
    by_cases hs : st = []
    · subst hs
      simp only [rowAddrA, Option.some.injEq, Prod.mk.injEq] at h ⊢
      exact ⟨_, h.1, rfl⟩
    · rw [rowAddrA_poi bad A cs st hs]; exact ⟨row, h⟩
  cases e with
  | box g cs =>
    simp only [rowAddrE, Ent.poi] at h ⊢
    cases hg : g.a with
    | none => simp [hg] at h
    | some A => simp only [hg] at h ⊢; exact key A cs h
  | tmp v =>
    simp only [rowAddrE] at h
    simp only [Ent.poi, rowAddrE]
    split at h
    · simp at h
    · rename_i hs
      rw [if_neg hs]
      have := cells_poi bad (.tmp v)
      simp only [Ent.poi] at this
      rw [this]
      exact key _ _ h
  | vir t =>
    simp only [rowAddrE, Ent.poi] at *
    split at h
    · simp at h
    · rename_i hs
      rw [if_neg hs]
      exact ⟨row, h⟩
theorem keeps_poi (S : St Hd) (bad bad' : Place → Bool → Bool) : Keeps S (poi bad S) bad' := by
  refine ⟨fun q _ g w rows h => ⟨rows, ?_, rfl⟩, fun q _ B row h => ?_⟩
  · simp only [getC, rowOf, look_poi] at *
    cases hl : look S q.root with
    | none => simp [hl] at h
    | some e =>
      simp only [hl, Option.map_some] at *
      rw [cells_poi]
      by_cases hs : q.st = []
      · simp only [hs, stepRow] at *
        rw [poiL_get, h]; rfl
      · rw [stepRow_poi bad _ _ hs]; exact h
  · simp only [rowAddrS, look_poi] at *
    cases hl : look S q.root with
    | none => simp [hl] at h
    | some e =>
      simp only [hl, Option.map_some] at *
      exact rowAddrE_poi bad e _ B row h
theorem entOk_poi {a : Act} {w : World} {Z : Zone} (bad : Place → Bool → Bool) {d : Nat} {e : Ent Hd} (h : entOk a w Z d e) : entOk a w Z d (e.poi bad) := by
  cases e with
  | tmp v => exact ⟨IsA_poi bad v _ h.1, memA_poi bad v h.2⟩
  | vir t => exact h
  | box g cs =>
    obtain ⟨h1, A, h2, h3, cells, e, h4, h5, h6⟩ := h
    refine ⟨h1, A, h2, h3, cells, e, h4, by rw [poiL_map]; simpa using h5, fun j c hj => ?_⟩
    rw [poiL_get] at hj
    cases hc : cs[j]? with
    | none => simp [hc] at hj
    | some c0 =>
      simp [hc] at hj
      subst hj
      obtain ⟨⟨v, k1, k2⟩, k3⟩ := h6 j c0 hc
      exact ⟨⟨v, k1, IsA_poi bad c0 v k2⟩, memA_poi bad c0 k3⟩
theorem Good.poi {Z : Zone} {S : St Hd} {a : Act} {w : World} (h : Good Z S a w) (bad : Place → Bool → Bool) : Good Z (HT.poi bad S) a w where
  sorted := poi_sorted bad S h.sorted
  ent d e he := by
    rw [look_poi] at he
    cases hl : look S d with
    | none => simp [hl] at he
    | some e0 => simp [hl] at he; subst he; exact entOk_poi bad (h.ent d e0 hl)
  nd := by rw [ownS_poi]; exact h.nd
  zn := by rw [ownS_poi]; exact h.zn
  zb := h.zb
  refs d e he := by
    rw [look_poi] at he
    cases hl : look S d with
    | none => simp [hl] at he
    | some e0 => simp [hl] at he; subst he; exact refOkE_keeps (keeps_poi S bad bad) e0 (h.refs d e0 hl)

/-! ### Another world -/
theorem entOk_frame {a a' : Act} {w w' : World} {Z : Zone} {d : Nat} {e : Ent Hd} (hf : ∀ b, b ∈ ownE e ∨ Z.b b → w'.heap[b]? = w.heap[b]?) (ha : a'.tmps.getD d undef = a.tmps.getD d undef) (h : entOk a w Z d e) : entOk a' w' Z d e := by
  cases e with
  | tmp v => exact ⟨by rw [ha]; exact h.1, memA_frame v hf h.2⟩
  | vir t => exact memT_frame true t hf h
  | box g cs =>
    obtain ⟨h1, A, h2, h3, cells, e, h4, h5, h6⟩ := h
    refine ⟨by rw [ha]; exact h1, A, h2, h3, cells, e, by rw [hf A.block (.inl (by simp [ownE, blk, h2]))]; exact h4, h5, fun j c hj => ⟨(h6 j c hj).1, memA_frame c (fun b hb => hf b ?_) (h6 j c hj).2⟩⟩
    exact hb.imp (fun x => by simp only [ownE, List.mem_append]; exact .inr (mem_ownAL.2 ⟨c, List.mem_of_getElem? hj, x⟩)) id
theorem Good.frame {Z : Zone} {S : St Hd} {a a' : Act} {w w' : World} (h : Good Z S a w) (hf : ∀ b, b ∈ ownS S ∨ Z.b b → w'.heap[b]? = w.heap[b]?) (hs : w.heap.size ≤ w'.heap.size)
    (ha : ∀ d e, look S d = some e → a'.tmps.getD d undef = a.tmps.getD d undef) : Good Z S a' w' where
  sorted := h.sorted
  ent d e he := entOk_frame (fun b hb => hf b (hb.imp (look_own he b) id)) (ha d e he) (h.ent d e he)
  nd := h.nd
  zn b hb := ⟨(h.zn b hb).1, Nat.lt_of_lt_of_le (h.zn b hb).2 hs⟩
  zb b hb := Nat.lt_of_lt_of_le (h.zb b hb) hs
  refs := h.refs
end Go.HT
end
section
namespace Go.HT
open Go

theorem ownS_put_poi (bad : Place → Bool → Bool) (S : St Hd) (d : Nat) (e : Ent Hd) : ownS (put (poi bad S) d e) = ownS (put S d e) := by
  induction S with
  | nil => rfl
  | cons x r ih =>
    obtain ⟨k, e'⟩ := x
    simp only [poi, put]
    split
    · simp [ownS, ownS_poi]
    · split
      · simp [ownS, ownS_poi, ownE_poi]
      · simp [ownS, ownE_poi, ih]
theorem keeps_put (S : St Hd) (d : Nat) (e : Ent Hd) : Keeps S (put S d e) (badRoot d) := by
  refine ⟨fun q hb g w rows h => ⟨rows, ?_, rfl⟩, fun q hb B row h => ⟨row, ?_⟩⟩
  · have : ¬ q.root = d := by simpa [badRoot] using hb
    rw [getC_root (S := S) (S' := put S d e) (by rw [look_put, if_neg this])]; exact h
  · have : ¬ q.root = d := by simpa [badRoot] using hb
    rw [rowAddr_root (S := S) (S' := put S d e) (by rw [look_put, if_neg this])]; exact h
/-- Something new lies at a slot. -/
theorem Good.putE {Z : Zone} {S : St Hd} {a a' : Act} {w w' : World} (h : Good Z S a w) (d : Nat) (e : Ent Hd)
    (hf : ∀ b, b ∈ ownS (put S d (.vir .undef)) ∨ Z.b b → w'.heap[b]? = w.heap[b]?) (hsz : w.heap.size ≤ w'.heap.size)
    (ha : ∀ d' e', d' ≠ d → look S d' = some e' → a'.tmps.getD d' undef = a.tmps.getD d' undef)
    (he : entOk a' w' Z d (e.poi (badRoot d))) (hnd : (ownE e).Nodup) (hz : ∀ b ∈ ownE e, ¬ Z.b b ∧ b < w'.heap.size)
    (hdis : ∀ b ∈ ownE e, b ∉ ownS (put S d (.vir .undef))) (hr : refOkE S e) : Good Z (put (HT.poi (badRoot d) S) d (e.poi (badRoot d))) a' w' := by
  obtain ⟨rest, p1, p2⟩ := put_perm S d h.sorted
  have pr : (ownS (put S d (.vir .undef))).Perm rest := by simpa [ownE, ownT] using p2 (.vir .undef)
  have pe : (ownS (put (HT.poi (badRoot d) S) d (e.poi (badRoot d)))).Perm (ownE e ++ rest) := by
    rw [ownS_put_poi]; exact (p2 _).trans (by rw [ownE_poi])
  have hk : Keeps S (put (HT.poi (badRoot d) S) d (e.poi (badRoot d))) (badRoot d) := (keeps_poi S (badRoot d) (badRoot d)).trans (keeps_put _ _ _)
  refine ⟨put_sorted _ _ _ (poi_sorted _ _ h.sorted), fun d' e' hl => ?_, ?_, fun b hb => ?_, fun b hb => Nat.lt_of_lt_of_le (h.zb b hb) hsz, fun d' e' hl => ?_⟩
  · rw [look_put] at hl
    split at hl
    · rename_i hd; subst hd
      simp at hl; subst hl; exact he
    · rename_i hd
      rw [look_poi] at hl
      cases hs : look S d' with
      | none => simp [hs] at hl
      | some e0 =>
        simp [hs] at hl; subst hl
        refine entOk_poi _ (entOk_frame (fun b hb => hf b (hb.imp (fun x => ?_) id)) (ha d' e0 hd hs) (h.ent d' e0 hs))
        exact look_own (S := put S d (.vir .undef)) (by rw [look_put, if_neg hd]; exact hs) b x
  · rw [pe.nodup_iff]
    refine List.nodup_append.2 ⟨hnd, (p1.nodup_iff.1 h.nd |> nodup_append_right), fun x hx y hy hxy => ?_⟩
    subst hxy
    exact hdis x hx (pr.mem_iff.2 hy)
  · rcases List.mem_append.1 (pe.mem_iff.1 hb) with hb | hb
    · exact hz b hb
    · have := h.zn b (p1.mem_iff.2 (by simp [hb]))
      exact ⟨this.1, Nat.lt_of_lt_of_le this.2 hsz⟩
  · rw [look_put] at hl
    split at hl
    · simp at hl; subst hl; exact refOkE_keeps hk e hr
    · rw [look_poi] at hl
      cases hs : look S d' with
      | none => simp [hs] at hl
      | some e0 => simp [hs] at hl; subst hl; exact refOkE_keeps hk e0 (h.refs d' e0 hs)

/-! ### Poison that finds nothing -/
theorem scalar_noC {S : St Hd} {d : Nat} (h : scalarE (look (erS S) d) = true) (q : Place) (hq : q.root = d) (g : Hd) (w : Nat) (rows : List (List (Tr Hd))) : getC S q ≠ some (.tr (.sl .own g w rows)) := by
  subst hq
  rw [look_er] at h
  intro hc
  simp only [getC, rowOf] at hc
  cases hl : look S q.root with
  | none => simp [hl] at hc
  | some e =>
    simp only [hl, Option.map_some] at h hc
    have key : ∀ v : AV Hd, e = .tmp v → (∀ g w rows, v ≠ .tr (.sl .own g w rows)) → (∀ cs, v ≠ .agg cs) → False := by
      intro v he h1 h2
      subst he
      have hcs : (Ent.tmp v).cells = [v] := by
        cases v <;> first | rfl | (exact absurd rfl (h2 _))
      rw [hcs] at hc
      cases hs : q.st with
      | nil =>
        simp only [hs, stepRow] at hc
        cases ho : q.off with
        | zero => simp [ho] at hc; exact h1 _ _ _ hc
        | succ n => simp [ho] at hc
      | cons x r =>
        obtain ⟨o, i⟩ := x
        simp only [hs, stepRow] at hc
        cases o with
        | zero =>
          simp only [List.getElem?_cons_zero] at hc
          split at hc
          · rename_i row heq
            split at heq
            · rename_i g w rows hv; simp at hv; exact h1 _ _ _ hv
            · simp at heq
          · simp at hc
        | succ n => simp at hc
    cases e with
    | box g cs => simp [erE, scalarE] at h
    | vir t => simp [erE, scalarE] at h
    | tmp v =>
      cases v with
      | tr t =>
        cases t with
        | sl κ g w rows => cases κ <;> first | (simp [erE, erA, erT, scalarE] at h; done) | exact key _ rfl (by simp) (by simp)
        | _ => exact key _ rfl (by simp) (by simp)
      | agg cs => simp [erE, erA, scalarE] at h
      | _ => exact key _ rfl (by simp) (by simp)
theorem scalar_noA {S : St Hd} {d : Nat} (h : scalarE (look (erS S) d) = true) (q : Place) (hq : q.root = d) : rowAddrS S q.root q.st = none := by
  cases hr : rowAddrS S q.root q.st with
  | none => rfl
  | some x =>
    exfalso
    simp only [rowAddrS] at hr
    subst hq
    cases hl : look S q.root with
    | none => simp [hl] at hr
    | some e =>
      have h' := h
      rw [look_er] at h'
      simp only [hl, Option.map_some] at h' hr
      cases e with
      | box g cs => simp [erE, scalarE] at h'
      | vir t => simp [erE, scalarE] at h'
      | tmp v =>
        simp only [rowAddrE] at hr
        split at hr
        · simp at hr
        · rename_i hs
          cases hst : q.st with
          | nil => exact hs hst
          | cons y r =>
            obtain ⟨o, i⟩ := y
            rw [hst] at hr
            simp only [rowAddrA] at hr
            split at hr
            · rename_i g w rows hc
              exact scalar_noC h ⟨q.root, [], o⟩ rfl g w rows (by simp only [getC, rowOf, hl, stepRow]; exact hc)
            · simp at hr
mutual
theorem poiA_scalar {S : St Hd} {d : Nat} (h : scalarE (look (erS S) d) = true) : ∀ v, refOk S v → poiA (badRoot d) v = v
  | .tr t, _ => rfl
  | .agg cs, hr => by simp [poiA, poiL_scalar h cs hr]
  | .tup cs, hr => by simp [poiA, poiL_scalar h cs hr]
  | .fn _ cs, hr => by simp [poiA, poiL_scalar h cs hr]
  | .ifc _ v, hr => by simp [poiA, poiA_scalar h v hr]
  | .psh .., _ => rfl
  | .ref q lo n cp g, ⟨g0, w, rows, h1, _⟩ => by
    simp only [poiA, badRoot]
    by_cases hq : q.root = d
    · exact absurd h1 (scalar_noC h q hq _ _ _)
    · simp [hq]
  | .ptr q g, ⟨B, row, h1, _⟩ => by
    simp only [poiA, badRoot]
    by_cases hq : q.root = d
    · rw [scalar_noA h q hq] at h1; simp at h1
    · simp [hq]
theorem poiL_scalar {S : St Hd} {d : Nat} (h : scalarE (look (erS S) d) = true) : ∀ l, refOkL S l → poiL (badRoot d) l = l
  | [], _ => rfl
  | v :: r, ⟨h1, h2⟩ => by simp [poiL, poiA_scalar h v h1, poiL_scalar h r h2]
end
theorem poiE_scalar {S : St Hd} {d : Nat} (h : scalarE (look (erS S) d) = true) (e : Ent Hd) (hr : refOkE S e) : e.poi (badRoot d) = e := by
  cases e with
  | tmp v => simp [Ent.poi, poiA_scalar h v hr]
  | box g cs => simp [Ent.poi, poiL_scalar h cs hr]
  | vir t => rfl
theorem poi_of_all (bad : Place → Bool → Bool) (S : St Hd) (h : ∀ x ∈ S, x.2.poi bad = x.2) : poi bad S = S := by
  induction S with
  | nil => rfl
  | cons x r ih => obtain ⟨k, e⟩ := x; simp only [poi]; rw [h (k, e) (by simp), ih fun y hy => h y (by simp [hy])]
theorem look_mem {G : Type} : ∀ {S : St G} {x : Nat × Ent G}, (S.Pairwise fun x y => x.1 < y.1) → x ∈ S → look S x.1 = some x.2
  | (k, e) :: r, x, h, hx => by
    have h' := List.pairwise_cons.1 h
    simp only [look]
    rcases List.mem_cons.1 hx with rfl | hx
    · simp
    · have := h'.1 x hx
      simp only at this
      rw [if_neg (by omega)]
      exact look_mem h'.2 hx
theorem putP_er {Z : Zone} {S : St Hd} {a : Act} {w : World} (h : Good Z S a w) (d : Nat) (e : Ent Hd) (hr : refOkE S e) : putP (erS S) d (erE e) = erS (put (poi (badRoot d) S) d (e.poi (badRoot d))) := by
  rw [put_er, poi_er, poiE_er]
  unfold putP
  split
  · rename_i hs
    rw [← poiE_er, poiE_scalar hs e hr, ← poi_er, poi_of_all _ _ fun x hx => poiE_scalar hs x.2 (h.refs x.1 x.2 (look_mem h.sorted hx))]
  · rfl
end Go.HT
end
section
namespace Go.HT
open Go

/-! ### What a setting leaves -/
theorem keepT : ∀ {st st2 : List (Nat × Nat)} {row row2 : List (Tr Hd)} {off off2 : Nat} {c : Tr Hd}, setRowT row st off c = some row2 → (st.map (·.1) ++ [off]).isPrefixOf (st2.map (·.1)) = false →
    ¬ (st.map (·.1) = st2.map (·.1) ∧ off = off2) → ∀ {g : Hd} {w : Nat} {rows : List (List (Tr Hd))}, getT row st2 off2 = some (.sl .own g w rows) → ∃ rows', getT row2 st2 off2 = some (.sl .own g w rows') ∧ rows'.length = rows.length
  | [], st2, row, row2, off, off2, c, h, hp, hs, g, w, rows, hg => by
    simp only [setRowT] at h
    split at h
    · simp at h; subst h
      cases st2 with
      | nil =>
        have : off ≠ off2 := fun he => hs ⟨rfl, he⟩
        exact ⟨rows, by simpa [getT, List.getElem?_set, this] using hg, rfl⟩
      | cons x r2 =>
        obtain ⟨o2, i2⟩ := x
        have : off ≠ o2 := by simpa [List.isPrefixOf] using hp
        exact ⟨rows, by simpa [getT, List.getElem?_set, this] using hg, rfl⟩
    · simp at h
  | (o, i) :: r, st2, row, row2, off, off2, c, h, hp, hs, g, w, rows, hg => by
    simp only [setRowT] at h
    split at h
    · rename_i g1 w1 rows1 e1
      split at h
      · rename_i row1 e3
        split at h
        · rename_i row3 e4
          simp at h; subst h
          have hlt : o < row.length := (List.getElem?_eq_some_iff.1 e1).1
          cases st2 with
          | nil =>
            by_cases ho : o = off2
            · subst ho
              simp only [getT, e1, Option.some.injEq, Tr.sl.injEq] at hg
              obtain ⟨_, rfl, rfl, rfl⟩ := hg
              exact ⟨rows1.set i row3, by simp [getT, hlt], by simp⟩
            · exact ⟨rows, by simpa [getT, List.getElem?_set, ho] using hg, rfl⟩
          | cons x r2 =>
            obtain ⟨o2, i2⟩ := x
            by_cases ho : o = o2
            · subst ho
              simp only [getT, e1] at hg
              by_cases hi : i = i2
              · subst hi
                rw [e3] at hg
                simp only at hg
                have hilt : i < rows1.length := (List.getElem?_eq_some_iff.1 e3).1
                obtain ⟨rows', k1, k2⟩ := keepT (st2 := r2) e4 (by simpa [List.isPrefixOf] using hp) (by simpa using hs) hg
                exact ⟨rows', by simpa [getT, hlt, hilt] using k1, k2⟩
              · exact ⟨rows, by simpa [getT, hlt, List.getElem?_set, hi] using hg, rfl⟩
            · exact ⟨rows, by simpa [getT, List.getElem?_set, ho] using hg, rfl⟩
        · simp at h
      · simp at h
    · simp at h
theorem keepAddrT : ∀ {st st2 : List (Nat × Nat)} {row row2 r2 : List (Tr Hd)} {B B2 : Addr} {off : Nat} {c : Tr Hd}, setRowT row st off c = some row2 → (st.map (·.1) ++ [off]).isPrefixOf (st2.map (·.1)) = false →
    rowAddrT B row st2 = some (B2, r2) → ∃ r2', rowAddrT B row2 st2 = some (B2, r2')
  | st, [], row, row2, r2, B, B2, off, c, h, hp, ha => by
    simp only [rowAddrT, Option.some.injEq, Prod.mk.injEq] at ha ⊢
    exact ⟨row2, ha.1, rfl⟩
  | [], (o2, i2) :: s2, row, row2, r2, B, B2, off, c, h, hp, ha => by
    simp only [setRowT] at h
    split at h
    · simp at h; subst h
      have : off ≠ o2 := by simpa [List.isPrefixOf] using hp
      exact ⟨r2, by simpa [rowAddrT, List.getElem?_set, this] using ha⟩
    · simp at h
  | (o, i) :: r, (o2, i2) :: s2, row, row2, r2, B, B2, off, c, h, hp, ha => by
    simp only [setRowT] at h
    split at h
    · rename_i g1 w1 rows1 e1
      split at h
      · rename_i row1 e3
        split at h
        · rename_i row3 e4
          simp at h; subst h
          have hlt : o < row.length := (List.getElem?_eq_some_iff.1 e1).1
          by_cases ho : o = o2
          · subst ho
            simp only [rowAddrT, e1] at ha
            simp only [rowAddrT, List.getElem?_set_self hlt]
            cases hg : g1.a with
            | none => simp [hg] at ha
            | some A =>
              simp only [hg] at ha ⊢
              by_cases hi : i = i2
              · subst hi
                have hilt : i < rows1.length := (List.getElem?_eq_some_iff.1 e3).1
                rw [e3] at ha
                simp only [List.getElem?_set_self hilt] at ha ⊢
                exact keepAddrT (st2 := s2) e4 (by simpa [List.isPrefixOf] using hp) ha
              · rw [List.getElem?_set_ne hi]
                exact ⟨r2, ha⟩
          · exact ⟨r2, by simpa [rowAddrT, List.getElem?_set, ho] using ha⟩
        · simp at h
      · simp at h
    · simp at h
def rowT (row : List (Tr Hd)) : List (Nat × Nat) → Option (List (Tr Hd))
  | [] => some row
  | (o, i) :: r => match row[o]? with
    | some (.sl .own _ _ rows) => match rows[i]? with
      | some row' => rowT row' r
      | none => none
    | _ => none
theorem stepRow_tr : ∀ (st : List (Nat × Nat)) (row : List (Tr Hd)), stepRow (row.map .tr) st = (rowT row st).map (·.map .tr)
  | [], row => rfl
  | (o, i) :: r, row => by
    simp only [stepRow, rowT, List.getElem?_map]
    cases h : row[o]? with
    | none => rfl
    | some t =>
      simp only [Option.map_some]
      cases t with
      | sl κ g w rows =>
        cases κ with
        | own =>
          simp only
          cases h2 : rows[i]? with
          | none => rfl
          | some row' => exact stepRow_tr r row'
        | _ => rfl
      | _ => rfl
theorem getT_rowT : ∀ (st : List (Nat × Nat)) (row : List (Tr Hd)) (off : Nat), getT row st off = (rowT row st).bind (·[off]?)
  | [], row, off => rfl
  | (o, i) :: r, row, off => by
    simp only [getT, rowT]
    cases h : row[o]? with
    | none => rfl
    | some t =>
      cases t with
      | sl κ g w rows =>
        cases κ with
        | own =>
          simp only
          cases h2 : rows[i]? with
          | none => rfl
          | some row' => exact getT_rowT r row' off
        | _ => rfl
      | _ => rfl
theorem setRowA_cons {cs cs' : List (AV Hd)} {o i off : Nat} {r : List (Nat × Nat)} {c : AV Hd} (h : setRowA cs ((o, i) :: r) off c = some cs') :
    ∃ g w rows row1 t row3, cs[o]? = some (.tr (.sl .own g w rows)) ∧ rows[i]? = some row1 ∧ c = .tr t ∧ setRowT row1 r off t = some row3 ∧ cs' = cs.set o (.tr (.sl .own g w (rows.set i row3))) := by
  simp only [setRowA] at h
  split at h
  · rename_i g w rows e1
    split at h
    · rename_i row1 e3
      split at h
      · rename_i t
        split at h
        · rename_i row3 e4
          simp at h
          exact ⟨g, w, rows, row1, t, row3, e1, e3, rfl, e4, h.symm⟩
        · simp at h
      · simp at h
    · simp at h
  · simp at h
/-- A cell, seen from a list of cells. -/
def getA (cs : List (AV Hd)) (st : List (Nat × Nat)) (off : Nat) : Option (AV Hd) := match stepRow cs st with
  | some row => row[off]?
  | none => none
theorem getA_cons {cs : List (AV Hd)} {o i off : Nat} {r : List (Nat × Nat)} {g : Hd} {w : Nat} {rows : List (List (Tr Hd))} {row1 : List (Tr Hd)} (h : cs[o]? = some (.tr (.sl .own g w rows))) (h2 : rows[i]? = some row1) :
    getA cs ((o, i) :: r) off = (getT row1 r off).map .tr := by
  simp only [getA, stepRow, h, h2, stepRow_tr, getT_rowT]
  cases rowT row1 r <;> simp
theorem keepA {st st2 : List (Nat × Nat)} {cs cs' : List (AV Hd)} {off off2 : Nat} {c : AV Hd} (h : setRowA cs st off c = some cs') (hp : (st.map (·.1) ++ [off]).isPrefixOf (st2.map (·.1)) = false)
    (hs : ¬ (st.map (·.1) = st2.map (·.1) ∧ off = off2)) {g : Hd} {w : Nat} {rows : List (List (Tr Hd))} (hg : getA cs st2 off2 = some (.tr (.sl .own g w rows))) :
    ∃ rows', getA cs' st2 off2 = some (.tr (.sl .own g w rows')) ∧ rows'.length = rows.length := by
  cases st with
  | nil =>
    simp only [setRowA] at h
    split at h
    · simp at h; subst h
      cases st2 with
      | nil =>
        have : off ≠ off2 := fun he => hs ⟨rfl, he⟩
        exact ⟨rows, by simpa [getA, stepRow, List.getElem?_set, this] using hg, rfl⟩
      | cons x r2 =>
        obtain ⟨o2, i2⟩ := x
        have : off ≠ o2 := by simpa [List.isPrefixOf] using hp
        exact ⟨rows, by simpa [getA, stepRow, List.getElem?_set, this] using hg, rfl⟩
    · simp at h
  | cons x r =>
    obtain ⟨o, i⟩ := x
    obtain ⟨g1, w1, rows1, row1, t, row3, e1, e3, rfl, e4, rfl⟩ := setRowA_cons h
    have hlt : o < cs.length := (List.getElem?_eq_some_iff.1 e1).1
    cases st2 with
    | nil =>
      by_cases ho : o = off2
      · subst ho
        simp only [getA, stepRow, e1, Option.some.injEq, AV.tr.injEq, Tr.sl.injEq] at hg
        obtain ⟨_, rfl, rfl, rfl⟩ := hg
        exact ⟨rows1.set i row3, by simp [getA, stepRow, hlt], by simp⟩
      · exact ⟨rows, by simpa [getA, stepRow, List.getElem?_set, ho] using hg, rfl⟩
    | cons y r2 =>
      obtain ⟨o2, i2⟩ := y
      by_cases ho : o = o2
      · subst ho
        by_cases hi : i = i2
        · subst hi
          have hilt : i < rows1.length := (List.getElem?_eq_some_iff.1 e3).1
          rw [getA_cons e1 e3] at hg
          have hg' : getT row1 r2 off2 = some (.sl .own g w rows) := by
            cases hh : getT row1 r2 off2 with
            | none => simp [hh] at hg
            | some t' => simp [hh] at hg; rw [hg]
          obtain ⟨rows', k1, k2⟩ := keepT (st2 := r2) e4 (by simpa [List.isPrefixOf] using hp) (by simpa using hs) hg'
          exact ⟨rows', by rw [getA_cons (g := g1) (w := w1) (row1 := row3) (rows := rows1.set i row3) (by simp [hlt]) (by simp [hilt]), k1]; rfl, k2⟩
        · refine ⟨rows, ?_, rfl⟩
          simp only [getA, stepRow, e1] at hg
          simpa [getA, stepRow, hlt, List.getElem?_set, hi] using hg
      · exact ⟨rows, by simpa [getA, stepRow, List.getElem?_set, ho] using hg, rfl⟩
theorem keepAddrA {st st2 : List (Nat × Nat)} {cs cs' r2 : List (AV Hd)} {B B2 : Addr} {off : Nat} {c : AV Hd} (h : setRowA cs st off c = some cs') (hp : (st.map (·.1) ++ [off]).isPrefixOf (st2.map (·.1)) = false)
    (ha : rowAddrA B cs st2 = some (B2, r2)) : ∃ r2', rowAddrA B cs' st2 = some (B2, r2') := by
  cases st2 with
  | nil => simp only [rowAddrA, Option.some.injEq, Prod.mk.injEq] at ha ⊢; exact ⟨cs', ha.1, rfl⟩
  | cons y s2 =>
    obtain ⟨o2, i2⟩ := y
    cases st with
    | nil =>
      simp only [setRowA] at h
      split at h
      · simp at h; subst h
        have : off ≠ o2 := by simpa [List.isPrefixOf] using hp
        exact ⟨r2, by simpa [rowAddrA, List.getElem?_set, this] using ha⟩
      · simp at h
    | cons x r =>
      obtain ⟨o, i⟩ := x
      obtain ⟨g1, w1, rows1, row1, t, row3, e1, e3, rfl, e4, rfl⟩ := setRowA_cons h
      have hlt : o < cs.length := (List.getElem?_eq_some_iff.1 e1).1
      by_cases ho : o = o2
      · subst ho
        simp only [rowAddrA, e1] at ha
        simp only [rowAddrA, List.getElem?_set_self hlt]
        cases hg : g1.a with
        | none => simp [hg] at ha
        | some A =>
          simp only [hg] at ha ⊢
          by_cases hi : i = i2
          · subst hi
            have hilt : i < rows1.length := (List.getElem?_eq_some_iff.1 e3).1
            rw [e3] at ha
            simp only [List.getElem?_set_self hilt] at ha ⊢
            cases hr : rowAddrT ⟨A.block, A.off + i * w1, none⟩ row1 s2 with
            | none => simp [hr] at ha
            | some y =>
              simp [hr] at ha
              obtain ⟨B3, r3⟩ := y
              obtain ⟨r3', k⟩ := keepAddrT (st2 := s2) e4 (by simpa [List.isPrefixOf] using hp) hr
              exact ⟨r3'.map .tr, by simp only [k, Option.map_some, Option.some.injEq, Prod.mk.injEq, and_true]; exact ha.1⟩
          · rw [List.getElem?_set_ne hi]
            exact ⟨r2, ha⟩
      · exact ⟨r2, by simpa [rowAddrA, List.getElem?_set, ho] using ha⟩
end Go.HT
end
section
namespace Go.HT
open Go

theorem IsL_get : ∀ {l : List (AV Hd)} {vs : List Value} {i : Nat} {c : AV Hd}, IsL l vs → l[i]? = some c → ∃ v, vs[i]? = some v ∧ IsA c v
  | c0 :: r, _, 0, c, ⟨v, us, rfl, h2, _⟩, h => by simp at h; subst h; exact ⟨v, by simp, h2⟩
  | c0 :: r, _, i + 1, c, ⟨v, us, rfl, _, h3⟩, h => by
    simp at h
    obtain ⟨u, k1, k2⟩ := IsL_get h3 h
    exact ⟨u, by simpa using k1, k2⟩
theorem IsL_length : ∀ {l : List (AV Hd)} {vs : List Value}, IsL l vs → vs.length = l.length
  | [], _, h => by simp [IsL] at h; simp [h]
  | c0 :: r, _, ⟨v, us, rfl, _, h3⟩ => by simp [IsL_length h3]
theorem IsL_set : ∀ {l : List (AV Hd)} {vs : List Value} {i : Nat} {c c' : AV Hd}, IsL l vs → l[i]? = some c → (∀ v, IsA c v → IsA c' v) → IsL (l.set i c') vs
  | c0 :: r, _, 0, c, c', ⟨v, us, rfl, h2, h3⟩, h, hc => by simp at h; subst h; exact ⟨v, us, rfl, hc v h2, h3⟩
  | c0 :: r, _, i + 1, c, c', ⟨v, us, rfl, h2, h3⟩, h, hc => by
    simp at h
    exact ⟨v, us, rfl, h2, IsL_set h3 h hc⟩
theorem ownAL_nodup {l : List (AV Hd)} {o : Nat} {t : AV Hd} (h : (ownAL l).Nodup) (e : l[o]? = some t) : (ownA t).Nodup := by
  obtain ⟨rest, p, _⟩ := ownAL_set e
  exact nodup_append_left (p.nodup_iff.1 h)
theorem ownAL_ne {l : List (AV Hd)} {o j : Nat} {s t : AV Hd} (h : (ownAL l).Nodup) (e1 : l[o]? = some s) (e2 : l[j]? = some t) (hne : o ≠ j) {b : Nat} (hb : b ∈ ownA s) : b ∉ ownA t := by
  obtain ⟨rest, p, p2⟩ := ownAL_set e1
  have hnd := p.nodup_iff.1 h
  intro ht
  have : b ∈ ownAL (l.set o (.tr .undef)) := mem_ownAL.2 ⟨t, List.mem_of_getElem? (i := j) (by rw [List.getElem?_set_ne hne]; exact e2), ht⟩
  have := (p2 (.tr .undef)).mem_iff.1 this
  simp [ownA, ownT] at this
  exact nodup_apart hnd hb this
theorem ownAL_get {l : List (AV Hd)} {o : Nat} {t : AV Hd} (h : l[o]? = some t) {b : Nat} (hb : b ∈ ownA t) : b ∈ ownAL l := mem_ownAL.2 ⟨t, List.mem_of_getElem? h, hb⟩

/-- One tree among cells has turned inside; its header is as it was. -/
theorem deepA {w w' : World} {Z : Zone} {cs cs' : List (AV Hd)} {o i off : Nat} {r : List (Nat × Nat)} {c : AV Hd} {B B0 : Addr} {row : List (AV Hd)} {v : Value} (hs : setRowA cs ((o, i) :: r) off c = some cs')
    (ha : rowAddrA B0 cs ((o, i) :: r) = some (B, row)) (hU : Upd w w' ⟨B.block, B.off + off, none⟩ v) (hv : IsA c v) (hc : memA w' Z c) (hm : ∀ x ∈ cs, memA w Z x) (hnd : (ownAL cs).Nodup) (hz : ∀ b ∈ ownAL cs, ¬ Z.b b) :
    ∃ t t', cs[o]? = some (.tr t) ∧ cs' = cs.set o (.tr t') ∧ (∀ v, IsT t v → IsT t' v) ∧ memT w' Z true t' ∧ B.block ∈ ownT t ∧ (∀ x ∈ cs', memA w' Z x) := by
  obtain ⟨g, wd, rows, row1, t, row3, e1, e3, rfl, e4, rfl⟩ := setRowA_cons hs
  simp only [rowAddrA, e1] at ha
  cases hg : g.a with
  | none => simp [hg] at ha
  | some A =>
    simp only [hg, e3] at ha
    cases hr : rowAddrT ⟨A.block, A.off + i * wd, none⟩ row1 r with
    | none => simp [hr] at ha
    | some y =>
      obtain ⟨B', row'⟩ := y
      simp only [hr, Option.map_some, Option.some.injEq, Prod.mk.injEq] at ha
      obtain ⟨rfl, _⟩ := ha
      have hmem := hm _ (List.mem_of_getElem? e1)
      obtain ⟨k1, k2⟩ := tree_set hmem (ownAL_nodup hnd e1) (fun b hb => hz b (ownAL_get e1 hb)) hg e3 e4 hr hU hv hc
      refine ⟨_, _, e1, rfl, fun v h => by simpa [IsT] using h, k1, k2, fun x hx => ?_⟩
      obtain ⟨j, hj⟩ := List.getElem?_of_mem hx
      rw [List.getElem?_set] at hj
      split at hj
      · split at hj
        · simp at hj; subst hj; exact k1
        · simp at hj
      · rename_i hne
        refine memA_frame x (fun b hb => hU.1 b ?_) (hm x (List.mem_of_getElem? hj))
        rintro rfl
        rcases hb with hb | hb
        · exact ownAL_ne hnd e1 hj hne k2 hb
        · exact hz _ (ownAL_get e1 k2) hb
theorem setRowA_perm {st : List (Nat × Nat)} {cs cs' : List (AV Hd)} {off : Nat} {c : AV Hd} (h : setRowA cs st off c = some cs') :
    ∃ old rest, getA cs st off = some old ∧ (ownAL cs).Perm (ownA old ++ rest) ∧ (ownAL cs').Perm (ownA c ++ rest) := by
  cases st with
  | nil =>
    simp only [setRowA] at h
    split at h
    · rename_i hlt
      simp at h; subst h
      have e : cs[off]? = some cs[off] := by simp [hlt]
      obtain ⟨rest, h1, h2⟩ := ownAL_set e
      exact ⟨_, rest, by simp [getA, stepRow, hlt], h1, h2 c⟩
    · simp at h
  | cons x r =>
    obtain ⟨o, i⟩ := x
    obtain ⟨g, wd, rows, row1, t, row3, e1, e3, rfl, e4, rfl⟩ := setRowA_cons h
    obtain ⟨old, rest, h0, h1, h2⟩ := setRowT_perm e4
    obtain ⟨rest2, k1, k2⟩ := ownRows_set e3
    obtain ⟨rest3, m1, m2⟩ := ownAL_set e1
    refine ⟨.tr old, rest ++ (rest2 ++ (blk g ++ rest3)), by rw [getA_cons e1 e3, h0]; rfl, ?_, ?_⟩
    · refine m1.trans ?_
      have : (ownT (.sl .own g wd rows)).Perm (ownT old ++ (rest ++ (rest2 ++ blk g))) := by
        refine List.perm_append_comm.trans ?_
        refine ((k1.trans (h1.append_right _)).append_right _).trans ?_
        simp [blk, List.append_assoc]
      refine (List.Perm.append_right _ this).trans ?_
      simp [List.append_assoc, ownA]
    · refine (m2 _).trans ?_
      have : (ownT (.sl .own g wd (rows.set i row3))).Perm (ownT t ++ (rest ++ (rest2 ++ blk g))) := by
        refine List.perm_append_comm.trans ?_
        refine (((k2 row3).trans (h2.append_right _)).append_right _).trans ?_
        simp [blk, List.append_assoc]
      refine (List.Perm.append_right _ this).trans ?_
      simp [List.append_assoc, ownA]
/-- An entry, one of whose cells in memory has turned. -/
theorem setE_ok {a : Act} {w w' : World} {Z : Zone} {d off : Nat} {e e' : Ent Hd} {st : List (Nat × Nat)} {c : AV Hd} {B : Addr} {row : List (AV Hd)} {v : Value} (h : entOk a w Z d e) (hs : e.set st off c = some e')
    (ha : rowAddrE e st = some (B, row)) (hU : Upd w w' ⟨B.block, B.off + off, none⟩ v) (hv : IsA c v) (hc : memA w' Z c) (hnd : (ownE e).Nodup) (hz : ∀ b ∈ ownE e, ¬ Z.b b) : entOk a w' Z d e' ∧ B.block ∈ ownE e := by
  cases e with
  | box g cs =>
    obtain ⟨h1, A, h2, h3, cells, e, h4, h5, h6⟩ := h
    simp only [Ent.set] at hs
    split at hs
    · rename_i cs' hs'
      simp at hs; subst hs
      simp only [rowAddrE, h2] at ha
      simp only [ownE, blk, h2] at hnd hz ⊢
      cases st with
      | nil =>
        simp only [rowAddrA, Option.some.injEq, Prod.mk.injEq] at ha
        obtain ⟨rfl, rfl⟩ := ha
        simp only [setRowA] at hs'
        split at hs'
        · rename_i hlt
          simp at hs'; subst hs'
          obtain ⟨hu1, cs0, e0, hu2, hu3, hu4⟩ := hU
          simp only at hu1 hu2 hu3 hu4
          rw [h4] at hu2
          simp at hu2
          obtain ⟨rfl, rfl⟩ := hu2
          refine ⟨⟨h1, A, h2, h3, _, _, hu4, by simpa using h5, fun j c' hj => ?_⟩, by simp⟩
          rw [List.getElem?_set] at hj
          split at hj
          · rename_i he; subst he
            obtain rfl : c = c' := by simpa [hlt] using hj
            exact ⟨⟨v, by simp [hu3], hv⟩, hc⟩
          · rename_i hne
            obtain ⟨⟨v', k1, k2⟩, k3⟩ := h6 j c' hj
            refine ⟨⟨v', by rw [Array.getElem?_setIfInBounds_ne (by omega)]; exact k1, k2⟩, memA_frame c' (fun b hb => hu1 b ?_) k3⟩
            rintro rfl
            rcases hb with hb | hb
            · exact nodup_apart hnd (by simp) (ownAL_get hj hb)
            · exact hz _ (by simp) hb
        · simp at hs'
      | cons x r =>
        obtain ⟨o, i⟩ := x
        obtain ⟨t, t', k1, rfl, k3, k4, k5, k6⟩ := deepA hs' ha hU hv hc (fun x hx => by obtain ⟨j, hj⟩ := List.getElem?_of_mem hx; exact (h6 j x hj).2) (nodup_append_right hnd) (fun b hb => hz b (by simp [hb]))
        have hBA : A.block ≠ B.block := by
          intro hh
          exact nodup_apart hnd (x := A.block) (by simp) (by rw [hh]; exact ownAL_get k1 k5)
        have hlt : o < cs.length := (List.getElem?_eq_some_iff.1 k1).1
        refine ⟨⟨h1, A, h2, h3, cells, e, by rw [hU.1 _ hBA]; exact h4, by simpa using h5, fun j c' hj => ⟨?_, k6 c' (List.mem_of_getElem? hj)⟩⟩, by simp [ownAL_get k1 (by simpa [ownA] using k5)]⟩
        rw [List.getElem?_set] at hj
        split at hj
        · rename_i he; subst he
          simp [hlt] at hj; subst hj
          obtain ⟨⟨v', m1, m2⟩, _⟩ := h6 o _ k1
          exact ⟨v', m1, k3 v' m2⟩
        · exact (h6 j c' hj).1
    · simp at hs
  | vir t =>
    simp only [Ent.set] at hs
    split at hs
    · rename_i t' hs'
      simp at hs; subst hs
      simp only [rowAddrE] at ha
      split at ha
      · simp at ha
      · rename_i hne
        cases st with
        | nil => exact absurd rfl hne
        | cons x r =>
          obtain ⟨o, i⟩ := x
          obtain ⟨t1, t2, k1, k2, k3, k4, k5, k6⟩ := deepA hs' ha hU hv hc (fun x hx => by simp at hx; subst hx; exact h) (by simpa [ownAL, ownA, ownE] using hnd) (fun b hb => hz b (by simpa [ownAL, ownA, ownE] using hb))
          exact ⟨k6 (.tr t') (by simp), by have := ownAL_get k1 (by simpa [ownA] using k5); simpa [ownAL, ownA, ownE, Ent.cells] using this⟩
    · simp at hs
  | tmp v0 =>
    have key : ∀ cs cs', (Ent.tmp v0).cells = cs → setRowA cs st off c = some cs' → (ownA v0 = ownAL cs) → (∀ x ∈ cs, memA w Z x) → ∃ o t t', cs[o]? = some (.tr t) ∧ cs' = cs.set o (.tr t') ∧ (∀ v, IsT t v → IsT t' v) ∧ B.block ∈ ownE (.tmp v0) ∧ (∀ x ∈ cs', memA w' Z x) := by
      intro cs cs' hcs hs' hown hm
      simp only [rowAddrE, hcs] at ha
      split at ha
      · simp at ha
      · rename_i hne
        cases st with
        | nil => exact absurd rfl hne
        | cons x r =>
          obtain ⟨o, i⟩ := x
          simp only [ownE, hown] at hnd hz ⊢
          obtain ⟨t1, t2, k1, k2, k3, k4, k5, k6⟩ := deepA hs' ha hU hv hc hm hnd hz
          exact ⟨o, t1, t2, k1, k2, k3, ownAL_get k1 (by simpa [ownA] using k5), k6⟩
    have key2 : (∀ cs, v0 ≠ .agg cs) → entOk a w' Z d e' ∧ B.block ∈ ownE (.tmp v0) := by
      intro hna
      have hcells : (Ent.tmp v0).cells = [v0] := by cases v0 <;> first | rfl | exact absurd rfl (hna _)
      have hs2 : ∃ v', setRowA [v0] st off c = some [v'] ∧ e' = .tmp v' := by
        cases v0 with
        | agg cs => exact absurd rfl (hna cs)
        | _ =>
          simp only [Ent.set] at hs
          split at hs
          · rename_i v' hh
            simp at hs
            exact ⟨v', hh, hs.symm⟩
          · simp at hs
      obtain ⟨v', hs', rfl⟩ := hs2
      obtain ⟨o, t, t', k1, k2, k3, k4, k5⟩ := key [v0] [v'] hcells hs' (by simp [ownAL]) (fun x hx => by simp at hx; subst hx; exact h.2)
      cases o with
      | succ n => simp at k1
      | zero =>
        simp at k1 k2
        subst k1
        subst k2
        exact ⟨⟨k3 _ h.1, k5 _ (by simp)⟩, k4⟩
    cases v0 with
    | agg cs =>
      simp only [Ent.set] at hs
      split at hs
      · rename_i cs' hs'
        simp at hs; subst hs
        obtain ⟨o, t, t', k1, rfl, k3, k4, k5⟩ := key cs cs' rfl hs' rfl (memL_iff.1 h.2)
        obtain ⟨⟨vs, m1, m2⟩, m3⟩ := h
        exact ⟨⟨⟨vs, m1, IsL_set m2 k1 k3⟩, memL_iff.2 k5⟩, k4⟩
      · simp at hs
    | tr t => exact key2 (by simp)
    | tup t => exact key2 (by simp)
    | ref => exact key2 (by simp)
    | ptr => exact key2 (by simp)
    | psh => exact key2 (by simp)
    | fn => exact key2 (by simp)
    | ifc => exact key2 (by simp)
end Go.HT
end
section
namespace Go.HT
open Go

def isOwn : AV Hd → Bool
  | .tr (.sl .own _ _ _) => true
  | _ => false
def isOwnT : Tr Hd → Bool
  | .sl .own _ _ _ => true
  | _ => false
/-! ### A setting over what is not owned hurts no place -/
theorem keepT' : ∀ {st st2 : List (Nat × Nat)} {row row2 : List (Tr Hd)} {off off2 : Nat} {c old : Tr Hd}, setRowT row st off c = some row2 → getT row st off = some old → isOwnT old = false →
    ∀ {g : Hd} {w : Nat} {rows : List (List (Tr Hd))}, getT row st2 off2 = some (.sl .own g w rows) → ∃ rows', getT row2 st2 off2 = some (.sl .own g w rows') ∧ rows'.length = rows.length
  | [], st2, row, row2, off, off2, c, old, h, ho, hn, g, w, rows, hg => by
    simp only [setRowT] at h
    split at h
    · simp at h; subst h
      simp only [getT] at ho
      cases st2 with
      | nil =>
        by_cases hh : off = off2
        · subst hh; simp only [getT, ho] at hg; simp at hg; subst hg; simp [isOwnT] at hn
        · exact ⟨rows, by simpa [getT, List.getElem?_set, hh] using hg, rfl⟩
      | cons x r2 =>
        obtain ⟨o2, i2⟩ := x
        by_cases hh : off = o2
        · subst hh
          simp only [getT, ho] at hg
          split at hg
          · rename_i heq; simp at heq; subst heq; simp [isOwnT] at hn
          · simp at hg
        · exact ⟨rows, by simpa [getT, List.getElem?_set, hh] using hg, rfl⟩
    · simp at h
  | (o, i) :: r, st2, row, row2, off, off2, c, old, h, ho, hn, g, w, rows, hg => by
    simp only [setRowT] at h
    split at h
    · rename_i g1 w1 rows1 e1
      split at h
      · rename_i row1 e3
        split at h
        · rename_i row3 e4
          simp at h; subst h
          simp only [getT, e1, e3] at ho
          have hlt : o < row.length := (List.getElem?_eq_some_iff.1 e1).1
          cases st2 with
          | nil =>
            by_cases hh : o = off2
            · subst hh
              simp only [getT, e1, Option.some.injEq, Tr.sl.injEq] at hg
              obtain ⟨_, rfl, rfl, rfl⟩ := hg
              exact ⟨rows1.set i row3, by simp [getT, hlt], by simp⟩
            · exact ⟨rows, by simpa [getT, List.getElem?_set, hh] using hg, rfl⟩
          | cons x r2 =>
            obtain ⟨o2, i2⟩ := x
            by_cases hh : o = o2
            · subst hh
              simp only [getT, e1] at hg
              by_cases hi : i = i2
              · subst hi
                rw [e3] at hg
                simp only at hg
                have hilt : i < rows1.length := (List.getElem?_eq_some_iff.1 e3).1
                obtain ⟨rows', k1, k2⟩ := keepT' (st2 := r2) e4 ho hn hg
                exact ⟨rows', by simpa [getT, hlt, hilt] using k1, k2⟩
              · exact ⟨rows, by simpa [getT, hlt, List.getElem?_set, hi] using hg, rfl⟩
            · exact ⟨rows, by simpa [getT, List.getElem?_set, hh] using hg, rfl⟩
        · simp at h
      · simp at h
    · simp at h
theorem keepAddrT' : ∀ {st st2 : List (Nat × Nat)} {row row2 r2 : List (Tr Hd)} {B B2 : Addr} {off : Nat} {c old : Tr Hd}, setRowT row st off c = some row2 → getT row st off = some old → isOwnT old = false →
    rowAddrT B row st2 = some (B2, r2) → ∃ r2', rowAddrT B row2 st2 = some (B2, r2')
  | st, [], row, row2, r2, B, B2, off, c, old, h, ho, hn, ha => by
    simp only [rowAddrT, Option.some.injEq, Prod.mk.injEq] at ha ⊢
    exact ⟨row2, ha.1, rfl⟩
  | [], (o2, i2) :: s2, row, row2, r2, B, B2, off, c, old, h, ho, hn, ha => by
    simp only [setRowT] at h
    split at h
    · simp at h; subst h
      simp only [getT] at ho
      by_cases hh : off = o2
      · subst hh
        simp only [rowAddrT, ho] at ha
        split at ha
        · rename_i heq; simp at heq; subst heq; simp [isOwnT] at hn
        · simp at ha
      · exact ⟨r2, by simpa [rowAddrT, List.getElem?_set, hh] using ha⟩
    · simp at h
  | (o, i) :: r, (o2, i2) :: s2, row, row2, r2, B, B2, off, c, old, h, ho, hn, ha => by
    simp only [setRowT] at h
    split at h
    · rename_i g1 w1 rows1 e1
      split at h
      · rename_i row1 e3
        split at h
        · rename_i row3 e4
          simp at h; subst h
          simp only [getT, e1, e3] at ho
          have hlt : o < row.length := (List.getElem?_eq_some_iff.1 e1).1
          by_cases hh : o = o2
          · subst hh
            simp only [rowAddrT, e1] at ha
            simp only [rowAddrT, List.getElem?_set_self hlt]
            cases hg : g1.a with
            | none => simp [hg] at ha
            | some A =>
              simp only [hg] at ha ⊢
              by_cases hi : i = i2
              · subst hi
                have hilt : i < rows1.length := (List.getElem?_eq_some_iff.1 e3).1
                rw [e3] at ha
                simp only [List.getElem?_set_self hilt] at ha ⊢
                exact keepAddrT' (st2 := s2) e4 ho hn ha
              · rw [List.getElem?_set_ne hi]
                exact ⟨r2, ha⟩
          · exact ⟨r2, by simpa [rowAddrT, List.getElem?_set, hh] using ha⟩
        · simp at h
      · simp at h
    · simp at h
theorem keepA' {st st2 : List (Nat × Nat)} {cs cs' : List (AV Hd)} {off off2 : Nat} {c old : AV Hd} (h : setRowA cs st off c = some cs') (ho : getA cs st off = some old) (hn : isOwn old = false)
    {g : Hd} {w : Nat} {rows : List (List (Tr Hd))} (hg : getA cs st2 off2 = some (.tr (.sl .own g w rows))) :
    ∃ rows', getA cs' st2 off2 = some (.tr (.sl .own g w rows')) ∧ rows'.length = rows.length := by
  cases st with
  | nil =>
    simp only [setRowA] at h
    split at h
    · simp at h; subst h
      simp only [getA, stepRow] at ho
      cases st2 with
      | nil =>
        by_cases hh : off = off2
        · subst hh; simp only [getA, stepRow, ho] at hg; simp at hg; subst hg; simp [isOwn] at hn
        · exact ⟨rows, by simpa [getA, stepRow, List.getElem?_set, hh] using hg, rfl⟩
      | cons x r2 =>
        obtain ⟨o2, i2⟩ := x
        by_cases hh : off = o2
        · subst hh
          simp only [getA, stepRow, ho] at hg
          split at hg
          · rename_i heq
            split at heq
            · rename_i hv; simp at hv; subst hv; simp [isOwn] at hn
            · simp at heq
          · simp at hg
        · exact ⟨rows, by simpa [getA, stepRow, List.getElem?_set, hh] using hg, rfl⟩
    · simp at h
  | cons x r =>
    obtain ⟨o, i⟩ := x
    obtain ⟨g1, w1, rows1, row1, t, row3, e1, e3, rfl, e4, rfl⟩ := setRowA_cons h
    have hlt : o < cs.length := (List.getElem?_eq_some_iff.1 e1).1
    rw [getA_cons e1 e3] at ho
    obtain ⟨old', ho', rfl⟩ : ∃ t, getT row1 r off = some t ∧ old = .tr t := by
      cases hh : getT row1 r off with
      | none => simp [hh] at ho
      | some t' => simp [hh] at ho; exact ⟨t', rfl, ho.symm⟩
    have hn' : isOwnT old' = false := by
      cases old' with
      | sl κ _ _ _ => cases κ <;> simp_all [isOwn, isOwnT]
      | _ => rfl
    cases st2 with
    | nil =>
      by_cases hh : o = off2
      · subst hh
        simp only [getA, stepRow, e1, Option.some.injEq, AV.tr.injEq, Tr.sl.injEq] at hg
        obtain ⟨_, rfl, rfl, rfl⟩ := hg
        exact ⟨rows1.set i row3, by simp [getA, stepRow, hlt], by simp⟩
      · exact ⟨rows, by simpa [getA, stepRow, List.getElem?_set, hh] using hg, rfl⟩
    | cons y r2 =>
      obtain ⟨o2, i2⟩ := y
      by_cases hh : o = o2
      · subst hh
        by_cases hi : i = i2
        · subst hi
          have hilt : i < rows1.length := (List.getElem?_eq_some_iff.1 e3).1
          rw [getA_cons e1 e3] at hg
          have hg' : getT row1 r2 off2 = some (.sl .own g w rows) := by
            cases hh : getT row1 r2 off2 with
            | none => simp [hh] at hg
            | some t' => simp [hh] at hg; rw [hg]
          obtain ⟨rows', k1, k2⟩ := keepT' (st2 := r2) e4 ho' hn' hg'
          exact ⟨rows', by rw [getA_cons (g := g1) (w := w1) (row1 := row3) (rows := rows1.set i row3) (by simp [hlt]) (by simp [hilt]), k1]; rfl, k2⟩
        · refine ⟨rows, ?_, rfl⟩
          simp only [getA, stepRow, e1] at hg
          simpa [getA, stepRow, hlt, List.getElem?_set, hi] using hg
      · exact ⟨rows, by simpa [getA, stepRow, List.getElem?_set, hh] using hg, rfl⟩
theorem keepAddrA' {st st2 : List (Nat × Nat)} {cs cs' r2 : List (AV Hd)} {B B2 : Addr} {off : Nat} {c old : AV Hd} (h : setRowA cs st off c = some cs') (ho : getA cs st off = some old) (hn : isOwn old = false)
    (ha : rowAddrA B cs st2 = some (B2, r2)) : ∃ r2', rowAddrA B cs' st2 = some (B2, r2') := by
  cases st2 with
  | nil => simp only [rowAddrA, Option.some.injEq, Prod.mk.injEq] at ha ⊢; exact ⟨cs', ha.1, rfl⟩
  | cons y s2 =>
    obtain ⟨o2, i2⟩ := y
    cases st with
    | nil =>
      simp only [setRowA] at h
      split at h
      · simp at h; subst h
        simp only [getA, stepRow] at ho
        by_cases hh : off = o2
        · subst hh
          simp only [rowAddrA, ho] at ha
          split at ha
          · rename_i heq; simp at heq; subst heq; simp [isOwn] at hn
          · simp at ha
        · exact ⟨r2, by simpa [rowAddrA, List.getElem?_set, hh] using ha⟩
      · simp at h
    | cons x r =>
      obtain ⟨o, i⟩ := x
      obtain ⟨g1, w1, rows1, row1, t, row3, e1, e3, rfl, e4, rfl⟩ := setRowA_cons h
      have hlt : o < cs.length := (List.getElem?_eq_some_iff.1 e1).1
      rw [getA_cons e1 e3] at ho
      obtain ⟨old', ho', rfl⟩ : ∃ t, getT row1 r off = some t ∧ old = .tr t := by
        cases hh : getT row1 r off with
        | none => simp [hh] at ho
        | some t' => simp [hh] at ho; exact ⟨t', rfl, ho.symm⟩
      have hn' : isOwnT old' = false := by
        cases old' with
        | sl κ _ _ _ => cases κ <;> simp_all [isOwn, isOwnT]
        | _ => rfl
      by_cases hh : o = o2
      · subst hh
        simp only [rowAddrA, e1] at ha
        simp only [rowAddrA, List.getElem?_set_self hlt]
        cases hg : g1.a with
        | none => simp [hg] at ha
        | some A =>
          simp only [hg] at ha ⊢
          by_cases hi : i = i2
          · subst hi
            have hilt : i < rows1.length := (List.getElem?_eq_some_iff.1 e3).1
            rw [e3] at ha
            simp only [List.getElem?_set_self hilt] at ha ⊢
            cases hr : rowAddrT ⟨A.block, A.off + i * w1, none⟩ row1 s2 with
            | none => simp [hr] at ha
            | some y =>
              simp [hr] at ha
              obtain ⟨B3, r3⟩ := y
              obtain ⟨r3', k⟩ := keepAddrT' (st2 := s2) e4 ho' hn' hr
              exact ⟨r3'.map .tr, by simp only [k, Option.map_some, Option.some.injEq, Prod.mk.injEq, and_true]; exact ha.1⟩
          · rw [List.getElem?_set_ne hi]
            exact ⟨r2, ha⟩
      · exact ⟨r2, by simpa [rowAddrA, List.getElem?_set, hh] using ha⟩

/-! ### Entries -/
theorem setE_cells {e e' : Ent Hd} {st : List (Nat × Nat)} {off : Nat} {c : AV Hd} (h : e.set st off c = some e') :
    setRowA e.cells st off c = some e'.cells ∨ (st = [] ∧ ∃ v, e = .tmp v ∧ (∀ cs, v ≠ .agg cs) ∧ e' = .tmp c ∧ off = 0) := by
  cases e with
  | box g cs =>
    simp only [Ent.set] at h
    split at h
    · rename_i cs' h'; simp at h; subst h; exact .inl h'
    · simp at h
  | vir t =>
    simp only [Ent.set] at h
    split at h
    · rename_i t' h'; simp at h; subst h; exact .inl h'
    · simp at h
  | tmp v =>
    have key : (∀ cs, v ≠ .agg cs) → (∃ v', setRowA [v] st off c = some [v'] ∧ e' = .tmp v') → setRowA (Ent.tmp v).cells st off c = some e'.cells ∨ (st = [] ∧ ∃ v0, Ent.tmp v = .tmp v0 ∧ (∀ cs, v0 ≠ .agg cs) ∧ e' = .tmp c ∧ off = 0) := by
      rintro hna ⟨v', h1, rfl⟩
      cases st with
      | nil =>
        right
        simp only [setRowA] at h1
        split at h1
        · rename_i hlt
          have : off = 0 := by simpa using hlt
          subst this
          simp at h1; subst h1
          exact ⟨rfl, v, rfl, hna, rfl, rfl⟩
        · simp at h1
      | cons x r =>
        left
        obtain ⟨o, i⟩ := x
        have hcells : (Ent.tmp v).cells = [v] := by cases v <;> first | rfl | exact absurd rfl (hna _)
        rw [hcells, h1]
        obtain ⟨g1, w1, rows1, row1, t, row3, e1, e3, rfl, e4, e5⟩ := setRowA_cons h1
        cases o with
        | succ n => simp at e1
        | zero => simp at e5; subst e5; rfl
    cases v with
    | agg cs =>
      simp only [Ent.set] at h
      split at h
      · rename_i cs' h'; simp at h; subst h; exact .inl h'
      · simp at h
    | _ =>
      refine key (by simp) ?_
      simp only [Ent.set] at h
      split at h
      · rename_i v' hh; simp at h; exact ⟨v', hh, h.symm⟩
      · simp at h
theorem getC_getA {S : St Hd} {q : Place} {e : Ent Hd} (h : look S q.root = some e) : getC S q = getA e.cells q.st q.off := by
  simp only [getC, rowOf, h, getA]
  cases stepRow e.cells q.st <;> rfl
def blkE : Ent Hd → List Nat
  | .box g _ => blk g
  | _ => []
theorem ownE_cells (e : Ent Hd) : ownE e = blkE e ++ ownAL e.cells := by
  cases e with
  | box g cs => rfl
  | vir t => simp [ownE, Ent.cells, ownAL, ownA, blkE]
  | tmp v => cases v <;> simp [ownE, Ent.cells, ownAL, ownA, blkE]
theorem setE_perm {e e' : Ent Hd} {st : List (Nat × Nat)} {off : Nat} {c : AV Hd} (h : e.set st off c = some e') :
    ∃ old rest, getA e.cells st off = some old ∧ (ownE e).Perm (ownA old ++ rest) ∧ (ownE e').Perm (ownA c ++ rest) := by
  rcases setE_cells h with h1 | ⟨rfl, v, rfl, hna, rfl, rfl⟩
  · obtain ⟨old, rest, k1, k2, k3⟩ := setRowA_perm h1
    have hb : blkE e = blkE e' := by
      cases e with
      | box g cs => simp only [Ent.set] at h; split at h <;> simp at h; subst h; rfl
      | vir t => simp only [Ent.set] at h; split at h <;> simp at h; subst h; rfl
      | tmp v =>
        cases v <;> (simp only [Ent.set] at h; split at h <;> simp at h; subst h; rfl)
    refine ⟨old, blkE e ++ rest, k1, ?_, ?_⟩
    · rw [ownE_cells]
      exact ((List.Perm.refl _).append k2).trans (by rw [← List.append_assoc, ← List.append_assoc]; exact List.perm_append_comm.append_right _)
    · rw [ownE_cells, hb]
      exact ((List.Perm.refl _).append k3).trans (by rw [← List.append_assoc, ← List.append_assoc]; exact List.perm_append_comm.append_right _)
  · refine ⟨v, [], ?_, by simp [ownE], by simp [ownE]⟩
    cases v <;> first | rfl | exact absurd rfl (hna _)
theorem rowAddrE_A {e : Ent Hd} {st : List (Nat × Nat)} {B : Addr} {row : List (AV Hd)} (h : rowAddrE e st = some (B, row)) : ∃ B0, rowAddrA B0 e.cells st = some (B, row) := by
  cases e with
  | box g cs =>
    simp only [rowAddrE] at h
    cases hg : g.a with
    | none => simp [hg] at h
    | some A => simp only [hg] at h; exact ⟨A, h⟩
  | vir t => simp only [rowAddrE] at h; split at h; simp at h; exact ⟨_, h⟩
  | tmp v => simp only [rowAddrE] at h; split at h; simp at h; exact ⟨_, h⟩
theorem keepsE_addr {e e' : Ent Hd} {st st2 : List (Nat × Nat)} {off : Nat} {c : AV Hd} (h : e.set st off c = some e') {B : Addr} {row : List (AV Hd)} (ha : rowAddrE e st2 = some (B, row))
    (key : ∀ B0, setRowA e.cells st off c = some e'.cells → rowAddrA B0 e.cells st2 = some (B, row) → ∃ r', rowAddrA B0 e'.cells st2 = some (B, r')) (h2 : st = [] → off = 0 → (∃ o i r, st2 = (o, i) :: r) → (∀ v, e = .tmp v → isOwn v = true → False)) : ∃ r', rowAddrE e' st2 = some (B, r') := by
  rcases setE_cells h with h1 | ⟨rfl, v, rfl, hna, rfl, rfl⟩
  · cases e with
    | box g cs =>
      simp only [Ent.set] at h
      split at h
      · simp at h; subst h
        simp only [rowAddrE] at ha ⊢
        cases hg : g.a with
        | none => simp [hg] at ha
        | some A => simp only [hg] at ha ⊢; exact key A h1 ha
      · simp at h
    | vir t =>
      simp only [Ent.set] at h
      split at h
      · simp at h; subst h
        simp only [rowAddrE] at ha ⊢
        split at ha
        · simp at ha
        · rename_i hh; rw [if_neg hh]; exact key _ h1 ha
      · simp at h
    | tmp v =>
      have : ∃ v', e' = .tmp v' := by
        cases v <;> (simp only [Ent.set] at h; split at h <;> simp at h; exact ⟨_, h.symm⟩)
      obtain ⟨v', rfl⟩ := this
      simp only [rowAddrE] at ha ⊢
      split at ha
      · simp at ha
      · rename_i hh; rw [if_neg hh]; exact key _ h1 ha
  · exfalso
    simp only [rowAddrE] at ha
    split at ha
    · simp at ha
    · rename_i hh
      cases st2 with
      | nil => exact hh rfl
      | cons x r =>
        obtain ⟨o, i⟩ := x
        refine h2 rfl rfl ⟨o, i, r, rfl⟩ v rfl ?_
        have hcells : (Ent.tmp v).cells = [v] := by cases v <;> first | rfl | exact absurd rfl (hna _)
        rw [hcells] at ha
        simp only [rowAddrA] at ha
        cases o with
        | succ n => simp at ha
        | zero =>
          simp only [List.getElem?_cons_zero] at ha
          split at ha
          · rename_i heq; simp at heq; subst heq; rfl
          · simp at ha
end Go.HT
end
section
namespace Go.HT
open Go

theorem setC_look {S S' : St Hd} {q : Place} {c : AV Hd} (h : setC S q c = some S') : ∃ e e', look S q.root = some e ∧ e.set q.st q.off c = some e' ∧ S' = put S q.root e' := by
  simp only [setC] at h
  split at h
  · rename_i e he
    split at h
    · rename_i e' he'; simp at h; exact ⟨e, e', he, he', h.symm⟩
    · simp at h
  · simp at h
theorem not_thru_pre {pl q : Place} (hr : q.root = pl.root) (h : badAt pl q false = false) : (pl.st.map (·.1) ++ [pl.off]).isPrefixOf (q.st.map (·.1)) = false := by
  simpa [badAt, thru, hr, Place.chain] using h
theorem not_same {pl q : Place} (hr : q.root = pl.root) (h : badAt pl q true = false) : (pl.st.map (·.1) ++ [pl.off]).isPrefixOf (q.st.map (·.1)) = false ∧ ¬ (pl.st.map (·.1) = q.st.map (·.1) ∧ pl.off = q.off) := by
  simp only [badAt, thru, same, hr, Place.chain, Bool.true_and, Bool.or_eq_false_iff, beq_self_eq_true] at h
  refine ⟨h.1, fun ⟨h1, h2⟩ => ?_⟩
  have := h.2
  rw [h1, h2] at this
  simp at this
theorem cells_na {v : AV Hd} (h : ∀ cs, v ≠ .agg cs) : (Ent.tmp v).cells = [v] := by cases v <;> first | rfl | exact absurd rfl (h _)
theorem keeps_setC {S S' : St Hd} {q : Place} {c : AV Hd} (h : setC S q c = some S') : Keeps S S' (badAt q) := by
  obtain ⟨e, e', h1, h2, rfl⟩ := setC_look h
  refine ⟨fun q2 hb g w rows hg => ?_, fun q2 hb B row ha => ?_⟩
  · by_cases hr : q2.root = q.root
    · obtain ⟨hp, hs⟩ := not_same hr hb
      have hl : look (put S q.root e') q2.root = some e' := by rw [look_put, if_pos hr]
      rw [getC_getA (hr ▸ h1)] at hg
      rw [getC_getA hl]
      rcases setE_cells h2 with k | ⟨k1, v, rfl, hna, rfl, k2⟩
      · exact keepA k hp hs hg
      · exfalso
        rw [cells_na hna] at hg
        cases hst : q2.st with
        | nil =>
          simp only [hst, getA, stepRow] at hg
          cases ho : q2.off with
          | zero => exact hs ⟨by simp [k1, hst], by rw [k2, ho]⟩
          | succ n => simp [ho] at hg
        | cons x r =>
          obtain ⟨o, i⟩ := x
          simp only [hst, getA, stepRow] at hg
          cases o with
          | zero => simp [k1, k2, hst, List.isPrefixOf] at hp
          | succ n => simp at hg
    · exact ⟨rows, by rw [getC_root (S := S) (by rw [look_put, if_neg hr])]; exact hg, rfl⟩
  · by_cases hr : q2.root = q.root
    · have hp := not_thru_pre hr hb
      have hl : look (put S q.root e') q2.root = some e' := by rw [look_put, if_pos hr]
      simp only [rowAddrS, hl]
      simp only [rowAddrS, hr ▸ h1] at ha
      refine keepsE_addr h2 ha (fun B0 k1 k2 => keepAddrA k1 hp k2) (fun k1 k2 ⟨o, i, r, k3⟩ v hv hown => ?_)
      subst hv
      have hna : ∀ cs, v ≠ .agg cs := by rintro cs rfl; simp [isOwn] at hown
      simp only [rowAddrE, cells_na hna, k3] at ha
      split at ha
      · simp at ha
      · simp only [rowAddrA] at ha
        cases o with
        | zero => rw [k1, k2, k3] at hp; simp [List.isPrefixOf] at hp
        | succ n => simp at ha
    · exact ⟨row, by rw [rowAddr_root (S := S) (by rw [look_put, if_neg hr])]; exact ha⟩
theorem keeps_setC' {S S' : St Hd} {q : Place} {c old : AV Hd} (h : setC S q c = some S') (ho : getC S q = some old) (hn : isOwn old = false) (bad : Place → Bool → Bool) : Keeps S S' bad := by
  obtain ⟨e, e', h1, h2, rfl⟩ := setC_look h
  rw [getC_getA h1] at ho
  refine ⟨fun q2 hb g w rows hg => ?_, fun q2 hb B row ha => ?_⟩
  · by_cases hr : q2.root = q.root
    · have hl : look (put S q.root e') q2.root = some e' := by rw [look_put, if_pos hr]
      rw [getC_getA (hr ▸ h1)] at hg
      rw [getC_getA hl]
      rcases setE_cells h2 with k | ⟨k1, v, rfl, hna, rfl, k2⟩
      · exact keepA' k ho hn hg
      · exfalso
        rw [cells_na hna] at hg ho
        simp only [k1, k2, getA, stepRow] at ho
        simp at ho; subst ho
        cases hst : q2.st with
        | nil =>
          simp only [hst, getA, stepRow] at hg
          cases ho : q2.off with
          | zero => simp [ho] at hg; subst hg; simp [isOwn] at hn
          | succ n => simp [ho] at hg
        | cons x r =>
          obtain ⟨o, i⟩ := x
          simp only [hst, getA, stepRow] at hg
          cases o with
          | zero =>
            simp only [List.getElem?_cons_zero] at hg
            split at hg
            · rename_i heq
              split at heq
              · rename_i hv; simp at hv; subst hv; simp [isOwn] at hn
              · simp at heq
            · simp at hg
          | succ n => simp at hg
    · exact ⟨rows, by rw [getC_root (S := S) (by rw [look_put, if_neg hr])]; exact hg, rfl⟩
  · by_cases hr : q2.root = q.root
    · have hl : look (put S q.root e') q2.root = some e' := by rw [look_put, if_pos hr]
      simp only [rowAddrS, hl]
      simp only [rowAddrS, hr ▸ h1] at ha
      refine keepsE_addr h2 ha (fun B0 k1 k2 => keepAddrA' k1 ho hn k2) (fun k1 k2 _ v hv hown => ?_)
      subst hv
      have hna : ∀ cs, v ≠ .agg cs := by rintro cs rfl; simp [isOwn] at hown
      rw [cells_na hna] at ho
      simp only [k1, k2, getA, stepRow] at ho
      simp at ho; subst ho
      rw [hown] at hn; simp at hn
    · exact ⟨row, by rw [rowAddr_root (S := S) (by rw [look_put, if_neg hr])]; exact ha⟩
theorem refOkE_set {S : St Hd} {e e' : Ent Hd} {st : List (Nat × Nat)} {off : Nat} {c : AV Hd} (h : e.set st off c = some e') (he : refOkE S e) (hc : refOk S c) : refOkE S e' := by
  have key : ∀ cs cs', setRowA cs st off c = some cs' → (∀ x ∈ cs, refOk S x) → ∀ x ∈ cs', refOk S x := by
    intro cs cs' hs hx x hm
    cases st with
    | nil =>
      simp only [setRowA] at hs
      split at hs
      · simp at hs; subst hs
        rcases List.mem_or_eq_of_mem_set hm with hm | rfl
        · exact hx x hm
        · exact hc
      · simp at hs
    | cons y r =>
      obtain ⟨o, i⟩ := y
      obtain ⟨g, wd, rows, row1, t, row3, e1, e3, rfl, e4, rfl⟩ := setRowA_cons hs
      rcases List.mem_or_eq_of_mem_set hm with hm | rfl
      · exact hx x hm
      · trivial
  cases e with
  | box g cs =>
    simp only [Ent.set] at h
    split at h
    · rename_i cs' hs; simp at h; subst h
      exact refOkL_iff.2 (key cs cs' hs (refOkL_iff.1 he))
    · simp at h
  | vir t => simp only [Ent.set] at h; split at h <;> simp at h; subst h; trivial
  | tmp v =>
    cases v with
    | agg cs =>
      simp only [Ent.set] at h
      split at h
      · rename_i cs' hs; simp at h; subst h
        exact refOkL_iff.2 (key cs cs' hs (refOkL_iff.1 he))
      · simp at h
    | _ =>
      simp only [Ent.set] at h
      split at h
      · rename_i v' hs; simp at h; subst h
        exact key _ _ hs (fun x hx => by simp at hx; subst hx; exact he) v' (by simp)
      · simp at h
theorem rowAddrE_own {a : Act} {w : World} {Z : Zone} {d : Nat} {e : Ent Hd} {st : List (Nat × Nat)} {B : Addr} {row : List (AV Hd)} (_h : entOk a w Z d e) (ha : rowAddrE e st = some (B, row)) : B.block ∈ ownE e := by
  have key : ∀ B0 cs o i r, rowAddrA B0 cs ((o, i) :: r) = some (B, row) → B.block ∈ ownAL cs := by
    intro B0 cs o i r hk
    simp only [rowAddrA] at hk
    split at hk
    · rename_i g w rows e1
      cases hg : g.a with
      | none => simp [hg] at hk
      | some A =>
        simp only [hg] at hk
        cases h3 : rows[i]? with
        | none => simp [h3] at hk
        | some row1 =>
          simp only [h3] at hk
          cases hr : rowAddrT ⟨A.block, A.off + i * w, none⟩ row1 r with
          | none => simp [hr] at hk
          | some y =>
            obtain ⟨B', row'⟩ := y
            simp only [hr, Option.map_some, Option.some.injEq, Prod.mk.injEq] at hk
            obtain ⟨rfl, _⟩ := hk
            refine ownAL_get e1 ?_
            simp only [ownA, ownT]
            rcases rowAddr_block hr with ⟨_, rfl, _⟩ | hb
            · simp [hg]
            · simp [ownRows_get h3 hb]
    · simp at hk
  cases e with
  | box g cs =>
    simp only [rowAddrE] at ha
    cases hg : g.a with
    | none => simp [hg] at ha
    | some A =>
      simp only [hg] at ha
      cases st with
      | nil => simp [rowAddrA] at ha; simp [ownE, blk, hg, ha.1]
      | cons x r => obtain ⟨o, i⟩ := x; simp [ownE, key A cs o i r ha]
  | vir t =>
    simp only [rowAddrE] at ha
    split at ha
    · simp at ha
    · cases st with
      | nil => rename_i hh; exact absurd rfl hh
      | cons x r => obtain ⟨o, i⟩ := x; have := key _ _ o i r ha; simpa [ownE, Ent.cells, ownAL, ownA] using this
  | tmp v =>
    simp only [rowAddrE] at ha
    split at ha
    · simp at ha
    · cases st with
      | nil => rename_i hh; exact absurd rfl hh
      | cons x r =>
        obtain ⟨o, i⟩ := x
        have := key _ _ o i r ha
        rw [ownE_cells]
        simp [this]
/-- An entry has turned. -/
theorem Good.setCore {Z : Zone} {S S' : St Hd} {a : Act} {w w' : World} {q : Place} {c : AV Hd} {bad : Place → Bool → Bool} (h : Good Z S a w) (hs : HT.setC S q c = some S')
    (hk : Keeps S S' bad) (hp : HT.poi bad S = S) (hcp : poiA bad c = c) (hsz : w.heap.size ≤ w'.heap.size)
    (hcn : (ownA c).Nodup) (hcz : ∀ b ∈ ownA c, ¬ Z.b b ∧ b < w'.heap.size) (hdis : ∀ b ∈ ownA c, b ∉ ownS S) (hr : refOk S c)
    (hent : ∀ e e', look S q.root = some e → e.set q.st q.off c = some e' → entOk a w' Z q.root e') (hfr : ∀ d e0, look S d = some e0 → d ≠ q.root → entOk a w' Z d e0) : Good Z S' a w' := by
  obtain ⟨e, e', h1, h2, rfl⟩ := setC_look hs
  obtain ⟨old, rest, p0, p1, p2⟩ := setE_perm h2
  obtain ⟨rest2, r1, r2⟩ := put_perm S q.root h.sorted
  simp only [oldE, h1] at r1
  have pS : (ownS S).Perm (ownA old ++ (rest ++ rest2)) := r1.trans ((p1.append_right _).trans (by simp [List.append_assoc]))
  have pS' : (ownS (put S q.root e')).Perm (ownA c ++ (rest ++ rest2)) := (r2 e').trans ((p2.append_right _).trans (by simp [List.append_assoc]))
  refine ⟨put_sorted _ _ _ h.sorted, fun d e0 hl => ?_, ?_, fun b hb => ?_, fun b hb => Nat.lt_of_lt_of_le (h.zb b hb) hsz, fun d e0 hl => ?_⟩
  · rw [look_put] at hl
    split at hl
    · rename_i hd; subst hd; simp at hl; subst hl; exact hent e _ h1 h2
    · rename_i hd
      exact hfr d e0 hl hd
  · rw [pS'.nodup_iff]
    refine List.nodup_append.2 ⟨hcn, nodup_append_right (pS.nodup_iff.1 h.nd), fun x hx y hy hxy => ?_⟩
    subst hxy
    exact hdis x hx (pS.mem_iff.2 (List.mem_append.2 (.inr hy)))
  · rcases List.mem_append.1 (pS'.mem_iff.1 hb) with hb | hb
    · exact hcz b hb
    · have := h.zn b (pS.mem_iff.2 (by simp [hb]))
      exact ⟨this.1, Nat.lt_of_lt_of_le this.2 hsz⟩
  · have hpe : ∀ d e0, look S d = some e0 → e0.poi bad = e0 := by
      intro d e0 hl
      have := look_poi bad S d
      rw [hp, hl] at this
      simp at this
      exact this.symm
    rw [look_put] at hl
    split at hl
    · simp at hl; subst hl
      refine refOkE_set h2 ?_ ?_
      · have := refOkE_keeps hk e (h.refs _ _ h1)
        rwa [hpe _ _ h1] at this
      · have := refOk_keeps hk c hr
        rwa [hcp] at this
    · have := refOkE_keeps hk e0 (h.refs _ _ hl)
      rwa [hpe _ _ hl] at this
theorem Good.ownE_nodup {Z : Zone} {S : St Hd} {a : Act} {w : World} (h : Good Z S a w) {d : Nat} {e : Ent Hd} (h1 : look S d = some e) : (ownE e).Nodup := by
  obtain ⟨rest, p1, _⟩ := put_perm S d h.sorted
  have := p1.nodup_iff.1 h.nd
  simp only [oldE, h1] at this
  exact nodup_append_left this
/-- A cell at a place has turned, here and there. -/
theorem Good.setC {Z : Zone} {S S' : St Hd} {a : Act} {w w' : World} {q : Place} {c : AV Hd} {B : Addr} {row : List (AV Hd)} {v : Value} {bad : Place → Bool → Bool} (h : Good Z S a w) (hs : HT.setC S q c = some S')
    (hk : Keeps S S' bad) (hp : HT.poi bad S = S) (hcp : poiA bad c = c) (ha : rowAddrS S q.root q.st = some (B, row)) (hU : Upd w w' ⟨B.block, B.off + q.off, none⟩ v) (hsz : w.heap.size ≤ w'.heap.size)
    (hv : IsA c v) (hc : memA w' Z c) (hcn : (ownA c).Nodup) (hcz : ∀ b ∈ ownA c, ¬ Z.b b ∧ b < w'.heap.size) (hdis : ∀ b ∈ ownA c, b ∉ ownS S) (hr : refOk S c) : Good Z S' a w' := by
  obtain ⟨e, e', h1, h2, _⟩ := setC_look hs
  simp only [rowAddrS, h1] at ha
  have hown : ∀ b ∈ ownE e, b ∈ ownS S := look_own h1
  obtain ⟨k1, k2⟩ := setE_ok (h.ent _ _ h1) h2 ha hU hv hc (h.ownE_nodup h1) (fun b hb => (h.zn b (hown b hb)).1)
  refine h.setCore hs hk hp hcp hsz hcn hcz hdis hr (fun e1 e1' g1 g2 => ?_) (fun d e0 hl hd => ?_)
  · rw [h1] at g1; simp at g1; subst g1
    rw [h2] at g2; simp at g2; subst g2
    exact k1
  · refine entOk_frame (fun b hb => hU.1 b ?_) rfl (h.ent d e0 hl)
    rintro rfl
    rcases hb with hb | hb
    · exact look_ne h.nd h1 hl (fun hh => hd hh.symm) _ k2 hb
    · exact (h.zn _ (hown _ k2)).1 hb

/-! ### Reading a row -/
theorem rowAddrT_mem {w : World} {Z : Zone} : ∀ {st : List (Nat × Nat)} {B B' : Addr} {row row' : List (Tr Hd)}, rowM w Z B row → (∃ cs e, w.heap[B.block]? = some (.cells cs e (0, 0))) → rowAddrT B row st = some (B', row') →
    rowM w Z B' row' ∧ ∃ cs e, w.heap[B'.block]? = some (.cells cs e (0, 0))
  | [], B, B', row, row', hM, hb, h => by simp [rowAddrT] at h; obtain ⟨rfl, rfl⟩ := h; exact ⟨hM, hb⟩
  | (o, i) :: r, B, B', row, row', hM, hb, h => by
    simp only [rowAddrT] at h
    split at h
    · rename_i g wd rows e1
      split at h
      · rename_i A row1 e2 e3
        have hm := (hM o _ e1).2
        refine rowAddrT_mem (rowM_of_sl hm e2 e3).1 ?_ h
        obtain ⟨a1, a2, a3, cs, e, fr, a4, a5, a6⟩ := hm.1.2 A e2
        rw [(a5 rfl).1] at a4
        exact ⟨cs, e, a4⟩
      · simp at h
    · simp at h
theorem rowAddrA_mem {w : World} {Z : Zone} {B0 B : Addr} {cs row : List (AV Hd)} {o i : Nat} {r : List (Nat × Nat)} (hm : ∀ x ∈ cs, memA w Z x) (ha : rowAddrA B0 cs ((o, i) :: r) = some (B, row)) :
    ∃ row', row = row'.map .tr ∧ rowM w Z B row' ∧ ∃ cs e, w.heap[B.block]? = some (.cells cs e (0, 0)) := by
  simp only [rowAddrA] at ha
  split at ha
  · rename_i g wd rows e1
    cases hg : g.a with
    | none => simp [hg] at ha
    | some A =>
      simp only [hg] at ha
      cases h3 : rows[i]? with
      | none => simp [h3] at ha
      | some row1 =>
        simp only [h3] at ha
        cases hr : rowAddrT ⟨A.block, A.off + i * wd, none⟩ row1 r with
        | none => simp [hr] at ha
        | some y =>
          obtain ⟨B', row'⟩ := y
          simp only [hr, Option.map_some, Option.some.injEq, Prod.mk.injEq] at ha
          obtain ⟨rfl, rfl⟩ := ha
          have hmm : memT w Z true (.sl .own g wd rows) := hm _ (List.mem_of_getElem? e1)
          obtain ⟨a1, a2, a3, cs, e, fr, a4, a5, a6⟩ := hmm.1.2 A hg
          rw [(a5 rfl).1] at a4
          obtain ⟨k1, k2⟩ := rowAddrT_mem (rowM_of_sl hmm hg h3).1 ⟨cs, e, a4⟩ hr
          exact ⟨row', rfl, k1, k2⟩
  · simp at ha
/-- What a row's cells hold. -/
def rowIs (w : World) (Z : Zone) (B : Addr) (row : List (AV Hd)) : Prop :=
  ∃ cs e, w.heap[B.block]? = some (.cells cs e (0, 0)) ∧ ∀ (j : Nat) (c : AV Hd), row[j]? = some c → (∃ v, cs[B.off + j]? = some v ∧ IsA c v) ∧ memA w Z c
theorem rowIs_of_rowM {w : World} {Z : Zone} {B : Addr} {row' : List (Tr Hd)} (k2 : rowM w Z B row') (k3 : ∃ cs e, w.heap[B.block]? = some (.cells cs e (0, 0))) : rowIs w Z B (row'.map .tr) := by
  obtain ⟨cs, e, k3⟩ := k3
  refine ⟨cs, e, k3, fun j c hj => ?_⟩
  rw [List.getElem?_map] at hj
  cases hh : row'[j]? with
  | none => simp [hh] at hj
  | some t =>
    simp [hh] at hj; subst hj
    obtain ⟨⟨v, m1, m2⟩, m3⟩ := k2 j t hh
    rw [cell_eq k3] at m1
    exact ⟨⟨v, m1, m2⟩, m3⟩
theorem Good.row {Z : Zone} {S : St Hd} {a : Act} {w : World} (h : Good Z S a w) {r : Nat} {st : List (Nat × Nat)} {B : Addr} {row : List (AV Hd)} (ha : rowAddrS S r st = some (B, row)) : rowIs w Z B row := by
  simp only [rowAddrS] at ha
  cases hl : look S r with
  | none => simp [hl] at ha
  | some e =>
    simp only [hl] at ha
    have he := h.ent _ _ hl
    cases e with
    | box g cs =>
      obtain ⟨h1, A, h2, h3, cells, e, h4, h5, h6⟩ := he
      simp only [rowAddrE, h2] at ha
      cases st with
      | nil =>
        simp only [rowAddrA, Option.some.injEq, Prod.mk.injEq] at ha
        obtain ⟨rfl, rfl⟩ := ha
        exact ⟨cells, e, h4, h6⟩
      | cons x r =>
        obtain ⟨o, i⟩ := x
        obtain ⟨row', rfl, k2, k3⟩ := rowAddrA_mem (fun x hx => by obtain ⟨j, hj⟩ := List.getElem?_of_mem hx; exact (h6 j x hj).2) ha
        exact rowIs_of_rowM k2 k3
    | vir t =>
      simp only [rowAddrE] at ha
      split at ha
      · simp at ha
      · cases st with
        | nil => rename_i hh; exact absurd rfl hh
        | cons x r =>
          obtain ⟨o, i⟩ := x
          obtain ⟨row', rfl, k2, k3⟩ := rowAddrA_mem (fun x hx => by simp [Ent.cells] at hx; subst hx; exact he) ha
          exact rowIs_of_rowM k2 k3
    | tmp v =>
      simp only [rowAddrE] at ha
      split at ha
      · simp at ha
      · cases st with
        | nil => rename_i hh; exact absurd rfl hh
        | cons x r =>
          obtain ⟨o, i⟩ := x
          obtain ⟨row', rfl, k2, k3⟩ := rowAddrA_mem (w := w) (Z := Z) (fun x hx => by
            cases v with
            | agg cs => exact memL_iff.1 he.2 x hx
            | _ => simp [Ent.cells] at hx; subst hx; exact he.2) ha
          exact rowIs_of_rowM k2 k3
/-- The row at an address is the row that the place tells of. -/
theorem rowAddrT_rowT : ∀ {st : List (Nat × Nat)} {B B' : Addr} {row row' : List (Tr Hd)}, rowAddrT B row st = some (B', row') → rowT row st = some row'
  | [], B, B', row, row', h => by simp [rowAddrT] at h; simp [rowT, h.2]
  | (o, i) :: r, B, B', row, row', h => by
    simp only [rowAddrT] at h
    split at h
    · rename_i g wd rows e1
      split at h
      · rename_i A row1 e2 e3
        simp only [rowT, e1, e3]
        exact rowAddrT_rowT h
      · simp at h
    · simp at h
theorem rowAddrA_step {B0 B : Addr} {cs row : List (AV Hd)} {st : List (Nat × Nat)} (h : rowAddrA B0 cs st = some (B, row)) : stepRow cs st = some row := by
  cases st with
  | nil => simp [rowAddrA] at h; simp [stepRow, h.2]
  | cons x r =>
    obtain ⟨o, i⟩ := x
    simp only [rowAddrA] at h
    split at h
    · rename_i g w rows e1
      cases hg : g.a with
      | none => simp [hg] at h
      | some A =>
        simp only [hg] at h
        cases h3 : rows[i]? with
        | none => simp [h3] at h
        | some row1 =>
          simp only [h3] at h
          cases hr : rowAddrT ⟨A.block, A.off + i * w, none⟩ row1 r with
          | none => simp [hr] at h
          | some y =>
            obtain ⟨B', row'⟩ := y
            simp only [hr, Option.map_some, Option.some.injEq, Prod.mk.injEq] at h
            simp only [stepRow, e1, h3, stepRow_tr, rowAddrT_rowT hr, Option.map_some, h.2]
    · simp at h
theorem rowAddrS_rowOf {S : St Hd} {r : Nat} {st : List (Nat × Nat)} {B : Addr} {row : List (AV Hd)} (h : rowAddrS S r st = some (B, row)) : rowOf S r st = some row := by
  simp only [rowAddrS] at h
  cases hl : look S r with
  | none => simp [hl] at h
  | some e =>
    simp only [hl] at h
    obtain ⟨B0, h⟩ := rowAddrE_A h
    simp only [rowOf, hl]
    exact rowAddrA_step h

theorem rowAddrT_some {w : World} {Z : Zone} : ∀ {st : List (Nat × Nat)} {B : Addr} {row row2 : List (Tr Hd)} {off : Nat} {c : Tr Hd}, (∀ t ∈ row, memT w Z true t) → setRowT row st off c = some row2 → ∃ B' row', rowAddrT B row st = some (B', row')
  | [], B, row, row2, off, c, hm, h => ⟨B, row, rfl⟩
  | (o, i) :: r, B, row, row2, off, c, hm, h => by
    simp only [setRowT] at h
    split at h
    · rename_i g1 w1 rows1 e1
      split at h
      · rename_i row1 e3
        split at h
        · rename_i row3 e4
          obtain ⟨h1, h2, h3⟩ := hm _ (List.mem_of_getElem? e1)
          simp only [rowAddrT, e1, e3]
          cases hg : g1.a with
          | none => have := (h1.1 hg).1; subst this; simp at e3
          | some A =>
            simp only
            refine rowAddrT_some (w := w) (Z := Z) ?_ e4
            exact memRow_iff.1 (memRows_iff.1 h3 row1 (List.mem_of_getElem? e3))
        · simp at h
      · simp at h
    · simp at h
/-- A slot's own header is given up; memory is as it was. -/
theorem Good.unhold {Z : Zone} {S S' : St Hd} {a : Act} {w : World} {q : Place} {bad : Place → Bool → Bool} (h : Good Z S a w) (hs : HT.setC S q (.tr .undef) = some S') (hk : Keeps S S' bad) (hp : HT.poi bad S = S) : Good Z S' a w := by
  by_cases haddr : ∃ B row, rowAddrS S q.root q.st = some (B, row)
  · obtain ⟨B, row, ha⟩ := haddr
    obtain ⟨cs, e0, c1, c2⟩ := h.row ha
    have hrow := rowAddrS_rowOf ha
    obtain ⟨e, e', h1, h2, _⟩ := setC_look hs
    obtain ⟨old, rest, p0, _, _⟩ := setE_perm h2
    have hold : row[q.off]? = some old := by
      rw [← getC_getA h1] at p0
      simp only [getC, hrow] at p0
      exact p0
    obtain ⟨⟨v, v1, v2⟩, _⟩ := c2 _ _ hold
    have hlt : B.off + q.off < cs.size := (Array.getElem?_eq_some_iff.1 v1).1
    refine h.setC hs hk hp rfl ha (v := v) (w' := w) ⟨fun _ _ => rfl, cs, e0, c1, hlt, ?_⟩ (Nat.le_refl _) trivial trivial (by simp [ownA, ownT]) (by simp [ownA, ownT]) (by simp [ownA, ownT]) trivial
    rw [c1]
    simp only [Option.some.injEq, Obj.cells.injEq, and_true]
    have : cs[B.off + q.off] = v := by simpa [Array.getElem?_eq_getElem hlt] using v1
    subst this
    simp only [Array.setIfInBounds, hlt, dif_pos, Array.set_getElem_self]
  · refine h.setCore hs hk hp rfl (Nat.le_refl _) (by simp [ownA, ownT]) (by simp [ownA, ownT]) (by simp [ownA, ownT]) trivial (fun e e' h1 h2 => ?_) (fun d e0 hl _ => h.ent d e0 hl)
    have he := h.ent _ _ h1
    have hst : q.st = [] := by
      cases hst : q.st with
      | nil => rfl
      | cons x r =>
        exfalso
        obtain ⟨o, i⟩ := x
        apply haddr
        have hm : ∀ x ∈ e.cells, memA w Z x := by
          cases e with
          | box g cs => obtain ⟨h1, A, h2, h3, cells, e, h4, h5, h6⟩ := he; intro x hx; obtain ⟨j, hj⟩ := List.getElem?_of_mem hx; exact (h6 j x hj).2
          | vir t => intro x hx; simp [Ent.cells] at hx; subst hx; exact he
          | tmp v =>
            cases v with
            | agg cs => exact memL_iff.1 he.2
            | _ => intro x hx; simp [Ent.cells] at hx; subst hx; exact he.2
        have key : ∀ B0, ∃ B row, rowAddrA B0 e.cells ((o, i) :: r) = some (B, row) := by
          intro B0
          rcases setE_cells h2 with k | ⟨k1, _⟩
          · rw [hst] at k
            obtain ⟨g1, w1, rows1, row1, t, row3, e1, e3, _, e4, _⟩ := setRowA_cons k
            obtain ⟨m1, m2, m3⟩ := hm _ (List.mem_of_getElem? e1)
            simp only [rowAddrA, e1, e3]
            cases hg : g1.a with
            | none => have := (m1.1 hg).1; subst this; simp at e3
            | some A =>
              simp only
              obtain ⟨B', row', hr⟩ := rowAddrT_some (B := ⟨A.block, A.off + i * w1, none⟩) (w := w) (Z := Z) (memRow_iff.1 (memRows_iff.1 m3 row1 (List.mem_of_getElem? e3))) e4
              exact ⟨B', row'.map .tr, by simp [hr]⟩
          · rw [hst] at k1; simp at k1
        simp only [rowAddrS, h1, hst]
        cases e with
        | box g cs =>
          obtain ⟨g1, A, g2, _⟩ := he
          simp only [rowAddrE, g2]
          exact key A
        | vir t => simp only [rowAddrE]; rw [if_neg (by simp)]; exact key default
        | tmp v => simp only [rowAddrE]; rw [if_neg (by simp)]; exact key default
    cases e with
    | box g cs =>
      exfalso
      obtain ⟨g1, A, g2, _⟩ := he
      exact haddr ⟨A, cs, by simp [rowAddrS, h1, rowAddrE, g2, hst, rowAddrA]⟩
    | vir t =>
      simp only [Ent.set] at h2
      split at h2
      · rename_i t' hh
        simp at h2; subst h2
        rw [hst] at hh
        simp only [setRowA] at hh
        split at hh
        · rename_i hlt
          have : q.off = 0 := by simpa using hlt
          rw [this] at hh
          simp at hh; subst hh; trivial
        · simp at hh
      · simp at h2
    | tmp v =>
      cases v with
      | agg cs =>
        simp only [Ent.set] at h2
        split at h2
        · rename_i cs' hh
          simp at h2; subst h2
          rw [hst] at hh
          simp only [setRowA] at hh
          split at hh
          · rename_i hlt
            simp at hh; subst hh
            obtain ⟨⟨vs, m1, m2⟩, m3⟩ := he
            refine ⟨⟨vs, m1, IsL_set m2 (c := cs[q.off]) (by simp [hlt]) (fun _ _ => trivial)⟩, memL_iff.2 fun x hx => ?_⟩
            rcases List.mem_or_eq_of_mem_set hx with hx | rfl
            · exact memL_iff.1 m3 x hx
            · trivial
          · simp at hh
        · simp at h2
      | _ =>
        rcases setE_cells h2 with k | ⟨_, v, _, _, rfl, _⟩
        · simp only [Ent.set] at h2
          split at h2
          · rename_i v' hh
            simp at h2; subst h2
            rw [hst] at hh
            simp only [setRowA] at hh
            split at hh
            · rename_i hlt
              have : q.off = 0 := by simpa using hlt
              rw [this] at hh
              simp at hh; subst hh; exact ⟨trivial, trivial⟩
            · simp at hh
          · simp at h2
        · exact ⟨trivial, trivial⟩
end Go.HT
end
section
namespace Go.HT
open Go

/-! ### From the bare to the annotated -/
theorem erA_tr {v : AV Hd} {t : UT} (h : erA v = .tr t) : ∃ t', v = .tr t' ∧ erT t' = t := by
  cases v <;> simp [erA] at h
  exact ⟨_, rfl, h⟩
theorem erT_sl {t : Tr Hd} {κ : Knd} {u : Unit} {w : Nat} {rows : List (List UT)} (h : erT t = .sl κ u w rows) : ∃ g r, t = .sl κ g w r ∧ erRows r = rows := by
  cases t <;> simp [erT] at h
  obtain ⟨rfl, rfl, rfl⟩ := h
  exact ⟨_, _, rfl, rfl⟩
theorem erT_int {t : Tr Hd} {k : IntKind} {n : Int} (h : erT t = .int k n) : t = .int k n := by
  cases t <;> simp [erT] at h
  obtain ⟨rfl, rfl⟩ := h; rfl
theorem erT_bool {t : Tr Hd} {b : Bool} (h : erT t = .bool b) : t = .bool b := by
  cases t <;> simp [erT] at h
  subst h; rfl
theorem erT_str {t : Tr Hd} {s : List UInt8} (h : erT t = .str s) : t = .str s := by
  cases t <;> simp [erT] at h
  subst h; rfl
theorem erA_ref {v : AV Hd} {q : Place} {lo n : Nat} {cp : Bool} {u : Unit} (h : erA v = .ref q lo n cp u) : ∃ g, v = .ref q lo n cp g := by
  cases v <;> simp [erA] at h
  obtain ⟨rfl, rfl, rfl, rfl⟩ := h
  exact ⟨_, rfl⟩
theorem erA_ptr {v : AV Hd} {q : Place} {u : Unit} (h : erA v = .ptr q u) : ∃ g, v = .ptr q g := by
  cases v <;> simp [erA] at h
  subst h
  exact ⟨_, rfl⟩
theorem erA_psh {v : AV Hd} {row : List UT} {o : Nat} {u : Unit} (h : erA v = .psh row o u) : ∃ r g, v = .psh r o g ∧ erRow r = row := by
  cases v <;> simp [erA] at h
  obtain ⟨rfl, rfl⟩ := h
  exact ⟨_, _, rfl, rfl⟩
theorem erA_agg {v : AV Hd} {cs : List UV} (h : erA v = .agg cs) : ∃ c, v = .agg c ∧ erL c = cs := by
  cases v <;> simp [erA] at h
  exact ⟨_, rfl, h⟩
theorem erA_tup {v : AV Hd} {cs : List UV} (h : erA v = .tup cs) : ∃ c, v = .tup c ∧ erL c = cs := by
  cases v <;> simp [erA] at h
  exact ⟨_, rfl, h⟩
theorem erA_fn {v : AV Hd} {f : FuncId} {cs : List UV} (h : erA v = .fn f cs) : ∃ c, v = .fn f c ∧ erL c = cs := by
  cases v <;> simp [erA] at h
  obtain ⟨rfl, rfl⟩ := h
  exact ⟨_, rfl, rfl⟩
theorem erL_get (l : List (AV Hd)) (i : Nat) : (erL l)[i]? = (l[i]?).map erA := by rw [erL_map]; simp
theorem erRow_get (l : List (Tr Hd)) (i : Nat) : (erRow l)[i]? = (l[i]?).map erT := by rw [erRow_map]; simp
theorem erRows_get (l : List (List (Tr Hd))) (i : Nat) : (erRows l)[i]? = (l[i]?).map erRow := by rw [erRows_map]; simp
theorem erL_length (l : List (AV Hd)) : (erL l).length = l.length := by rw [erL_map]; simp
theorem erRow_length (l : List (Tr Hd)) : (erRow l).length = l.length := by rw [erRow_map]; simp
theorem erRows_length (l : List (List (Tr Hd))) : (erRows l).length = l.length := by rw [erRows_map]; simp
theorem erRow_tr (row : List (Tr Hd)) : (erRow row).map .tr = erL (row.map .tr) := by rw [erRow_map, erL_map]; simp [erA]
theorem stepRow_er : ∀ (st : List (Nat × Nat)) (cs : List (AV Hd)), stepRow (erL cs) st = (stepRow cs st).map erL
  | [], cs => rfl
  | (o, i) :: r, cs => by
    simp only [stepRow, erL_get]
    cases h : cs[o]? with
    | none => rfl
    | some v =>
      simp only [Option.map_some]
      cases v with
      | tr t =>
        cases t with
        | sl κ g w rows =>
          cases κ with
          | own =>
            simp only [erA, erT, erRows_get]
            cases h2 : rows[i]? with
            | none => rfl
            | some row => simp only [Option.map_some, erRow_tr]; exact stepRow_er r _
          | _ => rfl
        | _ => rfl
      | _ => rfl
theorem cells_er (e : Ent Hd) : (erE e).cells = erL e.cells := by
  cases e with
  | box g cs => rfl
  | vir t => rfl
  | tmp v => cases v <;> rfl
theorem rowOf_er (S : St Hd) (r : Nat) (st : List (Nat × Nat)) : rowOf (erS S) r st = (rowOf S r st).map erL := by
  simp only [rowOf, look_er]
  cases look S r with
  | none => rfl
  | some e => simp only [Option.map_some, cells_er, stepRow_er]
theorem getC_er (S : St Hd) (q : Place) : getC (erS S) q = (getC S q).map erA := by
  simp only [getC, rowOf_er]
  cases rowOf S q.root q.st with
  | none => rfl
  | some row => simp only [Option.map_some, erL_get]
theorem setRowT_er : ∀ (st : List (Nat × Nat)) (row : List (Tr Hd)) (off : Nat) (c : Tr Hd), setRowT (erRow row) st off (erT c) = (setRowT row st off c).map erRow
  | [], row, off, c => by
    simp only [setRowT, erRow_length]
    split
    · simp [erRow_map]
    · rfl
  | (o, i) :: r, row, off, c => by
    simp only [setRowT, erRow_get]
    cases h : row[o]? with
    | none => rfl
    | some t =>
      simp only [Option.map_some]
      cases t with
      | sl κ g w rows =>
        cases κ with
        | own =>
          simp only [erT, erRows_get]
          cases h2 : rows[i]? with
          | none => rfl
          | some row1 =>
            simp only [Option.map_some, setRowT_er r row1 off c]
            cases h3 : setRowT row1 r off c with
            | none => rfl
            | some row2 => simp [erRow_map, erRows_map, erT]
        | _ => rfl
      | _ => rfl
theorem setRowA_er (st : List (Nat × Nat)) (cs : List (AV Hd)) (off : Nat) (c : AV Hd) : setRowA (erL cs) st off (erA c) = (setRowA cs st off c).map erL := by
  cases st with
  | nil =>
    simp only [setRowA, erL_length]
    split
    · simp [erL_map]
    · rfl
  | cons x r =>
    obtain ⟨o, i⟩ := x
    simp only [setRowA, erL_get]
    cases h : cs[o]? with
    | none => rfl
    | some v =>
      simp only [Option.map_some]
      cases v with
      | tr t =>
        cases t with
        | sl κ g w rows =>
          cases κ with
          | own =>
            simp only [erA, erT, erRows_get]
            cases h2 : rows[i]? with
            | none => rfl
            | some row1 =>
              simp only [Option.map_some]
              cases c with
              | tr t =>
                simp only [erA, setRowT_er]
                cases h3 : setRowT row1 r off t with
                | none => rfl
                | some row2 => simp [erL_map, erRows_map, erA, erT]
              | _ => rfl
          | _ => rfl
        | _ => rfl
      | _ => rfl
theorem setE_er (e : Ent Hd) (st : List (Nat × Nat)) (off : Nat) (c : AV Hd) : (erE e).set st off (erA c) = (e.set st off c).map erE := by
  cases e with
  | box g cs =>
    simp only [erE, Ent.set, setRowA_er]
    cases setRowA cs st off c <;> rfl
  | vir t =>
    have := setRowA_er st [.tr t] off c
    simp only [erL, erA] at this
    simp only [erE, Ent.set, this]
    cases setRowA [.tr t] st off c with
    | none => rfl
    | some l =>
      cases l with
      | nil => rfl
      | cons y r =>
        cases r with
        | nil => cases y <;> rfl
        | cons => cases y <;> rfl
  | tmp v =>
    cases v with
    | agg cs =>
      simp only [erE, erA, Ent.set, setRowA_er]
      cases setRowA cs st off c <;> rfl
    | tr t =>
      have h := setRowA_er st [.tr t] off c
      simp only [erL, erA] at h
      simp only [erE, erA, Ent.set, h]
      cases setRowA [.tr t] st off c with
      | none => rfl
      | some l =>
        cases l with
        | nil => rfl
        | cons y r => cases r <;> rfl
    | tup t =>
      have h := setRowA_er st [.tup t] off c
      simp only [erL, erA] at h
      simp only [erE, erA, Ent.set, h]
      cases setRowA [.tup t] st off c with
      | none => rfl
      | some l =>
        cases l with
        | nil => rfl
        | cons y r => cases r <;> rfl
    | ref q lo n cp g =>
      have h := setRowA_er st [.ref q lo n cp g] off c
      simp only [erL, erA] at h
      simp only [erE, erA, Ent.set, h]
      cases setRowA [.ref q lo n cp g] st off c with
      | none => rfl
      | some l =>
        cases l with
        | nil => rfl
        | cons y r => cases r <;> rfl
    | ptr q g =>
      have h := setRowA_er st [.ptr q g] off c
      simp only [erL, erA] at h
      simp only [erE, erA, Ent.set, h]
      cases setRowA [.ptr q g] st off c with
      | none => rfl
      | some l =>
        cases l with
        | nil => rfl
        | cons y r => cases r <;> rfl
    | psh r o g =>
      have h := setRowA_er st [.psh r o g] off c
      simp only [erL, erA] at h
      simp only [erE, erA, Ent.set, h]
      cases setRowA [.psh r o g] st off c with
      | none => rfl
      | some l =>
        cases l with
        | nil => rfl
        | cons y r => cases r <;> rfl
    | fn f cs =>
      have h := setRowA_er st [.fn f cs] off c
      simp only [erL, erA] at h
      simp only [erE, erA, Ent.set, h]
      cases setRowA [.fn f cs] st off c with
      | none => rfl
      | some l =>
        cases l with
        | nil => rfl
        | cons y r => cases r <;> rfl
    | ifc t v =>
      have h := setRowA_er st [.ifc t v] off c
      simp only [erL, erA] at h
      simp only [erE, erA, Ent.set, h]
      cases setRowA [.ifc t v] st off c with
      | none => rfl
      | some l =>
        cases l with
        | nil => rfl
        | cons y r => cases r <;> rfl
theorem setC_er (S : St Hd) (q : Place) (c : AV Hd) : setC (erS S) q (erA c) = (setC S q c).map erS := by
  simp only [setC, look_er]
  cases look S q.root with
  | none => rfl
  | some e =>
    simp only [Option.map_some, setE_er]
    cases e.set q.st q.off c with
    | none => rfl
    | some e' => simp [put_er]

/-! ### Frames of steps -/
/-- A header, and how many rows are behind it. -/
def hdT : Tr Hd → Option (Hd × Nat × Nat)
  | .sl .own g w rows => some (g, w, rows.length)
  | _ => none
/-- Slices that were handed in to be written into keep their headers, or are given up. -/
def VirOk (S S' : St Hd) : Prop := ∀ d t', look S' d = some (.vir t') → ∃ t, look S d = some (.vir t) ∧ (hdT t' = none ∨ hdT t' = hdT t)
theorem VirOk.refl (S : St Hd) : VirOk S S := fun _ t h => ⟨t, h, .inr rfl⟩
theorem VirOk.trans {S S1 S2 : St Hd} (h : VirOk S S1) (h' : VirOk S1 S2) : VirOk S S2 := fun d t' h2 => by
  obtain ⟨t1, l1, c1⟩ := h' d t' h2
  obtain ⟨t, l, c⟩ := h d t1 l1
  refine ⟨t, l, ?_⟩
  rcases c1 with c1 | c1
  · exact .inl c1
  · rw [c1]; exact c
structure Fr (S : St Hd) (w : World) (S' : St Hd) (w' : World) : Prop where
  os : w'.os = w.os
  tape : w'.tape = w.tape
  output : w'.output = w.output
  size : w.heap.size ≤ w'.heap.size
  block : ∀ b, b < w.heap.size → b ∉ ownS S → w'.heap[b]? = w.heap[b]?
  own : ∀ b, b ∈ ownS S' → b ∈ ownS S ∨ w.heap.size ≤ b
  box : ∀ d g cs A cells e, look S d = some (.box g cs) → g.a = some A → w.heap[A.block]? = some (.cells cells e (0, 0)) →
    (∃ cells', w'.heap[A.block]? = some (.cells cells' e (0, 0)) ∧ cells'.size = cells.size ∧ ∀ o, (o < A.off ∨ A.off + cs.length ≤ o) → cells'[o]? = cells[o]?) ∧
    ((∃ cs', look S' d = some (.box g cs') ∧ cs'.length = cs.length) ∨ A.block ∉ ownS S')
  vir : VirOk S S'
theorem Fr.trans {S S1 S2 : St Hd} {w w1 w2 : World} (h : Fr S w S1 w1) (h' : Fr S1 w1 S2 w2) : Fr S w S2 w2 where
  os := h'.os.trans h.os
  tape := h'.tape.trans h.tape
  output := h'.output.trans h.output
  size := Nat.le_trans h.size h'.size
  vir := h.vir.trans h'.vir
  block b hb hn := by
    rw [h'.block b (Nat.lt_of_lt_of_le hb h.size) (fun hc => (h.own b hc).elim hn (fun hh => by omega))]
    exact h.block b hb hn
  own b hb := by
    rcases h'.own b hb with hb | hb
    · exact h.own b hb
    · exact .inr (Nat.le_trans h.size hb)
  box d g cs A cells e hl hg hc := by
    obtain ⟨⟨cells1, c1, c2, c3⟩, c4⟩ := h.box d g cs A cells e hl hg hc
    have hlt : A.block < w1.heap.size := (Array.getElem?_eq_some_iff.1 c1).1
    have hlt0 : A.block < w.heap.size := (Array.getElem?_eq_some_iff.1 hc).1
    rcases c4 with ⟨cs', l1, l2⟩ | c4
    · obtain ⟨⟨cells2, d1, d2, d3⟩, d4⟩ := h'.box d g cs' A cells1 e l1 hg c1
      refine ⟨⟨cells2, d1, d2.trans c2, fun o ho => ?_⟩, ?_⟩
      · rw [d3 o (by rw [l2]; exact ho), c3 o ho]
      · rcases d4 with ⟨cs2, l3, l4⟩ | d4
        · exact .inl ⟨cs2, l3, l4.trans l2⟩
        · exact .inr d4
    · refine ⟨⟨cells1, by rw [h'.block _ hlt c4]; exact c1, c2, c3⟩, .inr fun hn => ?_⟩
      rcases h'.own _ hn with hn | hn
      · exact c4 hn
      · have := h.size; omega
end Go.HT
end
section
namespace Go.HT
open Go

/-! ### Constants -/
mutual
def anT : UT → Tr Hd
  | .undef => .undef
  | .int k n => .int k n
  | .bool b => .bool b
  | .str s => .str s
  | .sl κ _ w rows => .sl κ {} w (anRows rows)
def anRow : List UT → List (Tr Hd)
  | [] => []
  | t :: r => anT t :: anRow r
def anRows : List (List UT) → List (List (Tr Hd))
  | [] => []
  | t :: r => anRow t :: anRows r
end
theorem anRow_map (l : List UT) : anRow l = l.map anT := by induction l with | nil => rfl | cons t r ih => simp [anRow, ih]
theorem memT_nil (w : World) (Z : Zone) (wd : Nat) : memT w Z true (.sl .own {} wd []) := ⟨⟨fun _ => ⟨rfl, rfl⟩, fun A hA => by simp at hA⟩, fun _ => rfl, trivial⟩
def oneC : Value → Bool
  | .agg _ => false
  | .tuple _ => false
  | _ => true
theorem isZ_ok {v : Value} {t : UT} (h : isZ v t = true) (w : World) (Z : Zone) : IsT (anT t) v ∧ memT w Z true (anT t) ∧ ownT (anT t) = [] ∧ erT (anT t) = t ∧ oneC v = true := by
  unfold isZ at h
  split at h
  · simp at h; obtain ⟨rfl, rfl⟩ := h; simp [anT, IsT, memT, ownT, erT, oneC]
  · simp at h; subst h; simp [anT, IsT, memT, ownT, erT, oneC]
  · rename_i s l; simp at h; subst h; simp [anT, IsT, memT, ownT, erT, oneC]
  · refine ⟨?_, ?_, ?_, ?_, ?_⟩
    · simp [anT, IsT, anRows]
    · exact memT_nil w Z _
    · simp [anT, ownT, anRows, ownRows]
    · simp [anT, erT, anRows, erRows]
    · rfl
  · simp at h
theorem allZ_ok : ∀ {vs : List Value} {ts : List UT}, allZ vs ts = true → ∀ (w : World) (Z : Zone), IsL ((anRow ts).map .tr) vs ∧ (∀ t ∈ anRow ts, memT w Z true t) ∧ ownAL ((anRow ts).map .tr) = [] ∧ erRow (anRow ts) = ts ∧ (∀ v ∈ vs, oneC v = true) ∧ vs.length = ts.length
  | [], [], _, w, Z => by simp [anRow, IsL, ownAL, erRow]
  | v :: r, t :: s, h, w, Z => by
    simp only [allZ, Bool.and_eq_true] at h
    obtain ⟨h1, h2⟩ := h
    obtain ⟨k1, k2, k3, k4, k5⟩ := isZ_ok h1 w Z
    obtain ⟨m1, m2, m3, m4, m5, m6⟩ := allZ_ok h2 w Z
    refine ⟨⟨v, r, rfl, k1, m1⟩, ?_, ?_, ?_, ?_, by simp [m6]⟩
    · intro t' ht; simp only [anRow, List.mem_cons] at ht; rcases ht with rfl | ht; exact k2; exact m2 t' ht
    · simp [anRow, ownAL, ownA, k3, m3]
    · simp [anRow, erRow, k4, m4]
    · intro v' hv; simp only [List.mem_cons] at hv; rcases hv with rfl | hv; exact k5; exact m5 v' hv
  | [], _ :: _, h, _, _ => by simp [allZ] at h
  | _ :: _, [], h, _, _ => by simp [allZ] at h

/-! ### Operands -/
variable {P : Program} {Z : Zone} {S : St Hd} {a : Act} {w : World}
theorem refOkL_tr {S : St Hd} (l : List (Tr Hd)) : refOkL S (l.map .tr) := refOkL_iff.2 fun v hv => by simp at hv; obtain ⟨t, _, rfl⟩ := hv; trivial
theorem memL_tr {w : World} {Z : Zone} {l : List (Tr Hd)} (h : ∀ t ∈ l, memT w Z true t) : memL w Z (l.map .tr) := memL_iff.2 fun v hv => by simp at hv; obtain ⟨t, ht, rfl⟩ := hv; exact h t ht
theorem evC_ok {t : TypeId} {c : Value} {v : UV} (h : evC P t c = some v) (w : World) (Z : Zone) (S : St Hd) : ∃ v', erA v' = v ∧ IsA v' c ∧ memA w Z v' ∧ refOk S v' ∧ ownA v' = [] := by
  unfold evC at h
  split at h
  · simp at h; subst h; rename_i k n; exact ⟨.tr (.int k n), rfl, rfl, trivial, trivial, rfl⟩
  · simp at h; subst h; rename_i b; exact ⟨.tr (.bool b), rfl, rfl, trivial, trivial, rfl⟩
  · simp at h; subst h; rename_i s; exact ⟨.tr (.str s.data.toList), rfl, by simp [IsA, IsT], trivial, trivial, rfl⟩
  · simp at h; subst h
    exact ⟨.tr (.sl .own {} (szOf P (elemOf P t)) []), rfl, rfl, memT_nil w Z _, trivial, rfl⟩
  · rename_i cs
    split at h
    · rename_i hz
      simp at h; subst h
      obtain ⟨m1, m2, m3, m4, m5, m6⟩ := allZ_ok hz w Z
      refine ⟨.agg ((anRow (zeroOf P t)).map .tr), ?_, ⟨cs, rfl, m1⟩, memL_tr m2, refOkL_tr _, m3⟩
      simp only [erA, ← erRow_tr, m4]
    · simp at h
  · simp at h
theorem ev_ok (hG : Good Z S a w) {t : TypeId} {x : Operand} {v : UV} (h : ev P (erS S) t x = some v) :
    ∃ v', erA v' = v ∧ IsA v' (a.eval x) ∧ memA w Z v' ∧ refOk S v' ∧ (ownA v' = [] ∨ ∃ d, x = .tmp d ∧ look S d = some (.tmp v')) ∧ (∀ d, x = .tmp d → (∃ e, look S d = some e ∧ (e = .tmp v' ∨ ∃ g cs, e = .box g cs ∧ v' = .ptr ⟨d, [], 0⟩ g))) := by
  cases x with
  | const c =>
    obtain ⟨v', h1, h2, h3, h4, h5⟩ := evC_ok h w Z S
    exact ⟨v', h1, h2, h3, h4, .inl h5, by simp⟩
  | func f =>
    simp [ev] at h; subst h
    exact ⟨.fn f [], rfl, ⟨#[], rfl, rfl⟩, trivial, trivial, .inl rfl, by simp⟩
  | global g => simp [ev] at h
  | tmp d =>
    simp only [ev, look_er] at h
    cases hl : look S d with
    | none => simp [hl] at h
    | some e =>
      simp only [hl, Option.map_some] at h
      cases e with
      | tmp v0 =>
        simp [erE] at h; subst h
        have := hG.ent _ _ hl
        exact ⟨v0, rfl, this.1, this.2, hG.refs _ _ hl, .inr ⟨d, rfl, hl⟩, fun d' hd => ⟨_, by simp at hd; subst hd; exact hl, .inl rfl⟩⟩
      | vir t => simp [erE] at h
      | box g cs =>
        simp [erE] at h; subst h
        obtain ⟨h1, A, h2, h3, h4⟩ := hG.ent _ _ hl
        refine ⟨.ptr ⟨d, [], 0⟩ g, rfl, h1, trivial, ⟨A, cs, by simp [rowAddrS, hl, rowAddrE, h2, rowAddrA], ?_⟩, .inl rfl, fun d' hd => ⟨_, by simp at hd; subst hd; exact hl, .inr ⟨g, cs, rfl, by simp at hd; subst hd; rfl⟩⟩⟩
        rw [h2]
        obtain ⟨b, o, sp⟩ := A
        simp at h3; subst h3; rfl

mutual
/-- The roots of what a value refers to. -/
def rootsV : AV Hd → List Nat
  | .ref q _ _ _ _ => [q.root]
  | .ptr q _ => [q.root]
  | .agg cs => rootsL cs
  | .tup cs => rootsL cs
  | .fn _ cs => rootsL cs
  | .ifc _ v => rootsV v
  | _ => []
def rootsL : List (AV Hd) → List Nat
  | [] => []
  | v :: r => rootsV v ++ rootsL r
end
theorem mem_rootsL {r : Nat} {l : List (AV Hd)} : r ∈ rootsL l ↔ ∃ v ∈ l, r ∈ rootsV v := by
  induction l with
  | nil => simp [rootsL]
  | cons v l ih => simp [rootsL, ih]
def slotB (S : St Hd) (x : Nat) : List Nat := match look S x with
  | some e => ownE e
  | none => []
def rootsE : Ent Hd → List Nat
  | .tmp v => rootsV v
  | _ => []
mutual
theorem rootsV_poi (bad : Place → Bool → Bool) : ∀ (v : AV Hd) (r : Nat), r ∈ rootsV (poiA bad v) → r ∈ rootsV v
  | .tr t, r, h => h
  | .ref q lo n cp g, r, h => by simp only [poiA] at h; split at h; simp [rootsV] at h; exact h
  | .ptr q g, r, h => by simp only [poiA] at h; split at h; simp [rootsV] at h; exact h
  | .psh .., r, h => h
  | .agg cs, r, h => rootsL_poi bad cs r h
  | .tup cs, r, h => rootsL_poi bad cs r h
  | .fn _ cs, r, h => rootsL_poi bad cs r h
  | .ifc _ v, r, h => rootsV_poi bad v r h
theorem rootsL_poi (bad : Place → Bool → Bool) : ∀ (l : List (AV Hd)) (r : Nat), r ∈ rootsL (poiL bad l) → r ∈ rootsL l
  | [], r, h => h
  | v :: l, r, h => by
    simp only [poiL, rootsL, List.mem_append] at h ⊢
    exact h.imp (rootsV_poi bad v r) (rootsL_poi bad l r)
end
theorem rootsE_poi (bad : Place → Bool → Bool) (e : Ent Hd) (r : Nat) (h : r ∈ rootsE (e.poi bad)) : r ∈ rootsE e := by
  cases e with
  | tmp v => exact rootsV_poi bad v r h
  | _ => exact h
/-- Outside these slots nothing changes hands. -/
def Own1 (X : Nat → Prop) (S S' : St Hd) : Prop := ∀ x, ¬ X x → slotB S' x = slotB S x
theorem Own1.refl (X : Nat → Prop) (S : St Hd) : Own1 X S S := fun _ _ => rfl
theorem Own1.trans {X : Nat → Prop} {S S1 S2 : St Hd} (h : Own1 X S S1) (h' : Own1 X S1 S2) : Own1 X S S2 := fun x hx => (h' x hx).trans (h x hx)
theorem Own1.mono {X Y : Nat → Prop} {S S' : St Hd} (h : Own1 X S S') (hXY : ∀ x, X x → Y x) : Own1 Y S S' := fun x hx => h x fun hX => hx (hXY x hX)
theorem own1_poi (X : Nat → Prop) (bad : Place → Bool → Bool) (S : St Hd) : Own1 X S (poi bad S) := fun x _ => by
  simp only [slotB, look_poi]
  cases look S x with
  | none => rfl
  | some e => simp only [Option.map_some, ownE_poi]
theorem own1_put {X : Nat → Prop} (S : St Hd) (d : Nat) (e : Ent Hd) (hd : X d) : Own1 X S (put S d e) := fun x hx => by
  have : ¬ x = d := by rintro rfl; exact hx hd
  simp only [slotB, look_put, this, if_false]
theorem own1_setC {X : Nat → Prop} {S S' : St Hd} {q : Place} {c : AV Hd} (h : setC S q c = some S') (hq : X q.root) : Own1 X S S' := by
  obtain ⟨e, e', h1, h2, rfl⟩ := setC_look h
  exact own1_put _ _ _ hq
theorem stepRow_own : ∀ {st : List (Nat × Nat)} {cs row : List (AV Hd)} {x : AV Hd} {b : Nat}, stepRow cs st = some row → x ∈ row → b ∈ ownA x → b ∈ ownAL cs
  | [], cs, row, x, b, h, hx, hb => by simp [stepRow] at h; subst h; exact mem_ownAL.2 ⟨x, hx, hb⟩
  | (o, i) :: r, cs, row, x, b, h, hx, hb => by
    simp only [stepRow] at h
    split at h
    · rename_i g w rows e1
      split at h
      · rename_i row1 e2
        obtain ⟨y, hy, hyb⟩ := mem_ownAL.1 (stepRow_own h hx hb)
        obtain ⟨t, ht, rfl⟩ := List.mem_map.1 hy
        refine mem_ownAL.2 ⟨_, List.mem_of_getElem? e1, ?_⟩
        simp only [ownA, ownT, List.mem_append]
        exact .inr (mem_ownRows.2 ⟨row1, List.mem_of_getElem? e2, mem_ownRow.2 ⟨t, ht, hyb⟩⟩)
      · simp at h
    · simp at h
theorem getC_slot {q : Place} {c : AV Hd} {b : Nat} (h : getC S q = some c) (hb : b ∈ ownA c) : b ∈ slotB S q.root := by
  simp only [getC, rowOf] at h
  cases hl : look S q.root with
  | none => simp [hl] at h
  | some e =>
    simp only [hl] at h
    split at h
    · rename_i row hr
      simp only [slotB, hl, ownE_cells]
      exact List.mem_append.2 (.inr (stepRow_own hr (List.mem_of_getElem? h) hb))
    · simp at h
/-! ### Giving up -/
structure Less (S S' : St Hd) : Prop where
  own : ∀ b, b ∈ ownS S' → b ∈ ownS S
  box : ∀ d g cs, look S d = some (.box g cs) → ∃ cs', look S' d = some (.box g cs') ∧ cs'.length = cs.length
  back : ∀ r st B row', rowAddrS S' r st = some (B, row') → ∃ row, rowAddrS S r st = some (B, row)
  roots : ∀ s e', look S' s = some e' → ∃ e, look S s = some e ∧ ∀ r ∈ rootsE e', r ∈ rootsE e
  vir : VirOk S S'
theorem Less.refl (S : St Hd) : Less S S := ⟨fun _ h => h, fun _ _ cs h => ⟨cs, h, rfl⟩, fun _ _ _ row h => ⟨row, h⟩, fun _ e h => ⟨e, h, fun _ h => h⟩, .refl S⟩
theorem virOk_poi (bad : Place → Bool → Bool) (S : St Hd) : VirOk S (poi bad S) := fun d t' h => by
  rw [look_poi] at h
  cases hl : look S d with
  | none => simp [hl] at h
  | some e =>
    simp only [hl, Option.map_some, Option.some.injEq] at h
    cases e with
    | vir t => simp only [Ent.poi, Ent.vir.injEq] at h; exact ⟨t, rfl, .inr (by rw [h])⟩
    | tmp v => simp [Ent.poi] at h
    | box g cs => simp [Ent.poi] at h
theorem virOk_put (S : St Hd) (d : Nat) (e : Ent Hd) (he : ∀ t, e ≠ .vir t) : VirOk S (put S d e) := fun d' t' h => by
  rw [look_put] at h
  split at h
  · simp at h; exact absurd h (he t')
  · exact ⟨t', h, .inr rfl⟩
theorem poi_not_vir {bad : Place → Bool → Bool} {e : Ent Hd} (he : ∀ t, e ≠ .vir t) : ∀ t, e.poi bad ≠ .vir t := fun t h => by
  cases e with
  | vir t => exact he t rfl
  | tmp v => simp [Ent.poi] at h
  | box g cs => simp [Ent.poi] at h
theorem rowAddrE_poi_rev (bad : Place → Bool → Bool) (e : Ent Hd) (st : List (Nat × Nat)) (B : Addr) (row : List (AV Hd)) (h : rowAddrE (e.poi bad) st = some (B, row)) : ∃ row', rowAddrE e st = some (B, row') := by
  have key : ∀ (A : Addr) (cs : List (AV Hd)), rowAddrA A (poiL bad cs) st = some (B, row) → ∃ row', rowAddrA A cs st = some (B, row') := by
    intro A cs h
    by_cases hs : st = []
    · subst hs
      simp only [rowAddrA, Option.some.injEq, Prod.mk.injEq] at h ⊢
      exact ⟨_, h.1, rfl⟩
    · rw [rowAddrA_poi bad A cs st hs] at h; exact ⟨row, h⟩
  cases e with
  | box g cs =>
    simp only [rowAddrE, Ent.poi] at h ⊢
    cases hg : g.a with
    | none => simp [hg] at h
    | some A => simp only [hg] at h ⊢; exact key A cs h
  | tmp v =>
    simp only [Ent.poi, rowAddrE] at h ⊢
    split at h
    · simp at h
    · rename_i hs
      rw [if_neg hs]
      have := cells_poi bad (.tmp v)
      simp only [Ent.poi] at this
      rw [this] at h
      exact key _ _ h
  | vir t =>
    simp only [rowAddrE, Ent.poi] at *
    split at h
    · simp at h
    · rename_i hs
      rw [if_neg hs]
      exact ⟨row, h⟩
theorem poi_back (bad : Place → Bool → Bool) (S : St Hd) (r : Nat) (st : List (Nat × Nat)) (B : Addr) (row' : List (AV Hd)) (h : rowAddrS (poi bad S) r st = some (B, row')) : ∃ row, rowAddrS S r st = some (B, row) := by
  simp only [rowAddrS, look_poi] at *
  cases hl : look S r with
  | none => simp [hl] at h
  | some e =>
    simp only [hl, Option.map_some] at *
    exact rowAddrE_poi_rev bad e _ B row' h
theorem Less.trans {S S1 S2 : St Hd} (h : Less S S1) (h' : Less S1 S2) : Less S S2 :=
  ⟨fun b hb => h.own b (h'.own b hb), fun d g cs hl => by
    obtain ⟨cs1, l1, e1⟩ := h.box d g cs hl
    obtain ⟨cs2, l2, e2⟩ := h'.box d g cs1 l1
    exact ⟨cs2, l2, e2.trans e1⟩,
    fun r st B row' hr => by
      obtain ⟨row1, h1⟩ := h'.back r st B row' hr
      exact h.back r st B row1 h1,
    fun s e2 he => by
      obtain ⟨e1, h1, k1⟩ := h'.roots s e2 he
      obtain ⟨e0, h0, k0⟩ := h.roots s e1 h1
      exact ⟨e0, h0, fun r hr => k0 r (k1 r hr)⟩, h.vir.trans h'.vir⟩
theorem less_poi (bad : Place → Bool → Bool) (S : St Hd) : Less S (poi bad S) :=
  ⟨fun b hb => by rwa [ownS_poi] at hb, fun d g cs hl => ⟨poiL bad cs, by rw [look_poi, hl]; rfl, by rw [poiL_map]; simp⟩, poi_back bad S, fun s e' he => by
    rw [look_poi] at he
    cases hl : look S s with
    | none => simp [hl] at he
    | some e => simp [hl] at he; subst he; exact ⟨e, rfl, rootsE_poi bad e⟩, virOk_poi bad S⟩
theorem fr_of_less {S S' : St Hd} {w : World} (h : Less S S') : Fr S w S' w where
  os := rfl
  tape := rfl
  output := rfl
  size := Nat.le_refl _
  block _ _ _ := rfl
  own b hb := .inl (h.own b hb)
  vir := h.vir
  box d g cs A cells e hl _ hc := by
    obtain ⟨cs', l1, l2⟩ := h.box d g cs hl
    exact ⟨⟨cells, hc, rfl, fun _ _ => rfl⟩, .inl ⟨cs', l1, l2⟩⟩
theorem sub_put (hs : S.Pairwise fun x y => x.1 < y.1) (d : Nat) {b : Nat} (h : b ∈ ownS (put S d (.vir .undef))) : b ∈ ownS S := by
  obtain ⟨rest, p1, p2⟩ := put_perm S d hs
  have := (p2 (.vir .undef)).mem_iff.1 h
  simp [ownE, ownT] at this
  exact p1.mem_iff.2 (by simp [this])
theorem put_tmp_eq (a : Act) (d : Nat) (val : Value) (h : d < a.tmps.size) : (a.put (some d) val).tmps.getD d undef = val := by simp [Act.put, Array.getD, h]
theorem put_tmp_ne (a : Act) (d d' : Nat) (val : Value) (h : d' ≠ d) : (a.put (some d) val).tmps.getD d' undef = a.tmps.getD d' undef := by
  simp only [Act.put, Array.getD_eq_getD_getElem?]
  rw [Array.getElem?_setIfInBounds_ne (fun hh => h hh.symm)]
/-- A result is laid into a slot. -/
theorem put_lands {S1 : St Hd} {w' : World} {d : Nat} {e : Ent Hd} {val : Value} (hG : Good Z S1 a w) (hl : Less S S1)
    (hb : ∀ b, b < w.heap.size → w'.heap[b]? = w.heap[b]?) (hos : w'.os = w.os) (htp : w'.tape = w.tape) (hout : w'.output = w.output) (hsz : w.heap.size ≤ w'.heap.size)
    (he : entOk (a.put (some d) val) w' Z d e) (hnd : (ownE e).Nodup) (hz : ∀ b ∈ ownE e, ¬ Z.b b ∧ b < w'.heap.size) (hown : ∀ b ∈ ownE e, b ∈ ownS S ∨ w.heap.size ≤ b) (hdis : ∀ b ∈ ownE e, b ∉ ownS S1) (hr : refOkE S1 e) (hnv : ∀ t, e ≠ .vir t := by intro t h; cases h) :
    Good Z (put (poi (badRoot d) S1) d (e.poi (badRoot d))) (a.put (some d) val) w' ∧ erS (put (poi (badRoot d) S1) d (e.poi (badRoot d))) = putP (erS S1) d (erE e) ∧ Fr S w (put (poi (badRoot d) S1) d (e.poi (badRoot d))) w' := by
  have hsub : ∀ b, b ∈ ownS (put S1 d (.vir .undef)) → b ∈ ownS S1 := fun b hb => sub_put hG.sorted d hb
  refine ⟨hG.putE d e (fun b hb' => hb b ?_) hsz (fun d' e' hd _ => put_tmp_ne a d d' val hd) (entOk_poi _ he) hnd hz (fun b hb hc => hdis b hb (hsub b hc)) hr, (putP_er hG d e hr).symm, ?_⟩
  · rcases hb' with h | h
    · exact (hG.zn b (hsub b h)).2
    · exact hG.zb b h
  · obtain ⟨rest, p1, p2⟩ := put_perm S1 d hG.sorted
    have pe : (ownS (put (poi (badRoot d) S1) d (e.poi (badRoot d)))).Perm (ownE e ++ rest) := by
      rw [ownS_put_poi]; exact (p2 _).trans (by rw [ownE_poi])
    have hrest : ∀ b ∈ rest, b ∈ ownS S1 := fun b hb => p1.mem_iff.2 (by simp [hb])
    refine ⟨hos, htp, hout, hsz, fun b h _ => hb b h, fun b h => ?_, fun d0 g cs A cells e0 h0 hg hc => ?_, hl.vir.trans ((virOk_poi _ _).trans (virOk_put _ _ _ (poi_not_vir hnv)))⟩
    · rcases List.mem_append.1 (pe.mem_iff.1 h) with h | h
      · exact hown b h
      · exact .inl (hl.own b (hrest b h))
    · have hlt : A.block < w.heap.size := (Array.getElem?_eq_some_iff.1 hc).1
      refine ⟨⟨cells, by rw [hb _ hlt]; exact hc, rfl, fun _ _ => rfl⟩, ?_⟩
      obtain ⟨cs', l1, l2⟩ := hl.box d0 g cs h0
      by_cases hd : d0 = d
      · subst hd
        right
        intro hn
        have hin : A.block ∈ ownE (.box g cs') := by simp [ownE, blk, hg]
        rcases List.mem_append.1 (pe.mem_iff.1 hn) with h | h
        · exact hdis _ h (look_own l1 _ hin)
        · have := p1.nodup_iff.1 hG.nd
          simp only [oldE, l1] at this
          exact nodup_apart this hin h
      · left
        exact ⟨poiL (badRoot d) cs', by rw [look_put, if_neg hd, look_poi, l1]; rfl, by rw [poiL_map]; simpa using l2⟩
mutual
theorem noOwn_of : ∀ v : AV Hd, ownV (erA v) = false → ownA v = []
  | .tr t, h => by
    cases t with
    | sl κ g w rows => cases κ <;> simp_all [erA, erT, ownV, ownA, ownT]
    | _ => rfl
  | .agg cs, h => noOwnL_of cs (by simpa [erA, ownV] using h)
  | .tup cs, h => by simp [erA, ownV] at h
  | .ref .., _ => rfl
  | .ptr .., _ => rfl
  | .psh .., _ => rfl
  | .fn .., _ => rfl
  | .ifc .., _ => rfl
theorem noOwnL_of : ∀ l : List (AV Hd), ownL (erL l) = false → ownAL l = []
  | [], _ => rfl
  | v :: r, h => by
    simp only [erL, ownL, Bool.or_eq_false_iff] at h
    simp [ownAL, noOwn_of v h.1, noOwnL_of r h.2]
end
/-- What an operand holds, used up. -/
theorem evU_ok (hG : Good Z S a w) {t : TypeId} {x : Operand} {v : UV} {U : US} {bad : Place → Bool → Bool} (h : evU P (erS S) t x = some (v, U, bad)) :
    ∃ v' S', erA v' = v ∧ erS S' = U ∧ Good Z S' a w ∧ IsA v' (a.eval x) ∧ memA w Z v' ∧ refOk S' v' ∧ (ownA v').Nodup ∧ (∀ b ∈ ownA v', b ∈ ownS S ∧ b ∉ ownS S') ∧ Less S S' ∧ Keeps S S' bad ∧ (∀ b ∈ ownA v', ∃ d, x = .tmp d ∧ b ∈ slotB S d) ∧ Own1 (fun d => x = .tmp d) S S' ∧ (∀ r ∈ rootsV v', ∃ d, x = .tmp d ∧ (r = d ∨ ∃ e, look S d = some e ∧ r ∈ rootsE e)) := by
  unfold evU at h
  cases hv : ev P (erS S) t x with
  | none => simp [hv] at h
  | some v0 =>
    obtain ⟨v', h1, h2, h3, h4, h5, h6⟩ := ev_ok hG hv
    simp only [hv] at h
    have hroots : ∀ r ∈ rootsV v', ∃ d, x = .tmp d ∧ (r = d ∨ ∃ e, look S d = some e ∧ r ∈ rootsE e) := by
      intro r hr
      cases x with
      | tmp d =>
        obtain ⟨e, hl, he⟩ := h6 d rfl
        rcases he with rfl | ⟨g, cs, rfl, rfl⟩
        · exact ⟨d, rfl, .inr ⟨_, hl, hr⟩⟩
        · exact ⟨d, rfl, .inl (by simpa [rootsV] using hr)⟩
      | const c =>
        exfalso
        simp only [ev] at hv
        unfold evC at hv
        split at hv
        all_goals (try split at hv)
        all_goals (try (simp at hv; done))
        all_goals (simp only [Option.some.injEq] at hv; rw [← hv] at h1)
        all_goals first
          | (obtain ⟨t', rfl, _⟩ := erA_tr h1; simp [rootsV] at hr; done)
          | (obtain ⟨c', rfl, hc⟩ := erA_agg h1
             obtain ⟨v0, hv0, hr0⟩ := mem_rootsL.1 hr
             obtain ⟨i, hi⟩ := List.getElem?_of_mem hv0
             have h7 : (erL c')[i]? = some (erA v0) := by rw [erL_get, hi]; rfl
             rw [hc, List.getElem?_map] at h7
             cases hz : (zeroOf P t)[i]? with
             | none => simp [hz] at h7
             | some tz =>
               simp [hz] at h7
               obtain ⟨t', rfl, _⟩ := erA_tr h7.symm
               simp [rootsV] at hr0)
      | func f =>
        exfalso
        simp [ev] at hv
        subst hv
        obtain ⟨c', rfl, hc⟩ := erA_fn h1
        cases c' with
        | nil => simp [rootsV, rootsL] at hr
        | cons => simp [erL] at hc
      | global g => simp [ev] at hv
    have kept : ∀ {bad'}, ownA v' = [] → some (v0, erS S, noBad) = some (v, U, bad') → ∃ v' S', erA v' = v ∧ erS S' = U ∧ Good Z S' a w ∧ IsA v' (a.eval x) ∧ memA w Z v' ∧ refOk S' v' ∧ (ownA v').Nodup ∧ (∀ b ∈ ownA v', b ∈ ownS S ∧ b ∉ ownS S') ∧ Less S S' ∧ Keeps S S' bad' ∧ (∀ b ∈ ownA v', ∃ d, x = .tmp d ∧ b ∈ slotB S d) ∧ Own1 (fun d => x = .tmp d) S S' ∧ (∀ r ∈ rootsV v', ∃ d, x = .tmp d ∧ (r = d ∨ ∃ e, look S d = some e ∧ r ∈ rootsE e)) := by
      intro bad' ho he
      simp at he
      obtain ⟨rfl, rfl, rfl⟩ := he
      exact ⟨v', S, h1, rfl, hG, h2, h3, h4, by rw [ho]; simp, by rw [ho]; simp, .refl S, ⟨fun _ _ _ _ rows e => ⟨rows, e, rfl⟩, fun _ _ _ row e => ⟨row, e⟩⟩, by rw [ho]; simp, .refl _ S, hroots⟩
    cases x with
    | const c => rcases h5 with h5 | ⟨d, hd, _⟩; exact kept h5 h; simp at hd
    | func f => rcases h5 with h5 | ⟨d, hd, _⟩; exact kept h5 h; simp at hd
    | global g => rcases h5 with h5 | ⟨d, hd, _⟩; exact kept h5 h; simp at hd
    | tmp d =>
      simp only at h
      split at h
      · rename_i hown
        simp at h
        obtain ⟨rfl, rfl, rfl⟩ := h
        obtain ⟨e, hle, he⟩ := h6 d rfl
        have hle' : look S d = some (.tmp v') := by
          rcases he with rfl | ⟨g, cs, rfl, rfl⟩
          · exact hle
          · simp [erA] at h1; subst h1; simp [ownV] at hown
        obtain ⟨g1, g2, g3⟩ := put_lands (S := S) (a := a) (d := d) (e := .tmp (.tr .undef)) (val := a.tmps.getD d undef) hG (.refl S) (fun _ _ => rfl) rfl rfl rfl (Nat.le_refl _)
          ⟨trivial, trivial⟩ (by simp [ownE, ownA, ownT]) (by simp [ownE, ownA, ownT]) (by simp [ownE, ownA, ownT]) (by simp [ownE, ownA, ownT]) trivial
        have hact : ∀ d', (a.put (some d) (a.tmps.getD d undef)).tmps.getD d' undef = a.tmps.getD d' undef := by
          intro d'
          by_cases hd : d' = d
          · subst hd
            by_cases hlt : d' < a.tmps.size
            · rw [put_tmp_eq a d' _ hlt]
            · simp [Act.put, Array.getD, hlt]
          · exact put_tmp_ne a d d' _ hd
        obtain ⟨rest, p1, p2⟩ := put_perm S d hG.sorted
        simp only [oldE, hle'] at p1
        have pe : (ownS (put (poi (badRoot d) S) d ((Ent.tmp (.tr .undef)).poi (badRoot d)))).Perm rest := by
          rw [ownS_put_poi]; exact (p2 _).trans (by simp [Ent.poi, poiA, ownE, ownA, ownT])
        have hkeep : Keeps S (put (poi (badRoot d) S) d ((Ent.tmp (.tr .undef)).poi (badRoot d))) (badRoot d) := (keeps_poi S (badRoot d) (badRoot d)).trans (keeps_put _ _ _)
        refine ⟨poiA (badRoot d) v', _, by rw [poiA_er, h1], g2, g1.frame (fun _ _ => rfl) (Nat.le_refl _) (fun d' e' _ => (hact d').symm), IsA_poi _ _ _ h2, memA_poi _ _ h3, refOk_keeps hkeep v' h4, ?_, ?_, ?_, hkeep, fun b hb => ⟨d, rfl, by rw [ownA_poi] at hb; simpa only [slotB, hle', ownE] using hb⟩, (own1_poi _ _ S).trans (own1_put _ _ _ rfl), fun r hr => hroots r (rootsV_poi _ _ r hr)⟩
        · rw [ownA_poi]; exact nodup_append_left (p1.nodup_iff.1 hG.nd)
        · rw [ownA_poi]
          intro b hb
          exact ⟨p1.mem_iff.2 (by simp [ownE, hb]), fun hc => nodup_apart (p1.nodup_iff.1 hG.nd) (by simpa [ownE] using hb) (pe.mem_iff.1 hc)⟩
        · refine ⟨fun b hb => p1.mem_iff.2 (by simp [pe.mem_iff.1 hb]), fun d0 g cs hl0 => ?_, fun r st B row' hr => ?_, fun s e' he => ?_, (virOk_poi _ _).trans (virOk_put _ _ _ (by intro t h; simp [Ent.poi] at h))⟩
          · have hd : d0 ≠ d := by rintro rfl; rw [hle'] at hl0; simp at hl0
            exact ⟨poiL (badRoot d) cs, by rw [look_put, if_neg hd, look_poi, hl0]; rfl, by rw [poiL_map]; simp⟩
          · by_cases hd : r = d
            · exfalso
              subst hd
              simp only [rowAddrS, look_put, if_true, Ent.poi, poiA, rowAddrE] at hr
              split at hr
              · simp at hr
              · cases st with
                | nil => rename_i hh; exact hh rfl
                | cons x rr => obtain ⟨o1, i1⟩ := x; simp only [rowAddrA, Ent.cells] at hr; cases o1 <;> simp at hr
            · rw [rowAddr_root (S := poi (badRoot d) S) (by rw [look_put, if_neg hd])] at hr
              exact poi_back _ S r st B row' hr
          · rw [look_put] at he
            split at he
            · rename_i hd; subst hd
              simp at he; subst he
              exact ⟨_, hle', by simp [Ent.poi, poiA, rootsE, rootsV]⟩
            · exact (less_poi (badRoot d) S).roots s e' he
      · rename_i hown
        refine kept ?_ h
        rcases h5 with h5 | ⟨d', hd, hl'⟩
        · exact h5
        · exact noOwn_of v' (by rw [h1]; simpa using hown)
end Go.HT
end
section
namespace Go.HT
open Go

mutual
theorem poiA_idem (bad : Place → Bool → Bool) : ∀ v : AV Hd, poiA bad (poiA bad v) = poiA bad v
  | .tr t => rfl
  | .agg cs => by simp [poiA, poiL_idem bad cs]
  | .tup cs => by simp [poiA, poiL_idem bad cs]
  | .fn _ cs => by simp [poiA, poiL_idem bad cs]
  | .ifc _ v => by simp [poiA, poiA_idem bad v]
  | .psh .. => rfl
  | .ref q lo n cp g => by cases h : bad q true <;> simp [poiA, h]
  | .ptr q g => by cases h : bad q false <;> simp [poiA, h]
theorem poiL_idem (bad : Place → Bool → Bool) : ∀ l : List (AV Hd), poiL bad (poiL bad l) = poiL bad l
  | [] => rfl
  | v :: r => by simp [poiL, poiA_idem bad v, poiL_idem bad r]
end
theorem poi_idem (bad : Place → Bool → Bool) (S : St Hd) : poi bad (poi bad S) = poi bad S := by
  induction S with
  | nil => rfl
  | cons x r ih =>
    obtain ⟨k, e⟩ := x
    simp only [poi, ih]
    cases e <;> simp [Ent.poi, poiA_idem, poiL_idem]
theorem stepRow_mem {w : World} {Z : Zone} : ∀ {st : List (Nat × Nat)} {cs row : List (AV Hd)}, (∀ x ∈ cs, memA w Z x) → stepRow cs st = some row → ∀ x ∈ row, memA w Z x
  | [], cs, row, h, hs => by simp [stepRow] at hs; subst hs; exact h
  | (o, i) :: r, cs, row, h, hs => by
    simp only [stepRow] at hs
    split at hs
    · rename_i g wd rows e1
      split at hs
      · rename_i row1 e2
        refine stepRow_mem (st := r) ?_ hs
        obtain ⟨_, _, m3⟩ := h _ (List.mem_of_getElem? e1)
        intro x hx
        simp at hx
        obtain ⟨t, ht, rfl⟩ := hx
        exact memRow_iff.1 (memRows_iff.1 m3 row1 (List.mem_of_getElem? e2)) t ht
      · simp at hs
    · simp at hs
theorem Good.cellsMem {Z : Zone} {S : St Hd} {a : Act} {w : World} (h : Good Z S a w) {d : Nat} {e : Ent Hd} (hl : look S d = some e) : ∀ x ∈ e.cells, memA w Z x := by
  have he := h.ent _ _ hl
  cases e with
  | box g cs => obtain ⟨h1, A, h2, h3, cells, e, h4, h5, h6⟩ := he; intro x hx; obtain ⟨j, hj⟩ := List.getElem?_of_mem hx; exact (h6 j x hj).2
  | vir t => intro x hx; simp [Ent.cells] at hx; subst hx; exact he
  | tmp v =>
    cases v with
    | agg cs => exact memL_iff.1 he.2
    | _ => intro x hx; simp [Ent.cells] at hx; subst hx; exact he.2
theorem Good.rowMem {Z : Zone} {S : St Hd} {a : Act} {w : World} (h : Good Z S a w) {r : Nat} {st : List (Nat × Nat)} {row : List (AV Hd)} (hr : rowOf S r st = some row) : ∀ x ∈ row, memA w Z x := by
  simp only [rowOf] at hr
  cases hl : look S r with
  | none => simp [hl] at hr
  | some e => simp only [hl] at hr; exact stepRow_mem (h.cellsMem hl) hr
theorem Good.getMem {Z : Zone} {S : St Hd} {a : Act} {w : World} (h : Good Z S a w) {q : Place} {c : AV Hd} (hc : getC S q = some c) : memA w Z c := by
  simp only [getC] at hc
  cases hr : rowOf S q.root q.st with
  | none => simp [hr] at hc
  | some row => simp only [hr] at hc; exact h.rowMem hr c (List.mem_of_getElem? hc)
theorem setC_perm {S S' : St Hd} {q : Place} {c : AV Hd} (hs0 : S.Pairwise fun x y => x.1 < y.1) (h : setC S q c = some S') : ∃ old rest, getC S q = some old ∧ (ownS S).Perm (ownA old ++ rest) ∧ (ownS S').Perm (ownA c ++ rest) := by
  obtain ⟨e, e', h1, h2, rfl⟩ := setC_look h
  obtain ⟨old, rest, p0, p1, p2⟩ := setE_perm h2
  obtain ⟨rest2, r1, r2⟩ := put_perm S q.root hs0
  simp only [oldE, h1] at r1
  exact ⟨old, rest ++ rest2, by rw [getC_getA h1]; exact p0, r1.trans ((p1.append_right _).trans (by simp [List.append_assoc])), (r2 e').trans ((p2.append_right _).trans (by simp [List.append_assoc]))⟩
theorem setRowA_length {st : List (Nat × Nat)} {cs cs' : List (AV Hd)} {off : Nat} {c : AV Hd} (h : setRowA cs st off c = some cs') : cs'.length = cs.length := by
  cases st with
  | nil => simp only [setRowA] at h; split at h <;> simp at h; subst h; simp
  | cons x r =>
    obtain ⟨o, i⟩ := x
    obtain ⟨g, wd, rows, row1, t, row3, e1, e3, rfl, e4, rfl⟩ := setRowA_cons h
    simp
theorem revAddrT : ∀ {st st2 : List (Nat × Nat)} {row row2 r' : List (Tr Hd)} {B B' : Addr} {off : Nat}, setRowT row st off .undef = some row2 → rowAddrT B row2 st2 = some (B', r') → ∃ r0, rowAddrT B row st2 = some (B', r0)
  | st, [], row, row2, r', B, B', off, h, hg => by
    simp only [rowAddrT, Option.some.injEq, Prod.mk.injEq] at hg
    exact ⟨row, by simp [rowAddrT, hg.1]⟩
  | [], (o2, i2) :: rr, row, row2, r', B, B', off, h, hg => by
    simp only [setRowT] at h
    split at h
    · rename_i hlt
      simp at h; subst h
      simp only [rowAddrT] at hg ⊢
      by_cases hh : off = o2
      · subst hh; simp [hlt] at hg
      · rw [List.getElem?_set_ne hh] at hg
        exact ⟨r', hg⟩
    · simp at h
  | (o, i) :: r, (o2, i2) :: rr, row, row2, r', B, B', off, h, hg => by
    simp only [setRowT] at h
    split at h
    · rename_i g1 w1 rows1 e1
      split at h
      · rename_i row1 e3
        split at h
        · rename_i row3 e4
          simp at h; subst h
          have hlt : o < row.length := (List.getElem?_eq_some_iff.1 e1).1
          simp only [rowAddrT] at hg ⊢
          by_cases hh : o = o2
          · subst hh
            simp only [List.getElem?_set_self hlt] at hg
            simp only [e1]
            cases hga : g1.a with
            | none => simp [hga] at hg
            | some A =>
              simp only [hga] at hg ⊢
              by_cases hi : i = i2
              · subst hi
                have hilt : i < rows1.length := (List.getElem?_eq_some_iff.1 e3).1
                simp only [List.getElem?_set_self hilt] at hg
                simp only [e3]
                exact revAddrT e4 hg
              · rw [List.getElem?_set_ne hi] at hg
                exact ⟨r', hg⟩
          · rw [List.getElem?_set_ne hh] at hg
            exact ⟨r', hg⟩
        · simp at h
      · simp at h
    · simp at h
theorem revAddrA {st st2 : List (Nat × Nat)} {cs cs' r' : List (AV Hd)} {B B' : Addr} {off : Nat} (h : setRowA cs st off (.tr .undef) = some cs') (hg : rowAddrA B cs' st2 = some (B', r')) : ∃ r0, rowAddrA B cs st2 = some (B', r0) := by
  cases st2 with
  | nil =>
    simp only [rowAddrA, Option.some.injEq, Prod.mk.injEq] at hg
    exact ⟨cs, by simp [rowAddrA, hg.1]⟩
  | cons y rr =>
    obtain ⟨o2, i2⟩ := y
    cases st with
    | nil =>
      simp only [setRowA] at h
      split at h
      · rename_i hlt
        simp at h; subst h
        simp only [rowAddrA] at hg ⊢
        by_cases hh : off = o2
        · subst hh; simp [hlt] at hg
        · rw [List.getElem?_set_ne hh] at hg
          exact ⟨r', hg⟩
      · simp at h
    | cons x r =>
      obtain ⟨o, i⟩ := x
      obtain ⟨g1, w1, rows1, row1, t, row3, e1, e3, ht, e4, rfl⟩ := setRowA_cons h
      simp at ht; subst ht
      have hlt : o < cs.length := (List.getElem?_eq_some_iff.1 e1).1
      simp only [rowAddrA] at hg ⊢
      by_cases hh : o = o2
      · subst hh
        simp only [List.getElem?_set_self hlt] at hg
        simp only [e1]
        cases hga : g1.a with
        | none => simp [hga] at hg
        | some A =>
          simp only [hga] at hg ⊢
          by_cases hi : i = i2
          · subst hi
            have hilt : i < rows1.length := (List.getElem?_eq_some_iff.1 e3).1
            simp only [List.getElem?_set_self hilt] at hg
            simp only [e3]
            cases hr : rowAddrT ⟨A.block, A.off + i * w1, none⟩ row3 rr with
            | none => simp [hr] at hg
            | some x =>
              obtain ⟨B2, r2⟩ := x
              simp only [hr, Option.map_some, Option.some.injEq, Prod.mk.injEq] at hg
              obtain ⟨rfl, rfl⟩ := hg
              obtain ⟨r0, k⟩ := revAddrT e4 hr
              exact ⟨r0.map .tr, by simp [k]⟩
          · rw [List.getElem?_set_ne hi] at hg
            exact ⟨r', hg⟩
      · rw [List.getElem?_set_ne hh] at hg
        exact ⟨r', hg⟩
theorem setC_back {S S' : St Hd} {q : Place} (h : setC S q (.tr .undef) = some S') (r : Nat) (st : List (Nat × Nat)) (B : Addr) (row' : List (AV Hd)) (hr : rowAddrS S' r st = some (B, row')) : ∃ row, rowAddrS S r st = some (B, row) := by
  obtain ⟨e, e', h1, h2, rfl⟩ := setC_look h
  by_cases hd : r = q.root
  · subst hd
    simp only [rowAddrS, look_put, if_true, h1] at hr ⊢
    cases e with
    | box g cs =>
      simp only [Ent.set] at h2
      split at h2
      · rename_i cs' hs
        simp at h2; subst h2
        simp only [rowAddrE] at hr ⊢
        cases hg : g.a with
        | none => simp [hg] at hr
        | some A => simp only [hg] at hr ⊢; exact revAddrA hs hr
      · simp at h2
    | vir t =>
      have hc := setE_cells h2
      rcases hc with hc | ⟨k1, v, hh, _⟩
      · simp only [Ent.set] at h2
        split at h2
        · simp at h2; subst h2
          simp only [rowAddrE] at hr ⊢
          split at hr
          · simp at hr
          · rename_i hs; rw [if_neg hs]; exact revAddrA hc hr
        · simp at h2
      · simp at hh
    | tmp v =>
      have htmp : ∃ v', e' = .tmp v' := by
        cases v <;> simp only [Ent.set] at h2 <;> split at h2 <;> simp at h2 <;> exact ⟨_, h2.symm⟩
      obtain ⟨v', rfl⟩ := htmp
      rcases setE_cells h2 with hc | ⟨k1, v2, k2, hna, k3, k4⟩
      · simp only [rowAddrE] at hr ⊢
        split at hr
        · simp at hr
        · rename_i hs; rw [if_neg hs]; exact revAddrA hc hr
      · simp at k3
        subst k3
        simp only [rowAddrE] at hr
        split at hr
        · simp at hr
        · cases st with
          | nil => rename_i hh; exact absurd rfl hh
          | cons x rr => obtain ⟨o1, i1⟩ := x; simp only [rowAddrA, Ent.cells] at hr; cases o1 <;> simp at hr
  · rw [rowAddr_root (S := S) (by rw [look_put, if_neg hd])] at hr
    exact ⟨row', hr⟩
theorem setE_roots {e e' : Ent Hd} {st : List (Nat × Nat)} {off : Nat} {c : Tr Hd} (h : e.set st off (.tr c) = some e') : ∀ r ∈ rootsE e', r ∈ rootsE e := by
  have key : ∀ cs cs', setRowA cs st off (.tr c) = some cs' → ∀ r ∈ rootsL cs', r ∈ rootsL cs := by
    intro cs cs' hs r hr
    obtain ⟨v, hv, hr2⟩ := mem_rootsL.1 hr
    clear hr
    cases st with
    | nil =>
      simp only [setRowA] at hs
      split at hs
      · simp at hs; subst hs
        rcases List.mem_or_eq_of_mem_set hv with hv | rfl
        · exact mem_rootsL.2 ⟨v, hv, hr2⟩
        · simp [rootsV] at hr2
      · simp at hs
    | cons x rr =>
      obtain ⟨o, i⟩ := x
      obtain ⟨g1, w1, rows1, row1, t, row3, e1, e3, ht, e4, rfl⟩ := setRowA_cons hs
      rcases List.mem_or_eq_of_mem_set hv with hv | rfl
      · exact mem_rootsL.2 ⟨v, hv, hr2⟩
      · simp [rootsV] at hr2
  cases e with
  | box g cs =>
    simp only [Ent.set] at h
    split at h
    · simp at h; subst h; simp [rootsE]
    · simp at h
  | vir t =>
    simp only [Ent.set] at h
    split at h
    · simp at h; subst h; simp [rootsE]
    · simp at h
  | tmp v =>
    cases v with
    | agg cs =>
      simp only [Ent.set] at h
      split at h
      · rename_i cs' hs; simp at h; subst h; exact key _ _ hs
      · simp at h
    | _ =>
      simp only [Ent.set] at h
      split at h
      · rename_i v' hs
        simp at h; subst h
        intro r hr
        have := key _ _ hs r (by simpa [rootsL, rootsE] using hr)
        simpa [rootsL, rootsE] using this
      · simp at h
/-- Below a header that was handed in nothing hangs on it; at it, the new one must be as the old one. -/
theorem virOk_setC {S S' : St Hd} {q : Place} {c : AV Hd} (h : setC S q c = some S') (hc : (∀ t, look S q.root = some (.vir t) → q.st ≠ []) ∨ ∀ t, c = .tr t → hdT t = none ∨ ∃ t0, getC S q = some (.tr t0) ∧ hdT t = hdT t0) : VirOk S S' := by
  obtain ⟨e, e', h1, h2, rfl⟩ := setC_look h
  intro d t' hl
  rw [look_put] at hl
  split at hl
  · rename_i hd; subst hd
    simp at hl; subst hl
    cases e with
    | box g cs => simp only [Ent.set] at h2; split at h2 <;> simp at h2
    | tmp v => cases v <;> simp only [Ent.set] at h2 <;> split at h2 <;> simp at h2
    | vir t =>
      refine ⟨t, h1, ?_⟩
      simp only [Ent.set] at h2
      split at h2
      · rename_i t2 hs
        simp at h2; subst h2
        cases hst : q.st with
        | nil =>
          simp only [hst, setRowA] at hs
          split at hs
          · rename_i hlt
            simp at hs
            have h0 : q.off = 0 := by simpa using hlt
            rw [h0] at hs
            simp at hs
            rcases (hc.resolve_left fun hn => hn t h1 hst) _ hs with h | ⟨t0, h3, h4⟩
            · exact .inl h
            · right
              have hg : getC S q = some (.tr t) := by simp [getC, rowOf, h1, hst, Ent.cells, stepRow, h0]
              rw [hg] at h3; simp at h3; subst h3; exact h4
          · simp at hs
        | cons x r =>
          obtain ⟨o, i⟩ := x
          rw [hst] at hs
          obtain ⟨g, wd, rows, row1, t3, row3, e1, e3, e4, e5, e6⟩ := setRowA_cons hs
          right
          cases o with
          | zero =>
            simp at e1; subst e1
            simp [hdT] at e6
            simp [e6, hdT]
          | succ o => simp at e1
      · simp at h2
  · exact ⟨t', hl, .inr rfl⟩
theorem vir_row {S : St Hd} {r : Nat} {st : List (Nat × Nat)} {B : Addr} {row : List (AV Hd)} (ha : rowAddrS S r st = some (B, row)) {t : Tr Hd} (hl : look S r = some (.vir t)) : st ≠ [] := by
  rintro rfl
  simp [rowAddrS, hl, rowAddrE] at ha
theorem less_setC {S S' : St Hd} {q : Place} (hs0 : S.Pairwise fun x y => x.1 < y.1) (h : setC S q (.tr .undef) = some S') : Less S S' := by
  obtain ⟨old, rest, p0, p1, p2⟩ := setC_perm hs0 h
  refine ⟨fun b hb => ?_, fun d g cs hl => ?_, setC_back h, fun s e' he => ?_, virOk_setC h (.inr fun t ht => by cases ht; exact .inl rfl)⟩
  · have := p2.mem_iff.1 hb
    simp [ownA, ownT] at this
    exact p1.mem_iff.2 (by simp [this])
  · obtain ⟨e, e', h1, h2, rfl⟩ := setC_look h
    by_cases hd : d = q.root
    · subst hd
      rw [h1] at hl; simp at hl; subst hl
      simp only [Ent.set] at h2
      split at h2
      · rename_i cs' hs; simp at h2; subst h2
        exact ⟨cs', by rw [look_put, if_pos rfl], setRowA_length hs⟩
      · simp at h2
    · exact ⟨cs, by rw [look_put, if_neg hd]; exact hl, rfl⟩
  · obtain ⟨e, e1, h1, h2, rfl⟩ := setC_look h
    rw [look_put] at he
    split at he
    · rename_i hd; subst hd
      simp at he; subst he
      exact ⟨e, h1, setE_roots h2⟩
    · exact ⟨e', he, fun _ h => h⟩
theorem take_er (S : St Hd) (q : Place) : take (erS S) q = (setC (poi (badAt q) S) q (.tr .undef)).map erS := by
  unfold take
  rw [← poi_er, ← setC_er]
  rfl
theorem getC_poi_sl {S : St Hd} {bad : Place → Bool → Bool} {q : Place} {κ : Knd} {g : Hd} {w : Nat} {rows : List (List (Tr Hd))} : getC (poi bad S) q = some (.tr (.sl κ g w rows)) ↔ getC S q = some (.tr (.sl κ g w rows)) := by
  simp only [getC, rowOf, look_poi]
  cases hl : look S q.root with
  | none => simp
  | some e =>
    simp only [Option.map_some, cells_poi]
    by_cases hs : q.st = []
    · simp only [hs, stepRow, poiL_get]
      cases hc : e.cells[q.off]? with
      | none => simp
      | some v =>
        simp only [Option.map_some, Option.some.injEq]
        exact ⟨poiA_sl, fun h => poiA_tr h⟩
    · rw [stepRow_poi bad _ _ hs]
theorem revT : ∀ {st st2 : List (Nat × Nat)} {row row2 : List (Tr Hd)} {off off2 : Nat}, setRowT row st off .undef = some row2 → ∀ {g : Hd} {w : Nat} {rows : List (List (Tr Hd))}, getT row2 st2 off2 = some (.sl .own g w rows) →
    ∃ rows', getT row st2 off2 = some (.sl .own g w rows') ∧ rows'.length = rows.length
  | [], st2, row, row2, off, off2, h, g, w, rows, hg => by
    simp only [setRowT] at h
    split at h
    · rename_i hlt
      simp at h; subst h
      cases st2 with
      | nil =>
        by_cases hh : off = off2
        · subst hh; simp [getT, hlt] at hg
        · exact ⟨rows, by simpa [getT, List.getElem?_set, hh] using hg, rfl⟩
      | cons x r2 =>
        obtain ⟨o2, i2⟩ := x
        by_cases hh : off = o2
        · subst hh; simp [getT, hlt] at hg
        · exact ⟨rows, by simpa [getT, List.getElem?_set, hh] using hg, rfl⟩
    · simp at h
  | (o, i) :: r, st2, row, row2, off, off2, h, g, w, rows, hg => by
    simp only [setRowT] at h
    split at h
    · rename_i g1 w1 rows1 e1
      split at h
      · rename_i row1 e3
        split at h
        · rename_i row3 e4
          simp at h; subst h
          have hlt : o < row.length := (List.getElem?_eq_some_iff.1 e1).1
          cases st2 with
          | nil =>
            by_cases hh : o = off2
            · subst hh
              simp only [getT, List.getElem?_set_self hlt, Option.some.injEq, Tr.sl.injEq] at hg
              obtain ⟨_, rfl, rfl, rfl⟩ := hg
              exact ⟨rows1, by simp [getT, e1], by simp⟩
            · exact ⟨rows, by simpa [getT, List.getElem?_set, hh] using hg, rfl⟩
          | cons x r2 =>
            obtain ⟨o2, i2⟩ := x
            by_cases hh : o = o2
            · subst hh
              simp only [getT, List.getElem?_set_self hlt] at hg
              by_cases hi : i = i2
              · subst hi
                have hilt : i < rows1.length := (List.getElem?_eq_some_iff.1 e3).1
                simp only [List.getElem?_set_self hilt] at hg
                obtain ⟨rows', k1, k2⟩ := revT (st2 := r2) e4 hg
                exact ⟨rows', by simp only [getT, e1, e3]; exact k1, k2⟩
              · rw [List.getElem?_set_ne hi] at hg
                exact ⟨rows, by simp only [getT, e1]; exact hg, rfl⟩
            · exact ⟨rows, by simpa [getT, List.getElem?_set, hh] using hg, rfl⟩
        · simp at h
      · simp at h
    · simp at h
theorem revA {st st2 : List (Nat × Nat)} {cs cs' : List (AV Hd)} {off off2 : Nat} (h : setRowA cs st off (.tr .undef) = some cs') {g : Hd} {w : Nat} {rows : List (List (Tr Hd))} (hg : getA cs' st2 off2 = some (.tr (.sl .own g w rows))) :
    ∃ rows', getA cs st2 off2 = some (.tr (.sl .own g w rows')) ∧ rows'.length = rows.length := by
  cases st with
  | nil =>
    simp only [setRowA] at h
    split at h
    · rename_i hlt
      simp at h; subst h
      cases st2 with
      | nil =>
        by_cases hh : off = off2
        · subst hh; simp [getA, stepRow, hlt] at hg
        · exact ⟨rows, by simpa [getA, stepRow, List.getElem?_set, hh] using hg, rfl⟩
      | cons x r2 =>
        obtain ⟨o2, i2⟩ := x
        by_cases hh : off = o2
        · subst hh; simp [getA, stepRow, hlt] at hg
        · exact ⟨rows, by simpa [getA, stepRow, List.getElem?_set, hh] using hg, rfl⟩
    · simp at h
  | cons x r =>
    obtain ⟨o, i⟩ := x
    obtain ⟨g1, w1, rows1, row1, t, row3, e1, e3, ht, e4, rfl⟩ := setRowA_cons h
    simp at ht; subst ht
    have hlt : o < cs.length := (List.getElem?_eq_some_iff.1 e1).1
    cases st2 with
    | nil =>
      by_cases hh : o = off2
      · subst hh
        simp only [getA, stepRow, List.getElem?_set_self hlt, Option.some.injEq, AV.tr.injEq, Tr.sl.injEq] at hg
        obtain ⟨_, rfl, rfl, rfl⟩ := hg
        exact ⟨rows1, by simp [getA, stepRow, e1], by simp⟩
      · exact ⟨rows, by simpa [getA, stepRow, List.getElem?_set, hh] using hg, rfl⟩
    | cons y r2 =>
      obtain ⟨o2, i2⟩ := y
      by_cases hh : o = o2
      · subst hh
        by_cases hi : i = i2
        · subst hi
          have hilt : i < rows1.length := (List.getElem?_eq_some_iff.1 e3).1
          rw [getA_cons (g := g1) (w := w1) (row1 := row3) (rows := rows1.set i row3) (by simp [hlt]) (by simp [hilt])] at hg
          have hg' : getT row3 r2 off2 = some (.sl .own g w rows) := by
            cases hh : getT row3 r2 off2 with
            | none => simp [hh] at hg
            | some t' => simp [hh] at hg; rw [hg]
          obtain ⟨rows', k1, k2⟩ := revT (st2 := r2) e4 hg'
          exact ⟨rows', by rw [getA_cons e1 e3, k1]; rfl, k2⟩
        · refine ⟨rows, ?_, rfl⟩
          simp only [getA, stepRow, List.getElem?_set_self hlt, List.getElem?_set_ne hi] at hg
          simp only [getA, stepRow, e1]
          exact hg
      · exact ⟨rows, by simpa [getA, stepRow, List.getElem?_set, hh] using hg, rfl⟩
theorem revC {S S' : St Hd} {q q2 : Place} (h : setC S q (.tr .undef) = some S') {g : Hd} {w : Nat} {rows : List (List (Tr Hd))} (hg : getC S' q2 = some (.tr (.sl .own g w rows))) :
    ∃ rows', getC S q2 = some (.tr (.sl .own g w rows')) ∧ rows'.length = rows.length := by
  obtain ⟨e, e', h1, h2, rfl⟩ := setC_look h
  by_cases hr : q2.root = q.root
  · have hl : look (put S q.root e') q2.root = some e' := by rw [look_put, if_pos hr]
    rw [getC_getA hl] at hg
    rw [getC_getA (hr ▸ h1)]
    rcases setE_cells h2 with k | ⟨k1, v, rfl, hna, rfl, k2⟩
    · exact revA k hg
    · exfalso
      simp only [Ent.cells] at hg
      cases hst : q2.st with
      | nil =>
        simp only [hst, getA, stepRow] at hg
        cases ho : q2.off with
        | zero => simp [ho] at hg
        | succ n => simp [ho] at hg
      | cons x r =>
        obtain ⟨o, i⟩ := x
        simp only [hst, getA, stepRow] at hg
        cases o <;> simp at hg
  · rw [getC_root (S := S) (by rw [look_put, if_neg hr])] at hg
    exact ⟨rows, hg, rfl⟩
/-- What lies at a place is taken. -/
theorem take_ok2 {Z : Zone} {S : St Hd} {a : Act} {w : World} (hG : Good Z S a w) {q : Place} {U : US} (h : take (erS S) q = some U) {g : Hd} {wd : Nat} {rows : List (List (Tr Hd))} (hc : getC S q = some (.tr (.sl .own g wd rows))) :
    ∃ S', erS S' = U ∧ Good Z S' a w ∧ Less S S' ∧ (ownT (.sl .own g wd rows)).Nodup ∧ (∀ b ∈ ownT (.sl .own g wd rows), b ∈ ownS S ∧ b ∉ ownS S') ∧ memT w Z true (.sl .own g wd rows) ∧ Keeps S S' (badAt q) ∧
      (∀ q2 g w rows, getC S' q2 = some (.tr (.sl .own g w rows)) → ∃ rows', getC S q2 = some (.tr (.sl .own g w rows')) ∧ rows'.length = rows.length) ∧ Own1 (fun x => x = q.root) S S' ∧ HT.setC (HT.poi (badAt q) S) q (.tr .undef) = some S' := by
  rw [take_er] at h
  cases hs : setC (poi (badAt q) S) q (.tr .undef) with
  | none => simp [hs] at h
  | some S' =>
    simp [hs] at h; subst h
    have hG0 := hG.poi (badAt q)
    obtain ⟨old, rest, p0, p1, p2⟩ := setC_perm hG0.sorted hs
    rw [getC_poi_sl.2 hc] at p0
    simp at p0; subst p0
    rw [ownS_poi] at p1
    have hnd := p1.nodup_iff.1 hG.nd
    refine ⟨S', rfl, hG0.unhold hs (keeps_setC hs) (poi_idem _ _), (less_poi _ S).trans (less_setC hG0.sorted hs), nodup_append_left hnd, fun b hb => ⟨p1.mem_iff.2 (by simp [ownA, hb]), fun hb' => ?_⟩, hG.getMem hc, (keeps_poi S _ _).trans (keeps_setC hs), fun q2 g w rows hg => ?_, (own1_poi _ _ S).trans (own1_setC hs rfl), rfl⟩
    · have := p2.mem_iff.1 hb'
      simp [ownA, ownT] at this
      exact nodup_apart hnd hb this
    · obtain ⟨rows', k1, k2⟩ := revC hs hg
      exact ⟨rows', getC_poi_sl.1 k1, k2⟩
theorem take_ok {Z : Zone} {S : St Hd} {a : Act} {w : World} (hG : Good Z S a w) {q : Place} {U : US} (h : take (erS S) q = some U) {g : Hd} {wd : Nat} {rows : List (List (Tr Hd))} (hc : getC S q = some (.tr (.sl .own g wd rows))) :
    ∃ S', erS S' = U ∧ Good Z S' a w ∧ Less S S' ∧ (ownT (.sl .own g wd rows)).Nodup ∧ (∀ b ∈ ownT (.sl .own g wd rows), b ∈ ownS S ∧ b ∉ ownS S') ∧ memT w Z true (.sl .own g wd rows) ∧ Keeps S S' (badAt q) ∧
      (∀ q2 g w rows, getC S' q2 = some (.tr (.sl .own g w rows)) → ∃ rows', getC S q2 = some (.tr (.sl .own g w rows')) ∧ rows'.length = rows.length) ∧ Own1 (fun x => x = q.root) S S' := by
  obtain ⟨S', h1, h2, h3, h4, h5, h6, h7, h8, h9, _⟩ := take_ok2 hG h hc
  exact ⟨S', h1, h2, h3, h4, h5, h6, h7, h8, h9⟩
/-- A whole reference says where its header lies. -/
def RefW (S : St Hd) (c : AV Hd) : Prop := ∀ q lo n g, c = .ref q lo n false g → ∀ g0 w rows, getC S q = some (.tr (.sl .own g0 w rows)) → lo = 0 → n = rows.length → g = g0
theorem RefW_of {S : St Hd} {c : AV Hd} (h : refOk S c) : RefW S c := by
  rintro q lo n g rfl g0 w rows hc h0 hn
  obtain ⟨g1, w1, rows1, e1, s1, s2, s3, s4, s5⟩ := h
  rw [hc] at e1
  simp at e1
  obtain ⟨rfl, rfl, rfl⟩ := e1
  exact s5.1 rfl h0 hn
theorem resolve_ok {Z : Zone} {a : Act} {w : World} : ∀ {cs : List (AV Hd)} {S : St Hd} {ts : List UT} {U : US}, Good Z S a w → resolve (erS S) (erL cs) = some (ts, U) → memL w Z cs → (ownAL cs).Nodup → (∀ b ∈ ownAL cs, b ∉ ownS S) → (∀ c ∈ cs, RefW S c) →
    ∃ (ts' : List (Tr Hd)) (S' : St Hd), erRow ts' = ts ∧ erS S' = U ∧ Good Z S' a w ∧ Less S S' ∧ (∀ t ∈ ts', memT w Z true t) ∧ (ownRow ts').Nodup ∧ (∀ b ∈ ownRow ts', (b ∈ ownAL cs ∨ b ∈ ownS S) ∧ b ∉ ownS S') ∧ (∀ vs, IsL cs vs → IsL (ts'.map .tr) vs) ∧ Own1 (fun x => x ∈ rootsL cs) S S'
  | [], S, ts, U, hG, h, _, _, _, _ => by
    simp only [erL, resolve, Option.some.injEq, Prod.mk.injEq] at h
    obtain ⟨rfl, rfl⟩ := h
    exact ⟨[], S, rfl, rfl, hG, .refl S, by simp, by simp [ownRow], by simp [ownRow], fun vs h => h, .refl _ S⟩
  | c :: r, S, ts, U, hG, h, hm, hnd, hdis, hrw => by
    have hm' := hm
    simp only [memL] at hm'
    have hnd' : (ownA c ++ ownAL r).Nodup := hnd
    simp only [erL, resolve] at h
    split at h
    · rename_i t0 ht0
      obtain ⟨t, rfl, rfl⟩ := erA_tr ht0
      cases hr : resolve (erS S) (erL r) with
      | none => simp [hr] at h
      | some x =>
        obtain ⟨cs2, U2⟩ := x
        simp [hr] at h
        obtain ⟨rfl, rfl⟩ := h
        obtain ⟨ts', S', k1, k2, k3, k4, k5, k6, k7, k8⟩ := resolve_ok hG hr hm'.2 (nodup_append_right hnd') (fun b hb => hdis b (by simp [ownAL, hb])) (fun c hc => hrw c (by simp [hc]))
        refine ⟨t :: ts', S', by simp [erRow, k1], k2, k3, k4, ?_, ?_, ?_, ?_, k8.2.mono fun x hx => by simp only [rootsL, List.mem_append]; exact .inr hx⟩
        · intro t' ht; simp only [List.mem_cons] at ht; rcases ht with rfl | ht; exact hm'.1; exact k5 t' ht
        · simp only [ownRow]
          refine List.nodup_append.2 ⟨nodup_append_left hnd', k6, fun x hx y hy hxy => ?_⟩
          subst hxy
          rcases (k7 x hy).1 with h1 | h1
          · exact nodup_apart hnd' (by simpa [ownA] using hx) h1
          · exact hdis x (by simp [ownAL, ownA, hx]) h1
        · intro b hb
          simp only [ownRow, List.mem_append] at hb
          rcases hb with hb | hb
          · exact ⟨.inl (by simp [ownAL, ownA, hb]), fun hc => hdis b (by simp [ownAL, ownA, hb]) (k4.own b hc)⟩
          · exact ⟨(k7 b hb).1.imp (fun h => by simp [ownAL, h]) id, (k7 b hb).2⟩
        · rintro vs ⟨v, us, rfl, h2, h3⟩
          exact ⟨v, us, rfl, h2, k8.1 us h3⟩
    · rename_i q lo n cp u hq
      obtain ⟨g, rfl⟩ := erA_ref hq
      rw [getC_er] at h
      cases hc : getC S q with
      | none => simp [hc] at h
      | some c0 =>
        simp only [hc, Option.map_some] at h
        split at h
        · rename_i g1 wd rows1 he
          simp only [Option.some.injEq] at he
          obtain ⟨t0, rfl, ht0⟩ := erA_tr he
          obtain ⟨g0, rows, rfl, rfl⟩ := erT_sl ht0
          split at h
          · rename_i hcond
            obtain ⟨rfl, hn, rfl⟩ := hcond
            rw [erRows_length] at hn
            cases ht : take (erS S) q with
            | none => simp [ht] at h
            | some U1 =>
              simp only [ht] at h
              obtain ⟨S1, e1, t1, t2, t3, t4, t5, t6, t7⟩ := take_ok hG ht hc
              subst e1
              cases hr : resolve (erS S1) (erL r) with
              | none => simp [hr] at h
              | some x =>
                obtain ⟨cs2, U2⟩ := x
                simp [hr] at h
                obtain ⟨rfl, rfl⟩ := h
                have hrw1 : ∀ c ∈ r, RefW S1 c := by
                  rintro c hcr q2 lo2 n2 g2 rfl g3 w3 rows3 hg3 hl0 hn2
                  obtain ⟨rows', m1, m2⟩ := t7.1 q2 g3 w3 rows3 hg3
                  exact hrw _ (by simp [hcr]) q2 lo2 n2 g2 rfl g3 w3 rows' m1 hl0 (hn2.trans m2.symm)
                obtain ⟨ts', S', k1, k2, k3, k4, k5, k6, k7, k8⟩ := resolve_ok t1 hr hm'.2 (nodup_append_right hnd') (fun b hb hc => hdis b (by simp [ownAL, hb]) (t2.own b hc)) hrw1
                have hgg : g = g0 := hrw _ (by simp) q 0 n g rfl g0 wd rows hc rfl hn
                refine ⟨.sl .own g0 wd rows :: ts', S', by simp [erRow, erT, k1], k2, k3, t2.trans k4, ?_, ?_, ?_, ?_, (t7.2.mono fun x hx => by simp [rootsL, rootsV, hx]).trans (k8.2.mono fun x hx => by simp only [rootsL, List.mem_append]; exact .inr hx)⟩
                · intro t' ht; simp only [List.mem_cons] at ht; rcases ht with rfl | ht; exact t5; exact k5 t' ht
                · simp only [ownRow]
                  refine List.nodup_append.2 ⟨t3, k6, fun x hx y hy hxy => ?_⟩
                  subst hxy
                  rcases (k7 x hy).1 with h1 | h1
                  · exact hdis x (by simp [ownAL, h1]) (t4 x hx).1
                  · exact (t4 x hx).2 h1
                · intro b hb
                  simp only [ownRow, List.mem_append] at hb
                  rcases hb with hb | hb
                  · exact ⟨.inr (t4 b hb).1, fun hc => (t4 b hb).2 (k4.own b hc)⟩
                  · refine ⟨?_, (k7 b hb).2⟩
                    rcases (k7 b hb).1 with h1 | h1
                    · exact .inl (by simp [ownAL, h1])
                    · exact .inr (t2.own b h1)
                · rintro vs ⟨v, us, rfl, h2, h3⟩
                  refine ⟨v, us, rfl, ?_, k8.1 us h3⟩
                  simp only [IsA] at h2
                  simp [IsA, IsT, h2, hgg, hn]
          · simp at h
        · simp at h
    · simp at h
end Go.HT
end
section
namespace Go.HT
open Go

/-- A world that only has more in it. -/
structure More (w w' : World) : Prop where
  os : w'.os = w.os
  tape : w'.tape = w.tape
  output : w'.output = w.output
  size : w.heap.size ≤ w'.heap.size
  block : ∀ b, b < w.heap.size → w'.heap[b]? = w.heap[b]?
theorem More.refl (w : World) : More w w := ⟨rfl, rfl, rfl, Nat.le_refl _, fun _ _ => rfl⟩
/-- Slots that an operation names, or whose cells it may reach. -/
def near (S : St Hd) (o : Oper) (x : Nat) : Prop := o.dst = some x ∨ ∃ s, Operand.tmp s ∈ o.op.operands ∧ (x = s ∨ ∃ e, look S s = some e ∧ x ∈ rootsE e)
/-- Blocks that an operation may touch: what its operands' slots own, and what the roots own that their values refer to. -/
def touched (S : St Hd) (o : Oper) (b : Nat) : Prop := ∃ x, near S o x ∧ b ∈ slotB S x
/-- The step that an operation takes lands where the interpreter says. -/
def Lands (P : Program) (Z : Zone) (S : St Hd) (a : Act) (w : World) (o : Oper) (U : US) : Prop :=
  ∃ S' v w', ((execOp a.eval o).run P w = .ok (.value v) w' ∨ ((execOp a.eval o).run P w = .ok .skip w' ∧ v = undef)) ∧ Good Z S' (a.put o.dst v) w' ∧ erS S' = U ∧ Fr S w S' w' ∧ (∀ b, b < w.heap.size → ¬ touched S o b → w'.heap[b]? = w.heap[b]?) ∧ Own1 (near S o) S S'
variable {P : Program} {Z : Zone} {S : St Hd} {a : Act} {w : World} {o : Oper}
theorem Fr.of_more {S S' : St Hd} {w w' : World} (hm : More w w') (h : Less S S') : Fr S w S' w' where
  os := hm.os
  tape := hm.tape
  output := hm.output
  size := hm.size
  block b hb _ := hm.block b hb
  own b hb := .inl (h.own b hb)
  vir := h.vir
  box d g cs A cells e hl hg hc := by
    have hlt : A.block < w.heap.size := (Array.getElem?_eq_some_iff.1 hc).1
    obtain ⟨cs', l1, l2⟩ := h.box d g cs hl
    exact ⟨⟨cells, by rw [hm.block _ hlt]; exact hc, rfl, fun _ _ => rfl⟩, .inl ⟨cs', l1, l2⟩⟩
theorem Good.more {w' : World} (h : Good Z S a w) (hm : More w w') : Good Z S a w' :=
  h.frame (fun b hb => hm.block b (hb.elim (fun h' => (h.zn b h').2) (h.zb b))) hm.size (fun _ _ _ => rfl)
/-- A value is laid into a slot. -/
theorem lands_put {S1 : St Hd} {w' : World} {v' : AV Hd} {val : Value} (hrun : (execOp a.eval o).run P w = .ok (.value val) w') (hG : Good Z S1 a w) (hl : Less S S1) (hO : Own1 (near S o) S S1) (hm : More w w')
    (hd : ∀ d, o.dst = some d → d < a.tmps.size) (h1 : IsA v' val) (h2 : memA w' Z v') (hnd : (ownA v').Nodup) (hz : ∀ b ∈ ownA v', ¬ Z.b b ∧ b < w'.heap.size)
    (hown : ∀ b ∈ ownA v', b ∈ ownS S ∨ w.heap.size ≤ b) (hdis : ∀ b ∈ ownA v', b ∉ ownS S1) (hr : refOk S1 v') : Lands P Z S a w o (putO (erS S1) o.dst (erA v')) := by
  cases hdst : o.dst with
  | none =>
    refine ⟨S1, val, w', .inl hrun, ?_, rfl, .of_more hm hl, fun b hb _ => hm.block b hb, hO⟩
    rw [hdst]
    exact hG.more hm
  | some d =>
    obtain ⟨g1, g2, g3⟩ := put_lands (Z := Z) (S := S) (a := a) (d := d) (e := .tmp v') (val := val) hG hl hm.block hm.os hm.tape hm.output hm.size
      ⟨by rw [put_tmp_eq a d val (hd d hdst)]; exact h1, h2⟩ hnd hz hown hdis hr
    exact ⟨_, val, w', .inl hrun, by rw [hdst]; exact g1, g2, g3, fun b hb _ => hm.block b hb, hO.trans ((own1_poi _ _ S1).trans (own1_put _ _ _ (.inl hdst)))⟩
/-- A value without anything of its own is laid into a slot. -/
theorem lands_plain {v' : AV Hd} {val : Value} (hrun : (execOp a.eval o).run P w = .ok (.value val) w) (hG : Good Z S a w)
    (hd : ∀ d, o.dst = some d → d < a.tmps.size) (h1 : IsA v' val) (h2 : memA w Z v') (hno : ownA v' = []) (hr : refOk S v') : Lands P Z S a w o (putO (erS S) o.dst (erA v')) :=
  lands_put hrun hG (.refl S) (.refl _ S) (.refl w) hd h1 h2 (by simp [hno]) (by simp [hno]) (by simp [hno]) (by simp [hno]) hr

/-! ### Borrowing -/
theorem asRef_own (q : Place) (v : AV Hd) : ownA (asRef q v) = [] := by
  unfold asRef
  split
  · simp [ownA]
  · simp [ownA, ownT]
  · simp [ownA, ownT]
  rename_i h1 h2 h3
  cases v with
  | tr t =>
    cases t with
    | sl κ g w rows => cases κ <;> first | rfl | exact absurd rfl (h1 _ _ _)
    | _ => rfl
  | agg cs => exact absurd rfl (h2 _)
  | tup cs => exact absurd rfl (h3 _)
  | _ => rfl
theorem asRef_is {q : Place} {v : AV Hd} {u : Value} (h : IsA v u) : IsA (asRef q v) u := by
  unfold asRef
  split
  · simpa [IsA, IsT] using h
  · trivial
  · trivial
  · exact h
theorem asRef_mem {q : Place} {v : AV Hd} (h : memA w Z v) : memA w Z (asRef q v) := by
  unfold asRef
  split
  · trivial
  · trivial
  · trivial
  · exact h
theorem subOk_self {al : Bool} {κ : Knd} {g : Hd} {wd : Nat} {rows : List (List (Tr Hd))} (h : memT w Z al (.sl κ g wd rows)) : subOk g wd rows.length 0 rows.length false g := by
  refine ⟨by omega, fun hn => ?_, ?_, by simp, fun _ _ _ => rfl, fun A hA => ⟨(h.1.2 _ hA).1, A, hA, rfl⟩, fun hg => (h.1.1 hg).2⟩
  · cases hg : g.a with
    | none => have := (h.1.1 hg).1; subst this; simp at hn
    | some A =>
      obtain ⟨b, o, sp⟩ := A
      have := (h.1.2 _ hg).1
      simp only at this
      subst this
      exact ⟨_, rfl, by simp⟩
  · cases hg : g.a with
    | none => have := (h.1.1 hg).1; subst this; simp
    | some A => exact (h.1.2 _ hg).2.1
theorem asRef_ok {q : Place} {v : AV Hd} (hq : getC S q = some v) (hm : memA w Z v) (h : refOk S v) : refOk S (asRef q v) := by
  unfold asRef
  split
  · exact ⟨_, _, _, hq, subOk_self hm⟩
  · trivial
  · trivial
  · exact h
theorem asRef_er (q : Place) (v : AV Hd) : erA (asRef q v) = asRef q (erA v) := by
  cases v with
  | tr t =>
    cases t with
    | sl κ g w rows => cases κ <;> simp [asRef, erA, erT, erRows_length]
    | _ => rfl
  | _ => rfl
theorem asRefs_er (r : Nat) (st : List (Nat × Nat)) : ∀ (cs : List (AV Hd)) (o : Nat), erL (asRefs r st o cs) = asRefs r st o (erL cs)
  | [], o => rfl
  | c :: cs, o => by simp [asRefs, erL, asRef_er, asRefs_er r st cs (o + 1)]
theorem bor_er (d : Nat) (v : AV Hd) : erA (bor d v) = bor d (erA v) := by
  cases v with
  | agg cs => simp [bor, erA, asRefs_er]
  | _ => simp only [bor, asRef_er] <;> simp only [erA]

theorem asRefs_get (r : Nat) (st : List (Nat × Nat)) : ∀ (cs : List (AV Hd)) (o i : Nat), (asRefs r st o cs)[i]? = (cs[i]?).map (asRef ⟨r, st, o + i⟩)
  | [], o, i => by simp [asRefs]
  | c :: cs, o, 0 => by simp [asRefs]
  | c :: cs, o, i + 1 => by simp [asRefs, asRefs_get r st cs (o + 1) i, show o + 1 + i = o + (i + 1) by omega]
theorem asRefs_mem {r : Nat} {st : List (Nat × Nat)} {cs : List (AV Hd)} {o : Nat} {x : AV Hd} (h : x ∈ asRefs r st o cs) : ∃ i c, cs[i]? = some c ∧ x = asRef ⟨r, st, o + i⟩ c := by
  obtain ⟨i, hi⟩ := List.getElem?_of_mem h
  rw [asRefs_get] at hi
  cases hc : cs[i]? with
  | none => simp [hc] at hi
  | some c => simp [hc] at hi; exact ⟨i, c, hc, hi.symm⟩
theorem asRefs_is (r : Nat) (st : List (Nat × Nat)) : ∀ {cs : List (AV Hd)} {us : List Value} (o : Nat), IsL cs us → IsL (asRefs r st o cs) us
  | [], _, o, h => h
  | c :: cs, _, o, ⟨v, us, h1, h2, h3⟩ => ⟨v, us, h1, asRef_is h2, asRefs_is r st (o + 1) h3⟩
theorem ownAL_nil {l : List (AV Hd)} (h : ∀ x ∈ l, ownA x = []) : ownAL l = [] := by
  induction l with
  | nil => rfl
  | cons x r ih => simp [ownAL, h x (by simp), ih fun y hy => h y (by simp [hy])]
theorem asRefs_own (r : Nat) (st : List (Nat × Nat)) (o : Nat) (cs : List (AV Hd)) : ownAL (asRefs r st o cs) = [] :=
  ownAL_nil fun x hx => by obtain ⟨i, c, _, rfl⟩ := asRefs_mem hx; exact asRef_own _ _
/-- The cells of a row, seen from their places. -/
theorem asRefs_ok {r : Nat} {st : List (Nat × Nat)} {cs row : List (AV Hd)} {o : Nat} (hrow : rowOf S r st = some row) (hsub : ∀ i c, cs[i]? = some c → row[o + i]? = some c) (hm : ∀ x ∈ cs, memA w Z x) (h : ∀ x ∈ cs, refOk S x) :
    refOkL S (asRefs r st o cs) ∧ memL w Z (asRefs r st o cs) := by
  refine ⟨refOkL_iff.2 fun x hx => ?_, memL_iff.2 fun x hx => ?_⟩
  · obtain ⟨i, c, hc, rfl⟩ := asRefs_mem hx
    exact asRef_ok (w := w) (Z := Z) (by simp only [getC, hrow]; exact hsub i c hc) (hm c (List.mem_of_getElem? hc)) (h c (List.mem_of_getElem? hc))
  · obtain ⟨i, c, hc, rfl⟩ := asRefs_mem hx
    exact asRef_mem (hm c (List.mem_of_getElem? hc))
theorem bor_own (d : Nat) (v : AV Hd) : ownA (bor d v) = [] := by
  cases v with
  | agg cs => simp [bor, ownA, asRefs_own]
  | _ => simp only [bor]; exact asRef_own _ _
theorem bor_ok (hG : Good Z S a w) {d : Nat} {v : AV Hd} {val : Value} (hl : ∃ e, look S d = some e ∧ (e = .tmp v ∨ ∃ g cs, e = .box g cs ∧ v = .ptr ⟨d, [], 0⟩ g)) (hi : IsA v val) (hm : memA w Z v) (hr : refOk S v) :
    IsA (bor d v) val ∧ memA w Z (bor d v) ∧ refOk S (bor d v) := by
  obtain ⟨e, hl, he⟩ := hl
  rcases he with rfl | ⟨g, cs, rfl, rfl⟩
  · cases v with
    | agg cs =>
      obtain ⟨vs, h1, h2⟩ := hi
      obtain ⟨k1, k2⟩ := asRefs_ok (w := w) (Z := Z) (S := S) (r := d) (st := []) (cs := cs) (row := cs) (o := 0) (by simp [rowOf, hl, Ent.cells, stepRow]) (fun i c h => by simpa using h) (memL_iff.1 hm) (refOkL_iff.1 hr)
      exact ⟨⟨vs, h1, asRefs_is _ _ _ h2⟩, k2, k1⟩
    | tr t =>
      refine ⟨asRef_is hi, asRef_mem hm, asRef_ok (w := w) (Z := Z) ?_ hm hr⟩
      simp [getC, rowOf, hl, Ent.cells, stepRow]
    | tup cs => exact ⟨trivial, trivial, trivial⟩
    | _ => exact ⟨hi, hm, hr⟩
  · exact ⟨hi, hm, hr⟩

/-! ### Types -/
theorem tyOk_spec {t : TypeId} (h : tyOk P t = true) : ∃ i z d, P.info? t = some i ∧ i.zero = some z ∧ P.underlying t = some d ∧ allZ z.cells.toList (zeroOf P t) = true ∧ i.size = szOf P t ∧ i.size = (zeroOf P t).length ∧ 0 < i.size ∧ (aggB P t = true ↔ ∃ cs, z = .agg cs) ∧
    (match d with | .struct _ => true | .array _ _ => true | _ => false) = aggB P t := by
  unfold tyOk at h
  split at h
  · rename_i i hi
    split at h
    · rename_i z hz
      simp only [Bool.and_eq_true, decide_eq_true_eq, beq_iff_eq] at h
      obtain ⟨⟨⟨⟨h1, h2⟩, h3⟩, h4⟩, h5⟩ := h
      obtain ⟨d, hd⟩ := Option.isSome_iff_exists.1 h4
      refine ⟨i, z, d, hi, hz, hd, h1, by simp [szOf, hi], h2, h3, ?_, ?_⟩
      · rw [h5]; cases z <;> simp
      · simp only [aggB, hd]
        cases d <;> rfl
    · simp at h
  · simp at h
theorem szOf_len {t : TypeId} (h : tyOk P t = true) : szOf P t = (zeroOf P t).length := by
  obtain ⟨i, z, d, h1, h2, h3, h4, h5, h6, _⟩ := tyOk_spec h
  omega
theorem run_sizeOf' {t : TypeId} (h : tyOk P t = true) (w : World) : (Go.sizeOf t).run P w = .ok (szOf P t) w := by
  obtain ⟨i, z, d, h1, h2, h3, h4, h5, h6, _⟩ := tyOk_spec h
  simp [Go.sizeOf, typeInfo, h1, h5]
theorem run_isAgg' {t : TypeId} (h : tyOk P t = true) (w : World) : (isAgg t).run P w = .ok (aggB P t) w := by
  obtain ⟨i, z, d, h1, h2, h3, h4, h5, h6, h7, h8, h9⟩ := tyOk_spec h
  simp only [isAgg, Sem.run_bind, run_underlying h3, Result.andThen_ok]
  rw [← h9]
  cases d <;> rfl
theorem zero_cells {t : TypeId} (h : tyOk P t = true) : ∃ z, (∀ w, (zeroValue t).run P w = .ok z w) ∧ allZ z.cells.toList (zeroOf P t) = true := by
  obtain ⟨i, z, d, h1, h2, h3, h4, h5, h6, _⟩ := tyOk_spec h
  exact ⟨z, fun w => by simp [zeroValue, typeInfo, h1, h2], h4⟩
theorem slOk_spec {t : TypeId} (h : slOk P t = true) : P.underlying t = some (.slice (elemOf P t)) ∧ tyOk P (elemOf P t) = true := by
  unfold slOk at h
  split at h
  · rename_i e he
    have : elemOf P t = e := by simp [elemOf, he]
    rw [this]
    exact ⟨he, h⟩
  · simp at h
theorem slOk_elem {t : TypeId} (h : slOk P t = true) : P.underlying t = some (.slice (P.elem t)) ∧ P.elem t = elemOf P t := by
  obtain ⟨h1, _⟩ := slOk_spec h
  have : P.elem t = elemOf P t := by simp [Program.elem, h1]
  rw [this]
  exact ⟨h1, rfl⟩
theorem strOk_spec {t : TypeId} (h : strOk P t = true) : P.underlying t = some .string := by
  unfold strOk at h
  split at h
  · assumption
  · simp at h
theorem boolOk_spec {t : TypeId} (h : boolOk P t = true) : P.underlying t = some .bool := by
  unfold boolOk at h
  split at h
  · assumption
  · simp at h

/-! ### The operations -/
section
variable (hG : Good Z S a w) (hd : ∀ d, o.dst = some d → d < a.tmps.size) {U : US} {p : Prop}
include hG hd
theorem xMove_ok {x : Operand} (hop : o.op = .move x) (h : xMove P (erS S) o x = some (p, ⟨U⟩)) : Lands P Z S a w o U := by
  have hrun : (execOp a.eval o).run P w = .ok (.value (a.eval x)) w := by simp [execOp, hop]
  unfold xMove at h
  cases hv : ev P (erS S) o.type x with
  | none => simp [hv] at h
  | some v =>
    simp only [hv] at h
    obtain ⟨v', h1, h2, h3, h4, h5, h6⟩ := ev_ok hG hv
    cases x with
    | tmp d =>
      simp only at h
      split at h
      · split at h
        · rename_i v2 S2 bad hu
          simp [ret1] at h
          obtain ⟨_, rfl⟩ := h
          obtain ⟨v3, S3, k1, k2, k3, k4, k5, k6, k7, k8, k9, k10, k11⟩ := evU_ok hG hu
          subst k1 k2
          exact lands_put hrun k3 k9 (k11.2.1.mono fun d hd => .inr ⟨d, by simp [hop, Op.operands, hd], .inl rfl⟩) (.refl w) hd k4 k5 k7 (fun b hb => hG.zn b (k8 b hb).1) (fun b hb => .inl (k8 b hb).1) (fun b hb => (k8 b hb).2) k6
        · simp at h
      · simp [ret1] at h
        obtain ⟨_, rfl⟩ := h
        rw [← h1, ← bor_er]
        obtain ⟨k1, k2, k3⟩ := bor_ok hG (h6 d rfl) h2 h3 h4
        exact lands_plain hrun hG hd k1 k2 (bor_own _ _) k3
    | const c =>
      simp [ret1] at h
      obtain ⟨_, rfl⟩ := h
      rw [← h1]
      exact lands_plain hrun hG hd h2 h3 (by simpa using h5) h4
    | func f =>
      simp [ret1] at h
      obtain ⟨_, rfl⟩ := h
      rw [← h1]
      exact lands_plain hrun hG hd h2 h3 (by simpa using h5) h4
    | global g => simp [ev] at hv
omit hG hd in
theorem evU_refEv {S : US} {t : TypeId} {x : Operand} {q : Place} {lo n : Nat} {cp : Bool} {u : Unit} {S1 : US} {bad : Place → Bool → Bool} (h : evU P S t x = some (.ref q lo n cp u, S1, bad)) : ev P S t x = some (.ref q lo n cp u) := by
  unfold evU at h
  split at h
  · rename_i v hv
    split at h
    · split at h
      · rename_i ho
        simp only [Option.some.injEq, Prod.mk.injEq] at h
        obtain ⟨h1, _⟩ := h
        cases v with
        | ref => simp [ownV] at ho
        | tr t => simp [poiA] at h1
        | agg t => simp [poiA] at h1
        | tup t => simp [poiA] at h1
        | ptr => simp [ownV] at ho
        | psh => simp [ownV] at ho
        | fn => simp [ownV] at ho
        | ifc => simp [ownV] at ho
      · simp only [Option.some.injEq, Prod.mk.injEq] at h; rw [hv, h.1]
    · simp only [Option.some.injEq, Prod.mk.injEq] at h; rw [hv, h.1]
  · simp at h
omit hG hd in
theorem put_self {a : Act} {d : Nat} {v : Value} (h : a.tmps.getD d undef = v) : a.put (some d) v = a := by
  have : a.tmps.setIfInBounds d v = a.tmps := by
    apply Array.ext_getElem?
    intro i
    rw [Array.getElem?_setIfInBounds]
    split
    · rename_i hi
      subst hi
      split
      · rename_i hlt
        rw [Array.getD_eq_getD_getElem?, Array.getElem?_eq_getElem hlt] at h
        rw [Array.getElem?_eq_getElem hlt]
        simpa using h.symm
      · rename_i hlt
        rw [Array.getElem?_eq_none (by omega)]
    · rfl
  simp [Act.put, this]
omit hG hd in
theorem self_ok (hG : Good Z S a w) {t : TypeId} {x : Operand} {v : UV} {S1 : US} {bad : Place → Bool → Bool} {d : Option Nat} (hu : evU P (erS S) t x = some (v, S1, bad)) (hs : selfB (erS S) d v = true) : a.put d (a.eval x) = a := by
  cases d with
  | none => simp [selfB] at hs
  | some d =>
    cases v with
    | ref q lo n cp u =>
      have hv := evU_refEv hu
      obtain ⟨v', h1, h2, h3, h4, h5, h6⟩ := ev_ok hG hv
      simp only [selfB, Bool.and_eq_true, decide_eq_true_eq] at hs
      obtain ⟨⟨e1, e2, e3, e4, e5⟩, hs⟩ := hs
      subst e1 e4 e5
      split at hs
      · rename_i g w2 rows hl
        have hn : n = rows.length := by simpa using hs
        rw [look_er] at hl
        cases hl2 : look S q.root with
        | none => simp [hl2] at hl
        | some e =>
          simp only [hl2, Option.map_some, Option.some.injEq] at hl
          have hent := hG.ent _ _ hl2
          cases e with
          | tmp v0 =>
            simp only [erE, Ent.tmp.injEq] at hl
            obtain ⟨t0, rfl, ht⟩ := erA_tr hl
            obtain ⟨g0, rows0, rfl, hr⟩ := erT_sl ht
            obtain ⟨g', rfl⟩ := erA_ref h1
            obtain ⟨g1, w1, rows1, r1, r2⟩ := h4
            have hq : q = ⟨q.root, [], 0⟩ := by cases q; simp_all
            rw [hq] at r1
            simp [getC, rowOf, hl2, Ent.cells, stepRow] at r1
            obtain ⟨rfl, rfl, rfl⟩ := r1
            have hlen : rows0.length = rows.length := by rw [← hr, erRows_length]
            have hg := r2.2.2.2.2.1 rfl rfl (by omega)
            subst hg
            refine put_self ?_
            have e1 := hent.1
            simp only [IsA, IsT] at e1 h2
            rw [e1, h2, hn, hlen]
          | box => simp [erE] at hl
          | vir => simp [erE] at hl
      · simp at hs
    | _ => simp [selfB] at hs
theorem xAssign_ok {x : Operand} (hop : o.op = .assign x) (h : xAssign P (erS S) o x = some (p, ⟨U⟩)) : Lands P Z S a w o U := by
  have hrun : (execOp a.eval o).run P w = .ok (.value (a.eval x)) w := by simp [execOp, hop]
  unfold xAssign at h
  split at h
  · rename_i v2 S2 bad hu
    split at h
    · rename_i hself
      simp only [Option.some.injEq, Prod.mk.injEq, W.mk.injEq] at h
      obtain ⟨_, rfl⟩ := h
      exact ⟨S, _, w, .inl hrun, by rw [self_ok hG hu hself]; exact hG, rfl, Fr.of_more (.refl w) (.refl S), fun _ _ _ => rfl, .refl _ S⟩
    simp [ret1] at h
    obtain ⟨_, rfl⟩ := h
    obtain ⟨v3, S3, k1, k2, k3, k4, k5, k6, k7, k8, k9, k10, k11⟩ := evU_ok hG hu
    subst k1 k2
    exact lands_put hrun k3 k9 (k11.2.1.mono fun d hd => .inr ⟨d, by simp [hop, Op.operands, hd], .inl rfl⟩) (.refl w) hd k4 k5 k7 (fun b hb => hG.zn b (k8 b hb).1) (fun b hb => .inl (k8 b hb).1) (fun b hb => (k8 b hb).2) k6
  · simp at h
theorem xPick_ok {c x y : Operand} (hop : o.op = .pick c x y) (h : xPick P (erS S) o c x y = some (p, ⟨U⟩)) : Lands P Z S a w o U := by
  unfold xPick at h
  split at h
  · rename_i cb hc
    obtain ⟨vc, c1, c2, _⟩ := ev_ok hG hc
    obtain ⟨t, rfl, ht⟩ := erA_tr c1
    have := erT_bool ht
    subst this
    simp only [IsA, IsT] at c2
    have hrun : (execOp a.eval o).run P w = .ok (.value (if cb then a.eval x else a.eval y)) w := by cases cb <;> simp [execOp, hop, c2, asBool]
    have fin : ∀ z, ((execOp a.eval o).run P w = .ok (.value (a.eval z)) w) → ∀ v, ev P (erS S) o.type z = some v → ownV v = false → Lands P Z S a w o (putO (erS S) o.dst v) := by
      intro z hz v hv hown
      obtain ⟨v', h1, h2, h3, h4, h5, h6⟩ := ev_ok hG hv
      rw [← h1]
      exact lands_plain hz hG hd h2 h3 (noOwn_of v' (by rw [h1]; exact hown)) h4
    cases cb with
    | true =>
      simp only at h
      split at h
      · rename_i v hv
        split at h
        · simp at h
        · rename_i hown
          simp [ret1] at h
          obtain ⟨_, rfl⟩ := h
          exact fin x (by simpa using hrun) v hv (by simpa using hown)
      · simp at h
    | false =>
      simp only at h
      split at h
      · rename_i v hv
        split at h
        · simp at h
        · rename_i hown
          simp [ret1] at h
          obtain ⟨_, rfl⟩ := h
          exact fin y (by simpa using hrun) v hv (by simpa using hown)
      · simp at h
  · simp at h
end

/-! ### New rows -/
theorem more_alloc (w : World) (x : Obj) : More w (w.alloc x) := ⟨rfl, rfl, rfl, by simp, fun b hb => heap_alloc_old w x b hb⟩
theorem IsL_toList_get {cs : List (AV Hd)} {us : List Value} (h : IsL cs us) {j : Nat} {c : AV Hd} (hc : cs[j]? = some c) : ∃ v, us[j]? = some v ∧ IsA c v := IsL_get h hc
theorem lands_box {S1 : St Hd} {cs : List (AV Hd)} {cells : Array Value} {e : TypeId} {d : Nat} (hrun : (execOp a.eval o).run P w = .ok (.value (.pointer (some ⟨w.heap.size, 0, none⟩))) (w.alloc (.cells cells e)))
    (hG : Good Z S1 a w) (hl : Less S S1) (hO : Own1 (near S o) S S1) (hdst : o.dst = some d) (hd : d < a.tmps.size) (hi : IsL cs cells.toList) (hm : memL w Z cs) (hnd : (ownAL cs).Nodup) (hown : ∀ b ∈ ownAL cs, b ∈ ownS S) (hz : ∀ b ∈ ownAL cs, ¬ Z.b b ∧ b < w.heap.size)
    (hdis : ∀ b ∈ ownAL cs, b ∉ ownS S1) (hr : refOkL S1 cs) : Lands P Z S a w o (putP (erS S1) d (.box () (erL cs))) := by
  have hnew : (w.alloc (.cells cells e)).heap[w.heap.size]? = some (.cells cells e) := heap_alloc_new w _
  have hmore := more_alloc w (.cells cells e)
  have hlen : cells.toList.length = cs.length := IsL_length hi
  have e1 : entOk (a.put (some d) (.pointer (some ⟨w.heap.size, 0, none⟩))) (w.alloc (.cells cells e)) Z d (.box ⟨some ⟨w.heap.size, 0, none⟩, 0⟩ cs) := by
    refine ⟨put_tmp_eq a d _ hd, ⟨w.heap.size, 0, none⟩, rfl, rfl, cells, e, hnew, by simp at hlen ⊢; omega, fun j c hj => ?_⟩
    obtain ⟨v, k1, k2⟩ := IsL_get hi hj
    refine ⟨⟨v, by simpa using k1, k2⟩, memA_frame c (fun b hb => hmore.block b ?_) (memL_iff.1 hm c (List.mem_of_getElem? hj))⟩
    rcases hb with hb | hb
    · exact (hz b (ownAL_get hj hb)).2
    · exact hG.zb b hb
  have e2 : (ownE (.box ⟨some ⟨w.heap.size, 0, none⟩, 0⟩ cs : Ent Hd)).Nodup := by
    simp only [ownE, blk]
    refine List.nodup_append.2 ⟨by simp, hnd, fun x hx y hy hxy => ?_⟩
    simp at hx
    subst hx hxy
    exact Nat.lt_irrefl _ (hz _ hy).2
  have e3 : ∀ b ∈ ownE (.box ⟨some ⟨w.heap.size, 0, none⟩, 0⟩ cs : Ent Hd), b = w.heap.size ∨ b ∈ ownAL cs := by
    intro b hb
    simpa only [ownE, blk, List.mem_append, List.mem_singleton] using hb
  obtain ⟨g1, g2, g3⟩ := put_lands (Z := Z) (S := S) (a := a) (d := d) (e := .box ⟨some ⟨w.heap.size, 0, none⟩, 0⟩ cs) (val := .pointer (some ⟨w.heap.size, 0, none⟩)) (w' := w.alloc (.cells cells e)) hG hl hmore.block rfl rfl rfl hmore.size
    e1 e2 (fun b hb => (e3 b hb).elim (by rintro rfl; exact ⟨fun hc => Nat.lt_irrefl _ (hG.zb _ hc), (Array.getElem?_eq_some_iff.1 hnew).1⟩) (fun hb => ⟨(hz b hb).1, Nat.lt_of_lt_of_le (hz b hb).2 hmore.size⟩))
    (fun b hb => (e3 b hb).elim (by rintro rfl; exact .inr (Nat.le_refl _)) (fun hb => .inl (hown b hb)))
    (fun b hb => (e3 b hb).elim (by rintro rfl; exact fun hc => Nat.lt_irrefl _ (hG.zn _ hc).2) (hdis b)) hr
  refine ⟨_, _, _, .inl hrun, ?_, g2, g3, fun b hb _ => hmore.block b hb, hO.trans ((own1_poi _ _ S1).trans (own1_put _ _ _ (.inl hdst)))⟩
  rw [hdst]; exact g1
theorem cells_of_IsA {v : AV Hd} {val : Value} (hi : IsA v val) (hst : storable (cellsOf (erA v)) = true) : ∃ cs, IsL cs val.cells.toList ∧ erL cs = cellsOf (erA v) ∧ (cs = [v] ∨ v = .agg cs) := by
  have one : val.cells.toList = [val] → cellsOf (erA v) = [erA v] → ∃ cs, IsL cs val.cells.toList ∧ erL cs = cellsOf (erA v) ∧ (cs = [v] ∨ v = .agg cs) := fun h1 h2 =>
    ⟨[v], ⟨val, [], h1, hi, rfl⟩, by rw [h2]; rfl, .inl rfl⟩
  cases v with
  | agg cs =>
    obtain ⟨vs, rfl, h2⟩ := hi
    exact ⟨cs, h2, rfl, .inr rfl⟩
  | tup cs => simp [erA, cellsOf, storable] at hst
  | tr t =>
    cases t with
    | undef => simp [erA, erT, cellsOf, storable] at hst
    | _ => refine one ?_ rfl; simp only [IsA, IsT] at hi; rw [hi]; rfl
  | ref => refine one ?_ rfl; simp only [IsA] at hi; rw [hi]; rfl
  | ptr => refine one ?_ rfl; simp only [IsA] at hi; rw [hi]; rfl
  | psh => refine one ?_ rfl; simp only [IsA] at hi; rw [hi]; rfl
  | fn => refine one ?_ rfl; obtain ⟨vs, h1, h2⟩ := hi; rw [h1]; rfl
  | ifc => refine one ?_ rfl; obtain ⟨vs, h1, h2⟩ := hi; rw [h1]; rfl
theorem cells_mem {v : AV Hd} {cs : List (AV Hd)} (h : cs = [v] ∨ v = .agg cs) : (memA w Z v → memL w Z cs) ∧ ownAL cs = ownA v ∧ (refOk S v → refOkL S cs) := by
  rcases h with rfl | rfl
  · simp [memL, ownAL, refOkL]
  · simp [memA, ownA, refOk]
section
variable (hG : Good Z S a w) (hd : ∀ d, o.dst = some d → d < a.tmps.size) {U : US} {p : Prop}
include hG hd
theorem xAlloc_ok {t : TypeId} (hop : o.op = .alloc t) (h : xAlloc P (erS S) o.dst t = some (p, ⟨U⟩)) (hp : p) : Lands P Z S a w o U := by
  unfold xAlloc at h
  split at h
  · rename_i d hdst
    simp only [Option.some.injEq, Prod.mk.injEq, W.mk.injEq] at h
    obtain ⟨rfl, rfl⟩ := h
    obtain ⟨z, hz, hall⟩ := zero_cells hp
    obtain ⟨m1, m2, m3, m4, m5, m6⟩ := allZ_ok hall w Z
    have hrun : (execOp a.eval o).run P w = .ok (.value (.pointer (some ⟨w.heap.size, 0, none⟩))) (w.alloc (.cells z.cells t)) := by
      simp [execOp, hop, Instr.alloc, hz, newVar, newRow]
    have := lands_box (S1 := S) (cs := (anRow (zeroOf P t)).map .tr) hrun hG (.refl S) (.refl _ S) hdst (hd d hdst) m1 (memL_tr m2) (by simp [m3]) (by simp [m3]) (by simp [m3]) (by simp [m3]) (refOkL_tr _)
    rw [← erRow_tr, m4] at this
    exact this
  · simp at h
theorem xBox_ok {t : TypeId} {x : Operand} (hop : o.op = .box t x) (h : xBox P (erS S) o.dst t x = some (p, ⟨U⟩)) : Lands P Z S a w o U := by
  unfold xBox at h
  split at h
  · rename_i d v S2 bad hdst hu
    split at h
    · rename_i hst
      simp at h
      obtain ⟨_, rfl⟩ := h
      obtain ⟨v3, S3, k1, k2, k3, k4, k5, k6, k7, k8, k9, k10, k11⟩ := evU_ok hG hu
      subst k1 k2
      obtain ⟨cs, c1, c2, c3⟩ := cells_of_IsA k4 hst
      rw [← c2]
      obtain ⟨q1, q2, q3⟩ := cells_mem (w := w) (Z := Z) (S := S3) c3
      have hrun : (execOp a.eval o).run P w = .ok (.value (.pointer (some ⟨w.heap.size, 0, none⟩))) (w.alloc (.cells (a.eval x).cells t)) := by
        simp [execOp, hop, Instr.box, newVar, newRow]
      exact lands_box hrun k3 k9 (k11.2.1.mono fun d hd => .inr ⟨d, by simp [hop, Op.operands, hd], .inl rfl⟩) hdst (hd d hdst) c1 (q1 k5) (by rw [q2]; exact k7) (fun b hb => (k8 b (by rwa [← q2])).1) (fun b hb => hG.zn b (k8 b (by rwa [← q2])).1) (fun b hb => (k8 b (by rwa [← q2])).2) (q3 k6)
    · simp at h
  · simp at h
end

/-! ### Loads -/
theorem step_refOk : ∀ {st : List (Nat × Nat)} {cs row : List (AV Hd)}, (st = [] → ∀ x ∈ cs, refOk S x) → stepRow cs st = some row → ∀ x ∈ row, refOk S x
  | [], cs, row, h, hs => by simp [stepRow] at hs; subst hs; exact h rfl
  | (o, i) :: r, cs, row, h, hs => by
    simp only [stepRow] at hs
    split at hs
    · split at hs
      · refine step_refOk (st := r) (fun _ x hx => ?_) hs
        simp at hx
        obtain ⟨t, ht, rfl⟩ := hx
        trivial
      · simp at hs
    · simp at hs
theorem Good.rowRefs (h : Good Z S a w) {r : Nat} {st : List (Nat × Nat)} {row : List (AV Hd)} (hr : rowOf S r st = some row) : ∀ x ∈ row, refOk S x := by
  simp only [rowOf] at hr
  cases hl : look S r with
  | none => simp [hl] at hr
  | some e =>
    simp only [hl] at hr
    refine step_refOk (fun _ x hx => ?_) hr
    have := h.refs _ _ hl
    cases e with
    | box g cs => exact refOkL_iff.1 this x hx
    | vir t => simp [Ent.cells] at hx; subst hx; trivial
    | tmp v =>
      cases v with
      | agg cs => exact refOkL_iff.1 this x hx
      | _ => simp [Ent.cells] at hx; subst hx; exact this
theorem spot_add (b o k : Nat) : (⟨b, o, none⟩ : Addr).add k = ⟨b, o + k, none⟩ := by unfold Addr.add; split <;> simp_all
theorem IsL_of_get : ∀ {cs : List (AV Hd)} {us : List Value}, us.length = cs.length → (∀ (i : Nat) (c : AV Hd) (u : Value), cs[i]? = some c → us[i]? = some u → IsA c u) → IsL cs us
  | [], us, h, _ => by simp at h; subst h; rfl
  | c :: cs, [], h, _ => by simp at h
  | c :: cs, u :: us, h, hh => ⟨u, us, rfl, hh 0 c u rfl rfl, IsL_of_get (by simpa using h) fun i c u h1 h2 => hh (i + 1) c u (by simpa using h1) (by simpa using h2)⟩
/-- Cells in memory, read off. -/
theorem cells_read {B off n : Nat} {cs : Array Value} {e : TypeId} {fr : Nat × Nat} {row : List (AV Hd)} (hb : w.heap[B]? = some (.cells cs e fr)) (hn : row.length = n) (h : ∀ (j : Nat) (c : AV Hd), row[j]? = some c → ∃ v, cs[off + j]? = some v ∧ IsA c v) :
    ∃ us : List Value, us.length = n ∧ IsL row us ∧ (loadCells ⟨B, off, none⟩ n).run P w = .ok us.toArray w ∧ ∀ j u, us[j]? = some u → cs[off + j]? = some u := by
  have hget : ∀ j, j < n → ∃ v, cs[off + j]? = some v := fun j hj => by
    obtain ⟨v, k, _⟩ := h j row[j] (by simp [hn, hj])
    exact ⟨v, k⟩
  let us := (List.range n).map fun j => cs.getD (off + j) undef
  have hus : ∀ j u, us[j]? = some u → cs[off + j]? = some u := by
    intro j u hu
    simp only [us, List.getElem?_map] at hu
    by_cases hj : j < n
    · obtain ⟨v, hv⟩ := hget j hj
      simp [hj, Array.getD_eq_getD_getElem?, hv] at hu
      rw [hv, hu]
    · simp [Nat.not_lt.1 hj] at hu
  have hlen : us.length = n := by simp [us]
  refine ⟨us, hlen, IsL_of_get (by rw [hlen, hn]) fun i c u h1 h2 => ?_, ?_, hus⟩
  · obtain ⟨v, k1, k2⟩ := h i c h1
    rw [hus i u h2] at k1
    simp at k1
    subst k1
    exact k2
  · have := run_loadCells_list (P := P) w ⟨B, off, none⟩ us fun j v hv => by
      rw [spot_add, cell_eq hb]
      exact hus j v hv
    rwa [hlen] at this
theorem psh_read {row : List (Tr Hd)} {k : Nat} {g : Hd} (hm : memA w Z (.psh row k g)) : ∃ B off, g.a = some ⟨B, off + k, none⟩ ∧ Z.b B ∧ (row ≠ [] → ∃ cs e fr, w.heap[B]? = some (.cells cs e fr) ∧ ∀ (j : Nat) (c : Tr Hd), row[j]? = some c → (∃ v, cs[off + j]? = some v ∧ IsT c v) ∧ memT w Z false c) := by
  obtain ⟨⟨B, off, sp⟩, h1, h2, h3⟩ := hm
  refine ⟨B, off, h1, h2, fun hne => ?_⟩
  cases row with
  | nil => exact absurd rfl hne
  | cons c0 r =>
    obtain ⟨⟨v, k1, _⟩, _⟩ := h3 0 c0 rfl
    simp only [World.cell?] at k1
    split at k1
    · rename_i cs e fr hb
      refine ⟨cs, e, fr, hb, fun j c hj => ?_⟩
      obtain ⟨⟨v, k1, k2⟩, k3⟩ := h3 j c hj
      rw [cell_eq hb] at k1
      exact ⟨⟨v, k1, k2⟩, k3⟩
    · simp at k1
theorem memT_false {t : Tr Hd} (h : memT w Z false t) : memT w Z true t ∧ ownT t = [] := by
  cases t with
  | sl κ g wd rows =>
    obtain ⟨h1, h2, h3⟩ := h
    have hk : κ ≠ .own := fun hk => by simpa using h2 hk
    refine ⟨⟨h1, fun _ => rfl, ?_⟩, ?_⟩
    · have : (true && decide (κ = .own)) = false := by simp [hk]
      rw [this]
      simpa using h3
    · cases κ <;> first | rfl | exact absurd rfl hk
  | _ => exact ⟨trivial, rfl⟩
section
variable (hG : Good Z S a w) (hd : ∀ d, o.dst = some d → d < a.tmps.size) {U : US} {p : Prop}
include hG hd
theorem xLoad_ok {t : TypeId} {x : Operand} (hop : o.op = .load t x) (h : xLoad P (erS S) o.dst t x = some (p, ⟨U⟩)) (hp : p) : Lands P Z S a w o U := by
  have hexec : execOp a.eval o = (do pure (.value (← Instr.loadAt t (a.eval x)))) := by simp [execOp, hop]
  unfold xLoad at h
  split at h
  · rename_i q u hv
    obtain ⟨v', h1, h2, h3, h4, _⟩ := ev_ok hG hv
    obtain ⟨g, rfl⟩ := erA_ptr h1
    obtain ⟨B, row, r1, r2⟩ := h4
    obtain ⟨cs, e, c1, c2⟩ := hG.row r1
    have hrow := rowAddrS_rowOf r1
    simp only [IsA, r2] at h2
    rw [rowOf_er, hrow] at h
    simp only [Option.map_some] at h
    split at h
    · rename_i hagg
      simp only [Option.some.injEq, Prod.mk.injEq, W.mk.injEq] at h
      obtain ⟨rfl, rfl⟩ := h
      obtain ⟨hty, hlen⟩ := hp
      rw [erL_length] at hlen
      obtain ⟨us, u1, u2, u3, u4⟩ := cells_read (P := P) (off := B.off + q.off) (row := (row.drop q.off).take (szOf P t)) (n := szOf P t) c1 (by simp; omega) (fun j c hj => by
        rw [List.getElem?_take] at hj
        split at hj
        · rw [List.getElem?_drop] at hj
          obtain ⟨⟨v, k1, k2⟩, _⟩ := c2 _ c hj
          exact ⟨v, by rw [← k1]; congr 1; omega, k2⟩
        · simp at hj)
      have hrun : (execOp a.eval o).run P w = .ok (.value (.agg us.toArray)) w := by
        simp only [hexec, Instr.loadAt, loadVar, h2, Instr.sureAddr, Sem.run_bind, Sem.run_pure, Result.andThen_ok, run_isAgg' hty, hagg, if_true, run_sizeOf' hty, u3]
      obtain ⟨k1, k2⟩ := asRefs_ok (w := w) (Z := Z) (S := S) (r := q.root) (st := q.st) (cs := (row.drop q.off).take (szOf P t)) (row := row) (o := q.off) hrow (fun i c hc => by
        rw [List.getElem?_take] at hc
        split at hc
        · rwa [List.getElem?_drop] at hc
        · simp at hc) (fun x hx => hG.rowMem hrow x (List.mem_of_mem_drop (List.mem_of_mem_take hx))) (fun x hx => hG.rowRefs hrow x (List.mem_of_mem_drop (List.mem_of_mem_take hx)))
      have := lands_plain (v' := .agg (asRefs q.root q.st q.off ((row.drop q.off).take (szOf P t)))) hrun hG hd ⟨us.toArray, rfl, asRefs_is _ _ _ u2⟩ k2 (by simp [ownA, asRefs_own]) k1
      simp only [erA, asRefs_er] at this
      rw [show erL ((row.drop q.off).take (szOf P t)) = ((erL row).drop q.off).take (szOf P t) by simp [erL_map]] at this
      exact this
    · rename_i hagg
      rw [erL_get] at h
      cases hc : row[q.off]? with
      | none => simp [hc] at h
      | some c =>
        simp only [hc, Option.map_some, retIf, Option.some.injEq, Prod.mk.injEq, W.mk.injEq] at h
        obtain ⟨rfl, rfl⟩ := h
        obtain ⟨⟨v, k1, k2⟩, k3⟩ := c2 _ _ hc
        have hcell : w.cell? ⟨B.block, B.off + q.off, none⟩ = some v := by rw [cell_eq c1]; exact k1
        have hrun : (execOp a.eval o).run P w = .ok (.value v) w := by
          simp only [hexec, Instr.loadAt, loadVar, h2, Instr.sureAddr, Sem.run_bind, Sem.run_pure, Result.andThen_ok, run_isAgg' hp, hagg, Bool.false_eq_true, if_false, run_load, hcell]
        rw [← asRef_er]
        exact lands_plain hrun hG hd (asRef_is k2) (asRef_mem k3) (asRef_own _ _) (asRef_ok (w := w) (Z := Z) (by simp only [getC, hrow]; exact hc) k3 (hG.rowRefs hrow c (List.mem_of_getElem? hc)))
  · rename_i row i u hv
    obtain ⟨v', h1, h2, h3, h4, _⟩ := ev_ok hG hv
    obtain ⟨row', g, rfl, rfl⟩ := erA_psh h1
    obtain ⟨B, off, b1, b2, b3⟩ := psh_read h3
    simp only [IsA, b1] at h2
    split at h
    · rename_i hagg
      simp only [Option.some.injEq, Prod.mk.injEq, W.mk.injEq] at h
      obtain ⟨rfl, rfl⟩ := h
      obtain ⟨hty, hlen⟩ := hp
      rw [erRow_length] at hlen
      have hpos : 0 < szOf P t := by obtain ⟨i, z, d, h1, h2, h3, h4, h5, h6, h7, _⟩ := tyOk_spec hty; omega
      obtain ⟨cs, e, fr, c1, c2⟩ := b3 (by rintro rfl; simp at hlen; omega)
      obtain ⟨us, u1, u2, u3, u4⟩ := cells_read (P := P) (off := off + i) (row := ((row'.drop i).take (szOf P t)).map .tr) (n := szOf P t) c1 (by simp; omega) (fun j c hj => by
        rw [List.getElem?_map, List.getElem?_take] at hj
        split at hj
        · rw [List.getElem?_drop] at hj
          cases hh : row'[i + j]? with
          | none => simp [hh] at hj
          | some c0 =>
            simp [hh] at hj; subst hj
            obtain ⟨⟨v, k1, k2⟩, _⟩ := c2 _ c0 hh
            exact ⟨v, by rw [← k1]; congr 1; omega, k2⟩
        · simp at hj)
      have hrun : (execOp a.eval o).run P w = .ok (.value (.agg us.toArray)) w := by
        simp only [hexec, Instr.loadAt, loadVar, h2, Instr.sureAddr, Sem.run_bind, Sem.run_pure, Result.andThen_ok, run_isAgg' hty, hagg, if_true, run_sizeOf' hty, u3]
      have hall : ∀ t1 ∈ (row'.drop i).take (szOf P t), memT w Z true t1 ∧ ownT t1 = [] := fun t1 ht => by
        obtain ⟨j, hj⟩ := List.getElem?_of_mem (List.mem_of_mem_drop (List.mem_of_mem_take ht))
        exact memT_false (c2 j t1 hj).2
      have := lands_plain (v' := .agg (((row'.drop i).take (szOf P t)).map .tr)) hrun hG hd ⟨us.toArray, rfl, u2⟩ (memL_tr fun t1 ht => (hall t1 ht).1) (ownAL_nil fun x hx => by
        obtain ⟨t1, ht, rfl⟩ := List.mem_map.1 hx; exact (hall t1 ht).2) (refOkL_tr _)
      simp only [erA, ← erRow_tr] at this
      rw [show erRow ((row'.drop i).take (szOf P t)) = ((erRow row').drop i).take (szOf P t) by simp [erRow_map]] at this
      exact this
    · rename_i hagg
      rw [erRow_get] at h
      cases hc : row'[i]? with
      | none => simp [hc] at h
      | some c =>
        simp only [hc, Option.map_some, retIf, Option.some.injEq, Prod.mk.injEq, W.mk.injEq] at h
        obtain ⟨rfl, rfl⟩ := h
        obtain ⟨cs, e, fr, c1, c2⟩ := b3 (by rintro rfl; simp at hc)
        obtain ⟨⟨v, k1, k2⟩, k3⟩ := c2 _ _ hc
        have hcell : w.cell? ⟨B, off + i, none⟩ = some v := by rw [cell_eq c1]; exact k1
        have hrun : (execOp a.eval o).run P w = .ok (.value v) w := by
          simp only [hexec, Instr.loadAt, loadVar, h2, Instr.sureAddr, Sem.run_bind, Sem.run_pure, Result.andThen_ok, run_isAgg' hp, hagg, Bool.false_eq_true, if_false, run_load, hcell]
        exact lands_plain (v' := .tr c) hrun hG hd k2 (memT_false k3).1 (memT_false k3).2 trivial
  · simp at h
end
end Go.HT
end
section
namespace Go.HT
open Go
variable {P : Program} {Z : Zone} {S : St Hd} {a : Act} {w : World} {o : Oper}

theorem beq_dec {α} [BEq α] [LawfulBEq α] [DecidableEq α] (x y : α) : (x == y) = decide (x = y) := by
  by_cases h : x = y
  · simp [h]
  · simp [h]
/-! ### Numbers and strings -/
theorem wrap_of_inR {k : IntKind} {n : Int} (h : inR k n) : k.wrap n = n := by
  obtain ⟨h1, h2⟩ := h
  cases k <;> simp [IntKind.min, IntKind.max, IntKind.wrap, IntKind.signed, IntKind.bits] at * <;> omega
theorem ev_int (hG : Good Z S a w) {t : TypeId} {x : Operand} {k : IntKind} {n : Int} (h : ev P (erS S) t x = some (.tr (.int k n))) : a.eval x = .int k n := by
  obtain ⟨v', h1, h2, _⟩ := ev_ok hG h
  obtain ⟨t', rfl, ht⟩ := erA_tr h1
  have := erT_int ht
  subst this
  exact h2
theorem ev_bool (hG : Good Z S a w) {t : TypeId} {x : Operand} {b : Bool} (h : ev P (erS S) t x = some (.tr (.bool b))) : a.eval x = .bool b := by
  obtain ⟨v', h1, h2, _⟩ := ev_ok hG h
  obtain ⟨t', rfl, ht⟩ := erA_tr h1
  have := erT_bool ht
  subst this
  exact h2
theorem ev_str (hG : Good Z S a w) {t : TypeId} {x : Operand} {s : List UInt8} (h : ev P (erS S) t x = some (.tr (.str s))) : a.eval x = .string ⟨⟨s⟩⟩ := by
  obtain ⟨v', h1, h2, _⟩ := ev_ok hG h
  obtain ⟨t', rfl, ht⟩ := erA_tr h1
  have := erT_str ht
  subst this
  exact h2
theorem run_binI {op : BinOp} {k : IntKind} {x y : Int} {p : Prop} {v : UT} {t : TypeId} (h : binI op k x y = some (p, v)) (hp : p) (w : World) : ∃ v' : Tr Hd, erT v' = v ∧ ownT v' = [] ∧ memT w Z true v' ∧ ∃ u, IsT v' u ∧ (binOp op t (.int k x) (.int k y)).run P w = .ok u w := by
  have big : ∀ (n : Int), inR k n → ∃ v' : Tr Hd, erT v' = .int k n ∧ ownT v' = [] ∧ memT w Z true v' ∧ IsT v' (.int k n) := fun n _ => ⟨.int k n, rfl, rfl, trivial, rfl⟩
  have boo : ∀ (b : Bool), ∃ v' : Tr Hd, erT v' = .bool b ∧ ownT v' = [] ∧ memT w Z true v' ∧ IsT v' (.bool b) := fun b => ⟨.bool b, rfl, rfl, trivial, rfl⟩
  cases op <;> simp only [binI, Option.some.injEq, Prod.mk.injEq, reduceCtorEq] at h
  all_goals (try (obtain ⟨rfl, rfl⟩ := h))
  case add => exact ⟨.int k (x + y), rfl, rfl, trivial, _, rfl, by simp [binOp, Op.intArith, wrap_of_inR hp]⟩
  case sub => exact ⟨.int k (x - y), rfl, rfl, trivial, _, rfl, by simp [binOp, Op.intArith, wrap_of_inR hp]⟩
  case mul => exact ⟨.int k (x * y), rfl, rfl, trivial, _, rfl, by simp [binOp, Op.intArith, wrap_of_inR hp]⟩
  case quo =>
    obtain ⟨h1, h2, h3⟩ := hp
    have hr : inR k (x / y) := by
      have a1 : 0 ≤ x / y := Int.ediv_nonneg h1 (by omega)
      have a2 : x / y ≤ x := Int.ediv_le_self y h1
      have a3 : k.min ≤ 0 := by cases k <;> decide
      exact ⟨by omega, by have := h3.2; omega⟩
    have hy : ¬ y = 0 := by omega
    refine ⟨.int k (x / y), rfl, rfl, trivial, _, rfl, ?_⟩
    simp only [binOp, Op.intDiv, hy, if_false, ne_eq, not_true_eq_false, Sem.run_pure, Int.tdiv_eq_ediv_of_nonneg h1, wrap_of_inR hr]
  case rem =>
    obtain ⟨h1, h2⟩ := hp
    have hy : ¬ y = 0 := by omega
    refine ⟨.int k (x % y), rfl, rfl, trivial, _, rfl, ?_⟩
    simp only [binOp, Op.intDiv, hy, if_false, ne_eq, not_true_eq_false, Sem.run_pure, Int.tmod_eq_emod_of_nonneg h1]
  case xor => exact ⟨.int k (xorI k x y), rfl, rfl, trivial, _, rfl, by simp [binOp, Op.intBits, xorI]⟩
  case eql => exact ⟨.bool (decide (x = y)), rfl, rfl, trivial, _, rfl, by simp [binOp, Op.intCmp, beq_dec]⟩
  case neq => exact ⟨.bool (!decide (x = y)), rfl, rfl, trivial, _, rfl, by simp [binOp, Op.intCmp, bne, beq_dec]⟩
  case lss => exact ⟨.bool (decide (x < y)), rfl, rfl, trivial, _, rfl, by simp [binOp, Op.intCmp]⟩
  case leq => exact ⟨.bool (decide (x ≤ y)), rfl, rfl, trivial, _, rfl, by simp [binOp, Op.intCmp]⟩
  case gtr => exact ⟨.bool (decide (y < x)), rfl, rfl, trivial, _, rfl, by simp [binOp, Op.intCmp]⟩
  case geq => exact ⟨.bool (decide (y ≤ x)), rfl, rfl, trivial, _, rfl, by simp [binOp, Op.intCmp]⟩
theorem run_binS {op : BinOp} {x y : List UInt8} {p : Prop} {v : UT} {t : TypeId} (h : binS op x y = some (p, v)) (hp : p) (w : World) : ∃ v' : Tr Hd, erT v' = v ∧ ownT v' = [] ∧ memT w Z true v' ∧ ∃ u, IsT v' u ∧ (binOp op t (.string ⟨⟨x⟩⟩) (.string ⟨⟨y⟩⟩)).run P w = .ok u w := by
  cases op <;> simp only [binS, Option.some.injEq, Prod.mk.injEq, reduceCtorEq] at h
  all_goals (try (obtain ⟨rfl, rfl⟩ := h))
  case add =>
    refine ⟨.str (x ++ y), rfl, rfl, trivial, _, rfl, ?_⟩
    have hs : (ByteArray.mk ⟨x⟩).size = x.length := rfl
    have hs2 : (ByteArray.mk ⟨y⟩).size = y.length := rfl
    have hm : IntKind.max .i64 = 9223372036854775807 := by decide
    have hn : ¬ (IntKind.max .i64 < (((ByteArray.mk ⟨x⟩).size + (ByteArray.mk ⟨y⟩).size : Nat) : Int)) := by rw [hs, hs2, hm]; omega
    have hap : (ByteArray.mk ⟨x⟩ ++ ByteArray.mk ⟨y⟩) = ByteArray.mk ⟨x ++ y⟩ := by apply ByteArray.ext; simp
    simp only [binOp, Op.stringOp, gt_iff_lt, hn, if_false, Sem.run_pure, hap]
  case eql => exact ⟨.bool (decide (x = y)), rfl, rfl, trivial, _, rfl, by simp [binOp, Op.stringOp, ByteArray.toList_eq, beq_dec]⟩
  case neq => exact ⟨.bool (!decide (x = y)), rfl, rfl, trivial, _, rfl, by simp [binOp, Op.stringOp, ByteArray.toList_eq, beq_dec]⟩
  case lss => exact ⟨.bool (strLt x y), rfl, rfl, trivial, _, rfl, by simp [binOp, Op.stringOp, ByteArray.toList_eq, strLt]⟩
  case leq => exact ⟨.bool (strLt x y || decide (x = y)), rfl, rfl, trivial, _, rfl, by simp [binOp, Op.stringOp, ByteArray.toList_eq, strLt, beq_dec]⟩
  case gtr => exact ⟨.bool (!(strLt x y || decide (x = y))), rfl, rfl, trivial, _, rfl, by simp [binOp, Op.stringOp, ByteArray.toList_eq, strLt, beq_dec]⟩
  case geq => exact ⟨.bool (!strLt x y), rfl, rfl, trivial, _, rfl, by simp [binOp, Op.stringOp, ByteArray.toList_eq, strLt]⟩

theorem run_equalIn_bool {t : TypeId} (h : P.underlying t = some .bool) (n : Nat) (x y : Bool) (w : World) : (Op.equalIn (n + 1) t (.bool x) (.bool y)).run P w = .ok (x == y) w := by
  simp only [Op.equalIn, Sem.run_bind, run_underlying h, Result.andThen_ok, Sem.run_pure]
theorem run_binOp_bool {t : TypeId} (h : P.underlying t = some .bool) (x y : Bool) (w : World) : (binOp .eql t (.bool x) (.bool y)).run P w = .ok (.bool (x == y)) w ∧ (binOp .neq t (.bool x) (.bool y)).run P w = .ok (.bool (!(x == y))) w := by
  have e : (Op.equal t (.bool x) (.bool y)).run P w = .ok (x == y) w := run_equalIn_bool h 9999 x y w
  constructor
  · show (do pure (Value.bool (← Op.equal t (.bool x) (.bool y))) : Sem Value).run P w = _
    simp only [Sem.run_bind, e, Result.andThen_ok, Sem.run_pure]
  · show (do pure (Value.bool (!(← Op.equal t (.bool x) (.bool y)))) : Sem Value).run P w = _
    simp only [Sem.run_bind, e, Result.andThen_ok, Sem.run_pure]
section
variable (hG : Good Z S a w) (hd : ∀ d, o.dst = some d → d < a.tmps.size) {U : US} {p : Prop}
include hG hd
theorem xNil_ok {x : Operand} (hop : o.op = .nilCheck x) (h : xNil P (erS S) o.dst x = some (p, ⟨U⟩)) : Lands P Z S a w o U := by
  unfold xNil at h
  split at h
  · rename_i q u hv
    obtain ⟨v', h1, h2, h3, h4, _⟩ := ev_ok hG hv
    obtain ⟨g, rfl⟩ := erA_ptr h1
    have h4' := h4
    obtain ⟨B, row, r1, r2⟩ := h4'
    simp only [ret1, Option.some.injEq, Prod.mk.injEq, W.mk.injEq] at h
    obtain ⟨_, rfl⟩ := h
    have h2' := h2
    simp only [IsA, r2] at h2'
    exact lands_plain (v' := .ptr q g) (by simp [execOp, hop, h2']) hG hd (h2' ▸ h2) h3 rfl h4
  · rename_i row i u hv
    obtain ⟨v', h1, h2, h3, h4, _⟩ := ev_ok hG hv
    obtain ⟨row', g, rfl, rfl⟩ := erA_psh h1
    obtain ⟨B, off, b1, b2, b3⟩ := psh_read h3
    simp only [ret1, Option.some.injEq, Prod.mk.injEq, W.mk.injEq] at h
    obtain ⟨_, rfl⟩ := h
    have h2' := h2
    simp only [IsA, b1] at h2'
    exact lands_plain (v' := .psh row' i g) (by simp [execOp, hop, h2']) hG hd (h2' ▸ h2) h3 rfl h4
  · simp at h
theorem xBin_ok {op : BinOp} {t b : TypeId} {x y : Operand} (hop : o.op = .binOp op t x y b) (h : xBin P (erS S) o.dst op t x y = some (p, ⟨U⟩)) (hp : p) : Lands P Z S a w o U := by
  unfold xBin at h
  split at h
  · rename_i va vb ha hb
    split at h
    · rename_i p0 v hbin
      simp only [retIf, Option.some.injEq, Prod.mk.injEq, W.mk.injEq] at h
      obtain ⟨rfl, rfl⟩ := h
      have fin : ∀ (t' : Tr Hd) (u : Value), erT t' = v → ownT t' = [] → memT w Z true t' → IsT t' u → (binOp op t (a.eval x) (a.eval y)).run P w = .ok u w → (eqGuard op t x y (a.eval x) (a.eval y)).run P w = .ok () w → Lands P Z S a w o (putO (erS S) o.dst (.tr v)) := by
        intro t' u e1 e2 e3 e4 e5 e6
        subst e1
        refine lands_plain (v' := .tr t') (val := u) ?_ hG hd e4 e3 e2 trivial
        simp [execOp, hop, e5, e6]
      unfold bin at hbin
      split at hbin
      · rename_i k n k' m
        have e1 := ev_int hG ha
        have e2 := ev_int hG hb
        split at hbin
        · rename_i p1 v1 hI
          simp only [Option.some.injEq, Prod.mk.injEq] at hbin
          obtain ⟨rfl, rfl⟩ := hbin
          obtain ⟨rfl, hp⟩ := hp
          obtain ⟨t', k1, k2, k3, u, k4, k5⟩ := run_binI (Z := Z) (t := t) (P := P) hI hp w
          exact fin t' u k1 k2 k3 k4 (by rw [e1, e2]; exact k5) (by rw [e1, e2]; cases op <;> simp [eqGuard])
        · simp at hbin
      · have e1 := ev_str hG ha
        have e2 := ev_str hG hb
        obtain ⟨t', k1, k2, k3, u, k4, k5⟩ := run_binS (Z := Z) (t := t) (P := P) hbin hp w
        exact fin t' u k1 k2 k3 k4 (by rw [e1, e2]; exact k5) (by rw [e1, e2]; cases op <;> simp [eqGuard])
      · rename_i b1 b2
        have e1 := ev_bool hG ha
        have e2 := ev_bool hG hb
        split at hbin
        · simp only [Option.some.injEq, Prod.mk.injEq] at hbin
          obtain ⟨rfl, rfl⟩ := hbin
          exact fin (.bool (b1 == b2)) _ rfl rfl trivial rfl (by rw [e1, e2]; exact (run_binOp_bool (boolOk_spec hp) b1 b2 w).1) (by rw [e1, e2]; simp [eqGuard])
        · simp only [Option.some.injEq, Prod.mk.injEq] at hbin
          obtain ⟨rfl, rfl⟩ := hbin
          exact fin (.bool (!(b1 == b2))) _ rfl rfl trivial rfl (by rw [e1, e2]; exact (run_binOp_bool (boolOk_spec hp) b1 b2 w).2) (by rw [e1, e2]; simp [eqGuard])
        · simp at hbin
      · simp at hbin
    · simp at h
  · simp at h
theorem xUn_ok {op : UnOp} {t : TypeId} {x : Operand} (hop : o.op = .unOp op t x) (h : xUn P (erS S) o.dst op x = some (p, ⟨U⟩)) (hp : p) : Lands P Z S a w o U := by
  unfold xUn at h
  split at h
  · split at h
    · rename_i b hv
      simp only [ret1, Option.some.injEq, Prod.mk.injEq, W.mk.injEq] at h
      obtain ⟨_, rfl⟩ := h
      have e1 := ev_bool hG hv
      exact lands_plain (v' := .tr (.bool !b)) (val := .bool !b) (by simp [execOp, hop, e1, Op.unary]) hG hd rfl trivial rfl trivial
    · simp at h
  · split at h
    · rename_i k n hv
      simp only [retIf, Option.some.injEq, Prod.mk.injEq, W.mk.injEq] at h
      obtain ⟨rfl, rfl⟩ := h
      have e1 := ev_int hG hv
      have : k.wrap (0 - n) = -n := by rw [show (0 - n : Int) = -n by omega]; exact wrap_of_inR hp
      exact lands_plain (v' := .tr (.int k (-n))) (val := .int k (-n)) (by simp only [execOp, hop, e1, Op.unary, Op.intArith, this]; rfl) hG hd rfl trivial rfl trivial
    · simp at h
  · simp at h
omit hG hd in
theorem fieldOf_spec {t : TypeId} {f k ft : Nat} (h : fieldOf P t f = some (k, ft)) : ∃ fs fd, P.underlying t = some (.struct fs) ∧ fs[f]? = some fd ∧ fd.offset = k ∧ fd.type = ft := by
  unfold fieldOf at h
  split at h
  · rename_i fs hf
    cases hh : fs[f]? with
    | none => simp [hh] at h
    | some fd => simp [hh] at h; exact ⟨fs, fd, hf, hh, h.1, h.2⟩
  · simp at h
omit hG hd in
theorem tyOk_pos {t : TypeId} (h : tyOk P t = true) : 0 < szOf P t := by
  obtain ⟨i, z, d, h1, h2, h3, h4, h5, h6, h7, _⟩ := tyOk_spec h; omega
omit hG hd in
theorem run_fieldAt' {t : TypeId} {f k ft : Nat} (h : fieldOf P t f = some (k, ft)) (hft : tyOk P ft = true) (b off : Nat) (w : World) :
    (Instr.fieldAt t (.pointer (some ⟨b, off, none⟩)) f).run P w = .ok (.pointer (some ⟨b, off + k, none⟩)) w := by
  unfold fieldOf at h
  split at h
  · rename_i fs hf
    cases hh : fs[f]? with
    | none => simp [hh] at h
    | some fd =>
      simp [hh] at h
      obtain ⟨rfl, rfl⟩ := h
      have hz : ¬ szOf P fd.type = 0 := by have := tyOk_pos hft; omega
      simp [Instr.fieldAt, run_underlying hf, hh, Instr.sureAddr, fieldPlace, run_sizeOf' hft, hz, spot_add]
  · simp at h
theorem xField_ok {t : TypeId} {x : Operand} {f : Nat} (hop : o.op = .fieldAddr t x f) (h : xField P (erS S) o.dst t x f = some (p, ⟨U⟩)) (hp : p) : Lands P Z S a w o U := by
  unfold xField at h
  split at h
  · rename_i v k ft hv hf
    obtain ⟨v', h1, h2, h3, h4, _⟩ := ev_ok hG hv
    split at h
    · obtain ⟨g, rfl⟩ := erA_ptr h1
      rename_i q u _
      simp only [retIf, Option.some.injEq, Prod.mk.injEq, W.mk.injEq] at h
      obtain ⟨rfl, rfl⟩ := h
      obtain ⟨B, row, r1, r2⟩ := h4
      simp only [IsA, r2] at h2
      refine lands_plain (v' := .ptr ⟨q.root, q.st, q.off + k⟩ ⟨some ⟨B.block, B.off + q.off + k, none⟩, 0⟩) (by simp only [execOp, hop, h2, Sem.run_bind, run_fieldAt' hf hp, Result.andThen_ok, Sem.run_pure]) hG hd rfl trivial rfl ⟨B, row, r1, ?_⟩
      simp [Nat.add_assoc]
    · obtain ⟨row', g, rfl, rfl⟩ := erA_psh h1
      rename_i i u _
      simp only [retIf, Option.some.injEq, Prod.mk.injEq, W.mk.injEq] at h
      obtain ⟨rfl, rfl⟩ := h
      obtain ⟨B, b1, b2, b3⟩ := h3
      simp only [IsA, b1] at h2
      exact lands_plain (v' := .psh row' (i + k) ⟨some ⟨B.block, B.off + i + k, none⟩, 0⟩) (by simp only [execOp, hop, h2, Sem.run_bind, run_fieldAt' hf hp, Result.andThen_ok, Sem.run_pure]) hG hd rfl ⟨B, by simp [Nat.add_assoc], b2, b3⟩ rfl trivial
    · simp at h
  · simp at h
end
end Go.HT
end
